/- What the law FnExactIsClearingWalk leans on, part 4: an interpreter of the model as plain data, its soundness, the functions as it tells them, and their laws. -/
import Derived.WalkKit
import Derived.LoopN
import Derived.Test.YtcdhlpfcjpnfoaaProg
import Derived.Shelf.RegionOpenPlain
import Derived.Deep.LoopGhost
import Derived.Deep.Draws
import Derived.Lib.Walk
import Derived.Sort.WalkB12
import Derived.Lib.SliceRun
import Derived.Lib.SlicesS
import Derived.Lib.SlicesCompact
import Derived.IntWalk
import Derived.Lib.Builder
import Derived.Test.YtcdhlpfcjpnfoaaVC
set_option linter.unusedVariables false
set_option linter.unusedSimpArgs false
set_option maxRecDepth 100000
set_option linter.unusedVariables false
set_option linter.unusedSimpArgs false
namespace Go.V.W
open Go.RowKit Go.Proofs
open Go.Sort (grow putRow mapBlock putCells onCells SWO PermIn SortedIn)
open Go.Lib
abbrev kSS : Kd := .slice (.slice (.int .i64))
theorem grow_at' {w : World} {os : Array Obj} {k : Nat} (h : k < w.heap.size) : (grow w os).heap[k]? = w.heap[k]? := by
  show (w.heap ++ os)[k]? = _
  exact Array.getElem?_append_left h
open Classical in
/-- Where a place goes. -/
noncomputable def goesTo {n : Nat} (d' : Array (Fin (n + 1))) (j : Nat) : Nat := if h : ∃ k, ∃ hk : k < d'.size, (d'[k]).val = j then h.choose else j
theorem goesTo_at {n : Nat} {d' : Array (Fin (n + 1))} (hinj : ∀ i j (hi : i < d'.size) (hj : j < d'.size), d'[i] = d'[j] → i = j) {k : Nat} (hk : k < d'.size) : goesTo d' (d'[k]).val = k := by
  have h : ∃ k', ∃ hk' : k' < d'.size, (d'[k']).val = (d'[k]).val := ⟨k, hk, rfl⟩
  unfold goesTo
  rw [dif_pos h]
  obtain ⟨h1, h2⟩ := h.choose_spec
  exact hinj _ _ h1 hk (Fin.ext h2)
noncomputable def sortLab {n : Nat} (d' : Array (Fin (n + 1))) : Nat × Path → Lab
  | (0, [.i j]) => .io 0 [.i (goesTo d' j)]
  | (i, q) => .io i q
theorem con_sortF {P : Program} {f g : FuncId} (he : ∀ (args : Array Value) (w : World), (callFunc f args).run P w = .ok (.enter f args) w)
    (hc : ∀ (w : World) (v1 v2 : Value) (xs ys : List Int), Hdr w v1 xs → Hdr w v2 ys → xs.length ≤ lim → ys.length ≤ lim → Calls P g #[v1, v2] w fun e w' => e = .returned (.int .i64 (cmpL xs ys)) ∧ w' = w)
    (h : ∀ (n : Nat) (enc : Fin (n + 1) → Value) (cf : Fin (n + 1) → Fin (n + 1) → Int) (blk off cap : Nat) (w : World), OneCell enc → SWO (ltOf cf) → CmpLays1 P g #[] enc cf blk off (idA n).size w → Go.Sort.Holds enc w blk off (idA n) → blk < w.heap.size → (idA n).size < 4611686018427387904 →
      Calls P f #[.slice (some ⟨blk, off, none⟩) (idA n).size cap, .func (.func g) #[] #[]] w fun e w' => e = .returned (.tuple #[]) ∧ ∃ d' m os, PermIn 0 (idA n).size (idA n) d' ∧ SortedIn (ltOf cf) 0 (idA n).size d' ∧ w' = sortWorld enc w blk off m d' os)
    (h0 : ∀ (p : Option Addr) (cap : Nat) (fv : Value) (w : World), Calls P f #[.slice p 0 cap, fv] w fun e w' => e = .returned (.tuple #[]) ∧ w' = w) :
    Contract P f ⟨[(kSS, true), (.clo g .unit .unit, false)], [], true, G_sortF⟩ := by
  intro w ψ U vs d out hargs hU hψ hgl ho
  obtain ⟨xss, fv, u⟩ := d
  have ho : G_sortF (xss, fv, u) = some out := ho
  unfold G_sortF at ho
  split at ho
  case isFalse => cases ho
  rename_i hl
  have hl : (okL xss && xss.all okL) = true := hl
  simp only [Bool.and_eq_true] at hl
  obtain ⟨hl, hal⟩ := hl
  have hl : xss.length ≤ lim := of_decide_eq_true hl
  have hal : ∀ x ∈ xss, x.length ≤ lim := fun x hx => of_decide_eq_true (List.all_eq_true.1 hal x hx)
  obtain rfl := Option.some.inj ho
  obtain ⟨c1, r1, rfl, k2, c2, r2, rfl, k3, k5⟩ := hargs
  have k5 : r2 = [] := k5
  subst k5
  have hfv : mkVal (.clo g .unit .unit) c2 = .func (.func g) #[] #[] := by
    obtain ⟨a1, a2, e, _⟩ := (show Rep w _ (.clo g .unit .unit) [] c2 fv from k3)
    rw [e]
    rfl
  rw [hfv]
  have k2 : Rep w (fun q b => ψ b = some (0, q)) kSS [] c1 xss := k2
  rw [Rep] at k2
  -- the world as it was
  have same : ∀ (v : Value), (∃ p cap, c1 = [.slice p 0 cap]) → xss = [] → CallsTo P f (mkVal kSS c1 :: [.func (.func g) #[] #[]]).toArray w fun v w' => ∃ χ, Post ⟨[(kSS, true), (.clo g .unit .unit, false)], [], true, G_sortF⟩ ψ U (mkVal kSS c1 :: [.func (.func g) #[] #[]]) w (sortS xss, ()) χ v w' := by
    rintro _ ⟨p, cap, rfl⟩ rfl
    unfold CallsTo
    rw [show (mkVal kSS [Value.slice p 0 cap] :: [Value.func (.func g) #[] #[]]).toArray = #[.slice p 0 cap, .func (.func g) #[] #[]] from rfl, he]
    refine Calls.mono (h0 p cap _ w) fun e w' hh => ?_
    obtain ⟨rfl, rfl⟩ := hh
    refine ⟨fun b => match ψ b with | some (i, q) => some (.io i q) | none => none, ⟨rfl, rfl, rfl, Nat.le_refl _, fun _ _ _ => rfl, fun b z hz => ?_, ⟨[], trivial, rfl⟩, ?_⟩⟩
    · cases hb : ψ b with
      | none => rw [hb] at hz; cases hz
      | some y => exact ⟨.inr (by simp), hψ b y hb⟩
    · refine ⟨fun _ => ⟨[.slice p 0 cap], rfl, rfl, ?_⟩, trivial⟩
      rw [RepL.of (show Kd.isBx kSS = false from rfl)]
      show Rep _ _ kSS [] [.slice p 0 cap] []
      rw [Rep]
      rcases k2 with ⟨⟨a, e⟩, _⟩ | ⟨b, off, cap', e, kc, kS, kb, ke⟩
      · exact .inl ⟨⟨a, e⟩, rfl⟩
      · refine .inr ⟨b, off, cap', e, kc, ?_, kb, fun i hi => absurd hi (by simp)⟩
        show (match ψ b with | some (i, q) => some (Lab.io i q) | none => none) = some (.io 0 [])
        rw [kS]
  rcases k2 with ⟨⟨a, e⟩, hz⟩ | ⟨b, off, cap, e, kc, kS, kb, ke⟩
  · exact same undef ⟨a, 0, e⟩ hz
  cases hn : xss.length with
  | zero =>
    have hz : xss = [] := List.length_eq_zero_iff.1 hn
    rw [hn] at e
    exact same undef ⟨_, cap, e⟩ hz
  | succ n =>
    clear same
    have kS : ψ b = some (0, []) := kS
    obtain ⟨cs, T, fr, hrow, hthaw⟩ := hψ b _ kS
    obtain ⟨cs2, T2, fr2, hrow2, hfit⟩ := kb
    rw [hrow] at hrow2
    injection hrow2 with hrow2
    injection hrow2 with e1 e2 e3
    subst e1 e2 e3
    simp only [Kd.size, Nat.mul_one] at hfit
    rw [hn] at kc
    -- the headers
    have hlt : ∀ j, j < n + 1 → off + j < cs.size := fun j hj => by omega
    have hel : ∀ j (hj : j < n + 1), Rep w (fun q b => ψ b = some (0, q)) (.slice (.int .i64)) [.i j] [cs[off + j]'(hlt j hj)] (xss.getD j []) := fun j hj => by
      have hj' : j < xss.length := by omega
      have := ke j hj'
      simp only [Kd.size, Nat.mul_one, List.nil_append] at this
      unfold cellsAt at this
      rw [hrow] at this
      have e : (cs.toList.drop (off + j)).take 1 = [cs[off + j]'(hlt j hj)] := by
        rw [List.drop_eq_getElem_cons (by simpa using hlt j hj), List.take_succ_cons, List.take_zero, Array.getElem_toList]
      simp only at this
      rw [e] at this
      have e2 : xss.getD j [] = xss.get ⟨j, hj'⟩ := by simp [List.getD_eq_getElem?_getD, hj']
      rw [e2]
      exact this
    have hb := (Array.getElem?_eq_some_iff.1 hrow).1
    let enc : Fin (n + 1) → Value := fun j => cs[off + j.val]'(hlt j.val j.isLt)
    have hOne : OneCell enc := fun j => by
      have := hel j.val j.isLt
      rw [Rep] at this
      rcases this with ⟨⟨a, e⟩, _⟩ | ⟨b', o', c', e, _⟩
      · rw [show enc j = .slice a 0 0 from (List.cons.inj e).1]; rfl
      · rw [show enc j = _ from (List.cons.inj e).1]; rfl
    have hneb : ∀ j b', ψ b' = some (0, [.i j]) → b' ≠ b := fun j b' h1 e => by
      subst e
      rw [kS] at h1
      cases h1
    have hother' : ∀ (m : Nat) (dk : Array (Fin (n + 1))) (os : Array Obj) (k : Nat), k < w.heap.size → k ≠ b → (sortWorld enc w b off m dk os).heap[k]? = w.heap[k]? := fun m dk os k hk hne => by
      unfold sortWorld
      have hsz : (putRow enc (Go.Sort.ahead w m) b off dk).heap.size = w.heap.size := by simp [putRow, mapBlock]
      rw [grow_at' (by rw [hsz]; exact hk), putRowV_else hne]
      rfl
    have hcmp : CmpLays1 P g #[] enc (fun x y => cmpL (xss.getD x.val []) (xss.getD y.val [])) b off (idA n).size w := fun m os dk hs x y => by
      have hh : ∀ z : Fin (n + 1), Hdr (sortWorld enc w b off m dk os) (enc z) (xss.getD z.val []) := fun z => hdr_of (hel z.val z.isLt) fun b' hb' => hother' m dk os b' (hψ b' _ hb').lt (hneb _ _ hb')
      have hln : ∀ z : Fin (n + 1), (xss.getD z.val []).length ≤ lim := fun z => by
        have hz : z.val < xss.length := by omega
        have : xss.getD z.val [] = xss[z.val] := by simp [List.getD_eq_getElem?_getD, hz]
        rw [this]
        exact hal _ (List.getElem_mem hz)
      refine Calls.mono (hc _ _ _ _ _ (hh x) (hh y) (hln x) (hln y)) fun e w' hw => ?_
      obtain ⟨rfl, rfl⟩ := hw
      refine ⟨rfl, 0, #[], ?_⟩
      rw [Go.Sort.grow_empty]
      rfl
    have hH : Go.Sort.Holds enc w b off (idA n) := fun j hj => by
      have hj' : j < n + 1 := by rw [idA_size] at hj; exact hj
      have e : (idA n)[j]! = ⟨j, hj'⟩ := by rw [getElem!_pos (idA n) j hj]; simp [idA]
      constructor
      · unfold World.cell?
        rw [hrow, e]
        simp [enc, hlt j hj']
      · unfold World.frozen?
        rw [hrow]
        obtain ⟨f1, f2⟩ := fr
        have := hlt j hj'
        simp only at hthaw
        simp
        omega
    have hcall := h n enc _ b off cap w hOne (swo_cmp fun z : Fin (n + 1) => xss.getD z.val []) hcmp hH hb (by rw [idA_size]; unfold lim at hl; omega)
    unfold CallsTo
    rw [e, hn, show (mkVal kSS [Value.slice (some ⟨b, off, none⟩) (n + 1) cap] :: [Value.func (.func g) #[] #[]]).toArray = #[.slice (some ⟨b, off, none⟩) (n + 1) cap, .func (.func g) #[] #[]] from rfl, he]
    rw [idA_size] at hcall
    refine Calls.mono hcall fun e w' hh => ?_
    obtain ⟨rfl, d', m, os, hperm, hsort, rfl⟩ := hh
    have hperm' : PermIn 0 (idA n).size (idA n) d' := by rw [idA_size]; exact hperm
    obtain ⟨hs, hp, hinj⟩ := place_inj hperm'
    have hdata := sorted_data xss hn hp hs (by rw [idA_size]; exact hsort)
    have hother := hother' m d' os
    have hnew : (sortWorld enc w b off m d' os).heap[b]? = some (.cells (putCells enc off d' cs) T fr) := by
      unfold sortWorld
      have hsz : (putRow enc (Go.Sort.ahead w m) b off d').heap.size = w.heap.size := by simp [putRow, mapBlock]
      rw [grow_at' (by rw [hsz]; exact hb)]
      exact putRowV_at (w := Go.Sort.ahead w m) hrow
    have hps : (putCells enc off d' cs).size = cs.size := by simp [putCells]
    have hlen : (sortS xss).length = n + 1 := by rw [sortS_len, hn]
    refine ⟨fun b => match ψ b with | some z => some (sortLab d' z) | none => none, ⟨rfl, rfl, rfl, ?_, fun k hk hn => ?_, fun k z hz => ?_, ⟨[], trivial, rfl⟩, ?_⟩⟩
    · show w.heap.size ≤ ((putRow enc (Go.Sort.ahead w m) b off d').heap ++ os).size
      have hsz : (putRow enc (Go.Sort.ahead w m) b off d').heap.size = w.heap.size := by simp [putRow, mapBlock]
      rw [Array.size_append, hsz]
      omega
    · exact hother k hk (fun e => by subst e; rw [kS] at hn; cases hn)
    · cases hk : ψ k with
      | none => rw [hk] at hz; cases hz
      | some y =>
        refine ⟨.inr (by simp), ?_⟩
        by_cases e : k = b
        · subst e
          exact ⟨_, T, fr, hnew, hthaw.imp (fun h => h) fun h => by rw [hps]; exact h⟩
        · exact (hψ k y hk).same (hother k (hψ k y hk).lt e)
    · refine ⟨fun _ => ⟨[.slice (some ⟨b, off, none⟩) (n + 1) cap], rfl, rfl, ?_⟩, trivial⟩
      rw [RepL.of (show Kd.isBx kSS = false from rfl)]
      show Rep _ _ kSS [] [.slice (some ⟨b, off, none⟩) (n + 1) cap] (sortS xss)
      rw [Rep]
      refine .inr ⟨b, off, cap, by rw [hlen], by rw [hlen]; exact kc, ?_, ⟨_, T, fr, hnew, ?_⟩, fun i hi => ?_⟩
      · show (match ψ b with | some z => some (sortLab d' z) | none => none) = some (.io 0 [])
        rw [kS]
        rfl
      · simp only [Kd.size, Nat.mul_one]
        rw [hps]
        exact hfit
      · have hi1 : i < n + 1 := by rw [← hlen]; exact hi
        have hi2 : i < d'.size := by omega
        have ecell : cellsAt (sortWorld enc w b off m d' os) b (off + i * (Kd.slice (.int .i64)).size) (Kd.slice (.int .i64)).size = [enc d'[i]] := by
          unfold cellsAt
          rw [hnew]
          simp only [Kd.size, Nat.mul_one]
          have hlt2 : off + i < (putCells enc off d' cs).toList.length := by rw [Array.length_toList, hps]; exact hlt i hi1
          rw [List.drop_eq_getElem_cons hlt2, List.take_succ_cons, List.take_zero]
          congr 1
          simp only [putCells, Array.getElem_toList, Array.getElem_mapIdx]
          rw [if_pos ⟨by omega, by omega⟩, show off + i - off = i by omega, getElem!_pos d' i hi2]
        have edata : (sortS xss).get ⟨i, hi⟩ = xss.getD (d'[i]).val [] := by
          have : (sortS xss)[i] = xss.getD (d'[i]).val [] := by
            simp only [hdata, List.getElem_map, Array.getElem_toList]
          exact this
        rw [ecell, edata]
        refine rep_move (hel (d'[i]).val (d'[i]).isLt) fun b' hb' => ⟨hother b' (hψ b' _ hb').lt (hneb _ _ hb'), ?_⟩
        show (match ψ b' with | some z => some (sortLab d' z) | none => none) = some (.io 0 ([] ++ [.i i]))
        have hb' : ψ b' = some (0, [.i (d'[i]).val]) := hb'
        rw [hb']
        show some (Lab.io 0 [.i (goesTo d' (d'[i]).val)]) = _
        rw [goesTo_at hinj hi2]
        rfl
end Go.V.W
set_option linter.unusedVariables false
set_option linter.unusedSimpArgs false
namespace Go.V.W
open Go.Proofs Go.RowKit
def cmp1 (x y : Int) : Int := if x < y then -1 else if y < x then 1 else 0
theorem cmp1_lt {x y : Int} (h : x < y) : cmp1 x y = -1 := if_pos h
theorem cmp1_gt {x y : Int} (h : ¬ x < y) (h2 : y < x) : cmp1 x y = 1 := by unfold cmp1; rw [if_neg h, if_pos h2]
theorem cmp1_eq {x y : Int} (h : ¬ x < y) (h2 : ¬ y < x) : cmp1 x y = 0 := by unfold cmp1; rw [if_neg h, if_neg h2]
set_option maxRecDepth 1000000 in
theorem cmp65 (x y : Int) (w : World) : Calls Try.prog 65 #[.int .i64 x, .int .i64 y] w fun e w' => e = .returned (.int .i64 (cmp1 x y)) ∧ w' = w := by
  go_enter Try.func65, Try.ntmps65
  go_wp2
  · have h : x < y := by assumption
    go_ret
    refine ⟨?_, rfl⟩
    rw [cmp1_lt h]
    rfl
  · have h2 : y < x := by assumption
    have h : ¬ x < y := by omega
    go_ret
    refine ⟨?_, rfl⟩
    rw [cmp1_gt h h2]
    rfl
  · have h3 : y ≤ x := by assumption
    have h4 : x ≤ y := by assumption
    have h : ¬ x < y := by omega
    have h2 : ¬ y < x := by omega
    go_ret
    refine ⟨?_, rfl⟩
    rw [cmp1_eq h h2]
    rfl
set_option maxRecDepth 1000000 in
set_option maxHeartbeats 4000000 in
theorem cmp44 (b1 o1 c1 b2 o2 c2 : Nat) (xs ys : List Int) (w : World) (hx : ∀ j (h : j < xs.length), w.cell? ⟨b1, o1 + j, none⟩ = some (.int .i64 xs[j])) (hy : ∀ j (h : j < ys.length), w.cell? ⟨b2, o2 + j, none⟩ = some (.int .i64 ys[j]))
    (hl1 : xs.length ≤ lim) (hl2 : ys.length ≤ lim) : Calls Try.prog 44 #[.slice (some ⟨b1, o1, none⟩) xs.length c1, .slice (some ⟨b2, o2, none⟩) ys.length c2] w fun e w' => e = .returned (.int .i64 (cmpL xs ys)) ∧ w' = w := by
  have hn1 : xs.length ≤ 1099511627776 := hl1
  have hn2 : ys.length ≤ 1099511627776 := hl2
  go_enter Try.func44, Try.ntmps44
  go_wp2
  go_loop [11] (fun i => ∃ k : Nat, k ≤ xs.length ∧ k ≤ ys.length ∧ i = .int .i64 k ∧ cmpL xs ys = cmpL (xs.drop k) (ys.drop k)) (fun i => match i with | .int _ m => xs.length - m.toNat | _ => 0)
  case atStart => exact ⟨0, Nat.zero_le _, Nat.zero_le _, rfl, rfl⟩
  case round =>
    obtain ⟨k, hk1, hk2, rfl, hrel⟩ := hrel
    by_cases hkx : k < xs.length
    · by_cases hky : k < ys.length
      · obtain ⟨x, hxe⟩ : ∃ x, x = xs[k] := ⟨_, rfl⟩
        obtain ⟨y, hye⟩ : ∃ y, y = ys[k] := ⟨_, rfl⟩
        have hcx : w.cell? ⟨b1, o1 + k, none⟩ = some (.int .i64 x) := by rw [hx k hkx, hxe]
        have hcy : w.cell? ⟨b2, o2 + k, none⟩ = some (.int .i64 y) := by rw [hy k hky, hye]
        have hdx : xs.drop k = x :: xs.drop (k + 1) := by rw [List.drop_eq_getElem_cons hkx, hxe]
        have hdy : ys.drop k = y :: ys.drop (k + 1) := by rw [List.drop_eq_getElem_cons hky, hye]
        have hstep : cmpL xs ys = if x < y then -1 else if y < x then 1 else cmpL (xs.drop (k + 1)) (ys.drop (k + 1)) := by rw [hrel, hdx, hdy]; rfl
        clear hx hy hxe hye hrel hdx hdy
        go_wp2_with (go_at_call 65; refine (cmp65 _ _ _).mono ?_; rintro e w' ⟨rfl, rfl⟩)
        · have hne : cmp1 x y ≠ 0 := by
            have h : (cmp1 x y != 0) = true := by assumption
            simpa using h
          have he : cmpL xs ys = cmp1 x y := by
            rw [hstep]
            unfold cmp1 at hne ⊢
            by_cases c1 : x < y
            · rw [if_pos c1, if_pos c1]
            · by_cases c2 : y < x
              · rw [if_neg c1, if_neg c1, if_pos c2, if_pos c2]
              · rw [if_neg c1, if_neg c2] at hne
                exact absurd rfl hne
          go_ret
          refine ⟨?_, rfl⟩
          rw [he]
          rfl
        · have hz : cmp1 x y = 0 := by
            have h : (cmp1 x y != 0) = false := by assumption
            simpa using h
          have he : cmpL xs ys = cmpL (xs.drop (k + 1)) (ys.drop (k + 1)) := by
            rw [hstep]
            unfold cmp1 at hz
            by_cases c1 : x < y
            · rw [if_pos c1] at hz; cases hz
            · by_cases c2 : y < x
              · rw [if_neg c1, if_pos c2] at hz; cases hz
              · rw [if_neg c1, if_neg c2]
          refine ⟨⟨k + 1, by omega, by omega, rfl, he⟩, ?_⟩
          show xs.length - ((k : Int) + 1).toNat < xs.length - (k : Int).toNat
          omega
      · have hdx : xs.drop k = xs[k] :: xs.drop (k + 1) := List.drop_eq_getElem_cons hkx
        have hdy : ys.drop k = [] := List.drop_of_length_le (by omega)
        have he : cmpL xs ys = 1 := by rw [hrel, hdx, hdy]; rfl
        have hcx : w.cell? ⟨b1, o1 + k, none⟩ = some (.int .i64 xs[k]) := hx k hkx
        clear hx hy hrel hdx hdy
        go_wp2
        go_ret
        refine ⟨?_, rfl⟩
        rfl
    · have hdx : xs.drop k = [] := List.drop_of_length_le (by omega)
      have he : cmpL xs ys = if xs.length < ys.length then -1 else 0 := by
        rw [hrel, hdx]
        by_cases h : k < ys.length
        · rw [List.drop_eq_getElem_cons h, if_pos (by omega)]
          rfl
        · rw [List.drop_of_length_le (by omega), if_neg (by omega)]
          rfl
      clear hx hy hrel hdx
      go_wp2
      · have h : xs.length < ys.length := by assumption
        go_ret
        refine ⟨?_, rfl⟩
        rfl
      · have h : ¬ xs.length < ys.length := by assumption
        go_ret
        refine ⟨?_, rfl⟩
        rfl
set_option maxRecDepth 1000000 in
set_option maxHeartbeats 4000000 in
theorem cmp44_nil1 (a1 a2 : Option Addr) (c1 m c2 : Nat) (w : World) (hm : m ≤ lim) : Calls Try.prog 44 #[.slice a1 0 c1, .slice a2 m c2] w fun e w' => e = .returned (.int .i64 (if 0 < m then -1 else 0)) ∧ w' = w := by
  have hn : m ≤ 1099511627776 := hm
  go_enter Try.func44, Try.ntmps44
  go_wp2
  go_loop [11] (fun i => i = .int .i64 0) (fun _ => 0)
  case atStart => rfl
  case round =>
    subst hrel
    go_wp2
    · have h : 0 < m := by assumption
      go_ret
      refine ⟨?_, rfl⟩
      first | rfl | (rw [if_pos h]; rfl)
    · go_ret
      refine ⟨?_, rfl⟩
      first | rfl | (rw [if_neg (by omega)]; rfl)
set_option maxRecDepth 1000000 in
set_option maxHeartbeats 4000000 in
theorem cmp44_nil2 (b1 o1 n c1 : Nat) (a2 : Option Addr) (c2 : Nat) (x : Int) (w : World) (h0 : 0 < n) (hn : n ≤ 1099511627776) (hx : w.cell? ⟨b1, o1, none⟩ = some (.int .i64 x)) : Calls Try.prog 44 #[.slice (some ⟨b1, o1, none⟩) n c1, .slice a2 0 c2] w fun e w' => e = .returned (.int .i64 1) ∧ w' = w := by
  go_enter Try.func44, Try.ntmps44
  go_wp2
  go_loop [11] (fun i => i = .int .i64 0) (fun _ => 0)
  case atStart => rfl
  case round =>
    subst hrel
    go_wp2
    all_goals (go_ret; exact ⟨rfl, rfl⟩)
theorem cmpL_nil (ys : List Int) : (if 0 < ys.length then (-1 : Int) else 0) = cmpL [] ys := by cases ys <;> rfl
theorem cmpH {w : World} {v1 v2 : Value} {xs ys : List Int} (h1 : Hdr w v1 xs) (h2 : Hdr w v2 ys) (l1 : xs.length ≤ lim) (l2 : ys.length ≤ lim) : Calls Try.prog 44 #[v1, v2] w fun e w' => e = .returned (.int .i64 (cmpL xs ys)) ∧ w' = w := by
  rcases h1 with ⟨a1, rfl, rfl⟩ | ⟨b1, o1, c1, rfl, hx⟩
  · rcases h2 with ⟨a2, rfl, rfl⟩ | ⟨b2, o2, c2, rfl, hy⟩
    · exact cmp44_nil1 a1 a2 0 0 0 w (Nat.zero_le _)
    · rw [← cmpL_nil]
      exact cmp44_nil1 a1 (some ⟨b2, o2, none⟩) 0 ys.length c2 w l2
  · rcases h2 with ⟨a2, rfl, rfl⟩ | ⟨b2, o2, c2, rfl, hy⟩
    · cases xs with
      | nil => exact cmp44_nil1 (some ⟨b1, o1, none⟩) a2 c1 0 0 w (Nat.zero_le _)
      | cons x xs =>
        have l1' : (x :: xs).length ≤ 1099511627776 := l1
        exact cmp44_nil2 b1 o1 (x :: xs).length c1 a2 0 x w (by simp) l1' (hx 0 (by simp))
    · exact cmp44 b1 o1 c1 b2 o2 c2 xs ys w hx hy l1 l2
end Go.V.W
set_option linter.unusedVariables false
set_option linter.unusedSimpArgs false
namespace Go.V.W
open Go.Proofs Go.RowKit Go.Shelf Go.Lib Go.Sort
set_option maxRecDepth 1000000 in
set_option maxHeartbeats 4000000 in
theorem eq49 (b1 o1 c1 b2 o2 c2 : Nat) (xs ys : List Int) (n : Nat) (w : World) (hx : ∀ j (h : j < xs.length), w.cell? ⟨b1, o1 + j, none⟩ = some (.int .i64 xs[j])) (hy : ∀ j (h : j < ys.length), w.cell? ⟨b2, o2 + j, none⟩ = some (.int .i64 ys[j]))
    (hn : n ≤ 1099511627776) (h1 : Aside (xs.length = n)) (h2 : Aside (ys.length = n)) : Calls Try.prog 49 #[.slice (some ⟨b1, o1, none⟩) n c1, .slice (some ⟨b2, o2, none⟩) n c2] w fun e w' => e = .returned (.bool (decide (xs = ys))) ∧ ∃ q, w' = w.drewN q := by
  have mixed : Try.prog.follows .mixedOrders = true := by kernel_rfl
  have HX : Aside _ := hx
  have HY : Aside _ := hy
  clear hx hy
  go_enter Try.func49, Try.ntmps49
  go_wp2
  go_loopg [13] n (fun g s13 wr => ∃ k q : Nat, k ≤ n ∧ n - k ≤ g ∧ s13 = .int .i64 k ∧ wr = w.drewN q ∧ Aside (decide (xs = ys) = decide (xs.drop k = ys.drop k)))
  case atStart => exact ⟨0, 0, Nat.zero_le _, by omega, rfl, rfl, rfl⟩
  case round =>
    obtain ⟨k, q, hk1, hg, rfl, rfl, hrel⟩ := hrel
    by_cases hkx : k < n
    · have hkx' : k < xs.length := by rw [h1.out]; exact hkx
      have hky' : k < ys.length := by rw [h2.out]; exact hkx
      obtain ⟨x, hxe⟩ : ∃ x, x = xs[k] := ⟨_, rfl⟩
      obtain ⟨y, hye⟩ : ∃ y, y = ys[k] := ⟨_, rfl⟩
      have hcx : w.cell? ⟨b1, o1 + k, none⟩ = some (.int .i64 x) := by rw [HX.out k hkx', hxe]
      have hcy : w.cell? ⟨b2, o2 + k, none⟩ = some (.int .i64 y) := by rw [HY.out k hky', hye]
      have hdx : xs.drop k = x :: xs.drop (k + 1) := by rw [List.drop_eq_getElem_cons hkx', hxe]
      have hdy : ys.drop k = y :: ys.drop (k + 1) := by rw [List.drop_eq_getElem_cons hky', hye]
      have hstep : Aside (decide (xs = ys) = (decide (x = y) && decide (xs.drop (k + 1) = ys.drop (k + 1)))) := by
        show _ = _
        rw [hrel.out, hdx, hdy]
        rw [Bool.eq_iff_iff]
        simp
      clear hkx' hky' hxe hye hrel hdx hdy
      by_cases hxy : x = y
      · subst hxy
        have he : Aside (decide (xs = ys) = decide (xs.drop (k + 1) = ys.drop (k + 1))) := by
          show _ = _
          rw [hstep.out]; simp
        clear hstep
        go_wp2_with fail
        go_region_o
        go_wp2
        go_roundg (n - (k + 1))
        case measure => omega
        case rel => exact ⟨k + 1, q + 1, by omega, Nat.le_refl _, by go_num, rfl, he⟩
      · have he : Aside (decide (xs = ys) = false) := by
          show _ = _
          rw [hstep.out]; simp [hxy]
        clear hstep
        go_wp2_with fail
        go_region_o
        go_wp2
        go_ret
        exact ⟨by rw [he.out]; rfl, q + 1, rfl⟩
    · have he : Aside (decide (xs = ys) = true) := by
        show _ = _
        rw [hrel.out, List.drop_of_length_le (by rw [h1.out]; omega), List.drop_of_length_le (by rw [h2.out]; omega)]
        simp
      clear hrel
      go_wp2
      go_ret
      exact ⟨by rw [he.out]; rfl, q, rfl⟩
set_option maxRecDepth 1000000 in
theorem eq49_len (a1 a2 : Option Addr) (m n c1 c2 : Nat) (w : World) (h : ¬ (m : Int) = n) (hm : m ≤ 1099511627776) (hn : n ≤ 1099511627776) : Calls Try.prog 49 #[.slice a1 m c1, .slice a2 n c2] w fun e w' => e = .returned (.bool false) ∧ ∃ q, w' = w.drewN q := by
  go_enter Try.func49, Try.ntmps49
  go_wp2
  go_ret
  exact ⟨rfl, 0, rfl⟩
set_option maxRecDepth 1000000 in
theorem eq49_zero (a1 a2 : Option Addr) (c1 c2 : Nat) (w : World) : Calls Try.prog 49 #[.slice a1 0 c1, .slice a2 0 c2] w fun e w' => e = .returned (.bool true) ∧ ∃ q, w' = w.drewN q := by
  go_enter Try.func49, Try.ntmps49
  go_wp2
  go_loopg [13] 0 (fun g s13 wr => s13 = .int .i64 0 ∧ wr = w)
  case atStart => exact ⟨rfl, rfl⟩
  case round =>
    obtain ⟨rfl, rfl⟩ := hrel
    go_wp2
    go_ret
    exact ⟨rfl, 0, rfl⟩
theorem eqH {w : World} {v1 v2 : Value} {xs ys : List Int} (h1 : Hdr w v1 xs) (h2 : Hdr w v2 ys) (l1 : xs.length ≤ lim) (l2 : ys.length ≤ lim) : Calls Try.prog 49 #[v1, v2] w fun e w' => e = .returned (.bool (decide (xs = ys))) ∧ ∃ q, w' = w.drewN q := by
  have l1' : xs.length ≤ 1099511627776 := l1
  have l2' : ys.length ≤ 1099511627776 := l2
  obtain ⟨a1, c1, e1⟩ : ∃ a c, v1 = .slice a xs.length c := by
    rcases h1 with ⟨a, rfl, rfl⟩ | ⟨b, off, cap, rfl, _⟩
    · exact ⟨a, 0, rfl⟩
    · exact ⟨_, cap, rfl⟩
  obtain ⟨a2, c2, e2⟩ : ∃ a c, v2 = .slice a ys.length c := by
    rcases h2 with ⟨a, rfl, rfl⟩ | ⟨b, off, cap, rfl, _⟩
    · exact ⟨a, 0, rfl⟩
    · exact ⟨_, cap, rfl⟩
  by_cases hne : xs.length = ys.length
  · by_cases h0 : xs.length = 0
    · have hx : xs = [] := List.length_eq_zero_iff.1 h0
      have hy : ys = [] := List.length_eq_zero_iff.1 (by omega)
      subst hx hy
      rw [e1, e2]
      exact eq49_zero a1 a2 c1 c2 w
    · rcases h1 with ⟨a, _, hx⟩ | ⟨b, off, cap, rfl, hx⟩
      · rw [hx] at h0; exact absurd rfl h0
      · rcases h2 with ⟨a, _, hy⟩ | ⟨b', off', cap', rfl, hy⟩
        · rw [hy] at hne; exact absurd hne h0
        · have := eq49 b off cap b' off' cap' xs ys xs.length w hx hy l1' rfl hne.symm
          rw [hne] at this ⊢
          exact this
  · rw [e1, e2]
    have : decide (xs = ys) = false := decide_eq_false fun e => hne (by rw [e])
    rw [this]
    exact eq49_len a1 a2 _ _ c1 c2 w (by omega) l1' l2'
end Go.V.W
set_option linter.unusedVariables false
set_option linter.unusedSimpArgs false
namespace Go.V.W
open Go.Proofs Go.RowKit Go.Shelf Go.Lib Go.Sort
/-- The places that stay, of the first m. -/
def kpB (key : Nat → List Int) (j : Nat) : Bool := j == 0 || !decide (key j = key (j - 1))
def keepI (key : Nat → List Int) (m : Nat) : List Nat := (List.range m).filter (kpB key)
theorem keepI_succ (key : Nat → List Int) (m : Nat) : keepI key (m + 1) = if kpB key m = true then keepI key m ++ [m] else keepI key m := by
  unfold keepI
  rw [List.range_succ, List.filter_append]
  cases h : kpB key m <;> simp [h]
theorem keepI_all {key : Nat → List Int} : ∀ {m : Nat}, (∀ j, j < m → kpB key j = true) → keepI key m = List.range m := by
  intro m h
  unfold keepI
  exact List.filter_eq_self.2 fun j hj => h j (List.mem_range.1 hj)
theorem keepI_le (key : Nat → List Int) (m : Nat) : (keepI key m).length ≤ m := by
  have := List.length_filter_le (kpB key) (List.range m)
  rw [List.length_range] at this
  exact this
structure CInv (key : Nat → List Int) (n m k : Nat) (dk : Array Nat) : Prop where
  size : dk.size = n
  len : (keepI key m).length = k
  lt : k < m
  low : ∀ j, j < k → (keepI key m)[j]? = some dk[j]!
  high : ∀ j, k ≤ j → j < n → dk[j]! = j
theorem range_get {n j : Nat} (h : j < n) : (Array.range n)[j]! = j := by
  rw [getElem!_pos (Array.range n) j (by simpa using h)]
  simp
theorem CInv.start {key : Nat → List Int} {n k0 : Nat} (hk : k0 < n) (hall : ∀ j, j < k0 → kpB key j = true) (hdup : kpB key k0 = false) : CInv key n (k0 + 1) k0 (Array.range n) := by
  have e : keepI key (k0 + 1) = List.range k0 := by rw [keepI_succ, hdup, keepI_all hall]; rfl
  refine ⟨by simp, by rw [e]; simp, Nat.lt_succ_self _, fun j hj => ?_, fun j _ hj => range_get hj⟩
  rw [e, range_get (by omega)]
  simp [hj]
theorem CInv.keep {key : Nat → List Int} {n m k : Nat} {dk : Array Nat} (h : CInv key n m k dk) (hm : m < n) (hk : kpB key m = true) : CInv key n (m + 1) (k + 1) (dk.setIfInBounds k m) := by
  have hs := h.size
  have hl := h.len
  have hlt := h.lt
  have hs2 : (dk.setIfInBounds k m).size = n := by simp [hs]
  have e : keepI key (m + 1) = keepI key m ++ [m] := by rw [keepI_succ, hk]; rfl
  refine ⟨by simp [hs], by rw [e]; simp [hl], by omega, fun j hj => ?_, fun j h1 h2 => ?_⟩
  · rw [e]
    by_cases hj2 : j < k
    · rw [List.getElem?_append_left (by omega), h.low j hj2]
      rw [getElem!_pos (dk.setIfInBounds k m) j (by omega), getElem!_pos dk j (by omega), Array.getElem_setIfInBounds (by omega), if_neg (by omega)]
    · have : j = k := by omega
      subst this
      rw [List.getElem?_append_right (by omega), hl, Nat.sub_self]
      rw [getElem!_pos (dk.setIfInBounds j m) j (by omega), Array.getElem_setIfInBounds (by omega), if_pos rfl]
      rfl
  · rw [getElem!_pos (dk.setIfInBounds k m) j (by omega), Array.getElem_setIfInBounds (by omega), if_neg (by omega), ← getElem!_pos dk j (by omega)]
    exact h.high j (by omega) h2
theorem CInv.skip {key : Nat → List Int} {n m k : Nat} {dk : Array Nat} (h : CInv key n m k dk) (hk : kpB key m = false) : CInv key n (m + 1) k dk := by
  have e : keepI key (m + 1) = keepI key m := by rw [keepI_succ, hk]; rfl
  have := h.lt
  exact ⟨h.size, by rw [e]; exact h.len, by omega, by rw [e]; exact h.low, h.high⟩
end Go.V.W
set_option linter.unusedVariables false
set_option linter.unusedSimpArgs false
namespace Go.V.W
open Go.Proofs Go.RowKit Go.Shelf Go.Lib Go.Sort
theorem CInv.done {key : Nat → List Int} {n k : Nat} {dk : Array Nat} (h : CInv key n n k dk) (z : Nat) : lay dk k (List.replicate (n - k) z) = (keepI key n ++ List.replicate (n - k) z).toArray := by
  have hk := h.lt
  have hs := h.size
  have hl := h.len
  apply Array.ext_getElem?
  intro i
  rw [lay_get? _ _ _ _ (by simp; omega)]
  simp only [List.length_replicate, List.getElem?_toArray]
  by_cases h1 : i < k
  · rw [if_neg (by omega), List.getElem?_append_left (by omega), h.low i h1, getElem!_pos dk i (by omega)]
    exact Array.getElem?_eq_getElem (by omega)
  · rw [List.getElem?_append_right (by omega), hl]
    by_cases h2 : i < n
    · rw [if_pos (by omega)]
    · rw [if_neg (by omega), Array.getElem?_eq_none (by omega), List.getElem?_eq_none (by simp; omega)]
theorem kp_one (key : Nat → List Int) : ∀ j, j < 1 → kpB key j = true := fun j hj => by
  have : j = 0 := by omega
  subst this
  rfl
set_option maxHeartbeats 8000000 in
set_option maxRecDepth 1000000 in
theorem compact74 (enc : Nat → Value) (key : Nat → List Int) (blk off cap n : Nat) (w : World) (henc : Aside (∀ i, ∃ a l c, enc i = .slice a l c)) (hz : Aside (enc n = .slice none 0 0))
    (hH : Go.Sort.Holds enc w blk off (Array.range n)) (hn : n ≤ 1099511627776) (hcap : n ≤ cap) (h2 : 2 ≤ n)
    (heq : Aside (∀ (q : Nat) (dk : Array Nat), dk.size = n → ∀ i j, i < n → j < n → Calls Try.prog 49 #[enc i, enc j] (putRow enc (Sort.ahead w q) blk off dk) fun e w' => e = .returned (.bool (decide (key i = key j))) ∧ ∃ q', w' = (putRow enc (Sort.ahead w q) blk off dk).drewN q')) :
    Calls Try.prog 74 #[.slice (some ⟨blk, off, none⟩) n cap, .func (.func 49) #[] #[]] w fun e w' => e = .returned (.slice (some ⟨blk, off, none⟩) (keepI key n).length cap) ∧ ∃ q, w' = putRow enc (Sort.ahead w q) blk off (keepI key n ++ List.replicate (n - (keepI key n).length) n).toArray := by
  have mixed : Try.prog.follows .mixedOrders = true := by kernel_rfl
  have hsr : (Array.range n).size = n := by simp
  have HH : Aside (Go.Sort.Holds enc w blk off (Array.range n)) := hH
  have e49 : ∀ (args : Array Value) (w : World), (callFunc 49 args).run Try.prog w = .ok (.enter 49 args) w := enters_of Try.func49 (by kernel_rfl) rfl
  clear hH
  go_enter Try.func74, Try.ntmps74
  go_wp2
  go_loopg [5] n (fun g s5 wr => ∃ k q : Nat, 1 ≤ k ∧ k ≤ n ∧ n - k ≤ g ∧ s5 = .int .i64 k ∧ wr = w.drewN q ∧ Aside (∀ j, j < k → kpB key j = true))
  case atStart => exact ⟨1, 0, Nat.le_refl _, by omega, by omega, rfl, rfl, kp_one key⟩
  case round =>
    obtain ⟨k, q, hk1, hk, hg, rfl, hwr, A⟩ := hrel
    have HW : Aside (wr = w.drewN q) := hwr
    clear hwr
    by_cases hlt : k < n
    · obtain ⟨a1, l1, c1, ek⟩ := henc.out k
      obtain ⟨a0, l0, c0, ek0⟩ := henc.out (k - 1)
      obtain ⟨kp, hkp⟩ : ∃ p, p + 1 = k := ⟨k - 1, by omega⟩
      obtain ⟨iN, hiN⟩ : ∃ p, p = k := ⟨_, rfl⟩
      obtain ⟨jN, hjN⟩ : ∃ p, p = k - 1 := ⟨_, rfl⟩
      have zk : (k : Int) = (kp : Int) + 1 := by omega
      have ea : ((kp : Int) + 1).toNat = iN := by omega
      have pa : (0 : Int) ≤ (kp : Int) + 1 := by omega
      have ba : (kp : Int) + 1 < (n : Int) := by omega
      have ra : IntKind.i64.wrap ((kp : Int) + 1) = (kp : Int) + 1 := by rw [IntKind.wrap_i64]; omega
      have ec : ((kp : Int)).toNat = jN := by omega
      have pc : (0 : Int) ≤ (kp : Int) := by omega
      have bc : (kp : Int) < (n : Int) := by omega
      have rc : IntKind.i64.wrap ((kp : Int)) = (kp : Int) := by rw [IntKind.wrap_i64]; omega
      have hc1 : wr.cell? ⟨blk, off + iN, none⟩ = some (.slice a1 l1 c1) := by
        have := (HH.out k (by rw [hsr]; exact hlt)).1
        rw [range_get hlt, ek] at this
        rw [hiN, HW.out]
        exact this
      have hc0 : wr.cell? ⟨blk, off + jN, none⟩ = some (.slice a0 l0 c0) := by
        have := (HH.out (k - 1) (by rw [hsr]; omega)).1
        rw [range_get (by omega), ek0] at this
        rw [hjN, HW.out]
        exact this
      have hcall : ∀ m, Calls Try.prog 49 #[.slice a1 l1 c1, .slice a0 l0 c0] (wr.drewN m) fun e w' => e = .returned (.bool (decide (key k = key (k - 1)))) ∧ ∃ q', w' = (wr.drewN m).drewN q' := fun m => by
        have := heq.out (q + m) (Array.range n) hsr k (k - 1) hlt (by omega)
        rw [putRow_self enc (Sort.ahead w (q + m)) blk off _ (holds_ahead enc w (q + m) blk off _ HH.out), ek, ek0] at this
        rw [HW.out, World.drewN_drewN]
        exact this
      by_cases hdup : key k = key (k - 1)
      · have hb : decide (key k = key (k - 1)) = true := decide_eq_true hdup
        rw [hb] at hcall
        have D : Aside (kpB key k = false) := by
          show _ = _
          unfold kpB
          have : (k == 0) = false := by simp; omega
          rw [this, hb]; rfl
        have IN : Aside (iN = k) := hiN
        clear hdup hb ek ek0 hiN hjN
        go_wp2_with fail
        go_quiet_o (first | (go_at_fn 49; refine Calls.quiet_of (hcall _)))
        clear hcall hc1 hc0
        go_wp2
        go_loopg [5, 7] n (fun g s5 s7 w2 => ∃ (kk k2 q2 : Nat) (dk : Array Nat), s5 = .int .i64 kk ∧ s7 = .int .i64 k2 ∧ 1 ≤ k2 ∧ k + k2 ≤ n ∧ n - (k + k2) ≤ g ∧ Aside (w2 = putRow enc (Sort.ahead w q2) blk off dk) ∧ Aside (CInv key n (k + k2) kk dk))
        case atStart =>
          refine ⟨k, 1, q + nq, Array.range n, by rw [zk], rfl, Nat.le_refl _, by omega, by omega, ?_, CInv.start hlt A.out D.out⟩
          show _ = _
          rw [HW.out, World.drewN_drewN]
          exact (putRow_self enc (Sort.ahead w (q + nq)) blk off _ (holds_ahead enc w (q + nq) blk off _ HH.out)).symm
        case round =>
          obtain ⟨kk, k2, q2, dk, rfl, rfl, h1, hle, hg2, W2, I2⟩ := hrel
          have hkk := I2.out.lt
          have hds := I2.out.size
          have HK : Aside (Go.Sort.Holds enc wr blk off dk) := by
            show Go.Sort.Holds _ _ _ _ _
            rw [W2.out]
            exact holds_putRow enc _ blk off _ dk (holds_ahead enc w q2 blk off _ HH.out) (by rw [hds, hsr])
          clear ea pa ba ra ec pc bc rc
          by_cases hlt2 : k + k2 < n
          · obtain ⟨a1, l1, c1, ek⟩ := henc.out (k + k2)
            obtain ⟨a0, l0, c0, ek0⟩ := henc.out (k + k2 - 1)
            obtain ⟨old, hold⟩ : ∃ v, v = enc dk[kk]! := ⟨_, rfl⟩
            obtain ⟨p2, hp2⟩ : ∃ p, p + 1 = k2 := ⟨k2 - 1, by omega⟩
            obtain ⟨iM, hiM⟩ : ∃ p, p = k2 := ⟨_, rfl⟩
            obtain ⟨jM, hjM⟩ : ∃ p, p = k2 - 1 := ⟨_, rfl⟩
            have zk2 : (k2 : Int) = (p2 : Int) + 1 := by omega
            have ea : ((p2 : Int) + 1).toNat = iM := by omega
            have pa : (0 : Int) ≤ (p2 : Int) + 1 := by omega
            have ra : IntKind.i64.wrap ((p2 : Int) + 1) = (p2 : Int) + 1 := by rw [IntKind.wrap_i64]; omega
            have ec : ((p2 : Int)).toNat = jM := by omega
            have pc : (0 : Int) ≤ (p2 : Int) := by omega
            have rc : IntKind.i64.wrap ((p2 : Int)) = (p2 : Int) := by rw [IntKind.wrap_i64]; omega
            have ba : (p2 : Int) + 1 < ((n - iN : Nat) : Int) := by have := IN.out; omega
            have bc : (p2 : Int) < ((n - iN : Nat) : Int) := by have := IN.out; omega
            have hc1 : wr.cell? ⟨blk, off + iN + iM, none⟩ = some (.slice a1 l1 c1) := by
              have := (HK.out (k + k2) (by omega)).1
              rw [I2.out.high (k + k2) (by omega) hlt2, ek] at this
              rw [hiM, IN.out, Nat.add_assoc]
              exact this
            have hc0 : wr.cell? ⟨blk, off + iN + jM, none⟩ = some (.slice a0 l0 c0) := by
              have := (HK.out (k + k2 - 1) (by omega)).1
              rw [I2.out.high (k + k2 - 1) (by omega) (by omega), ek0] at this
              rw [hjM, IN.out, show off + k + (k2 - 1) = off + (k + k2 - 1) by omega]
              exact this
            have hck : wr.cell? ⟨blk, off + kk, none⟩ = some old := by
              rw [hold]
              exact (HK.out kk (by omega)).1
            have hfk : wr.frozen? ⟨blk, off + kk, none⟩ = false := (HK.out kk (by omega)).2
            have hcall : ∀ m, Calls Try.prog 49 #[.slice a1 l1 c1, .slice a0 l0 c0] (wr.drewN m) fun e w' => e = .returned (.bool (decide (key (k + k2) = key (k + k2 - 1)))) ∧ ∃ q', w' = (wr.drewN m).drewN q' := fun m => by
              have := heq.out (q2 + m) dk hds (k + k2) (k + k2 - 1) hlt2 (by omega)
              have e : wr.drewN m = putRow enc (Sort.ahead w (q2 + m)) blk off dk := by rw [W2.out]; exact putRow_drewN _ _ _ _ _ _ _
              rw [ek, ek0, ← e] at this
              exact this
            have IM : Aside (iM = k2) := hiM
            have EK : Aside (enc (k + k2) = .slice a1 l1 c1) := ek
            by_cases hdup : key (k + k2) = key (k + k2 - 1)
            · have hb : decide (key (k + k2) = key (k + k2 - 1)) = true := decide_eq_true hdup
              rw [hb] at hcall
              have D2 : Aside (kpB key (k + k2) = false) := by
                show _ = _
                unfold kpB
                have : (k + k2 == 0) = false := by simp; omega
                rw [this, hb]; rfl
              clear hdup hb ek ek0 hiM hjM hold
              go_wp2_with fail
              go_quiet_o (first | (go_at_fn 49; refine Calls.quiet_of (hcall _)))
              clear hcall hc1 hc0
              go_wp2
              go_roundg (n - (k + (k2 + 1)))
              case measure => omega
              case rel => exact ⟨kk, k2 + 1, q2 + nq, dk, rfl, by congr 1; omega, by omega, by omega, Nat.le_refl _, (by show _ = _; rw [W2.out]; exact putRow_drewN _ _ _ _ _ _ _), I2.out.skip D2.out⟩
            · have hb : decide (key (k + k2) = key (k + k2 - 1)) = false := decide_eq_false hdup
              rw [hb] at hcall
              have D2 : Aside (kpB key (k + k2) = true) := by
                show _ = _
                unfold kpB
                rw [hb]; simp
              clear hdup hb ek ek0 hiM hjM hold
              go_wp2_with fail
              go_quiet_o (first | (go_at_fn 49; refine Calls.quiet_of (hcall _)))
              clear hcall
              go_wp2
              go_roundg (n - (k + (k2 + 1)))
              case measure => omega
              case rel =>
                refine ⟨kk + 1, k2 + 1, q2 + nq, dk.setIfInBounds kk (k + k2), by first | rfl | (congr 1; omega), by first | rfl | (congr 1; omega), by omega, by omega, Nat.le_refl _, ?_, I2.out.keep hlt2 D2.out⟩
                show _ = _
                rw [← putRow_set enc _ blk off dk kk (k + k2) (by omega), EK.out, ← putRow_drewN, ← W2.out]
          · have hend : k + k2 = n := by omega
            have hcl : ∀ ty, (Builtin.clear_ #[25] ty #[.slice (some ⟨blk, off + kk, none⟩) (n - kk) (cap - kk)]).run Try.prog wr = .ok (.tuple #[]) (wr.setCells blk (off + kk) (List.replicate (n - kk) (enc n))) := fun ty => by
              rw [hz.out]
              exact Lib.run_clear_slice wr 25 36 ty _ Try.underlying25 (fun w => by rfl) rfl rfl blk (off + kk) _ _ (by omega) (fun j hj => by rw [show off + kk + j = off + (kk + j) by omega, (HK.out (kk + j) (by omega)).1]; rfl) (fun j hj => by rw [show off + kk + j = off + (kk + j) by omega]; exact (HK.out (kk + j) (by omega)).2)
            have hge : ¬ k2 < n - iN := by have := IN.out; omega
            have hge2 : ¬ (k2 : Int) < ((n - iN : Nat) : Int) := by omega
            go_wp2
            go_ret
            have hI := I2.out
            rw [hend] at hI
            refine ⟨by rw [hI.len]; rfl, q2, ?_⟩
            rw [hI.len, ← hI.done n, ← putRow_setCells enc _ blk off _ dk kk (by simp; omega), ← W2.out, List.map_replicate]
      · have hb : decide (key k = key (k - 1)) = false := decide_eq_false hdup
        rw [hb] at hcall
        have D : Aside (kpB key k = true) := by
          show _ = _
          unfold kpB
          rw [hb]; simp
        clear hdup hb ek ek0 hiN hjN
        go_wp2_with fail
        go_quiet_o (first | (go_at_fn 49; refine Calls.quiet_of (hcall _)))
        clear hcall hc1 hc0
        go_wp2
        go_roundg (n - (k + 1))
        case measure => omega
        case rel =>
          refine ⟨k + 1, q + nq, by omega, by omega, Nat.le_refl _, by congr 1; omega, by rw [HW.out, World.drewN_drewN], fun j hj => ?_⟩
          by_cases e : j = k
          · subst e
            exact D.out
          · exact A.out j (by omega)
    · have : k = n := by omega
      subst this
      go_wp2
      go_ret
      have e := keepI_all A.out
      have el : (keepI key k).length = k := by rw [e]; simp
      refine ⟨by rw [el]; rfl, q, ?_⟩
      rw [el, e, Nat.sub_self, List.replicate_zero, List.append_nil, HW.out]
      have e2 : (List.range k).toArray = Array.range k := by simp
      rw [e2]
      exact (putRow_self enc (Sort.ahead w q) blk off _ (holds_ahead enc w q blk off _ HH.out)).symm
set_option maxRecDepth 1000000 in
theorem compact74_small (p : Option Addr) (n cap : Nat) (fv : Value) (w : World) (h : n < 2) : Calls Try.prog 74 #[.slice p n cap, fv] w fun e w' => e = .returned (.slice p n cap) ∧ w' = w := by
  have hn : (n : Int) < 2 := by omega
  go_enter Try.func74, Try.ntmps74
  go_wp2
  go_ret
  exact ⟨rfl, rfl⟩
end Go.V.W
set_option linter.unusedVariables false
set_option linter.unusedSimpArgs false
namespace Go.V.W
open Go.RowKit Go.Proofs Go.Lib
open Go.Sort (grow putRow mapBlock putCells onCells)
/-- Runs of equal lists, cut to one. -/
def keyL (xss : List (List Int)) (j : Nat) : List Int := xss.getD j []
def compL (xss : List (List Int)) : List (List Int) := (keepI (keyL xss) xss.length).map (keyL xss)
def G_compactF (d : List (List Int) × (Unit × Unit) × Unit) : Option (List (List Int) × List (List Int) × Unit) := if okLL d.1 = true then some (compL d.1, d.1, ()) else none
theorem compL_short {xss : List (List Int)} (h : xss.length < 2) : compL xss = xss := by
  match xss, h with
  | [], _ => rfl
  | [x], _ => rfl
theorem keepI_pair (key : Nat → List Int) (n : Nat) : (keepI key n).Pairwise (· ≠ ·) := by
  unfold keepI
  exact List.Pairwise.filter _ (List.Pairwise.imp (fun h => by omega) List.pairwise_lt_range)
open Classical in
noncomputable def keptAt (l : List Nat) (j : Nat) : Option Nat := if h : ∃ i, ∃ hi : i < l.length, l[i] = j then some h.choose else none
theorem keptAt_get {l : List Nat} (hp : l.Pairwise (· ≠ ·)) {i : Nat} (hi : i < l.length) : keptAt l l[i] = some i := by
  have h : ∃ k, ∃ hk : k < l.length, l[k] = l[i] := ⟨i, hi, rfl⟩
  unfold keptAt
  rw [dif_pos h]
  obtain ⟨h1, h2⟩ := h.choose_spec
  congr 1
  rw [List.pairwise_iff_getElem] at hp
  rcases Nat.lt_trichotomy h.choose i with h' | h' | h'
  · exact absurd h2 (hp _ _ h1 hi h')
  · exact h'
  · exact absurd h2.symm (hp _ _ hi h1 h')
noncomputable def compLab (l : List Nat) : Nat × Path → Option Lab
  | (0, []) => some (.res [.l])
  | (0, [.i j]) => (keptAt l j).map fun i => .res [.l, .i i]
  | (0, _) => none
  | (i, q) => some (.io i q)
theorem con_compactF {P : Program} {f g : FuncId} (he : ∀ (args : Array Value) (w : World), (callFunc f args).run P w = .ok (.enter f args) w)
    (hc : ∀ (w : World) (v1 v2 : Value) (xs ys : List Int), Hdr w v1 xs → Hdr w v2 ys → xs.length ≤ lim → ys.length ≤ lim → Calls P g #[v1, v2] w fun e w' => e = .returned (.bool (decide (xs = ys))) ∧ ∃ q, w' = w.drewN q)
    (h : ∀ (enc : Nat → Value) (key : Nat → List Int) (blk off cap n : Nat) (w : World), Aside (∀ i, ∃ a l c, enc i = .slice a l c) → Aside (enc n = .slice none 0 0) → Go.Sort.Holds enc w blk off (Array.range n) → n ≤ 1099511627776 → n ≤ cap → 2 ≤ n →
      Aside (∀ (q : Nat) (dk : Array Nat), dk.size = n → ∀ i j, i < n → j < n → Calls P g #[enc i, enc j] (putRow enc (Go.Sort.ahead w q) blk off dk) fun e w' => e = .returned (.bool (decide (key i = key j))) ∧ ∃ q', w' = (putRow enc (Go.Sort.ahead w q) blk off dk).drewN q') →
      Calls P f #[.slice (some ⟨blk, off, none⟩) n cap, .func (.func g) #[] #[]] w fun e w' => e = .returned (.slice (some ⟨blk, off, none⟩) (keepI key n).length cap) ∧ ∃ q, w' = putRow enc (Go.Sort.ahead w q) blk off (keepI key n ++ List.replicate (n - (keepI key n).length) n).toArray)
    (h0 : ∀ (p : Option Addr) (n cap : Nat) (fv : Value) (w : World), n < 2 → Calls P f #[.slice p n cap, fv] w fun e w' => e = .returned (.slice p n cap) ∧ w' = w) :
    ContractG P f (⟨[(kSS, true), (.clo g .unit .unit, false)], [kSS], true, G_compactF⟩, { gone := [0], deep := [] }) := by
  intro w ψ U vs d out hargs hU hψ hgl ho
  obtain ⟨xss, fv, u⟩ := d
  have ho : G_compactF (xss, fv, u) = some out := ho
  unfold G_compactF at ho
  split at ho
  case isFalse => cases ho
  rename_i hl
  have hl : (okL xss && xss.all okL) = true := hl
  simp only [Bool.and_eq_true] at hl
  obtain ⟨hl, hal⟩ := hl
  have hl : xss.length ≤ lim := of_decide_eq_true hl
  have hal : ∀ x ∈ xss, x.length ≤ lim := fun x hx => of_decide_eq_true (List.all_eq_true.1 hal x hx)
  obtain rfl := Option.some.inj ho
  obtain ⟨c1, r1, rfl, k2, c2, r2, rfl, k3, k5⟩ := hargs
  have k5 : r2 = [] := k5
  subst k5
  have hfv : mkVal (.clo g .unit .unit) c2 = .func (.func g) #[] #[] := by
    obtain ⟨a1, a2, e, _⟩ := (show Rep w _ (.clo g .unit .unit) [] c2 fv from k3)
    rw [e]
    rfl
  rw [hfv]
  have k2 : Rep w (fun q b => ψ b = some (0, q)) kSS [] c1 xss := k2
  have k2' := k2
  rw [Rep] at k2
  by_cases hsm : xss.length < 2
  · -- nothing to cut
    obtain ⟨p, cap, e⟩ : ∃ p cap, c1 = [.slice p xss.length cap] := by
      rcases k2 with ⟨⟨a, e⟩, hz⟩ | ⟨b, off, cap, e, _⟩
      · have hz : xss = [] := hz
        rw [hz]
        exact ⟨a, 0, e⟩
      · exact ⟨_, cap, e⟩
    unfold CallsTo
    rw [e, show (mkVal kSS [Value.slice p xss.length cap] :: [Value.func (.func g) #[] #[]]).toArray = #[.slice p xss.length cap, .func (.func g) #[] #[]] from rfl, he]
    refine Calls.mono (h0 p xss.length cap _ w hsm) fun v w' hh => ?_
    obtain ⟨rfl, rfl⟩ := hh
    refine ⟨fun b => match ψ b with | some (0, q) => some (.res (.l :: q)) | some (i, q) => some (.io i q) | none => none, ⟨rfl, rfl, rfl, Nat.le_refl _, fun _ _ _ => rfl, fun b z hz => ?_, ⟨[.slice p xss.length cap], rfl, ?_⟩, ⟨fun h => (by cases h), trivial⟩, fun _ _ k hk => (by cases hk)⟩⟩
    · cases hb : ψ b with
      | none => rw [hb] at hz; cases hz
      | some y => exact ⟨.inr (by simp), hψ b y hb⟩
    · show Rep _ _ (.pair kSS .unit) [] [.slice p xss.length cap] (compL xss, ())
      rw [compL_short hsm]
      refine ⟨?_, rfl⟩
      show Rep _ _ kSS [.l] [.slice p xss.length cap] xss
      rw [e] at k2
      rw [Rep]
      rcases k2 with hz | ⟨b, off, cap', e', kc, kS, kb, ke⟩
      · exact .inl hz
      · refine .inr ⟨b, off, cap', e', kc, ?_, kb, fun i hi => ?_⟩
        · show (match ψ b with | some (0, q) => some (Lab.res (.l :: q)) | some (i, q) => some (.io i q) | none => none) = some (.res [.l])
          rw [kS]
          rfl
        · have hj := ke i hi
          obtain ⟨v, hv⟩ : ∃ v, cellsAt w' b (off + i * (Kd.slice (.int .i64)).size) (Kd.slice (.int .i64)).size = [v] := by
            have := hj.length
            match hcl : cellsAt w' b (off + i * (Kd.slice (.int .i64)).size) (Kd.slice (.int .i64)).size, this with
            | [v], _ => exact ⟨v, rfl⟩
          rw [hv] at hj ⊢
          refine rep_move hj fun b' hb' => ⟨rfl, ?_⟩
          show (match ψ b' with | some (0, q) => some (Lab.res (.l :: q)) | some (i, q) => some (.io i q) | none => none) = some (.res ([.l] ++ [.i i]))
          have hb' : ψ b' = some (0, [.i i]) := hb'
          rw [hb']
          rfl
  · rcases k2 with ⟨_, hz⟩ | ⟨b, off, cap, e, kc, kS, kb, ke⟩
    · have hz : xss = [] := hz
      rw [hz] at hsm
      exact absurd (show [].length < 2 by simp) hsm
    have kS : ψ b = some (0, []) := kS
    obtain ⟨cs, T, fr, hrow, hthaw⟩ := hψ b _ kS
    obtain ⟨cs2, T2, fr2, hrow2, hfit⟩ := kb
    rw [hrow] at hrow2
    injection hrow2 with hrow2
    injection hrow2 with e1 e2 e3
    subst e1 e2 e3
    simp only [Kd.size, Nat.mul_one] at hfit
    obtain ⟨n, hn⟩ : ∃ n, xss.length = n := ⟨_, rfl⟩
    rw [hn] at kc hsm
    have hlt : ∀ j, j < n → off + j < cs.size := fun j hj => by omega
    have hel : ∀ j (hj : j < n), Rep w (fun q b => ψ b = some (0, q)) (.slice (.int .i64)) [.i j] [cs[off + j]'(hlt j hj)] (keyL xss j) := fun j hj => by
      have hj' : j < xss.length := by omega
      have := ke j hj'
      simp only [Kd.size, Nat.mul_one, List.nil_append] at this
      unfold cellsAt at this
      rw [hrow] at this
      have e : (cs.toList.drop (off + j)).take 1 = [cs[off + j]'(hlt j hj)] := by
        rw [List.drop_eq_getElem_cons (by simpa using hlt j hj), List.take_succ_cons, List.take_zero, Array.getElem_toList]
      simp only at this
      rw [e] at this
      have e2 : keyL xss j = xss.get ⟨j, hj'⟩ := by simp [keyL, List.getD_eq_getElem?_getD, hj']
      rw [e2]
      exact this
    have hb := (Array.getElem?_eq_some_iff.1 hrow).1
    let enc : Nat → Value := fun j => if hj : j < n then cs[off + j]'(hlt j hj) else .slice none 0 0
    have henc : ∀ j (hj : j < n), enc j = cs[off + j]'(hlt j hj) := fun j hj => dif_pos hj
    have hsl : Aside (∀ i, ∃ a l c, enc i = .slice a l c) := fun i => by
      by_cases hi : i < n
      · rw [henc i hi]
        have := hel i hi
        rw [Rep] at this
        rcases this with ⟨⟨a, e⟩, _⟩ | ⟨b', o', c', e, _⟩
        · exact ⟨_, _, _, (List.cons.inj e).1⟩
        · exact ⟨_, _, _, (List.cons.inj e).1⟩
      · exact ⟨none, 0, 0, dif_neg hi⟩
    have hneb : ∀ j b', ψ b' = some (0, [.i j]) → b' ≠ b := fun j b' h1 e => by
      subst e
      rw [kS] at h1
      cases h1
    have hother' : ∀ (m : Nat) (dk : Array Nat) (k : Nat), k < w.heap.size → k ≠ b → (putRow enc (Go.Sort.ahead w m) b off dk).heap[k]? = w.heap[k]? := fun m dk k hk hne => by
      rw [putRowV_else hne]
      rfl
    have hH : Go.Sort.Holds enc w b off (Array.range n) := fun j hj => by
      have hj' : j < n := by simpa using hj
      rw [range_get hj', henc j hj']
      constructor
      · unfold World.cell?
        rw [hrow]
        simp [hlt j hj']
      · unfold World.frozen?
        rw [hrow]
        obtain ⟨f1, f2⟩ := fr
        have := hlt j hj'
        simp only at hthaw
        simp
        omega
    have hcmp : Aside (∀ (q : Nat) (dk : Array Nat), dk.size = n → ∀ i j, i < n → j < n → Calls P g #[enc i, enc j] (putRow enc (Go.Sort.ahead w q) b off dk) fun e w' => e = .returned (.bool (decide (keyL xss i = keyL xss j))) ∧ ∃ q', w' = (putRow enc (Go.Sort.ahead w q) b off dk).drewN q') := fun q dk hs i j hi hj => by
      have hh : ∀ z (hz : z < n), Hdr (putRow enc (Go.Sort.ahead w q) b off dk) (enc z) (keyL xss z) := fun z hz => by
        rw [henc z hz]
        exact hdr_of (hel z hz) fun b' hb' => hother' q dk b' (hψ b' _ hb').lt (hneb _ _ hb')
      have hln : ∀ z, z < n → (keyL xss z).length ≤ lim := fun z hz => by
        have hz : z < xss.length := by omega
        have : keyL xss z = xss[z] := by simp [keyL, List.getD_eq_getElem?_getD, hz]
        rw [this]
        exact hal _ (List.getElem_mem hz)
      exact hc _ _ _ _ _ (hh i hi) (hh j hj) (hln i hi) (hln j hj)
    have hcall := h enc (keyL xss) b off cap n w hsl (dif_neg (Nat.lt_irrefl n)) hH (by unfold lim at hl; omega) kc (by omega) hcmp
    unfold CallsTo
    rw [e, hn, show (mkVal kSS [Value.slice (some ⟨b, off, none⟩) n cap] :: [Value.func (.func g) #[] #[]]).toArray = #[.slice (some ⟨b, off, none⟩) n cap, .func (.func g) #[] #[]] from rfl, he]
    refine Calls.mono hcall fun v w' hh => ?_
    obtain ⟨rfl, m, rfl⟩ := hh
    have hother := hother' m (keepI (keyL xss) n ++ List.replicate (n - (keepI (keyL xss) n).length) n).toArray
    have hkl := keepI_le (keyL xss) n
    have hnew : (putRow enc (Go.Sort.ahead w m) b off (keepI (keyL xss) n ++ List.replicate (n - (keepI (keyL xss) n).length) n).toArray).heap[b]? = some (.cells (putCells enc off (keepI (keyL xss) n ++ List.replicate (n - (keepI (keyL xss) n).length) n).toArray cs) T fr) := putRowV_at (w := Go.Sort.ahead w m) hrow
    generalize hD : (keepI (keyL xss) n ++ List.replicate (n - (keepI (keyL xss) n).length) n).toArray = D at hother hnew
    have hDs : D.size = n := by rw [← hD]; simp; omega
    have hps : (putCells enc off D cs).size = cs.size := by simp [putCells]
    have hsz : (putRow enc (Go.Sort.ahead w m) b off D).heap.size = w.heap.size := by simp [putRow, mapBlock]
    refine ⟨fun b => match ψ b with | some z => compLab (keepI (keyL xss) n) z | none => none, ⟨rfl, rfl, rfl, by rw [hsz]; exact Nat.le_refl _, fun k hk hn => ?_, fun k z hz => ?_, ⟨[.slice (some ⟨b, off, none⟩) (keepI (keyL xss) n).length cap], rfl, ?_⟩, ⟨fun h => (by cases h), trivial⟩, fun _ _ k hk => (by cases hk)⟩⟩
    · exact hother k hk (fun e => by subst e; rw [kS] at hn; cases hn)
    · cases hk : ψ k with
      | none => rw [hk] at hz; cases hz
      | some y =>
        refine ⟨.inr (by simp), ?_⟩
        by_cases e : k = b
        · subst e
          exact ⟨_, T, fr, hnew, hthaw.imp (fun h => h) fun h => by rw [hps]; exact h⟩
        · exact (hψ k y hk).same (hother k (hψ k y hk).lt e)
    · show Rep _ _ (.pair kSS .unit) [] [.slice (some ⟨b, off, none⟩) (keepI (keyL xss) n).length cap] (compL xss, ())
      refine ⟨?_, rfl⟩
      show Rep _ _ kSS [.l] [.slice (some ⟨b, off, none⟩) (keepI (keyL xss) n).length cap] (compL xss)
      have hlen : (compL xss).length = (keepI (keyL xss) n).length := by unfold compL; rw [List.length_map, hn]
      rw [Rep]
      refine .inr ⟨b, off, cap, by rw [hlen], by rw [hlen]; omega, ?_, ⟨_, T, fr, hnew, ?_⟩, fun i hi => ?_⟩
      · show (match ψ b with | some z => compLab (keepI (keyL xss) n) z | none => none) = some (.res [.l])
        rw [kS]
        rfl
      · simp only [Kd.size, Nat.mul_one]
        rw [hps]
        exact hfit
      · have hi1 : i < (keepI (keyL xss) n).length := by rw [← hlen]; exact hi
        have hjn : (keepI (keyL xss) n)[i] < n := by
          have := List.mem_filter.1 (List.getElem_mem hi1)
          exact List.mem_range.1 this.1
        have hDi : D[i]! = (keepI (keyL xss) n)[i] := by
          rw [← hD, getElem!_pos _ i (by simp; omega)]
          simp [List.getElem_append, hi1]
        have ecell : cellsAt (putRow enc (Go.Sort.ahead w m) b off D) b (off + i * (Kd.slice (.int .i64)).size) (Kd.slice (.int .i64)).size = [enc (keepI (keyL xss) n)[i]] := by
          unfold cellsAt
          rw [hnew]
          simp only [Kd.size, Nat.mul_one]
          have hlt2 : off + i < (putCells enc off D cs).toList.length := by rw [Array.length_toList, hps]; exact hlt i (by omega)
          rw [List.drop_eq_getElem_cons hlt2, List.take_succ_cons, List.take_zero]
          congr 1
          simp only [putCells, Array.getElem_toList, Array.getElem_mapIdx]
          rw [if_pos ⟨by omega, by omega⟩, show off + i - off = i by omega, hDi]
        have edata : (compL xss).get ⟨i, hi⟩ = keyL xss (keepI (keyL xss) n)[i] := by
          have : (compL xss)[i] = keyL xss (keepI (keyL xss) n)[i] := by
            subst hn
            simp [compL]
          exact this
        rw [ecell, edata, henc _ hjn]
        refine rep_move (hel _ hjn) fun b' hb' => ⟨hother b' (hψ b' _ hb').lt (hneb _ _ hb'), ?_⟩
        show (match ψ b' with | some z => compLab (keepI (keyL xss) n) z | none => none) = some (.res ([.l] ++ [.i i]))
        have hb' : ψ b' = some (0, [.i (keepI (keyL xss) n)[i]]) := hb'
        rw [hb']
        show (keptAt (keepI (keyL xss) n) (keepI (keyL xss) n)[i]).map (fun i => Lab.res [.l, .i i]) = _
        rw [keptAt_get (keepI_pair _ _) hi1]
        rfl
end Go.V.W
set_option linter.unusedVariables false
set_option linter.unusedSimpArgs false
namespace Go.V.W
/-- Strictly rising lists of lists. -/
def ltL (a b : List Int) : Prop := cmpL a b < 0
theorem ltL_trans {a b c : List Int} (h1 : ltL a b) (h2 : ltL b c) : ltL a c := by
  unfold ltL at h1 h2 ⊢
  have h3 := cmpL_le (Int.le_of_lt h1) (Int.le_of_lt h2)
  rcases Int.lt_or_eq_of_le h3 with h | h
  · exact h
  · have e := cmpL_eq h
    rw [e, cmpL_swap b c] at h1
    omega
theorem ltL_irr (a : List Int) : ¬ ltL a a := by
  unfold ltL
  rw [cmpL_self]
  omega
theorem ltL_of_le {a b : List Int} (h : leL a b) (hne : ¬ a = b) : ltL a b := by
  unfold leL at h
  unfold ltL
  rcases Int.lt_or_eq_of_le h with h' | h'
  · exact h'
  · exact absurd (cmpL_eq h') hne
theorem strict_ext : ∀ {l m : List (List Int)}, l.Pairwise ltL → m.Pairwise ltL → (∀ x, x ∈ l ↔ x ∈ m) → l = m := by
  intro l
  induction l with
  | nil =>
    intro m _ _ h
    cases m with
    | nil => rfl
    | cons b m => exact absurd ((h b).2 (by simp)) (by simp)
  | cons a l ih =>
    intro m hl hm h
    cases m with
    | nil => exact absurd ((h a).1 (by simp)) (by simp)
    | cons b m =>
      rw [List.pairwise_cons] at hl hm
      have e : a = b := by
        rcases List.mem_cons.1 ((h a).1 (by simp)) with e | ha
        · exact e
        rcases List.mem_cons.1 ((h b).2 (by simp)) with e | hb
        · exact e.symm
        exact absurd (ltL_trans (hl.1 b hb) (hm.1 a ha)) (ltL_irr a)
      subst e
      congr 1
      refine ih hl.2 hm.2 fun x => ⟨fun hx => ?_, fun hx => ?_⟩
      · rcases List.mem_cons.1 ((h x).1 (by simp [hx])) with e | hx'
        · subst e
          exact absurd (hl.1 x hx) (ltL_irr x)
        · exact hx'
      · rcases List.mem_cons.1 ((h x).2 (by simp [hx])) with e | hx'
        · subst e
          exact absurd (hm.1 x hx) (ltL_irr x)
        · exact hx'
/-- A list put to its place, once. -/
def putS (x : List Int) : List (List Int) → List (List Int)
  | [] => [x]
  | a :: l => if cmpL a x < 0 then a :: putS x l else if a = x then a :: l else x :: a :: l
theorem putS_mem {x y : List Int} : ∀ {l : List (List Int)}, y ∈ putS x l ↔ y = x ∨ y ∈ l := by
  intro l
  induction l with
  | nil => simp [putS]
  | cons a l ih =>
    unfold putS
    split
    · simp only [List.mem_cons, ih]
      constructor
      · rintro (h | h | h)
        · exact .inr (.inl h)
        · exact .inl h
        · exact .inr (.inr h)
      · rintro (h | h | h)
        · exact .inr (.inl h)
        · exact .inl h
        · exact .inr (.inr h)
    · split
      · rename_i e
        subst e
        simp
      · simp
theorem putS_strict {x : List Int} : ∀ {l : List (List Int)}, l.Pairwise ltL → (putS x l).Pairwise ltL := by
  intro l
  induction l with
  | nil => intro _; simp [putS]
  | cons a l ih =>
    intro h
    rw [List.pairwise_cons] at h
    unfold putS
    split
    · rename_i ha
      rw [List.pairwise_cons]
      refine ⟨fun b hb => ?_, ih h.2⟩
      rcases putS_mem.1 hb with rfl | hb
      · exact ha
      · exact h.1 b hb
    · rename_i ha
      split
      · rw [List.pairwise_cons]
        exact h
      · rename_i hne
        have hxa : ltL x a := ltL_of_le ((leL_total x a).resolve_right fun hh => ha (by
          have := ltL_of_le hh hne
          exact this)) fun e => hne e.symm
        rw [List.pairwise_cons, List.pairwise_cons]
        refine ⟨fun b hb => ?_, h⟩
        rcases List.mem_cons.1 hb with rfl | hb
        · exact hxa
        · exact ltL_trans hxa (h.1 b hb)
def putsS (L : List (List Int)) : List (List Int) := L.foldl (fun o x => putS x o) []
theorem puts_fold : ∀ (L o : List (List Int)), o.Pairwise ltL → (L.foldl (fun o x => putS x o) o).Pairwise ltL ∧ ∀ y, y ∈ L.foldl (fun o x => putS x o) o ↔ y ∈ o ∨ y ∈ L := by
  intro L
  induction L with
  | nil => intro o h; exact ⟨h, fun y => by simp⟩
  | cons x L ih =>
    intro o h
    obtain ⟨h1, h2⟩ := ih (putS x o) (putS_strict h)
    refine ⟨h1, fun y => ?_⟩
    rw [List.foldl_cons, h2 y, putS_mem, List.mem_cons]
    constructor
    · rintro ((h | h) | h)
      · exact .inr (.inl h)
      · exact .inl h
      · exact .inr (.inr h)
    · rintro (h | h | h)
      · exact .inl (.inr h)
      · exact .inl (.inl h)
      · exact .inr h
/-- A sorted list, cut to one of each. -/
theorem keyL_get {xss : List (List Int)} {j : Nat} (h : j < xss.length) : keyL xss j = xss[j] := by simp [keyL, List.getD_eq_getElem?_getD, h]
theorem key_mono {xss : List (List Int)} (h : xss.Pairwise leL) : ∀ i j, i ≤ j → j < xss.length → leL (keyL xss i) (keyL xss j) := by
  intro i j hij hj
  rcases Nat.lt_or_eq_of_le hij with h' | h'
  · rw [keyL_get (by omega), keyL_get hj]
    exact (List.pairwise_iff_getElem.1 h) i j (by omega) hj h'
  · subst h'
    unfold leL
    rw [cmpL_self]
    omega
theorem comp_strict {xss : List (List Int)} (h : xss.Pairwise leL) : (compL xss).Pairwise ltL := by
  unfold compL keepI
  rw [List.pairwise_map]
  have hlt : ((List.range xss.length).filter (kpB (keyL xss))).Pairwise (· < ·) := List.Pairwise.filter _ List.pairwise_lt_range
  refine List.Pairwise.imp_of_mem (fun {i j} hi hj hij => ?_) hlt
  have hj' := List.mem_filter.1 hj
  have hjn := List.mem_range.1 hj'.1
  have hk : ¬ keyL xss j = keyL xss (j - 1) := by
    have := hj'.2
    unfold kpB at this
    have hj0 : (j == 0) = false := by simp; omega
    rw [hj0, Bool.false_or] at this
    simpa using this
  refine ltL_of_le (key_mono h i j (by omega) hjn) fun e => hk ?_
  have h1 := key_mono h i (j - 1) (by omega) (by omega)
  have h2 := key_mono h (j - 1) j (by omega) hjn
  rw [e] at h1
  exact leL_antisymm h1 h2
theorem comp_mem {xss : List (List Int)} (y : List Int) : y ∈ compL xss ↔ y ∈ xss := by
  unfold compL keepI
  rw [List.mem_map]
  constructor
  · rintro ⟨i, hi, rfl⟩
    have := List.mem_range.1 (List.mem_filter.1 hi).1
    rw [keyL_get this]
    exact List.getElem_mem this
  · intro hy
    obtain ⟨i, hi, rfl⟩ := List.getElem_of_mem hy
    have key : ∀ i, i < xss.length → ∃ j, j ∈ (List.range xss.length).filter (kpB (keyL xss)) ∧ keyL xss j = keyL xss i := by
      intro i
      induction i with
      | zero =>
        intro hi
        exact ⟨0, List.mem_filter.2 ⟨List.mem_range.2 hi, rfl⟩, rfl⟩
      | succ i ih =>
        intro hi
        cases hk : kpB (keyL xss) (i + 1) with
        | true => exact ⟨i + 1, List.mem_filter.2 ⟨List.mem_range.2 hi, hk⟩, rfl⟩
        | false =>
          obtain ⟨j, hj1, hj2⟩ := ih (by omega)
          refine ⟨j, hj1, hj2.trans ?_⟩
          unfold kpB at hk
          simp only [Nat.add_sub_cancel, Bool.or_eq_false_iff, Bool.not_eq_false', decide_eq_true_eq] at hk
          exact hk.2.symm
    obtain ⟨j, hj1, hj2⟩ := key i hi
    exact ⟨j, hj1, by rw [hj2, keyL_get hi]⟩
theorem puts_comp (L : List (List Int)) : putsS L = compL (sortS L) := by
  obtain ⟨h1, h2⟩ := puts_fold L [] .nil
  refine strict_ext h1 (comp_strict (sortS_sorted L)) fun x => ?_
  have h3 := h2 x
  unfold putsS
  rw [h3, comp_mem, (sortS_perm L).mem_iff]
  simp
def chL (ball : Int → List Int) : List Int → List (List Int) → List (List Int)
  | [], now => now
  | c :: cs, now => chL ball cs (now.flatMap fun l => (ball c).map fun x => l ++ [x])
def movesL (ball : Int → List Int) (cops : List Int) : List (List Int) := compL (sortS ((chL ball cops [[]]).map sortI))
theorem chL_congr {b1 b2 : Int → List Int} : ∀ {cs : List Int} {now : List (List Int)}, (∀ c ∈ cs, b1 c = b2 c) → chL b1 cs now = chL b2 cs now := by
  intro cs
  induction cs with
  | nil => intro now _; rfl
  | cons c cs ih =>
    intro now h
    simp only [chL, h c (by simp)]
    exact ih fun c hc => h c (by simp [hc])
theorem moves_congr {b1 b2 : Int → List Int} {cs : List Int} (h : ∀ c ∈ cs, b1 c = b2 c) : movesL b1 cs = movesL b2 cs := by
  unfold movesL
  rw [chL_congr h]
end Go.V.W
namespace Go.V.W
/-- What a function computes with whatever fuel, if there is something of the kind. -/
noncomputable def pickF {α β : Type} (F : Nat → α → Option β) (P : α → β → Prop) (d : α) : Option β :=
  open Classical in if h : ∃ r, P d r ∧ ∃ N, F N d = some r then some h.choose else none
theorem pickF_of {α β : Type} {F : Nat → α → Option β} {P : α → β → Prop} {d : α} (h : ∃ N r, F N d = some r ∧ P d r) : ∃ r, pickF F P d = some r ∧ P d r := by
  obtain ⟨N, r, h1, h2⟩ := h
  have hh : ∃ r, P d r ∧ ∃ N, F N d = some r := ⟨r, h2, N, h1⟩
  unfold pickF
  rw [dif_pos hh]
  exact ⟨_, rfl, hh.choose_spec.1⟩
/-- There is an answer, and it is so. -/
def Ok {α : Type} (o : Option α) (Q : α → Prop) : Prop := ∃ r, o = some r ∧ Q r
theorem Ok.bind {α β : Type} {o : Option α} {f : α → Option β} {Q : α → Prop} {R : β → Prop} (h : Ok o Q) (hf : ∀ r, Q r → Ok (f r) R) : Ok (o.bind f) R := by
  obtain ⟨r, h1, h2⟩ := h
  obtain ⟨x, h3, h4⟩ := hf r h2
  exact ⟨x, by rw [h1]; exact h3, h4⟩
theorem Ok.some {α : Type} {r : α} {Q : α → Prop} (h : Q r) : Ok (some r) Q := ⟨r, rfl, h⟩
theorem Ok.ite {α : Type} {c : Bool} {a b : Option α} {Q : α → Prop} (ha : c = true → Ok a Q) (hb : c = false → Ok b Q) : Ok (if c = true then a else b) Q := by
  cases c with
  | true => exact ha rfl
  | false => exact hb rfl
theorem Ok.pos {α : Type} {c : Bool} {a b : Option α} {Q : α → Prop} (hc : c = true) (ha : Ok a Q) : Ok (if c = true then a else b) Q := by rw [if_pos hc]; exact ha
theorem Ok.mono {α : Type} {o : Option α} {Q R : α → Prop} (h : Ok o Q) (hR : ∀ r, Q r → R r) : Ok o R := by
  obtain ⟨r, h1, h2⟩ := h
  exact ⟨r, h1, hR r h2⟩
theorem Ok.pick {α β : Type} {F : Nat → α → Option β} {P : α → β → Prop} {d : α} (N : Nat) (h : Ok (F N d) (P d)) : Ok (pickF F P d) (P d) := by
  obtain ⟨r, h1, h2⟩ := h
  exact pickF_of ⟨N, r, h1, h2⟩
/-- The cursor of the draws. -/
abbrev Cur := List Int × Int × Int × Unit
def CurB (c : Cur) : Prop := (∀ x ∈ c.1, 0 ≤ x ∧ x ≤ 255) ∧ 0 ≤ c.2.1
/-- The cursor, some choices further. -/
def Adv (k : Int) (c c' : Cur) : Prop := CurB c' ∧ c'.2.1 ≤ c.2.1 + k
theorem Adv.trans {k m : Int} {c d e : Cur} (h : Adv k c d) (h' : Adv m d e) : Adv (k + m) c e := ⟨h'.1, by have := h.2; have := h'.2; omega⟩
theorem Adv.le {k m : Int} {c d : Cur} (h : Adv k c d) (hk : k ≤ m) : Adv m c d := ⟨h.1, by have := h.2; omega⟩
end Go.V.W
set_option linter.unusedVariables false
namespace Go.V.W
def ndB : List Int → Bool
  | [] => true
  | [_] => true
  | a :: b :: l => decide (a ≤ b) && ndB (b :: l)
def copsB (n : Int) (l : List Int) : Bool := l.all (inB 0 (n - 1)) && ndB l
def G_l4Cops (d : Gr × List Int × Unit) : Option (Bool × Unit) := if (okL d.2.1 && decide (0 ≤ d.1.1) && decide (d.1.1 ≤ 8)) = true then some (copsB d.1.1 d.2.1, ()) else none
def G_isSorted (d : List Int × Unit) : Option (Bool × Unit) := if okL d.1 = true then some (ndB d.1, ()) else none
def G_l4Less (d : List Int × List Int × Unit) : Option (Bool × Unit) := if (okL d.1 && decide (d.1.length = d.2.1.length)) = true then some (decide (cmpL d.1 d.2.1 < 0), ()) else none
def G_l1Same (d : List Int × List Int × Unit) : Option (Bool × Unit) := if okL d.1 = true then some (decide (d.1 = d.2.1), ()) else none
def G_l4Sorted (d : List Int × Unit) : Option (List Int × Unit) := if decide (d.1.length ≤ 1000) = true then some (sortI d.1, ()) else none
def G_l4Put (d : List (List Int) × List Int × Unit) : Option (List (List Int) × Unit) := if (decide (d.1.length ≤ 1000) && okL d.2.1 && d.1.all (fun l => decide (l.length = d.2.1.length))) = true then some (putS d.2.1 d.1, ()) else none
def nodesB (n : Int) (l : List Int) : Bool := decide (l.length ≤ 3) && l.all (inB 0 (n - 1))
def G_l4Moves (d : Gr × List Int × Unit) : Option (List (List Int) × Unit) := if (grB d.1 && nodesB d.1.1 d.2.1) = true then some (movesL (ballF d.1.1.toNat d.1.2.1) d.2.1, ()) else none
def G_copMoves (d : Nt × List Int × Unit) : Option (List (List Int) × Unit) := if (netB d.1.1 && nodesB (d.1.1.length : Int) d.2.1) = true then some (movesL (ballM d.1.1) d.2.1, ()) else none
def G_l4At (d : List (List Int) × List Int × Unit) : Option (Int × Unit) := if okLL d.1 = true then some (idxI (idxN (fun y => decide (y = d.2.1)) d.1 0), ()) else none
def G_idxWalk (d : List (List Int) × (Unit × List Int × Unit) × Unit) : Option (Int × Unit) := if okLL d.1 = true then some (idxI (idxN (fun y => decide (y = d.2.1.2.1)) d.1 0), ()) else none
def restB (ball : Int → List Int) (n : Int) (k : Nat) : Option (List Int) → List (List Int) → Bool
  | _, [] => true
  | p, c :: cs => decide (c.length = k) && copsB n c && (match p with | none => true | some q => (movesL ball q).any fun y => decide (y = c)) && restB ball n k (some c) cs
def walkB (g : Gr) (w : List (List Int)) : Bool := graphB g && inB 1 40 (w.length : Int) && decide (g.1 > 0) && inB 1 3 ((w.headD []).length : Int) && restB (ballF g.1.toNat g.2.1) g.1 (w.headD []).length none w
def G_walk (d : Gr × List (List Int) × Unit) : Option (Bool × Unit) := if (okL d.1.2.1 && okLL d.2.1) = true then some (walkB d.1 d.2.1, ()) else none
/-- For the reference, which is asked of valid graphs alone. -/
def G_l11Walk (d : Gr × List (List Int) × Unit) : Option (Bool × Unit) := if (okL d.1.2.1 && okLL d.2.1 && graphB d.1) = true then some (walkB d.1 d.2.1, ()) else none
def hasL (S : List Int) (y : Int) : Bool := S.any fun z => z == y
end Go.V.W
set_option linter.unusedVariables false
namespace Go.V.W
def G_l2Bits (d : Int × Int × Unit) : Option (List Int × Unit) := if (inB 0 8 d.1 && inB 0 255 d.2.1) = true then some (setF (fun y => d.2.1.toNat.testBit y) d.1.toNat 0, ()) else none
def maskN (l : List Int) : Nat := l.foldl (fun a x => a ||| 2 ^ x.toNat) 0
def G_maskOf (d : List Int × Unit) : Option (Int × Unit) := if (okL d.1 && d.1.all (inB 0 7)) = true then some ((maskN d.1 : Int), ()) else none
end Go.V.W
set_option linter.unusedVariables false
namespace Go.V.W
def restL (c l : List Int) : List Int := l.filter fun x => !hasL c x
def G_l11Rest (d : List Int × List Int × Unit) : Option (List Int × Unit) := if (okL d.1 && okL d.2.1) = true then some (restL d.2.1 d.1, ()) else none
def nextL (balls : List (List Int)) (c left : List Int) : List Int := left.foldl (fun o x => putAll o (restL c (balls.getD x.toNat []))) []
def G_l11Next (d : List (List Int) × List Int × List Int × Unit) : Option (List Int × Unit) :=
  if (decide (d.2.1.length ≤ 8) && d.2.1.all (inB 0 ((d.1.length : Int) - 1)) && decide (d.1.length ≤ 8) && d.1.all (fun b => decide (b.length ≤ 9)) && okL d.2.2.1) = true then some (nextL d.1 d.2.2.1 (restL d.2.2.1 d.2.1), ()) else none
def nextP (es : List E) (n : Nat) (c : List Int) (p : Nat → Bool) (y : Nat) : Bool := stepP es n (fun x => p x && !hasL c (x : Int)) y && !hasL c (y : Int)
def unsP (es : List E) (n : Nat) : (Nat → Bool) → List (List Int) → List (Nat → Bool)
  | _, [] => []
  | p, c :: cs => nextP es n c p :: unsP es n (nextP es n c p) cs
def freeP (c : List Int) (y : Nat) : Bool := !hasL c (y : Int)
def walkP (g : Gr) (w : List (List Int)) : List (Nat → Bool) := freeP (w.headD []) :: unsP g.2.1 g.1.toNat (freeP (w.headD [])) w.tail
def setsL (g : Gr) (w : List (List Int)) : List (List Int) := (walkP g w).map fun p => setF p g.1.toNat 0
def wkB (n : Int) (w : List (List Int)) : Bool := decide (1 ≤ w.length) && decide (w.length ≤ 40) && w.all (nodesB n)
def G_l11Sets (d : Gr × List (List Int) × Unit) : Option (List (List Int) × Unit) := if (grB d.1 && wkB d.1.1 d.2.1) = true then some (setsL d.1 d.2.1, ()) else none
def andN (a b : Nat) : Nat := a &&& (255 ^^^ b)
def nextM (l : List Int) (c : List Int) (m : Nat) : Nat := andN (arN (fromI l) (andN m (maskN c)) l.length 0 (andN m (maskN c))) (maskN c)
def unsM (l : List Int) : Nat → List (List Int) → List Nat
  | _, [] => []
  | m, c :: cs => nextM l c m :: unsM l (nextM l c m) cs
def firstM (l : List Int) (w : List (List Int)) : Nat := andN (2 ^ l.length - 1) (maskN (w.headD []))
def walkM (l : List Int) (w : List (List Int)) : List Nat := firstM l w :: unsM l (firstM l w) w.tail
def G_netUns (d : Nt × List (List Int) × Unit) : Option (List Int × Unit) := if (netB d.1.1 && wkB (d.1.1.length : Int) d.2.1) = true then some (toI (walkM d.1.1 d.2.1), ()) else none
end Go.V.W
set_option linter.unusedVariables false
namespace Go.V.W
def afterG (cf : List (List Int)) (ball : Int → List Int) (T : Tab) (d x : Int) : Int := if hasL (cf.getD d.toNat []) x = true then 0 else worstL (tab2 T d) (ball x) 0
end Go.V.W
set_option linter.unusedVariables false
set_option maxRecDepth 100000
namespace Go.V.W
open Go.Proofs
abbrev I : Kd := .int .i64
abbrev K_Piq : Kd := .pair I .unit
abbrev K_Piiq : Kd := .pair I K_Piq
abbrev K_SPiiq : Kd := .slice K_Piiq
abbrev K_PSPiiqq : Kd := .pair K_SPiiq .unit
abbrev K_PiSPiiqq : Kd := .pair I K_PSPiiqq
abbrev K_Si : Kd := .slice I
abbrev K_SSi : Kd := .slice K_Si
abbrev K_PSiq : Kd := .pair K_Si .unit
abbrev K_F_slices_Compare_Sint_int_qq : Kd := .clo 44 .unit .unit
abbrev K_F_slices_Equal_Sint_int_qq : Kd := .clo 49 .unit .unit
abbrev K_BSi : Kd := .bx K_Si
abbrev K_PBSiq : Kd := .pair K_BSi .unit
abbrev K_F_impl_isWalk_1_qPBSiq : Kd := .clo 48 .unit K_PBSiq
def tks : List (Nat × Kd) := [(3, I), (4, .bool), (22, K_SPiiq), (24, K_PiSPiiqq), (25, K_SSi), (30, K_PiSPiiqq), (36, K_Si), (52, K_PSiq), (61, K_Piiq)]
def ars : List (Nat × Nat) := [(61, 3)]
noncomputable def Γ_laws_szIntA2S : Ctx := { tk := assoc tks, ar := assoc ars, fs := assoc [] }
noncomputable def F_laws_szIntA2S (N : Nat) (d : (List (Int × Int × Unit)) × Int × Unit) : Option (Int × Unit) :=
  let a0 : List (Int × Int × Unit) := d.1
  let a1 : Int := d.2.1
  let x1 : Int := IntKind.wrap .i64 (a1 - (List.length a0 : Int))
  if (decide (x1 < (0 : Int))) = true then
    some ((-1 : Int), ())
  else
    some (x1, ())
theorem F_laws_szIntA2S_ok (N : Nat) (d) : fnR Γ_laws_szIntA2S (assoc []) true [(K_SPiiq, false), (I, false)] [I] Try.f20.results.toList (bodyOf Try.f20) d = F_laws_szIntA2S N d := by kernel_rfl
noncomputable def g_laws_szIntA2S (d : (List (Int × Int × Unit)) × Int × Unit) : Int × Unit :=
  let a0 : List (Int × Int × Unit) := d.1
  let a1 : Int := d.2.1
  let x1 : Int := IntKind.wrap .i64 (a1 - (List.length a0 : Int))
  if (decide (x1 < (0 : Int))) = true then
    ((-1 : Int), ())
  else
    (x1, ())
theorem F_laws_szIntA2S_tot (N : Nat) (d) : F_laws_szIntA2S N d = some (g_laws_szIntA2S d) := by
  unfold F_laws_szIntA2S g_laws_szIntA2S
  first
    | rfl
    | (dsimp only; (repeat' split) <;> rfl)
noncomputable def S_laws_szIntA2S : FSig := ⟨[(K_SPiiq, false), (I, false)], [I], true, (fun d => some (g_laws_szIntA2S d))⟩
noncomputable def Γ_laws_szGraph : Ctx := { tk := assoc tks, ar := assoc ars, fs := assoc [(20, S_laws_szIntA2S)] }
noncomputable def F_laws_szGraph (N : Nat) (d : (Int × (List (Int × Int × Unit)) × Unit) × Int × Unit) : Option (Int × Unit) :=
  let a0 : Int × (List (Int × Int × Unit)) × Unit := d.1
  let a1 : Int := d.2.1
  let r1 : Int × Unit := g_laws_szIntA2S ((a0.2.1, (a1, ())))
  if (decide (r1.1 < (0 : Int))) = true then
    some ((-1 : Int), ())
  else
    some (r1.1, ())
theorem F_laws_szGraph_ok (N : Nat) (d) : fnR Γ_laws_szGraph (assoc []) true [(K_PiSPiiqq, false), (I, false)] [I] Try.f6.results.toList (bodyOf Try.f6) d = F_laws_szGraph N d := by kernel_rfl
noncomputable def g_laws_szGraph (d : (Int × (List (Int × Int × Unit)) × Unit) × Int × Unit) : Int × Unit :=
  let a0 : Int × (List (Int × Int × Unit)) × Unit := d.1
  let a1 : Int := d.2.1
  let r1 : Int × Unit := g_laws_szIntA2S ((a0.2.1, (a1, ())))
  if (decide (r1.1 < (0 : Int))) = true then
    ((-1 : Int), ())
  else
    (r1.1, ())
theorem F_laws_szGraph_tot (N : Nat) (d) : F_laws_szGraph N d = some (g_laws_szGraph d) := by
  unfold F_laws_szGraph g_laws_szGraph
  first
    | rfl
    | (dsimp only; (repeat' split) <;> rfl)
noncomputable def S_laws_szGraph : FSig := ⟨[(K_PiSPiiqq, false), (I, false)], [I], true, (fun d => some (g_laws_szGraph d))⟩
noncomputable def Γ_laws_szIntS : Ctx := { tk := assoc tks, ar := assoc ars, fs := assoc [] }
noncomputable def F_laws_szIntS (N : Nat) (d : List Int × Int × Unit) : Option (Int × Unit) :=
  let a0 : List Int := d.1
  let a1 : Int := d.2.1
  let x1 : Int := IntKind.wrap .i64 (a1 - (List.length a0 : Int))
  if (decide (x1 < (0 : Int))) = true then
    some ((-1 : Int), ())
  else
    some (x1, ())
theorem F_laws_szIntS_ok (N : Nat) (d) : fnR Γ_laws_szIntS (assoc []) true [(K_Si, false), (I, false)] [I] Try.f21.results.toList (bodyOf Try.f21) d = F_laws_szIntS N d := by kernel_rfl
noncomputable def g_laws_szIntS (d : List Int × Int × Unit) : Int × Unit :=
  let a0 : List Int := d.1
  let a1 : Int := d.2.1
  let x1 : Int := IntKind.wrap .i64 (a1 - (List.length a0 : Int))
  if (decide (x1 < (0 : Int))) = true then
    ((-1 : Int), ())
  else
    (x1, ())
theorem F_laws_szIntS_tot (N : Nat) (d) : F_laws_szIntS N d = some (g_laws_szIntS d) := by
  unfold F_laws_szIntS g_laws_szIntS
  first
    | rfl
    | (dsimp only; (repeat' split) <;> rfl)
noncomputable def S_laws_szIntS : FSig := ⟨[(K_Si, false), (I, false)], [I], true, (fun d => some (g_laws_szIntS d))⟩
noncomputable def Γ_laws_szIntSS : Ctx := { tk := assoc tks, ar := assoc ars, fs := assoc [(21, S_laws_szIntS)] }
abbrev laws_szIntSS_l0_H := List (List Int) × Int × Int × Unit
abbrev laws_szIntSS_l0_O := (Int × Unit) ⊕ (Int × Unit) ⊕ Empty
def laws_szIntSS_l0_h : Form := [(0, .v K_SSi), (1, .v I), (5, .v I)]
def laws_szIntSS_l0_o : Outs := [(.ret, [(4, .v I)]), (.normal, [(1, .v I)])]
noncomputable def laws_szIntSS_l0_r (N : Nat) (back : laws_szIntSS_l0_H → Option laws_szIntSS_l0_O) (d : laws_szIntSS_l0_H) : Option laws_szIntSS_l0_O :=
  let s0 : List (List Int) := d.1
  let s1 : Int := d.2.1
  let s5 : Int := d.2.2.1
  if (decide (s5 < (List.length s0 : Int))) = true then
    if (idxIn s5 (List.length s0)) = true then
    let r7 : Int × Unit := g_laws_szIntS ((at_ K_Si s0 s5.toNat, (s1, ())))
    if (decide (r7.1 < (0 : Int))) = true then
      some (.inl ((-1 : Int), ()))
    else
      let x8 : Int := IntKind.wrap .i64 (s5 + (1 : Int))
      back ((s0, (r7.1, (x8, ()))))
    else none
  else
    some (.inr (.inl (s1, ())))
noncomputable def laws_szIntSS_l0 (N : Nat) : Nat → laws_szIntSS_l0_H → Option laws_szIntSS_l0_O
  | 0, _ => none
  | k + 1, d => laws_szIntSS_l0_r N (laws_szIntSS_l0 N k) d
theorem laws_szIntSS_l0_ok (N : Nat) (back) (d) : roundR Γ_laws_szIntSS (assoc []) 0 laws_szIntSS_l0_h laws_szIntSS_l0_o (loopOf Try.f7 0) back d = laws_szIntSS_l0_r N back d := by kernel_rfl
noncomputable def F_laws_szIntSS (N : Nat) (d : List (List Int) × Int × Unit) : Option (Int × Unit) :=
  let a0 : List (List Int) := d.1
  let a1 : Int := d.2.1
  let x1 : Int := IntKind.wrap .i64 (a1 - (List.length a0 : Int))
  if (decide (x1 < (0 : Int))) = true then
    some ((-1 : Int), ())
  else
    (laws_szIntSS_l0 N N ((a0, (x1, ((0 : Int), ()))))).bind fun o4 => match o4 with
    | .inl d5 =>
      some (d5.1, ())
    | .inr (.inl d6) =>
      some (d6.1, ())
theorem F_laws_szIntSS_ok (N : Nat) (d) : fnR Γ_laws_szIntSS (assoc [(0, ⟨laws_szIntSS_l0_h, laws_szIntSS_l0_o, laws_szIntSS_l0 N N⟩)]) true [(K_SSi, false), (I, false)] [I] Try.f7.results.toList (bodyOf Try.f7) d = F_laws_szIntSS N d := by kernel_rfl
noncomputable def S_laws_szIntSS : FSig := ⟨[(K_SSi, false), (I, false)], [I], true, (G_szIntSS)⟩
noncomputable def Γ_laws_toIntA2 : Ctx := { tk := assoc tks, ar := assoc ars, fs := assoc [] }
abbrev laws_toIntA2_l0_H := (Int × Int × Unit) × (Int × Int × Unit) × (Int × Int × Unit) × Int × Unit
abbrev laws_toIntA2_l0_O := ((Int × Int × Unit) × (Int × Int × Unit) × Unit) ⊕ Empty
def laws_toIntA2_l0_h : Form := [(1, .box K_Piiq 99), (2, .box K_Piiq 99), (3, .box K_Piiq 99), (4, .v I)]
def laws_toIntA2_l0_o : Outs := [(.normal, [(2, .box K_Piiq 99), (3, .box K_Piiq 99)])]
noncomputable def laws_toIntA2_l0_r (N : Nat) (back : laws_toIntA2_l0_H → Option laws_toIntA2_l0_O) (d : laws_toIntA2_l0_H) : Option laws_toIntA2_l0_O :=
  let s1 : Int × Int × Unit := d.1
  let s2 : Int × Int × Unit := d.2.1
  let s3 : Int × Int × Unit := d.2.2.1
  let s4 : Int := d.2.2.2.1
  if (decide (s4 < (2 : Int))) = true then
    if (s4 == (0 : Int)) = true then
      if (s4 == (0 : Int)) = true then
        let x10 : Int := IntKind.wrap .i64 (s4 + (1 : Int))
        back ((s1, (s2, ((s1.1, s3.2), (x10, ())))))
      else
        if (s4 == (1 : Int)) = true then
        let x9 : Int := IntKind.wrap .i64 (s4 + (1 : Int))
        back ((s1, (s2, ((s3.1, (s1.1, s3.2.2)), (x9, ())))))
        else none
    else
      if (s4 == (1 : Int)) = true then
      if (s4 == (0 : Int)) = true then
        let x8 : Int := IntKind.wrap .i64 (s4 + (1 : Int))
        back ((s1, (s2, ((s1.2.1, s3.2), (x8, ())))))
      else
        if (s4 == (1 : Int)) = true then
        let x7 : Int := IntKind.wrap .i64 (s4 + (1 : Int))
        back ((s1, (s2, ((s3.1, (s1.2.1, s3.2.2)), (x7, ())))))
        else none
      else none
  else
    some (.inl ((s2, (s3, ()))))
noncomputable def laws_toIntA2_l0 (N : Nat) : Nat → laws_toIntA2_l0_H → Option laws_toIntA2_l0_O
  | 0, _ => none
  | k + 1, d => laws_toIntA2_l0_r N (laws_toIntA2_l0 N k) d
theorem laws_toIntA2_l0_ok (N : Nat) (back) (d) : roundR Γ_laws_toIntA2 (assoc []) 0 laws_toIntA2_l0_h laws_toIntA2_l0_o (loopOf Try.f42 0) back d = laws_toIntA2_l0_r N back d := by kernel_rfl
noncomputable def F_laws_toIntA2 (N : Nat) (d : (Int × Int × Unit) × Unit) : Option ((Int × Int × Unit) × Unit) :=
  let a0 : Int × Int × Unit := d.1
  (laws_toIntA2_l0 N N ((a0, (((0 : Int), ((0 : Int), ())), (((0 : Int), ((0 : Int), ())), ((0 : Int), ())))))).bind fun o5 => match o5 with
  | .inl d6 =>
    some (d6.2.1, ())
theorem F_laws_toIntA2_ok (N : Nat) (d) : fnR Γ_laws_toIntA2 (assoc [(0, ⟨laws_toIntA2_l0_h, laws_toIntA2_l0_o, laws_toIntA2_l0 N N⟩)]) true [(K_Piiq, false)] [K_Piiq] Try.f42.results.toList (bodyOf Try.f42) d = F_laws_toIntA2 N d := by kernel_rfl
noncomputable def S_laws_toIntA2 : FSig := ⟨[(K_Piiq, false)], [K_Piiq], true, (G_toIntA2)⟩
noncomputable def Γ_laws_toIntA2S : Ctx := { tk := assoc tks, ar := assoc ars, fs := assoc [(42, S_laws_toIntA2)] }
abbrev laws_toIntA2S_l0_H := (List (Int × Int × Unit)) × (List (Int × Int × Unit)) × Int × Unit
abbrev laws_toIntA2S_l0_O := ((List (Int × Int × Unit)) × Unit) ⊕ Empty
def laws_toIntA2S_l0_h : Form := [(0, .v K_SPiiq), (3, .own K_SPiiq 99), (4, .v I)]
def laws_toIntA2S_l0_o : Outs := [(.normal, [(3, .own K_SPiiq 99)])]
noncomputable def laws_toIntA2S_l0_r (N : Nat) (back : laws_toIntA2S_l0_H → Option laws_toIntA2S_l0_O) (d : laws_toIntA2S_l0_H) : Option laws_toIntA2S_l0_O :=
  let s0 : List (Int × Int × Unit) := d.1
  let s3 : List (Int × Int × Unit) := d.2.1
  let s4 : Int := d.2.2.1
  if (decide (s4 < (List.length s0 : Int))) = true then
    if (idxIn s4 (List.length s0)) = true then
    (G_toIntA2 (at_ K_Piiq s0 s4.toNat, ())).bind fun r6 =>
    if (idxIn s4 (List.length s3)) = true then
    let x7 : Int := IntKind.wrap .i64 (s4 + (1 : Int))
    back ((s0, (List.set s3 s4.toNat r6.1, (x7, ()))))
    else none
    else none
  else
    some (.inl (s3, ()))
noncomputable def laws_toIntA2S_l0 (N : Nat) : Nat → laws_toIntA2S_l0_H → Option laws_toIntA2S_l0_O
  | 0, _ => none
  | k + 1, d => laws_toIntA2S_l0_r N (laws_toIntA2S_l0 N k) d
theorem laws_toIntA2S_l0_ok (N : Nat) (back) (d) : roundR Γ_laws_toIntA2S (assoc []) 0 laws_toIntA2S_l0_h laws_toIntA2S_l0_o (loopOf Try.f24 0) back d = laws_toIntA2S_l0_r N back d := by kernel_rfl
noncomputable def F_laws_toIntA2S (N : Nat) (d : (List (Int × Int × Unit)) × Unit) : Option ((List (Int × Int × Unit)) × Unit) :=
  let a0 : List (Int × Int × Unit) := d.1
  if ((decide (0 ≤ (List.length a0 : Int)) && decide ((List.length a0 : Int) ≤ (List.length a0 : Int)) && decide ((List.length a0 : Int) ≤ (lim : Int)))) = true then
  let x1 : List (Int × Int × Unit) := List.replicate (List.length a0 : Int).toNat (((0 : Int), ((0 : Int), ())))
  (laws_toIntA2S_l0 N N ((a0, (x1, ((0 : Int), ()))))).bind fun o4 => match o4 with
  | .inl d5 =>
    some (d5.1, ())
  else none
theorem F_laws_toIntA2S_ok (N : Nat) (d) : fnR Γ_laws_toIntA2S (assoc [(0, ⟨laws_toIntA2S_l0_h, laws_toIntA2S_l0_o, laws_toIntA2S_l0 N N⟩)]) true [(K_SPiiq, false)] [K_SPiiq] Try.f24.results.toList (bodyOf Try.f24) d = F_laws_toIntA2S N d := by kernel_rfl
noncomputable def S_laws_toIntA2S : FSig := ⟨[(K_SPiiq, false)], [K_SPiiq], true, (G_toIntA2S)⟩
noncomputable def Γ_laws_toGraph : Ctx := { tk := assoc tks, ar := assoc ars, fs := assoc [(24, S_laws_toIntA2S)] }
noncomputable def F_laws_toGraph (N : Nat) (d : (Int × (List (Int × Int × Unit)) × Unit) × Unit) : Option ((Int × (List (Int × Int × Unit)) × Unit) × Unit) :=
  let a0 : Int × (List (Int × Int × Unit)) × Unit := d.1
  (G_toIntA2S (a0.2.1, ())).bind fun r1 =>
  some (((a0.1, (r1.1, ())), ()))
theorem F_laws_toGraph_ok (N : Nat) (d) : fnR Γ_laws_toGraph (assoc []) true [(K_PiSPiiqq, false)] [K_PiSPiiqq] Try.f9.results.toList (bodyOf Try.f9) d = F_laws_toGraph N d := by kernel_rfl
noncomputable def S_laws_toGraph : FSig := ⟨[(K_PiSPiiqq, false)], [K_PiSPiiqq], true, (F_laws_toGraph 0)⟩
noncomputable def Γ_laws_toIntS : Ctx := { tk := assoc tks, ar := assoc ars, fs := assoc [] }
abbrev laws_toIntS_l0_H := List Int × List Int × Int × Unit
abbrev laws_toIntS_l0_O := (List Int × Unit) ⊕ Empty
def laws_toIntS_l0_h : Form := [(0, .v K_Si), (3, .own K_Si 99), (4, .v I)]
def laws_toIntS_l0_o : Outs := [(.normal, [(3, .own K_Si 99)])]
noncomputable def laws_toIntS_l0_r (N : Nat) (back : laws_toIntS_l0_H → Option laws_toIntS_l0_O) (d : laws_toIntS_l0_H) : Option laws_toIntS_l0_O :=
  let s0 : List Int := d.1
  let s3 : List Int := d.2.1
  let s4 : Int := d.2.2.1
  if (decide (s4 < (List.length s0 : Int))) = true then
    if (idxIn s4 (List.length s0)) = true then
    if (idxIn s4 (List.length s3)) = true then
    let x6 : List Int := List.set s3 s4.toNat (at_ I s0 s4.toNat)
    let x7 : Int := IntKind.wrap .i64 (s4 + (1 : Int))
    back ((s0, (x6, (x7, ()))))
    else none
    else none
  else
    some (.inl (s3, ()))
noncomputable def laws_toIntS_l0 (N : Nat) : Nat → laws_toIntS_l0_H → Option laws_toIntS_l0_O
  | 0, _ => none
  | k + 1, d => laws_toIntS_l0_r N (laws_toIntS_l0 N k) d
theorem laws_toIntS_l0_ok (N : Nat) (back) (d) : roundR Γ_laws_toIntS (assoc []) 0 laws_toIntS_l0_h laws_toIntS_l0_o (loopOf Try.f15 0) back d = laws_toIntS_l0_r N back d := by kernel_rfl
noncomputable def F_laws_toIntS (N : Nat) (d : List Int × Unit) : Option (List Int × Unit) :=
  let a0 : List Int := d.1
  if ((decide (0 ≤ (List.length a0 : Int)) && decide ((List.length a0 : Int) ≤ (List.length a0 : Int)) && decide ((List.length a0 : Int) ≤ (lim : Int)))) = true then
  let x1 : List Int := List.replicate (List.length a0 : Int).toNat (0 : Int)
  (laws_toIntS_l0 N N ((a0, (x1, ((0 : Int), ()))))).bind fun o4 => match o4 with
  | .inl d5 =>
    some (d5.1, ())
  else none
theorem F_laws_toIntS_ok (N : Nat) (d) : fnR Γ_laws_toIntS (assoc [(0, ⟨laws_toIntS_l0_h, laws_toIntS_l0_o, laws_toIntS_l0 N N⟩)]) true [(K_Si, false)] [K_Si] Try.f15.results.toList (bodyOf Try.f15) d = F_laws_toIntS N d := by kernel_rfl
noncomputable def S_laws_toIntS : FSig := ⟨[(K_Si, false)], [K_Si], true, (G_toIntS)⟩
noncomputable def Γ_laws_toIntSS : Ctx := { tk := assoc tks, ar := assoc ars, fs := assoc [(15, S_laws_toIntS)] }
abbrev laws_toIntSS_l0_H := List (List Int) × List (List Int) × Int × Unit
abbrev laws_toIntSS_l0_O := (List (List Int) × Unit) ⊕ Empty
def laws_toIntSS_l0_h : Form := [(0, .v K_SSi), (3, .own K_SSi 99), (4, .v I)]
def laws_toIntSS_l0_o : Outs := [(.normal, [(3, .own K_SSi 99)])]
noncomputable def laws_toIntSS_l0_r (N : Nat) (back : laws_toIntSS_l0_H → Option laws_toIntSS_l0_O) (d : laws_toIntSS_l0_H) : Option laws_toIntSS_l0_O :=
  let s0 : List (List Int) := d.1
  let s3 : List (List Int) := d.2.1
  let s4 : Int := d.2.2.1
  if (decide (s4 < (List.length s0 : Int))) = true then
    if (idxIn s4 (List.length s0)) = true then
    (G_toIntS (at_ K_Si s0 s4.toNat, ())).bind fun r6 =>
    if (idxIn s4 (List.length s3)) = true then
    let x7 : Int := IntKind.wrap .i64 (s4 + (1 : Int))
    back ((s0, (List.set s3 s4.toNat r6.1, (x7, ()))))
    else none
    else none
  else
    some (.inl (s3, ()))
noncomputable def laws_toIntSS_l0 (N : Nat) : Nat → laws_toIntSS_l0_H → Option laws_toIntSS_l0_O
  | 0, _ => none
  | k + 1, d => laws_toIntSS_l0_r N (laws_toIntSS_l0 N k) d
theorem laws_toIntSS_l0_ok (N : Nat) (back) (d) : roundR Γ_laws_toIntSS (assoc []) 0 laws_toIntSS_l0_h laws_toIntSS_l0_o (loopOf Try.f10 0) back d = laws_toIntSS_l0_r N back d := by kernel_rfl
noncomputable def F_laws_toIntSS (N : Nat) (d : List (List Int) × Unit) : Option (List (List Int) × Unit) :=
  let a0 : List (List Int) := d.1
  if ((decide (0 ≤ (List.length a0 : Int)) && decide ((List.length a0 : Int) ≤ (List.length a0 : Int)) && decide ((List.length a0 : Int) ≤ (lim : Int)))) = true then
  let x1 : List (List Int) := List.replicate (List.length a0 : Int).toNat ([] : List Int)
  (laws_toIntSS_l0 N N ((a0, (x1, ((0 : Int), ()))))).bind fun o4 => match o4 with
  | .inl d5 =>
    some (d5.1, ())
  else none
theorem F_laws_toIntSS_ok (N : Nat) (d) : fnR Γ_laws_toIntSS (assoc [(0, ⟨laws_toIntSS_l0_h, laws_toIntSS_l0_o, laws_toIntSS_l0 N N⟩)]) true [(K_SSi, false)] [K_SSi] Try.f10.results.toList (bodyOf Try.f10) d = F_laws_toIntSS N d := by kernel_rfl
noncomputable def S_laws_toIntSS : FSig := ⟨[(K_SSi, false)], [K_SSi], true, (G_toIntSS)⟩
noncomputable def Γ_spec_l1In : Ctx := { tk := assoc tks, ar := assoc ars, fs := assoc [] }
noncomputable def F_spec_l1In (N : Nat) (d : Int × Int × Int × Unit) : Option (Bool × Unit) :=
  let a0 : Int := d.1
  let a1 : Int := d.2.1
  let a2 : Int := d.2.2.1
  if (decide (a0 ≥ a1)) = true then
    some (decide (a0 ≤ a2), ())
  else
    some (false, ())
theorem F_spec_l1In_ok (N : Nat) (d) : fnR Γ_spec_l1In (assoc []) true [(I, false), (I, false), (I, false)] [.bool] Try.f38.results.toList (bodyOf Try.f38) d = F_spec_l1In N d := by kernel_rfl
noncomputable def g_spec_l1In (d : Int × Int × Int × Unit) : Bool × Unit :=
  let a0 : Int := d.1
  let a1 : Int := d.2.1
  let a2 : Int := d.2.2.1
  if (decide (a0 ≥ a1)) = true then
    (decide (a0 ≤ a2), ())
  else
    (false, ())
theorem F_spec_l1In_tot (N : Nat) (d) : F_spec_l1In N d = some (g_spec_l1In d) := by
  unfold F_spec_l1In g_spec_l1In
  first
    | rfl
    | (dsimp only; (repeat' split) <;> rfl)
noncomputable def S_spec_l1In : FSig := ⟨[(I, false), (I, false), (I, false)], [.bool], true, (fun d => some (g_spec_l1In d))⟩
noncomputable def Γ_spec_l2Before : Ctx := { tk := assoc tks, ar := assoc ars, fs := assoc [] }
noncomputable def F_spec_l2Before (N : Nat) (d : (Int × Int × Unit) × (Int × Int × Unit) × Unit) : Option (Bool × Unit) :=
  let a0 : Int × Int × Unit := d.1
  let a1 : Int × Int × Unit := d.2.1
  if (decide (a0.1 < a1.1)) = true then
    some (true, ())
  else
    if (a0.1 == a1.1) = true then
      some (decide (a0.2.1 < a1.2.1), ())
    else
      some (false, ())
theorem F_spec_l2Before_ok (N : Nat) (d) : fnR Γ_spec_l2Before (assoc []) true [(K_Piiq, false), (K_Piiq, false)] [.bool] Try.f51.results.toList (bodyOf Try.f51) d = F_spec_l2Before N d := by kernel_rfl
noncomputable def g_spec_l2Before (d : (Int × Int × Unit) × (Int × Int × Unit) × Unit) : Bool × Unit :=
  let a0 : Int × Int × Unit := d.1
  let a1 : Int × Int × Unit := d.2.1
  if (decide (a0.1 < a1.1)) = true then
    (true, ())
  else
    if (a0.1 == a1.1) = true then
      (decide (a0.2.1 < a1.2.1), ())
    else
      (false, ())
theorem F_spec_l2Before_tot (N : Nat) (d) : F_spec_l2Before N d = some (g_spec_l2Before d) := by
  unfold F_spec_l2Before g_spec_l2Before
  first
    | rfl
    | (dsimp only; (repeat' split) <;> rfl)
noncomputable def S_spec_l2Before : FSig := ⟨[(K_Piiq, false), (K_Piiq, false)], [.bool], true, (fun d => some (g_spec_l2Before d))⟩
noncomputable def Γ_spec_l2Good : Ctx := { tk := assoc tks, ar := assoc ars, fs := assoc [(38, S_spec_l1In), (51, S_spec_l2Before)] }
abbrev spec_l2Good_l0_H := (Int × (List (Int × Int × Unit)) × Unit) × Int × Unit
abbrev spec_l2Good_l0_O := (Bool × Unit) ⊕ ((Int × (List (Int × Int × Unit)) × Unit) × Unit) ⊕ Empty
def spec_l2Good_l0_h : Form := [(1, .box K_PiSPiiqq 0), (3, .v I)]
def spec_l2Good_l0_o : Outs := [(.ret, [(2, .v .bool)]), (.normal, [(1, .box K_PiSPiiqq 0)])]
noncomputable def spec_l2Good_l0_r (N : Nat) (back : spec_l2Good_l0_H → Option spec_l2Good_l0_O) (d : spec_l2Good_l0_H) : Option spec_l2Good_l0_O :=
  let s1 : Int × (List (Int × Int × Unit)) × Unit := d.1
  let s3 : Int := d.2.1
  if (decide (s3 < (List.length s1.2.1 : Int))) = true then
    if (idxIn s3 (List.length s1.2.1)) = true then
    let x13 : Int := IntKind.wrap .i64 (s1.1 - (1 : Int))
    let r14 : Bool × Unit := g_spec_l1In (((at_ K_Piiq s1.2.1 s3.toNat).1, ((0 : Int), (x13, ()))))
    if (!r14.1) = true then
      some (.inl (false, ()))
    else
      let x15 : Int := IntKind.wrap .i64 (s1.1 - (1 : Int))
      let r16 : Bool × Unit := g_spec_l1In (((at_ K_Piiq s1.2.1 s3.toNat).2.1, ((0 : Int), (x15, ()))))
      if (!r16.1) = true then
        some (.inl (false, ()))
      else
        if (decide ((at_ K_Piiq s1.2.1 s3.toNat).1 ≥ (at_ K_Piiq s1.2.1 s3.toNat).2.1)) = true then
          some (.inl (false, ()))
        else
          if (decide (s3 > (0 : Int))) = true then
            let x17 : Int := IntKind.wrap .i64 (s3 - (1 : Int))
            if (idxIn x17 (List.length s1.2.1)) = true then
            let r18 : Bool × Unit := g_spec_l2Before ((at_ K_Piiq s1.2.1 x17.toNat, (at_ K_Piiq s1.2.1 s3.toNat, ())))
            if (!r18.1) = true then
              some (.inl (false, ()))
            else
              let x19 : Int := IntKind.wrap .i64 (s3 + (1 : Int))
              back ((s1, (x19, ())))
            else none
          else
            let x20 : Int := IntKind.wrap .i64 (s3 + (1 : Int))
            back ((s1, (x20, ())))
    else none
  else
    some (.inr (.inl (s1, ())))
noncomputable def spec_l2Good_l0 (N : Nat) : Nat → spec_l2Good_l0_H → Option spec_l2Good_l0_O
  | 0, _ => none
  | k + 1, d => spec_l2Good_l0_r N (spec_l2Good_l0 N k) d
theorem spec_l2Good_l0_ok (N : Nat) (back) (d) : roundR Γ_spec_l2Good (assoc []) 0 spec_l2Good_l0_h spec_l2Good_l0_o (loopOf Try.f28 0) back d = spec_l2Good_l0_r N back d := by kernel_rfl
noncomputable def F_spec_l2Good (N : Nat) (d : (Int × (List (Int × Int × Unit)) × Unit) × Unit) : Option (Bool × Unit) :=
  let a0 : Int × (List (Int × Int × Unit)) × Unit := d.1
  (spec_l2Good_l0 N N ((a0, ((0 : Int), ())))).bind fun o9 => match o9 with
  | .inl d10 =>
    some (d10.1, ())
  | .inr (.inl d11) =>
    let r12 : Bool × Unit := g_spec_l1In ((d11.1.1, ((0 : Int), ((8 : Int), ()))))
    some (r12.1, ())
theorem F_spec_l2Good_ok (N : Nat) (d) : fnR Γ_spec_l2Good (assoc [(0, ⟨spec_l2Good_l0_h, spec_l2Good_l0_o, spec_l2Good_l0 N N⟩)]) true [(K_PiSPiiqq, false)] [.bool] Try.f28.results.toList (bodyOf Try.f28) d = F_spec_l2Good N d := by kernel_rfl
noncomputable def S_spec_l2Good : FSig := ⟨[(K_PiSPiiqq, false)], [.bool], true, (G_graph)⟩
noncomputable def Γ_spec_l4Field : Ctx := { tk := assoc tks, ar := assoc ars, fs := assoc [(28, S_spec_l2Good), (38, S_spec_l1In)] }
noncomputable def F_spec_l4Field (N : Nat) (d : (Int × (List (Int × Int × Unit)) × Unit) × Int × Unit) : Option (Bool × Unit) :=
  let a0 : Int × (List (Int × Int × Unit)) × Unit := d.1
  let a1 : Int := d.2.1
  (G_graph (a0, ())).bind fun r1 =>
  if (r1.1) = true then
    if (decide (a0.1 > (0 : Int))) = true then
      let r2 : Bool × Unit := g_spec_l1In ((a1, ((1 : Int), ((3 : Int), ()))))
      some (r2.1, ())
    else
      some (false, ())
  else
    some (false, ())
theorem F_spec_l4Field_ok (N : Nat) (d) : fnR Γ_spec_l4Field (assoc []) true [(K_PiSPiiqq, false), (I, false)] [.bool] Try.f22.results.toList (bodyOf Try.f22) d = F_spec_l4Field N d := by kernel_rfl
noncomputable def S_spec_l4Field : FSig := ⟨[(K_PiSPiiqq, false), (I, false)], [.bool], true, (F_spec_l4Field 0)⟩
noncomputable def Γ_spec_l2Node : Ctx := { tk := assoc tks, ar := assoc ars, fs := assoc [(38, S_spec_l1In)] }
noncomputable def F_spec_l2Node (N : Nat) (d : (Int × (List (Int × Int × Unit)) × Unit) × Int × Unit) : Option (Bool × Unit) :=
  let a0 : Int × (List (Int × Int × Unit)) × Unit := d.1
  let a1 : Int := d.2.1
  let x1 : Int := IntKind.wrap .i64 (a0.1 - (1 : Int))
  let r2 : Bool × Unit := g_spec_l1In ((a1, ((0 : Int), (x1, ()))))
  some (r2.1, ())
theorem F_spec_l2Node_ok (N : Nat) (d) : fnR Γ_spec_l2Node (assoc []) true [(K_PiSPiiqq, false), (I, false)] [.bool] Try.f29.results.toList (bodyOf Try.f29) d = F_spec_l2Node N d := by kernel_rfl
noncomputable def g_spec_l2Node (d : (Int × (List (Int × Int × Unit)) × Unit) × Int × Unit) : Bool × Unit :=
  let a0 : Int × (List (Int × Int × Unit)) × Unit := d.1
  let a1 : Int := d.2.1
  let x1 : Int := IntKind.wrap .i64 (a0.1 - (1 : Int))
  let r2 : Bool × Unit := g_spec_l1In ((a1, ((0 : Int), (x1, ()))))
  (r2.1, ())
theorem F_spec_l2Node_tot (N : Nat) (d) : F_spec_l2Node N d = some (g_spec_l2Node d) := by
  unfold F_spec_l2Node g_spec_l2Node
  first
    | rfl
    | (dsimp only; (repeat' split) <;> rfl)
noncomputable def S_spec_l2Node : FSig := ⟨[(K_PiSPiiqq, false), (I, false)], [.bool], true, (fun d => some (g_spec_l2Node d))⟩
noncomputable def Γ_spec_l4Cops : Ctx := { tk := assoc tks, ar := assoc ars, fs := assoc [(29, S_spec_l2Node)] }
abbrev spec_l4Cops_l0_H := List Int × (Int × (List (Int × Int × Unit)) × Unit) × Int × Unit
abbrev spec_l4Cops_l0_O := (Bool × Unit) ⊕ Unit ⊕ Empty
def spec_l4Cops_l0_h : Form := [(1, .v K_Si), (2, .box K_PiSPiiqq 0), (5, .v I)]
def spec_l4Cops_l0_o : Outs := [(.ret, [(4, .v .bool)]), (.normal, [])]
noncomputable def spec_l4Cops_l0_r (N : Nat) (back : spec_l4Cops_l0_H → Option spec_l4Cops_l0_O) (d : spec_l4Cops_l0_H) : Option spec_l4Cops_l0_O :=
  let s1 : List Int := d.1
  let s2 : Int × (List (Int × Int × Unit)) × Unit := d.2.1
  let s5 : Int := d.2.2.1
  if (decide (s5 < (List.length s1 : Int))) = true then
    if (idxIn s5 (List.length s1)) = true then
    let r8 : Bool × Unit := g_spec_l2Node ((s2, (at_ I s1 s5.toNat, ())))
    if (!r8.1) = true then
      some (.inl (false, ()))
    else
      if (decide (s5 > (0 : Int))) = true then
        let x9 : Int := IntKind.wrap .i64 (s5 - (1 : Int))
        if (idxIn x9 (List.length s1)) = true then
        if (idxIn s5 (List.length s1)) = true then
        if (decide (at_ I s1 x9.toNat > at_ I s1 s5.toNat)) = true then
          some (.inl (false, ()))
        else
          let x10 : Int := IntKind.wrap .i64 (s5 + (1 : Int))
          back ((s1, (s2, (x10, ()))))
        else none
        else none
      else
        let x11 : Int := IntKind.wrap .i64 (s5 + (1 : Int))
        back ((s1, (s2, (x11, ()))))
    else none
  else
    some (.inr (.inl ()))
noncomputable def spec_l4Cops_l0 (N : Nat) : Nat → spec_l4Cops_l0_H → Option spec_l4Cops_l0_O
  | 0, _ => none
  | k + 1, d => spec_l4Cops_l0_r N (spec_l4Cops_l0 N k) d
theorem spec_l4Cops_l0_ok (N : Nat) (back) (d) : roundR Γ_spec_l4Cops (assoc []) 0 spec_l4Cops_l0_h spec_l4Cops_l0_o (loopOf Try.f39 0) back d = spec_l4Cops_l0_r N back d := by kernel_rfl
noncomputable def F_spec_l4Cops (N : Nat) (d : (Int × (List (Int × Int × Unit)) × Unit) × List Int × Unit) : Option (Bool × Unit) :=
  let a0 : Int × (List (Int × Int × Unit)) × Unit := d.1
  let a1 : List Int := d.2.1
  (spec_l4Cops_l0 N N ((a1, (a0, ((0 : Int), ()))))).bind fun o5 => match o5 with
  | .inl d6 =>
    some (d6.1, ())
  | .inr (.inl d7) =>
    some (true, ())
theorem F_spec_l4Cops_ok (N : Nat) (d) : fnR Γ_spec_l4Cops (assoc [(0, ⟨spec_l4Cops_l0_h, spec_l4Cops_l0_o, spec_l4Cops_l0 N N⟩)]) true [(K_PiSPiiqq, false), (K_Si, false)] [.bool] Try.f39.results.toList (bodyOf Try.f39) d = F_spec_l4Cops N d := by kernel_rfl
noncomputable def S_spec_l4Cops : FSig := ⟨[(K_PiSPiiqq, false), (K_Si, false)], [.bool], true, (G_l4Cops)⟩
noncomputable def Γ_spec_l2Near : Ctx := { tk := assoc tks, ar := assoc ars, fs := assoc [] }
abbrev spec_l2Near_l0_H := Int × Int × (Int × (List (Int × Int × Unit)) × Unit) × Int × Unit
abbrev spec_l2Near_l0_O := (Bool × Unit) ⊕ Unit ⊕ Empty
def spec_l2Near_l0_h : Form := [(1, .v I), (2, .v I), (3, .box K_PiSPiiqq 0), (7, .v I)]
def spec_l2Near_l0_o : Outs := [(.ret, [(6, .v .bool)]), (.normal, [])]
noncomputable def spec_l2Near_l0_r (N : Nat) (back : spec_l2Near_l0_H → Option spec_l2Near_l0_O) (d : spec_l2Near_l0_H) : Option spec_l2Near_l0_O :=
  let s1 : Int := d.1
  let s2 : Int := d.2.1
  let s3 : Int × (List (Int × Int × Unit)) × Unit := d.2.2.1
  let s7 : Int := d.2.2.2.1
  if (decide (s7 < (List.length s3.2.1 : Int))) = true then
    if (idxIn s7 (List.length s3.2.1)) = true then
    if ((at_ K_Piiq s3.2.1 s7.toNat).1 == s1) = true then
      if ((at_ K_Piiq s3.2.1 s7.toNat).2.1 == s2) = true then
        some (.inl (true, ()))
      else
        if ((at_ K_Piiq s3.2.1 s7.toNat).1 == s2) = true then
          if ((at_ K_Piiq s3.2.1 s7.toNat).2.1 == s1) = true then
            some (.inl (true, ()))
          else
            let x8 : Int := IntKind.wrap .i64 (s7 + (1 : Int))
            back ((s1, (s2, (s3, (x8, ())))))
        else
          let x9 : Int := IntKind.wrap .i64 (s7 + (1 : Int))
          back ((s1, (s2, (s3, (x9, ())))))
    else
      if ((at_ K_Piiq s3.2.1 s7.toNat).1 == s2) = true then
        if ((at_ K_Piiq s3.2.1 s7.toNat).2.1 == s1) = true then
          some (.inl (true, ()))
        else
          let x10 : Int := IntKind.wrap .i64 (s7 + (1 : Int))
          back ((s1, (s2, (s3, (x10, ())))))
      else
        let x11 : Int := IntKind.wrap .i64 (s7 + (1 : Int))
        back ((s1, (s2, (s3, (x11, ())))))
    else none
  else
    some (.inr (.inl ()))
noncomputable def spec_l2Near_l0 (N : Nat) : Nat → spec_l2Near_l0_H → Option spec_l2Near_l0_O
  | 0, _ => none
  | k + 1, d => spec_l2Near_l0_r N (spec_l2Near_l0 N k) d
theorem spec_l2Near_l0_ok (N : Nat) (back) (d) : roundR Γ_spec_l2Near (assoc []) 0 spec_l2Near_l0_h spec_l2Near_l0_o (loopOf Try.f75 0) back d = spec_l2Near_l0_r N back d := by kernel_rfl
noncomputable def F_spec_l2Near (N : Nat) (d : (Int × (List (Int × Int × Unit)) × Unit) × Int × Int × Unit) : Option (Bool × Unit) :=
  let a0 : Int × (List (Int × Int × Unit)) × Unit := d.1
  let a1 : Int := d.2.1
  let a2 : Int := d.2.2.1
  (spec_l2Near_l0 N N ((a1, (a2, (a0, ((0 : Int), ())))))).bind fun o5 => match o5 with
  | .inl d6 =>
    some (d6.1, ())
  | .inr (.inl d7) =>
    some (false, ())
theorem F_spec_l2Near_ok (N : Nat) (d) : fnR Γ_spec_l2Near (assoc [(0, ⟨spec_l2Near_l0_h, spec_l2Near_l0_o, spec_l2Near_l0 N N⟩)]) true [(K_PiSPiiqq, false), (I, false), (I, false)] [.bool] Try.f75.results.toList (bodyOf Try.f75) d = F_spec_l2Near N d := by kernel_rfl
noncomputable def S_spec_l2Near : FSig := ⟨[(K_PiSPiiqq, false), (I, false), (I, false)], [.bool], true, (G_l2Near)⟩
noncomputable def Γ_spec_l2Neighbors : Ctx := { tk := assoc tks, ar := assoc ars, fs := assoc [(75, S_spec_l2Near)] }
abbrev spec_l2Neighbors_l0_H := Int × (Int × (List (Int × Int × Unit)) × Unit) × List Int × Int × Unit
abbrev spec_l2Neighbors_l0_O := (List Int × Unit) ⊕ Empty
def spec_l2Neighbors_l0_h : Form := [(1, .v I), (2, .box K_PiSPiiqq 0), (5, .own K_Si 99), (6, .v I)]
def spec_l2Neighbors_l0_o : Outs := [(.normal, [(5, .own K_Si 99)])]
noncomputable def spec_l2Neighbors_l0_r (N : Nat) (back : spec_l2Neighbors_l0_H → Option spec_l2Neighbors_l0_O) (d : spec_l2Neighbors_l0_H) : Option spec_l2Neighbors_l0_O :=
  let s1 : Int := d.1
  let s2 : Int × (List (Int × Int × Unit)) × Unit := d.2.1
  let s5 : List Int := d.2.2.1
  let s6 : Int := d.2.2.2.1
  if (decide (s6 < s2.1)) = true then
    (G_l2Near ((s2, (s1, (s6, ()))))).bind fun r6 =>
    if (r6.1) = true then
      if (decide (List.length s5 + List.length ([s6]) ≤ lim)) = true then
      let x7 : Int := IntKind.wrap .i64 (s6 + (1 : Int))
      back ((s1, (s2, (s5 ++ ([s6]), (x7, ())))))
      else none
    else
      let x8 : Int := IntKind.wrap .i64 (s6 + (1 : Int))
      back ((s1, (s2, (s5, (x8, ())))))
  else
    some (.inl (s5, ()))
noncomputable def spec_l2Neighbors_l0 (N : Nat) : Nat → spec_l2Neighbors_l0_H → Option spec_l2Neighbors_l0_O
  | 0, _ => none
  | k + 1, d => spec_l2Neighbors_l0_r N (spec_l2Neighbors_l0 N k) d
theorem spec_l2Neighbors_l0_ok (N : Nat) (back) (d) : roundR Γ_spec_l2Neighbors (assoc []) 0 spec_l2Neighbors_l0_h spec_l2Neighbors_l0_o (loopOf Try.f53 0) back d = spec_l2Neighbors_l0_r N back d := by kernel_rfl
noncomputable def F_spec_l2Neighbors (N : Nat) (d : (Int × (List (Int × Int × Unit)) × Unit) × Int × Unit) : Option (List Int × Unit) :=
  let a0 : Int × (List (Int × Int × Unit)) × Unit := d.1
  let a1 : Int := d.2.1
  (spec_l2Neighbors_l0 N N ((a1, (a0, (([] : List Int), ((0 : Int), ())))))).bind fun o4 => match o4 with
  | .inl d5 =>
    some (d5.1, ())
theorem F_spec_l2Neighbors_ok (N : Nat) (d) : fnR Γ_spec_l2Neighbors (assoc [(0, ⟨spec_l2Neighbors_l0_h, spec_l2Neighbors_l0_o, spec_l2Neighbors_l0 N N⟩)]) true [(K_PiSPiiqq, false), (I, false)] [K_Si] Try.f53.results.toList (bodyOf Try.f53) d = F_spec_l2Neighbors N d := by kernel_rfl
noncomputable def S_spec_l2Neighbors : FSig := ⟨[(K_PiSPiiqq, false), (I, false)], [K_Si], true, (G_l2Neighbors)⟩
noncomputable def Γ_spec_l1Put : Ctx := { tk := assoc tks, ar := assoc ars, fs := assoc [] }
abbrev spec_l1Put_l0_H := List Int × Int × Int × Unit
abbrev spec_l1Put_l0_O := (List Int × Int × Int × Unit) ⊕ Empty
def spec_l1Put_l0_h : Form := [(0, .v K_Si), (1, .v I), (5, .v I)]
def spec_l1Put_l0_o : Outs := [(.normal, [(0, .v K_Si), (1, .v I), (5, .v I)])]
noncomputable def spec_l1Put_l0_r (N : Nat) (back : spec_l1Put_l0_H → Option spec_l1Put_l0_O) (d : spec_l1Put_l0_H) : Option spec_l1Put_l0_O :=
  let s0 : List Int := d.1
  let s1 : Int := d.2.1
  let s5 : Int := d.2.2.1
  if (decide (s5 < (List.length s0 : Int))) = true then
    if (idxIn s5 (List.length s0)) = true then
    if (decide (at_ I s0 s5.toNat < s1)) = true then
      let x11 : Int := IntKind.wrap .i64 (s5 + (1 : Int))
      back ((s0, (s1, (x11, ()))))
    else
      some (.inl ((s0, (s1, (s5, ())))))
    else none
  else
    some (.inl ((s0, (s1, (s5, ())))))
noncomputable def spec_l1Put_l0 (N : Nat) : Nat → spec_l1Put_l0_H → Option spec_l1Put_l0_O
  | 0, _ => none
  | k + 1, d => spec_l1Put_l0_r N (spec_l1Put_l0 N k) d
theorem spec_l1Put_l0_ok (N : Nat) (back) (d) : roundR Γ_spec_l1Put (assoc []) 0 spec_l1Put_l0_h spec_l1Put_l0_o (loopOf Try.f52 0) back d = spec_l1Put_l0_r N back d := by kernel_rfl
noncomputable def F_spec_l1Put (N : Nat) (d : List Int × Int × Unit) : Option (List Int × Unit) :=
  let a0 : List Int := d.1
  let a1 : Int := d.2.1
  (spec_l1Put_l0 N N ((a0, (a1, ((0 : Int), ()))))).bind fun o5 => match o5 with
  | .inl d6 =>
    if (decide (d6.2.2.1 < (List.length d6.1 : Int))) = true then
      if (idxIn d6.2.2.1 (List.length d6.1)) = true then
      if (at_ I d6.1 d6.2.2.1.toNat == d6.2.1) = true then
        some (d6.1, ())
      else
        if ((decide (0 ≤ (0 : Int)) && decide ((0 : Int) ≤ d6.2.2.1) && decide (d6.2.2.1 ≤ (List.length d6.1 : Int)))) = true then
        if (decide (List.length ([] : List Int) + List.length (sub_ d6.1 (0 : Int) d6.2.2.1) ≤ lim)) = true then
        let x7 : List Int := ([] : List Int) ++ (sub_ d6.1 (0 : Int) d6.2.2.1)
        if (decide (List.length x7 + List.length ([d6.2.1]) ≤ lim)) = true then
        if ((decide (0 ≤ d6.2.2.1) && decide (d6.2.2.1 ≤ (List.length d6.1 : Int)) && decide ((List.length d6.1 : Int) ≤ (List.length d6.1 : Int)))) = true then
        let x8 : List Int := sub_ d6.1 d6.2.2.1 (List.length d6.1 : Int)
        if (decide (List.length (x7 ++ ([d6.2.1])) + List.length x8 ≤ lim)) = true then
        some (((x7 ++ ([d6.2.1])) ++ x8, ()))
        else none
        else none
        else none
        else none
        else none
      else none
    else
      if ((decide (0 ≤ (0 : Int)) && decide ((0 : Int) ≤ d6.2.2.1) && decide (d6.2.2.1 ≤ (List.length d6.1 : Int)))) = true then
      if (decide (List.length ([] : List Int) + List.length (sub_ d6.1 (0 : Int) d6.2.2.1) ≤ lim)) = true then
      let x9 : List Int := ([] : List Int) ++ (sub_ d6.1 (0 : Int) d6.2.2.1)
      if (decide (List.length x9 + List.length ([d6.2.1]) ≤ lim)) = true then
      if ((decide (0 ≤ d6.2.2.1) && decide (d6.2.2.1 ≤ (List.length d6.1 : Int)) && decide ((List.length d6.1 : Int) ≤ (List.length d6.1 : Int)))) = true then
      let x10 : List Int := sub_ d6.1 d6.2.2.1 (List.length d6.1 : Int)
      if (decide (List.length (x9 ++ ([d6.2.1])) + List.length x10 ≤ lim)) = true then
      some (((x9 ++ ([d6.2.1])) ++ x10, ()))
      else none
      else none
      else none
      else none
      else none
theorem F_spec_l1Put_ok (N : Nat) (d) : fnR Γ_spec_l1Put (assoc [(0, ⟨spec_l1Put_l0_h, spec_l1Put_l0_o, spec_l1Put_l0 N N⟩)]) false [(K_Si, false), (I, false)] [K_Si] Try.f52.results.toList (bodyOf Try.f52) d = F_spec_l1Put N d := by kernel_rfl
noncomputable def S_spec_l1Put : FSig := ⟨[(K_Si, false), (I, false)], [K_Si], false, (G_l1Put)⟩
noncomputable def Γ_spec_l2Ball : Ctx := { tk := assoc tks, ar := assoc ars, fs := assoc [(52, S_spec_l1Put), (53, S_spec_l2Neighbors)] }
noncomputable def F_spec_l2Ball (N : Nat) (d : (Int × (List (Int × Int × Unit)) × Unit) × Int × Unit) : Option (List Int × Unit) :=
  let a0 : Int × (List (Int × Int × Unit)) × Unit := d.1
  let a1 : Int := d.2.1
  (G_l2Neighbors ((a0, (a1, ())))).bind fun r3 =>
  (G_l1Put ((r3.1, (a1, ())))).bind fun r4 =>
  some (r4.1, ())
theorem F_spec_l2Ball_ok (N : Nat) (d) : fnR Γ_spec_l2Ball (assoc []) false [(K_PiSPiiqq, false), (I, false)] [K_Si] Try.f31.results.toList (bodyOf Try.f31) d = F_spec_l2Ball N d := by kernel_rfl
noncomputable def S_spec_l2Ball : FSig := ⟨[(K_PiSPiiqq, false), (I, false)], [K_Si], false, (F_spec_l2Ball 0)⟩
noncomputable def Γ_spec_l1Own : Ctx := { tk := assoc tks, ar := assoc ars, fs := assoc [] }
noncomputable def F_spec_l1Own (N : Nat) (d : List Int × Unit) : Option (List Int × Unit) :=
  let a0 : List Int := d.1
  if (decide (List.length ([] : List Int) + List.length a0 ≤ lim)) = true then
  some (([] : List Int) ++ a0, ())
  else none
theorem F_spec_l1Own_ok (N : Nat) (d) : fnR Γ_spec_l1Own (assoc []) true [(K_Si, false)] [K_Si] Try.f62.results.toList (bodyOf Try.f62) d = F_spec_l1Own N d := by kernel_rfl
noncomputable def S_spec_l1Own : FSig := ⟨[(K_Si, false)], [K_Si], true, (F_spec_l1Own 0)⟩
noncomputable def Γ_spec_l4Sorted : Ctx := { tk := assoc tks, ar := assoc ars, fs := assoc [], dm := fun t => Nat.beq t 3, cs := assoc [] }
abbrev spec_l4Sorted_l2_H := List Int × List Int × Int × Int × Unit
abbrev spec_l4Sorted_l2_O := (List Int × List Int × Int × Int × Unit) ⊕ Empty
def spec_l4Sorted_l2_h : Form := [(0, .v K_Si), (3, .v K_Si), (4, .v I), (5, .v I)]
def spec_l4Sorted_l2_o : Outs := [(.normal, [(0, .v K_Si), (3, .v K_Si), (4, .v I), (5, .v I)])]
noncomputable def spec_l4Sorted_l2_r (N : Nat) (back : spec_l4Sorted_l2_H → Option spec_l4Sorted_l2_O) (d : spec_l4Sorted_l2_H) : Option spec_l4Sorted_l2_O :=
  let s0 : List Int := d.1
  let s3 : List Int := d.2.1
  let s4 : Int := d.2.2.1
  let s5 : Int := d.2.2.2.1
  if (decide (s5 < (List.length s3 : Int))) = true then
    if (idxIn s5 (List.length s3)) = true then
    if (idxIn s4 (List.length s0)) = true then
    if (decide (at_ I s3 s5.toNat ≤ at_ I s0 s4.toNat)) = true then
      let x26 : Int := IntKind.wrap .i64 (s5 + (1 : Int))
      back ((s0, (s3, (s4, (x26, ())))))
    else
      some (.inl ((s0, (s3, (s4, (s5, ()))))))
    else none
    else none
  else
    some (.inl ((s0, (s3, (s4, (s5, ()))))))
noncomputable def spec_l4Sorted_l2 (N : Nat) : Nat → spec_l4Sorted_l2_H → Option spec_l4Sorted_l2_O
  | 0, _ => none
  | k + 1, d => spec_l4Sorted_l2_r N (spec_l4Sorted_l2 N k) d
theorem spec_l4Sorted_l2_ok (N : Nat) (back) (d) : roundR Γ_spec_l4Sorted (assoc []) 2 spec_l4Sorted_l2_h spec_l4Sorted_l2_o (loopOf Try.f64 2) back d = spec_l4Sorted_l2_r N back d := by kernel_rfl
abbrev spec_l4Sorted_l0_H := List Int × List Int × Int × Unit
abbrev spec_l4Sorted_l0_O := (List Int × Unit) ⊕ Empty
def spec_l4Sorted_l0_h : Form := [(0, .v K_Si), (3, .v K_Si), (4, .v I)]
def spec_l4Sorted_l0_o : Outs := [(.normal, [(3, .v K_Si)])]
noncomputable def spec_l4Sorted_l0_r (N : Nat) (back : spec_l4Sorted_l0_H → Option spec_l4Sorted_l0_O) (d : spec_l4Sorted_l0_H) : Option spec_l4Sorted_l0_O :=
  let s0 : List Int := d.1
  let s3 : List Int := d.2.1
  let s4 : Int := d.2.2.1
  if (decide (s4 < (List.length s0 : Int))) = true then
    (spec_l4Sorted_l2 N N ((s0, (s3, (s4, ((0 : Int), ())))))).bind fun o20 => match o20 with
    | .inl d21 =>
      if ((decide (0 ≤ (0 : Int)) && decide ((0 : Int) ≤ d21.2.2.2.1) && decide (d21.2.2.2.1 ≤ (List.length d21.2.1 : Int)))) = true then
      let x22 : List Int := sub_ d21.2.1 (0 : Int) d21.2.2.2.1
      if (decide (List.length ([] : List Int) + List.length x22 ≤ lim)) = true then
      if (idxIn d21.2.2.1 (List.length d21.1)) = true then
      if (decide (List.length (([] : List Int) ++ x22) + List.length ([at_ I d21.1 d21.2.2.1.toNat]) ≤ lim)) = true then
      let x23 : List Int := (([] : List Int) ++ x22) ++ ([at_ I d21.1 d21.2.2.1.toNat])
      if ((decide (0 ≤ d21.2.2.2.1) && decide (d21.2.2.2.1 ≤ (List.length d21.2.1 : Int)) && decide ((List.length d21.2.1 : Int) ≤ (List.length d21.2.1 : Int)))) = true then
      let x24 : List Int := sub_ d21.2.1 d21.2.2.2.1 (List.length d21.2.1 : Int)
      if (decide (List.length x23 + List.length x24 ≤ lim)) = true then
      let x25 : Int := IntKind.wrap .i64 (d21.2.2.1 + (1 : Int))
      back ((d21.1, (x23 ++ x24, (x25, ()))))
      else none
      else none
      else none
      else none
      else none
      else none
  else
    some (.inl (s3, ()))
noncomputable def spec_l4Sorted_l0 (N : Nat) : Nat → spec_l4Sorted_l0_H → Option spec_l4Sorted_l0_O
  | 0, _ => none
  | k + 1, d => spec_l4Sorted_l0_r N (spec_l4Sorted_l0 N k) d
theorem spec_l4Sorted_l0_ok (N : Nat) (back) (d) : roundR Γ_spec_l4Sorted (assoc [(2, ⟨spec_l4Sorted_l2_h, spec_l4Sorted_l2_o, spec_l4Sorted_l2 N N⟩)]) 0 spec_l4Sorted_l0_h spec_l4Sorted_l0_o (loopOf Try.f64 0) back d = spec_l4Sorted_l0_r N back d := by kernel_rfl
noncomputable def F_spec_l4Sorted (N : Nat) (d : List Int × Unit) : Option (List Int × Unit) :=
  let a0 : List Int := d.1
  (spec_l4Sorted_l0 N N ((a0, (([] : List Int), ((0 : Int), ()))))).bind fun o17 => match o17 with
  | .inl d18 =>
    some (d18.1, ())
theorem F_spec_l4Sorted_ok (N : Nat) (d) : fnR Γ_spec_l4Sorted (assoc [(0, ⟨spec_l4Sorted_l0_h, spec_l4Sorted_l0_o, spec_l4Sorted_l0 N N⟩)]) false [(K_Si, false)] [K_Si] Try.f64.results.toList (bodyOf Try.f64) d = F_spec_l4Sorted N d := by kernel_rfl
noncomputable def S_spec_l4Sorted : FSig := ⟨[(K_Si, false)], [K_Si], false, (G_l4Sorted)⟩
noncomputable def Γ_spec_l4Less : Ctx := { tk := assoc tks, ar := assoc ars, fs := assoc [] }
abbrev spec_l4Less_l0_H := List Int × List Int × Int × Unit
abbrev spec_l4Less_l0_O := (Bool × Unit) ⊕ Unit ⊕ Empty
def spec_l4Less_l0_h : Form := [(0, .v K_Si), (1, .v K_Si), (5, .v I)]
def spec_l4Less_l0_o : Outs := [(.ret, [(4, .v .bool)]), (.normal, [])]
noncomputable def spec_l4Less_l0_r (N : Nat) (back : spec_l4Less_l0_H → Option spec_l4Less_l0_O) (d : spec_l4Less_l0_H) : Option spec_l4Less_l0_O :=
  let s0 : List Int := d.1
  let s1 : List Int := d.2.1
  let s5 : Int := d.2.2.1
  if (decide (s5 < (List.length s0 : Int))) = true then
    if (idxIn s5 (List.length s0)) = true then
    if (idxIn s5 (List.length s1)) = true then
    if (at_ I s0 s5.toNat != at_ I s1 s5.toNat) = true then
      if (idxIn s5 (List.length s0)) = true then
      if (idxIn s5 (List.length s1)) = true then
      some (.inl (decide (at_ I s0 s5.toNat < at_ I s1 s5.toNat), ()))
      else none
      else none
    else
      let x5 : Int := IntKind.wrap .i64 (s5 + (1 : Int))
      back ((s0, (s1, (x5, ()))))
    else none
    else none
  else
    some (.inr (.inl ()))
noncomputable def spec_l4Less_l0 (N : Nat) : Nat → spec_l4Less_l0_H → Option spec_l4Less_l0_O
  | 0, _ => none
  | k + 1, d => spec_l4Less_l0_r N (spec_l4Less_l0 N k) d
theorem spec_l4Less_l0_ok (N : Nat) (back) (d) : roundR Γ_spec_l4Less (assoc []) 0 spec_l4Less_l0_h spec_l4Less_l0_o (loopOf Try.f78 0) back d = spec_l4Less_l0_r N back d := by kernel_rfl
noncomputable def F_spec_l4Less (N : Nat) (d : List Int × List Int × Unit) : Option (Bool × Unit) :=
  let a0 : List Int := d.1
  let a1 : List Int := d.2.1
  (spec_l4Less_l0 N N ((a0, (a1, ((0 : Int), ()))))).bind fun o2 => match o2 with
  | .inl d3 =>
    some (d3.1, ())
  | .inr (.inl d4) =>
    some (false, ())
theorem F_spec_l4Less_ok (N : Nat) (d) : fnR Γ_spec_l4Less (assoc [(0, ⟨spec_l4Less_l0_h, spec_l4Less_l0_o, spec_l4Less_l0 N N⟩)]) true [(K_Si, false), (K_Si, false)] [.bool] Try.f78.results.toList (bodyOf Try.f78) d = F_spec_l4Less N d := by kernel_rfl
noncomputable def S_spec_l4Less : FSig := ⟨[(K_Si, false), (K_Si, false)], [.bool], true, (G_l4Less)⟩
noncomputable def Γ_spec_l1Same : Ctx := { tk := assoc tks, ar := assoc ars, fs := assoc [] }
abbrev spec_l1Same_l0_H := List Int × List Int × Int × Unit
abbrev spec_l1Same_l0_O := (Bool × Unit) ⊕ Unit ⊕ Empty
def spec_l1Same_l0_h : Form := [(0, .v K_Si), (1, .v K_Si), (5, .v I)]
def spec_l1Same_l0_o : Outs := [(.ret, [(4, .v .bool)]), (.normal, [])]
noncomputable def spec_l1Same_l0_r (N : Nat) (back : spec_l1Same_l0_H → Option spec_l1Same_l0_O) (d : spec_l1Same_l0_H) : Option spec_l1Same_l0_O :=
  let s0 : List Int := d.1
  let s1 : List Int := d.2.1
  let s5 : Int := d.2.2.1
  if (decide (s5 < (List.length s0 : Int))) = true then
    if (idxIn s5 (List.length s0)) = true then
    if (idxIn s5 (List.length s1)) = true then
    if (at_ I s0 s5.toNat != at_ I s1 s5.toNat) = true then
      some (.inl (false, ()))
    else
      let x5 : Int := IntKind.wrap .i64 (s5 + (1 : Int))
      back ((s0, (s1, (x5, ()))))
    else none
    else none
  else
    some (.inr (.inl ()))
noncomputable def spec_l1Same_l0 (N : Nat) : Nat → spec_l1Same_l0_H → Option spec_l1Same_l0_O
  | 0, _ => none
  | k + 1, d => spec_l1Same_l0_r N (spec_l1Same_l0 N k) d
theorem spec_l1Same_l0_ok (N : Nat) (back) (d) : roundR Γ_spec_l1Same (assoc []) 0 spec_l1Same_l0_h spec_l1Same_l0_o (loopOf Try.f61 0) back d = spec_l1Same_l0_r N back d := by kernel_rfl
noncomputable def F_spec_l1Same (N : Nat) (d : List Int × List Int × Unit) : Option (Bool × Unit) :=
  let a0 : List Int := d.1
  let a1 : List Int := d.2.1
  if ((List.length a0 : Int) != (List.length a1 : Int)) = true then
    some (false, ())
  else
    (spec_l1Same_l0 N N ((a0, (a1, ((0 : Int), ()))))).bind fun o2 => match o2 with
    | .inl d3 =>
      some (d3.1, ())
    | .inr (.inl d4) =>
      some (true, ())
theorem F_spec_l1Same_ok (N : Nat) (d) : fnR Γ_spec_l1Same (assoc [(0, ⟨spec_l1Same_l0_h, spec_l1Same_l0_o, spec_l1Same_l0 N N⟩)]) true [(K_Si, false), (K_Si, false)] [.bool] Try.f61.results.toList (bodyOf Try.f61) d = F_spec_l1Same N d := by kernel_rfl
noncomputable def S_spec_l1Same : FSig := ⟨[(K_Si, false), (K_Si, false)], [.bool], true, (G_l1Same)⟩
noncomputable def Γ_spec_l4Put : Ctx := { tk := assoc tks, ar := assoc ars, fs := assoc [(61, S_spec_l1Same), (78, S_spec_l4Less)] }
abbrev spec_l4Put_l0_H := List (List Int) × List Int × Int × Unit
abbrev spec_l4Put_l0_O := (List (List Int) × List Int × Int × Unit) ⊕ Empty
def spec_l4Put_l0_h : Form := [(0, .v K_SSi), (1, .v K_Si), (5, .v I)]
def spec_l4Put_l0_o : Outs := [(.normal, [(0, .v K_SSi), (1, .v K_Si), (5, .v I)])]
noncomputable def spec_l4Put_l0_r (N : Nat) (back : spec_l4Put_l0_H → Option spec_l4Put_l0_O) (d : spec_l4Put_l0_H) : Option spec_l4Put_l0_O :=
  let s0 : List (List Int) := d.1
  let s1 : List Int := d.2.1
  let s5 : Int := d.2.2.1
  if (decide (s5 < (List.length s0 : Int))) = true then
    if (idxIn s5 (List.length s0)) = true then
    (G_l4Less ((at_ K_Si s0 s5.toNat, (s1, ())))).bind fun r15 =>
    if (r15.1) = true then
      let x16 : Int := IntKind.wrap .i64 (s5 + (1 : Int))
      back ((s0, (s1, (x16, ()))))
    else
      some (.inl ((s0, (s1, (s5, ())))))
    else none
  else
    some (.inl ((s0, (s1, (s5, ())))))
noncomputable def spec_l4Put_l0 (N : Nat) : Nat → spec_l4Put_l0_H → Option spec_l4Put_l0_O
  | 0, _ => none
  | k + 1, d => spec_l4Put_l0_r N (spec_l4Put_l0 N k) d
theorem spec_l4Put_l0_ok (N : Nat) (back) (d) : roundR Γ_spec_l4Put (assoc []) 0 spec_l4Put_l0_h spec_l4Put_l0_o (loopOf Try.f63 0) back d = spec_l4Put_l0_r N back d := by kernel_rfl
noncomputable def F_spec_l4Put (N : Nat) (d : List (List Int) × List Int × Unit) : Option (List (List Int) × Unit) :=
  let a0 : List (List Int) := d.1
  let a1 : List Int := d.2.1
  (spec_l4Put_l0 N N ((a0, (a1, ((0 : Int), ()))))).bind fun o8 => match o8 with
  | .inl d9 =>
    if (decide (d9.2.2.1 < (List.length d9.1 : Int))) = true then
      if (idxIn d9.2.2.1 (List.length d9.1)) = true then
      (G_l1Same ((at_ K_Si d9.1 d9.2.2.1.toNat, (d9.2.1, ())))).bind fun r10 =>
      if (r10.1) = true then
        some (d9.1, ())
      else
        if ((decide (0 ≤ (0 : Int)) && decide ((0 : Int) ≤ d9.2.2.1) && decide (d9.2.2.1 ≤ (List.length d9.1 : Int)))) = true then
        if (decide (List.length ([] : List (List Int)) + List.length (sub_ d9.1 (0 : Int) d9.2.2.1) ≤ lim)) = true then
        let x11 : List (List Int) := ([] : List (List Int)) ++ (sub_ d9.1 (0 : Int) d9.2.2.1)
        if (decide (List.length x11 + List.length ([d9.2.1]) ≤ lim)) = true then
        if ((decide (0 ≤ d9.2.2.1) && decide (d9.2.2.1 ≤ (List.length d9.1 : Int)) && decide ((List.length d9.1 : Int) ≤ (List.length d9.1 : Int)))) = true then
        let x12 : List (List Int) := sub_ d9.1 d9.2.2.1 (List.length d9.1 : Int)
        if (decide (List.length (x11 ++ ([d9.2.1])) + List.length x12 ≤ lim)) = true then
        some (((x11 ++ ([d9.2.1])) ++ x12, ()))
        else none
        else none
        else none
        else none
        else none
      else none
    else
      if ((decide (0 ≤ (0 : Int)) && decide ((0 : Int) ≤ d9.2.2.1) && decide (d9.2.2.1 ≤ (List.length d9.1 : Int)))) = true then
      if (decide (List.length ([] : List (List Int)) + List.length (sub_ d9.1 (0 : Int) d9.2.2.1) ≤ lim)) = true then
      let x13 : List (List Int) := ([] : List (List Int)) ++ (sub_ d9.1 (0 : Int) d9.2.2.1)
      if (decide (List.length x13 + List.length ([d9.2.1]) ≤ lim)) = true then
      if ((decide (0 ≤ d9.2.2.1) && decide (d9.2.2.1 ≤ (List.length d9.1 : Int)) && decide ((List.length d9.1 : Int) ≤ (List.length d9.1 : Int)))) = true then
      let x14 : List (List Int) := sub_ d9.1 d9.2.2.1 (List.length d9.1 : Int)
      if (decide (List.length (x13 ++ ([d9.2.1])) + List.length x14 ≤ lim)) = true then
      some (((x13 ++ ([d9.2.1])) ++ x14, ()))
      else none
      else none
      else none
      else none
      else none
theorem F_spec_l4Put_ok (N : Nat) (d) : fnR Γ_spec_l4Put (assoc [(0, ⟨spec_l4Put_l0_h, spec_l4Put_l0_o, spec_l4Put_l0 N N⟩)]) false [(K_SSi, false), (K_Si, false)] [K_SSi] Try.f63.results.toList (bodyOf Try.f63) d = F_spec_l4Put N d := by kernel_rfl
noncomputable def S_spec_l4Put : FSig := ⟨[(K_SSi, false), (K_Si, false)], [K_SSi], false, (G_l4Put)⟩
noncomputable def Γ_spec_l4Moves : Ctx := { tk := assoc tks, ar := assoc ars, fs := assoc [(31, S_spec_l2Ball), (62, S_spec_l1Own), (63, S_spec_l4Put), (64, S_spec_l4Sorted)], dm := fun t => Nat.beq t 5 || Nat.beq t 11, cs := assoc [] }
abbrev spec_l4Moves_l4_H := List Int × (Int × (List (Int × Int × Unit)) × Unit) × List (List Int) × Int × List (List Int) × List Int × Int × Int × Unit
abbrev spec_l4Moves_l4_O := (List Int × (Int × (List (Int × Int × Unit)) × Unit) × List (List Int) × Int × List (List Int) × List Int × Int × Unit) ⊕ Empty
def spec_l4Moves_l4_h : Form := [(1, .v K_Si), (2, .box K_PiSPiiqq 0), (5, .v K_SSi), (6, .v I), (7, .own K_SSi 100), (8, .v K_Si), (9, .v I), (10, .v I)]
def spec_l4Moves_l4_o : Outs := [(.normal, [(1, .v K_Si), (2, .box K_PiSPiiqq 0), (5, .v K_SSi), (6, .v I), (7, .own K_SSi 100), (8, .v K_Si), (9, .v I)])]
noncomputable def spec_l4Moves_l4_r (N : Nat) (back : spec_l4Moves_l4_H → Option spec_l4Moves_l4_O) (d : spec_l4Moves_l4_H) : Option spec_l4Moves_l4_O :=
  let s1 : List Int := d.1
  let s2 : Int × (List (Int × Int × Unit)) × Unit := d.2.1
  let s5 : List (List Int) := d.2.2.1
  let s6 : Int := d.2.2.2.1
  let s7 : List (List Int) := d.2.2.2.2.1
  let s8 : List Int := d.2.2.2.2.2.1
  let s9 : Int := d.2.2.2.2.2.2.1
  let s10 : Int := d.2.2.2.2.2.2.2.1
  if (decide (s10 < (List.length s8 : Int))) = true then
    if (idxIn s9 (List.length s5)) = true then
    ((F_spec_l1Own 0) (at_ K_Si s5 s9.toNat, ())).bind fun r51 =>
    if (idxIn s10 (List.length s8)) = true then
    if (decide (List.length r51.1 + List.length ([at_ I s8 s10.toNat]) ≤ lim)) = true then
    let x52 : List Int := r51.1 ++ ([at_ I s8 s10.toNat])
    if (decide (List.length s7 + List.length ([x52]) ≤ lim)) = true then
    let x53 : Int := IntKind.wrap .i64 (s10 + (1 : Int))
    back ((s1, (s2, (s5, (s6, (s7 ++ ([x52]), (s8, (s9, (x53, ())))))))))
    else none
    else none
    else none
    else none
  else
    some (.inl ((s1, (s2, (s5, (s6, (s7, (s8, (s9, ())))))))))
noncomputable def spec_l4Moves_l4 (N : Nat) : Nat → spec_l4Moves_l4_H → Option spec_l4Moves_l4_O
  | 0, _ => none
  | k + 1, d => spec_l4Moves_l4_r N (spec_l4Moves_l4 N k) d
theorem spec_l4Moves_l4_ok (N : Nat) (back) (d) : roundR Γ_spec_l4Moves (assoc []) 4 spec_l4Moves_l4_h spec_l4Moves_l4_o (loopOf Try.f41 4) back d = spec_l4Moves_l4_r N back d := by kernel_rfl
abbrev spec_l4Moves_l2_H := List Int × (Int × (List (Int × Int × Unit)) × Unit) × List (List Int) × Int × List (List Int) × List Int × Int × Unit
abbrev spec_l4Moves_l2_O := (List Int × (Int × (List (Int × Int × Unit)) × Unit) × Int × List (List Int) × Unit) ⊕ Empty
def spec_l4Moves_l2_h : Form := [(1, .v K_Si), (2, .box K_PiSPiiqq 0), (5, .v K_SSi), (6, .v I), (7, .own K_SSi 100), (8, .v K_Si), (9, .v I)]
def spec_l4Moves_l2_o : Outs := [(.normal, [(1, .v K_Si), (2, .box K_PiSPiiqq 0), (6, .v I), (7, .own K_SSi 100)])]
noncomputable def spec_l4Moves_l2_r (N : Nat) (back : spec_l4Moves_l2_H → Option spec_l4Moves_l2_O) (d : spec_l4Moves_l2_H) : Option spec_l4Moves_l2_O :=
  let s1 : List Int := d.1
  let s2 : Int × (List (Int × Int × Unit)) × Unit := d.2.1
  let s5 : List (List Int) := d.2.2.1
  let s6 : Int := d.2.2.2.1
  let s7 : List (List Int) := d.2.2.2.2.1
  let s8 : List Int := d.2.2.2.2.2.1
  let s9 : Int := d.2.2.2.2.2.2.1
  if (decide (s9 < (List.length s5 : Int))) = true then
    (spec_l4Moves_l4 N N ((s1, (s2, (s5, (s6, (s7, (s8, (s9, ((0 : Int), ())))))))))).bind fun o48 => match o48 with
    | .inl d49 =>
      let x50 : Int := IntKind.wrap .i64 (d49.2.2.2.2.2.2.1 + (1 : Int))
      back ((d49.1, (d49.2.1, (d49.2.2.1, (d49.2.2.2.1, (d49.2.2.2.2.1, (d49.2.2.2.2.2.1, (x50, ()))))))))
  else
    some (.inl ((s1, (s2, (s6, (s7, ()))))))
noncomputable def spec_l4Moves_l2 (N : Nat) : Nat → spec_l4Moves_l2_H → Option spec_l4Moves_l2_O
  | 0, _ => none
  | k + 1, d => spec_l4Moves_l2_r N (spec_l4Moves_l2 N k) d
theorem spec_l4Moves_l2_ok (N : Nat) (back) (d) : roundR Γ_spec_l4Moves (assoc [(4, ⟨spec_l4Moves_l4_h, spec_l4Moves_l4_o, spec_l4Moves_l4 N N⟩)]) 2 spec_l4Moves_l2_h spec_l4Moves_l2_o (loopOf Try.f41 2) back d = spec_l4Moves_l2_r N back d := by kernel_rfl
abbrev spec_l4Moves_l0_H := List Int × (Int × (List (Int × Int × Unit)) × Unit) × List (List Int) × Int × Unit
abbrev spec_l4Moves_l0_O := (List (List Int) × Unit) ⊕ Empty
def spec_l4Moves_l0_h : Form := [(1, .v K_Si), (2, .box K_PiSPiiqq 0), (5, .v K_SSi), (6, .v I)]
def spec_l4Moves_l0_o : Outs := [(.normal, [(5, .v K_SSi)])]
noncomputable def spec_l4Moves_l0_r (N : Nat) (back : spec_l4Moves_l0_H → Option spec_l4Moves_l0_O) (d : spec_l4Moves_l0_H) : Option spec_l4Moves_l0_O :=
  let s1 : List Int := d.1
  let s2 : Int × (List (Int × Int × Unit)) × Unit := d.2.1
  let s5 : List (List Int) := d.2.2.1
  let s6 : Int := d.2.2.2.1
  if (decide (s6 < (List.length s1 : Int))) = true then
    if (idxIn s6 (List.length s1)) = true then
    ((F_spec_l2Ball 0) ((s2, (at_ I s1 s6.toNat, ())))).bind fun r35 =>
    (spec_l4Moves_l2 N N ((s1, (s2, (s5, (s6, (([] : List (List Int)), (r35.1, ((0 : Int), ()))))))))).bind fun o42 => match o42 with
    | .inl d43 =>
      let x44 : Int := IntKind.wrap .i64 (d43.2.2.1 + (1 : Int))
      back ((d43.1, (d43.2.1, (d43.2.2.2.1, (x44, ())))))
    else none
  else
    some (.inl (s5, ()))
noncomputable def spec_l4Moves_l0 (N : Nat) : Nat → spec_l4Moves_l0_H → Option spec_l4Moves_l0_O
  | 0, _ => none
  | k + 1, d => spec_l4Moves_l0_r N (spec_l4Moves_l0 N k) d
theorem spec_l4Moves_l0_ok (N : Nat) (back) (d) : roundR Γ_spec_l4Moves (assoc [(2, ⟨spec_l4Moves_l2_h, spec_l4Moves_l2_o, spec_l4Moves_l2 N N⟩)]) 0 spec_l4Moves_l0_h spec_l4Moves_l0_o (loopOf Try.f41 0) back d = spec_l4Moves_l0_r N back d := by kernel_rfl
abbrev spec_l4Moves_l6_H := List (List Int) × List (List Int) × Int × Unit
abbrev spec_l4Moves_l6_O := (List (List Int) × Unit) ⊕ Empty
def spec_l4Moves_l6_h : Form := [(5, .v K_SSi), (11, .v K_SSi), (12, .v I)]
def spec_l4Moves_l6_o : Outs := [(.normal, [(11, .v K_SSi)])]
noncomputable def spec_l4Moves_l6_r (N : Nat) (back : spec_l4Moves_l6_H → Option spec_l4Moves_l6_O) (d : spec_l4Moves_l6_H) : Option spec_l4Moves_l6_O :=
  let s5 : List (List Int) := d.1
  let s11 : List (List Int) := d.2.1
  let s12 : Int := d.2.2.1
  if (decide (s12 < (List.length s5 : Int))) = true then
    if (idxIn s12 (List.length s5)) = true then
    (G_l4Sorted (at_ K_Si s5 s12.toNat, ())).bind fun r54 =>
    (G_l4Put ((s11, (r54.1, ())))).bind fun r55 =>
    let x56 : Int := IntKind.wrap .i64 (s12 + (1 : Int))
    back ((s5, (r55.1, (x56, ()))))
    else none
  else
    some (.inl (s11, ()))
noncomputable def spec_l4Moves_l6 (N : Nat) : Nat → spec_l4Moves_l6_H → Option spec_l4Moves_l6_O
  | 0, _ => none
  | k + 1, d => spec_l4Moves_l6_r N (spec_l4Moves_l6 N k) d
theorem spec_l4Moves_l6_ok (N : Nat) (back) (d) : roundR Γ_spec_l4Moves (assoc []) 6 spec_l4Moves_l6_h spec_l4Moves_l6_o (loopOf Try.f41 6) back d = spec_l4Moves_l6_r N back d := by kernel_rfl
noncomputable def F_spec_l4Moves (N : Nat) (d : (Int × (List (Int × Int × Unit)) × Unit) × List Int × Unit) : Option (List (List Int) × Unit) :=
  let a0 : Int × (List (Int × Int × Unit)) × Unit := d.1
  let a1 : List Int := d.2.1
  (spec_l4Moves_l0 N N ((a1, (a0, ([([] : List Int)], ((0 : Int), ())))))).bind fun o28 => match o28 with
  | .inl d29 =>
    (spec_l4Moves_l6 N N ((d29.1, (([] : List (List Int)), ((0 : Int), ()))))).bind fun o33 => match o33 with
    | .inl d34 =>
      some (d34.1, ())
theorem F_spec_l4Moves_ok (N : Nat) (d) : fnR Γ_spec_l4Moves (assoc [(0, ⟨spec_l4Moves_l0_h, spec_l4Moves_l0_o, spec_l4Moves_l0 N N⟩), (6, ⟨spec_l4Moves_l6_h, spec_l4Moves_l6_o, spec_l4Moves_l6 N N⟩)]) false [(K_PiSPiiqq, false), (K_Si, false)] [K_SSi] Try.f41.results.toList (bodyOf Try.f41) d = F_spec_l4Moves N d := by kernel_rfl
noncomputable def S_spec_l4Moves : FSig := ⟨[(K_PiSPiiqq, false), (K_Si, false)], [K_SSi], false, (G_l4Moves)⟩
noncomputable def Γ_spec_l4At : Ctx := { tk := assoc tks, ar := assoc ars, fs := assoc [(61, S_spec_l1Same)] }
abbrev spec_l4At_l0_H := List (List Int) × List Int × Int × Unit
abbrev spec_l4At_l0_O := (Int × Unit) ⊕ Unit ⊕ Empty
def spec_l4At_l0_h : Form := [(0, .v K_SSi), (1, .v K_Si), (5, .v I)]
def spec_l4At_l0_o : Outs := [(.ret, [(4, .v I)]), (.normal, [])]
noncomputable def spec_l4At_l0_r (N : Nat) (back : spec_l4At_l0_H → Option spec_l4At_l0_O) (d : spec_l4At_l0_H) : Option spec_l4At_l0_O :=
  let s0 : List (List Int) := d.1
  let s1 : List Int := d.2.1
  let s5 : Int := d.2.2.1
  if (decide (s5 < (List.length s0 : Int))) = true then
    if (idxIn s5 (List.length s0)) = true then
    (G_l1Same ((at_ K_Si s0 s5.toNat, (s1, ())))).bind fun r6 =>
    if (r6.1) = true then
      some (.inl (s5, ()))
    else
      let x7 : Int := IntKind.wrap .i64 (s5 + (1 : Int))
      back ((s0, (s1, (x7, ()))))
    else none
  else
    some (.inr (.inl ()))
noncomputable def spec_l4At_l0 (N : Nat) : Nat → spec_l4At_l0_H → Option spec_l4At_l0_O
  | 0, _ => none
  | k + 1, d => spec_l4At_l0_r N (spec_l4At_l0 N k) d
theorem spec_l4At_l0_ok (N : Nat) (back) (d) : roundR Γ_spec_l4At (assoc []) 0 spec_l4At_l0_h spec_l4At_l0_o (loopOf Try.f40 0) back d = spec_l4At_l0_r N back d := by kernel_rfl
noncomputable def F_spec_l4At (N : Nat) (d : List (List Int) × List Int × Unit) : Option (Int × Unit) :=
  let a0 : List (List Int) := d.1
  let a1 : List Int := d.2.1
  (spec_l4At_l0 N N ((a0, (a1, ((0 : Int), ()))))).bind fun o3 => match o3 with
  | .inl d4 =>
    some (d4.1, ())
  | .inr (.inl d5) =>
    some ((-1 : Int), ())
theorem F_spec_l4At_ok (N : Nat) (d) : fnR Γ_spec_l4At (assoc [(0, ⟨spec_l4At_l0_h, spec_l4At_l0_o, spec_l4At_l0 N N⟩)]) true [(K_SSi, false), (K_Si, false)] [I] Try.f40.results.toList (bodyOf Try.f40) d = F_spec_l4At N d := by kernel_rfl
noncomputable def S_spec_l4At : FSig := ⟨[(K_SSi, false), (K_Si, false)], [I], true, (G_l4At)⟩
noncomputable def Γ_spec_l11Walk : Ctx := { tk := assoc tks, ar := assoc ars, fs := assoc [(22, S_spec_l4Field), (38, S_spec_l1In), (39, S_spec_l4Cops), (40, S_spec_l4At), (41, S_spec_l4Moves)] }
abbrev spec_l11Walk_l0_H := List (List Int) × (Int × (List (Int × Int × Unit)) × Unit) × Int × Unit
abbrev spec_l11Walk_l0_O := (Bool × Unit) ⊕ Unit ⊕ Empty
def spec_l11Walk_l0_h : Form := [(1, .v K_SSi), (2, .box K_PiSPiiqq 0), (5, .v I)]
def spec_l11Walk_l0_o : Outs := [(.ret, [(4, .v .bool)]), (.normal, [])]
noncomputable def spec_l11Walk_l0_r (N : Nat) (back : spec_l11Walk_l0_H → Option spec_l11Walk_l0_O) (d : spec_l11Walk_l0_H) : Option spec_l11Walk_l0_O :=
  let s1 : List (List Int) := d.1
  let s2 : Int × (List (Int × Int × Unit)) × Unit := d.2.1
  let s5 : Int := d.2.2.1
  if (decide (s5 < (List.length s1 : Int))) = true then
    if (idxIn s5 (List.length s1)) = true then
    if (idxIn (0 : Int) (List.length s1)) = true then
    if ((List.length (at_ K_Si s1 s5.toNat) : Int) != (List.length (at_ K_Si s1 (0 : Int).toNat) : Int)) = true then
      some (.inl (false, ()))
    else
      if (idxIn s5 (List.length s1)) = true then
      (G_l4Cops ((s2, (at_ K_Si s1 s5.toNat, ())))).bind fun r12 =>
      if (!r12.1) = true then
        some (.inl (false, ()))
      else
        if (decide (s5 > (0 : Int))) = true then
          let x13 : Int := IntKind.wrap .i64 (s5 - (1 : Int))
          if (idxIn x13 (List.length s1)) = true then
          (G_l4Moves ((s2, (at_ K_Si s1 x13.toNat, ())))).bind fun r14 =>
          if (idxIn s5 (List.length s1)) = true then
          (G_l4At ((r14.1, (at_ K_Si s1 s5.toNat, ())))).bind fun r15 =>
          if (decide (r15.1 < (0 : Int))) = true then
            some (.inl (false, ()))
          else
            let x16 : Int := IntKind.wrap .i64 (s5 + (1 : Int))
            back ((s1, (s2, (x16, ()))))
          else none
          else none
        else
          let x17 : Int := IntKind.wrap .i64 (s5 + (1 : Int))
          back ((s1, (s2, (x17, ()))))
      else none
    else none
    else none
  else
    some (.inr (.inl ()))
noncomputable def spec_l11Walk_l0 (N : Nat) : Nat → spec_l11Walk_l0_H → Option spec_l11Walk_l0_O
  | 0, _ => none
  | k + 1, d => spec_l11Walk_l0_r N (spec_l11Walk_l0 N k) d
theorem spec_l11Walk_l0_ok (N : Nat) (back) (d) : roundR Γ_spec_l11Walk (assoc []) 0 spec_l11Walk_l0_h spec_l11Walk_l0_o (loopOf Try.f23 0) back d = spec_l11Walk_l0_r N back d := by kernel_rfl
noncomputable def F_spec_l11Walk (N : Nat) (d : (Int × (List (Int × Int × Unit)) × Unit) × List (List Int) × Unit) : Option (Bool × Unit) :=
  let a0 : Int × (List (Int × Int × Unit)) × Unit := d.1
  let a1 : List (List Int) := d.2.1
  let r1 : Bool × Unit := g_spec_l1In (((List.length a1 : Int), ((1 : Int), ((40 : Int), ()))))
  if (!r1.1) = true then
    some (false, ())
  else
    if (idxIn (0 : Int) (List.length a1)) = true then
    ((F_spec_l4Field 0) ((a0, ((List.length (at_ K_Si a1 (0 : Int).toNat) : Int), ())))).bind fun r2 =>
    if (!r2.1) = true then
      some (false, ())
    else
      (spec_l11Walk_l0 N N ((a1, (a0, ((0 : Int), ()))))).bind fun o9 => match o9 with
      | .inl d10 =>
        some (d10.1, ())
      | .inr (.inl d11) =>
        some (true, ())
    else none
theorem F_spec_l11Walk_ok (N : Nat) (d) : fnR Γ_spec_l11Walk (assoc [(0, ⟨spec_l11Walk_l0_h, spec_l11Walk_l0_o, spec_l11Walk_l0 N N⟩)]) true [(K_PiSPiiqq, false), (K_SSi, false)] [.bool] Try.f23.results.toList (bodyOf Try.f23) d = F_spec_l11Walk N d := by kernel_rfl
noncomputable def S_spec_l11Walk : FSig := ⟨[(K_PiSPiiqq, false), (K_SSi, false)], [.bool], true, (G_l11Walk)⟩
noncomputable def Γ_spec_l2Bits : Ctx := { tk := assoc tks, ar := assoc ars, fs := assoc [] }
abbrev spec_l2Bits_l0_H := Int × Int × List Int × Int × Unit
abbrev spec_l2Bits_l0_O := (List Int × Unit) ⊕ Empty
def spec_l2Bits_l0_h : Form := [(0, .v I), (1, .v I), (5, .own K_Si 99), (6, .v I)]
def spec_l2Bits_l0_o : Outs := [(.normal, [(5, .own K_Si 99)])]
noncomputable def spec_l2Bits_l0_r (N : Nat) (back : spec_l2Bits_l0_H → Option spec_l2Bits_l0_O) (d : spec_l2Bits_l0_H) : Option spec_l2Bits_l0_O :=
  let s0 : Int := d.1
  let s1 : Int := d.2.1
  let s5 : List Int := d.2.2.1
  let s6 : Int := d.2.2.2.1
  if (decide (s6 < s0)) = true then
    if (decide (0 ≤ s6)) = true then
    let x6 : Int := bits .and .i64 (shr .i64 s1 s6) (1 : Int)
    if (x6 == (1 : Int)) = true then
      if (decide (List.length s5 + List.length ([s6]) ≤ lim)) = true then
      let x7 : Int := IntKind.wrap .i64 (s6 + (1 : Int))
      back ((s0, (s1, (s5 ++ ([s6]), (x7, ())))))
      else none
    else
      let x8 : Int := IntKind.wrap .i64 (s6 + (1 : Int))
      back ((s0, (s1, (s5, (x8, ())))))
    else none
  else
    some (.inl (s5, ()))
noncomputable def spec_l2Bits_l0 (N : Nat) : Nat → spec_l2Bits_l0_H → Option spec_l2Bits_l0_O
  | 0, _ => none
  | k + 1, d => spec_l2Bits_l0_r N (spec_l2Bits_l0 N k) d
theorem spec_l2Bits_l0_ok (N : Nat) (back) (d) : roundR Γ_spec_l2Bits (assoc []) 0 spec_l2Bits_l0_h spec_l2Bits_l0_o (loopOf Try.f76 0) back d = spec_l2Bits_l0_r N back d := by kernel_rfl
noncomputable def F_spec_l2Bits (N : Nat) (d : Int × Int × Unit) : Option (List Int × Unit) :=
  let a0 : Int := d.1
  let a1 : Int := d.2.1
  (spec_l2Bits_l0 N N ((a0, (a1, (([] : List Int), ((0 : Int), ())))))).bind fun o4 => match o4 with
  | .inl d5 =>
    some (d5.1, ())
theorem F_spec_l2Bits_ok (N : Nat) (d) : fnR Γ_spec_l2Bits (assoc [(0, ⟨spec_l2Bits_l0_h, spec_l2Bits_l0_o, spec_l2Bits_l0 N N⟩)]) true [(I, false), (I, false)] [K_Si] Try.f76.results.toList (bodyOf Try.f76) d = F_spec_l2Bits N d := by kernel_rfl
noncomputable def S_spec_l2Bits : FSig := ⟨[(I, false), (I, false)], [K_Si], true, (G_l2Bits)⟩
noncomputable def Γ_spec_l2All : Ctx := { tk := assoc tks, ar := assoc ars, fs := assoc [(76, S_spec_l2Bits)] }
noncomputable def F_spec_l2All (N : Nat) (d : (Int × (List (Int × Int × Unit)) × Unit) × Unit) : Option (List Int × Unit) :=
  let a0 : Int × (List (Int × Int × Unit)) × Unit := d.1
  if (decide (0 ≤ a0.1)) = true then
  let x1 : Int := IntKind.wrap .i64 (shl .i64 (1 : Int) a0.1 - (1 : Int))
  (G_l2Bits ((a0.1, (x1, ())))).bind fun r2 =>
  some (r2.1, ())
  else none
theorem F_spec_l2All_ok (N : Nat) (d) : fnR Γ_spec_l2All (assoc []) true [(K_PiSPiiqq, false)] [K_Si] Try.f56.results.toList (bodyOf Try.f56) d = F_spec_l2All N d := by kernel_rfl
noncomputable def S_spec_l2All : FSig := ⟨[(K_PiSPiiqq, false)], [K_Si], true, (F_spec_l2All 0)⟩
noncomputable def Γ_spec_l1Has : Ctx := { tk := assoc tks, ar := assoc ars, fs := assoc [] }
abbrev spec_l1Has_l0_H := List Int × Int × Int × Unit
abbrev spec_l1Has_l0_O := (Bool × Unit) ⊕ Unit ⊕ Empty
def spec_l1Has_l0_h : Form := [(0, .v K_Si), (1, .v I), (5, .v I)]
def spec_l1Has_l0_o : Outs := [(.ret, [(4, .v .bool)]), (.normal, [])]
noncomputable def spec_l1Has_l0_r (N : Nat) (back : spec_l1Has_l0_H → Option spec_l1Has_l0_O) (d : spec_l1Has_l0_H) : Option spec_l1Has_l0_O :=
  let s0 : List Int := d.1
  let s1 : Int := d.2.1
  let s5 : Int := d.2.2.1
  if (decide (s5 < (List.length s0 : Int))) = true then
    if (idxIn s5 (List.length s0)) = true then
    if (at_ I s0 s5.toNat == s1) = true then
      some (.inl (true, ()))
    else
      let x5 : Int := IntKind.wrap .i64 (s5 + (1 : Int))
      back ((s0, (s1, (x5, ()))))
    else none
  else
    some (.inr (.inl ()))
noncomputable def spec_l1Has_l0 (N : Nat) : Nat → spec_l1Has_l0_H → Option spec_l1Has_l0_O
  | 0, _ => none
  | k + 1, d => spec_l1Has_l0_r N (spec_l1Has_l0 N k) d
theorem spec_l1Has_l0_ok (N : Nat) (back) (d) : roundR Γ_spec_l1Has (assoc []) 0 spec_l1Has_l0_h spec_l1Has_l0_o (loopOf Try.f30 0) back d = spec_l1Has_l0_r N back d := by kernel_rfl
noncomputable def F_spec_l1Has (N : Nat) (d : List Int × Int × Unit) : Option (Bool × Unit) :=
  let a0 : List Int := d.1
  let a1 : Int := d.2.1
  (spec_l1Has_l0 N N ((a0, (a1, ((0 : Int), ()))))).bind fun o2 => match o2 with
  | .inl d3 =>
    some (d3.1, ())
  | .inr (.inl d4) =>
    some (false, ())
theorem F_spec_l1Has_ok (N : Nat) (d) : fnR Γ_spec_l1Has (assoc [(0, ⟨spec_l1Has_l0_h, spec_l1Has_l0_o, spec_l1Has_l0 N N⟩)]) true [(K_Si, false), (I, false)] [.bool] Try.f30.results.toList (bodyOf Try.f30) d = F_spec_l1Has N d := by kernel_rfl
noncomputable def S_spec_l1Has : FSig := ⟨[(K_Si, false), (I, false)], [.bool], true, (G_l1Has)⟩
noncomputable def Γ_spec_l11Rest : Ctx := { tk := assoc tks, ar := assoc ars, fs := assoc [(30, S_spec_l1Has)] }
abbrev spec_l11Rest_l0_H := List Int × List Int × List Int × Int × Unit
abbrev spec_l11Rest_l0_O := (List Int × Unit) ⊕ Empty
def spec_l11Rest_l0_h : Form := [(0, .v K_Si), (1, .v K_Si), (5, .own K_Si 99), (6, .v I)]
def spec_l11Rest_l0_o : Outs := [(.normal, [(5, .own K_Si 99)])]
noncomputable def spec_l11Rest_l0_r (N : Nat) (back : spec_l11Rest_l0_H → Option spec_l11Rest_l0_O) (d : spec_l11Rest_l0_H) : Option spec_l11Rest_l0_O :=
  let s0 : List Int := d.1
  let s1 : List Int := d.2.1
  let s5 : List Int := d.2.2.1
  let s6 : Int := d.2.2.2.1
  if (decide (s6 < (List.length s0 : Int))) = true then
    if (idxIn s6 (List.length s0)) = true then
    (G_l1Has ((s1, (at_ I s0 s6.toNat, ())))).bind fun r6 =>
    if (!r6.1) = true then
      if (idxIn s6 (List.length s0)) = true then
      if (decide (List.length s5 + List.length ([at_ I s0 s6.toNat]) ≤ lim)) = true then
      let x7 : Int := IntKind.wrap .i64 (s6 + (1 : Int))
      back ((s0, (s1, (s5 ++ ([at_ I s0 s6.toNat]), (x7, ())))))
      else none
      else none
    else
      let x8 : Int := IntKind.wrap .i64 (s6 + (1 : Int))
      back ((s0, (s1, (s5, (x8, ())))))
    else none
  else
    some (.inl (s5, ()))
noncomputable def spec_l11Rest_l0 (N : Nat) : Nat → spec_l11Rest_l0_H → Option spec_l11Rest_l0_O
  | 0, _ => none
  | k + 1, d => spec_l11Rest_l0_r N (spec_l11Rest_l0 N k) d
theorem spec_l11Rest_l0_ok (N : Nat) (back) (d) : roundR Γ_spec_l11Rest (assoc []) 0 spec_l11Rest_l0_h spec_l11Rest_l0_o (loopOf Try.f55 0) back d = spec_l11Rest_l0_r N back d := by kernel_rfl
noncomputable def F_spec_l11Rest (N : Nat) (d : List Int × List Int × Unit) : Option (List Int × Unit) :=
  let a0 : List Int := d.1
  let a1 : List Int := d.2.1
  (spec_l11Rest_l0 N N ((a0, (a1, (([] : List Int), ((0 : Int), ())))))).bind fun o4 => match o4 with
  | .inl d5 =>
    some (d5.1, ())
theorem F_spec_l11Rest_ok (N : Nat) (d) : fnR Γ_spec_l11Rest (assoc [(0, ⟨spec_l11Rest_l0_h, spec_l11Rest_l0_o, spec_l11Rest_l0 N N⟩)]) true [(K_Si, false), (K_Si, false)] [K_Si] Try.f55.results.toList (bodyOf Try.f55) d = F_spec_l11Rest N d := by kernel_rfl
noncomputable def S_spec_l11Rest : FSig := ⟨[(K_Si, false), (K_Si, false)], [K_Si], true, (G_l11Rest)⟩
noncomputable def Γ_spec_l11Next : Ctx := { tk := assoc tks, ar := assoc ars, fs := assoc [(52, S_spec_l1Put), (55, S_spec_l11Rest)], dm := fun t => Nat.beq t 8, cs := assoc [] }
abbrev spec_l11Next_l2_H := List (List Int) × List Int × List Int × List Int × Int × List Int × Int × Unit
abbrev spec_l11Next_l2_O := (List (List Int) × List Int × List Int × List Int × Int × Unit) ⊕ Empty
def spec_l11Next_l2_h : Form := [(0, .v K_SSi), (2, .v K_Si), (7, .own K_Si 99), (8, .v K_Si), (9, .v I), (10, .own K_Si 99), (11, .v I)]
def spec_l11Next_l2_o : Outs := [(.normal, [(0, .v K_SSi), (2, .v K_Si), (7, .own K_Si 99), (8, .v K_Si), (9, .v I)])]
noncomputable def spec_l11Next_l2_r (N : Nat) (back : spec_l11Next_l2_H → Option spec_l11Next_l2_O) (d : spec_l11Next_l2_H) : Option spec_l11Next_l2_O :=
  let s0 : List (List Int) := d.1
  let s2 : List Int := d.2.1
  let s7 : List Int := d.2.2.1
  let s8 : List Int := d.2.2.2.1
  let s9 : Int := d.2.2.2.2.1
  let s10 : List Int := d.2.2.2.2.2.1
  let s11 : Int := d.2.2.2.2.2.2.1
  if (decide (s11 < (List.length s10 : Int))) = true then
    if (idxIn s11 (List.length s10)) = true then
    (G_l1Put ((s8, (at_ I s10 s11.toNat, ())))).bind fun r25 =>
    let x26 : Int := IntKind.wrap .i64 (s11 + (1 : Int))
    back ((s0, (s2, (s7, (r25.1, (s9, (s10, (x26, ()))))))))
    else none
  else
    some (.inl ((s0, (s2, (s7, (s8, (s9, ())))))))
noncomputable def spec_l11Next_l2 (N : Nat) : Nat → spec_l11Next_l2_H → Option spec_l11Next_l2_O
  | 0, _ => none
  | k + 1, d => spec_l11Next_l2_r N (spec_l11Next_l2 N k) d
theorem spec_l11Next_l2_ok (N : Nat) (back) (d) : roundR Γ_spec_l11Next (assoc []) 2 spec_l11Next_l2_h spec_l11Next_l2_o (loopOf Try.f57 2) back d = spec_l11Next_l2_r N back d := by kernel_rfl
abbrev spec_l11Next_l0_H := List (List Int) × List Int × List Int × List Int × Int × Unit
abbrev spec_l11Next_l0_O := (List Int × Unit) ⊕ Empty
def spec_l11Next_l0_h : Form := [(0, .v K_SSi), (2, .v K_Si), (7, .own K_Si 99), (8, .v K_Si), (9, .v I)]
def spec_l11Next_l0_o : Outs := [(.normal, [(8, .v K_Si)])]
noncomputable def spec_l11Next_l0_r (N : Nat) (back : spec_l11Next_l0_H → Option spec_l11Next_l0_O) (d : spec_l11Next_l0_H) : Option spec_l11Next_l0_O :=
  let s0 : List (List Int) := d.1
  let s2 : List Int := d.2.1
  let s7 : List Int := d.2.2.1
  let s8 : List Int := d.2.2.2.1
  let s9 : Int := d.2.2.2.2.1
  if (decide (s9 < (List.length s7 : Int))) = true then
    if (idxIn s9 (List.length s7)) = true then
    if (idxIn (at_ I s7 s9.toNat) (List.length s0)) = true then
    (G_l11Rest ((at_ K_Si s0 (at_ I s7 s9.toNat).toNat, (s2, ())))).bind fun r19 =>
    (spec_l11Next_l2 N N ((s0, (s2, (s7, (s8, (s9, (r19.1, ((0 : Int), ()))))))))).bind fun o22 => match o22 with
    | .inl d23 =>
      let x24 : Int := IntKind.wrap .i64 (d23.2.2.2.2.1 + (1 : Int))
      back ((d23.1, (d23.2.1, (d23.2.2.1, (d23.2.2.2.1, (x24, ()))))))
    else none
    else none
  else
    some (.inl (s8, ()))
noncomputable def spec_l11Next_l0 (N : Nat) : Nat → spec_l11Next_l0_H → Option spec_l11Next_l0_O
  | 0, _ => none
  | k + 1, d => spec_l11Next_l0_r N (spec_l11Next_l0 N k) d
theorem spec_l11Next_l0_ok (N : Nat) (back) (d) : roundR Γ_spec_l11Next (assoc [(2, ⟨spec_l11Next_l2_h, spec_l11Next_l2_o, spec_l11Next_l2 N N⟩)]) 0 spec_l11Next_l0_h spec_l11Next_l0_o (loopOf Try.f57 0) back d = spec_l11Next_l0_r N back d := by kernel_rfl
noncomputable def F_spec_l11Next (N : Nat) (d : List (List Int) × List Int × List Int × Unit) : Option (List Int × Unit) :=
  let a0 : List (List Int) := d.1
  let a1 : List Int := d.2.1
  let a2 : List Int := d.2.2.1
  (G_l11Rest ((a1, (a2, ())))).bind fun r10 =>
  (spec_l11Next_l0 N N ((a0, (a2, (r10.1, (([] : List Int), ((0 : Int), ()))))))).bind fun o17 => match o17 with
  | .inl d18 =>
    some (d18.1, ())
theorem F_spec_l11Next_ok (N : Nat) (d) : fnR Γ_spec_l11Next (assoc [(0, ⟨spec_l11Next_l0_h, spec_l11Next_l0_o, spec_l11Next_l0 N N⟩)]) false [(K_SSi, false), (K_Si, false), (K_Si, false)] [K_Si] Try.f57.results.toList (bodyOf Try.f57) d = F_spec_l11Next N d := by kernel_rfl
noncomputable def S_spec_l11Next : FSig := ⟨[(K_SSi, false), (K_Si, false), (K_Si, false)], [K_Si], false, (G_l11Next)⟩
noncomputable def Γ_spec_l11Sets : Ctx := { tk := assoc tks, ar := assoc ars, fs := assoc [(31, S_spec_l2Ball), (55, S_spec_l11Rest), (56, S_spec_l2All), (57, S_spec_l11Next)] }
abbrev spec_l11Sets_l0_H := List (List Int) × (Int × (List (Int × Int × Unit)) × Unit) × List (List Int) × List (List Int) × Int × Unit
abbrev spec_l11Sets_l0_O := (List (List Int) × List (List Int) × List (List Int) × Unit) ⊕ Empty
def spec_l11Sets_l0_h : Form := [(1, .v K_SSi), (2, .box K_PiSPiiqq 0), (5, .own K_SSi 100), (6, .own K_SSi 1), (7, .v I)]
def spec_l11Sets_l0_o : Outs := [(.normal, [(1, .v K_SSi), (5, .own K_SSi 100), (6, .own K_SSi 1)])]
noncomputable def spec_l11Sets_l0_r (N : Nat) (back : spec_l11Sets_l0_H → Option spec_l11Sets_l0_O) (d : spec_l11Sets_l0_H) : Option spec_l11Sets_l0_O :=
  let s1 : List (List Int) := d.1
  let s2 : Int × (List (Int × Int × Unit)) × Unit := d.2.1
  let s5 : List (List Int) := d.2.2.1
  let s6 : List (List Int) := d.2.2.2.1
  let s7 : Int := d.2.2.2.2.1
  if (decide (s7 < s2.1)) = true then
    ((F_spec_l2Ball 0) ((s2, (s7, ())))).bind fun r28 =>
    if (decide (List.length s6 + List.length ([r28.1]) ≤ lim)) = true then
    let x29 : Int := IntKind.wrap .i64 (s7 + (1 : Int))
    back ((s1, (s2, (s5, (s6 ++ ([r28.1]), (x29, ()))))))
    else none
  else
    some (.inl ((s1, (s5, (s6, ())))))
noncomputable def spec_l11Sets_l0 (N : Nat) : Nat → spec_l11Sets_l0_H → Option spec_l11Sets_l0_O
  | 0, _ => none
  | k + 1, d => spec_l11Sets_l0_r N (spec_l11Sets_l0 N k) d
theorem spec_l11Sets_l0_ok (N : Nat) (back) (d) : roundR Γ_spec_l11Sets (assoc []) 0 spec_l11Sets_l0_h spec_l11Sets_l0_o (loopOf Try.f36 0) back d = spec_l11Sets_l0_r N back d := by kernel_rfl
abbrev spec_l11Sets_l2_H := List (List Int) × List (List Int) × Int × List (List Int) × Unit
abbrev spec_l11Sets_l2_O := (List (List Int) × Unit) ⊕ Empty
def spec_l11Sets_l2_h : Form := [(1, .v K_SSi), (5, .own K_SSi 1), (8, .v I), (6, .v K_SSi)]
def spec_l11Sets_l2_o : Outs := [(.normal, [(5, .own K_SSi 1)])]
noncomputable def spec_l11Sets_l2_r (N : Nat) (back : spec_l11Sets_l2_H → Option spec_l11Sets_l2_O) (d : spec_l11Sets_l2_H) : Option spec_l11Sets_l2_O :=
  let s1 : List (List Int) := d.1
  let s5 : List (List Int) := d.2.1
  let s8 : Int := d.2.2.1
  let s6 : List (List Int) := d.2.2.2.1
  if (decide (s8 < (List.length s1 : Int))) = true then
    let x30 : Int := IntKind.wrap .i64 (s8 - (1 : Int))
    if (idxIn x30 (List.length s5)) = true then
    if (idxIn s8 (List.length s1)) = true then
    (G_l11Next ((s6, (at_ K_Si s5 x30.toNat, (at_ K_Si s1 s8.toNat, ()))))).bind fun r31 =>
    if (decide (List.length s5 + List.length ([r31.1]) ≤ lim)) = true then
    let x32 : Int := IntKind.wrap .i64 (s8 + (1 : Int))
    back ((s1, (s5 ++ ([r31.1]), (x32, (s6, ())))))
    else none
    else none
    else none
  else
    some (.inl (s5, ()))
noncomputable def spec_l11Sets_l2 (N : Nat) : Nat → spec_l11Sets_l2_H → Option spec_l11Sets_l2_O
  | 0, _ => none
  | k + 1, d => spec_l11Sets_l2_r N (spec_l11Sets_l2 N k) d
theorem spec_l11Sets_l2_ok (N : Nat) (back) (d) : roundR Γ_spec_l11Sets (assoc []) 2 spec_l11Sets_l2_h spec_l11Sets_l2_o (loopOf Try.f36 2) back d = spec_l11Sets_l2_r N back d := by kernel_rfl
noncomputable def F_spec_l11Sets (N : Nat) (d : (Int × (List (Int × Int × Unit)) × Unit) × List (List Int) × Unit) : Option (List (List Int) × Unit) :=
  let a0 : Int × (List (Int × Int × Unit)) × Unit := d.1
  let a1 : List (List Int) := d.2.1
  ((F_spec_l2All 0) (a0, ())).bind fun r17 =>
  if (idxIn (0 : Int) (List.length a1)) = true then
  (G_l11Rest ((r17.1, (at_ K_Si a1 (0 : Int).toNat, ())))).bind fun r18 =>
  (spec_l11Sets_l0 N N ((a1, (a0, ([r18.1], (([] : List (List Int)), ((0 : Int), ()))))))).bind fun o21 => match o21 with
  | .inl d22 =>
    (spec_l11Sets_l2 N N ((d22.1, (d22.2.1, ((1 : Int), (d22.2.2.1, ())))))).bind fun o26 => match o26 with
    | .inl d27 =>
      some (d27.1, ())
  else none
theorem F_spec_l11Sets_ok (N : Nat) (d) : fnR Γ_spec_l11Sets (assoc [(0, ⟨spec_l11Sets_l0_h, spec_l11Sets_l0_o, spec_l11Sets_l0 N N⟩), (2, ⟨spec_l11Sets_l2_h, spec_l11Sets_l2_o, spec_l11Sets_l2 N N⟩)]) false [(K_PiSPiiqq, false), (K_SSi, false)] [K_SSi] Try.f36.results.toList (bodyOf Try.f36) d = F_spec_l11Sets N d := by kernel_rfl
noncomputable def S_spec_l11Sets : FSig := ⟨[(K_PiSPiiqq, false), (K_SSi, false)], [K_SSi], false, (G_l11Sets)⟩
noncomputable def Γ_spec_IsClearingWalk : Ctx := { tk := assoc tks, ar := assoc ars, fs := assoc [(23, S_spec_l11Walk), (28, S_spec_l2Good), (36, S_spec_l11Sets)] }
noncomputable def F_spec_IsClearingWalk (N : Nat) (d : (Int × (List (Int × Int × Unit)) × Unit) × List (List Int) × Unit) : Option (Bool × Bool × Unit) :=
  let a0 : Int × (List (Int × Int × Unit)) × Unit := d.1
  let a1 : List (List Int) := d.2.1
  (G_graph (a0, ())).bind fun r1 =>
  if (!r1.1) = true then
    some ((false, (false, ())))
  else
    (G_l11Walk ((a0, (a1, ())))).bind fun r2 =>
    if (!r2.1) = true then
      some ((false, (false, ())))
    else
      (G_l11Sets ((a0, (a1, ())))).bind fun r3 =>
      let x4 : Int := IntKind.wrap .i64 ((List.length a1 : Int) - (1 : Int))
      if (idxIn x4 (List.length r3.1)) = true then
      some (((List.length (at_ K_Si r3.1 x4.toNat) : Int) == (0 : Int), (true, ())))
      else none
theorem F_spec_IsClearingWalk_ok (N : Nat) (d) : fnR Γ_spec_IsClearingWalk (assoc []) true [(K_PiSPiiqq, false), (K_SSi, false)] [.bool, .bool] Try.f18.results.toList (bodyOf Try.f18) d = F_spec_IsClearingWalk N d := by kernel_rfl
noncomputable def S_spec_IsClearingWalk : FSig := ⟨[(K_PiSPiiqq, false), (K_SSi, false)], [.bool, .bool], true, (F_spec_IsClearingWalk 0)⟩
noncomputable def Γ_impl_within : Ctx := { tk := assoc tks, ar := assoc ars, fs := assoc [] }
noncomputable def F_impl_within (N : Nat) (d : Int × Int × Int × Unit) : Option (Bool × Unit) :=
  let a0 : Int := d.1
  let a1 : Int := d.2.1
  let a2 : Int := d.2.2.1
  if (decide (a0 ≥ a1)) = true then
    some (decide (a0 ≤ a2), ())
  else
    some (false, ())
theorem F_impl_within_ok (N : Nat) (d) : fnR Γ_impl_within (assoc []) true [(I, false), (I, false), (I, false)] [.bool] Try.f43.results.toList (bodyOf Try.f43) d = F_impl_within N d := by kernel_rfl
noncomputable def g_impl_within (d : Int × Int × Int × Unit) : Bool × Unit :=
  let a0 : Int := d.1
  let a1 : Int := d.2.1
  let a2 : Int := d.2.2.1
  if (decide (a0 ≥ a1)) = true then
    (decide (a0 ≤ a2), ())
  else
    (false, ())
theorem F_impl_within_tot (N : Nat) (d) : F_impl_within N d = some (g_impl_within d) := by
  unfold F_impl_within g_impl_within
  first
    | rfl
    | (dsimp only; (repeat' split) <;> rfl)
noncomputable def S_impl_within : FSig := ⟨[(I, false), (I, false), (I, false)], [.bool], true, (fun d => some (g_impl_within d))⟩
noncomputable def Γ_cmp_isNaN_int : Ctx := { tk := assoc tks, ar := assoc ars, fs := assoc [] }
noncomputable def F_cmp_isNaN_int (N : Nat) (d : Int × Unit) : Option (Bool × Unit) :=
  let a0 : Int := d.1
  some (a0 != a0, ())
theorem F_cmp_isNaN_int_ok (N : Nat) (d) : fnR Γ_cmp_isNaN_int (assoc []) true [(I, false)] [.bool] Try.f79.results.toList (bodyOf Try.f79) d = F_cmp_isNaN_int N d := by kernel_rfl
noncomputable def g_cmp_isNaN_int (d : Int × Unit) : Bool × Unit :=
  let a0 : Int := d.1
  (a0 != a0, ())
theorem F_cmp_isNaN_int_tot (N : Nat) (d) : F_cmp_isNaN_int N d = some (g_cmp_isNaN_int d) := by
  unfold F_cmp_isNaN_int g_cmp_isNaN_int
  first
    | rfl
    | (dsimp only; (repeat' split) <;> rfl)
noncomputable def S_cmp_isNaN_int : FSig := ⟨[(I, false)], [.bool], true, (fun d => some (g_cmp_isNaN_int d))⟩
noncomputable def Γ_cmp_Compare_int : Ctx := { tk := assoc tks, ar := assoc ars, fs := assoc [(79, S_cmp_isNaN_int)] }
noncomputable def F_cmp_Compare_int (N : Nat) (d : Int × Int × Unit) : Option (Int × Unit) :=
  let a0 : Int := d.1
  let a1 : Int := d.2.1
  let r1 : Bool × Unit := g_cmp_isNaN_int (a0, ())
  let r2 : Bool × Unit := g_cmp_isNaN_int (a1, ())
  if (r1.1) = true then
    if (r2.1) = true then
      some ((0 : Int), ())
    else
      some ((-1 : Int), ())
  else
    if (r2.1) = true then
      some ((1 : Int), ())
    else
      if (decide (a0 < a1)) = true then
        some ((-1 : Int), ())
      else
        if (decide (a0 > a1)) = true then
          some ((1 : Int), ())
        else
          some ((0 : Int), ())
theorem F_cmp_Compare_int_ok (N : Nat) (d) : fnR Γ_cmp_Compare_int (assoc []) true [(I, false), (I, false)] [I] Try.f65.results.toList (bodyOf Try.f65) d = F_cmp_Compare_int N d := by kernel_rfl
noncomputable def g_cmp_Compare_int (d : Int × Int × Unit) : Int × Unit :=
  let a0 : Int := d.1
  let a1 : Int := d.2.1
  let r1 : Bool × Unit := g_cmp_isNaN_int (a0, ())
  let r2 : Bool × Unit := g_cmp_isNaN_int (a1, ())
  if (r1.1) = true then
    if (r2.1) = true then
      ((0 : Int), ())
    else
      ((-1 : Int), ())
  else
    if (r2.1) = true then
      ((1 : Int), ())
    else
      if (decide (a0 < a1)) = true then
        ((-1 : Int), ())
      else
        if (decide (a0 > a1)) = true then
          ((1 : Int), ())
        else
          ((0 : Int), ())
theorem F_cmp_Compare_int_tot (N : Nat) (d) : F_cmp_Compare_int N d = some (g_cmp_Compare_int d) := by
  unfold F_cmp_Compare_int g_cmp_Compare_int
  first
    | rfl
    | (dsimp only; (repeat' split) <;> rfl)
noncomputable def S_cmp_Compare_int : FSig := ⟨[(I, false), (I, false)], [I], true, (fun d => some (g_cmp_Compare_int d))⟩
noncomputable def Γ_slices_Compare_Sint_int : Ctx := { tk := assoc tks, ar := assoc ars, fs := assoc [(65, S_cmp_Compare_int)] }
abbrev slices_Compare_Sint_int_l0_H := List Int × List Int × List Int × Int × Int × Unit
abbrev slices_Compare_Sint_int_l0_O := (Int × Unit) ⊕ (List Int × List Int × Unit) ⊕ Empty
def slices_Compare_Sint_int_l0_h : Form := [(0, .v K_Si), (1, .v K_Si), (9, .v K_Si), (10, .v I), (11, .v I)]
def slices_Compare_Sint_int_l0_o : Outs := [(.ret, [(4, .v I)]), (.normal, [(0, .v K_Si), (1, .v K_Si)])]
noncomputable def slices_Compare_Sint_int_l0_r (N : Nat) (back : slices_Compare_Sint_int_l0_H → Option slices_Compare_Sint_int_l0_O) (d : slices_Compare_Sint_int_l0_H) : Option slices_Compare_Sint_int_l0_O :=
  let s0 : List Int := d.1
  let s1 : List Int := d.2.1
  let s9 : List Int := d.2.2.1
  let s10 : Int := d.2.2.2.1
  let s11 : Int := d.2.2.2.2.1
  if (decide (s11 < s10)) = true then
    if (idxIn s11 (List.length s9)) = true then
    if (decide (s11 ≥ (List.length s1 : Int))) = true then
      some (.inl ((1 : Int), ()))
    else
      if (idxIn s11 (List.length s1)) = true then
      let r6 : Int × Unit := g_cmp_Compare_int ((at_ I s9 s11.toNat, (at_ I s1 s11.toNat, ())))
      if (r6.1 != (0 : Int)) = true then
        some (.inl (r6.1, ()))
      else
        let x7 : Int := IntKind.wrap .i64 (s11 + (1 : Int))
        back ((s0, (s1, (s9, (s10, (x7, ()))))))
      else none
    else none
  else
    some (.inr (.inl ((s0, (s1, ())))))
noncomputable def slices_Compare_Sint_int_l0 (N : Nat) : Nat → slices_Compare_Sint_int_l0_H → Option slices_Compare_Sint_int_l0_O
  | 0, _ => none
  | k + 1, d => slices_Compare_Sint_int_l0_r N (slices_Compare_Sint_int_l0 N k) d
theorem slices_Compare_Sint_int_l0_ok (N : Nat) (back) (d) : roundR Γ_slices_Compare_Sint_int (assoc []) 0 slices_Compare_Sint_int_l0_h slices_Compare_Sint_int_l0_o (loopOf Try.f44 0) back d = slices_Compare_Sint_int_l0_r N back d := by kernel_rfl
noncomputable def F_slices_Compare_Sint_int (N : Nat) (d : List Int × List Int × Unit) : Option (Int × Unit) :=
  let a0 : List Int := d.1
  let a1 : List Int := d.2.1
  (slices_Compare_Sint_int_l0 N N ((a0, (a1, (a0, ((List.length a0 : Int), ((0 : Int), ()))))))).bind fun o3 => match o3 with
  | .inl d4 =>
    some (d4.1, ())
  | .inr (.inl d5) =>
    if (decide ((List.length d5.1 : Int) < (List.length d5.2.1 : Int))) = true then
      some ((-1 : Int), ())
    else
      some ((0 : Int), ())
theorem F_slices_Compare_Sint_int_ok (N : Nat) (d) : fnR Γ_slices_Compare_Sint_int (assoc [(0, ⟨slices_Compare_Sint_int_l0_h, slices_Compare_Sint_int_l0_o, slices_Compare_Sint_int_l0 N N⟩)]) true [(K_Si, false), (K_Si, false)] [I] Try.f44.results.toList (bodyOf Try.f44) d = F_slices_Compare_Sint_int N d := by kernel_rfl
noncomputable def S_slices_Compare_Sint_int : FSig := ⟨[(K_Si, false), (K_Si, false)], [I], true, (G_compare)⟩
noncomputable def Γ_impl_IsGraph : Ctx := { tk := assoc tks, ar := assoc ars, fs := assoc [(43, S_impl_within), (44, S_slices_Compare_Sint_int)] }
abbrev impl_IsGraph_l0_H := (Int × (List (Int × Int × Unit)) × Unit) × (List (Int × Int × Unit)) × Int × Int × Unit
abbrev impl_IsGraph_l0_O := (Bool × Unit) ⊕ Unit ⊕ Empty
def impl_IsGraph_l0_h : Form := [(1, .box K_PiSPiiqq 0), (10, .v K_SPiiq), (11, .v I), (12, .v I)]
def impl_IsGraph_l0_o : Outs := [(.ret, [(2, .v .bool)]), (.normal, [])]
noncomputable def impl_IsGraph_l0_r (N : Nat) (back : impl_IsGraph_l0_H → Option impl_IsGraph_l0_O) (d : impl_IsGraph_l0_H) : Option impl_IsGraph_l0_O :=
  let s1 : Int × (List (Int × Int × Unit)) × Unit := d.1
  let s10 : List (Int × Int × Unit) := d.2.1
  let s11 : Int := d.2.2.1
  let s12 : Int := d.2.2.2.1
  if (decide (s12 < s11)) = true then
    if (idxIn s12 (List.length s10)) = true then
    if (decide ((at_ K_Piiq s10 s12.toNat).1 < (0 : Int))) = true then
      some (.inl (false, ()))
    else
      if (decide ((at_ K_Piiq s10 s12.toNat).1 ≥ (at_ K_Piiq s10 s12.toNat).2.1)) = true then
        some (.inl (false, ()))
      else
        if (decide ((at_ K_Piiq s10 s12.toNat).2.1 ≥ s1.1)) = true then
          some (.inl (false, ()))
        else
          if (decide (s12 > (0 : Int))) = true then
            let x9 : Int := IntKind.wrap .i64 (s12 - (1 : Int))
            if (idxIn x9 (List.length s1.2.1)) = true then
            (G_compare (([(at_ K_Piiq s1.2.1 x9.toNat).1, (at_ K_Piiq s1.2.1 x9.toNat).2.1], ([(at_ K_Piiq s10 s12.toNat).1, (at_ K_Piiq s10 s12.toNat).2.1], ())))).bind fun r10 =>
            if (decide (r10.1 ≥ (0 : Int))) = true then
              some (.inl (false, ()))
            else
              let x11 : Int := IntKind.wrap .i64 (s12 + (1 : Int))
              back ((s1, (s10, (s11, (x11, ())))))
            else none
          else
            let x12 : Int := IntKind.wrap .i64 (s12 + (1 : Int))
            back ((s1, (s10, (s11, (x12, ())))))
    else none
  else
    some (.inr (.inl ()))
noncomputable def impl_IsGraph_l0 (N : Nat) : Nat → impl_IsGraph_l0_H → Option impl_IsGraph_l0_O
  | 0, _ => none
  | k + 1, d => impl_IsGraph_l0_r N (impl_IsGraph_l0 N k) d
theorem impl_IsGraph_l0_ok (N : Nat) (back) (d) : roundR Γ_impl_IsGraph (assoc []) 0 impl_IsGraph_l0_h impl_IsGraph_l0_o (loopOf Try.f25 0) back d = impl_IsGraph_l0_r N back d := by kernel_rfl
noncomputable def F_impl_IsGraph (N : Nat) (d : (Int × (List (Int × Int × Unit)) × Unit) × Unit) : Option (Bool × Unit) :=
  let a0 : Int × (List (Int × Int × Unit)) × Unit := d.1
  let r1 : Bool × Unit := g_impl_within ((a0.1, ((0 : Int), ((8 : Int), ()))))
  if (!r1.1) = true then
    some (false, ())
  else
    (impl_IsGraph_l0 N N ((a0, (a0.2.1, ((List.length a0.2.1 : Int), ((0 : Int), ())))))).bind fun o6 => match o6 with
    | .inl d7 =>
      some (d7.1, ())
    | .inr (.inl d8) =>
      some (true, ())
theorem F_impl_IsGraph_ok (N : Nat) (d) : fnR Γ_impl_IsGraph (assoc [(0, ⟨impl_IsGraph_l0_h, impl_IsGraph_l0_o, impl_IsGraph_l0 N N⟩)]) true [(K_PiSPiiqq, false)] [.bool] Try.f25.results.toList (bodyOf Try.f25) d = F_impl_IsGraph N d := by kernel_rfl
noncomputable def S_impl_IsGraph : FSig := ⟨[(K_PiSPiiqq, false)], [.bool], true, (G_graph)⟩
noncomputable def Γ_impl_netOf : Ctx := { tk := assoc tks, ar := assoc ars, fs := assoc [] }
abbrev impl_netOf_l0_H := (List Int × Unit) × (List Int × Unit) × (List (Int × Int × Unit)) × Int × Int × Unit
abbrev impl_netOf_l0_O := ((List Int × Unit) × (List Int × Unit) × Unit) ⊕ Empty
def impl_netOf_l0_h : Form := [(2, .box K_PSiq 99), (3, .box K_PSiq 99), (11, .v K_SPiiq), (12, .v I), (13, .v I)]
def impl_netOf_l0_o : Outs := [(.normal, [(2, .box K_PSiq 99), (3, .box K_PSiq 99)])]
noncomputable def impl_netOf_l0_r (N : Nat) (back : impl_netOf_l0_H → Option impl_netOf_l0_O) (d : impl_netOf_l0_H) : Option impl_netOf_l0_O :=
  let s2 : List Int × Unit := d.1
  let s3 : List Int × Unit := d.2.1
  let s11 : List (Int × Int × Unit) := d.2.2.1
  let s12 : Int := d.2.2.2.1
  let s13 : Int := d.2.2.2.2.1
  if (decide (s13 < s12)) = true then
    if (idxIn s13 (List.length s11)) = true then
    if (idxIn (at_ K_Piiq s11 s13.toNat).1 (List.length s3.1)) = true then
    if (decide (0 ≤ (at_ K_Piiq s11 s13.toNat).2.1)) = true then
    let x9 : Int := shl .i64 (1 : Int) (at_ K_Piiq s11 s13.toNat).2.1
    let x10 : Int := bits .or .i64 (at_ I s3.1 (at_ K_Piiq s11 s13.toNat).1.toNat) x9
    if (idxIn (at_ K_Piiq s11 s13.toNat).1 (List.length s3.1)) = true then
    if (idxIn (at_ K_Piiq s11 s13.toNat).2.1 (List.length (List.set s3.1 (at_ K_Piiq s11 s13.toNat).1.toNat x10))) = true then
    if (decide (0 ≤ (at_ K_Piiq s11 s13.toNat).1)) = true then
    let x11 : Int := shl .i64 (1 : Int) (at_ K_Piiq s11 s13.toNat).1
    let x12 : Int := bits .or .i64 (at_ I (List.set s3.1 (at_ K_Piiq s11 s13.toNat).1.toNat x10) (at_ K_Piiq s11 s13.toNat).2.1.toNat) x11
    if (idxIn (at_ K_Piiq s11 s13.toNat).2.1 (List.length (List.set s3.1 (at_ K_Piiq s11 s13.toNat).1.toNat x10))) = true then
    let x13 : Int := IntKind.wrap .i64 (s13 + (1 : Int))
    back ((s2, ((List.set (List.set s3.1 (at_ K_Piiq s11 s13.toNat).1.toNat x10) (at_ K_Piiq s11 s13.toNat).2.1.toNat x12, s3.2), (s11, (s12, (x13, ()))))))
    else none
    else none
    else none
    else none
    else none
    else none
    else none
  else
    some (.inl ((s2, (s3, ()))))
noncomputable def impl_netOf_l0 (N : Nat) : Nat → impl_netOf_l0_H → Option impl_netOf_l0_O
  | 0, _ => none
  | k + 1, d => impl_netOf_l0_r N (impl_netOf_l0 N k) d
theorem impl_netOf_l0_ok (N : Nat) (back) (d) : roundR Γ_impl_netOf (assoc []) 0 impl_netOf_l0_h impl_netOf_l0_o (loopOf Try.f33 0) back d = impl_netOf_l0_r N back d := by kernel_rfl
noncomputable def F_impl_netOf (N : Nat) (d : (Int × (List (Int × Int × Unit)) × Unit) × Unit) : Option ((List Int × Unit) × Unit) :=
  let a0 : Int × (List (Int × Int × Unit)) × Unit := d.1
  if ((decide (0 ≤ a0.1) && decide (a0.1 ≤ a0.1) && decide (a0.1 ≤ (lim : Int)))) = true then
  let x1 : List Int := List.replicate a0.1.toNat (0 : Int)
  (impl_netOf_l0 N N (((([] : List Int), ()), ((x1, ()), (a0.2.1, ((List.length a0.2.1 : Int), ((0 : Int), ()))))))).bind fun o7 => match o7 with
  | .inl d8 =>
    some (d8.2.1, ())
  else none
theorem F_impl_netOf_ok (N : Nat) (d) : fnR Γ_impl_netOf (assoc [(0, ⟨impl_netOf_l0_h, impl_netOf_l0_o, impl_netOf_l0 N N⟩)]) true [(K_PiSPiiqq, false)] [K_PSiq] Try.f33.results.toList (bodyOf Try.f33) d = F_impl_netOf N d := by kernel_rfl
noncomputable def S_impl_netOf : FSig := ⟨[(K_PiSPiiqq, false)], [K_PSiq], true, (G_netOf)⟩
noncomputable def Γ_impl_isCopGame : Ctx := { tk := assoc tks, ar := assoc ars, fs := assoc [(25, S_impl_IsGraph), (43, S_impl_within)] }
noncomputable def F_impl_isCopGame (N : Nat) (d : (Int × (List (Int × Int × Unit)) × Unit) × Int × Unit) : Option (Bool × Unit) :=
  let a0 : Int × (List (Int × Int × Unit)) × Unit := d.1
  let a1 : Int := d.2.1
  (G_graph (a0, ())).bind fun r1 =>
  if (r1.1) = true then
    if (decide (a0.1 > (0 : Int))) = true then
      let r2 : Bool × Unit := g_impl_within ((a1, ((1 : Int), ((3 : Int), ()))))
      some (r2.1, ())
    else
      some (false, ())
  else
    some (false, ())
theorem F_impl_isCopGame_ok (N : Nat) (d) : fnR Γ_impl_isCopGame (assoc []) true [(K_PiSPiiqq, false), (I, false)] [.bool] Try.f66.results.toList (bodyOf Try.f66) d = F_impl_isCopGame N d := by kernel_rfl
noncomputable def S_impl_isCopGame : FSig := ⟨[(K_PiSPiiqq, false), (I, false)], [.bool], true, (F_impl_isCopGame 0)⟩
noncomputable def Γ_impl_allWithin : Ctx := { tk := assoc tks, ar := assoc ars, fs := assoc [(43, S_impl_within)] }
abbrev impl_allWithin_l0_H := Int × Int × List Int × Int × Int × Unit
abbrev impl_allWithin_l0_O := (Bool × Unit) ⊕ Unit ⊕ Empty
def impl_allWithin_l0_h : Form := [(1, .v I), (2, .v I), (9, .v K_Si), (10, .v I), (11, .v I)]
def impl_allWithin_l0_o : Outs := [(.ret, [(6, .v .bool)]), (.normal, [])]
noncomputable def impl_allWithin_l0_r (N : Nat) (back : impl_allWithin_l0_H → Option impl_allWithin_l0_O) (d : impl_allWithin_l0_H) : Option impl_allWithin_l0_O :=
  let s1 : Int := d.1
  let s2 : Int := d.2.1
  let s9 : List Int := d.2.2.1
  let s10 : Int := d.2.2.2.1
  let s11 : Int := d.2.2.2.2.1
  if (decide (s11 < s10)) = true then
    if (idxIn s11 (List.length s9)) = true then
    let r6 : Bool × Unit := g_impl_within ((at_ I s9 s11.toNat, (s1, (s2, ()))))
    if (!r6.1) = true then
      some (.inl (false, ()))
    else
      let x7 : Int := IntKind.wrap .i64 (s11 + (1 : Int))
      back ((s1, (s2, (s9, (s10, (x7, ()))))))
    else none
  else
    some (.inr (.inl ()))
noncomputable def impl_allWithin_l0 (N : Nat) : Nat → impl_allWithin_l0_H → Option impl_allWithin_l0_O
  | 0, _ => none
  | k + 1, d => impl_allWithin_l0_r N (impl_allWithin_l0 N k) d
theorem impl_allWithin_l0_ok (N : Nat) (back) (d) : roundR Γ_impl_allWithin (assoc []) 0 impl_allWithin_l0_h impl_allWithin_l0_o (loopOf Try.f32 0) back d = impl_allWithin_l0_r N back d := by kernel_rfl
noncomputable def F_impl_allWithin (N : Nat) (d : List Int × Int × Int × Unit) : Option (Bool × Unit) :=
  let a0 : List Int := d.1
  let a1 : Int := d.2.1
  let a2 : Int := d.2.2.1
  (impl_allWithin_l0 N N ((a1, (a2, (a0, ((List.length a0 : Int), ((0 : Int), ()))))))).bind fun o3 => match o3 with
  | .inl d4 =>
    some (d4.1, ())
  | .inr (.inl d5) =>
    some (true, ())
theorem F_impl_allWithin_ok (N : Nat) (d) : fnR Γ_impl_allWithin (assoc [(0, ⟨impl_allWithin_l0_h, impl_allWithin_l0_o, impl_allWithin_l0 N N⟩)]) true [(K_Si, false), (I, false), (I, false)] [.bool] Try.f32.results.toList (bodyOf Try.f32) d = F_impl_allWithin N d := by kernel_rfl
noncomputable def S_impl_allWithin : FSig := ⟨[(K_Si, false), (I, false), (I, false)], [.bool], true, (G_allWithin)⟩
noncomputable def Γ_impl_hasNodes : Ctx := { tk := assoc tks, ar := assoc ars, fs := assoc [(25, S_impl_IsGraph), (32, S_impl_allWithin)] }
noncomputable def F_impl_hasNodes (N : Nat) (d : (Int × (List (Int × Int × Unit)) × Unit) × List Int × Unit) : Option (Bool × Unit) :=
  let a0 : Int × (List (Int × Int × Unit)) × Unit := d.1
  let a1 : List Int := d.2.1
  (G_graph (a0, ())).bind fun r1 =>
  if (r1.1) = true then
    let x2 : Int := IntKind.wrap .i64 (a0.1 - (1 : Int))
    (G_allWithin ((a1, ((0 : Int), (x2, ()))))).bind fun r3 =>
    some (r3.1, ())
  else
    some (false, ())
theorem F_impl_hasNodes_ok (N : Nat) (d) : fnR Γ_impl_hasNodes (assoc []) true [(K_PiSPiiqq, false), (K_Si, false)] [.bool] Try.f67.results.toList (bodyOf Try.f67) d = F_impl_hasNodes N d := by kernel_rfl
noncomputable def S_impl_hasNodes : FSig := ⟨[(K_PiSPiiqq, false), (K_Si, false)], [.bool], true, (F_impl_hasNodes 0)⟩
noncomputable def Γ_cmp_Less_int : Ctx := { tk := assoc tks, ar := assoc ars, fs := assoc [(79, S_cmp_isNaN_int)] }
noncomputable def F_cmp_Less_int (N : Nat) (d : Int × Int × Unit) : Option (Bool × Unit) :=
  let a0 : Int := d.1
  let a1 : Int := d.2.1
  let r1 : Bool × Unit := g_cmp_isNaN_int (a0, ())
  if (r1.1) = true then
    let r2 : Bool × Unit := g_cmp_isNaN_int (a1, ())
    if (!r2.1) = true then
      some (true, ())
    else
      some (decide (a0 < a1), ())
  else
    some (decide (a0 < a1), ())
theorem F_cmp_Less_int_ok (N : Nat) (d) : fnR Γ_cmp_Less_int (assoc []) true [(I, false), (I, false)] [.bool] Try.f80.results.toList (bodyOf Try.f80) d = F_cmp_Less_int N d := by kernel_rfl
noncomputable def g_cmp_Less_int (d : Int × Int × Unit) : Bool × Unit :=
  let a0 : Int := d.1
  let a1 : Int := d.2.1
  let r1 : Bool × Unit := g_cmp_isNaN_int (a0, ())
  if (r1.1) = true then
    let r2 : Bool × Unit := g_cmp_isNaN_int (a1, ())
    if (!r2.1) = true then
      (true, ())
    else
      (decide (a0 < a1), ())
  else
    (decide (a0 < a1), ())
theorem F_cmp_Less_int_tot (N : Nat) (d) : F_cmp_Less_int N d = some (g_cmp_Less_int d) := by
  unfold F_cmp_Less_int g_cmp_Less_int
  first
    | rfl
    | (dsimp only; (repeat' split) <;> rfl)
noncomputable def S_cmp_Less_int : FSig := ⟨[(I, false), (I, false)], [.bool], true, (fun d => some (g_cmp_Less_int d))⟩
noncomputable def Γ_slices_IsSorted_Sint_int : Ctx := { tk := assoc tks, ar := assoc ars, fs := assoc [(80, S_cmp_Less_int)] }
abbrev slices_IsSorted_Sint_int_l0_H := List Int × Int × Unit
abbrev slices_IsSorted_Sint_int_l0_O := (Bool × Unit) ⊕ Unit ⊕ Empty
def slices_IsSorted_Sint_int_l0_h : Form := [(0, .v K_Si), (3, .v I)]
def slices_IsSorted_Sint_int_l0_o : Outs := [(.ret, [(2, .v .bool)]), (.normal, [])]
noncomputable def slices_IsSorted_Sint_int_l0_r (N : Nat) (back : slices_IsSorted_Sint_int_l0_H → Option slices_IsSorted_Sint_int_l0_O) (d : slices_IsSorted_Sint_int_l0_H) : Option slices_IsSorted_Sint_int_l0_O :=
  let s0 : List Int := d.1
  let s3 : Int := d.2.1
  if (decide (s3 > (0 : Int))) = true then
    if (idxIn s3 (List.length s0)) = true then
    let x8 : Int := IntKind.wrap .i64 (s3 - (1 : Int))
    if (idxIn x8 (List.length s0)) = true then
    let r9 : Bool × Unit := g_cmp_Less_int ((at_ I s0 s3.toNat, (at_ I s0 x8.toNat, ())))
    if (r9.1) = true then
      some (.inl (false, ()))
    else
      let x10 : Int := IntKind.wrap .i64 (s3 - (1 : Int))
      back ((s0, (x10, ())))
    else none
    else none
  else
    some (.inr (.inl ()))
noncomputable def slices_IsSorted_Sint_int_l0 (N : Nat) : Nat → slices_IsSorted_Sint_int_l0_H → Option slices_IsSorted_Sint_int_l0_O
  | 0, _ => none
  | k + 1, d => slices_IsSorted_Sint_int_l0_r N (slices_IsSorted_Sint_int_l0 N k) d
theorem slices_IsSorted_Sint_int_l0_ok (N : Nat) (back) (d) : roundR Γ_slices_IsSorted_Sint_int (assoc []) 0 slices_IsSorted_Sint_int_l0_h slices_IsSorted_Sint_int_l0_o (loopOf Try.f68 0) back d = slices_IsSorted_Sint_int_l0_r N back d := by kernel_rfl
noncomputable def F_slices_IsSorted_Sint_int (N : Nat) (d : List Int × Unit) : Option (Bool × Unit) :=
  let a0 : List Int := d.1
  let x1 : Int := IntKind.wrap .i64 ((List.length a0 : Int) - (1 : Int))
  (slices_IsSorted_Sint_int_l0 N N ((a0, (x1, ())))).bind fun o5 => match o5 with
  | .inl d6 =>
    some (d6.1, ())
  | .inr (.inl d7) =>
    some (true, ())
theorem F_slices_IsSorted_Sint_int_ok (N : Nat) (d) : fnR Γ_slices_IsSorted_Sint_int (assoc [(0, ⟨slices_IsSorted_Sint_int_l0_h, slices_IsSorted_Sint_int_l0_o, slices_IsSorted_Sint_int_l0 N N⟩)]) true [(K_Si, false)] [.bool] Try.f68.results.toList (bodyOf Try.f68) d = F_slices_IsSorted_Sint_int N d := by kernel_rfl
noncomputable def S_slices_IsSorted_Sint_int : FSig := ⟨[(K_Si, false)], [.bool], true, (G_isSorted)⟩
noncomputable def Γ_impl_areCops : Ctx := { tk := assoc tks, ar := assoc ars, fs := assoc [(66, S_impl_isCopGame), (67, S_impl_hasNodes), (68, S_slices_IsSorted_Sint_int)] }
noncomputable def F_impl_areCops (N : Nat) (d : (Int × (List (Int × Int × Unit)) × Unit) × List Int × Unit) : Option (Bool × Unit) :=
  let a0 : Int × (List (Int × Int × Unit)) × Unit := d.1
  let a1 : List Int := d.2.1
  ((F_impl_isCopGame 0) ((a0, ((List.length a1 : Int), ())))).bind fun r1 =>
  if (r1.1) = true then
    ((F_impl_hasNodes 0) ((a0, (a1, ())))).bind fun r2 =>
    if (r2.1) = true then
      (G_isSorted (a1, ())).bind fun r3 =>
      some (r3.1, ())
    else
      some (false, ())
  else
    some (false, ())
theorem F_impl_areCops_ok (N : Nat) (d) : fnR Γ_impl_areCops (assoc []) true [(K_PiSPiiqq, false), (K_Si, false)] [.bool] Try.f45.results.toList (bodyOf Try.f45) d = F_impl_areCops N d := by kernel_rfl
noncomputable def S_impl_areCops : FSig := ⟨[(K_PiSPiiqq, false), (K_Si, false)], [.bool], true, (F_impl_areCops 0)⟩
noncomputable def Γ_impl_net_closed : Ctx := { tk := assoc tks, ar := assoc ars, fs := assoc [] }
noncomputable def F_impl_net_closed (N : Nat) (d : (List Int × Unit) × Int × Unit) : Option (Int × Unit) :=
  let a0 : List Int × Unit := d.1
  let a1 : Int := d.2.1
  if (idxIn a1 (List.length a0.1)) = true then
  if (decide (0 ≤ a1)) = true then
  let x1 : Int := bits .or .i64 (at_ I a0.1 a1.toNat) (shl .i64 (1 : Int) a1)
  some (x1, ())
  else none
  else none
theorem F_impl_net_closed_ok (N : Nat) (d) : fnR Γ_impl_net_closed (assoc []) true [(K_PSiq, false), (I, false)] [I] Try.f35.results.toList (bodyOf Try.f35) d = F_impl_net_closed N d := by kernel_rfl
noncomputable def S_impl_net_closed : FSig := ⟨[(K_PSiq, false), (I, false)], [I], true, (F_impl_net_closed 0)⟩
noncomputable def Γ_impl_setOf : Ctx := { tk := assoc tks, ar := assoc ars, fs := assoc [] }
abbrev impl_setOf_l0_H := Int × List Int × Int × Unit
abbrev impl_setOf_l0_O := (List Int × Unit) ⊕ Empty
def impl_setOf_l0_h : Form := [(0, .v I), (3, .own K_Si 99), (4, .v I)]
def impl_setOf_l0_o : Outs := [(.normal, [(3, .own K_Si 99)])]
noncomputable def impl_setOf_l0_r (N : Nat) (back : impl_setOf_l0_H → Option impl_setOf_l0_O) (d : impl_setOf_l0_H) : Option impl_setOf_l0_O :=
  let s0 : Int := d.1
  let s3 : List Int := d.2.1
  let s4 : Int := d.2.2.1
  if (decide (0 ≤ s4)) = true then
  if (shr .i64 s0 s4 != (0 : Int)) = true then
    if (decide (0 ≤ s4)) = true then
    let x6 : Int := bits .and .i64 (shr .i64 s0 s4) (1 : Int)
    if (x6 == (1 : Int)) = true then
      if (decide (List.length s3 + List.length ([s4]) ≤ lim)) = true then
      let x7 : Int := IntKind.wrap .i64 (s4 + (1 : Int))
      back ((s0, (s3 ++ ([s4]), (x7, ()))))
      else none
    else
      let x8 : Int := IntKind.wrap .i64 (s4 + (1 : Int))
      back ((s0, (s3, (x8, ()))))
    else none
  else
    some (.inl (s3, ()))
  else none
noncomputable def impl_setOf_l0 (N : Nat) : Nat → impl_setOf_l0_H → Option impl_setOf_l0_O
  | 0, _ => none
  | k + 1, d => impl_setOf_l0_r N (impl_setOf_l0 N k) d
theorem impl_setOf_l0_ok (N : Nat) (back) (d) : roundR Γ_impl_setOf (assoc []) 0 impl_setOf_l0_h impl_setOf_l0_o (loopOf Try.f70 0) back d = impl_setOf_l0_r N back d := by kernel_rfl
noncomputable def F_impl_setOf (N : Nat) (d : Int × Unit) : Option (List Int × Unit) :=
  let a0 : Int := d.1
  (impl_setOf_l0 N N ((a0, (([] : List Int), ((0 : Int), ()))))).bind fun o4 => match o4 with
  | .inl d5 =>
    some (d5.1, ())
theorem F_impl_setOf_ok (N : Nat) (d) : fnR Γ_impl_setOf (assoc [(0, ⟨impl_setOf_l0_h, impl_setOf_l0_o, impl_setOf_l0 N N⟩)]) true [(I, false)] [K_Si] Try.f70.results.toList (bodyOf Try.f70) d = F_impl_setOf N d := by kernel_rfl
noncomputable def S_impl_setOf : FSig := ⟨[(I, false)], [K_Si], true, (G_setOf)⟩
noncomputable def Γ_slices_Clone_Sint_int : Ctx := { tk := assoc tks, ar := assoc ars, fs := assoc [] }
noncomputable def F_slices_Clone_Sint_int (N : Nat) (d : List Int × Unit) : Option (List Int × Unit) :=
  let a0 : List Int := d.1
  if (decide (List.length a0 = 0)) = true then
    both (
        some (([] : List Int), ())) (
        if (decide (List.length ([] : List Int) + List.length a0 ≤ lim)) = true then
        some (([] : List Int) ++ a0, ())
        else none)
  else
    if (decide (List.length ([] : List Int) + List.length a0 ≤ lim)) = true then
    some (([] : List Int) ++ a0, ())
    else none
theorem F_slices_Clone_Sint_int_ok (N : Nat) (d) : fnR Γ_slices_Clone_Sint_int (assoc []) true [(K_Si, false)] [K_Si] Try.f71.results.toList (bodyOf Try.f71) d = F_slices_Clone_Sint_int N d := by kernel_rfl
noncomputable def S_slices_Clone_Sint_int : FSig := ⟨[(K_Si, false)], [K_Si], true, (G_toIntS)⟩
def S_slices_Sort_Sint_int : FSig := ⟨[(K_Si, true)], [], true, G_sortI⟩
noncomputable def Γ_slices_Equal_Sint_int : Ctx := { tk := assoc tks, ar := assoc ars, fs := assoc [] }
abbrev slices_Equal_Sint_int_l0_H := List Int × List Int × Int × Int × Unit
abbrev slices_Equal_Sint_int_l0_O := (Bool × Unit) ⊕ Unit ⊕ Empty
def slices_Equal_Sint_int_l0_h : Form := [(0, .v K_Si), (1, .v K_Si), (12, .v I), (13, .v I)]
def slices_Equal_Sint_int_l0_o : Outs := [(.ret, [(4, .v .bool)]), (.normal, [])]
noncomputable def slices_Equal_Sint_int_l0_r (N : Nat) (back : slices_Equal_Sint_int_l0_H → Option slices_Equal_Sint_int_l0_O) (d : slices_Equal_Sint_int_l0_H) : Option slices_Equal_Sint_int_l0_O :=
  let s0 : List Int := d.1
  let s1 : List Int := d.2.1
  let s12 : Int := d.2.2.1
  let s13 : Int := d.2.2.2.1
  if (decide (s13 < s12)) = true then
    if (idxIn s13 (List.length s0)) = true then
    if (idxIn s13 (List.length s1)) = true then
    if (at_ I s0 s13.toNat != at_ I s1 s13.toNat) = true then
      some (.inl (false, ()))
    else
      let x5 : Int := IntKind.wrap .i64 (s13 + (1 : Int))
      back ((s0, (s1, (s12, (x5, ())))))
    else none
    else none
  else
    some (.inr (.inl ()))
noncomputable def slices_Equal_Sint_int_l0 (N : Nat) : Nat → slices_Equal_Sint_int_l0_H → Option slices_Equal_Sint_int_l0_O
  | 0, _ => none
  | k + 1, d => slices_Equal_Sint_int_l0_r N (slices_Equal_Sint_int_l0 N k) d
theorem slices_Equal_Sint_int_l0_ok (N : Nat) (back) (d) : roundR Γ_slices_Equal_Sint_int (assoc []) 0 slices_Equal_Sint_int_l0_h slices_Equal_Sint_int_l0_o (loopOf Try.f49 0) back d = slices_Equal_Sint_int_l0_r N back d := by kernel_rfl
noncomputable def F_slices_Equal_Sint_int (N : Nat) (d : List Int × List Int × Unit) : Option (Bool × Unit) :=
  let a0 : List Int := d.1
  let a1 : List Int := d.2.1
  if ((List.length a0 : Int) != (List.length a1 : Int)) = true then
    some (false, ())
  else
    (slices_Equal_Sint_int_l0 N N ((a0, (a1, ((List.length a0 : Int), ((0 : Int), ())))))).bind fun o2 => match o2 with
    | .inl d3 =>
      some (d3.1, ())
    | .inr (.inl d4) =>
      some (true, ())
theorem F_slices_Equal_Sint_int_ok (N : Nat) (d) : fnR Γ_slices_Equal_Sint_int (assoc [(0, ⟨slices_Equal_Sint_int_l0_h, slices_Equal_Sint_int_l0_o, slices_Equal_Sint_int_l0 N N⟩)]) true [(K_Si, false), (K_Si, false)] [.bool] Try.f49.results.toList (bodyOf Try.f49) d = F_slices_Equal_Sint_int N d := by kernel_rfl
noncomputable def S_slices_Equal_Sint_int : FSig := ⟨[(K_Si, false), (K_Si, false)], [.bool], true, (G_l1Same)⟩
def S_slices_SortFunc_SSint_Sint_by_slices_Compare_Sint_int : FSig := ⟨[(K_SSi, true), (K_F_slices_Compare_Sint_int_qq, false)], [], true, G_sortF⟩
def S_slices_CompactFunc_SSint_Sint_by_slices_Equal_Sint_int : FSig := ⟨[(K_SSi, true), (K_F_slices_Equal_Sint_int_qq, false)], [K_SSi], true, G_compactF⟩
noncomputable def Γ_impl_net_copMoves : Ctx := { tk := assoc tks, ar := assoc ars, fs := assoc [(35, S_impl_net_closed), (70, S_impl_setOf), (71, S_slices_Clone_Sint_int), (72, S_slices_Sort_Sint_int), (73, S_slices_SortFunc_SSint_Sint_by_slices_Compare_Sint_int)], dm := fun t => Nat.beq t 10 || Nat.beq t 22, cs := assoc [], gs := assoc [(74, (S_slices_CompactFunc_SSint_Sint_by_slices_Equal_Sint_int, { gone := [0], deep := [] }))], eqt := inL [], md := md0 }
abbrev impl_net_copMoves_l4_H := (List Int × Unit) × Int × List (List Int) × List Int × List Int × Int × Int × List (List Int) × Int × Int × List Int × Int × Int × Unit
abbrev impl_net_copMoves_l4_O := ((List Int × Unit) × Int × List (List Int) × List Int × Int × Int × List (List Int) × Int × Int × Unit) ⊕ Empty
def impl_net_copMoves_l4_h : Form := [(2, .box K_PSiq 0), (7, .v I), (8, .own K_SSi 99), (10, .v K_Si), (16, .v K_Si), (17, .v I), (18, .v I), (22, .v K_SSi), (23, .v I), (24, .v I), (31, .own K_Si 99), (32, .v I), (33, .v I)]
def impl_net_copMoves_l4_o : Outs := [(.normal, [(2, .box K_PSiq 0), (7, .v I), (8, .own K_SSi 99), (16, .v K_Si), (17, .v I), (18, .v I), (22, .v K_SSi), (23, .v I), (24, .v I)])]
noncomputable def impl_net_copMoves_l4_r (N : Nat) (back : impl_net_copMoves_l4_H → Option impl_net_copMoves_l4_O) (d : impl_net_copMoves_l4_H) : Option impl_net_copMoves_l4_O :=
  let s2 : List Int × Unit := d.1
  let s7 : Int := d.2.1
  let s8 : List (List Int) := d.2.2.1
  let s10 : List Int := d.2.2.2.1
  let s16 : List Int := d.2.2.2.2.1
  let s17 : Int := d.2.2.2.2.2.1
  let s18 : Int := d.2.2.2.2.2.2.1
  let s22 : List (List Int) := d.2.2.2.2.2.2.2.1
  let s23 : Int := d.2.2.2.2.2.2.2.2.1
  let s24 : Int := d.2.2.2.2.2.2.2.2.2.1
  let s31 : List Int := d.2.2.2.2.2.2.2.2.2.2.1
  let s32 : Int := d.2.2.2.2.2.2.2.2.2.2.2.1
  let s33 : Int := d.2.2.2.2.2.2.2.2.2.2.2.2.1
  if (decide (s33 < s32)) = true then
    if (idxIn s33 (List.length s31)) = true then
    (G_toIntS (s10, ())).bind fun r50 =>
    if (decide (List.length r50.1 + List.length ([at_ I s31 s33.toNat]) ≤ lim)) = true then
    let x51 : List Int := r50.1 ++ ([at_ I s31 s33.toNat])
    if (decide (List.length s8 + List.length ([x51]) ≤ lim)) = true then
    let x52 : Int := IntKind.wrap .i64 (s33 + (1 : Int))
    back ((s2, (s7, (s8 ++ ([x51]), (s10, (s16, (s17, (s18, (s22, (s23, (s24, (s31, (s32, (x52, ()))))))))))))))
    else none
    else none
    else none
  else
    some (.inl ((s2, (s7, (s8, (s16, (s17, (s18, (s22, (s23, (s24, ())))))))))))
noncomputable def impl_net_copMoves_l4 (N : Nat) : Nat → impl_net_copMoves_l4_H → Option impl_net_copMoves_l4_O
  | 0, _ => none
  | k + 1, d => impl_net_copMoves_l4_r N (impl_net_copMoves_l4 N k) d
theorem impl_net_copMoves_l4_ok (N : Nat) (back) (d) : roundR Γ_impl_net_copMoves (assoc []) 4 impl_net_copMoves_l4_h impl_net_copMoves_l4_o (loopOf Try.f47 4) back d = impl_net_copMoves_l4_r N back d := by kernel_rfl
abbrev impl_net_copMoves_l2_H := (List Int × Unit) × Int × List (List Int) × List Int × Int × Int × List (List Int) × Int × Int × Unit
abbrev impl_net_copMoves_l2_O := ((List Int × Unit) × List (List Int) × List Int × Int × Int × Unit) ⊕ Empty
def impl_net_copMoves_l2_h : Form := [(2, .box K_PSiq 0), (7, .v I), (8, .own K_SSi 99), (16, .v K_Si), (17, .v I), (18, .v I), (22, .v K_SSi), (23, .v I), (24, .v I)]
def impl_net_copMoves_l2_o : Outs := [(.normal, [(2, .box K_PSiq 0), (8, .own K_SSi 99), (16, .v K_Si), (17, .v I), (18, .v I)])]
noncomputable def impl_net_copMoves_l2_r (N : Nat) (back : impl_net_copMoves_l2_H → Option impl_net_copMoves_l2_O) (d : impl_net_copMoves_l2_H) : Option impl_net_copMoves_l2_O :=
  let s2 : List Int × Unit := d.1
  let s7 : Int := d.2.1
  let s8 : List (List Int) := d.2.2.1
  let s16 : List Int := d.2.2.2.1
  let s17 : Int := d.2.2.2.2.1
  let s18 : Int := d.2.2.2.2.2.1
  let s22 : List (List Int) := d.2.2.2.2.2.2.1
  let s23 : Int := d.2.2.2.2.2.2.2.1
  let s24 : Int := d.2.2.2.2.2.2.2.2.1
  if (decide (s24 < s23)) = true then
    if (idxIn s24 (List.length s22)) = true then
    ((F_impl_net_closed 0) ((s2, (s7, ())))).bind fun r42 =>
    (G_setOf (r42.1, ())).bind fun r43 =>
    (impl_net_copMoves_l4 N N ((s2, (s7, (s8, (at_ K_Si s22 s24.toNat, (s16, (s17, (s18, (s22, (s23, (s24, (r43.1, ((List.length r43.1 : Int), ((0 : Int), ()))))))))))))))).bind fun o47 => match o47 with
    | .inl d48 =>
      let x49 : Int := IntKind.wrap .i64 (d48.2.2.2.2.2.2.2.2.1 + (1 : Int))
      back ((d48.1, (d48.2.1, (d48.2.2.1, (d48.2.2.2.1, (d48.2.2.2.2.1, (d48.2.2.2.2.2.1, (d48.2.2.2.2.2.2.1, (d48.2.2.2.2.2.2.2.1, (x49, ()))))))))))
    else none
  else
    some (.inl ((s2, (s8, (s16, (s17, (s18, ())))))))
noncomputable def impl_net_copMoves_l2 (N : Nat) : Nat → impl_net_copMoves_l2_H → Option impl_net_copMoves_l2_O
  | 0, _ => none
  | k + 1, d => impl_net_copMoves_l2_r N (impl_net_copMoves_l2 N k) d
theorem impl_net_copMoves_l2_ok (N : Nat) (back) (d) : roundR Γ_impl_net_copMoves (assoc [(4, ⟨impl_net_copMoves_l4_h, impl_net_copMoves_l4_o, impl_net_copMoves_l4 N N⟩)]) 2 impl_net_copMoves_l2_h impl_net_copMoves_l2_o (loopOf Try.f47 2) back d = impl_net_copMoves_l2_r N back d := by kernel_rfl
abbrev impl_net_copMoves_l0_H := (List Int × Unit) × List (List Int) × List Int × Int × Int × Unit
abbrev impl_net_copMoves_l0_O := (List (List Int) × Unit) ⊕ Empty
def impl_net_copMoves_l0_h : Form := [(2, .box K_PSiq 0), (5, .own K_SSi 99), (16, .v K_Si), (17, .v I), (18, .v I)]
def impl_net_copMoves_l0_o : Outs := [(.normal, [(5, .own K_SSi 99)])]
noncomputable def impl_net_copMoves_l0_r (N : Nat) (back : impl_net_copMoves_l0_H → Option impl_net_copMoves_l0_O) (d : impl_net_copMoves_l0_H) : Option impl_net_copMoves_l0_O :=
  let s2 : List Int × Unit := d.1
  let s5 : List (List Int) := d.2.1
  let s16 : List Int := d.2.2.1
  let s17 : Int := d.2.2.2.1
  let s18 : Int := d.2.2.2.2.1
  if (decide (s18 < s17)) = true then
    if (idxIn s18 (List.length s16)) = true then
    (impl_net_copMoves_l2 N N ((s2, (at_ I s16 s18.toNat, (([] : List (List Int)), (s16, (s17, (s18, (s5, ((List.length s5 : Int), ((0 : Int), ()))))))))))).bind fun o39 => match o39 with
    | .inl d40 =>
      let x41 : Int := IntKind.wrap .i64 (d40.2.2.2.2.1 + (1 : Int))
      back ((d40.1, (d40.2.1, (d40.2.2.1, (d40.2.2.2.1, (x41, ()))))))
    else none
  else
    some (.inl (s5, ()))
noncomputable def impl_net_copMoves_l0 (N : Nat) : Nat → impl_net_copMoves_l0_H → Option impl_net_copMoves_l0_O
  | 0, _ => none
  | k + 1, d => impl_net_copMoves_l0_r N (impl_net_copMoves_l0 N k) d
theorem impl_net_copMoves_l0_ok (N : Nat) (back) (d) : roundR Γ_impl_net_copMoves (assoc [(2, ⟨impl_net_copMoves_l2_h, impl_net_copMoves_l2_o, impl_net_copMoves_l2 N N⟩)]) 0 impl_net_copMoves_l0_h impl_net_copMoves_l0_o (loopOf Try.f47 0) back d = impl_net_copMoves_l0_r N back d := by kernel_rfl
abbrev impl_net_copMoves_l6_H := List (List Int) × Unit × Int × Int × Unit
abbrev impl_net_copMoves_l6_O := (List (List Int) × Unit) ⊕ Empty
def impl_net_copMoves_l6_h : Form := [(5, .own K_SSi 99), (49, .same 5 []), (50, .v I), (51, .v I)]
def impl_net_copMoves_l6_o : Outs := [(.normal, [(5, .own K_SSi 99)])]
noncomputable def impl_net_copMoves_l6_r (N : Nat) (back : impl_net_copMoves_l6_H → Option impl_net_copMoves_l6_O) (d : impl_net_copMoves_l6_H) : Option impl_net_copMoves_l6_O :=
  let s5 : List (List Int) := d.1
  let s49 : Unit := d.2.1
  let s50 : Int := d.2.2.1
  let s51 : Int := d.2.2.2.1
  if (decide (s51 < s50)) = true then
    if (idxIn s51 (List.length s5)) = true then
    (G_sortI (at_ K_Si s5 s51.toNat, ())).bind fun r53 =>
    let x54 : Int := IntKind.wrap .i64 (s51 + (1 : Int))
    back ((List.set s5 s51.toNat r53.1, ((), (s50, (x54, ())))))
    else none
  else
    some (.inl (s5, ()))
noncomputable def impl_net_copMoves_l6 (N : Nat) : Nat → impl_net_copMoves_l6_H → Option impl_net_copMoves_l6_O
  | 0, _ => none
  | k + 1, d => impl_net_copMoves_l6_r N (impl_net_copMoves_l6 N k) d
theorem impl_net_copMoves_l6_ok (N : Nat) (back) (d) : roundR Γ_impl_net_copMoves (assoc []) 6 impl_net_copMoves_l6_h impl_net_copMoves_l6_o (loopOf Try.f47 6) back d = impl_net_copMoves_l6_r N back d := by kernel_rfl
noncomputable def F_impl_net_copMoves (N : Nat) (d : (List Int × Unit) × List Int × Unit) : Option (List (List Int) × Unit) :=
  let a0 : List Int × Unit := d.1
  let a1 : List Int := d.2.1
  (impl_net_copMoves_l0 N N ((a0, ([([] : List Int)], (a1, ((List.length a1 : Int), ((0 : Int), ()))))))).bind fun o23 => match o23 with
  | .inl d24 =>
    (impl_net_copMoves_l6 N N ((d24.1, ((), ((List.length d24.1 : Int), ((0 : Int), ())))))).bind fun o27 => match o27 with
    | .inl d28 =>
      (G_sortF ((d28.1, (((), ()), ())))).bind fun r29 =>
      (G_compactF ((r29.1, (((), ()), ())))).bind fun r30 =>
      some (r30.1, ())
theorem F_impl_net_copMoves_ok (N : Nat) (d) : fnR Γ_impl_net_copMoves (assoc [(0, ⟨impl_net_copMoves_l0_h, impl_net_copMoves_l0_o, impl_net_copMoves_l0 N N⟩), (6, ⟨impl_net_copMoves_l6_h, impl_net_copMoves_l6_o, impl_net_copMoves_l6 N N⟩)]) true [(K_PSiq, false), (K_Si, false)] [K_SSi] Try.f47.results.toList (bodyOf Try.f47) d = F_impl_net_copMoves N d := by kernel_rfl
noncomputable def S_impl_net_copMoves : FSig := ⟨[(K_PSiq, false), (K_Si, false)], [K_SSi], true, (G_copMoves)⟩
noncomputable def Γ_impl_isWalk_1 : Ctx := { tk := assoc tks, ar := assoc ars, fs := assoc [(49, S_slices_Equal_Sint_int)] }
noncomputable def F_impl_isWalk_1 (N : Nat) (d : List Int × List Int × Unit) : Option (Bool × Unit) :=
  let a0 : List Int := d.1
  let a1 : List Int := d.2.1
  (G_l1Same ((a0, (a1, ())))).bind fun r1 =>
  some (r1.1, ())
theorem F_impl_isWalk_1_ok (N : Nat) (d) : fnR Γ_impl_isWalk_1 (assoc []) true [(K_Si, false), (K_BSi, false)] [.bool] Try.f48.results.toList (bodyOf Try.f48) d = F_impl_isWalk_1 N d := by kernel_rfl
noncomputable def S_impl_isWalk_1 : FSig := ⟨[(K_Si, false), (K_BSi, false)], [.bool], true, (F_impl_isWalk_1 0)⟩
noncomputable def FV_impl_isWalk_1 (d : List Int × (Unit × List Int × Unit) × Unit) : Option (Bool × Unit) := (F_impl_isWalk_1 0) (d.1, d.2.1.2)
noncomputable def SV_impl_isWalk_1 : FSig := ⟨[(K_Si, false), (K_F_impl_isWalk_1_qPBSiq, false)], [.bool], true, FV_impl_isWalk_1⟩
noncomputable def Γ_slices_IndexFunc_SSint_Sint_by_impl_isWalk_1 : Ctx := { tk := assoc tks, ar := assoc ars, fs := assoc [], cs := assoc [(48, SV_impl_isWalk_1)] }
abbrev slices_IndexFunc_SSint_Sint_by_impl_isWalk_1_l0_H := List (List Int) × (Unit × List Int × Unit) × Int × Int × Unit
abbrev slices_IndexFunc_SSint_Sint_by_impl_isWalk_1_l0_O := (Int × Unit) ⊕ Unit ⊕ Empty
def slices_IndexFunc_SSint_Sint_by_impl_isWalk_1_l0_h : Form := [(0, .v K_SSi), (1, .v K_F_impl_isWalk_1_qPBSiq), (7, .v I), (8, .v I)]
def slices_IndexFunc_SSint_Sint_by_impl_isWalk_1_l0_o : Outs := [(.ret, [(4, .v I)]), (.normal, [])]
noncomputable def slices_IndexFunc_SSint_Sint_by_impl_isWalk_1_l0_r (N : Nat) (back : slices_IndexFunc_SSint_Sint_by_impl_isWalk_1_l0_H → Option slices_IndexFunc_SSint_Sint_by_impl_isWalk_1_l0_O) (d : slices_IndexFunc_SSint_Sint_by_impl_isWalk_1_l0_H) : Option slices_IndexFunc_SSint_Sint_by_impl_isWalk_1_l0_O :=
  let s0 : List (List Int) := d.1
  let s1 : Unit × List Int × Unit := d.2.1
  let s7 : Int := d.2.2.1
  let s8 : Int := d.2.2.2.1
  if (decide (s8 < s7)) = true then
    if (idxIn s8 (List.length s0)) = true then
    (FV_impl_isWalk_1 ((at_ K_Si s0 s8.toNat, (s1, ())))).bind fun r6 =>
    if (r6.1) = true then
      some (.inl (s8, ()))
    else
      let x7 : Int := IntKind.wrap .i64 (s8 + (1 : Int))
      back ((s0, (s1, (s7, (x7, ())))))
    else none
  else
    some (.inr (.inl ()))
noncomputable def slices_IndexFunc_SSint_Sint_by_impl_isWalk_1_l0 (N : Nat) : Nat → slices_IndexFunc_SSint_Sint_by_impl_isWalk_1_l0_H → Option slices_IndexFunc_SSint_Sint_by_impl_isWalk_1_l0_O
  | 0, _ => none
  | k + 1, d => slices_IndexFunc_SSint_Sint_by_impl_isWalk_1_l0_r N (slices_IndexFunc_SSint_Sint_by_impl_isWalk_1_l0 N k) d
theorem slices_IndexFunc_SSint_Sint_by_impl_isWalk_1_l0_ok (N : Nat) (back) (d) : roundR Γ_slices_IndexFunc_SSint_Sint_by_impl_isWalk_1 (assoc []) 0 slices_IndexFunc_SSint_Sint_by_impl_isWalk_1_l0_h slices_IndexFunc_SSint_Sint_by_impl_isWalk_1_l0_o (loopOf Try.f69 0) back d = slices_IndexFunc_SSint_Sint_by_impl_isWalk_1_l0_r N back d := by kernel_rfl
noncomputable def F_slices_IndexFunc_SSint_Sint_by_impl_isWalk_1 (N : Nat) (d : List (List Int) × (Unit × List Int × Unit) × Unit) : Option (Int × Unit) :=
  let a0 : List (List Int) := d.1
  let a1 : Unit × List Int × Unit := d.2.1
  (slices_IndexFunc_SSint_Sint_by_impl_isWalk_1_l0 N N ((a0, (a1, ((List.length a0 : Int), ((0 : Int), ())))))).bind fun o3 => match o3 with
  | .inl d4 =>
    some (d4.1, ())
  | .inr (.inl d5) =>
    some ((-1 : Int), ())
theorem F_slices_IndexFunc_SSint_Sint_by_impl_isWalk_1_ok (N : Nat) (d) : fnR Γ_slices_IndexFunc_SSint_Sint_by_impl_isWalk_1 (assoc [(0, ⟨slices_IndexFunc_SSint_Sint_by_impl_isWalk_1_l0_h, slices_IndexFunc_SSint_Sint_by_impl_isWalk_1_l0_o, slices_IndexFunc_SSint_Sint_by_impl_isWalk_1_l0 N N⟩)]) true [(K_SSi, false), (K_F_impl_isWalk_1_qPBSiq, false)] [I] Try.f69.results.toList (bodyOf Try.f69) d = F_slices_IndexFunc_SSint_Sint_by_impl_isWalk_1 N d := by kernel_rfl
noncomputable def S_slices_IndexFunc_SSint_Sint_by_impl_isWalk_1 : FSig := ⟨[(K_SSi, false), (K_F_impl_isWalk_1_qPBSiq, false)], [I], true, (G_idxWalk)⟩
noncomputable def Γ_slices_ContainsFunc_SSint_Sint_by_impl_isWalk_1 : Ctx := { tk := assoc tks, ar := assoc ars, fs := assoc [(69, S_slices_IndexFunc_SSint_Sint_by_impl_isWalk_1)] }
noncomputable def F_slices_ContainsFunc_SSint_Sint_by_impl_isWalk_1 (N : Nat) (d : List (List Int) × (Unit × List Int × Unit) × Unit) : Option (Bool × Unit) :=
  let a0 : List (List Int) := d.1
  let a1 : Unit × List Int × Unit := d.2.1
  (G_idxWalk ((a0, (a1, ())))).bind fun r1 =>
  some ((decide (r1.1 ≥ (0 : Int)), ()))
theorem F_slices_ContainsFunc_SSint_Sint_by_impl_isWalk_1_ok (N : Nat) (d) : fnR Γ_slices_ContainsFunc_SSint_Sint_by_impl_isWalk_1 (assoc []) true [(K_SSi, false), (K_F_impl_isWalk_1_qPBSiq, false)] [.bool] Try.f46.results.toList (bodyOf Try.f46) d = F_slices_ContainsFunc_SSint_Sint_by_impl_isWalk_1 N d := by kernel_rfl
noncomputable def S_slices_ContainsFunc_SSint_Sint_by_impl_isWalk_1 : FSig := ⟨[(K_SSi, false), (K_F_impl_isWalk_1_qPBSiq, false)], [.bool], true, (F_slices_ContainsFunc_SSint_Sint_by_impl_isWalk_1 0)⟩
noncomputable def Γ_impl_isWalk : Ctx := { tk := assoc tks, ar := assoc ars, fs := assoc [(25, S_impl_IsGraph), (33, S_impl_netOf), (43, S_impl_within), (45, S_impl_areCops), (46, S_slices_ContainsFunc_SSint_Sint_by_impl_isWalk_1), (47, S_impl_net_copMoves)], cs := assoc [], fz := fun t => Nat.beq t 7 }
abbrev impl_isWalk_l0_H := List (List Int) × (Int × (List (Int × Int × Unit)) × Unit) × (List Int × Unit) × List (List Int) × Int × Int × Unit
abbrev impl_isWalk_l0_O := (Bool × Unit) ⊕ Unit ⊕ Empty
def impl_isWalk_l0_h : Form := [(1, .v K_SSi), (2, .box K_PiSPiiqq 0), (5, .box K_PSiq 99), (19, .v K_SSi), (20, .v I), (21, .v I)]
def impl_isWalk_l0_o : Outs := [(.ret, [(4, .v .bool)]), (.normal, [])]
noncomputable def impl_isWalk_l0_r (N : Nat) (back : impl_isWalk_l0_H → Option impl_isWalk_l0_O) (d : impl_isWalk_l0_H) : Option impl_isWalk_l0_O :=
  let s1 : List (List Int) := d.1
  let s2 : Int × (List (Int × Int × Unit)) × Unit := d.2.1
  let s5 : List Int × Unit := d.2.2.1
  let s19 : List (List Int) := d.2.2.2.1
  let s20 : Int := d.2.2.2.2.1
  let s21 : Int := d.2.2.2.2.2.1
  if (decide (s21 < s20)) = true then
    if (idxIn s21 (List.length s19)) = true then
    ((F_impl_areCops 0) ((s2, (at_ K_Si s19 s21.toNat, ())))).bind fun r13 =>
    if (!r13.1) = true then
      some (.inl (false, ()))
    else
      if (idxIn (0 : Int) (List.length s1)) = true then
      if ((List.length (at_ K_Si s19 s21.toNat) : Int) != (List.length (at_ K_Si s1 (0 : Int).toNat) : Int)) = true then
        some (.inl (false, ()))
      else
        if (decide (s21 > (0 : Int))) = true then
          let x14 : Int := IntKind.wrap .i64 (s21 - (1 : Int))
          if (idxIn x14 (List.length s1)) = true then
          (G_copMoves ((s5, (at_ K_Si s1 x14.toNat, ())))).bind fun r15 =>
          ((F_slices_ContainsFunc_SSint_Sint_by_impl_isWalk_1 0) ((r15.1, (((), (at_ K_Si s19 s21.toNat, ())), ())))).bind fun r16 =>
          if (!r16.1) = true then
            some (.inl (false, ()))
          else
            let x17 : Int := IntKind.wrap .i64 (s21 + (1 : Int))
            back ((s1, (s2, (s5, (s19, (s20, (x17, ())))))))
          else none
        else
          let x18 : Int := IntKind.wrap .i64 (s21 + (1 : Int))
          back ((s1, (s2, (s5, (s19, (s20, (x18, ())))))))
      else none
    else none
  else
    some (.inr (.inl ()))
noncomputable def impl_isWalk_l0 (N : Nat) : Nat → impl_isWalk_l0_H → Option impl_isWalk_l0_O
  | 0, _ => none
  | k + 1, d => impl_isWalk_l0_r N (impl_isWalk_l0 N k) d
theorem impl_isWalk_l0_ok (N : Nat) (back) (d) : roundR Γ_impl_isWalk (assoc []) 0 impl_isWalk_l0_h impl_isWalk_l0_o (loopOf Try.f26 0) back d = impl_isWalk_l0_r N back d := by kernel_rfl
noncomputable def F_impl_isWalk (N : Nat) (d : (Int × (List (Int × Int × Unit)) × Unit) × List (List Int) × Unit) : Option (Bool × Unit) :=
  let a0 : Int × (List (Int × Int × Unit)) × Unit := d.1
  let a1 : List (List Int) := d.2.1
  (G_graph (a0, ())).bind fun r1 =>
  if (!r1.1) = true then
    some (false, ())
  else
    let r2 : Bool × Unit := g_impl_within (((List.length a1 : Int), ((1 : Int), ((40 : Int), ()))))
    if (!r2.1) = true then
      some (false, ())
    else
      (G_netOf (a0, ())).bind fun r3 =>
      (impl_isWalk_l0 N N ((a1, (a0, (r3.1, (a1, ((List.length a1 : Int), ((0 : Int), ())))))))).bind fun o10 => match o10 with
      | .inl d11 =>
        some (d11.1, ())
      | .inr (.inl d12) =>
        some (true, ())
theorem F_impl_isWalk_ok (N : Nat) (d) : fnR Γ_impl_isWalk (assoc [(0, ⟨impl_isWalk_l0_h, impl_isWalk_l0_o, impl_isWalk_l0 N N⟩)]) true [(K_PiSPiiqq, false), (K_SSi, false)] [.bool] Try.f26.results.toList (bodyOf Try.f26) d = F_impl_isWalk N d := by kernel_rfl
noncomputable def S_impl_isWalk : FSig := ⟨[(K_PiSPiiqq, false), (K_SSi, false)], [.bool], true, (G_walk)⟩
noncomputable def Γ_impl_net_all : Ctx := { tk := assoc tks, ar := assoc ars, fs := assoc [] }
noncomputable def F_impl_net_all (N : Nat) (d : (List Int × Unit) × Unit) : Option (Int × Unit) :=
  let a0 : List Int × Unit := d.1
  if (decide (0 ≤ (List.length a0.1 : Int))) = true then
  let x1 : Int := shl .i64 (1 : Int) (List.length a0.1 : Int)
  let x2 : Int := IntKind.wrap .i64 (x1 - (1 : Int))
  some (x2, ())
  else none
theorem F_impl_net_all_ok (N : Nat) (d) : fnR Γ_impl_net_all (assoc []) true [(K_PSiq, false)] [I] Try.f58.results.toList (bodyOf Try.f58) d = F_impl_net_all N d := by kernel_rfl
noncomputable def S_impl_net_all : FSig := ⟨[(K_PSiq, false)], [I], true, (F_impl_net_all 0)⟩
noncomputable def Γ_impl_maskOf : Ctx := { tk := assoc tks, ar := assoc ars, fs := assoc [] }
abbrev impl_maskOf_l0_H := Int × List Int × Int × Int × Unit
abbrev impl_maskOf_l0_O := (Int × Unit) ⊕ Empty
def impl_maskOf_l0_h : Form := [(3, .v I), (6, .v K_Si), (7, .v I), (8, .v I)]
def impl_maskOf_l0_o : Outs := [(.normal, [(3, .v I)])]
noncomputable def impl_maskOf_l0_r (N : Nat) (back : impl_maskOf_l0_H → Option impl_maskOf_l0_O) (d : impl_maskOf_l0_H) : Option impl_maskOf_l0_O :=
  let s3 : Int := d.1
  let s6 : List Int := d.2.1
  let s7 : Int := d.2.2.1
  let s8 : Int := d.2.2.2.1
  if (decide (s8 < s7)) = true then
    if (idxIn s8 (List.length s6)) = true then
    if (decide (0 ≤ at_ I s6 s8.toNat)) = true then
    let x5 : Int := shl .i64 (1 : Int) (at_ I s6 s8.toNat)
    let x6 : Int := IntKind.wrap .i64 (s8 + (1 : Int))
    back ((bits .or .i64 s3 x5, (s6, (s7, (x6, ())))))
    else none
    else none
  else
    some (.inl (s3, ()))
noncomputable def impl_maskOf_l0 (N : Nat) : Nat → impl_maskOf_l0_H → Option impl_maskOf_l0_O
  | 0, _ => none
  | k + 1, d => impl_maskOf_l0_r N (impl_maskOf_l0 N k) d
theorem impl_maskOf_l0_ok (N : Nat) (back) (d) : roundR Γ_impl_maskOf (assoc []) 0 impl_maskOf_l0_h impl_maskOf_l0_o (loopOf Try.f59 0) back d = impl_maskOf_l0_r N back d := by kernel_rfl
noncomputable def F_impl_maskOf (N : Nat) (d : List Int × Unit) : Option (Int × Unit) :=
  let a0 : List Int := d.1
  (impl_maskOf_l0 N N (((0 : Int), (a0, ((List.length a0 : Int), ((0 : Int), ())))))).bind fun o3 => match o3 with
  | .inl d4 =>
    some (d4.1, ())
theorem F_impl_maskOf_ok (N : Nat) (d) : fnR Γ_impl_maskOf (assoc [(0, ⟨impl_maskOf_l0_h, impl_maskOf_l0_o, impl_maskOf_l0 N N⟩)]) true [(K_Si, false)] [I] Try.f59.results.toList (bodyOf Try.f59) d = F_impl_maskOf N d := by kernel_rfl
noncomputable def S_impl_maskOf : FSig := ⟨[(K_Si, false)], [I], true, (G_maskOf)⟩
noncomputable def Γ_impl_net_around : Ctx := { tk := assoc tks, ar := assoc ars, fs := assoc [] }
abbrev impl_net_around_l0_H := Int × Int × List Int × Int × Int × Unit
abbrev impl_net_around_l0_O := (Int × Unit) ⊕ Empty
def impl_net_around_l0_h : Form := [(1, .v I), (5, .v I), (10, .v K_Si), (11, .v I), (12, .v I)]
def impl_net_around_l0_o : Outs := [(.normal, [(5, .v I)])]
noncomputable def impl_net_around_l0_r (N : Nat) (back : impl_net_around_l0_H → Option impl_net_around_l0_O) (d : impl_net_around_l0_H) : Option impl_net_around_l0_O :=
  let s1 : Int := d.1
  let s5 : Int := d.2.1
  let s10 : List Int := d.2.2.1
  let s11 : Int := d.2.2.2.1
  let s12 : Int := d.2.2.2.2.1
  if (decide (s12 < s11)) = true then
    if (idxIn s12 (List.length s10)) = true then
    if (decide (0 ≤ s12)) = true then
    let x7 : Int := bits .and .i64 (shr .i64 s1 s12) (1 : Int)
    if (x7 == (1 : Int)) = true then
      let x8 : Int := bits .or .i64 s5 (at_ I s10 s12.toNat)
      let x9 : Int := IntKind.wrap .i64 (s12 + (1 : Int))
      back ((s1, (x8, (s10, (s11, (x9, ()))))))
    else
      let x10 : Int := IntKind.wrap .i64 (s12 + (1 : Int))
      back ((s1, (s5, (s10, (s11, (x10, ()))))))
    else none
    else none
  else
    some (.inl (s5, ()))
noncomputable def impl_net_around_l0 (N : Nat) : Nat → impl_net_around_l0_H → Option impl_net_around_l0_O
  | 0, _ => none
  | k + 1, d => impl_net_around_l0_r N (impl_net_around_l0 N k) d
theorem impl_net_around_l0_ok (N : Nat) (back) (d) : roundR Γ_impl_net_around (assoc []) 0 impl_net_around_l0_h impl_net_around_l0_o (loopOf Try.f77 0) back d = impl_net_around_l0_r N back d := by kernel_rfl
noncomputable def F_impl_net_around (N : Nat) (d : (List Int × Unit) × Int × Unit) : Option (Int × Unit) :=
  let a0 : List Int × Unit := d.1
  let a1 : Int := d.2.1
  (impl_net_around_l0 N N ((a1, (a1, (a0.1, ((List.length a0.1 : Int), ((0 : Int), ()))))))).bind fun o5 => match o5 with
  | .inl d6 =>
    some (d6.1, ())
theorem F_impl_net_around_ok (N : Nat) (d) : fnR Γ_impl_net_around (assoc [(0, ⟨impl_net_around_l0_h, impl_net_around_l0_o, impl_net_around_l0 N N⟩)]) true [(K_PSiq, false), (I, false)] [I] Try.f77.results.toList (bodyOf Try.f77) d = F_impl_net_around N d := by kernel_rfl
noncomputable def S_impl_net_around : FSig := ⟨[(K_PSiq, false), (I, false)], [I], true, (G_around)⟩
noncomputable def Γ_impl_net_unsafeAfter : Ctx := { tk := assoc tks, ar := assoc ars, fs := assoc [(59, S_impl_maskOf), (77, S_impl_net_around)] }
noncomputable def F_impl_net_unsafeAfter (N : Nat) (d : (List Int × Unit) × Int × List Int × Unit) : Option (Int × Unit) :=
  let a0 : List Int × Unit := d.1
  let a1 : Int := d.2.1
  let a2 : List Int := d.2.2.1
  (G_maskOf (a2, ())).bind fun r1 =>
  (G_around ((a0, (bits .andNot .i64 a1 r1.1, ())))).bind fun r2 =>
  some (bits .andNot .i64 r2.1 r1.1, ())
theorem F_impl_net_unsafeAfter_ok (N : Nat) (d) : fnR Γ_impl_net_unsafeAfter (assoc []) true [(K_PSiq, false), (I, false), (K_Si, false)] [I] Try.f60.results.toList (bodyOf Try.f60) d = F_impl_net_unsafeAfter N d := by kernel_rfl
noncomputable def S_impl_net_unsafeAfter : FSig := ⟨[(K_PSiq, false), (I, false), (K_Si, false)], [I], true, (F_impl_net_unsafeAfter 0)⟩
noncomputable def Γ_impl_net_unsafeAlong : Ctx := { tk := assoc tks, ar := assoc ars, fs := assoc [(58, S_impl_net_all), (59, S_impl_maskOf), (60, S_impl_net_unsafeAfter)] }
abbrev impl_net_unsafeAlong_l0_H := (List Int × Unit) × List Int × List (List Int) × Int × Int × Unit
abbrev impl_net_unsafeAlong_l0_O := (List Int × Unit) ⊕ Empty
def impl_net_unsafeAlong_l0_h : Form := [(2, .box K_PSiq 0), (5, .own K_Si 99), (17, .v K_SSi), (18, .v I), (19, .v I)]
def impl_net_unsafeAlong_l0_o : Outs := [(.normal, [(5, .own K_Si 99)])]
noncomputable def impl_net_unsafeAlong_l0_r (N : Nat) (back : impl_net_unsafeAlong_l0_H → Option impl_net_unsafeAlong_l0_O) (d : impl_net_unsafeAlong_l0_H) : Option impl_net_unsafeAlong_l0_O :=
  let s2 : List Int × Unit := d.1
  let s5 : List Int := d.2.1
  let s17 : List (List Int) := d.2.2.1
  let s18 : Int := d.2.2.2.1
  let s19 : Int := d.2.2.2.2.1
  if (decide (s19 < s18)) = true then
    if (idxIn s19 (List.length s17)) = true then
    if (idxIn s19 (List.length s5)) = true then
    ((F_impl_net_unsafeAfter 0) ((s2, (at_ I s5 s19.toNat, (at_ K_Si s17 s19.toNat, ()))))).bind fun r8 =>
    if (decide (List.length s5 + List.length ([r8.1]) ≤ lim)) = true then
    let x9 : Int := IntKind.wrap .i64 (s19 + (1 : Int))
    back ((s2, (s5 ++ ([r8.1]), (s17, (s18, (x9, ()))))))
    else none
    else none
    else none
  else
    some (.inl (s5, ()))
noncomputable def impl_net_unsafeAlong_l0 (N : Nat) : Nat → impl_net_unsafeAlong_l0_H → Option impl_net_unsafeAlong_l0_O
  | 0, _ => none
  | k + 1, d => impl_net_unsafeAlong_l0_r N (impl_net_unsafeAlong_l0 N k) d
theorem impl_net_unsafeAlong_l0_ok (N : Nat) (back) (d) : roundR Γ_impl_net_unsafeAlong (assoc []) 0 impl_net_unsafeAlong_l0_h impl_net_unsafeAlong_l0_o (loopOf Try.f37 0) back d = impl_net_unsafeAlong_l0_r N back d := by kernel_rfl
noncomputable def F_impl_net_unsafeAlong (N : Nat) (d : (List Int × Unit) × List (List Int) × Unit) : Option (List Int × Unit) :=
  let a0 : List Int × Unit := d.1
  let a1 : List (List Int) := d.2.1
  ((F_impl_net_all 0) (a0, ())).bind fun r1 =>
  if (idxIn (0 : Int) (List.length a1)) = true then
  (G_maskOf (at_ K_Si a1 (0 : Int).toNat, ())).bind fun r2 =>
  if ((decide (0 ≤ (1 : Int)) && decide ((1 : Int) ≤ (List.length a1 : Int)) && decide ((List.length a1 : Int) ≤ (List.length a1 : Int)))) = true then
  let x3 : List (List Int) := sub_ a1 (1 : Int) (List.length a1 : Int)
  (impl_net_unsafeAlong_l0 N N ((a0, ([bits .andNot .i64 r1.1 r2.1], (x3, ((List.length x3 : Int), ((0 : Int), ()))))))).bind fun o6 => match o6 with
  | .inl d7 =>
    some (d7.1, ())
  else none
  else none
theorem F_impl_net_unsafeAlong_ok (N : Nat) (d) : fnR Γ_impl_net_unsafeAlong (assoc [(0, ⟨impl_net_unsafeAlong_l0_h, impl_net_unsafeAlong_l0_o, impl_net_unsafeAlong_l0 N N⟩)]) true [(K_PSiq, false), (K_SSi, false)] [K_Si] Try.f37.results.toList (bodyOf Try.f37) d = F_impl_net_unsafeAlong N d := by kernel_rfl
noncomputable def S_impl_net_unsafeAlong : FSig := ⟨[(K_PSiq, false), (K_SSi, false)], [K_Si], true, (G_netUns)⟩
noncomputable def Γ_impl_IsClearingWalk : Ctx := { tk := assoc tks, ar := assoc ars, fs := assoc [(26, S_impl_isWalk), (33, S_impl_netOf), (37, S_impl_net_unsafeAlong)] }
noncomputable def F_impl_IsClearingWalk (N : Nat) (d : (Int × (List (Int × Int × Unit)) × Unit) × List (List Int) × Unit) : Option (Bool × Bool × Unit) :=
  let a0 : Int × (List (Int × Int × Unit)) × Unit := d.1
  let a1 : List (List Int) := d.2.1
  (G_walk ((a0, (a1, ())))).bind fun r1 =>
  if (!r1.1) = true then
    some ((false, (false, ())))
  else
    (G_netOf (a0, ())).bind fun r2 =>
    (G_netUns ((r2.1, (a1, ())))).bind fun r3 =>
    let x4 : Int := IntKind.wrap .i64 ((List.length r3.1 : Int) - (1 : Int))
    if (idxIn x4 (List.length r3.1)) = true then
    some ((at_ I r3.1 x4.toNat == (0 : Int), (true, ())))
    else none
theorem F_impl_IsClearingWalk_ok (N : Nat) (d) : fnR Γ_impl_IsClearingWalk (assoc []) true [(K_PiSPiiqq, false), (K_SSi, false)] [.bool, .bool] Try.f19.results.toList (bodyOf Try.f19) d = F_impl_IsClearingWalk N d := by kernel_rfl
noncomputable def S_impl_IsClearingWalk : FSig := ⟨[(K_PiSPiiqq, false), (K_SSi, false)], [.bool, .bool], true, (F_impl_IsClearingWalk 0)⟩
noncomputable def Γ_laws_eqIntA2 : Ctx := { tk := assoc tks, ar := assoc ars, fs := assoc [] }
abbrev laws_eqIntA2_l0_H := (Int × Int × Unit) × (Int × Int × Unit) × Int × Unit
abbrev laws_eqIntA2_l0_O := (Bool × Unit) ⊕ Unit ⊕ Empty
def laws_eqIntA2_l0_h : Form := [(2, .box K_Piiq 99), (3, .box K_Piiq 99), (5, .v I)]
def laws_eqIntA2_l0_o : Outs := [(.ret, [(4, .v .bool)]), (.normal, [])]
noncomputable def laws_eqIntA2_l0_r (N : Nat) (back : laws_eqIntA2_l0_H → Option laws_eqIntA2_l0_O) (d : laws_eqIntA2_l0_H) : Option laws_eqIntA2_l0_O :=
  let s2 : Int × Int × Unit := d.1
  let s3 : Int × Int × Unit := d.2.1
  let s5 : Int := d.2.2.1
  if (decide (s5 < (2 : Int))) = true then
    if (s5 == (0 : Int)) = true then
      if (s5 == (0 : Int)) = true then
        if (s2.1 != s3.1) = true then
          some (.inl (false, ()))
        else
          let x11 : Int := IntKind.wrap .i64 (s5 + (1 : Int))
          back ((s2, (s3, (x11, ()))))
      else
        if (s5 == (1 : Int)) = true then
        if (s2.1 != s3.2.1) = true then
          some (.inl (false, ()))
        else
          let x10 : Int := IntKind.wrap .i64 (s5 + (1 : Int))
          back ((s2, (s3, (x10, ()))))
        else none
    else
      if (s5 == (1 : Int)) = true then
      if (s5 == (0 : Int)) = true then
        if (s2.2.1 != s3.1) = true then
          some (.inl (false, ()))
        else
          let x9 : Int := IntKind.wrap .i64 (s5 + (1 : Int))
          back ((s2, (s3, (x9, ()))))
      else
        if (s5 == (1 : Int)) = true then
        if (s2.2.1 != s3.2.1) = true then
          some (.inl (false, ()))
        else
          let x8 : Int := IntKind.wrap .i64 (s5 + (1 : Int))
          back ((s2, (s3, (x8, ()))))
        else none
      else none
  else
    some (.inr (.inl ()))
noncomputable def laws_eqIntA2_l0 (N : Nat) : Nat → laws_eqIntA2_l0_H → Option laws_eqIntA2_l0_O
  | 0, _ => none
  | k + 1, d => laws_eqIntA2_l0_r N (laws_eqIntA2_l0 N k) d
theorem laws_eqIntA2_l0_ok (N : Nat) (back) (d) : roundR Γ_laws_eqIntA2 (assoc []) 0 laws_eqIntA2_l0_h laws_eqIntA2_l0_o (loopOf Try.f50 0) back d = laws_eqIntA2_l0_r N back d := by kernel_rfl
noncomputable def F_laws_eqIntA2 (N : Nat) (d : (Int × Int × Unit) × (Int × Int × Unit) × Unit) : Option (Bool × Unit) :=
  let a0 : Int × Int × Unit := d.1
  let a1 : Int × Int × Unit := d.2.1
  (laws_eqIntA2_l0 N N ((a0, (a1, ((0 : Int), ()))))).bind fun o5 => match o5 with
  | .inl d6 =>
    some (d6.1, ())
  | .inr (.inl d7) =>
    some (true, ())
theorem F_laws_eqIntA2_ok (N : Nat) (d) : fnR Γ_laws_eqIntA2 (assoc [(0, ⟨laws_eqIntA2_l0_h, laws_eqIntA2_l0_o, laws_eqIntA2_l0 N N⟩)]) true [(K_Piiq, false), (K_Piiq, false)] [.bool] Try.f50.results.toList (bodyOf Try.f50) d = F_laws_eqIntA2 N d := by kernel_rfl
noncomputable def S_laws_eqIntA2 : FSig := ⟨[(K_Piiq, false), (K_Piiq, false)], [.bool], true, (G_eqIntA2)⟩
noncomputable def Γ_laws_eqIntA2S : Ctx := { tk := assoc tks, ar := assoc ars, fs := assoc [(50, S_laws_eqIntA2)] }
abbrev laws_eqIntA2S_l0_H := (List (Int × Int × Unit)) × (List (Int × Int × Unit)) × Int × Unit
abbrev laws_eqIntA2S_l0_O := (Bool × Unit) ⊕ Unit ⊕ Empty
def laws_eqIntA2S_l0_h : Form := [(0, .v K_SPiiq), (1, .v K_SPiiq), (5, .v I)]
def laws_eqIntA2S_l0_o : Outs := [(.ret, [(4, .v .bool)]), (.normal, [])]
noncomputable def laws_eqIntA2S_l0_r (N : Nat) (back : laws_eqIntA2S_l0_H → Option laws_eqIntA2S_l0_O) (d : laws_eqIntA2S_l0_H) : Option laws_eqIntA2S_l0_O :=
  let s0 : List (Int × Int × Unit) := d.1
  let s1 : List (Int × Int × Unit) := d.2.1
  let s5 : Int := d.2.2.1
  if (decide (s5 < (List.length s0 : Int))) = true then
    if (idxIn s5 (List.length s0)) = true then
    if (idxIn s5 (List.length s1)) = true then
    (G_eqIntA2 ((at_ K_Piiq s0 s5.toNat, (at_ K_Piiq s1 s5.toNat, ())))).bind fun r6 =>
    if (!r6.1) = true then
      some (.inl (false, ()))
    else
      let x7 : Int := IntKind.wrap .i64 (s5 + (1 : Int))
      back ((s0, (s1, (x7, ()))))
    else none
    else none
  else
    some (.inr (.inl ()))
noncomputable def laws_eqIntA2S_l0 (N : Nat) : Nat → laws_eqIntA2S_l0_H → Option laws_eqIntA2S_l0_O
  | 0, _ => none
  | k + 1, d => laws_eqIntA2S_l0_r N (laws_eqIntA2S_l0 N k) d
theorem laws_eqIntA2S_l0_ok (N : Nat) (back) (d) : roundR Γ_laws_eqIntA2S (assoc []) 0 laws_eqIntA2S_l0_h laws_eqIntA2S_l0_o (loopOf Try.f27 0) back d = laws_eqIntA2S_l0_r N back d := by kernel_rfl
noncomputable def F_laws_eqIntA2S (N : Nat) (d : (List (Int × Int × Unit)) × (List (Int × Int × Unit)) × Unit) : Option (Bool × Unit) :=
  let a0 : List (Int × Int × Unit) := d.1
  let a1 : List (Int × Int × Unit) := d.2.1
  if ((List.length a0 : Int) != (List.length a1 : Int)) = true then
    some (false, ())
  else
    (laws_eqIntA2S_l0 N N ((a0, (a1, ((0 : Int), ()))))).bind fun o3 => match o3 with
    | .inl d4 =>
      some (d4.1, ())
    | .inr (.inl d5) =>
      some (true, ())
theorem F_laws_eqIntA2S_ok (N : Nat) (d) : fnR Γ_laws_eqIntA2S (assoc [(0, ⟨laws_eqIntA2S_l0_h, laws_eqIntA2S_l0_o, laws_eqIntA2S_l0 N N⟩)]) true [(K_SPiiq, false), (K_SPiiq, false)] [.bool] Try.f27.results.toList (bodyOf Try.f27) d = F_laws_eqIntA2S N d := by kernel_rfl
noncomputable def S_laws_eqIntA2S : FSig := ⟨[(K_SPiiq, false), (K_SPiiq, false)], [.bool], true, (G_eqIntA2S)⟩
noncomputable def Γ_laws_eqGraph : Ctx := { tk := assoc tks, ar := assoc ars, fs := assoc [(27, S_laws_eqIntA2S)] }
noncomputable def F_laws_eqGraph (N : Nat) (d : (Int × (List (Int × Int × Unit)) × Unit) × (Int × (List (Int × Int × Unit)) × Unit) × Unit) : Option (Bool × Unit) :=
  let a0 : Int × (List (Int × Int × Unit)) × Unit := d.1
  let a1 : Int × (List (Int × Int × Unit)) × Unit := d.2.1
  if (a0.1 != a1.1) = true then
    some (false, ())
  else
    (G_eqIntA2S ((a0.2.1, (a1.2.1, ())))).bind fun r1 =>
    if (!r1.1) = true then
      some (false, ())
    else
      some (true, ())
theorem F_laws_eqGraph_ok (N : Nat) (d) : fnR Γ_laws_eqGraph (assoc []) true [(K_PiSPiiqq, false), (K_PiSPiiqq, false)] [.bool] Try.f12.results.toList (bodyOf Try.f12) d = F_laws_eqGraph N d := by kernel_rfl
noncomputable def S_laws_eqGraph : FSig := ⟨[(K_PiSPiiqq, false), (K_PiSPiiqq, false)], [.bool], true, (F_laws_eqGraph 0)⟩
noncomputable def Γ_laws_eqIntS : Ctx := { tk := assoc tks, ar := assoc ars, fs := assoc [] }
abbrev laws_eqIntS_l0_H := List Int × List Int × Int × Unit
abbrev laws_eqIntS_l0_O := (Bool × Unit) ⊕ Unit ⊕ Empty
def laws_eqIntS_l0_h : Form := [(0, .v K_Si), (1, .v K_Si), (5, .v I)]
def laws_eqIntS_l0_o : Outs := [(.ret, [(4, .v .bool)]), (.normal, [])]
noncomputable def laws_eqIntS_l0_r (N : Nat) (back : laws_eqIntS_l0_H → Option laws_eqIntS_l0_O) (d : laws_eqIntS_l0_H) : Option laws_eqIntS_l0_O :=
  let s0 : List Int := d.1
  let s1 : List Int := d.2.1
  let s5 : Int := d.2.2.1
  if (decide (s5 < (List.length s0 : Int))) = true then
    if (idxIn s5 (List.length s0)) = true then
    if (idxIn s5 (List.length s1)) = true then
    if (at_ I s0 s5.toNat != at_ I s1 s5.toNat) = true then
      some (.inl (false, ()))
    else
      let x5 : Int := IntKind.wrap .i64 (s5 + (1 : Int))
      back ((s0, (s1, (x5, ()))))
    else none
    else none
  else
    some (.inr (.inl ()))
noncomputable def laws_eqIntS_l0 (N : Nat) : Nat → laws_eqIntS_l0_H → Option laws_eqIntS_l0_O
  | 0, _ => none
  | k + 1, d => laws_eqIntS_l0_r N (laws_eqIntS_l0 N k) d
theorem laws_eqIntS_l0_ok (N : Nat) (back) (d) : roundR Γ_laws_eqIntS (assoc []) 0 laws_eqIntS_l0_h laws_eqIntS_l0_o (loopOf Try.f17 0) back d = laws_eqIntS_l0_r N back d := by kernel_rfl
noncomputable def F_laws_eqIntS (N : Nat) (d : List Int × List Int × Unit) : Option (Bool × Unit) :=
  let a0 : List Int := d.1
  let a1 : List Int := d.2.1
  if ((List.length a0 : Int) != (List.length a1 : Int)) = true then
    some (false, ())
  else
    (laws_eqIntS_l0 N N ((a0, (a1, ((0 : Int), ()))))).bind fun o2 => match o2 with
    | .inl d3 =>
      some (d3.1, ())
    | .inr (.inl d4) =>
      some (true, ())
theorem F_laws_eqIntS_ok (N : Nat) (d) : fnR Γ_laws_eqIntS (assoc [(0, ⟨laws_eqIntS_l0_h, laws_eqIntS_l0_o, laws_eqIntS_l0 N N⟩)]) true [(K_Si, false), (K_Si, false)] [.bool] Try.f17.results.toList (bodyOf Try.f17) d = F_laws_eqIntS N d := by kernel_rfl
noncomputable def S_laws_eqIntS : FSig := ⟨[(K_Si, false), (K_Si, false)], [.bool], true, (G_eqIntS)⟩
noncomputable def Γ_laws_eqIntSS : Ctx := { tk := assoc tks, ar := assoc ars, fs := assoc [(17, S_laws_eqIntS)] }
abbrev laws_eqIntSS_l0_H := List (List Int) × List (List Int) × Int × Unit
abbrev laws_eqIntSS_l0_O := (Bool × Unit) ⊕ Unit ⊕ Empty
def laws_eqIntSS_l0_h : Form := [(0, .v K_SSi), (1, .v K_SSi), (5, .v I)]
def laws_eqIntSS_l0_o : Outs := [(.ret, [(4, .v .bool)]), (.normal, [])]
noncomputable def laws_eqIntSS_l0_r (N : Nat) (back : laws_eqIntSS_l0_H → Option laws_eqIntSS_l0_O) (d : laws_eqIntSS_l0_H) : Option laws_eqIntSS_l0_O :=
  let s0 : List (List Int) := d.1
  let s1 : List (List Int) := d.2.1
  let s5 : Int := d.2.2.1
  if (decide (s5 < (List.length s0 : Int))) = true then
    if (idxIn s5 (List.length s0)) = true then
    if (idxIn s5 (List.length s1)) = true then
    (G_eqIntS ((at_ K_Si s0 s5.toNat, (at_ K_Si s1 s5.toNat, ())))).bind fun r6 =>
    if (!r6.1) = true then
      some (.inl (false, ()))
    else
      let x7 : Int := IntKind.wrap .i64 (s5 + (1 : Int))
      back ((s0, (s1, (x7, ()))))
    else none
    else none
  else
    some (.inr (.inl ()))
noncomputable def laws_eqIntSS_l0 (N : Nat) : Nat → laws_eqIntSS_l0_H → Option laws_eqIntSS_l0_O
  | 0, _ => none
  | k + 1, d => laws_eqIntSS_l0_r N (laws_eqIntSS_l0 N k) d
theorem laws_eqIntSS_l0_ok (N : Nat) (back) (d) : roundR Γ_laws_eqIntSS (assoc []) 0 laws_eqIntSS_l0_h laws_eqIntSS_l0_o (loopOf Try.f13 0) back d = laws_eqIntSS_l0_r N back d := by kernel_rfl
noncomputable def F_laws_eqIntSS (N : Nat) (d : List (List Int) × List (List Int) × Unit) : Option (Bool × Unit) :=
  let a0 : List (List Int) := d.1
  let a1 : List (List Int) := d.2.1
  if ((List.length a0 : Int) != (List.length a1 : Int)) = true then
    some (false, ())
  else
    (laws_eqIntSS_l0 N N ((a0, (a1, ((0 : Int), ()))))).bind fun o3 => match o3 with
    | .inl d4 =>
      some (d4.1, ())
    | .inr (.inl d5) =>
      some (true, ())
theorem F_laws_eqIntSS_ok (N : Nat) (d) : fnR Γ_laws_eqIntSS (assoc [(0, ⟨laws_eqIntSS_l0_h, laws_eqIntSS_l0_o, laws_eqIntSS_l0 N N⟩)]) true [(K_SSi, false), (K_SSi, false)] [.bool] Try.f13.results.toList (bodyOf Try.f13) d = F_laws_eqIntSS N d := by kernel_rfl
noncomputable def S_laws_eqIntSS : FSig := ⟨[(K_SSi, false), (K_SSi, false)], [.bool], true, (G_eqIntSS)⟩
noncomputable def Γ_laws_FnExactIsClearingWalk : Ctx := { tk := assoc tks, ar := assoc ars, fs := assoc [(6, S_laws_szGraph), (7, S_laws_szIntSS), (9, S_laws_toGraph), (10, S_laws_toIntSS), (12, S_laws_eqGraph), (13, S_laws_eqIntSS), (18, S_spec_IsClearingWalk), (19, S_impl_IsClearingWalk)] }
noncomputable def F_laws_FnExactIsClearingWalk (N : Nat) (d : (Int × (List (Int × Int × Unit)) × Unit) × List (List Int) × Unit) : Option (Bool × Unit) :=
  let a0 : Int × (List (Int × Int × Unit)) × Unit := d.1
  let a1 : List (List Int) := d.2.1
  let r1 : Int × Unit := g_laws_szGraph ((a0, ((1048576 : Int), ())))
  if (decide (r1.1 < (0 : Int))) = true then
    some (true, ())
  else
    (G_szIntSS ((a1, (r1.1, ())))).bind fun r2 =>
    if (decide (r2.1 < (0 : Int))) = true then
      some (true, ())
    else
      ((F_laws_toGraph 0) (a0, ())).bind fun r3 =>
      (G_toIntSS (a1, ())).bind fun r4 =>
      ((F_spec_IsClearingWalk 0) ((r3.1, (r4.1, ())))).bind fun r5 =>
      ((F_laws_toGraph 0) (a0, ())).bind fun r6 =>
      (G_toIntSS (a1, ())).bind fun r7 =>
      ((F_impl_IsClearingWalk 0) ((r6.1, (r7.1, ())))).bind fun r8 =>
      if (!(r8.1 == r5.1)) = true then
        some (false, ())
      else
        if (!(r8.2.1 == r5.2.1)) = true then
          some (false, ())
        else
          ((F_laws_toGraph 0) (a0, ())).bind fun r9 =>
          ((F_laws_eqGraph 0) ((r6.1, (r9.1, ())))).bind fun r10 =>
          if (!r10.1) = true then
            some (false, ())
          else
            (G_toIntSS (a1, ())).bind fun r11 =>
            (G_eqIntSS ((r7.1, (r11.1, ())))).bind fun r12 =>
            if (!r12.1) = true then
              some (false, ())
            else
              some (true, ())
theorem F_laws_FnExactIsClearingWalk_ok (N : Nat) (d) : fnR Γ_laws_FnExactIsClearingWalk (assoc []) true [(K_PiSPiiqq, false), (K_SSi, false)] [.bool] Try.f5.results.toList (bodyOf Try.f5) d = F_laws_FnExactIsClearingWalk N d := by kernel_rfl
noncomputable def S_laws_FnExactIsClearingWalk : FSig := ⟨[(K_PiSPiiqq, false), (K_SSi, false)], [.bool], true, (F_laws_FnExactIsClearingWalk 0)⟩
end Go.V.W
set_option linter.unusedVariables false
set_option linter.unusedSimpArgs false
namespace Go.V.W
theorem wrap_nat {m : Nat} (h : m < 9223372036854775808) : IntKind.wrap .i64 (m : Int) = (m : Int) := Go.IntWalk.i64_in _ (by omega)
theorem ofInt_nat (m : Nat) : BitVec.ofInt 64 (m : Int) = BitVec.ofNat 64 m := by simp
theorem bits_or {a b : Nat} (ha : a < 256) (hb : b < 256) : bits .or .i64 (a : Int) (b : Int) = ((a ||| b : Nat) : Int) := by
  have hab : a ||| b < 256 := Nat.or_lt_two_pow (n := 8) ha hb
  have e : (BitVec.ofInt IntKind.i64.bits (a : Int) ||| BitVec.ofInt IntKind.i64.bits (b : Int)).toNat = a ||| b := by
    show (BitVec.ofInt 64 (a : Int) ||| BitVec.ofInt 64 (b : Int)).toNat = a ||| b
    rw [ofInt_nat, ofInt_nat, BitVec.toNat_or, BitVec.toNat_ofNat, BitVec.toNat_ofNat, Nat.mod_eq_of_lt (by omega), Nat.mod_eq_of_lt (by omega)]
  unfold bits bitI
  simp only [Option.getD_some]
  rw [e]
  exact wrap_nat (by omega)
theorem bits_and {a b : Nat} (ha : a < 256) (hb : b < 256) : bits .and .i64 (a : Int) (b : Int) = ((a &&& b : Nat) : Int) := by
  have hab : a &&& b ≤ a := Nat.and_le_left
  have e : (BitVec.ofInt IntKind.i64.bits (a : Int) &&& BitVec.ofInt IntKind.i64.bits (b : Int)).toNat = a &&& b := by
    show (BitVec.ofInt 64 (a : Int) &&& BitVec.ofInt 64 (b : Int)).toNat = a &&& b
    rw [ofInt_nat, ofInt_nat, BitVec.toNat_and, BitVec.toNat_ofNat, BitVec.toNat_ofNat, Nat.mod_eq_of_lt (by omega), Nat.mod_eq_of_lt (by omega)]
  unfold bits bitI
  simp only [Option.getD_some]
  rw [e]
  exact wrap_nat (by omega)
theorem shl_one {y : Nat} (h : y < 8) : shl .i64 1 (y : Int) = ((2 ^ y : Nat) : Int) := by
  have : y = 0 ∨ y = 1 ∨ y = 2 ∨ y = 3 ∨ y = 4 ∨ y = 5 ∨ y = 6 ∨ y = 7 := by omega
  rcases this with rfl | rfl | rfl | rfl | rfl | rfl | rfl | rfl <;> decide
theorem pow_small {y : Nat} (h : y < 8) : 2 ^ y < 256 := by
  have : y = 0 ∨ y = 1 ∨ y = 2 ∨ y = 3 ∨ y = 4 ∨ y = 5 ∨ y = 6 ∨ y = 7 := by omega
  rcases this with rfl | rfl | rfl | rfl | rfl | rfl | rfl | rfl <;> decide
theorem shr_nat {m y : Nat} (h : y < 8) : shr .i64 (m : Int) (y : Int) = ((m >>> y : Nat) : Int) := by
  unfold shr
  have e : min (y : Int).toNat IntKind.i64.bits = y := by
    show min (y : Int).toNat 64 = y
    rw [Int.toNat_natCast]
    omega
  rw [e, Nat.shiftRight_eq_div_pow, Int.fdiv_eq_ediv_of_nonneg _ (by
    have := Nat.two_pow_pos y
    exact_mod_cast Nat.zero_le (2 ^ y))]
  norm_cast
theorem has_bit {m y : Nat} (hm : m < 256) (h : y < 8) : (bits .and .i64 (shr .i64 (m : Int) (y : Int)) 1 == (1 : Int)) = m.testBit y := by
  have h1 : m >>> y < 256 := by
    rw [Nat.shiftRight_eq_div_pow]
    exact Nat.lt_of_le_of_lt (Nat.div_le_self _ _) hm
  rw [shr_nat h]
  have := bits_and h1 (show 1 < 256 by omega)
  rw [show ((1 : Nat) : Int) = 1 from rfl] at this
  rw [this, Nat.testBit_eq_decide_div_mod_eq, Nat.shiftRight_eq_div_pow, Nat.and_one_is_mod]
  have : m / 2 ^ y % 2 = 0 ∨ m / 2 ^ y % 2 = 1 := by omega
  rcases this with h | h <;> simp [h]
def okN (n : Nat) (ms : List Nat) : Prop := ms.length = n ∧ ∀ x, ms.getD x 0 < 256
theorem okN_zero (n : Nat) : okN n (List.replicate n 0) := by
  refine ⟨by simp, fun x => ?_⟩
  simp only [List.getD_eq_getElem?_getD, List.getElem?_replicate]
  split <;> simp
theorem getD_set (ms : List Nat) (a x v : Nat) (h : a < ms.length) : (ms.set a v).getD x 0 = if x = a then v else ms.getD x 0 := by
  simp only [List.getD_eq_getElem?_getD, List.getElem?_set]
  by_cases e : x = a
  · subst e; simp [h]
  · simp [e, Ne.symm e]
theorem orN_ok {n : Nat} {ms : List Nat} (h : okN n ms) {a b : Nat} (ha : a < n) (hb : b < 8) : okN n (orN ms a b) := by
  refine ⟨by simp [orN, h.1], fun x => ?_⟩
  unfold orN
  rw [getD_set _ _ _ _ (by rw [h.1]; exact ha)]
  split
  · exact Nat.or_lt_two_pow (n := 8) (h.2 a) (pow_small hb)
  · exact h.2 x
theorem orN_bit {n : Nat} {ms : List Nat} (h : okN n ms) {a b : Nat} (ha : a < n) (x y : Nat) : ((orN ms a b).getD x 0).testBit y = ((ms.getD x 0).testBit y || (decide (x = a) && decide (y = b))) := by
  unfold orN
  rw [getD_set _ _ _ _ (by rw [h.1]; exact ha)]
  by_cases e : x = a
  · subst e
    simp only [if_true, Nat.testBit_or, Nat.testBit_two_pow, decide_true, Bool.true_and]
    congr 1
    by_cases e : y = b
    · simp [e]
    · simp [e, Ne.symm e]
  · simp [e]
/-- An edge of n nodes. -/
theorem edgeB_nat {n : Nat} {e : E} (h : edgeB (n : Int) e = true) : e.1.toNat < e.2.1.toNat ∧ e.2.1.toNat < n ∧ e.1 = (e.1.toNat : Int) ∧ e.2.1 = (e.2.1.toNat : Int) := by
  unfold edgeB at h
  simp only [Bool.and_eq_true, decide_eq_true_eq] at h
  omega
theorem addN_ok {n : Nat} {ms : List Nat} (hn : n ≤ 8) (h : okN n ms) {e : E} (he : edgeB (n : Int) e = true) : okN n (addN ms e) := by
  obtain ⟨h1, h2, _, _⟩ := edgeB_nat he
  exact orN_ok (orN_ok h (by omega) (by omega)) h2 (by omega)
def isE (e : E) (x y : Nat) : Bool := (decide (x = e.1.toNat) && decide (y = e.2.1.toNat)) || (decide (x = e.2.1.toNat) && decide (y = e.1.toNat))
theorem foldN_ok {n : Nat} (hn : n ≤ 8) : ∀ (es : List E) (ms : List Nat), okN n ms → es.all (edgeB (n : Int)) = true → okN n (es.foldl addN ms) ∧ ∀ x y, ((es.foldl addN ms).getD x 0).testBit y = ((ms.getD x 0).testBit y || es.any (fun e => isE e x y)) := by
  intro es
  induction es with
  | nil => intro ms h _; exact ⟨h, fun x y => by simp⟩
  | cons e es ih =>
    intro ms h he
    simp only [List.all_cons, Bool.and_eq_true] at he
    obtain ⟨h1, h2, _, _⟩ := edgeB_nat he.1
    obtain ⟨k1, k2⟩ := ih (addN ms e) (addN_ok hn h he.1) he.2
    refine ⟨k1, fun x y => ?_⟩
    rw [List.foldl_cons, k2 x y]
    unfold addN
    rw [orN_bit (orN_ok h (show e.1.toNat < n by omega) (by omega)) h2, orN_bit h (show e.1.toNat < n by omega)]
    simp only [List.any_cons, isE, Bool.or_assoc]
theorem netN_ok {n : Nat} (hn : n ≤ 8) {es : List E} (h : es.all (edgeB (n : Int)) = true) : okN n (netN n es) := (foldN_ok hn es _ (okN_zero n) h).1
theorem netN_bit {n : Nat} (hn : n ≤ 8) {es : List E} (h : es.all (edgeB (n : Int)) = true) (x y : Nat) : hasN (netN n es) x y = es.any (fun e => isE e x y) := by
  unfold hasN netN
  rw [(foldN_ok hn es _ (okN_zero n) h).2 x y]
  have : ((List.replicate n 0).getD x 0).testBit y = false := by
    simp only [List.getD_eq_getElem?_getD, List.getElem?_replicate]
    split <;> simp
  rw [this, Bool.false_or]
theorem toI_from (ms : List Nat) : fromI (toI ms) = ms := by
  unfold fromI toI
  rw [List.map_map]
  exact List.map_id' _
theorem at_toI (ms : List Nat) (x : Nat) : at_ (.int .i64) (toI ms) x = ((ms.getD x 0 : Nat) : Int) := by
  unfold at_ toI
  simp only [List.getD_eq_getElem?_getD, List.getElem?_map]
  cases ms[x]? <;> rfl
theorem toI_set (ms : List Nat) (x v : Nat) : List.set (toI ms) x (v : Int) = toI (ms.set x v) := by
  simp [toI, List.map_set]
theorem toI_len (ms : List Nat) : (toI ms).length = ms.length := by simp [toI]
end Go.V.W
set_option linter.unusedVariables false
set_option linter.unusedSimpArgs false
namespace Go.V.W
open Go.Proofs
theorem containsAny_any (c : List UInt8) : ∀ l : List UInt8, Lib.containsAny l c = l.any fun b => c.contains b := by
  intro l
  induction l with
  | nil => simp [Lib.containsAny, Lib.indexAny]
  | cons b l ih =>
    unfold Lib.containsAny at ih ⊢
    unfold Lib.indexAny
    rw [List.any_cons, ← ih]
    by_cases hb : c.contains b = true
    · have hb' : b ∈ c := by simpa using hb
      simp [hb']
    · simp only [Bool.not_eq_true] at hb
      rw [hb]
      simp only [Bool.false_eq_true, if_false, Bool.false_or]
      have := Lib.indexAny_ge c l
      by_cases he : Lib.indexAny l c = -1
      · simp [he]
      · have e1 : (Lib.indexAny l c == -1) = false := by simpa using he
        rw [e1]
        simp only [Bool.false_eq_true, if_false]
        have e2 : (0 ≤ Lib.indexAny l c) := by omega
        have e3 : (0 ≤ Lib.indexAny l c + 1) := by omega
        simp [e2, e3]
end Go.V.W
set_option linter.unusedVariables false
set_option linter.unusedSimpArgs false
namespace Go.V.W
open Go.Proofs
def specB (a b : ByteArray) : Bool := !seq_ a (⟨#[]⟩ : ByteArray) && ((a.data.toList.all (fun b => printed1 b && !(b.toNat == 35)) && decide ((a.size : Int) ≤ 160)) && (!(a.data.toList.any (fun b => ((b.toNat : Int) == 64))) && (b.data.toList.all (fun b => printed1 b && !(b.toNat == 35)) && decide ((b.size : Int) ≤ 200))))
def implB (a b : ByteArray) : Bool := ((decide ((a.size : Int) ≥ 1) && decide ((a.size : Int) ≤ 160)) && (printedB a && !Lib.containsAny a.data.toList [35, 64])) && (decide ((b.size : Int) ≤ 200) && (printedB b && !Lib.containsAny b.data.toList [35]))
theorem all_not (l : List UInt8) (p q : UInt8 → Bool) : l.all (fun b => p b && !q b) = (l.all p && !l.any q) := by
  induction l with
  | nil => rfl
  | cons b l ih =>
    simp only [List.all_cons, List.any_cons, ih]
    cases p b <;> cases q b <;> cases l.all p <;> cases l.any q <;> rfl
theorem any_or (l : List UInt8) (p q : UInt8 → Bool) : l.any (fun b => p b || q b) = (l.any p || l.any q) := by
  induction l with
  | nil => rfl
  | cons b l ih =>
    simp only [List.any_cons, ih]
    cases p b <;> cases q b <;> cases l.any p <;> cases l.any q <;> rfl
theorem has35 (l : List UInt8) : Lib.containsAny l [35] = l.any (fun b => b.toNat == 35) := by
  rw [containsAny_any]
  congr 1
  funext b
  simp only [List.contains_cons, List.contains_nil, Bool.or_false]
  rw [Bool.eq_iff_iff]
  simp only [beq_iff_eq]
  exact ⟨fun h => by rw [h]; rfl, fun h => UInt8.toNat_inj.1 h⟩
theorem has3564 (l : List UInt8) : Lib.containsAny l [35, 64] = (l.any (fun b => b.toNat == 35) || l.any (fun b => ((b.toNat : Int) == 64))) := by
  rw [containsAny_any, ← any_or]
  congr 1
  funext b
  simp only [List.contains_cons, List.contains_nil, Bool.or_false]
  rw [Bool.eq_iff_iff]
  simp only [Bool.or_eq_true, beq_iff_eq]
  constructor
  · rintro (h | h)
    · left; rw [h]; rfl
    · right; rw [h]; rfl
  · rintro (h | h)
    · left; exact UInt8.toNat_inj.1 h
    · right
      have h64 : b.toNat = 64 := by omega
      exact UInt8.toNat_inj.1 (by rw [h64]; rfl)
theorem empty_size (a : ByteArray) : seq_ a (⟨#[]⟩ : ByteArray) = !decide ((a.size : Int) ≥ 1) := by
  unfold seq_
  have h1 : a.toList = a.data.toList := Lib.toList_data a
  have h2 : (⟨#[]⟩ : ByteArray).toList = [] := Lib.toList_data _
  have h3 : a.data.toList.length = a.size := by simp
  rw [h1, h2]
  cases hl : a.data.toList with
  | nil =>
    rw [hl] at h3
    simp only [List.length_nil] at h3
    simp [← h3]
  | cons x l =>
    rw [hl] at h3
    simp only [List.length_cons] at h3
    have : decide ((a.size : Int) ≥ 1) = true := by simp; omega
    rw [this]
    rfl
theorem same (a b : ByteArray) : specB a b = implB a b := by
  unfold specB implB
  rw [empty_size, all_not, all_not, has35, has3564]
  unfold printedB
  cases decide ((a.size : Int) ≥ 1) <;> cases a.data.toList.all printed1 <;> cases a.data.toList.any (fun b => b.toNat == 35) <;> cases a.data.toList.any (fun b => ((b.toNat : Int) == 64)) <;> cases decide ((a.size : Int) ≤ 160) <;> cases decide ((b.size : Int) ≤ 200) <;> cases b.data.toList.all printed1 <;> cases b.data.toList.any (fun b => b.toNat == 35) <;> rfl
end Go.V.W
set_option linter.unusedVariables false
set_option linter.unusedSimpArgs false
namespace Go.V.W
open Go.Proofs
theorem lim_max {n : Nat} (h : n ≤ lim) : n ≤ maxLen := by unfold lim at h; unfold maxLen; omega
theorem toIntA2_lim (d) (r) (h : G_toIntA2 d = some r) : ∃ N, F_laws_toIntA2 N d = some r := by
  obtain ⟨⟨a, b, _⟩, _⟩ := d
  have h := Option.some.inj h
  subst h
  exact ⟨3, rfl⟩
theorem set_copy {α : Type} (l m : List α) (i : Nat) (x : α) (hi : i < l.length) (hx : l[i] = x) (hm : m.length = l.length) (h : m.take i = l.take i) : (m.set i x).take (i + 1) = l.take (i + 1) := by
  apply List.ext_getElem?
  intro j
  simp only [List.getElem?_take]
  split
  · rename_i hj
    by_cases hji : j = i
    · subst hji
      rw [List.getElem?_set_self (by omega), List.getElem?_eq_getElem hi, hx]
    · rw [List.getElem?_set_ne (fun e => hji e.symm)]
      have := congrArg (fun z => z[j]?) h
      simp only [List.getElem?_take] at this
      rw [if_pos (by omega), if_pos (by omega)] at this
      exact this
  · rfl
theorem toIntS_l0 (N : Nat) (l : List Int) (hl : l.length ≤ lim) : ∀ k, l.length ≤ k → laws_toIntS_l0 N (k + 1) (l, List.replicate l.length (0 : Int), (0 : Int), ()) = some (.inl (l, ())) := by
  intro k hk
  have hmx := lim_max hl
  have key : ∀ n i (m : List Int), l.length ≤ i + n → i ≤ l.length → m.length = l.length → m.take i = l.take i → laws_toIntS_l0 N (n + 1) (l, m, (i : Int), ()) = some (.inl (l, ())) := by
    intro n
    induction n with
    | zero =>
      intro i m h1 h2 h3 h4
      have e : i = l.length := by omega
      subst e
      rw [List.take_of_length_le (by omega), List.take_of_length_le (by omega)] at h4
      subst h4
      simp [laws_toIntS_l0, laws_toIntS_l0_r]
    | succ n ih =>
      intro i m h1 h2 h3 h4
      by_cases hi : i < l.length
      · show laws_toIntS_l0_r N (laws_toIntS_l0 N (n + 1)) (l, m, (i : Int), ()) = _
        unfold laws_toIntS_l0_r
        have hlt : decide ((i : Int) < (List.length l : Int)) = true := by simp; omega
        simp only [hlt, if_true, idxIn_nat hi, idxIn_nat (show i < m.length by omega), Int.toNat_natCast, wrap_up hi hmx]
        refine ih (i + 1) _ (by omega) (by omega) (by simp [h3]) ?_
        exact set_copy l m i _ hi (by rw [at_get (e := I) hi]; rfl) h3 h4
      · have e : i = l.length := by omega
        subst e
        rw [List.take_of_length_le (by omega), List.take_of_length_le (by omega)] at h4
        subst h4
        simp [laws_toIntS_l0, laws_toIntS_l0_r]
  simpa using key k 0 (List.replicate l.length 0) (by omega) (by omega) (by simp) (by simp)
theorem toIntS_lim (d) (r) (h : G_toIntS d = some r) : ∃ N, F_laws_toIntS N d = some r := by
  obtain ⟨l, _⟩ := d
  unfold G_toIntS at h
  split at h
  · rename_i hl
    have hl : l.length ≤ lim := of_decide_eq_true hl
    have h := Option.some.inj h
    subst h
    refine ⟨l.length + 1, ?_⟩
    unfold F_laws_toIntS
    have hc : (decide (0 ≤ (List.length l : Int)) && decide ((List.length l : Int) ≤ (List.length l : Int)) && decide ((List.length l : Int) ≤ (lim : Int))) = true := by simp; omega
    have := toIntS_l0 (l.length + 1) l hl l.length (Nat.le_refl _)
    simp only [hc, if_true, Int.toNat_natCast]
    rw [this]
    rfl
  · cases h
theorem toIntA2S_l0 (N : Nat) (l : List E) (hl : l.length ≤ lim) : ∀ k, l.length ≤ k → laws_toIntA2S_l0 N (k + 1) (l, List.replicate l.length ((0 : Int), (0 : Int), ()), (0 : Int), ()) = some (.inl (l, ())) := by
  intro k hk
  have hmx := lim_max hl
  have key : ∀ n i (m : List E), l.length ≤ i + n → i ≤ l.length → m.length = l.length → m.take i = l.take i → laws_toIntA2S_l0 N (n + 1) (l, m, (i : Int), ()) = some (.inl (l, ())) := by
    intro n
    induction n with
    | zero =>
      intro i m h1 h2 h3 h4
      have e : i = l.length := by omega
      subst e
      rw [List.take_of_length_le (by omega), List.take_of_length_le (by omega)] at h4
      subst h4
      simp [laws_toIntA2S_l0, laws_toIntA2S_l0_r]
    | succ n ih =>
      intro i m h1 h2 h3 h4
      by_cases hi : i < l.length
      · show laws_toIntA2S_l0_r N (laws_toIntA2S_l0 N (n + 1)) (l, m, (i : Int), ()) = _
        unfold laws_toIntA2S_l0_r
        have hlt : decide ((i : Int) < (List.length l : Int)) = true := by simp; omega
        simp only [hlt, if_true, idxIn_nat hi, idxIn_nat (show i < m.length by omega), Int.toNat_natCast, wrap_up hi hmx, G_toIntA2, Option.bind_some]
        refine ih (i + 1) _ (by omega) (by omega) (by simp [h3]) ?_
        exact set_copy l m i _ hi (by rw [at_get (e := K_Piiq) hi]; rfl) h3 h4
      · have e : i = l.length := by omega
        subst e
        rw [List.take_of_length_le (by omega), List.take_of_length_le (by omega)] at h4
        subst h4
        simp [laws_toIntA2S_l0, laws_toIntA2S_l0_r]
  simpa using key k 0 (List.replicate l.length ((0 : Int), (0 : Int), ())) (by omega) (by omega) (by simp) (by simp)
theorem toIntA2S_lim (d) (r) (h : G_toIntA2S d = some r) : ∃ N, F_laws_toIntA2S N d = some r := by
  obtain ⟨l, _⟩ := d
  unfold G_toIntA2S at h
  split at h
  · rename_i hl
    have hl : l.length ≤ lim := of_decide_eq_true hl
    have h := Option.some.inj h
    subst h
    refine ⟨l.length + 1, ?_⟩
    unfold F_laws_toIntA2S
    have hc : (decide (0 ≤ (List.length l : Int)) && decide ((List.length l : Int) ≤ (List.length l : Int)) && decide ((List.length l : Int) ≤ (lim : Int))) = true := by simp; omega
    have := toIntA2S_l0 (l.length + 1) l hl l.length (Nat.le_refl _)
    simp only [hc, if_true, Int.toNat_natCast]
    rw [this]
    rfl
  · cases h
end Go.V.W
set_option linter.unusedVariables false
set_option linter.unusedSimpArgs false
namespace Go.V.W
open Go.Proofs
theorem eqIntA2_lim (d) (r) (h : G_eqIntA2 d = some r) : ∃ N, F_laws_eqIntA2 N d = some r := by
  obtain ⟨⟨a, b, _⟩, ⟨c, e, _⟩, _⟩ := d
  have h := Option.some.inj h
  subst h
  refine ⟨3, ?_⟩
  by_cases h1 : a = c
  · by_cases h2 : b = e
    · subst h1 h2
      simp [F_laws_eqIntA2, laws_eqIntA2_l0, laws_eqIntA2_l0_r, wrap_in]
    · subst h1
      simp [F_laws_eqIntA2, laws_eqIntA2_l0, laws_eqIntA2_l0_r, wrap_in, h2]
  · simp [F_laws_eqIntA2, laws_eqIntA2_l0, laws_eqIntA2_l0_r, wrap_in, h1]
theorem eqIntS_l0 (N : Nat) (l m : List Int) (hl : l.length ≤ lim) (hm : l.length = m.length) : ∀ n i, l.length ≤ i + n → i ≤ l.length → laws_eqIntS_l0 N (n + 1) (l, m, (i : Int), ()) = if l.drop i = m.drop i then some (.inr (.inl ())) else some (.inl (false, ())) := by
  have hmx := lim_max hl
  intro n
  induction n with
  | zero =>
    intro i h1 h2
    have e : i = l.length := by omega
    subst e
    rw [List.drop_of_length_le (by omega), List.drop_of_length_le (by omega)]
    simp [laws_eqIntS_l0, laws_eqIntS_l0_r]
  | succ n ih =>
    intro i h1 h2
    by_cases hi : i < l.length
    · have hi' : i < m.length := by omega
      show laws_eqIntS_l0_r N (laws_eqIntS_l0 N (n + 1)) (l, m, (i : Int), ()) = _
      unfold laws_eqIntS_l0_r
      have hlt : decide ((i : Int) < (List.length l : Int)) = true := by simp; omega
      simp only [hlt, if_true, idxIn_nat hi, idxIn_nat hi', Int.toNat_natCast, wrap_up hi hmx, at_get (e := I) hi, at_get (e := I) (l := m) hi', ih (i + 1) (by omega) (by omega)]
      rw [List.drop_eq_getElem_cons hi, List.drop_eq_getElem_cons hi']
      simp only [List.cons.injEq, List.get_eq_getElem]
      by_cases he : l[i] = m[i]
      · simp only [he, bne_self_eq_false, Bool.false_eq_true, if_false, true_and]
      · have he' : (l[i] != m[i]) = true := by simpa using he
        simp only [he', he, if_true, false_and, if_false]
    · have e : i = l.length := by omega
      subst e
      rw [List.drop_of_length_le (by omega), List.drop_of_length_le (by omega)]
      simp [laws_eqIntS_l0, laws_eqIntS_l0_r]
theorem eqIntS_lim (d) (r) (h : G_eqIntS d = some r) : ∃ N, F_laws_eqIntS N d = some r := by
  obtain ⟨l, m, _⟩ := d
  unfold G_eqIntS at h
  split at h
  · rename_i hl
    have hl : l.length ≤ lim := of_decide_eq_true hl
    have h := Option.some.inj h
    subst h
    refine ⟨l.length + 1, ?_⟩
    unfold F_laws_eqIntS
    by_cases hm : l.length = m.length
    · have := eqIntS_l0 (l.length + 1) l m hl hm l.length 0 (by omega) (by omega)
      simp only [Int.natCast_zero, List.drop_zero] at this
      have hne : ((List.length l : Int) != (List.length m : Int)) = false := by simp [hm]
      simp only [hne, Bool.false_eq_true, if_false, this]
      by_cases he : l = m
      · simp [he]
      · simp [he]
    · have hne : ((List.length l : Int) != (List.length m : Int)) = true := by simp; omega
      have he : ¬ l = m := fun e => hm (by rw [e])
      simp [hne, he]
  · cases h
end Go.V.W
set_option linter.unusedVariables false
set_option linter.unusedSimpArgs false
namespace Go.V.W
open Go.Proofs
/-- All of m numbers from i on. -/
def allB (p : Nat → Bool) : Nat → Nat → Bool
  | 0, _ => true
  | m + 1, i => p i && allB p m (i + 1)
theorem allB_iff {p : Nat → Bool} : ∀ {m i : Nat}, allB p m i = true ↔ ∀ j, i ≤ j → j < i + m → p j = true := by
  intro m
  induction m with
  | zero => intro i; simp only [allB, true_iff]; intro j h1 h2; omega
  | succ m ih =>
    intro i
    simp only [allB, Bool.and_eq_true, ih]
    constructor
    · rintro ⟨h1, h2⟩ j h3 h4
      by_cases e : j = i
      · subst e; exact h1
      · exact h2 j (by omega) (by omega)
    · intro h
      exact ⟨h i (Nat.le_refl _) (by omega), fun j h1 h2 => h j (by omega) (by omega)⟩
theorem loop_all {H O : Type} {L : Nat → H → Option O} {r : (H → Option O) → H → Option O} (hL : ∀ k d, L (k + 1) d = r (L k) d) {n : Nat} {mk : Nat → H} {p : Nat → Bool} {o f : O}
    (hr : ∀ back i, i < n → r back (mk i) = if p i = true then back (mk (i + 1)) else some o) (hf : ∀ back, r back (mk n) = some f) :
    ∀ k i, i ≤ n → n ≤ i + k → L (k + 1) (mk i) = some (if allB p (n - i) i = true then f else o) := by
  intro k
  induction k with
  | zero =>
    intro i h1 h2
    have e : i = n := by omega
    subst e
    rw [hL, hf, Nat.sub_self]
    rfl
  | succ k ih =>
    intro i h1 h2
    by_cases h : i < n
    · rw [hL, hr _ i h, show n - i = (n - (i + 1)) + 1 by omega]
      simp only [allB]
      by_cases hp : p i = true
      · simp only [hp, if_true, Bool.true_and]
        exact ih (i + 1) (by omega) (by omega)
      · simp only [Bool.not_eq_true] at hp
        simp only [hp, Bool.false_eq_true, if_false, Bool.false_and]
    · have e : i = n := by omega
      subst e
      rw [hL, hf, Nat.sub_self]
      rfl
theorem wrap_down {i : Nat} (h : 0 < i) (hn : i ≤ maxLen) : IntKind.wrap .i64 ((i : Int) - 1) = ((i - 1 : Nat) : Int) := by
  unfold maxLen at hn
  rw [Go.IntWalk.i64_in _ (by omega)]
  omega
theorem lt_dec {i n : Nat} (h : i < n) : decide ((i : Int) < (n : Int)) = true := by simp; omega
theorem lt_not (n : Nat) : decide ((n : Int) < (n : Int)) = false := by simp
theorem pos_dec {i : Nat} : decide ((i : Int) > (0 : Int)) = decide (0 < i) := by simp
theorem bool_eq_iff {a b : Bool} (h : a = true ↔ b = true) : a = b := by cases a <;> cases b <;> simp_all
theorem all_at {e : Kd} (l : List e.den) (q : e.den → Bool) : allB (fun i => q (at_ e l i)) l.length 0 = l.all q := by
  apply bool_eq_iff
  rw [allB_iff, List.all_eq_true]
  constructor
  · intro h x hx
    obtain ⟨i, hi, rfl⟩ := List.getElem_of_mem hx
    have := h i (by omega) (by omega)
    rw [at_get hi] at this
    exact this
  · intro h j _ hj
    have hj : j < l.length := by omega
    rw [at_get hj]
    exact h _ (List.getElem_mem hj)
theorem risingE_iff : ∀ l : List E, risingE l = true ↔ ∀ j, 0 < j → j < l.length → lessE (at_ K_Piiq l (j - 1)) (at_ K_Piiq l j) = true := by
  intro l
  induction l with
  | nil => simp only [risingE, true_iff]; intro j _ h; exact absurd h (by simp)
  | cons a l ih =>
    cases l with
    | nil => simp only [risingE, true_iff]; intro j h1 h2; simp only [List.length_cons, List.length_nil] at h2; omega
    | cons b l =>
      simp only [risingE, Bool.and_eq_true, ih]
      constructor
      · rintro ⟨h1, h2⟩ j h3 h4
        by_cases e : j = 1
        · subst e; exact h1
        · have := h2 (j - 1) (by omega) (by simp only [List.length_cons] at h4 ⊢; omega)
          obtain ⟨k, rfl⟩ : ∃ k, j = k + 2 := ⟨j - 2, by omega⟩
          exact this
      · intro h
        refine ⟨h 1 (by omega) (by simp), fun j h1 h2 => ?_⟩
        have := h (j + 1) (by omega) (by simp only [List.length_cons] at h2 ⊢; omega)
        obtain ⟨k, rfl⟩ : ∃ k, j = k + 1 := ⟨j - 1, by omega⟩
        exact this
theorem l1In_eq (x lo hi : Int) (u : Unit) : g_spec_l1In (x, lo, hi, u) = (inB lo hi x, ()) := by
  unfold g_spec_l1In inB
  by_cases h : lo ≤ x <;> simp [h]
theorem within_eq (x lo hi : Int) (u : Unit) : g_impl_within (x, lo, hi, u) = (inB lo hi x, ()) := by
  unfold g_impl_within inB
  by_cases h : lo ≤ x <;> simp [h]
theorem l2Before_eq (a b : E) (u : Unit) : g_spec_l2Before (a, b, u) = (lessE a b, ()) := by
  obtain ⟨a1, a2, _⟩ := a
  obtain ⟨b1, b2, _⟩ := b
  unfold g_spec_l2Before lessE
  by_cases h : a1 < b1
  · simp [h]
  · by_cases h2 : a1 = b1 <;> simp [h, h2]
theorem cmpI_eq (a b : Int) (u : Unit) : g_cmp_Compare_int (a, b, u) = (if a < b then -1 else if b < a then 1 else 0, ()) := by
  unfold g_cmp_Compare_int g_cmp_isNaN_int
  by_cases h : a < b
  · simp [h]
  · by_cases h2 : b < a <;> simp [h, h2]
theorem eqIntA2S_lim (d) (r) (h : G_eqIntA2S d = some r) : ∃ N, F_laws_eqIntA2S N d = some r := by
  obtain ⟨l, m, _⟩ := d
  unfold G_eqIntA2S at h
  split at h
  · rename_i hl
    have hl : l.length ≤ lim := of_decide_eq_true hl
    have hmx := lim_max hl
    have h := Option.some.inj h
    subst h
    refine ⟨l.length + 1, ?_⟩
    unfold F_laws_eqIntA2S
    by_cases hm : l.length = m.length
    · have := loop_all (L := laws_eqIntA2S_l0 (l.length + 1)) (r := laws_eqIntA2S_l0_r (l.length + 1)) (fun _ _ => rfl) (n := l.length) (mk := fun i => (l, m, (i : Int), ())) (p := fun i => decide (at_ K_Piiq l i = at_ K_Piiq m i)) (o := .inl (false, ())) (f := .inr (.inl ()))
        (by
          intro back i hi
          have hi' : i < m.length := by omega
          unfold laws_eqIntA2S_l0_r
          simp only [lt_dec hi, if_true, idxIn_nat hi, idxIn_nat hi', Int.toNat_natCast, wrap_up hi hmx, G_eqIntA2, Option.bind_some]
          by_cases he : at_ K_Piiq l i = at_ K_Piiq m i
          · simp only [he, decide_true, Bool.not_true, Bool.false_eq_true, if_false, if_true]
          · simp only [he, decide_false, Bool.not_false, Bool.false_eq_true, if_false, if_true])
        (by intro back; unfold laws_eqIntA2S_l0_r; simp only [lt_not, Bool.false_eq_true, if_false]) l.length 0 (by omega) (by omega)
      simp only [Int.natCast_zero] at this
      have hne : ((List.length l : Int) != (List.length m : Int)) = false := by simp [hm]
      simp only [hne, Bool.false_eq_true, if_false, this, Nat.sub_zero]
      by_cases he : l = m
      · have : allB (fun i => decide (at_ K_Piiq l i = at_ K_Piiq m i)) l.length 0 = true := allB_iff.2 (fun j _ _ => by simp [he])
        simp only [this, if_true, Option.bind_some]
        simp only [he, decide_true]
      · have : allB (fun i => decide (at_ K_Piiq l i = at_ K_Piiq m i)) l.length 0 = false := by
          apply Bool.eq_false_iff.2
          intro ha
          apply he
          rw [allB_iff] at ha
          apply List.ext_getElem hm
          intro i h1 h2
          have := of_decide_eq_true (ha i (by omega) (by omega))
          rw [at_get (e := K_Piiq) h1, at_get (e := K_Piiq) h2] at this
          exact this
        simp only [this, he, Bool.false_eq_true, if_false, Option.bind_some, decide_false]
    · have hne : ((List.length l : Int) != (List.length m : Int)) = true := by simp; omega
      have he : ¬ l = m := fun e => hm (by rw [e])
      simp [hne, he]
  · cases h
theorem allWithin_lim (d) (r) (h : G_allWithin d = some r) : ∃ N, F_impl_allWithin N d = some r := by
  obtain ⟨l, lo, hi, _⟩ := d
  unfold G_allWithin at h
  split at h
  · rename_i hl
    have hl : l.length ≤ lim := of_decide_eq_true hl
    have hmx := lim_max hl
    have h := Option.some.inj h
    subst h
    refine ⟨l.length + 1, ?_⟩
    unfold F_impl_allWithin
    have := loop_all (L := impl_allWithin_l0 (l.length + 1)) (r := impl_allWithin_l0_r (l.length + 1)) (fun _ _ => rfl) (n := l.length) (mk := fun i => (lo, hi, l, (l.length : Int), (i : Int), ())) (p := fun i => inB lo hi (at_ I l i)) (o := .inl (false, ())) (f := .inr (.inl ()))
      (by
        intro back i hi'
        unfold impl_allWithin_l0_r
        simp only [lt_dec hi', if_true, idxIn_nat hi', Int.toNat_natCast, wrap_up hi' hmx, within_eq]
        cases hb : inB lo hi (at_ I l i) <;> rfl)
      (by intro back; unfold impl_allWithin_l0_r; simp only [lt_not, Bool.false_eq_true, if_false]) l.length 0 (by omega) (by omega)
    simp only [Int.natCast_zero] at this
    simp only [this, Nat.sub_zero, all_at (e := I) l (inB lo hi)]
    cases (l.all (inB lo hi)) <;> rfl
  · cases h
/-- What the walk answers before the first list is over. -/
def cmpW : List Int → List Int → Option Int
  | [], _ => none
  | _ :: _, [] => some 1
  | a :: l, b :: m => if a < b then some (-1) else if b < a then some 1 else cmpW l m
theorem cmpL_W : ∀ l m : List Int, cmpL l m = match cmpW l m with
    | some r => r
    | none => if l.length < m.length then -1 else 0 := by
  intro l
  induction l with
  | nil => intro m; cases m <;> simp [cmpL, cmpW]
  | cons a l ih =>
    intro m
    cases m with
    | nil => simp [cmpL, cmpW]
    | cons b m =>
      simp only [cmpL, cmpW]
      by_cases ha : a < b
      · simp [ha]
      · by_cases hb : b < a
        · simp [ha, hb]
        · simp only [ha, hb, if_false, ih m, List.length_cons, Nat.add_lt_add_iff_right]
theorem compare_l0 (N : Nat) (l m : List Int) (hl : l.length ≤ lim) (hm : m.length ≤ lim) : ∀ n i, l.length ≤ i + n → i ≤ l.length → i ≤ m.length → slices_Compare_Sint_int_l0 N (n + 1) (l, m, l, (l.length : Int), (i : Int), ()) = 
    match cmpW (l.drop i) (m.drop i) with
    | some r => some (.inl (r, ()))
    | none => some (.inr (.inl (l, m, ()))) := by
  have hmx := lim_max hl
  intro n
  induction n with
  | zero =>
    intro i h1 h2 h3
    have e : i = l.length := by omega
    subst e
    rw [List.drop_of_length_le (Nat.le_refl l.length)]
    simp [slices_Compare_Sint_int_l0, slices_Compare_Sint_int_l0_r, cmpW]
  | succ n ih =>
    intro i h1 h2 h3
    by_cases hi : i < l.length
    · show slices_Compare_Sint_int_l0_r N (slices_Compare_Sint_int_l0 N (n + 1)) (l, m, l, (l.length : Int), (i : Int), ()) = _
      unfold slices_Compare_Sint_int_l0_r
      simp only [lt_dec hi, if_true, idxIn_nat hi, Int.toNat_natCast, wrap_up hi hmx]
      rw [List.drop_eq_getElem_cons hi]
      by_cases hi' : i < m.length
      · have hge : decide ((i : Int) ≥ (m.length : Int)) = false := by simp; omega
        rw [List.drop_eq_getElem_cons hi']
        simp only [hge, Bool.false_eq_true, if_false, idxIn_nat hi', if_true, cmpI_eq, at_get (e := I) hi, at_get (e := I) (l := m) hi', List.get_eq_getElem, cmpW]
        by_cases ha : l[i] < m[i]
        · simp [ha]
        · by_cases hb : m[i] < l[i]
          · simp [ha, hb]
          · simp only [ha, hb, if_false, bne_self_eq_false, Bool.false_eq_true]
            exact ih (i + 1) (by omega) (by omega) (by omega)
      · have hge : decide ((i : Int) ≥ (m.length : Int)) = true := by simp; omega
        rw [List.drop_of_length_le (Nat.le_of_not_lt hi')]
        simp only [hge, if_true, cmpW]
    · have e : i = l.length := by omega
      subst e
      rw [List.drop_of_length_le (Nat.le_refl l.length)]
      simp [slices_Compare_Sint_int_l0, slices_Compare_Sint_int_l0_r, cmpW]
theorem compare_lim (d) (r) (h : G_compare d = some r) : ∃ N, F_slices_Compare_Sint_int N d = some r := by
  obtain ⟨l, m, _⟩ := d
  unfold G_compare at h
  split at h
  · rename_i hl
    simp only [Bool.and_eq_true] at hl
    have hm : m.length ≤ lim := of_decide_eq_true hl.2
    have hl : l.length ≤ lim := of_decide_eq_true hl.1
    have h := Option.some.inj h
    subst h
    refine ⟨l.length + 1, ?_⟩
    unfold F_slices_Compare_Sint_int
    have := compare_l0 (l.length + 1) l m hl hm l.length 0 (by omega) (by omega) (by omega)
    simp only [Int.natCast_zero, List.drop_zero] at this
    simp only [this, cmpL_W]
    cases cmpW l m with
    | some r => rfl
    | none =>
      by_cases hlt : l.length < m.length
      · have : decide ((l.length : Int) < (m.length : Int)) = true := by simp; omega
        simp only [Option.bind_some, this, if_true, hlt]
      · have : decide ((l.length : Int) < (m.length : Int)) = false := by simp; omega
        simp only [Option.bind_some, this, Bool.false_eq_true, if_false, hlt]
  · cases h
theorem graph_allB (n : Int) (l : List E) : allB (fun i => edgeB n (at_ K_Piiq l i) && (!decide (0 < i) || lessE (at_ K_Piiq l (i - 1)) (at_ K_Piiq l i))) l.length 0 = (l.all (edgeB n) && risingE l) := by
  rw [← all_at (e := K_Piiq) l (edgeB n)]
  apply bool_eq_iff
  rw [Bool.and_eq_true, allB_iff, allB_iff, risingE_iff]
  simp only [Bool.and_eq_true, Bool.or_eq_true, Bool.not_eq_true', decide_eq_false_iff_not]
  constructor
  · intro h
    exact ⟨fun j h1 h2 => (h j h1 h2).1, fun j h1 h2 => ((h j (by omega) (by omega)).2).resolve_left (by omega)⟩
  · rintro ⟨h1, h2⟩ j h3 h4
    refine ⟨h1 j h3 h4, ?_⟩
    by_cases h0 : 0 < j
    · exact .inr (h2 j h0 (by omega))
    · exact .inl h0
theorem cmp2 (a b : E) : decide (cmpL [a.1, a.2.1] [b.1, b.2.1] ≥ 0) = !lessE a b := by
  obtain ⟨a1, a2, _⟩ := a
  obtain ⟨b1, b2, _⟩ := b
  simp only [cmpL, lessE]
  by_cases h1 : a1 < b1
  · simp [h1]
  · by_cases h2 : b1 < a1
    · have : ¬ a1 = b1 := by omega
      simp [h1, h2, this]
    · have e : a1 = b1 := by omega
      subst e
      by_cases h3 : a2 < b2
      · simp [h3]
      · by_cases h4 : b2 < a2 <;> simp [h3, h4]
theorem edge_eq (n a b : Int) : (inB 0 (n - 1) a && inB 0 (n - 1) b && decide (a < b)) = (decide (0 ≤ a) && decide (a < b) && decide (b < n)) := by
  apply bool_eq_iff
  simp only [inB, Bool.and_eq_true, decide_eq_true_eq]
  omega
theorem okL2 (a b : Int) : okL [a, b] = true := decide_eq_true (show 2 ≤ lim by unfold lim; omega)
theorem IsGraph_lim (d) (r) (h : G_graph d = some r) : ∃ N, F_impl_IsGraph N d = some r := by
  obtain ⟨⟨n, l, u⟩, _⟩ := d
  unfold G_graph at h
  split at h
  · rename_i hl
    have hl : l.length ≤ lim := of_decide_eq_true hl
    have hmx := lim_max hl
    have h := Option.some.inj h
    subst h
    refine ⟨l.length + 1, ?_⟩
    unfold F_impl_IsGraph
    simp only [within_eq, graphB]
    cases hn : inB 0 8 n with
    | false =>
      simp only [inB] at hn
      simp only [Bool.not_false, if_true, hn, Bool.false_and]
    | true =>
      have hn' := hn
      simp only [inB] at hn'
      simp only [Bool.not_true, Bool.false_eq_true, if_false, hn', Bool.true_and]
      have := loop_all (L := impl_IsGraph_l0 (l.length + 1)) (r := impl_IsGraph_l0_r (l.length + 1)) (fun _ _ => rfl) (n := l.length) (mk := fun i => ((n, l, u), l, (l.length : Int), (i : Int), ())) (p := fun i => edgeB n (at_ K_Piiq l i) && (!decide (0 < i) || lessE (at_ K_Piiq l (i - 1)) (at_ K_Piiq l i))) (o := .inl (false, ())) (f := .inr (.inl ()))
        (by
          intro back i hi
          unfold impl_IsGraph_l0_r
          simp only [lt_dec hi, if_true, idxIn_nat hi, Int.toNat_natCast, wrap_up hi hmx, pos_dec]
          by_cases c1 : (at_ K_Piiq l i).1 < 0
          · have c1' : ¬ (0 ≤ (at_ K_Piiq l i).1) := Int.not_le.2 c1
            simp only [c1, decide_true, if_true, edgeB, c1', decide_false, Bool.false_and, Bool.false_eq_true, if_false]
          · have c1' : (0 ≤ (at_ K_Piiq l i).1) := Int.not_lt.1 c1
            by_cases c2 : (at_ K_Piiq l i).1 < (at_ K_Piiq l i).2.1
            · have c2' : ¬ ((at_ K_Piiq l i).1 ≥ (at_ K_Piiq l i).2.1) := Int.not_le.2 c2
              by_cases c3 : (at_ K_Piiq l i).2.1 < n
              · have c3' : ¬ ((at_ K_Piiq l i).2.1 ≥ n) := Int.not_le.2 c3
                by_cases h0 : 0 < i
                · have h1 : i - 1 < l.length := by omega
                  simp only [c1, c1', c2, c2', c3, c3', edgeB, decide_true, decide_false, if_true, if_false, Bool.false_eq_true, Bool.true_and, h0, wrap_down h0 (show i ≤ maxLen by omega), idxIn_nat h1, Int.toNat_natCast, Bool.not_true, Bool.false_or, G_compare, okL2, Option.bind_some, cmp2]
                  cases lessE (at_ K_Piiq l (i - 1)) (at_ K_Piiq l i) <;> rfl
                · simp only [c1, c1', c2, c2', c3, c3', edgeB, decide_true, decide_false, if_true, if_false, Bool.false_eq_true, Bool.true_and, h0, Bool.not_false, Bool.true_or]
              · have c3' : ((at_ K_Piiq l i).2.1 ≥ n) := Int.not_lt.1 c3
                simp only [c1, c1', c2, c2', c3, c3', edgeB, decide_true, decide_false, if_true, if_false, Bool.false_eq_true, Bool.and_false, Bool.false_and]
            · have c2' : ((at_ K_Piiq l i).1 ≥ (at_ K_Piiq l i).2.1) := Int.not_lt.1 c2
              simp only [c1, c1', c2, c2', edgeB, decide_true, decide_false, if_true, if_false, Bool.false_eq_true, Bool.and_false, Bool.false_and])
        (by intro back; unfold impl_IsGraph_l0_r; simp only [lt_not, Bool.false_eq_true, if_false]) l.length 0 (by omega) (by omega)
      simp only [Int.natCast_zero] at this
      simp only [this, Nat.sub_zero, graph_allB]
      cases (l.all (edgeB n) && risingE l) <;> rfl
  · cases h
theorem l2Good_lim (d) (r) (h : G_graph d = some r) : ∃ N, F_spec_l2Good N d = some r := by
  obtain ⟨⟨n, l, u⟩, _⟩ := d
  unfold G_graph at h
  split at h
  · rename_i hl
    have hl : l.length ≤ lim := of_decide_eq_true hl
    have hmx := lim_max hl
    have h := Option.some.inj h
    subst h
    refine ⟨l.length + 1, ?_⟩
    unfold F_spec_l2Good
    have := loop_all (L := spec_l2Good_l0 (l.length + 1)) (r := spec_l2Good_l0_r (l.length + 1)) (fun _ _ => rfl) (n := l.length) (mk := fun i => ((n, l, u), (i : Int), ())) (p := fun i => (inB 0 (IntKind.wrap .i64 (n - 1)) (at_ K_Piiq l i).1 && inB 0 (IntKind.wrap .i64 (n - 1)) (at_ K_Piiq l i).2.1 && decide ((at_ K_Piiq l i).1 < (at_ K_Piiq l i).2.1)) && (!decide (0 < i) || lessE (at_ K_Piiq l (i - 1)) (at_ K_Piiq l i))) (o := .inl (false, ())) (f := .inr (.inl ((n, l, u), ())))
        (by
          intro back i hi
          unfold spec_l2Good_l0_r
          simp only [lt_dec hi, if_true, idxIn_nat hi, Int.toNat_natCast, wrap_up hi hmx, pos_dec, l1In_eq, l2Before_eq]
          cases c1 : inB 0 (IntKind.wrap .i64 (n - 1)) (at_ K_Piiq l i).1 with
          | false => rfl
          | true =>
            cases c2 : inB 0 (IntKind.wrap .i64 (n - 1)) (at_ K_Piiq l i).2.1 with
            | false => rfl
            | true =>
              by_cases c3 : (at_ K_Piiq l i).1 < (at_ K_Piiq l i).2.1
              · have c3' : ¬ ((at_ K_Piiq l i).1 ≥ (at_ K_Piiq l i).2.1) := Int.not_le.2 c3
                by_cases h0 : 0 < i
                · have h1 : i - 1 < l.length := by omega
                  simp only [c3, c3', decide_true, decide_false, if_true, if_false, Bool.false_eq_true, Bool.true_and, h0, wrap_down h0 (show i ≤ maxLen by omega), idxIn_nat h1, Int.toNat_natCast, Bool.not_true, Bool.false_or]
                  cases lessE (at_ K_Piiq l (i - 1)) (at_ K_Piiq l i) <;> rfl
                · simp only [c3, c3', decide_true, decide_false, if_true, if_false, Bool.false_eq_true, Bool.true_and, h0, Bool.not_false, Bool.true_or, Bool.not_true]
              · have c3' : ((at_ K_Piiq l i).1 ≥ (at_ K_Piiq l i).2.1) := Int.not_lt.1 c3
                simp only [c3, c3', decide_true, decide_false, if_true, if_false, Bool.false_eq_true, Bool.true_and, Bool.false_and, Bool.not_true])
        (by intro back; unfold spec_l2Good_l0_r; simp only [lt_not, Bool.false_eq_true, if_false]) l.length 0 (by omega) (by omega)
    simp only [Int.natCast_zero] at this
    simp only [this, Nat.sub_zero, graphB]
    cases hn : inB 0 8 n with
    | false =>
      have hn' := hn
      simp only [inB] at hn'
      simp only [hn', Bool.false_and]
      split <;> simp [l1In_eq, hn]
    | true =>
      have hn' := hn
      simp only [inB] at hn'
      simp only [hn', Bool.true_and]
      simp only [Bool.and_eq_true, decide_eq_true_eq] at hn'
      have hw : IntKind.wrap .i64 (n - 1) = n - 1 := wrap_in _ (by omega) (by omega)
      have hp : (fun i => (inB 0 (IntKind.wrap .i64 (n - 1)) (at_ K_Piiq l i).1 && inB 0 (IntKind.wrap .i64 (n - 1)) (at_ K_Piiq l i).2.1 && decide ((at_ K_Piiq l i).1 < (at_ K_Piiq l i).2.1)) && (!decide (0 < i) || lessE (at_ K_Piiq l (i - 1)) (at_ K_Piiq l i))) = (fun i => edgeB n (at_ K_Piiq l i) && (!decide (0 < i) || lessE (at_ K_Piiq l (i - 1)) (at_ K_Piiq l i))) := by
        funext i
        congr 1
        rw [hw]
        exact edge_eq n _ _
      simp only [hp, graph_allB]
      cases (l.all (edgeB n) && risingE l) <;> simp [l1In_eq, hn]
  · cases h
end Go.V.W
set_option linter.unusedVariables false
set_option linter.unusedSimpArgs false
namespace Go.V.W
open Go.Proofs
theorem sz_wrap {a : Int} {n : Nat} (h0 : 0 ≤ a) (h1 : a ≤ 1048576) (hn : n ≤ maxLen) : IntKind.wrap .i64 (a - (n : Int)) = a - (n : Int) := by
  unfold maxLen at hn
  exact Go.IntWalk.i64_in _ (by omega)
theorem szStep_le {a : Int} {n : Nat} (h : ¬ szStep a n < 0) : n ≤ a ∧ szStep a n = a - n := by
  unfold szStep at h ⊢
  split at h
  · omega
  · exact ⟨by omega, by rw [if_neg (by assumption)]⟩
theorem szStep_neg {a : Int} {n : Nat} (h : szStep a n < 0) : szStep a n = -1 := by
  unfold szStep at h ⊢
  split at h
  · rw [if_pos (by assumption)]
  · omega
theorem szA2S_eq (l : List E) (a : Int) (u : Unit) (h0 : 0 ≤ a) (h1 : a ≤ 1048576) (hl : l.length ≤ maxLen) : g_laws_szIntA2S (l, a, u) = (szStep a l.length, ()) := by
  unfold g_laws_szIntA2S szStep
  simp only [sz_wrap h0 h1 hl]
  by_cases h : a - (l.length : Int) < 0 <;> simp only [h, decide_true, decide_false, if_true, if_false, Bool.false_eq_true]
theorem szS_eq (l : List Int) (a : Int) (u : Unit) (h0 : 0 ≤ a) (h1 : a ≤ 1048576) (hl : l.length ≤ maxLen) : g_laws_szIntS (l, a, u) = (szStep a l.length, ()) := by
  unfold g_laws_szIntS szStep
  simp only [sz_wrap h0 h1 hl]
  by_cases h : a - (l.length : Int) < 0 <;> simp only [h, decide_true, decide_false, if_true, if_false, Bool.false_eq_true]
theorem szGraph_eq (n : Int) (l : List E) (v : Unit) (a : Int) (u : Unit) (h0 : 0 ≤ a) (h1 : a ≤ 1048576) (hl : l.length ≤ maxLen) : g_laws_szGraph ((n, l, v), a, u) = (szStep a l.length, ()) := by
  unfold g_laws_szGraph
  simp only [szA2S_eq l a () h0 h1 hl]
  by_cases h : szStep a l.length < 0
  · simp [szStep_neg h]
  · simp only [h, decide_false, if_false, Bool.false_eq_true]
theorem okL_of {α : Type} {l : List α} (h : l.length ≤ 1048576) : okL l = true := decide_eq_true (by unfold lim; omega)
theorem toGraph_eq (n : Int) (l : List E) (u : Unit) (v : Unit) (hl : okL l = true) : F_laws_toGraph 0 ((n, l, u), v) = some ((n, l, u), v) := by
  unfold F_laws_toGraph G_toIntA2S
  simp only [hl, if_true, Option.bind_some]
theorem eqGraph_self (n : Int) (l : List E) (u v w : Unit) (hl : okL l = true) : F_laws_eqGraph 0 ((n, l, u), (n, l, v), w) = some (true, ()) := by
  unfold F_laws_eqGraph G_eqIntA2S
  simp only [bne_self_eq_false, Bool.false_eq_true, if_false, hl, if_true, decide_true, Option.bind_some, Bool.not_true]
theorem graphB_n {n : Int} {l : List E} {u : Unit} (h : graphB (n, l, u) = true) : 0 ≤ n ∧ n ≤ 8 := by
  unfold graphB at h
  simp only [Bool.and_eq_true, decide_eq_true_eq] at h
  exact ⟨h.1.1.1, h.1.1.2⟩
end Go.V.W
set_option linter.unusedVariables false
set_option linter.unusedSimpArgs false
namespace Go.V.W
open Go.Proofs
theorem okL_lim {α : Type} {l : List α} (h : okL l = true) : l.length ≤ lim := of_decide_eq_true h
end Go.V.W
