/- What the law FnExactEscapeOf leans on, part 4: an interpreter of the model as plain data, its soundness, the functions as it tells them, and their laws. -/
import Derived.WalkKit
import Derived.LoopN
import Derived.Test.YtcdhlpfcjpnfoaaGreatProg
import Derived.Shelf.RegionOpenPlain
import Derived.Deep.LoopGhost
import Derived.Deep.Draws
import Derived.Lib.Walk
import Derived.Sort.WalkB12
import Derived.Lib.SliceRun
import Derived.Lib.SlicesS
import Derived.Lib.SlicesCompact
import Derived.Laws.CopyOwn
import Derived.Deep.OwnRows
import Derived.IntWalk
import Derived.Lib.Builder
import Derived.Test.YtcdhlpfcjpnfoaaGreatVC
set_option linter.unusedVariables false
set_option linter.unusedSimpArgs false
set_option maxRecDepth 100000
set_option linter.unusedVariables false
set_option linter.unusedSimpArgs false
namespace Go.V.W
open Go.RowKit Go.Proofs
open Go.Sort (grow putRow mapBlock putCells onCells SWO PermIn SortedIn)
open Go.Lib
abbrev kSS : Kd := .slice (.slice (.int .i64))
theorem grow_at' {w : World} {os : Array Obj} {k : Nat} (h : k < w.heap.size) : (grow w os).heap[k]? = w.heap[k]? := by
  show (w.heap ++ os)[k]? = _
  exact Array.getElem?_append_left h
open Classical in
/-- Where a place goes. -/
noncomputable def goesTo {n : Nat} (d' : Array (Fin (n + 1))) (j : Nat) : Nat := if h : ∃ k, ∃ hk : k < d'.size, (d'[k]).val = j then h.choose else j
theorem goesTo_at {n : Nat} {d' : Array (Fin (n + 1))} (hinj : ∀ i j (hi : i < d'.size) (hj : j < d'.size), d'[i] = d'[j] → i = j) {k : Nat} (hk : k < d'.size) : goesTo d' (d'[k]).val = k := by
  have h : ∃ k', ∃ hk' : k' < d'.size, (d'[k']).val = (d'[k]).val := ⟨k, hk, rfl⟩
  unfold goesTo
  rw [dif_pos h]
  obtain ⟨h1, h2⟩ := h.choose_spec
  exact hinj _ _ h1 hk (Fin.ext h2)
noncomputable def sortLab {n : Nat} (d' : Array (Fin (n + 1))) : Nat × Path → Lab
  | (0, [.i j]) => .io 0 [.i (goesTo d' j)]
  | (i, q) => .io i q
theorem con_sortF {P : Program} {f g : FuncId} (he : ∀ (args : Array Value) (w : World), (callFunc f args).run P w = .ok (.enter f args) w)
    (hc : ∀ (w : World) (v1 v2 : Value) (xs ys : List Int), Hdr w v1 xs → Hdr w v2 ys → xs.length ≤ lim → ys.length ≤ lim → Calls P g #[v1, v2] w fun e w' => e = .returned (.int .i64 (cmpL xs ys)) ∧ w' = w)
    (h : ∀ (n : Nat) (enc : Fin (n + 1) → Value) (cf : Fin (n + 1) → Fin (n + 1) → Int) (blk off cap : Nat) (w : World), OneCell enc → SWO (ltOf cf) → CmpLays1 P g #[] enc cf blk off (idA n).size w → Go.Sort.Holds enc w blk off (idA n) → blk < w.heap.size → (idA n).size < 4611686018427387904 →
      Calls P f #[.slice (some ⟨blk, off, none⟩) (idA n).size cap, .func (.func g) #[] #[]] w fun e w' => e = .returned (.tuple #[]) ∧ ∃ d' m os, PermIn 0 (idA n).size (idA n) d' ∧ SortedIn (ltOf cf) 0 (idA n).size d' ∧ w' = sortWorld enc w blk off m d' os)
    (h0 : ∀ (p : Option Addr) (cap : Nat) (fv : Value) (w : World), Calls P f #[.slice p 0 cap, fv] w fun e w' => e = .returned (.tuple #[]) ∧ w' = w) :
    Contract P f ⟨[(kSS, true), (.clo g .unit .unit, false)], [], true, G_sortF⟩ := by
  intro w ψ U vs d out hargs hU hψ hgl ho
  obtain ⟨xss, fv, u⟩ := d
  have ho : G_sortF (xss, fv, u) = some out := ho
  unfold G_sortF at ho
  split at ho
  case isFalse => cases ho
  rename_i hl
  have hl : (okL xss && xss.all okL) = true := hl
  simp only [Bool.and_eq_true] at hl
  obtain ⟨hl, hal⟩ := hl
  have hl : xss.length ≤ lim := of_decide_eq_true hl
  have hal : ∀ x ∈ xss, x.length ≤ lim := fun x hx => of_decide_eq_true (List.all_eq_true.1 hal x hx)
  obtain rfl := Option.some.inj ho
  obtain ⟨c1, r1, rfl, k2, c2, r2, rfl, k3, k5⟩ := hargs
  have k5 : r2 = [] := k5
  subst k5
  have hfv : mkVal (.clo g .unit .unit) c2 = .func (.func g) #[] #[] := by
    obtain ⟨a1, a2, e, _⟩ := (show Rep w _ (.clo g .unit .unit) [] c2 fv from k3)
    rw [e]
    rfl
  rw [hfv]
  have k2 : Rep w (fun q b => ψ b = some (0, q)) kSS [] c1 xss := k2
  rw [Rep] at k2
  -- the world as it was
  have same : ∀ (v : Value), (∃ p cap, c1 = [.slice p 0 cap]) → xss = [] → CallsTo P f (mkVal kSS c1 :: [.func (.func g) #[] #[]]).toArray w fun v w' => ∃ χ, Post ⟨[(kSS, true), (.clo g .unit .unit, false)], [], true, G_sortF⟩ ψ U (mkVal kSS c1 :: [.func (.func g) #[] #[]]) w (sortS xss, ()) χ v w' := by
    rintro _ ⟨p, cap, rfl⟩ rfl
    unfold CallsTo
    rw [show (mkVal kSS [Value.slice p 0 cap] :: [Value.func (.func g) #[] #[]]).toArray = #[.slice p 0 cap, .func (.func g) #[] #[]] from rfl, he]
    refine Calls.mono (h0 p cap _ w) fun e w' hh => ?_
    obtain ⟨rfl, rfl⟩ := hh
    refine ⟨fun b => match ψ b with | some (i, q) => some (.io i q) | none => none, ⟨rfl, rfl, rfl, Nat.le_refl _, fun _ _ _ => rfl, fun b z hz => ?_, ⟨[], trivial, rfl⟩, ?_⟩⟩
    · cases hb : ψ b with
      | none => rw [hb] at hz; cases hz
      | some y => exact ⟨.inr (by simp), hψ b y hb⟩
    · refine ⟨fun _ => ⟨[.slice p 0 cap], rfl, rfl, ?_⟩, trivial⟩
      rw [RepL.of (show Kd.isBx kSS = false from rfl)]
      show Rep _ _ kSS [] [.slice p 0 cap] []
      rw [Rep]
      rcases k2 with ⟨⟨a, e⟩, _⟩ | ⟨b, off, cap', e, kc, kS, kb, ke⟩
      · exact .inl ⟨⟨a, e⟩, rfl⟩
      · refine .inr ⟨b, off, cap', e, kc, ?_, kb, fun i hi => absurd hi (by simp)⟩
        show (match ψ b with | some (i, q) => some (Lab.io i q) | none => none) = some (.io 0 [])
        rw [kS]
  rcases k2 with ⟨⟨a, e⟩, hz⟩ | ⟨b, off, cap, e, kc, kS, kb, ke⟩
  · exact same undef ⟨a, 0, e⟩ hz
  cases hn : xss.length with
  | zero =>
    have hz : xss = [] := List.length_eq_zero_iff.1 hn
    rw [hn] at e
    exact same undef ⟨_, cap, e⟩ hz
  | succ n =>
    clear same
    have kS : ψ b = some (0, []) := kS
    obtain ⟨cs, T, fr, hrow, hthaw⟩ := hψ b _ kS
    obtain ⟨cs2, T2, fr2, hrow2, hfit⟩ := kb
    rw [hrow] at hrow2
    injection hrow2 with hrow2
    injection hrow2 with e1 e2 e3
    subst e1 e2 e3
    simp only [Kd.size, Nat.mul_one] at hfit
    rw [hn] at kc
    -- the headers
    have hlt : ∀ j, j < n + 1 → off + j < cs.size := fun j hj => by omega
    have hel : ∀ j (hj : j < n + 1), Rep w (fun q b => ψ b = some (0, q)) (.slice (.int .i64)) [.i j] [cs[off + j]'(hlt j hj)] (xss.getD j []) := fun j hj => by
      have hj' : j < xss.length := by omega
      have := ke j hj'
      simp only [Kd.size, Nat.mul_one, List.nil_append] at this
      unfold cellsAt at this
      rw [hrow] at this
      have e : (cs.toList.drop (off + j)).take 1 = [cs[off + j]'(hlt j hj)] := by
        rw [List.drop_eq_getElem_cons (by simpa using hlt j hj), List.take_succ_cons, List.take_zero, Array.getElem_toList]
      simp only at this
      rw [e] at this
      have e2 : xss.getD j [] = xss.get ⟨j, hj'⟩ := by simp [List.getD_eq_getElem?_getD, hj']
      rw [e2]
      exact this
    have hb := (Array.getElem?_eq_some_iff.1 hrow).1
    let enc : Fin (n + 1) → Value := fun j => cs[off + j.val]'(hlt j.val j.isLt)
    have hOne : OneCell enc := fun j => by
      have := hel j.val j.isLt
      rw [Rep] at this
      rcases this with ⟨⟨a, e⟩, _⟩ | ⟨b', o', c', e, _⟩
      · rw [show enc j = .slice a 0 0 from (List.cons.inj e).1]; rfl
      · rw [show enc j = _ from (List.cons.inj e).1]; rfl
    have hneb : ∀ j b', ψ b' = some (0, [.i j]) → b' ≠ b := fun j b' h1 e => by
      subst e
      rw [kS] at h1
      cases h1
    have hother' : ∀ (m : Nat) (dk : Array (Fin (n + 1))) (os : Array Obj) (k : Nat), k < w.heap.size → k ≠ b → (sortWorld enc w b off m dk os).heap[k]? = w.heap[k]? := fun m dk os k hk hne => by
      unfold sortWorld
      have hsz : (putRow enc (Go.Sort.ahead w m) b off dk).heap.size = w.heap.size := by simp [putRow, mapBlock]
      rw [grow_at' (by rw [hsz]; exact hk), putRowV_else hne]
      rfl
    have hcmp : CmpLays1 P g #[] enc (fun x y => cmpL (xss.getD x.val []) (xss.getD y.val [])) b off (idA n).size w := fun m os dk hs x y => by
      have hh : ∀ z : Fin (n + 1), Hdr (sortWorld enc w b off m dk os) (enc z) (xss.getD z.val []) := fun z => hdr_of (hel z.val z.isLt) fun b' hb' => hother' m dk os b' (hψ b' _ hb').lt (hneb _ _ hb')
      have hln : ∀ z : Fin (n + 1), (xss.getD z.val []).length ≤ lim := fun z => by
        have hz : z.val < xss.length := by omega
        have : xss.getD z.val [] = xss[z.val] := by simp [List.getD_eq_getElem?_getD, hz]
        rw [this]
        exact hal _ (List.getElem_mem hz)
      refine Calls.mono (hc _ _ _ _ _ (hh x) (hh y) (hln x) (hln y)) fun e w' hw => ?_
      obtain ⟨rfl, rfl⟩ := hw
      refine ⟨rfl, 0, #[], ?_⟩
      rw [Go.Sort.grow_empty]
      rfl
    have hH : Go.Sort.Holds enc w b off (idA n) := fun j hj => by
      have hj' : j < n + 1 := by rw [idA_size] at hj; exact hj
      have e : (idA n)[j]! = ⟨j, hj'⟩ := by rw [getElem!_pos (idA n) j hj]; simp [idA]
      constructor
      · unfold World.cell?
        rw [hrow, e]
        simp [enc, hlt j hj']
      · unfold World.frozen?
        rw [hrow]
        obtain ⟨f1, f2⟩ := fr
        have := hlt j hj'
        simp only at hthaw
        simp
        omega
    have hcall := h n enc _ b off cap w hOne (swo_cmp fun z : Fin (n + 1) => xss.getD z.val []) hcmp hH hb (by rw [idA_size]; unfold lim at hl; omega)
    unfold CallsTo
    rw [e, hn, show (mkVal kSS [Value.slice (some ⟨b, off, none⟩) (n + 1) cap] :: [Value.func (.func g) #[] #[]]).toArray = #[.slice (some ⟨b, off, none⟩) (n + 1) cap, .func (.func g) #[] #[]] from rfl, he]
    rw [idA_size] at hcall
    refine Calls.mono hcall fun e w' hh => ?_
    obtain ⟨rfl, d', m, os, hperm, hsort, rfl⟩ := hh
    have hperm' : PermIn 0 (idA n).size (idA n) d' := by rw [idA_size]; exact hperm
    obtain ⟨hs, hp, hinj⟩ := place_inj hperm'
    have hdata := sorted_data xss hn hp hs (by rw [idA_size]; exact hsort)
    have hother := hother' m d' os
    have hnew : (sortWorld enc w b off m d' os).heap[b]? = some (.cells (putCells enc off d' cs) T fr) := by
      unfold sortWorld
      have hsz : (putRow enc (Go.Sort.ahead w m) b off d').heap.size = w.heap.size := by simp [putRow, mapBlock]
      rw [grow_at' (by rw [hsz]; exact hb)]
      exact putRowV_at (w := Go.Sort.ahead w m) hrow
    have hps : (putCells enc off d' cs).size = cs.size := by simp [putCells]
    have hlen : (sortS xss).length = n + 1 := by rw [sortS_len, hn]
    refine ⟨fun b => match ψ b with | some z => some (sortLab d' z) | none => none, ⟨rfl, rfl, rfl, ?_, fun k hk hn => ?_, fun k z hz => ?_, ⟨[], trivial, rfl⟩, ?_⟩⟩
    · show w.heap.size ≤ ((putRow enc (Go.Sort.ahead w m) b off d').heap ++ os).size
      have hsz : (putRow enc (Go.Sort.ahead w m) b off d').heap.size = w.heap.size := by simp [putRow, mapBlock]
      rw [Array.size_append, hsz]
      omega
    · exact hother k hk (fun e => by subst e; rw [kS] at hn; cases hn)
    · cases hk : ψ k with
      | none => rw [hk] at hz; cases hz
      | some y =>
        refine ⟨.inr (by simp), ?_⟩
        by_cases e : k = b
        · subst e
          exact ⟨_, T, fr, hnew, hthaw.imp (fun h => h) fun h => by rw [hps]; exact h⟩
        · exact (hψ k y hk).same (hother k (hψ k y hk).lt e)
    · refine ⟨fun _ => ⟨[.slice (some ⟨b, off, none⟩) (n + 1) cap], rfl, rfl, ?_⟩, trivial⟩
      rw [RepL.of (show Kd.isBx kSS = false from rfl)]
      show Rep _ _ kSS [] [.slice (some ⟨b, off, none⟩) (n + 1) cap] (sortS xss)
      rw [Rep]
      refine .inr ⟨b, off, cap, by rw [hlen], by rw [hlen]; exact kc, ?_, ⟨_, T, fr, hnew, ?_⟩, fun i hi => ?_⟩
      · show (match ψ b with | some z => some (sortLab d' z) | none => none) = some (.io 0 [])
        rw [kS]
        rfl
      · simp only [Kd.size, Nat.mul_one]
        rw [hps]
        exact hfit
      · have hi1 : i < n + 1 := by rw [← hlen]; exact hi
        have hi2 : i < d'.size := by omega
        have ecell : cellsAt (sortWorld enc w b off m d' os) b (off + i * (Kd.slice (.int .i64)).size) (Kd.slice (.int .i64)).size = [enc d'[i]] := by
          unfold cellsAt
          rw [hnew]
          simp only [Kd.size, Nat.mul_one]
          have hlt2 : off + i < (putCells enc off d' cs).toList.length := by rw [Array.length_toList, hps]; exact hlt i hi1
          rw [List.drop_eq_getElem_cons hlt2, List.take_succ_cons, List.take_zero]
          congr 1
          simp only [putCells, Array.getElem_toList, Array.getElem_mapIdx]
          rw [if_pos ⟨by omega, by omega⟩, show off + i - off = i by omega, getElem!_pos d' i hi2]
        have edata : (sortS xss).get ⟨i, hi⟩ = xss.getD (d'[i]).val [] := by
          have : (sortS xss)[i] = xss.getD (d'[i]).val [] := by
            simp only [hdata, List.getElem_map, Array.getElem_toList]
          exact this
        rw [ecell, edata]
        refine rep_move (hel (d'[i]).val (d'[i]).isLt) fun b' hb' => ⟨hother b' (hψ b' _ hb').lt (hneb _ _ hb'), ?_⟩
        show (match ψ b' with | some z => some (sortLab d' z) | none => none) = some (.io 0 ([] ++ [.i i]))
        have hb' : ψ b' = some (0, [.i (d'[i]).val]) := hb'
        rw [hb']
        show some (Lab.io 0 [.i (goesTo d' (d'[i]).val)]) = _
        rw [goesTo_at hinj hi2]
        rfl
end Go.V.W
set_option linter.unusedVariables false
set_option linter.unusedSimpArgs false
namespace Go.V.W
open Go.Proofs Go.RowKit
def cmp1 (x y : Int) : Int := if x < y then -1 else if y < x then 1 else 0
theorem cmp1_lt {x y : Int} (h : x < y) : cmp1 x y = -1 := if_pos h
theorem cmp1_gt {x y : Int} (h : ¬ x < y) (h2 : y < x) : cmp1 x y = 1 := by unfold cmp1; rw [if_neg h, if_pos h2]
theorem cmp1_eq {x y : Int} (h : ¬ x < y) (h2 : ¬ y < x) : cmp1 x y = 0 := by unfold cmp1; rw [if_neg h, if_neg h2]
set_option maxRecDepth 1000000 in
theorem cmp65 (x y : Int) (w : World) : Calls Tryz.prog 130 #[.int .i64 x, .int .i64 y] w fun e w' => e = .returned (.int .i64 (cmp1 x y)) ∧ w' = w := by
  go_enter Tryz.func130, Tryz.ntmps130
  go_wp2
  · have h : x < y := by assumption
    go_ret
    refine ⟨?_, rfl⟩
    rw [cmp1_lt h]
    rfl
  · have h2 : y < x := by assumption
    have h : ¬ x < y := by omega
    go_ret
    refine ⟨?_, rfl⟩
    rw [cmp1_gt h h2]
    rfl
  · have h3 : y ≤ x := by assumption
    have h4 : x ≤ y := by assumption
    have h : ¬ x < y := by omega
    have h2 : ¬ y < x := by omega
    go_ret
    refine ⟨?_, rfl⟩
    rw [cmp1_eq h h2]
    rfl
set_option maxRecDepth 1000000 in
set_option maxHeartbeats 4000000 in
theorem cmp44 (b1 o1 c1 b2 o2 c2 : Nat) (xs ys : List Int) (w : World) (hx : ∀ j (h : j < xs.length), w.cell? ⟨b1, o1 + j, none⟩ = some (.int .i64 xs[j])) (hy : ∀ j (h : j < ys.length), w.cell? ⟨b2, o2 + j, none⟩ = some (.int .i64 ys[j]))
    (hl1 : xs.length ≤ lim) (hl2 : ys.length ≤ lim) : Calls Tryz.prog 113 #[.slice (some ⟨b1, o1, none⟩) xs.length c1, .slice (some ⟨b2, o2, none⟩) ys.length c2] w fun e w' => e = .returned (.int .i64 (cmpL xs ys)) ∧ w' = w := by
  have hn1 : xs.length ≤ 1099511627776 := hl1
  have hn2 : ys.length ≤ 1099511627776 := hl2
  go_enter Tryz.func113, Tryz.ntmps113
  go_wp2
  go_loop [11] (fun i => ∃ k : Nat, k ≤ xs.length ∧ k ≤ ys.length ∧ i = .int .i64 k ∧ cmpL xs ys = cmpL (xs.drop k) (ys.drop k)) (fun i => match i with | .int _ m => xs.length - m.toNat | _ => 0)
  case atStart => exact ⟨0, Nat.zero_le _, Nat.zero_le _, rfl, rfl⟩
  case round =>
    obtain ⟨k, hk1, hk2, rfl, hrel⟩ := hrel
    by_cases hkx : k < xs.length
    · by_cases hky : k < ys.length
      · obtain ⟨x, hxe⟩ : ∃ x, x = xs[k] := ⟨_, rfl⟩
        obtain ⟨y, hye⟩ : ∃ y, y = ys[k] := ⟨_, rfl⟩
        have hcx : w.cell? ⟨b1, o1 + k, none⟩ = some (.int .i64 x) := by rw [hx k hkx, hxe]
        have hcy : w.cell? ⟨b2, o2 + k, none⟩ = some (.int .i64 y) := by rw [hy k hky, hye]
        have hdx : xs.drop k = x :: xs.drop (k + 1) := by rw [List.drop_eq_getElem_cons hkx, hxe]
        have hdy : ys.drop k = y :: ys.drop (k + 1) := by rw [List.drop_eq_getElem_cons hky, hye]
        have hstep : cmpL xs ys = if x < y then -1 else if y < x then 1 else cmpL (xs.drop (k + 1)) (ys.drop (k + 1)) := by rw [hrel, hdx, hdy]; rfl
        clear hx hy hxe hye hrel hdx hdy
        go_wp2_with (go_at_call 130; refine (cmp65 _ _ _).mono ?_; rintro e w' ⟨rfl, rfl⟩)
        · have hne : cmp1 x y ≠ 0 := by
            have h : (cmp1 x y != 0) = true := by assumption
            simpa using h
          have he : cmpL xs ys = cmp1 x y := by
            rw [hstep]
            unfold cmp1 at hne ⊢
            by_cases c1 : x < y
            · rw [if_pos c1, if_pos c1]
            · by_cases c2 : y < x
              · rw [if_neg c1, if_neg c1, if_pos c2, if_pos c2]
              · rw [if_neg c1, if_neg c2] at hne
                exact absurd rfl hne
          go_ret
          refine ⟨?_, rfl⟩
          rw [he]
          rfl
        · have hz : cmp1 x y = 0 := by
            have h : (cmp1 x y != 0) = false := by assumption
            simpa using h
          have he : cmpL xs ys = cmpL (xs.drop (k + 1)) (ys.drop (k + 1)) := by
            rw [hstep]
            unfold cmp1 at hz
            by_cases c1 : x < y
            · rw [if_pos c1] at hz; cases hz
            · by_cases c2 : y < x
              · rw [if_neg c1, if_pos c2] at hz; cases hz
              · rw [if_neg c1, if_neg c2]
          refine ⟨⟨k + 1, by omega, by omega, rfl, he⟩, ?_⟩
          show xs.length - ((k : Int) + 1).toNat < xs.length - (k : Int).toNat
          omega
      · have hdx : xs.drop k = xs[k] :: xs.drop (k + 1) := List.drop_eq_getElem_cons hkx
        have hdy : ys.drop k = [] := List.drop_of_length_le (by omega)
        have he : cmpL xs ys = 1 := by rw [hrel, hdx, hdy]; rfl
        have hcx : w.cell? ⟨b1, o1 + k, none⟩ = some (.int .i64 xs[k]) := hx k hkx
        clear hx hy hrel hdx hdy
        go_wp2
        go_ret
        refine ⟨?_, rfl⟩
        rfl
    · have hdx : xs.drop k = [] := List.drop_of_length_le (by omega)
      have he : cmpL xs ys = if xs.length < ys.length then -1 else 0 := by
        rw [hrel, hdx]
        by_cases h : k < ys.length
        · rw [List.drop_eq_getElem_cons h, if_pos (by omega)]
          rfl
        · rw [List.drop_of_length_le (by omega), if_neg (by omega)]
          rfl
      clear hx hy hrel hdx
      go_wp2
      · have h : xs.length < ys.length := by assumption
        go_ret
        refine ⟨?_, rfl⟩
        rfl
      · have h : ¬ xs.length < ys.length := by assumption
        go_ret
        refine ⟨?_, rfl⟩
        rfl
set_option maxRecDepth 1000000 in
set_option maxHeartbeats 4000000 in
theorem cmp44_nil1 (a1 a2 : Option Addr) (c1 m c2 : Nat) (w : World) (hm : m ≤ lim) : Calls Tryz.prog 113 #[.slice a1 0 c1, .slice a2 m c2] w fun e w' => e = .returned (.int .i64 (if 0 < m then -1 else 0)) ∧ w' = w := by
  have hn : m ≤ 1099511627776 := hm
  go_enter Tryz.func113, Tryz.ntmps113
  go_wp2
  go_loop [11] (fun i => i = .int .i64 0) (fun _ => 0)
  case atStart => rfl
  case round =>
    subst hrel
    go_wp2
    · have h : 0 < m := by assumption
      go_ret
      refine ⟨?_, rfl⟩
      first | rfl | (rw [if_pos h]; rfl)
    · go_ret
      refine ⟨?_, rfl⟩
      first | rfl | (rw [if_neg (by omega)]; rfl)
set_option maxRecDepth 1000000 in
set_option maxHeartbeats 4000000 in
theorem cmp44_nil2 (b1 o1 n c1 : Nat) (a2 : Option Addr) (c2 : Nat) (x : Int) (w : World) (h0 : 0 < n) (hn : n ≤ 1099511627776) (hx : w.cell? ⟨b1, o1, none⟩ = some (.int .i64 x)) : Calls Tryz.prog 113 #[.slice (some ⟨b1, o1, none⟩) n c1, .slice a2 0 c2] w fun e w' => e = .returned (.int .i64 1) ∧ w' = w := by
  go_enter Tryz.func113, Tryz.ntmps113
  go_wp2
  go_loop [11] (fun i => i = .int .i64 0) (fun _ => 0)
  case atStart => rfl
  case round =>
    subst hrel
    go_wp2
    all_goals (go_ret; exact ⟨rfl, rfl⟩)
theorem cmpL_nil (ys : List Int) : (if 0 < ys.length then (-1 : Int) else 0) = cmpL [] ys := by cases ys <;> rfl
theorem cmpH {w : World} {v1 v2 : Value} {xs ys : List Int} (h1 : Hdr w v1 xs) (h2 : Hdr w v2 ys) (l1 : xs.length ≤ lim) (l2 : ys.length ≤ lim) : Calls Tryz.prog 113 #[v1, v2] w fun e w' => e = .returned (.int .i64 (cmpL xs ys)) ∧ w' = w := by
  rcases h1 with ⟨a1, rfl, rfl⟩ | ⟨b1, o1, c1, rfl, hx⟩
  · rcases h2 with ⟨a2, rfl, rfl⟩ | ⟨b2, o2, c2, rfl, hy⟩
    · exact cmp44_nil1 a1 a2 0 0 0 w (Nat.zero_le _)
    · rw [← cmpL_nil]
      exact cmp44_nil1 a1 (some ⟨b2, o2, none⟩) 0 ys.length c2 w l2
  · rcases h2 with ⟨a2, rfl, rfl⟩ | ⟨b2, o2, c2, rfl, hy⟩
    · cases xs with
      | nil => exact cmp44_nil1 (some ⟨b1, o1, none⟩) a2 c1 0 0 w (Nat.zero_le _)
      | cons x xs =>
        have l1' : (x :: xs).length ≤ 1099511627776 := l1
        exact cmp44_nil2 b1 o1 (x :: xs).length c1 a2 0 x w (by simp) l1' (hx 0 (by simp))
    · exact cmp44 b1 o1 c1 b2 o2 c2 xs ys w hx hy l1 l2
end Go.V.W
set_option linter.unusedVariables false
set_option linter.unusedSimpArgs false
namespace Go.V.W
open Go.Proofs Go.RowKit Go.Shelf Go.Lib Go.Sort
set_option maxRecDepth 1000000 in
set_option maxHeartbeats 4000000 in
theorem eq49 (b1 o1 c1 b2 o2 c2 : Nat) (xs ys : List Int) (n : Nat) (w : World) (hx : ∀ j (h : j < xs.length), w.cell? ⟨b1, o1 + j, none⟩ = some (.int .i64 xs[j])) (hy : ∀ j (h : j < ys.length), w.cell? ⟨b2, o2 + j, none⟩ = some (.int .i64 ys[j]))
    (hn : n ≤ 1099511627776) (h1 : Aside (xs.length = n)) (h2 : Aside (ys.length = n)) : Calls Tryz.prog 92 #[.slice (some ⟨b1, o1, none⟩) n c1, .slice (some ⟨b2, o2, none⟩) n c2] w fun e w' => e = .returned (.bool (decide (xs = ys))) ∧ ∃ q, w' = w.drewN q := by
  have mixed : Tryz.prog.follows .mixedOrders = true := by kernel_rfl
  have HX : Aside _ := hx
  have HY : Aside _ := hy
  clear hx hy
  go_enter Tryz.func92, Tryz.ntmps92
  go_wp2
  go_loopg [13] n (fun g s13 wr => ∃ k q : Nat, k ≤ n ∧ n - k ≤ g ∧ s13 = .int .i64 k ∧ wr = w.drewN q ∧ Aside (decide (xs = ys) = decide (xs.drop k = ys.drop k)))
  case atStart => exact ⟨0, 0, Nat.zero_le _, by omega, rfl, rfl, rfl⟩
  case round =>
    obtain ⟨k, q, hk1, hg, rfl, rfl, hrel⟩ := hrel
    by_cases hkx : k < n
    · have hkx' : k < xs.length := by rw [h1.out]; exact hkx
      have hky' : k < ys.length := by rw [h2.out]; exact hkx
      obtain ⟨x, hxe⟩ : ∃ x, x = xs[k] := ⟨_, rfl⟩
      obtain ⟨y, hye⟩ : ∃ y, y = ys[k] := ⟨_, rfl⟩
      have hcx : w.cell? ⟨b1, o1 + k, none⟩ = some (.int .i64 x) := by rw [HX.out k hkx', hxe]
      have hcy : w.cell? ⟨b2, o2 + k, none⟩ = some (.int .i64 y) := by rw [HY.out k hky', hye]
      have hdx : xs.drop k = x :: xs.drop (k + 1) := by rw [List.drop_eq_getElem_cons hkx', hxe]
      have hdy : ys.drop k = y :: ys.drop (k + 1) := by rw [List.drop_eq_getElem_cons hky', hye]
      have hstep : Aside (decide (xs = ys) = (decide (x = y) && decide (xs.drop (k + 1) = ys.drop (k + 1)))) := by
        show _ = _
        rw [hrel.out, hdx, hdy]
        rw [Bool.eq_iff_iff]
        simp
      clear hkx' hky' hxe hye hrel hdx hdy
      by_cases hxy : x = y
      · subst hxy
        have he : Aside (decide (xs = ys) = decide (xs.drop (k + 1) = ys.drop (k + 1))) := by
          show _ = _
          rw [hstep.out]; simp
        clear hstep
        go_wp2_with fail
        go_region_o
        go_wp2
        go_roundg (n - (k + 1))
        case measure => omega
        case rel => exact ⟨k + 1, q + 1, by omega, Nat.le_refl _, by go_num, rfl, he⟩
      · have he : Aside (decide (xs = ys) = false) := by
          show _ = _
          rw [hstep.out]; simp [hxy]
        clear hstep
        go_wp2_with fail
        go_region_o
        go_wp2
        go_ret
        exact ⟨by rw [he.out]; rfl, q + 1, rfl⟩
    · have he : Aside (decide (xs = ys) = true) := by
        show _ = _
        rw [hrel.out, List.drop_of_length_le (by rw [h1.out]; omega), List.drop_of_length_le (by rw [h2.out]; omega)]
        simp
      clear hrel
      go_wp2
      go_ret
      exact ⟨by rw [he.out]; rfl, q, rfl⟩
set_option maxRecDepth 1000000 in
theorem eq49_len (a1 a2 : Option Addr) (m n c1 c2 : Nat) (w : World) (h : ¬ (m : Int) = n) (hm : m ≤ 1099511627776) (hn : n ≤ 1099511627776) : Calls Tryz.prog 92 #[.slice a1 m c1, .slice a2 n c2] w fun e w' => e = .returned (.bool false) ∧ ∃ q, w' = w.drewN q := by
  go_enter Tryz.func92, Tryz.ntmps92
  go_wp2
  go_ret
  exact ⟨rfl, 0, rfl⟩
set_option maxRecDepth 1000000 in
theorem eq49_zero (a1 a2 : Option Addr) (c1 c2 : Nat) (w : World) : Calls Tryz.prog 92 #[.slice a1 0 c1, .slice a2 0 c2] w fun e w' => e = .returned (.bool true) ∧ ∃ q, w' = w.drewN q := by
  go_enter Tryz.func92, Tryz.ntmps92
  go_wp2
  go_loopg [13] 0 (fun g s13 wr => s13 = .int .i64 0 ∧ wr = w)
  case atStart => exact ⟨rfl, rfl⟩
  case round =>
    obtain ⟨rfl, rfl⟩ := hrel
    go_wp2
    go_ret
    exact ⟨rfl, 0, rfl⟩
theorem eqH {w : World} {v1 v2 : Value} {xs ys : List Int} (h1 : Hdr w v1 xs) (h2 : Hdr w v2 ys) (l1 : xs.length ≤ lim) (l2 : ys.length ≤ lim) : Calls Tryz.prog 92 #[v1, v2] w fun e w' => e = .returned (.bool (decide (xs = ys))) ∧ ∃ q, w' = w.drewN q := by
  have l1' : xs.length ≤ 1099511627776 := l1
  have l2' : ys.length ≤ 1099511627776 := l2
  obtain ⟨a1, c1, e1⟩ : ∃ a c, v1 = .slice a xs.length c := by
    rcases h1 with ⟨a, rfl, rfl⟩ | ⟨b, off, cap, rfl, _⟩
    · exact ⟨a, 0, rfl⟩
    · exact ⟨_, cap, rfl⟩
  obtain ⟨a2, c2, e2⟩ : ∃ a c, v2 = .slice a ys.length c := by
    rcases h2 with ⟨a, rfl, rfl⟩ | ⟨b, off, cap, rfl, _⟩
    · exact ⟨a, 0, rfl⟩
    · exact ⟨_, cap, rfl⟩
  by_cases hne : xs.length = ys.length
  · by_cases h0 : xs.length = 0
    · have hx : xs = [] := List.length_eq_zero_iff.1 h0
      have hy : ys = [] := List.length_eq_zero_iff.1 (by omega)
      subst hx hy
      rw [e1, e2]
      exact eq49_zero a1 a2 c1 c2 w
    · rcases h1 with ⟨a, _, hx⟩ | ⟨b, off, cap, rfl, hx⟩
      · rw [hx] at h0; exact absurd rfl h0
      · rcases h2 with ⟨a, _, hy⟩ | ⟨b', off', cap', rfl, hy⟩
        · rw [hy] at hne; exact absurd hne h0
        · have := eq49 b off cap b' off' cap' xs ys xs.length w hx hy l1' rfl hne.symm
          rw [hne] at this ⊢
          exact this
  · rw [e1, e2]
    have : decide (xs = ys) = false := decide_eq_false fun e => hne (by rw [e])
    rw [this]
    exact eq49_len a1 a2 _ _ c1 c2 w (by omega) l1' l2'
end Go.V.W
set_option linter.unusedVariables false
set_option linter.unusedSimpArgs false
namespace Go.V.W
open Go.Proofs Go.RowKit Go.Shelf Go.Lib Go.Sort
/-- The places that stay, of the first m. -/
def kpB (key : Nat → List Int) (j : Nat) : Bool := j == 0 || !decide (key j = key (j - 1))
def keepI (key : Nat → List Int) (m : Nat) : List Nat := (List.range m).filter (kpB key)
theorem keepI_succ (key : Nat → List Int) (m : Nat) : keepI key (m + 1) = if kpB key m = true then keepI key m ++ [m] else keepI key m := by
  unfold keepI
  rw [List.range_succ, List.filter_append]
  cases h : kpB key m <;> simp [h]
theorem keepI_all {key : Nat → List Int} : ∀ {m : Nat}, (∀ j, j < m → kpB key j = true) → keepI key m = List.range m := by
  intro m h
  unfold keepI
  exact List.filter_eq_self.2 fun j hj => h j (List.mem_range.1 hj)
theorem keepI_le (key : Nat → List Int) (m : Nat) : (keepI key m).length ≤ m := by
  have := List.length_filter_le (kpB key) (List.range m)
  rw [List.length_range] at this
  exact this
structure CInv (key : Nat → List Int) (n m k : Nat) (dk : Array Nat) : Prop where
  size : dk.size = n
  len : (keepI key m).length = k
  lt : k < m
  low : ∀ j, j < k → (keepI key m)[j]? = some dk[j]!
  high : ∀ j, k ≤ j → j < n → dk[j]! = j
theorem range_get {n j : Nat} (h : j < n) : (Array.range n)[j]! = j := by
  rw [getElem!_pos (Array.range n) j (by simpa using h)]
  simp
theorem CInv.start {key : Nat → List Int} {n k0 : Nat} (hk : k0 < n) (hall : ∀ j, j < k0 → kpB key j = true) (hdup : kpB key k0 = false) : CInv key n (k0 + 1) k0 (Array.range n) := by
  have e : keepI key (k0 + 1) = List.range k0 := by rw [keepI_succ, hdup, keepI_all hall]; rfl
  refine ⟨by simp, by rw [e]; simp, Nat.lt_succ_self _, fun j hj => ?_, fun j _ hj => range_get hj⟩
  rw [e, range_get (by omega)]
  simp [hj]
theorem CInv.keep {key : Nat → List Int} {n m k : Nat} {dk : Array Nat} (h : CInv key n m k dk) (hm : m < n) (hk : kpB key m = true) : CInv key n (m + 1) (k + 1) (dk.setIfInBounds k m) := by
  have hs := h.size
  have hl := h.len
  have hlt := h.lt
  have hs2 : (dk.setIfInBounds k m).size = n := by simp [hs]
  have e : keepI key (m + 1) = keepI key m ++ [m] := by rw [keepI_succ, hk]; rfl
  refine ⟨by simp [hs], by rw [e]; simp [hl], by omega, fun j hj => ?_, fun j h1 h2 => ?_⟩
  · rw [e]
    by_cases hj2 : j < k
    · rw [List.getElem?_append_left (by omega), h.low j hj2]
      rw [getElem!_pos (dk.setIfInBounds k m) j (by omega), getElem!_pos dk j (by omega), Array.getElem_setIfInBounds (by omega), if_neg (by omega)]
    · have : j = k := by omega
      subst this
      rw [List.getElem?_append_right (by omega), hl, Nat.sub_self]
      rw [getElem!_pos (dk.setIfInBounds j m) j (by omega), Array.getElem_setIfInBounds (by omega), if_pos rfl]
      rfl
  · rw [getElem!_pos (dk.setIfInBounds k m) j (by omega), Array.getElem_setIfInBounds (by omega), if_neg (by omega), ← getElem!_pos dk j (by omega)]
    exact h.high j (by omega) h2
theorem CInv.skip {key : Nat → List Int} {n m k : Nat} {dk : Array Nat} (h : CInv key n m k dk) (hk : kpB key m = false) : CInv key n (m + 1) k dk := by
  have e : keepI key (m + 1) = keepI key m := by rw [keepI_succ, hk]; rfl
  have := h.lt
  exact ⟨h.size, by rw [e]; exact h.len, by omega, by rw [e]; exact h.low, h.high⟩
end Go.V.W
set_option linter.unusedVariables false
set_option linter.unusedSimpArgs false
namespace Go.V.W
open Go.Proofs Go.RowKit Go.Shelf Go.Lib Go.Sort
theorem CInv.done {key : Nat → List Int} {n k : Nat} {dk : Array Nat} (h : CInv key n n k dk) (z : Nat) : lay dk k (List.replicate (n - k) z) = (keepI key n ++ List.replicate (n - k) z).toArray := by
  have hk := h.lt
  have hs := h.size
  have hl := h.len
  apply Array.ext_getElem?
  intro i
  rw [lay_get? _ _ _ _ (by simp; omega)]
  simp only [List.length_replicate, List.getElem?_toArray]
  by_cases h1 : i < k
  · rw [if_neg (by omega), List.getElem?_append_left (by omega), h.low i h1, getElem!_pos dk i (by omega)]
    exact Array.getElem?_eq_getElem (by omega)
  · rw [List.getElem?_append_right (by omega), hl]
    by_cases h2 : i < n
    · rw [if_pos (by omega)]
    · rw [if_neg (by omega), Array.getElem?_eq_none (by omega), List.getElem?_eq_none (by simp; omega)]
theorem kp_one (key : Nat → List Int) : ∀ j, j < 1 → kpB key j = true := fun j hj => by
  have : j = 0 := by omega
  subst this
  rfl
set_option maxHeartbeats 8000000 in
set_option maxRecDepth 1000000 in
theorem compact74 (enc : Nat → Value) (key : Nat → List Int) (blk off cap n : Nat) (w : World) (henc : Aside (∀ i, ∃ a l c, enc i = .slice a l c)) (hz : Aside (enc n = .slice none 0 0))
    (hH : Go.Sort.Holds enc w blk off (Array.range n)) (hn : n ≤ 1099511627776) (hcap : n ≤ cap) (h2 : 2 ≤ n)
    (heq : Aside (∀ (q : Nat) (dk : Array Nat), dk.size = n → ∀ i j, i < n → j < n → Calls Tryz.prog 92 #[enc i, enc j] (putRow enc (Sort.ahead w q) blk off dk) fun e w' => e = .returned (.bool (decide (key i = key j))) ∧ ∃ q', w' = (putRow enc (Sort.ahead w q) blk off dk).drewN q')) :
    Calls Tryz.prog 123 #[.slice (some ⟨blk, off, none⟩) n cap, .func (.func 92) #[] #[]] w fun e w' => e = .returned (.slice (some ⟨blk, off, none⟩) (keepI key n).length cap) ∧ ∃ q, w' = putRow enc (Sort.ahead w q) blk off (keepI key n ++ List.replicate (n - (keepI key n).length) n).toArray := by
  have mixed : Tryz.prog.follows .mixedOrders = true := by kernel_rfl
  have hsr : (Array.range n).size = n := by simp
  have HH : Aside (Go.Sort.Holds enc w blk off (Array.range n)) := hH
  have e49 : ∀ (args : Array Value) (w : World), (callFunc 92 args).run Tryz.prog w = .ok (.enter 92 args) w := enters_of Tryz.func92 (by kernel_rfl) rfl
  clear hH
  go_enter Tryz.func123, Tryz.ntmps123
  go_wp2
  go_loopg [5] n (fun g s5 wr => ∃ k q : Nat, 1 ≤ k ∧ k ≤ n ∧ n - k ≤ g ∧ s5 = .int .i64 k ∧ wr = w.drewN q ∧ Aside (∀ j, j < k → kpB key j = true))
  case atStart => exact ⟨1, 0, Nat.le_refl _, by omega, by omega, rfl, rfl, kp_one key⟩
  case round =>
    obtain ⟨k, q, hk1, hk, hg, rfl, hwr, A⟩ := hrel
    have HW : Aside (wr = w.drewN q) := hwr
    clear hwr
    by_cases hlt : k < n
    · obtain ⟨a1, l1, c1, ek⟩ := henc.out k
      obtain ⟨a0, l0, c0, ek0⟩ := henc.out (k - 1)
      obtain ⟨kp, hkp⟩ : ∃ p, p + 1 = k := ⟨k - 1, by omega⟩
      obtain ⟨iN, hiN⟩ : ∃ p, p = k := ⟨_, rfl⟩
      obtain ⟨jN, hjN⟩ : ∃ p, p = k - 1 := ⟨_, rfl⟩
      have zk : (k : Int) = (kp : Int) + 1 := by omega
      have ea : ((kp : Int) + 1).toNat = iN := by omega
      have pa : (0 : Int) ≤ (kp : Int) + 1 := by omega
      have ba : (kp : Int) + 1 < (n : Int) := by omega
      have ra : IntKind.i64.wrap ((kp : Int) + 1) = (kp : Int) + 1 := by rw [IntKind.wrap_i64]; omega
      have ec : ((kp : Int)).toNat = jN := by omega
      have pc : (0 : Int) ≤ (kp : Int) := by omega
      have bc : (kp : Int) < (n : Int) := by omega
      have rc : IntKind.i64.wrap ((kp : Int)) = (kp : Int) := by rw [IntKind.wrap_i64]; omega
      have hc1 : wr.cell? ⟨blk, off + iN, none⟩ = some (.slice a1 l1 c1) := by
        have := (HH.out k (by rw [hsr]; exact hlt)).1
        rw [range_get hlt, ek] at this
        rw [hiN, HW.out]
        exact this
      have hc0 : wr.cell? ⟨blk, off + jN, none⟩ = some (.slice a0 l0 c0) := by
        have := (HH.out (k - 1) (by rw [hsr]; omega)).1
        rw [range_get (by omega), ek0] at this
        rw [hjN, HW.out]
        exact this
      have hcall : ∀ m, Calls Tryz.prog 92 #[.slice a1 l1 c1, .slice a0 l0 c0] (wr.drewN m) fun e w' => e = .returned (.bool (decide (key k = key (k - 1)))) ∧ ∃ q', w' = (wr.drewN m).drewN q' := fun m => by
        have := heq.out (q + m) (Array.range n) hsr k (k - 1) hlt (by omega)
        rw [putRow_self enc (Sort.ahead w (q + m)) blk off _ (holds_ahead enc w (q + m) blk off _ HH.out), ek, ek0] at this
        rw [HW.out, World.drewN_drewN]
        exact this
      by_cases hdup : key k = key (k - 1)
      · have hb : decide (key k = key (k - 1)) = true := decide_eq_true hdup
        rw [hb] at hcall
        have D : Aside (kpB key k = false) := by
          show _ = _
          unfold kpB
          have : (k == 0) = false := by simp; omega
          rw [this, hb]; rfl
        have IN : Aside (iN = k) := hiN
        clear hdup hb ek ek0 hiN hjN
        go_wp2_with fail
        go_quiet_o (first | (go_at_fn 92; refine Calls.quiet_of (hcall _)))
        clear hcall hc1 hc0
        go_wp2
        go_loopg [5, 7] n (fun g s5 s7 w2 => ∃ (kk k2 q2 : Nat) (dk : Array Nat), s5 = .int .i64 kk ∧ s7 = .int .i64 k2 ∧ 1 ≤ k2 ∧ k + k2 ≤ n ∧ n - (k + k2) ≤ g ∧ Aside (w2 = putRow enc (Sort.ahead w q2) blk off dk) ∧ Aside (CInv key n (k + k2) kk dk))
        case atStart =>
          refine ⟨k, 1, q + nq, Array.range n, by rw [zk], rfl, Nat.le_refl _, by omega, by omega, ?_, CInv.start hlt A.out D.out⟩
          show _ = _
          rw [HW.out, World.drewN_drewN]
          exact (putRow_self enc (Sort.ahead w (q + nq)) blk off _ (holds_ahead enc w (q + nq) blk off _ HH.out)).symm
        case round =>
          obtain ⟨kk, k2, q2, dk, rfl, rfl, h1, hle, hg2, W2, I2⟩ := hrel
          have hkk := I2.out.lt
          have hds := I2.out.size
          have HK : Aside (Go.Sort.Holds enc wr blk off dk) := by
            show Go.Sort.Holds _ _ _ _ _
            rw [W2.out]
            exact holds_putRow enc _ blk off _ dk (holds_ahead enc w q2 blk off _ HH.out) (by rw [hds, hsr])
          clear ea pa ba ra ec pc bc rc
          by_cases hlt2 : k + k2 < n
          · obtain ⟨a1, l1, c1, ek⟩ := henc.out (k + k2)
            obtain ⟨a0, l0, c0, ek0⟩ := henc.out (k + k2 - 1)
            obtain ⟨old, hold⟩ : ∃ v, v = enc dk[kk]! := ⟨_, rfl⟩
            obtain ⟨p2, hp2⟩ : ∃ p, p + 1 = k2 := ⟨k2 - 1, by omega⟩
            obtain ⟨iM, hiM⟩ : ∃ p, p = k2 := ⟨_, rfl⟩
            obtain ⟨jM, hjM⟩ : ∃ p, p = k2 - 1 := ⟨_, rfl⟩
            have zk2 : (k2 : Int) = (p2 : Int) + 1 := by omega
            have ea : ((p2 : Int) + 1).toNat = iM := by omega
            have pa : (0 : Int) ≤ (p2 : Int) + 1 := by omega
            have ra : IntKind.i64.wrap ((p2 : Int) + 1) = (p2 : Int) + 1 := by rw [IntKind.wrap_i64]; omega
            have ec : ((p2 : Int)).toNat = jM := by omega
            have pc : (0 : Int) ≤ (p2 : Int) := by omega
            have rc : IntKind.i64.wrap ((p2 : Int)) = (p2 : Int) := by rw [IntKind.wrap_i64]; omega
            have ba : (p2 : Int) + 1 < ((n - iN : Nat) : Int) := by have := IN.out; omega
            have bc : (p2 : Int) < ((n - iN : Nat) : Int) := by have := IN.out; omega
            have hc1 : wr.cell? ⟨blk, off + iN + iM, none⟩ = some (.slice a1 l1 c1) := by
              have := (HK.out (k + k2) (by omega)).1
              rw [I2.out.high (k + k2) (by omega) hlt2, ek] at this
              rw [hiM, IN.out, Nat.add_assoc]
              exact this
            have hc0 : wr.cell? ⟨blk, off + iN + jM, none⟩ = some (.slice a0 l0 c0) := by
              have := (HK.out (k + k2 - 1) (by omega)).1
              rw [I2.out.high (k + k2 - 1) (by omega) (by omega), ek0] at this
              rw [hjM, IN.out, show off + k + (k2 - 1) = off + (k + k2 - 1) by omega]
              exact this
            have hck : wr.cell? ⟨blk, off + kk, none⟩ = some old := by
              rw [hold]
              exact (HK.out kk (by omega)).1
            have hfk : wr.frozen? ⟨blk, off + kk, none⟩ = false := (HK.out kk (by omega)).2
            have hcall : ∀ m, Calls Tryz.prog 92 #[.slice a1 l1 c1, .slice a0 l0 c0] (wr.drewN m) fun e w' => e = .returned (.bool (decide (key (k + k2) = key (k + k2 - 1)))) ∧ ∃ q', w' = (wr.drewN m).drewN q' := fun m => by
              have := heq.out (q2 + m) dk hds (k + k2) (k + k2 - 1) hlt2 (by omega)
              have e : wr.drewN m = putRow enc (Sort.ahead w (q2 + m)) blk off dk := by rw [W2.out]; exact putRow_drewN _ _ _ _ _ _ _
              rw [ek, ek0, ← e] at this
              exact this
            have IM : Aside (iM = k2) := hiM
            have EK : Aside (enc (k + k2) = .slice a1 l1 c1) := ek
            by_cases hdup : key (k + k2) = key (k + k2 - 1)
            · have hb : decide (key (k + k2) = key (k + k2 - 1)) = true := decide_eq_true hdup
              rw [hb] at hcall
              have D2 : Aside (kpB key (k + k2) = false) := by
                show _ = _
                unfold kpB
                have : (k + k2 == 0) = false := by simp; omega
                rw [this, hb]; rfl
              clear hdup hb ek ek0 hiM hjM hold
              go_wp2_with fail
              go_quiet_o (first | (go_at_fn 92; refine Calls.quiet_of (hcall _)))
              clear hcall hc1 hc0
              go_wp2
              go_roundg (n - (k + (k2 + 1)))
              case measure => omega
              case rel => exact ⟨kk, k2 + 1, q2 + nq, dk, rfl, by congr 1; omega, by omega, by omega, Nat.le_refl _, (by show _ = _; rw [W2.out]; exact putRow_drewN _ _ _ _ _ _ _), I2.out.skip D2.out⟩
            · have hb : decide (key (k + k2) = key (k + k2 - 1)) = false := decide_eq_false hdup
              rw [hb] at hcall
              have D2 : Aside (kpB key (k + k2) = true) := by
                show _ = _
                unfold kpB
                rw [hb]; simp
              clear hdup hb ek ek0 hiM hjM hold
              go_wp2_with fail
              go_quiet_o (first | (go_at_fn 92; refine Calls.quiet_of (hcall _)))
              clear hcall
              go_wp2
              go_roundg (n - (k + (k2 + 1)))
              case measure => omega
              case rel =>
                refine ⟨kk + 1, k2 + 1, q2 + nq, dk.setIfInBounds kk (k + k2), by first | rfl | (congr 1; omega), by first | rfl | (congr 1; omega), by omega, by omega, Nat.le_refl _, ?_, I2.out.keep hlt2 D2.out⟩
                show _ = _
                rw [← putRow_set enc _ blk off dk kk (k + k2) (by omega), EK.out, ← putRow_drewN, ← W2.out]
          · have hend : k + k2 = n := by omega
            have hcl : ∀ ty, (Builtin.clear_ #[25] ty #[.slice (some ⟨blk, off + kk, none⟩) (n - kk) (cap - kk)]).run Tryz.prog wr = .ok (.tuple #[]) (wr.setCells blk (off + kk) (List.replicate (n - kk) (enc n))) := fun ty => by
              rw [hz.out]
              exact Lib.run_clear_slice wr 25 37 ty _ Tryz.underlying25 (fun w => by rfl) rfl rfl blk (off + kk) _ _ (by omega) (fun j hj => by rw [show off + kk + j = off + (kk + j) by omega, (HK.out (kk + j) (by omega)).1]; rfl) (fun j hj => by rw [show off + kk + j = off + (kk + j) by omega]; exact (HK.out (kk + j) (by omega)).2)
            have hge : ¬ k2 < n - iN := by have := IN.out; omega
            have hge2 : ¬ (k2 : Int) < ((n - iN : Nat) : Int) := by omega
            go_wp2
            go_ret
            have hI := I2.out
            rw [hend] at hI
            refine ⟨by rw [hI.len]; rfl, q2, ?_⟩
            rw [hI.len, ← hI.done n, ← putRow_setCells enc _ blk off _ dk kk (by simp; omega), ← W2.out, List.map_replicate]
      · have hb : decide (key k = key (k - 1)) = false := decide_eq_false hdup
        rw [hb] at hcall
        have D : Aside (kpB key k = true) := by
          show _ = _
          unfold kpB
          rw [hb]; simp
        clear hdup hb ek ek0 hiN hjN
        go_wp2_with fail
        go_quiet_o (first | (go_at_fn 92; refine Calls.quiet_of (hcall _)))
        clear hcall hc1 hc0
        go_wp2
        go_roundg (n - (k + 1))
        case measure => omega
        case rel =>
          refine ⟨k + 1, q + nq, by omega, by omega, Nat.le_refl _, by congr 1; omega, by rw [HW.out, World.drewN_drewN], fun j hj => ?_⟩
          by_cases e : j = k
          · subst e
            exact D.out
          · exact A.out j (by omega)
    · have : k = n := by omega
      subst this
      go_wp2
      go_ret
      have e := keepI_all A.out
      have el : (keepI key k).length = k := by rw [e]; simp
      refine ⟨by rw [el]; rfl, q, ?_⟩
      rw [el, e, Nat.sub_self, List.replicate_zero, List.append_nil, HW.out]
      have e2 : (List.range k).toArray = Array.range k := by simp
      rw [e2]
      exact (putRow_self enc (Sort.ahead w q) blk off _ (holds_ahead enc w q blk off _ HH.out)).symm
set_option maxRecDepth 1000000 in
theorem compact74_small (p : Option Addr) (n cap : Nat) (fv : Value) (w : World) (h : n < 2) : Calls Tryz.prog 123 #[.slice p n cap, fv] w fun e w' => e = .returned (.slice p n cap) ∧ w' = w := by
  have hn : (n : Int) < 2 := by omega
  go_enter Tryz.func123, Tryz.ntmps123
  go_wp2
  go_ret
  exact ⟨rfl, rfl⟩
end Go.V.W
set_option linter.unusedVariables false
set_option linter.unusedSimpArgs false
namespace Go.V.W
open Go.RowKit Go.Proofs Go.Lib
open Go.Sort (grow putRow mapBlock putCells onCells)
/-- Runs of equal lists, cut to one. -/
def keyL (xss : List (List Int)) (j : Nat) : List Int := xss.getD j []
def compL (xss : List (List Int)) : List (List Int) := (keepI (keyL xss) xss.length).map (keyL xss)
def G_compactF (d : List (List Int) × (Unit × Unit) × Unit) : Option (List (List Int) × List (List Int) × Unit) := if okLL d.1 = true then some (compL d.1, d.1, ()) else none
theorem compL_short {xss : List (List Int)} (h : xss.length < 2) : compL xss = xss := by
  match xss, h with
  | [], _ => rfl
  | [x], _ => rfl
theorem keepI_pair (key : Nat → List Int) (n : Nat) : (keepI key n).Pairwise (· ≠ ·) := by
  unfold keepI
  exact List.Pairwise.filter _ (List.Pairwise.imp (fun h => by omega) List.pairwise_lt_range)
open Classical in
noncomputable def keptAt (l : List Nat) (j : Nat) : Option Nat := if h : ∃ i, ∃ hi : i < l.length, l[i] = j then some h.choose else none
theorem keptAt_get {l : List Nat} (hp : l.Pairwise (· ≠ ·)) {i : Nat} (hi : i < l.length) : keptAt l l[i] = some i := by
  have h : ∃ k, ∃ hk : k < l.length, l[k] = l[i] := ⟨i, hi, rfl⟩
  unfold keptAt
  rw [dif_pos h]
  obtain ⟨h1, h2⟩ := h.choose_spec
  congr 1
  rw [List.pairwise_iff_getElem] at hp
  rcases Nat.lt_trichotomy h.choose i with h' | h' | h'
  · exact absurd h2 (hp _ _ h1 hi h')
  · exact h'
  · exact absurd h2.symm (hp _ _ hi h1 h')
noncomputable def compLab (l : List Nat) : Nat × Path → Option Lab
  | (0, []) => some (.res [.l])
  | (0, [.i j]) => (keptAt l j).map fun i => .res [.l, .i i]
  | (0, _) => none
  | (i, q) => some (.io i q)
theorem con_compactF {P : Program} {f g : FuncId} (he : ∀ (args : Array Value) (w : World), (callFunc f args).run P w = .ok (.enter f args) w)
    (hc : ∀ (w : World) (v1 v2 : Value) (xs ys : List Int), Hdr w v1 xs → Hdr w v2 ys → xs.length ≤ lim → ys.length ≤ lim → Calls P g #[v1, v2] w fun e w' => e = .returned (.bool (decide (xs = ys))) ∧ ∃ q, w' = w.drewN q)
    (h : ∀ (enc : Nat → Value) (key : Nat → List Int) (blk off cap n : Nat) (w : World), Aside (∀ i, ∃ a l c, enc i = .slice a l c) → Aside (enc n = .slice none 0 0) → Go.Sort.Holds enc w blk off (Array.range n) → n ≤ 1099511627776 → n ≤ cap → 2 ≤ n →
      Aside (∀ (q : Nat) (dk : Array Nat), dk.size = n → ∀ i j, i < n → j < n → Calls P g #[enc i, enc j] (putRow enc (Go.Sort.ahead w q) blk off dk) fun e w' => e = .returned (.bool (decide (key i = key j))) ∧ ∃ q', w' = (putRow enc (Go.Sort.ahead w q) blk off dk).drewN q') →
      Calls P f #[.slice (some ⟨blk, off, none⟩) n cap, .func (.func g) #[] #[]] w fun e w' => e = .returned (.slice (some ⟨blk, off, none⟩) (keepI key n).length cap) ∧ ∃ q, w' = putRow enc (Go.Sort.ahead w q) blk off (keepI key n ++ List.replicate (n - (keepI key n).length) n).toArray)
    (h0 : ∀ (p : Option Addr) (n cap : Nat) (fv : Value) (w : World), n < 2 → Calls P f #[.slice p n cap, fv] w fun e w' => e = .returned (.slice p n cap) ∧ w' = w) :
    ContractG P f (⟨[(kSS, true), (.clo g .unit .unit, false)], [kSS], true, G_compactF⟩, { gone := [0], deep := [] }) := by
  intro w ψ U vs d out hargs hU hψ hgl ho
  obtain ⟨xss, fv, u⟩ := d
  have ho : G_compactF (xss, fv, u) = some out := ho
  unfold G_compactF at ho
  split at ho
  case isFalse => cases ho
  rename_i hl
  have hl : (okL xss && xss.all okL) = true := hl
  simp only [Bool.and_eq_true] at hl
  obtain ⟨hl, hal⟩ := hl
  have hl : xss.length ≤ lim := of_decide_eq_true hl
  have hal : ∀ x ∈ xss, x.length ≤ lim := fun x hx => of_decide_eq_true (List.all_eq_true.1 hal x hx)
  obtain rfl := Option.some.inj ho
  obtain ⟨c1, r1, rfl, k2, c2, r2, rfl, k3, k5⟩ := hargs
  have k5 : r2 = [] := k5
  subst k5
  have hfv : mkVal (.clo g .unit .unit) c2 = .func (.func g) #[] #[] := by
    obtain ⟨a1, a2, e, _⟩ := (show Rep w _ (.clo g .unit .unit) [] c2 fv from k3)
    rw [e]
    rfl
  rw [hfv]
  have k2 : Rep w (fun q b => ψ b = some (0, q)) kSS [] c1 xss := k2
  have k2' := k2
  rw [Rep] at k2
  by_cases hsm : xss.length < 2
  · -- nothing to cut
    obtain ⟨p, cap, e⟩ : ∃ p cap, c1 = [.slice p xss.length cap] := by
      rcases k2 with ⟨⟨a, e⟩, hz⟩ | ⟨b, off, cap, e, _⟩
      · have hz : xss = [] := hz
        rw [hz]
        exact ⟨a, 0, e⟩
      · exact ⟨_, cap, e⟩
    unfold CallsTo
    rw [e, show (mkVal kSS [Value.slice p xss.length cap] :: [Value.func (.func g) #[] #[]]).toArray = #[.slice p xss.length cap, .func (.func g) #[] #[]] from rfl, he]
    refine Calls.mono (h0 p xss.length cap _ w hsm) fun v w' hh => ?_
    obtain ⟨rfl, rfl⟩ := hh
    refine ⟨fun b => match ψ b with | some (0, q) => some (.res (.l :: q)) | some (i, q) => some (.io i q) | none => none, ⟨rfl, rfl, rfl, Nat.le_refl _, fun _ _ _ => rfl, fun b z hz => ?_, ⟨[.slice p xss.length cap], rfl, ?_⟩, ⟨fun h => (by cases h), trivial⟩, fun _ _ k hk => (by cases hk)⟩⟩
    · cases hb : ψ b with
      | none => rw [hb] at hz; cases hz
      | some y => exact ⟨.inr (by simp), hψ b y hb⟩
    · show Rep _ _ (.pair kSS .unit) [] [.slice p xss.length cap] (compL xss, ())
      rw [compL_short hsm]
      refine ⟨?_, rfl⟩
      show Rep _ _ kSS [.l] [.slice p xss.length cap] xss
      rw [e] at k2
      rw [Rep]
      rcases k2 with hz | ⟨b, off, cap', e', kc, kS, kb, ke⟩
      · exact .inl hz
      · refine .inr ⟨b, off, cap', e', kc, ?_, kb, fun i hi => ?_⟩
        · show (match ψ b with | some (0, q) => some (Lab.res (.l :: q)) | some (i, q) => some (.io i q) | none => none) = some (.res [.l])
          rw [kS]
          rfl
        · have hj := ke i hi
          obtain ⟨v, hv⟩ : ∃ v, cellsAt w' b (off + i * (Kd.slice (.int .i64)).size) (Kd.slice (.int .i64)).size = [v] := by
            have := hj.length
            match hcl : cellsAt w' b (off + i * (Kd.slice (.int .i64)).size) (Kd.slice (.int .i64)).size, this with
            | [v], _ => exact ⟨v, rfl⟩
          rw [hv] at hj ⊢
          refine rep_move hj fun b' hb' => ⟨rfl, ?_⟩
          show (match ψ b' with | some (0, q) => some (Lab.res (.l :: q)) | some (i, q) => some (.io i q) | none => none) = some (.res ([.l] ++ [.i i]))
          have hb' : ψ b' = some (0, [.i i]) := hb'
          rw [hb']
          rfl
  · rcases k2 with ⟨_, hz⟩ | ⟨b, off, cap, e, kc, kS, kb, ke⟩
    · have hz : xss = [] := hz
      rw [hz] at hsm
      exact absurd (show [].length < 2 by simp) hsm
    have kS : ψ b = some (0, []) := kS
    obtain ⟨cs, T, fr, hrow, hthaw⟩ := hψ b _ kS
    obtain ⟨cs2, T2, fr2, hrow2, hfit⟩ := kb
    rw [hrow] at hrow2
    injection hrow2 with hrow2
    injection hrow2 with e1 e2 e3
    subst e1 e2 e3
    simp only [Kd.size, Nat.mul_one] at hfit
    obtain ⟨n, hn⟩ : ∃ n, xss.length = n := ⟨_, rfl⟩
    rw [hn] at kc hsm
    have hlt : ∀ j, j < n → off + j < cs.size := fun j hj => by omega
    have hel : ∀ j (hj : j < n), Rep w (fun q b => ψ b = some (0, q)) (.slice (.int .i64)) [.i j] [cs[off + j]'(hlt j hj)] (keyL xss j) := fun j hj => by
      have hj' : j < xss.length := by omega
      have := ke j hj'
      simp only [Kd.size, Nat.mul_one, List.nil_append] at this
      unfold cellsAt at this
      rw [hrow] at this
      have e : (cs.toList.drop (off + j)).take 1 = [cs[off + j]'(hlt j hj)] := by
        rw [List.drop_eq_getElem_cons (by simpa using hlt j hj), List.take_succ_cons, List.take_zero, Array.getElem_toList]
      simp only at this
      rw [e] at this
      have e2 : keyL xss j = xss.get ⟨j, hj'⟩ := by simp [keyL, List.getD_eq_getElem?_getD, hj']
      rw [e2]
      exact this
    have hb := (Array.getElem?_eq_some_iff.1 hrow).1
    let enc : Nat → Value := fun j => if hj : j < n then cs[off + j]'(hlt j hj) else .slice none 0 0
    have henc : ∀ j (hj : j < n), enc j = cs[off + j]'(hlt j hj) := fun j hj => dif_pos hj
    have hsl : Aside (∀ i, ∃ a l c, enc i = .slice a l c) := fun i => by
      by_cases hi : i < n
      · rw [henc i hi]
        have := hel i hi
        rw [Rep] at this
        rcases this with ⟨⟨a, e⟩, _⟩ | ⟨b', o', c', e, _⟩
        · exact ⟨_, _, _, (List.cons.inj e).1⟩
        · exact ⟨_, _, _, (List.cons.inj e).1⟩
      · exact ⟨none, 0, 0, dif_neg hi⟩
    have hneb : ∀ j b', ψ b' = some (0, [.i j]) → b' ≠ b := fun j b' h1 e => by
      subst e
      rw [kS] at h1
      cases h1
    have hother' : ∀ (m : Nat) (dk : Array Nat) (k : Nat), k < w.heap.size → k ≠ b → (putRow enc (Go.Sort.ahead w m) b off dk).heap[k]? = w.heap[k]? := fun m dk k hk hne => by
      rw [putRowV_else hne]
      rfl
    have hH : Go.Sort.Holds enc w b off (Array.range n) := fun j hj => by
      have hj' : j < n := by simpa using hj
      rw [range_get hj', henc j hj']
      constructor
      · unfold World.cell?
        rw [hrow]
        simp [hlt j hj']
      · unfold World.frozen?
        rw [hrow]
        obtain ⟨f1, f2⟩ := fr
        have := hlt j hj'
        simp only at hthaw
        simp
        omega
    have hcmp : Aside (∀ (q : Nat) (dk : Array Nat), dk.size = n → ∀ i j, i < n → j < n → Calls P g #[enc i, enc j] (putRow enc (Go.Sort.ahead w q) b off dk) fun e w' => e = .returned (.bool (decide (keyL xss i = keyL xss j))) ∧ ∃ q', w' = (putRow enc (Go.Sort.ahead w q) b off dk).drewN q') := fun q dk hs i j hi hj => by
      have hh : ∀ z (hz : z < n), Hdr (putRow enc (Go.Sort.ahead w q) b off dk) (enc z) (keyL xss z) := fun z hz => by
        rw [henc z hz]
        exact hdr_of (hel z hz) fun b' hb' => hother' q dk b' (hψ b' _ hb').lt (hneb _ _ hb')
      have hln : ∀ z, z < n → (keyL xss z).length ≤ lim := fun z hz => by
        have hz : z < xss.length := by omega
        have : keyL xss z = xss[z] := by simp [keyL, List.getD_eq_getElem?_getD, hz]
        rw [this]
        exact hal _ (List.getElem_mem hz)
      exact hc _ _ _ _ _ (hh i hi) (hh j hj) (hln i hi) (hln j hj)
    have hcall := h enc (keyL xss) b off cap n w hsl (dif_neg (Nat.lt_irrefl n)) hH (by unfold lim at hl; omega) kc (by omega) hcmp
    unfold CallsTo
    rw [e, hn, show (mkVal kSS [Value.slice (some ⟨b, off, none⟩) n cap] :: [Value.func (.func g) #[] #[]]).toArray = #[.slice (some ⟨b, off, none⟩) n cap, .func (.func g) #[] #[]] from rfl, he]
    refine Calls.mono hcall fun v w' hh => ?_
    obtain ⟨rfl, m, rfl⟩ := hh
    have hother := hother' m (keepI (keyL xss) n ++ List.replicate (n - (keepI (keyL xss) n).length) n).toArray
    have hkl := keepI_le (keyL xss) n
    have hnew : (putRow enc (Go.Sort.ahead w m) b off (keepI (keyL xss) n ++ List.replicate (n - (keepI (keyL xss) n).length) n).toArray).heap[b]? = some (.cells (putCells enc off (keepI (keyL xss) n ++ List.replicate (n - (keepI (keyL xss) n).length) n).toArray cs) T fr) := putRowV_at (w := Go.Sort.ahead w m) hrow
    generalize hD : (keepI (keyL xss) n ++ List.replicate (n - (keepI (keyL xss) n).length) n).toArray = D at hother hnew
    have hDs : D.size = n := by rw [← hD]; simp; omega
    have hps : (putCells enc off D cs).size = cs.size := by simp [putCells]
    have hsz : (putRow enc (Go.Sort.ahead w m) b off D).heap.size = w.heap.size := by simp [putRow, mapBlock]
    refine ⟨fun b => match ψ b with | some z => compLab (keepI (keyL xss) n) z | none => none, ⟨rfl, rfl, rfl, by rw [hsz]; exact Nat.le_refl _, fun k hk hn => ?_, fun k z hz => ?_, ⟨[.slice (some ⟨b, off, none⟩) (keepI (keyL xss) n).length cap], rfl, ?_⟩, ⟨fun h => (by cases h), trivial⟩, fun _ _ k hk => (by cases hk)⟩⟩
    · exact hother k hk (fun e => by subst e; rw [kS] at hn; cases hn)
    · cases hk : ψ k with
      | none => rw [hk] at hz; cases hz
      | some y =>
        refine ⟨.inr (by simp), ?_⟩
        by_cases e : k = b
        · subst e
          exact ⟨_, T, fr, hnew, hthaw.imp (fun h => h) fun h => by rw [hps]; exact h⟩
        · exact (hψ k y hk).same (hother k (hψ k y hk).lt e)
    · show Rep _ _ (.pair kSS .unit) [] [.slice (some ⟨b, off, none⟩) (keepI (keyL xss) n).length cap] (compL xss, ())
      refine ⟨?_, rfl⟩
      show Rep _ _ kSS [.l] [.slice (some ⟨b, off, none⟩) (keepI (keyL xss) n).length cap] (compL xss)
      have hlen : (compL xss).length = (keepI (keyL xss) n).length := by unfold compL; rw [List.length_map, hn]
      rw [Rep]
      refine .inr ⟨b, off, cap, by rw [hlen], by rw [hlen]; omega, ?_, ⟨_, T, fr, hnew, ?_⟩, fun i hi => ?_⟩
      · show (match ψ b with | some z => compLab (keepI (keyL xss) n) z | none => none) = some (.res [.l])
        rw [kS]
        rfl
      · simp only [Kd.size, Nat.mul_one]
        rw [hps]
        exact hfit
      · have hi1 : i < (keepI (keyL xss) n).length := by rw [← hlen]; exact hi
        have hjn : (keepI (keyL xss) n)[i] < n := by
          have := List.mem_filter.1 (List.getElem_mem hi1)
          exact List.mem_range.1 this.1
        have hDi : D[i]! = (keepI (keyL xss) n)[i] := by
          rw [← hD, getElem!_pos _ i (by simp; omega)]
          simp [List.getElem_append, hi1]
        have ecell : cellsAt (putRow enc (Go.Sort.ahead w m) b off D) b (off + i * (Kd.slice (.int .i64)).size) (Kd.slice (.int .i64)).size = [enc (keepI (keyL xss) n)[i]] := by
          unfold cellsAt
          rw [hnew]
          simp only [Kd.size, Nat.mul_one]
          have hlt2 : off + i < (putCells enc off D cs).toList.length := by rw [Array.length_toList, hps]; exact hlt i (by omega)
          rw [List.drop_eq_getElem_cons hlt2, List.take_succ_cons, List.take_zero]
          congr 1
          simp only [putCells, Array.getElem_toList, Array.getElem_mapIdx]
          rw [if_pos ⟨by omega, by omega⟩, show off + i - off = i by omega, hDi]
        have edata : (compL xss).get ⟨i, hi⟩ = keyL xss (keepI (keyL xss) n)[i] := by
          have : (compL xss)[i] = keyL xss (keepI (keyL xss) n)[i] := by
            subst hn
            simp [compL]
          exact this
        rw [ecell, edata, henc _ hjn]
        refine rep_move (hel _ hjn) fun b' hb' => ⟨hother b' (hψ b' _ hb').lt (hneb _ _ hb'), ?_⟩
        show (match ψ b' with | some z => compLab (keepI (keyL xss) n) z | none => none) = some (.res ([.l] ++ [.i i]))
        have hb' : ψ b' = some (0, [.i (keepI (keyL xss) n)[i]]) := hb'
        rw [hb']
        show (keptAt (keepI (keyL xss) n) (keepI (keyL xss) n)[i]).map (fun i => Lab.res [.l, .i i]) = _
        rw [keptAt_get (keepI_pair _ _) hi1]
        rfl
end Go.V.W
set_option linter.unusedVariables false
set_option linter.unusedSimpArgs false
namespace Go.V.W
/-- Strictly rising lists of lists. -/
def ltL (a b : List Int) : Prop := cmpL a b < 0
theorem ltL_trans {a b c : List Int} (h1 : ltL a b) (h2 : ltL b c) : ltL a c := by
  unfold ltL at h1 h2 ⊢
  have h3 := cmpL_le (Int.le_of_lt h1) (Int.le_of_lt h2)
  rcases Int.lt_or_eq_of_le h3 with h | h
  · exact h
  · have e := cmpL_eq h
    rw [e, cmpL_swap b c] at h1
    omega
theorem ltL_irr (a : List Int) : ¬ ltL a a := by
  unfold ltL
  rw [cmpL_self]
  omega
theorem ltL_of_le {a b : List Int} (h : leL a b) (hne : ¬ a = b) : ltL a b := by
  unfold leL at h
  unfold ltL
  rcases Int.lt_or_eq_of_le h with h' | h'
  · exact h'
  · exact absurd (cmpL_eq h') hne
theorem strict_ext : ∀ {l m : List (List Int)}, l.Pairwise ltL → m.Pairwise ltL → (∀ x, x ∈ l ↔ x ∈ m) → l = m := by
  intro l
  induction l with
  | nil =>
    intro m _ _ h
    cases m with
    | nil => rfl
    | cons b m => exact absurd ((h b).2 (by simp)) (by simp)
  | cons a l ih =>
    intro m hl hm h
    cases m with
    | nil => exact absurd ((h a).1 (by simp)) (by simp)
    | cons b m =>
      rw [List.pairwise_cons] at hl hm
      have e : a = b := by
        rcases List.mem_cons.1 ((h a).1 (by simp)) with e | ha
        · exact e
        rcases List.mem_cons.1 ((h b).2 (by simp)) with e | hb
        · exact e.symm
        exact absurd (ltL_trans (hl.1 b hb) (hm.1 a ha)) (ltL_irr a)
      subst e
      congr 1
      refine ih hl.2 hm.2 fun x => ⟨fun hx => ?_, fun hx => ?_⟩
      · rcases List.mem_cons.1 ((h x).1 (by simp [hx])) with e | hx'
        · subst e
          exact absurd (hl.1 x hx) (ltL_irr x)
        · exact hx'
      · rcases List.mem_cons.1 ((h x).2 (by simp [hx])) with e | hx'
        · subst e
          exact absurd (hm.1 x hx) (ltL_irr x)
        · exact hx'
/-- A list put to its place, once. -/
def putS (x : List Int) : List (List Int) → List (List Int)
  | [] => [x]
  | a :: l => if cmpL a x < 0 then a :: putS x l else if a = x then a :: l else x :: a :: l
theorem putS_mem {x y : List Int} : ∀ {l : List (List Int)}, y ∈ putS x l ↔ y = x ∨ y ∈ l := by
  intro l
  induction l with
  | nil => simp [putS]
  | cons a l ih =>
    unfold putS
    split
    · simp only [List.mem_cons, ih]
      constructor
      · rintro (h | h | h)
        · exact .inr (.inl h)
        · exact .inl h
        · exact .inr (.inr h)
      · rintro (h | h | h)
        · exact .inr (.inl h)
        · exact .inl h
        · exact .inr (.inr h)
    · split
      · rename_i e
        subst e
        simp
      · simp
theorem putS_strict {x : List Int} : ∀ {l : List (List Int)}, l.Pairwise ltL → (putS x l).Pairwise ltL := by
  intro l
  induction l with
  | nil => intro _; simp [putS]
  | cons a l ih =>
    intro h
    rw [List.pairwise_cons] at h
    unfold putS
    split
    · rename_i ha
      rw [List.pairwise_cons]
      refine ⟨fun b hb => ?_, ih h.2⟩
      rcases putS_mem.1 hb with rfl | hb
      · exact ha
      · exact h.1 b hb
    · rename_i ha
      split
      · rw [List.pairwise_cons]
        exact h
      · rename_i hne
        have hxa : ltL x a := ltL_of_le ((leL_total x a).resolve_right fun hh => ha (by
          have := ltL_of_le hh hne
          exact this)) fun e => hne e.symm
        rw [List.pairwise_cons, List.pairwise_cons]
        refine ⟨fun b hb => ?_, h⟩
        rcases List.mem_cons.1 hb with rfl | hb
        · exact hxa
        · exact ltL_trans hxa (h.1 b hb)
def putsS (L : List (List Int)) : List (List Int) := L.foldl (fun o x => putS x o) []
theorem puts_fold : ∀ (L o : List (List Int)), o.Pairwise ltL → (L.foldl (fun o x => putS x o) o).Pairwise ltL ∧ ∀ y, y ∈ L.foldl (fun o x => putS x o) o ↔ y ∈ o ∨ y ∈ L := by
  intro L
  induction L with
  | nil => intro o h; exact ⟨h, fun y => by simp⟩
  | cons x L ih =>
    intro o h
    obtain ⟨h1, h2⟩ := ih (putS x o) (putS_strict h)
    refine ⟨h1, fun y => ?_⟩
    rw [List.foldl_cons, h2 y, putS_mem, List.mem_cons]
    constructor
    · rintro ((h | h) | h)
      · exact .inr (.inl h)
      · exact .inl h
      · exact .inr (.inr h)
    · rintro (h | h | h)
      · exact .inl (.inr h)
      · exact .inl (.inl h)
      · exact .inr h
/-- A sorted list, cut to one of each. -/
theorem keyL_get {xss : List (List Int)} {j : Nat} (h : j < xss.length) : keyL xss j = xss[j] := by simp [keyL, List.getD_eq_getElem?_getD, h]
theorem key_mono {xss : List (List Int)} (h : xss.Pairwise leL) : ∀ i j, i ≤ j → j < xss.length → leL (keyL xss i) (keyL xss j) := by
  intro i j hij hj
  rcases Nat.lt_or_eq_of_le hij with h' | h'
  · rw [keyL_get (by omega), keyL_get hj]
    exact (List.pairwise_iff_getElem.1 h) i j (by omega) hj h'
  · subst h'
    unfold leL
    rw [cmpL_self]
    omega
theorem comp_strict {xss : List (List Int)} (h : xss.Pairwise leL) : (compL xss).Pairwise ltL := by
  unfold compL keepI
  rw [List.pairwise_map]
  have hlt : ((List.range xss.length).filter (kpB (keyL xss))).Pairwise (· < ·) := List.Pairwise.filter _ List.pairwise_lt_range
  refine List.Pairwise.imp_of_mem (fun {i j} hi hj hij => ?_) hlt
  have hj' := List.mem_filter.1 hj
  have hjn := List.mem_range.1 hj'.1
  have hk : ¬ keyL xss j = keyL xss (j - 1) := by
    have := hj'.2
    unfold kpB at this
    have hj0 : (j == 0) = false := by simp; omega
    rw [hj0, Bool.false_or] at this
    simpa using this
  refine ltL_of_le (key_mono h i j (by omega) hjn) fun e => hk ?_
  have h1 := key_mono h i (j - 1) (by omega) (by omega)
  have h2 := key_mono h (j - 1) j (by omega) hjn
  rw [e] at h1
  exact leL_antisymm h1 h2
theorem comp_mem {xss : List (List Int)} (y : List Int) : y ∈ compL xss ↔ y ∈ xss := by
  unfold compL keepI
  rw [List.mem_map]
  constructor
  · rintro ⟨i, hi, rfl⟩
    have := List.mem_range.1 (List.mem_filter.1 hi).1
    rw [keyL_get this]
    exact List.getElem_mem this
  · intro hy
    obtain ⟨i, hi, rfl⟩ := List.getElem_of_mem hy
    have key : ∀ i, i < xss.length → ∃ j, j ∈ (List.range xss.length).filter (kpB (keyL xss)) ∧ keyL xss j = keyL xss i := by
      intro i
      induction i with
      | zero =>
        intro hi
        exact ⟨0, List.mem_filter.2 ⟨List.mem_range.2 hi, rfl⟩, rfl⟩
      | succ i ih =>
        intro hi
        cases hk : kpB (keyL xss) (i + 1) with
        | true => exact ⟨i + 1, List.mem_filter.2 ⟨List.mem_range.2 hi, hk⟩, rfl⟩
        | false =>
          obtain ⟨j, hj1, hj2⟩ := ih (by omega)
          refine ⟨j, hj1, hj2.trans ?_⟩
          unfold kpB at hk
          simp only [Nat.add_sub_cancel, Bool.or_eq_false_iff, Bool.not_eq_false', decide_eq_true_eq] at hk
          exact hk.2.symm
    obtain ⟨j, hj1, hj2⟩ := key i hi
    exact ⟨j, hj1, by rw [hj2, keyL_get hi]⟩
theorem puts_comp (L : List (List Int)) : putsS L = compL (sortS L) := by
  obtain ⟨h1, h2⟩ := puts_fold L [] .nil
  refine strict_ext h1 (comp_strict (sortS_sorted L)) fun x => ?_
  have h3 := h2 x
  unfold putsS
  rw [h3, comp_mem, (sortS_perm L).mem_iff]
  simp
def chL (ball : Int → List Int) : List Int → List (List Int) → List (List Int)
  | [], now => now
  | c :: cs, now => chL ball cs (now.flatMap fun l => (ball c).map fun x => l ++ [x])
def movesL (ball : Int → List Int) (cops : List Int) : List (List Int) := compL (sortS ((chL ball cops [[]]).map sortI))
theorem chL_congr {b1 b2 : Int → List Int} : ∀ {cs : List Int} {now : List (List Int)}, (∀ c ∈ cs, b1 c = b2 c) → chL b1 cs now = chL b2 cs now := by
  intro cs
  induction cs with
  | nil => intro now _; rfl
  | cons c cs ih =>
    intro now h
    simp only [chL, h c (by simp)]
    exact ih fun c hc => h c (by simp [hc])
theorem moves_congr {b1 b2 : Int → List Int} {cs : List Int} (h : ∀ c ∈ cs, b1 c = b2 c) : movesL b1 cs = movesL b2 cs := by
  unfold movesL
  rw [chL_congr h]
end Go.V.W
namespace Go.V.W
/-- What a function computes with whatever fuel, if there is something of the kind. -/
noncomputable def pickF {α β : Type} (F : Nat → α → Option β) (P : α → β → Prop) (d : α) : Option β :=
  open Classical in if h : ∃ r, P d r ∧ ∃ N, F N d = some r then some h.choose else none
theorem pickF_of {α β : Type} {F : Nat → α → Option β} {P : α → β → Prop} {d : α} (h : ∃ N r, F N d = some r ∧ P d r) : ∃ r, pickF F P d = some r ∧ P d r := by
  obtain ⟨N, r, h1, h2⟩ := h
  have hh : ∃ r, P d r ∧ ∃ N, F N d = some r := ⟨r, h2, N, h1⟩
  unfold pickF
  rw [dif_pos hh]
  exact ⟨_, rfl, hh.choose_spec.1⟩
/-- There is an answer, and it is so. -/
def Ok {α : Type} (o : Option α) (Q : α → Prop) : Prop := ∃ r, o = some r ∧ Q r
theorem Ok.bind {α β : Type} {o : Option α} {f : α → Option β} {Q : α → Prop} {R : β → Prop} (h : Ok o Q) (hf : ∀ r, Q r → Ok (f r) R) : Ok (o.bind f) R := by
  obtain ⟨r, h1, h2⟩ := h
  obtain ⟨x, h3, h4⟩ := hf r h2
  exact ⟨x, by rw [h1]; exact h3, h4⟩
theorem Ok.some {α : Type} {r : α} {Q : α → Prop} (h : Q r) : Ok (some r) Q := ⟨r, rfl, h⟩
theorem Ok.ite {α : Type} {c : Bool} {a b : Option α} {Q : α → Prop} (ha : c = true → Ok a Q) (hb : c = false → Ok b Q) : Ok (if c = true then a else b) Q := by
  cases c with
  | true => exact ha rfl
  | false => exact hb rfl
theorem Ok.pos {α : Type} {c : Bool} {a b : Option α} {Q : α → Prop} (hc : c = true) (ha : Ok a Q) : Ok (if c = true then a else b) Q := by rw [if_pos hc]; exact ha
theorem Ok.mono {α : Type} {o : Option α} {Q R : α → Prop} (h : Ok o Q) (hR : ∀ r, Q r → R r) : Ok o R := by
  obtain ⟨r, h1, h2⟩ := h
  exact ⟨r, h1, hR r h2⟩
theorem Ok.pick {α β : Type} {F : Nat → α → Option β} {P : α → β → Prop} {d : α} (N : Nat) (h : Ok (F N d) (P d)) : Ok (pickF F P d) (P d) := by
  obtain ⟨r, h1, h2⟩ := h
  exact pickF_of ⟨N, r, h1, h2⟩
/-- The cursor of the draws. -/
abbrev Cur := List Int × Int × Int × Unit
def CurB (c : Cur) : Prop := (∀ x ∈ c.1, 0 ≤ x ∧ x ≤ 255) ∧ 0 ≤ c.2.1
/-- The cursor, some choices further. -/
def Adv (k : Int) (c c' : Cur) : Prop := CurB c' ∧ c'.2.1 ≤ c.2.1 + k
theorem Adv.trans {k m : Int} {c d e : Cur} (h : Adv k c d) (h' : Adv m d e) : Adv (k + m) c e := ⟨h'.1, by have := h.2; have := h'.2; omega⟩
theorem Adv.le {k m : Int} {c d : Cur} (h : Adv k c d) (hk : k ≤ m) : Adv m c d := ⟨h.1, by have := h.2; omega⟩
end Go.V.W
set_option linter.unusedVariables false
namespace Go.V.W
def ndB : List Int → Bool
  | [] => true
  | [_] => true
  | a :: b :: l => decide (a ≤ b) && ndB (b :: l)
def copsB (n : Int) (l : List Int) : Bool := l.all (inB 0 (n - 1)) && ndB l
def G_l4Cops (d : Gr × List Int × Unit) : Option (Bool × Unit) := if (okL d.2.1 && decide (0 ≤ d.1.1) && decide (d.1.1 ≤ 8)) = true then some (copsB d.1.1 d.2.1, ()) else none
def G_isSorted (d : List Int × Unit) : Option (Bool × Unit) := if okL d.1 = true then some (ndB d.1, ()) else none
def G_l4Less (d : List Int × List Int × Unit) : Option (Bool × Unit) := if (okL d.1 && decide (d.1.length = d.2.1.length)) = true then some (decide (cmpL d.1 d.2.1 < 0), ()) else none
def G_l1Same (d : List Int × List Int × Unit) : Option (Bool × Unit) := if okL d.1 = true then some (decide (d.1 = d.2.1), ()) else none
def G_l4Sorted (d : List Int × Unit) : Option (List Int × Unit) := if decide (d.1.length ≤ 1000) = true then some (sortI d.1, ()) else none
def G_l4Put (d : List (List Int) × List Int × Unit) : Option (List (List Int) × Unit) := if (decide (d.1.length ≤ 1000) && okL d.2.1 && d.1.all (fun l => decide (l.length = d.2.1.length))) = true then some (putS d.2.1 d.1, ()) else none
def nodesB (n : Int) (l : List Int) : Bool := decide (l.length ≤ 3) && l.all (inB 0 (n - 1))
def G_l4Moves (d : Gr × List Int × Unit) : Option (List (List Int) × Unit) := if (grB d.1 && nodesB d.1.1 d.2.1) = true then some (movesL (ballF d.1.1.toNat d.1.2.1) d.2.1, ()) else none
def G_copMoves (d : Nt × List Int × Unit) : Option (List (List Int) × Unit) := if (netB d.1.1 && nodesB (d.1.1.length : Int) d.2.1) = true then some (movesL (ballM d.1.1) d.2.1, ()) else none
def G_l4At (d : List (List Int) × List Int × Unit) : Option (Int × Unit) := if okLL d.1 = true then some (idxI (idxN (fun y => decide (y = d.2.1)) d.1 0), ()) else none
def G_idxWalk (d : List (List Int) × (Unit × List Int × Unit) × Unit) : Option (Int × Unit) := if okLL d.1 = true then some (idxI (idxN (fun y => decide (y = d.2.1.2.1)) d.1 0), ()) else none
def restB (ball : Int → List Int) (n : Int) (k : Nat) : Option (List Int) → List (List Int) → Bool
  | _, [] => true
  | p, c :: cs => decide (c.length = k) && copsB n c && (match p with | none => true | some q => (movesL ball q).any fun y => decide (y = c)) && restB ball n k (some c) cs
def walkB (g : Gr) (w : List (List Int)) : Bool := graphB g && inB 1 40 (w.length : Int) && decide (g.1 > 0) && inB 1 3 ((w.headD []).length : Int) && restB (ballF g.1.toNat g.2.1) g.1 (w.headD []).length none w
def G_walk (d : Gr × List (List Int) × Unit) : Option (Bool × Unit) := if (okL d.1.2.1 && okLL d.2.1) = true then some (walkB d.1 d.2.1, ()) else none
/-- For the reference, which is asked of valid graphs alone. -/
def G_l11Walk (d : Gr × List (List Int) × Unit) : Option (Bool × Unit) := if (okL d.1.2.1 && okLL d.2.1 && graphB d.1) = true then some (walkB d.1 d.2.1, ()) else none
def hasL (S : List Int) (y : Int) : Bool := S.any fun z => z == y
end Go.V.W
set_option linter.unusedVariables false
namespace Go.V.W
def G_l2Bits (d : Int × Int × Unit) : Option (List Int × Unit) := if (inB 0 8 d.1 && inB 0 255 d.2.1) = true then some (setF (fun y => d.2.1.toNat.testBit y) d.1.toNat 0, ()) else none
def maskN (l : List Int) : Nat := l.foldl (fun a x => a ||| 2 ^ x.toNat) 0
def G_maskOf (d : List Int × Unit) : Option (Int × Unit) := if (okL d.1 && d.1.all (inB 0 7)) = true then some ((maskN d.1 : Int), ()) else none
end Go.V.W
set_option linter.unusedVariables false
namespace Go.V.W
def restL (c l : List Int) : List Int := l.filter fun x => !hasL c x
def G_l11Rest (d : List Int × List Int × Unit) : Option (List Int × Unit) := if (okL d.1 && okL d.2.1) = true then some (restL d.2.1 d.1, ()) else none
def freeP (c : List Int) (y : Nat) : Bool := !hasL c (y : Int)
def wkB (n : Int) (w : List (List Int)) : Bool := decide (1 ≤ w.length) && decide (w.length ≤ 40) && w.all (nodesB n)
def andN (a b : Nat) : Nat := a &&& (255 ^^^ b)
def backP (es : List E) (n : Nat) : List (List Int) → List (Nat → Bool)
  | [] => []
  | [c] => [freeP c]
  | c :: c2 :: cs => (fun x => stepP es n ((backP es n (c2 :: cs)).headD fun _ => false) x && !hasL c (x : Int) && !hasL c2 (x : Int)) :: backP es n (c2 :: cs)
def G_l11Back (d : Gr × List (List Int) × Unit) : Option (List (List Int) × Unit) := if (grB d.1 && wkB d.1.1 d.2.1) = true then some ((backP d.1.2.1 d.1.1.toNat d.2.1).map (fun p => setF p d.1.1.toNat 0), ()) else none
/-- The first node of each set that the robber can go to; none where there is none. -/
def escL (es : List E) (n : Nat) : (Nat → Bool) → List (Nat → Bool) → Option (List Int)
  | _, [] => some []
  | q, p :: ps => match setF (fun y => q y && p y) n 0 with
    | [] => none
    | x :: _ => (escL es n (fun y => nearI es x (y : Int) || decide ((y : Int) = x)) ps).map fun r => x :: r
def escV (o : Option (List Int)) : List Int × Bool × Unit := match o with | some l => (l, true, ()) | none => ([], false, ())
def closeN (l : List Int) (x : Nat) : Nat := (fromI l).getD x 0 ||| 2 ^ x
def backM (l : List Int) : List (List Int) → List Nat
  | [] => []
  | [c] => [andN (2 ^ l.length - 1) (maskN c)]
  | c :: c2 :: cs => andN (andN (arN (fromI l) ((backM l (c2 :: cs)).headD 0) l.length 0 ((backM l (c2 :: cs)).headD 0)) (maskN c)) (maskN c2) :: backM l (c2 :: cs)
def escM (l : List Int) : Nat → List Nat → Option (List Int)
  | _, [] => some []
  | m, g :: gs => match setF (fun y => (m &&& g).testBit y) 8 0 with
    | [] => none
    | x :: _ => (escM l (closeN l x.toNat) gs).map fun r => x :: r
def G_netEsc (d : Nt × List (List Int) × Unit) : Option (List Int × Bool × Unit) := if (netB d.1.1 && wkB (d.1.1.length : Int) d.2.1) = true then some (escV (escM d.1.1 ((backM d.1.1 d.2.1).headD 0) (backM d.1.1 d.2.1))) else none
def escO (g : Gr) (w : List (List Int)) : List Int × Bool × Unit := if walkB g w = true then escV (escL g.2.1 g.1.toNat (fun _ => true) (backP g.2.1 g.1.toNat w)) else ([], false, ())
def G_escapeOf (d : Gr × List (List Int) × Unit) : Option (List Int × Bool × Unit) := if (okL d.1.2.1 && okLL d.2.1) = true then some (escO d.1 d.2.1) else none
end Go.V.W
set_option linter.unusedVariables false
set_option maxRecDepth 100000
namespace Go.V.W
open Go.Proofs
abbrev I : Kd := .int .i64
abbrev K_Piq : Kd := .pair I .unit
abbrev K_Piiq : Kd := .pair I K_Piq
abbrev K_SPiiq : Kd := .slice K_Piiq
abbrev K_PSPiiqq : Kd := .pair K_SPiiq .unit
abbrev K_PiSPiiqq : Kd := .pair I K_PSPiiqq
abbrev K_Si : Kd := .slice I
abbrev K_SSi : Kd := .slice K_Si
abbrev K_PSiq : Kd := .pair K_Si .unit
abbrev K_F_slices_Compare_Sint_int_qq : Kd := .clo 113 .unit .unit
abbrev K_F_slices_Equal_Sint_int_qq : Kd := .clo 92 .unit .unit
abbrev K_BSi : Kd := .bx K_Si
abbrev K_PBSiq : Kd := .pair K_BSi .unit
abbrev K_F_impl_isWalk_1_qPBSiq : Kd := .clo 91 .unit K_PBSiq
def tks : List (Nat × Kd) := [(3, I), (4, .bool), (22, K_SPiiq), (24, K_PiSPiiqq), (25, K_SSi), (30, K_PiSPiiqq), (37, K_Si), (62, K_PSiq), (88, K_Piiq)]
def ars : List (Nat × Nat) := [(88, 3)]
noncomputable def Γ_laws_szIntA2S : Ctx := { tk := assoc tks, ar := assoc ars, fs := assoc [] }
noncomputable def F_laws_szIntA2S (N : Nat) (d : (List (Int × Int × Unit)) × Int × Unit) : Option (Int × Unit) :=
  let a0 : List (Int × Int × Unit) := d.1
  let a1 : Int := d.2.1
  let x1 : Int := IntKind.wrap .i64 (a1 - (List.length a0 : Int))
  if (decide (x1 < (0 : Int))) = true then
    some ((-1 : Int), ())
  else
    some (x1, ())
theorem F_laws_szIntA2S_ok (N : Nat) (d) : fnR Γ_laws_szIntA2S (assoc []) true [(K_SPiiq, false), (I, false)] [I] Tryz.f43.results.toList (bodyOf Tryz.f43) d = F_laws_szIntA2S N d := by kernel_rfl
noncomputable def g_laws_szIntA2S (d : (List (Int × Int × Unit)) × Int × Unit) : Int × Unit :=
  let a0 : List (Int × Int × Unit) := d.1
  let a1 : Int := d.2.1
  let x1 : Int := IntKind.wrap .i64 (a1 - (List.length a0 : Int))
  if (decide (x1 < (0 : Int))) = true then
    ((-1 : Int), ())
  else
    (x1, ())
theorem F_laws_szIntA2S_tot (N : Nat) (d) : F_laws_szIntA2S N d = some (g_laws_szIntA2S d) := by
  unfold F_laws_szIntA2S g_laws_szIntA2S
  first
    | rfl
    | (dsimp only; (repeat' split) <;> rfl)
noncomputable def S_laws_szIntA2S : FSig := ⟨[(K_SPiiq, false), (I, false)], [I], true, (fun d => some (g_laws_szIntA2S d))⟩
noncomputable def Γ_laws_szGraph : Ctx := { tk := assoc tks, ar := assoc ars, fs := assoc [(43, S_laws_szIntA2S)] }
noncomputable def F_laws_szGraph (N : Nat) (d : (Int × (List (Int × Int × Unit)) × Unit) × Int × Unit) : Option (Int × Unit) :=
  let a0 : Int × (List (Int × Int × Unit)) × Unit := d.1
  let a1 : Int := d.2.1
  let r1 : Int × Unit := g_laws_szIntA2S ((a0.2.1, (a1, ())))
  if (decide (r1.1 < (0 : Int))) = true then
    some ((-1 : Int), ())
  else
    some (r1.1, ())
theorem F_laws_szGraph_ok (N : Nat) (d) : fnR Γ_laws_szGraph (assoc []) true [(K_PiSPiiqq, false), (I, false)] [I] Tryz.f12.results.toList (bodyOf Tryz.f12) d = F_laws_szGraph N d := by kernel_rfl
noncomputable def g_laws_szGraph (d : (Int × (List (Int × Int × Unit)) × Unit) × Int × Unit) : Int × Unit :=
  let a0 : Int × (List (Int × Int × Unit)) × Unit := d.1
  let a1 : Int := d.2.1
  let r1 : Int × Unit := g_laws_szIntA2S ((a0.2.1, (a1, ())))
  if (decide (r1.1 < (0 : Int))) = true then
    ((-1 : Int), ())
  else
    (r1.1, ())
theorem F_laws_szGraph_tot (N : Nat) (d) : F_laws_szGraph N d = some (g_laws_szGraph d) := by
  unfold F_laws_szGraph g_laws_szGraph
  first
    | rfl
    | (dsimp only; (repeat' split) <;> rfl)
noncomputable def S_laws_szGraph : FSig := ⟨[(K_PiSPiiqq, false), (I, false)], [I], true, (fun d => some (g_laws_szGraph d))⟩
noncomputable def Γ_laws_szIntS : Ctx := { tk := assoc tks, ar := assoc ars, fs := assoc [] }
noncomputable def F_laws_szIntS (N : Nat) (d : List Int × Int × Unit) : Option (Int × Unit) :=
  let a0 : List Int := d.1
  let a1 : Int := d.2.1
  let x1 : Int := IntKind.wrap .i64 (a1 - (List.length a0 : Int))
  if (decide (x1 < (0 : Int))) = true then
    some ((-1 : Int), ())
  else
    some (x1, ())
theorem F_laws_szIntS_ok (N : Nat) (d) : fnR Γ_laws_szIntS (assoc []) true [(K_Si, false), (I, false)] [I] Tryz.f44.results.toList (bodyOf Tryz.f44) d = F_laws_szIntS N d := by kernel_rfl
noncomputable def g_laws_szIntS (d : List Int × Int × Unit) : Int × Unit :=
  let a0 : List Int := d.1
  let a1 : Int := d.2.1
  let x1 : Int := IntKind.wrap .i64 (a1 - (List.length a0 : Int))
  if (decide (x1 < (0 : Int))) = true then
    ((-1 : Int), ())
  else
    (x1, ())
theorem F_laws_szIntS_tot (N : Nat) (d) : F_laws_szIntS N d = some (g_laws_szIntS d) := by
  unfold F_laws_szIntS g_laws_szIntS
  first
    | rfl
    | (dsimp only; (repeat' split) <;> rfl)
noncomputable def S_laws_szIntS : FSig := ⟨[(K_Si, false), (I, false)], [I], true, (fun d => some (g_laws_szIntS d))⟩
noncomputable def Γ_laws_szIntSS : Ctx := { tk := assoc tks, ar := assoc ars, fs := assoc [(44, S_laws_szIntS)] }
abbrev laws_szIntSS_l0_H := List (List Int) × Int × Int × Unit
abbrev laws_szIntSS_l0_O := (Int × Unit) ⊕ (Int × Unit) ⊕ Empty
def laws_szIntSS_l0_h : Form := [(0, .v K_SSi), (1, .v I), (5, .v I)]
def laws_szIntSS_l0_o : Outs := [(.ret, [(4, .v I)]), (.normal, [(1, .v I)])]
noncomputable def laws_szIntSS_l0_r (N : Nat) (back : laws_szIntSS_l0_H → Option laws_szIntSS_l0_O) (d : laws_szIntSS_l0_H) : Option laws_szIntSS_l0_O :=
  let s0 : List (List Int) := d.1
  let s1 : Int := d.2.1
  let s5 : Int := d.2.2.1
  if (decide (s5 < (List.length s0 : Int))) = true then
    if (idxIn s5 (List.length s0)) = true then
    let r7 : Int × Unit := g_laws_szIntS ((at_ K_Si s0 s5.toNat, (s1, ())))
    if (decide (r7.1 < (0 : Int))) = true then
      some (.inl ((-1 : Int), ()))
    else
      let x8 : Int := IntKind.wrap .i64 (s5 + (1 : Int))
      back ((s0, (r7.1, (x8, ()))))
    else none
  else
    some (.inr (.inl (s1, ())))
noncomputable def laws_szIntSS_l0 (N : Nat) : Nat → laws_szIntSS_l0_H → Option laws_szIntSS_l0_O
  | 0, _ => none
  | k + 1, d => laws_szIntSS_l0_r N (laws_szIntSS_l0 N k) d
theorem laws_szIntSS_l0_ok (N : Nat) (back) (d) : roundR Γ_laws_szIntSS (assoc []) 0 laws_szIntSS_l0_h laws_szIntSS_l0_o (loopOf Tryz.f13 0) back d = laws_szIntSS_l0_r N back d := by kernel_rfl
noncomputable def F_laws_szIntSS (N : Nat) (d : List (List Int) × Int × Unit) : Option (Int × Unit) :=
  let a0 : List (List Int) := d.1
  let a1 : Int := d.2.1
  let x1 : Int := IntKind.wrap .i64 (a1 - (List.length a0 : Int))
  if (decide (x1 < (0 : Int))) = true then
    some ((-1 : Int), ())
  else
    (laws_szIntSS_l0 N N ((a0, (x1, ((0 : Int), ()))))).bind fun o4 => match o4 with
    | .inl d5 =>
      some (d5.1, ())
    | .inr (.inl d6) =>
      some (d6.1, ())
theorem F_laws_szIntSS_ok (N : Nat) (d) : fnR Γ_laws_szIntSS (assoc [(0, ⟨laws_szIntSS_l0_h, laws_szIntSS_l0_o, laws_szIntSS_l0 N N⟩)]) true [(K_SSi, false), (I, false)] [I] Tryz.f13.results.toList (bodyOf Tryz.f13) d = F_laws_szIntSS N d := by kernel_rfl
noncomputable def S_laws_szIntSS : FSig := ⟨[(K_SSi, false), (I, false)], [I], true, (G_szIntSS)⟩
noncomputable def Γ_laws_toIntA2 : Ctx := { tk := assoc tks, ar := assoc ars, fs := assoc [] }
abbrev laws_toIntA2_l0_H := (Int × Int × Unit) × (Int × Int × Unit) × (Int × Int × Unit) × Int × Unit
abbrev laws_toIntA2_l0_O := ((Int × Int × Unit) × (Int × Int × Unit) × Unit) ⊕ Empty
def laws_toIntA2_l0_h : Form := [(1, .box K_Piiq 99), (2, .box K_Piiq 99), (3, .box K_Piiq 99), (4, .v I)]
def laws_toIntA2_l0_o : Outs := [(.normal, [(2, .box K_Piiq 99), (3, .box K_Piiq 99)])]
noncomputable def laws_toIntA2_l0_r (N : Nat) (back : laws_toIntA2_l0_H → Option laws_toIntA2_l0_O) (d : laws_toIntA2_l0_H) : Option laws_toIntA2_l0_O :=
  let s1 : Int × Int × Unit := d.1
  let s2 : Int × Int × Unit := d.2.1
  let s3 : Int × Int × Unit := d.2.2.1
  let s4 : Int := d.2.2.2.1
  if (decide (s4 < (2 : Int))) = true then
    if (s4 == (0 : Int)) = true then
      if (s4 == (0 : Int)) = true then
        let x10 : Int := IntKind.wrap .i64 (s4 + (1 : Int))
        back ((s1, (s2, ((s1.1, s3.2), (x10, ())))))
      else
        if (s4 == (1 : Int)) = true then
        let x9 : Int := IntKind.wrap .i64 (s4 + (1 : Int))
        back ((s1, (s2, ((s3.1, (s1.1, s3.2.2)), (x9, ())))))
        else none
    else
      if (s4 == (1 : Int)) = true then
      if (s4 == (0 : Int)) = true then
        let x8 : Int := IntKind.wrap .i64 (s4 + (1 : Int))
        back ((s1, (s2, ((s1.2.1, s3.2), (x8, ())))))
      else
        if (s4 == (1 : Int)) = true then
        let x7 : Int := IntKind.wrap .i64 (s4 + (1 : Int))
        back ((s1, (s2, ((s3.1, (s1.2.1, s3.2.2)), (x7, ())))))
        else none
      else none
  else
    some (.inl ((s2, (s3, ()))))
noncomputable def laws_toIntA2_l0 (N : Nat) : Nat → laws_toIntA2_l0_H → Option laws_toIntA2_l0_O
  | 0, _ => none
  | k + 1, d => laws_toIntA2_l0_r N (laws_toIntA2_l0 N k) d
theorem laws_toIntA2_l0_ok (N : Nat) (back) (d) : roundR Γ_laws_toIntA2 (assoc []) 0 laws_toIntA2_l0_h laws_toIntA2_l0_o (loopOf Tryz.f87 0) back d = laws_toIntA2_l0_r N back d := by kernel_rfl
noncomputable def F_laws_toIntA2 (N : Nat) (d : (Int × Int × Unit) × Unit) : Option ((Int × Int × Unit) × Unit) :=
  let a0 : Int × Int × Unit := d.1
  (laws_toIntA2_l0 N N ((a0, (((0 : Int), ((0 : Int), ())), (((0 : Int), ((0 : Int), ())), ((0 : Int), ())))))).bind fun o5 => match o5 with
  | .inl d6 =>
    some (d6.2.1, ())
theorem F_laws_toIntA2_ok (N : Nat) (d) : fnR Γ_laws_toIntA2 (assoc [(0, ⟨laws_toIntA2_l0_h, laws_toIntA2_l0_o, laws_toIntA2_l0 N N⟩)]) true [(K_Piiq, false)] [K_Piiq] Tryz.f87.results.toList (bodyOf Tryz.f87) d = F_laws_toIntA2 N d := by kernel_rfl
noncomputable def S_laws_toIntA2 : FSig := ⟨[(K_Piiq, false)], [K_Piiq], true, (G_toIntA2)⟩
noncomputable def Γ_laws_toIntA2S : Ctx := { tk := assoc tks, ar := assoc ars, fs := assoc [(87, S_laws_toIntA2)] }
abbrev laws_toIntA2S_l0_H := (List (Int × Int × Unit)) × (List (Int × Int × Unit)) × Int × Unit
abbrev laws_toIntA2S_l0_O := ((List (Int × Int × Unit)) × Unit) ⊕ Empty
def laws_toIntA2S_l0_h : Form := [(0, .v K_SPiiq), (3, .own K_SPiiq 99), (4, .v I)]
def laws_toIntA2S_l0_o : Outs := [(.normal, [(3, .own K_SPiiq 99)])]
noncomputable def laws_toIntA2S_l0_r (N : Nat) (back : laws_toIntA2S_l0_H → Option laws_toIntA2S_l0_O) (d : laws_toIntA2S_l0_H) : Option laws_toIntA2S_l0_O :=
  let s0 : List (Int × Int × Unit) := d.1
  let s3 : List (Int × Int × Unit) := d.2.1
  let s4 : Int := d.2.2.1
  if (decide (s4 < (List.length s0 : Int))) = true then
    if (idxIn s4 (List.length s0)) = true then
    (G_toIntA2 (at_ K_Piiq s0 s4.toNat, ())).bind fun r6 =>
    if (idxIn s4 (List.length s3)) = true then
    let x7 : Int := IntKind.wrap .i64 (s4 + (1 : Int))
    back ((s0, (List.set s3 s4.toNat r6.1, (x7, ()))))
    else none
    else none
  else
    some (.inl (s3, ()))
noncomputable def laws_toIntA2S_l0 (N : Nat) : Nat → laws_toIntA2S_l0_H → Option laws_toIntA2S_l0_O
  | 0, _ => none
  | k + 1, d => laws_toIntA2S_l0_r N (laws_toIntA2S_l0 N k) d
theorem laws_toIntA2S_l0_ok (N : Nat) (back) (d) : roundR Γ_laws_toIntA2S (assoc []) 0 laws_toIntA2S_l0_h laws_toIntA2S_l0_o (loopOf Tryz.f48 0) back d = laws_toIntA2S_l0_r N back d := by kernel_rfl
noncomputable def F_laws_toIntA2S (N : Nat) (d : (List (Int × Int × Unit)) × Unit) : Option ((List (Int × Int × Unit)) × Unit) :=
  let a0 : List (Int × Int × Unit) := d.1
  if ((decide (0 ≤ (List.length a0 : Int)) && decide ((List.length a0 : Int) ≤ (List.length a0 : Int)) && decide ((List.length a0 : Int) ≤ (lim : Int)))) = true then
  let x1 : List (Int × Int × Unit) := List.replicate (List.length a0 : Int).toNat (((0 : Int), ((0 : Int), ())))
  (laws_toIntA2S_l0 N N ((a0, (x1, ((0 : Int), ()))))).bind fun o4 => match o4 with
  | .inl d5 =>
    some (d5.1, ())
  else none
theorem F_laws_toIntA2S_ok (N : Nat) (d) : fnR Γ_laws_toIntA2S (assoc [(0, ⟨laws_toIntA2S_l0_h, laws_toIntA2S_l0_o, laws_toIntA2S_l0 N N⟩)]) true [(K_SPiiq, false)] [K_SPiiq] Tryz.f48.results.toList (bodyOf Tryz.f48) d = F_laws_toIntA2S N d := by kernel_rfl
noncomputable def S_laws_toIntA2S : FSig := ⟨[(K_SPiiq, false)], [K_SPiiq], true, (G_toIntA2S)⟩
noncomputable def Γ_laws_toGraph : Ctx := { tk := assoc tks, ar := assoc ars, fs := assoc [(48, S_laws_toIntA2S)] }
noncomputable def F_laws_toGraph (N : Nat) (d : (Int × (List (Int × Int × Unit)) × Unit) × Unit) : Option ((Int × (List (Int × Int × Unit)) × Unit) × Unit) :=
  let a0 : Int × (List (Int × Int × Unit)) × Unit := d.1
  (G_toIntA2S (a0.2.1, ())).bind fun r1 =>
  some (((a0.1, (r1.1, ())), ()))
theorem F_laws_toGraph_ok (N : Nat) (d) : fnR Γ_laws_toGraph (assoc []) true [(K_PiSPiiqq, false)] [K_PiSPiiqq] Tryz.f15.results.toList (bodyOf Tryz.f15) d = F_laws_toGraph N d := by kernel_rfl
noncomputable def S_laws_toGraph : FSig := ⟨[(K_PiSPiiqq, false)], [K_PiSPiiqq], true, (F_laws_toGraph 0)⟩
noncomputable def Γ_laws_toIntS : Ctx := { tk := assoc tks, ar := assoc ars, fs := assoc [] }
abbrev laws_toIntS_l0_H := List Int × List Int × Int × Unit
abbrev laws_toIntS_l0_O := (List Int × Unit) ⊕ Empty
def laws_toIntS_l0_h : Form := [(0, .v K_Si), (3, .own K_Si 99), (4, .v I)]
def laws_toIntS_l0_o : Outs := [(.normal, [(3, .own K_Si 99)])]
noncomputable def laws_toIntS_l0_r (N : Nat) (back : laws_toIntS_l0_H → Option laws_toIntS_l0_O) (d : laws_toIntS_l0_H) : Option laws_toIntS_l0_O :=
  let s0 : List Int := d.1
  let s3 : List Int := d.2.1
  let s4 : Int := d.2.2.1
  if (decide (s4 < (List.length s0 : Int))) = true then
    if (idxIn s4 (List.length s0)) = true then
    if (idxIn s4 (List.length s3)) = true then
    let x6 : List Int := List.set s3 s4.toNat (at_ I s0 s4.toNat)
    let x7 : Int := IntKind.wrap .i64 (s4 + (1 : Int))
    back ((s0, (x6, (x7, ()))))
    else none
    else none
  else
    some (.inl (s3, ()))
noncomputable def laws_toIntS_l0 (N : Nat) : Nat → laws_toIntS_l0_H → Option laws_toIntS_l0_O
  | 0, _ => none
  | k + 1, d => laws_toIntS_l0_r N (laws_toIntS_l0 N k) d
theorem laws_toIntS_l0_ok (N : Nat) (back) (d) : roundR Γ_laws_toIntS (assoc []) 0 laws_toIntS_l0_h laws_toIntS_l0_o (loopOf Tryz.f31 0) back d = laws_toIntS_l0_r N back d := by kernel_rfl
noncomputable def F_laws_toIntS (N : Nat) (d : List Int × Unit) : Option (List Int × Unit) :=
  let a0 : List Int := d.1
  if ((decide (0 ≤ (List.length a0 : Int)) && decide ((List.length a0 : Int) ≤ (List.length a0 : Int)) && decide ((List.length a0 : Int) ≤ (lim : Int)))) = true then
  let x1 : List Int := List.replicate (List.length a0 : Int).toNat (0 : Int)
  (laws_toIntS_l0 N N ((a0, (x1, ((0 : Int), ()))))).bind fun o4 => match o4 with
  | .inl d5 =>
    some (d5.1, ())
  else none
theorem F_laws_toIntS_ok (N : Nat) (d) : fnR Γ_laws_toIntS (assoc [(0, ⟨laws_toIntS_l0_h, laws_toIntS_l0_o, laws_toIntS_l0 N N⟩)]) true [(K_Si, false)] [K_Si] Tryz.f31.results.toList (bodyOf Tryz.f31) d = F_laws_toIntS N d := by kernel_rfl
noncomputable def S_laws_toIntS : FSig := ⟨[(K_Si, false)], [K_Si], true, (G_toIntS)⟩
noncomputable def Γ_laws_toIntSS : Ctx := { tk := assoc tks, ar := assoc ars, fs := assoc [(31, S_laws_toIntS)] }
abbrev laws_toIntSS_l0_H := List (List Int) × List (List Int) × Int × Unit
abbrev laws_toIntSS_l0_O := (List (List Int) × Unit) ⊕ Empty
def laws_toIntSS_l0_h : Form := [(0, .v K_SSi), (3, .own K_SSi 99), (4, .v I)]
def laws_toIntSS_l0_o : Outs := [(.normal, [(3, .own K_SSi 99)])]
noncomputable def laws_toIntSS_l0_r (N : Nat) (back : laws_toIntSS_l0_H → Option laws_toIntSS_l0_O) (d : laws_toIntSS_l0_H) : Option laws_toIntSS_l0_O :=
  let s0 : List (List Int) := d.1
  let s3 : List (List Int) := d.2.1
  let s4 : Int := d.2.2.1
  if (decide (s4 < (List.length s0 : Int))) = true then
    if (idxIn s4 (List.length s0)) = true then
    (G_toIntS (at_ K_Si s0 s4.toNat, ())).bind fun r6 =>
    if (idxIn s4 (List.length s3)) = true then
    let x7 : Int := IntKind.wrap .i64 (s4 + (1 : Int))
    back ((s0, (List.set s3 s4.toNat r6.1, (x7, ()))))
    else none
    else none
  else
    some (.inl (s3, ()))
noncomputable def laws_toIntSS_l0 (N : Nat) : Nat → laws_toIntSS_l0_H → Option laws_toIntSS_l0_O
  | 0, _ => none
  | k + 1, d => laws_toIntSS_l0_r N (laws_toIntSS_l0 N k) d
theorem laws_toIntSS_l0_ok (N : Nat) (back) (d) : roundR Γ_laws_toIntSS (assoc []) 0 laws_toIntSS_l0_h laws_toIntSS_l0_o (loopOf Tryz.f16 0) back d = laws_toIntSS_l0_r N back d := by kernel_rfl
noncomputable def F_laws_toIntSS (N : Nat) (d : List (List Int) × Unit) : Option (List (List Int) × Unit) :=
  let a0 : List (List Int) := d.1
  if ((decide (0 ≤ (List.length a0 : Int)) && decide ((List.length a0 : Int) ≤ (List.length a0 : Int)) && decide ((List.length a0 : Int) ≤ (lim : Int)))) = true then
  let x1 : List (List Int) := List.replicate (List.length a0 : Int).toNat ([] : List Int)
  (laws_toIntSS_l0 N N ((a0, (x1, ((0 : Int), ()))))).bind fun o4 => match o4 with
  | .inl d5 =>
    some (d5.1, ())
  else none
theorem F_laws_toIntSS_ok (N : Nat) (d) : fnR Γ_laws_toIntSS (assoc [(0, ⟨laws_toIntSS_l0_h, laws_toIntSS_l0_o, laws_toIntSS_l0 N N⟩)]) true [(K_SSi, false)] [K_SSi] Tryz.f16.results.toList (bodyOf Tryz.f16) d = F_laws_toIntSS N d := by kernel_rfl
noncomputable def S_laws_toIntSS : FSig := ⟨[(K_SSi, false)], [K_SSi], true, (G_toIntSS)⟩
noncomputable def Γ_spec_l1In : Ctx := { tk := assoc tks, ar := assoc ars, fs := assoc [] }
noncomputable def F_spec_l1In (N : Nat) (d : Int × Int × Int × Unit) : Option (Bool × Unit) :=
  let a0 : Int := d.1
  let a1 : Int := d.2.1
  let a2 : Int := d.2.2.1
  if (decide (a0 ≥ a1)) = true then
    some (decide (a0 ≤ a2), ())
  else
    some (false, ())
theorem F_spec_l1In_ok (N : Nat) (d) : fnR Γ_spec_l1In (assoc []) true [(I, false), (I, false), (I, false)] [.bool] Tryz.f77.results.toList (bodyOf Tryz.f77) d = F_spec_l1In N d := by kernel_rfl
noncomputable def g_spec_l1In (d : Int × Int × Int × Unit) : Bool × Unit :=
  let a0 : Int := d.1
  let a1 : Int := d.2.1
  let a2 : Int := d.2.2.1
  if (decide (a0 ≥ a1)) = true then
    (decide (a0 ≤ a2), ())
  else
    (false, ())
theorem F_spec_l1In_tot (N : Nat) (d) : F_spec_l1In N d = some (g_spec_l1In d) := by
  unfold F_spec_l1In g_spec_l1In
  first
    | rfl
    | (dsimp only; (repeat' split) <;> rfl)
noncomputable def S_spec_l1In : FSig := ⟨[(I, false), (I, false), (I, false)], [.bool], true, (fun d => some (g_spec_l1In d))⟩
noncomputable def Γ_spec_l2Before : Ctx := { tk := assoc tks, ar := assoc ars, fs := assoc [] }
noncomputable def F_spec_l2Before (N : Nat) (d : (Int × Int × Unit) × (Int × Int × Unit) × Unit) : Option (Bool × Unit) :=
  let a0 : Int × Int × Unit := d.1
  let a1 : Int × Int × Unit := d.2.1
  if (decide (a0.1 < a1.1)) = true then
    some (true, ())
  else
    if (a0.1 == a1.1) = true then
      some (decide (a0.2.1 < a1.2.1), ())
    else
      some (false, ())
theorem F_spec_l2Before_ok (N : Nat) (d) : fnR Γ_spec_l2Before (assoc []) true [(K_Piiq, false), (K_Piiq, false)] [.bool] Tryz.f82.results.toList (bodyOf Tryz.f82) d = F_spec_l2Before N d := by kernel_rfl
noncomputable def g_spec_l2Before (d : (Int × Int × Unit) × (Int × Int × Unit) × Unit) : Bool × Unit :=
  let a0 : Int × Int × Unit := d.1
  let a1 : Int × Int × Unit := d.2.1
  if (decide (a0.1 < a1.1)) = true then
    (true, ())
  else
    if (a0.1 == a1.1) = true then
      (decide (a0.2.1 < a1.2.1), ())
    else
      (false, ())
theorem F_spec_l2Before_tot (N : Nat) (d) : F_spec_l2Before N d = some (g_spec_l2Before d) := by
  unfold F_spec_l2Before g_spec_l2Before
  first
    | rfl
    | (dsimp only; (repeat' split) <;> rfl)
noncomputable def S_spec_l2Before : FSig := ⟨[(K_Piiq, false), (K_Piiq, false)], [.bool], true, (fun d => some (g_spec_l2Before d))⟩
noncomputable def Γ_spec_l2Good : Ctx := { tk := assoc tks, ar := assoc ars, fs := assoc [(77, S_spec_l1In), (82, S_spec_l2Before)] }
abbrev spec_l2Good_l0_H := (Int × (List (Int × Int × Unit)) × Unit) × Int × Unit
abbrev spec_l2Good_l0_O := (Bool × Unit) ⊕ ((Int × (List (Int × Int × Unit)) × Unit) × Unit) ⊕ Empty
def spec_l2Good_l0_h : Form := [(1, .box K_PiSPiiqq 0), (3, .v I)]
def spec_l2Good_l0_o : Outs := [(.ret, [(2, .v .bool)]), (.normal, [(1, .box K_PiSPiiqq 0)])]
noncomputable def spec_l2Good_l0_r (N : Nat) (back : spec_l2Good_l0_H → Option spec_l2Good_l0_O) (d : spec_l2Good_l0_H) : Option spec_l2Good_l0_O :=
  let s1 : Int × (List (Int × Int × Unit)) × Unit := d.1
  let s3 : Int := d.2.1
  if (decide (s3 < (List.length s1.2.1 : Int))) = true then
    if (idxIn s3 (List.length s1.2.1)) = true then
    let x13 : Int := IntKind.wrap .i64 (s1.1 - (1 : Int))
    let r14 : Bool × Unit := g_spec_l1In (((at_ K_Piiq s1.2.1 s3.toNat).1, ((0 : Int), (x13, ()))))
    if (!r14.1) = true then
      some (.inl (false, ()))
    else
      let x15 : Int := IntKind.wrap .i64 (s1.1 - (1 : Int))
      let r16 : Bool × Unit := g_spec_l1In (((at_ K_Piiq s1.2.1 s3.toNat).2.1, ((0 : Int), (x15, ()))))
      if (!r16.1) = true then
        some (.inl (false, ()))
      else
        if (decide ((at_ K_Piiq s1.2.1 s3.toNat).1 ≥ (at_ K_Piiq s1.2.1 s3.toNat).2.1)) = true then
          some (.inl (false, ()))
        else
          if (decide (s3 > (0 : Int))) = true then
            let x17 : Int := IntKind.wrap .i64 (s3 - (1 : Int))
            if (idxIn x17 (List.length s1.2.1)) = true then
            let r18 : Bool × Unit := g_spec_l2Before ((at_ K_Piiq s1.2.1 x17.toNat, (at_ K_Piiq s1.2.1 s3.toNat, ())))
            if (!r18.1) = true then
              some (.inl (false, ()))
            else
              let x19 : Int := IntKind.wrap .i64 (s3 + (1 : Int))
              back ((s1, (x19, ())))
            else none
          else
            let x20 : Int := IntKind.wrap .i64 (s3 + (1 : Int))
            back ((s1, (x20, ())))
    else none
  else
    some (.inr (.inl (s1, ())))
noncomputable def spec_l2Good_l0 (N : Nat) : Nat → spec_l2Good_l0_H → Option spec_l2Good_l0_O
  | 0, _ => none
  | k + 1, d => spec_l2Good_l0_r N (spec_l2Good_l0 N k) d
theorem spec_l2Good_l0_ok (N : Nat) (back) (d) : roundR Γ_spec_l2Good (assoc []) 0 spec_l2Good_l0_h spec_l2Good_l0_o (loopOf Tryz.f45 0) back d = spec_l2Good_l0_r N back d := by kernel_rfl
noncomputable def F_spec_l2Good (N : Nat) (d : (Int × (List (Int × Int × Unit)) × Unit) × Unit) : Option (Bool × Unit) :=
  let a0 : Int × (List (Int × Int × Unit)) × Unit := d.1
  (spec_l2Good_l0 N N ((a0, ((0 : Int), ())))).bind fun o9 => match o9 with
  | .inl d10 =>
    some (d10.1, ())
  | .inr (.inl d11) =>
    let r12 : Bool × Unit := g_spec_l1In ((d11.1.1, ((0 : Int), ((8 : Int), ()))))
    some (r12.1, ())
theorem F_spec_l2Good_ok (N : Nat) (d) : fnR Γ_spec_l2Good (assoc [(0, ⟨spec_l2Good_l0_h, spec_l2Good_l0_o, spec_l2Good_l0 N N⟩)]) true [(K_PiSPiiqq, false)] [.bool] Tryz.f45.results.toList (bodyOf Tryz.f45) d = F_spec_l2Good N d := by kernel_rfl
noncomputable def S_spec_l2Good : FSig := ⟨[(K_PiSPiiqq, false)], [.bool], true, (G_graph)⟩
noncomputable def Γ_spec_l4Field : Ctx := { tk := assoc tks, ar := assoc ars, fs := assoc [(45, S_spec_l2Good), (77, S_spec_l1In)] }
noncomputable def F_spec_l4Field (N : Nat) (d : (Int × (List (Int × Int × Unit)) × Unit) × Int × Unit) : Option (Bool × Unit) :=
  let a0 : Int × (List (Int × Int × Unit)) × Unit := d.1
  let a1 : Int := d.2.1
  (G_graph (a0, ())).bind fun r1 =>
  if (r1.1) = true then
    if (decide (a0.1 > (0 : Int))) = true then
      let r2 : Bool × Unit := g_spec_l1In ((a1, ((1 : Int), ((3 : Int), ()))))
      some (r2.1, ())
    else
      some (false, ())
  else
    some (false, ())
theorem F_spec_l4Field_ok (N : Nat) (d) : fnR Γ_spec_l4Field (assoc []) true [(K_PiSPiiqq, false), (I, false)] [.bool] Tryz.f59.results.toList (bodyOf Tryz.f59) d = F_spec_l4Field N d := by kernel_rfl
noncomputable def S_spec_l4Field : FSig := ⟨[(K_PiSPiiqq, false), (I, false)], [.bool], true, (F_spec_l4Field 0)⟩
noncomputable def Γ_spec_l2Node : Ctx := { tk := assoc tks, ar := assoc ars, fs := assoc [(77, S_spec_l1In)] }
noncomputable def F_spec_l2Node (N : Nat) (d : (Int × (List (Int × Int × Unit)) × Unit) × Int × Unit) : Option (Bool × Unit) :=
  let a0 : Int × (List (Int × Int × Unit)) × Unit := d.1
  let a1 : Int := d.2.1
  let x1 : Int := IntKind.wrap .i64 (a0.1 - (1 : Int))
  let r2 : Bool × Unit := g_spec_l1In ((a1, ((0 : Int), (x1, ()))))
  some (r2.1, ())
theorem F_spec_l2Node_ok (N : Nat) (d) : fnR Γ_spec_l2Node (assoc []) true [(K_PiSPiiqq, false), (I, false)] [.bool] Tryz.f107.results.toList (bodyOf Tryz.f107) d = F_spec_l2Node N d := by kernel_rfl
noncomputable def g_spec_l2Node (d : (Int × (List (Int × Int × Unit)) × Unit) × Int × Unit) : Bool × Unit :=
  let a0 : Int × (List (Int × Int × Unit)) × Unit := d.1
  let a1 : Int := d.2.1
  let x1 : Int := IntKind.wrap .i64 (a0.1 - (1 : Int))
  let r2 : Bool × Unit := g_spec_l1In ((a1, ((0 : Int), (x1, ()))))
  (r2.1, ())
theorem F_spec_l2Node_tot (N : Nat) (d) : F_spec_l2Node N d = some (g_spec_l2Node d) := by
  unfold F_spec_l2Node g_spec_l2Node
  first
    | rfl
    | (dsimp only; (repeat' split) <;> rfl)
noncomputable def S_spec_l2Node : FSig := ⟨[(K_PiSPiiqq, false), (I, false)], [.bool], true, (fun d => some (g_spec_l2Node d))⟩
noncomputable def Γ_spec_l4Cops : Ctx := { tk := assoc tks, ar := assoc ars, fs := assoc [(107, S_spec_l2Node)] }
abbrev spec_l4Cops_l0_H := List Int × (Int × (List (Int × Int × Unit)) × Unit) × Int × Unit
abbrev spec_l4Cops_l0_O := (Bool × Unit) ⊕ Unit ⊕ Empty
def spec_l4Cops_l0_h : Form := [(1, .v K_Si), (2, .box K_PiSPiiqq 0), (5, .v I)]
def spec_l4Cops_l0_o : Outs := [(.ret, [(4, .v .bool)]), (.normal, [])]
noncomputable def spec_l4Cops_l0_r (N : Nat) (back : spec_l4Cops_l0_H → Option spec_l4Cops_l0_O) (d : spec_l4Cops_l0_H) : Option spec_l4Cops_l0_O :=
  let s1 : List Int := d.1
  let s2 : Int × (List (Int × Int × Unit)) × Unit := d.2.1
  let s5 : Int := d.2.2.1
  if (decide (s5 < (List.length s1 : Int))) = true then
    if (idxIn s5 (List.length s1)) = true then
    let r8 : Bool × Unit := g_spec_l2Node ((s2, (at_ I s1 s5.toNat, ())))
    if (!r8.1) = true then
      some (.inl (false, ()))
    else
      if (decide (s5 > (0 : Int))) = true then
        let x9 : Int := IntKind.wrap .i64 (s5 - (1 : Int))
        if (idxIn x9 (List.length s1)) = true then
        if (idxIn s5 (List.length s1)) = true then
        if (decide (at_ I s1 x9.toNat > at_ I s1 s5.toNat)) = true then
          some (.inl (false, ()))
        else
          let x10 : Int := IntKind.wrap .i64 (s5 + (1 : Int))
          back ((s1, (s2, (x10, ()))))
        else none
        else none
      else
        let x11 : Int := IntKind.wrap .i64 (s5 + (1 : Int))
        back ((s1, (s2, (x11, ()))))
    else none
  else
    some (.inr (.inl ()))
noncomputable def spec_l4Cops_l0 (N : Nat) : Nat → spec_l4Cops_l0_H → Option spec_l4Cops_l0_O
  | 0, _ => none
  | k + 1, d => spec_l4Cops_l0_r N (spec_l4Cops_l0 N k) d
theorem spec_l4Cops_l0_ok (N : Nat) (back) (d) : roundR Γ_spec_l4Cops (assoc []) 0 spec_l4Cops_l0_h spec_l4Cops_l0_o (loopOf Tryz.f76 0) back d = spec_l4Cops_l0_r N back d := by kernel_rfl
noncomputable def F_spec_l4Cops (N : Nat) (d : (Int × (List (Int × Int × Unit)) × Unit) × List Int × Unit) : Option (Bool × Unit) :=
  let a0 : Int × (List (Int × Int × Unit)) × Unit := d.1
  let a1 : List Int := d.2.1
  (spec_l4Cops_l0 N N ((a1, (a0, ((0 : Int), ()))))).bind fun o5 => match o5 with
  | .inl d6 =>
    some (d6.1, ())
  | .inr (.inl d7) =>
    some (true, ())
theorem F_spec_l4Cops_ok (N : Nat) (d) : fnR Γ_spec_l4Cops (assoc [(0, ⟨spec_l4Cops_l0_h, spec_l4Cops_l0_o, spec_l4Cops_l0 N N⟩)]) true [(K_PiSPiiqq, false), (K_Si, false)] [.bool] Tryz.f76.results.toList (bodyOf Tryz.f76) d = F_spec_l4Cops N d := by kernel_rfl
noncomputable def S_spec_l4Cops : FSig := ⟨[(K_PiSPiiqq, false), (K_Si, false)], [.bool], true, (G_l4Cops)⟩
noncomputable def Γ_spec_l2Near : Ctx := { tk := assoc tks, ar := assoc ars, fs := assoc [] }
abbrev spec_l2Near_l0_H := Int × Int × (Int × (List (Int × Int × Unit)) × Unit) × Int × Unit
abbrev spec_l2Near_l0_O := (Bool × Unit) ⊕ Unit ⊕ Empty
def spec_l2Near_l0_h : Form := [(1, .v I), (2, .v I), (3, .box K_PiSPiiqq 0), (7, .v I)]
def spec_l2Near_l0_o : Outs := [(.ret, [(6, .v .bool)]), (.normal, [])]
noncomputable def spec_l2Near_l0_r (N : Nat) (back : spec_l2Near_l0_H → Option spec_l2Near_l0_O) (d : spec_l2Near_l0_H) : Option spec_l2Near_l0_O :=
  let s1 : Int := d.1
  let s2 : Int := d.2.1
  let s3 : Int × (List (Int × Int × Unit)) × Unit := d.2.2.1
  let s7 : Int := d.2.2.2.1
  if (decide (s7 < (List.length s3.2.1 : Int))) = true then
    if (idxIn s7 (List.length s3.2.1)) = true then
    if ((at_ K_Piiq s3.2.1 s7.toNat).1 == s1) = true then
      if ((at_ K_Piiq s3.2.1 s7.toNat).2.1 == s2) = true then
        some (.inl (true, ()))
      else
        if ((at_ K_Piiq s3.2.1 s7.toNat).1 == s2) = true then
          if ((at_ K_Piiq s3.2.1 s7.toNat).2.1 == s1) = true then
            some (.inl (true, ()))
          else
            let x8 : Int := IntKind.wrap .i64 (s7 + (1 : Int))
            back ((s1, (s2, (s3, (x8, ())))))
        else
          let x9 : Int := IntKind.wrap .i64 (s7 + (1 : Int))
          back ((s1, (s2, (s3, (x9, ())))))
    else
      if ((at_ K_Piiq s3.2.1 s7.toNat).1 == s2) = true then
        if ((at_ K_Piiq s3.2.1 s7.toNat).2.1 == s1) = true then
          some (.inl (true, ()))
        else
          let x10 : Int := IntKind.wrap .i64 (s7 + (1 : Int))
          back ((s1, (s2, (s3, (x10, ())))))
      else
        let x11 : Int := IntKind.wrap .i64 (s7 + (1 : Int))
        back ((s1, (s2, (s3, (x11, ())))))
    else none
  else
    some (.inr (.inl ()))
noncomputable def spec_l2Near_l0 (N : Nat) : Nat → spec_l2Near_l0_H → Option spec_l2Near_l0_O
  | 0, _ => none
  | k + 1, d => spec_l2Near_l0_r N (spec_l2Near_l0 N k) d
theorem spec_l2Near_l0_ok (N : Nat) (back) (d) : roundR Γ_spec_l2Near (assoc []) 0 spec_l2Near_l0_h spec_l2Near_l0_o (loopOf Tryz.f124 0) back d = spec_l2Near_l0_r N back d := by kernel_rfl
noncomputable def F_spec_l2Near (N : Nat) (d : (Int × (List (Int × Int × Unit)) × Unit) × Int × Int × Unit) : Option (Bool × Unit) :=
  let a0 : Int × (List (Int × Int × Unit)) × Unit := d.1
  let a1 : Int := d.2.1
  let a2 : Int := d.2.2.1
  (spec_l2Near_l0 N N ((a1, (a2, (a0, ((0 : Int), ())))))).bind fun o5 => match o5 with
  | .inl d6 =>
    some (d6.1, ())
  | .inr (.inl d7) =>
    some (false, ())
theorem F_spec_l2Near_ok (N : Nat) (d) : fnR Γ_spec_l2Near (assoc [(0, ⟨spec_l2Near_l0_h, spec_l2Near_l0_o, spec_l2Near_l0 N N⟩)]) true [(K_PiSPiiqq, false), (I, false), (I, false)] [.bool] Tryz.f124.results.toList (bodyOf Tryz.f124) d = F_spec_l2Near N d := by kernel_rfl
noncomputable def S_spec_l2Near : FSig := ⟨[(K_PiSPiiqq, false), (I, false), (I, false)], [.bool], true, (G_l2Near)⟩
noncomputable def Γ_spec_l2Neighbors : Ctx := { tk := assoc tks, ar := assoc ars, fs := assoc [(124, S_spec_l2Near)] }
abbrev spec_l2Neighbors_l0_H := Int × (Int × (List (Int × Int × Unit)) × Unit) × List Int × Int × Unit
abbrev spec_l2Neighbors_l0_O := (List Int × Unit) ⊕ Empty
def spec_l2Neighbors_l0_h : Form := [(1, .v I), (2, .box K_PiSPiiqq 0), (5, .own K_Si 99), (6, .v I)]
def spec_l2Neighbors_l0_o : Outs := [(.normal, [(5, .own K_Si 99)])]
noncomputable def spec_l2Neighbors_l0_r (N : Nat) (back : spec_l2Neighbors_l0_H → Option spec_l2Neighbors_l0_O) (d : spec_l2Neighbors_l0_H) : Option spec_l2Neighbors_l0_O :=
  let s1 : Int := d.1
  let s2 : Int × (List (Int × Int × Unit)) × Unit := d.2.1
  let s5 : List Int := d.2.2.1
  let s6 : Int := d.2.2.2.1
  if (decide (s6 < s2.1)) = true then
    (G_l2Near ((s2, (s1, (s6, ()))))).bind fun r6 =>
    if (r6.1) = true then
      if (decide (List.length s5 + List.length ([s6]) ≤ lim)) = true then
      let x7 : Int := IntKind.wrap .i64 (s6 + (1 : Int))
      back ((s1, (s2, (s5 ++ ([s6]), (x7, ())))))
      else none
    else
      let x8 : Int := IntKind.wrap .i64 (s6 + (1 : Int))
      back ((s1, (s2, (s5, (x8, ())))))
  else
    some (.inl (s5, ()))
noncomputable def spec_l2Neighbors_l0 (N : Nat) : Nat → spec_l2Neighbors_l0_H → Option spec_l2Neighbors_l0_O
  | 0, _ => none
  | k + 1, d => spec_l2Neighbors_l0_r N (spec_l2Neighbors_l0 N k) d
theorem spec_l2Neighbors_l0_ok (N : Nat) (back) (d) : roundR Γ_spec_l2Neighbors (assoc []) 0 spec_l2Neighbors_l0_h spec_l2Neighbors_l0_o (loopOf Tryz.f98 0) back d = spec_l2Neighbors_l0_r N back d := by kernel_rfl
noncomputable def F_spec_l2Neighbors (N : Nat) (d : (Int × (List (Int × Int × Unit)) × Unit) × Int × Unit) : Option (List Int × Unit) :=
  let a0 : Int × (List (Int × Int × Unit)) × Unit := d.1
  let a1 : Int := d.2.1
  (spec_l2Neighbors_l0 N N ((a1, (a0, (([] : List Int), ((0 : Int), ())))))).bind fun o4 => match o4 with
  | .inl d5 =>
    some (d5.1, ())
theorem F_spec_l2Neighbors_ok (N : Nat) (d) : fnR Γ_spec_l2Neighbors (assoc [(0, ⟨spec_l2Neighbors_l0_h, spec_l2Neighbors_l0_o, spec_l2Neighbors_l0 N N⟩)]) true [(K_PiSPiiqq, false), (I, false)] [K_Si] Tryz.f98.results.toList (bodyOf Tryz.f98) d = F_spec_l2Neighbors N d := by kernel_rfl
noncomputable def S_spec_l2Neighbors : FSig := ⟨[(K_PiSPiiqq, false), (I, false)], [K_Si], true, (G_l2Neighbors)⟩
noncomputable def Γ_spec_l1Put : Ctx := { tk := assoc tks, ar := assoc ars, fs := assoc [] }
abbrev spec_l1Put_l0_H := List Int × Int × Int × Unit
abbrev spec_l1Put_l0_O := (List Int × Int × Int × Unit) ⊕ Empty
def spec_l1Put_l0_h : Form := [(0, .v K_Si), (1, .v I), (5, .v I)]
def spec_l1Put_l0_o : Outs := [(.normal, [(0, .v K_Si), (1, .v I), (5, .v I)])]
noncomputable def spec_l1Put_l0_r (N : Nat) (back : spec_l1Put_l0_H → Option spec_l1Put_l0_O) (d : spec_l1Put_l0_H) : Option spec_l1Put_l0_O :=
  let s0 : List Int := d.1
  let s1 : Int := d.2.1
  let s5 : Int := d.2.2.1
  if (decide (s5 < (List.length s0 : Int))) = true then
    if (idxIn s5 (List.length s0)) = true then
    if (decide (at_ I s0 s5.toNat < s1)) = true then
      let x11 : Int := IntKind.wrap .i64 (s5 + (1 : Int))
      back ((s0, (s1, (x11, ()))))
    else
      some (.inl ((s0, (s1, (s5, ())))))
    else none
  else
    some (.inl ((s0, (s1, (s5, ())))))
noncomputable def spec_l1Put_l0 (N : Nat) : Nat → spec_l1Put_l0_H → Option spec_l1Put_l0_O
  | 0, _ => none
  | k + 1, d => spec_l1Put_l0_r N (spec_l1Put_l0 N k) d
theorem spec_l1Put_l0_ok (N : Nat) (back) (d) : roundR Γ_spec_l1Put (assoc []) 0 spec_l1Put_l0_h spec_l1Put_l0_o (loopOf Tryz.f97 0) back d = spec_l1Put_l0_r N back d := by kernel_rfl
noncomputable def F_spec_l1Put (N : Nat) (d : List Int × Int × Unit) : Option (List Int × Unit) :=
  let a0 : List Int := d.1
  let a1 : Int := d.2.1
  (spec_l1Put_l0 N N ((a0, (a1, ((0 : Int), ()))))).bind fun o5 => match o5 with
  | .inl d6 =>
    if (decide (d6.2.2.1 < (List.length d6.1 : Int))) = true then
      if (idxIn d6.2.2.1 (List.length d6.1)) = true then
      if (at_ I d6.1 d6.2.2.1.toNat == d6.2.1) = true then
        some (d6.1, ())
      else
        if ((decide (0 ≤ (0 : Int)) && decide ((0 : Int) ≤ d6.2.2.1) && decide (d6.2.2.1 ≤ (List.length d6.1 : Int)))) = true then
        if (decide (List.length ([] : List Int) + List.length (sub_ d6.1 (0 : Int) d6.2.2.1) ≤ lim)) = true then
        let x7 : List Int := ([] : List Int) ++ (sub_ d6.1 (0 : Int) d6.2.2.1)
        if (decide (List.length x7 + List.length ([d6.2.1]) ≤ lim)) = true then
        if ((decide (0 ≤ d6.2.2.1) && decide (d6.2.2.1 ≤ (List.length d6.1 : Int)) && decide ((List.length d6.1 : Int) ≤ (List.length d6.1 : Int)))) = true then
        let x8 : List Int := sub_ d6.1 d6.2.2.1 (List.length d6.1 : Int)
        if (decide (List.length (x7 ++ ([d6.2.1])) + List.length x8 ≤ lim)) = true then
        some (((x7 ++ ([d6.2.1])) ++ x8, ()))
        else none
        else none
        else none
        else none
        else none
      else none
    else
      if ((decide (0 ≤ (0 : Int)) && decide ((0 : Int) ≤ d6.2.2.1) && decide (d6.2.2.1 ≤ (List.length d6.1 : Int)))) = true then
      if (decide (List.length ([] : List Int) + List.length (sub_ d6.1 (0 : Int) d6.2.2.1) ≤ lim)) = true then
      let x9 : List Int := ([] : List Int) ++ (sub_ d6.1 (0 : Int) d6.2.2.1)
      if (decide (List.length x9 + List.length ([d6.2.1]) ≤ lim)) = true then
      if ((decide (0 ≤ d6.2.2.1) && decide (d6.2.2.1 ≤ (List.length d6.1 : Int)) && decide ((List.length d6.1 : Int) ≤ (List.length d6.1 : Int)))) = true then
      let x10 : List Int := sub_ d6.1 d6.2.2.1 (List.length d6.1 : Int)
      if (decide (List.length (x9 ++ ([d6.2.1])) + List.length x10 ≤ lim)) = true then
      some (((x9 ++ ([d6.2.1])) ++ x10, ()))
      else none
      else none
      else none
      else none
      else none
theorem F_spec_l1Put_ok (N : Nat) (d) : fnR Γ_spec_l1Put (assoc [(0, ⟨spec_l1Put_l0_h, spec_l1Put_l0_o, spec_l1Put_l0 N N⟩)]) false [(K_Si, false), (I, false)] [K_Si] Tryz.f97.results.toList (bodyOf Tryz.f97) d = F_spec_l1Put N d := by kernel_rfl
noncomputable def S_spec_l1Put : FSig := ⟨[(K_Si, false), (I, false)], [K_Si], false, (G_l1Put)⟩
noncomputable def Γ_spec_l2Ball : Ctx := { tk := assoc tks, ar := assoc ars, fs := assoc [(97, S_spec_l1Put), (98, S_spec_l2Neighbors)] }
noncomputable def F_spec_l2Ball (N : Nat) (d : (Int × (List (Int × Int × Unit)) × Unit) × Int × Unit) : Option (List Int × Unit) :=
  let a0 : Int × (List (Int × Int × Unit)) × Unit := d.1
  let a1 : Int := d.2.1
  (G_l2Neighbors ((a0, (a1, ())))).bind fun r3 =>
  (G_l1Put ((r3.1, (a1, ())))).bind fun r4 =>
  some (r4.1, ())
theorem F_spec_l2Ball_ok (N : Nat) (d) : fnR Γ_spec_l2Ball (assoc []) false [(K_PiSPiiqq, false), (I, false)] [K_Si] Tryz.f56.results.toList (bodyOf Tryz.f56) d = F_spec_l2Ball N d := by kernel_rfl
noncomputable def S_spec_l2Ball : FSig := ⟨[(K_PiSPiiqq, false), (I, false)], [K_Si], false, (F_spec_l2Ball 0)⟩
noncomputable def Γ_spec_l1Own : Ctx := { tk := assoc tks, ar := assoc ars, fs := assoc [] }
noncomputable def F_spec_l1Own (N : Nat) (d : List Int × Unit) : Option (List Int × Unit) :=
  let a0 : List Int := d.1
  if (decide (List.length ([] : List Int) + List.length a0 ≤ lim)) = true then
  some (([] : List Int) ++ a0, ())
  else none
theorem F_spec_l1Own_ok (N : Nat) (d) : fnR Γ_spec_l1Own (assoc []) true [(K_Si, false)] [K_Si] Tryz.f73.results.toList (bodyOf Tryz.f73) d = F_spec_l1Own N d := by kernel_rfl
noncomputable def S_spec_l1Own : FSig := ⟨[(K_Si, false)], [K_Si], true, (F_spec_l1Own 0)⟩
noncomputable def Γ_spec_l4Sorted : Ctx := { tk := assoc tks, ar := assoc ars, fs := assoc [], dm := fun t => Nat.beq t 3, cs := assoc [] }
abbrev spec_l4Sorted_l2_H := List Int × List Int × Int × Int × Unit
abbrev spec_l4Sorted_l2_O := (List Int × List Int × Int × Int × Unit) ⊕ Empty
def spec_l4Sorted_l2_h : Form := [(0, .v K_Si), (3, .v K_Si), (4, .v I), (5, .v I)]
def spec_l4Sorted_l2_o : Outs := [(.normal, [(0, .v K_Si), (3, .v K_Si), (4, .v I), (5, .v I)])]
noncomputable def spec_l4Sorted_l2_r (N : Nat) (back : spec_l4Sorted_l2_H → Option spec_l4Sorted_l2_O) (d : spec_l4Sorted_l2_H) : Option spec_l4Sorted_l2_O :=
  let s0 : List Int := d.1
  let s3 : List Int := d.2.1
  let s4 : Int := d.2.2.1
  let s5 : Int := d.2.2.2.1
  if (decide (s5 < (List.length s3 : Int))) = true then
    if (idxIn s5 (List.length s3)) = true then
    if (idxIn s4 (List.length s0)) = true then
    if (decide (at_ I s3 s5.toNat ≤ at_ I s0 s4.toNat)) = true then
      let x26 : Int := IntKind.wrap .i64 (s5 + (1 : Int))
      back ((s0, (s3, (s4, (x26, ())))))
    else
      some (.inl ((s0, (s3, (s4, (s5, ()))))))
    else none
    else none
  else
    some (.inl ((s0, (s3, (s4, (s5, ()))))))
noncomputable def spec_l4Sorted_l2 (N : Nat) : Nat → spec_l4Sorted_l2_H → Option spec_l4Sorted_l2_O
  | 0, _ => none
  | k + 1, d => spec_l4Sorted_l2_r N (spec_l4Sorted_l2 N k) d
theorem spec_l4Sorted_l2_ok (N : Nat) (back) (d) : roundR Γ_spec_l4Sorted (assoc []) 2 spec_l4Sorted_l2_h spec_l4Sorted_l2_o (loopOf Tryz.f118 2) back d = spec_l4Sorted_l2_r N back d := by kernel_rfl
abbrev spec_l4Sorted_l0_H := List Int × List Int × Int × Unit
abbrev spec_l4Sorted_l0_O := (List Int × Unit) ⊕ Empty
def spec_l4Sorted_l0_h : Form := [(0, .v K_Si), (3, .v K_Si), (4, .v I)]
def spec_l4Sorted_l0_o : Outs := [(.normal, [(3, .v K_Si)])]
noncomputable def spec_l4Sorted_l0_r (N : Nat) (back : spec_l4Sorted_l0_H → Option spec_l4Sorted_l0_O) (d : spec_l4Sorted_l0_H) : Option spec_l4Sorted_l0_O :=
  let s0 : List Int := d.1
  let s3 : List Int := d.2.1
  let s4 : Int := d.2.2.1
  if (decide (s4 < (List.length s0 : Int))) = true then
    (spec_l4Sorted_l2 N N ((s0, (s3, (s4, ((0 : Int), ())))))).bind fun o20 => match o20 with
    | .inl d21 =>
      if ((decide (0 ≤ (0 : Int)) && decide ((0 : Int) ≤ d21.2.2.2.1) && decide (d21.2.2.2.1 ≤ (List.length d21.2.1 : Int)))) = true then
      let x22 : List Int := sub_ d21.2.1 (0 : Int) d21.2.2.2.1
      if (decide (List.length ([] : List Int) + List.length x22 ≤ lim)) = true then
      if (idxIn d21.2.2.1 (List.length d21.1)) = true then
      if (decide (List.length (([] : List Int) ++ x22) + List.length ([at_ I d21.1 d21.2.2.1.toNat]) ≤ lim)) = true then
      let x23 : List Int := (([] : List Int) ++ x22) ++ ([at_ I d21.1 d21.2.2.1.toNat])
      if ((decide (0 ≤ d21.2.2.2.1) && decide (d21.2.2.2.1 ≤ (List.length d21.2.1 : Int)) && decide ((List.length d21.2.1 : Int) ≤ (List.length d21.2.1 : Int)))) = true then
      let x24 : List Int := sub_ d21.2.1 d21.2.2.2.1 (List.length d21.2.1 : Int)
      if (decide (List.length x23 + List.length x24 ≤ lim)) = true then
      let x25 : Int := IntKind.wrap .i64 (d21.2.2.1 + (1 : Int))
      back ((d21.1, (x23 ++ x24, (x25, ()))))
      else none
      else none
      else none
      else none
      else none
      else none
  else
    some (.inl (s3, ()))
noncomputable def spec_l4Sorted_l0 (N : Nat) : Nat → spec_l4Sorted_l0_H → Option spec_l4Sorted_l0_O
  | 0, _ => none
  | k + 1, d => spec_l4Sorted_l0_r N (spec_l4Sorted_l0 N k) d
theorem spec_l4Sorted_l0_ok (N : Nat) (back) (d) : roundR Γ_spec_l4Sorted (assoc [(2, ⟨spec_l4Sorted_l2_h, spec_l4Sorted_l2_o, spec_l4Sorted_l2 N N⟩)]) 0 spec_l4Sorted_l0_h spec_l4Sorted_l0_o (loopOf Tryz.f118 0) back d = spec_l4Sorted_l0_r N back d := by kernel_rfl
noncomputable def F_spec_l4Sorted (N : Nat) (d : List Int × Unit) : Option (List Int × Unit) :=
  let a0 : List Int := d.1
  (spec_l4Sorted_l0 N N ((a0, (([] : List Int), ((0 : Int), ()))))).bind fun o17 => match o17 with
  | .inl d18 =>
    some (d18.1, ())
theorem F_spec_l4Sorted_ok (N : Nat) (d) : fnR Γ_spec_l4Sorted (assoc [(0, ⟨spec_l4Sorted_l0_h, spec_l4Sorted_l0_o, spec_l4Sorted_l0 N N⟩)]) false [(K_Si, false)] [K_Si] Tryz.f118.results.toList (bodyOf Tryz.f118) d = F_spec_l4Sorted N d := by kernel_rfl
noncomputable def S_spec_l4Sorted : FSig := ⟨[(K_Si, false)], [K_Si], false, (G_l4Sorted)⟩
noncomputable def Γ_spec_l4Less : Ctx := { tk := assoc tks, ar := assoc ars, fs := assoc [] }
abbrev spec_l4Less_l0_H := List Int × List Int × Int × Unit
abbrev spec_l4Less_l0_O := (Bool × Unit) ⊕ Unit ⊕ Empty
def spec_l4Less_l0_h : Form := [(0, .v K_Si), (1, .v K_Si), (5, .v I)]
def spec_l4Less_l0_o : Outs := [(.ret, [(4, .v .bool)]), (.normal, [])]
noncomputable def spec_l4Less_l0_r (N : Nat) (back : spec_l4Less_l0_H → Option spec_l4Less_l0_O) (d : spec_l4Less_l0_H) : Option spec_l4Less_l0_O :=
  let s0 : List Int := d.1
  let s1 : List Int := d.2.1
  let s5 : Int := d.2.2.1
  if (decide (s5 < (List.length s0 : Int))) = true then
    if (idxIn s5 (List.length s0)) = true then
    if (idxIn s5 (List.length s1)) = true then
    if (at_ I s0 s5.toNat != at_ I s1 s5.toNat) = true then
      if (idxIn s5 (List.length s0)) = true then
      if (idxIn s5 (List.length s1)) = true then
      some (.inl (decide (at_ I s0 s5.toNat < at_ I s1 s5.toNat), ()))
      else none
      else none
    else
      let x5 : Int := IntKind.wrap .i64 (s5 + (1 : Int))
      back ((s0, (s1, (x5, ()))))
    else none
    else none
  else
    some (.inr (.inl ()))
noncomputable def spec_l4Less_l0 (N : Nat) : Nat → spec_l4Less_l0_H → Option spec_l4Less_l0_O
  | 0, _ => none
  | k + 1, d => spec_l4Less_l0_r N (spec_l4Less_l0 N k) d
theorem spec_l4Less_l0_ok (N : Nat) (back) (d) : roundR Γ_spec_l4Less (assoc []) 0 spec_l4Less_l0_h spec_l4Less_l0_o (loopOf Tryz.f131 0) back d = spec_l4Less_l0_r N back d := by kernel_rfl
noncomputable def F_spec_l4Less (N : Nat) (d : List Int × List Int × Unit) : Option (Bool × Unit) :=
  let a0 : List Int := d.1
  let a1 : List Int := d.2.1
  (spec_l4Less_l0 N N ((a0, (a1, ((0 : Int), ()))))).bind fun o2 => match o2 with
  | .inl d3 =>
    some (d3.1, ())
  | .inr (.inl d4) =>
    some (false, ())
theorem F_spec_l4Less_ok (N : Nat) (d) : fnR Γ_spec_l4Less (assoc [(0, ⟨spec_l4Less_l0_h, spec_l4Less_l0_o, spec_l4Less_l0 N N⟩)]) true [(K_Si, false), (K_Si, false)] [.bool] Tryz.f131.results.toList (bodyOf Tryz.f131) d = F_spec_l4Less N d := by kernel_rfl
noncomputable def S_spec_l4Less : FSig := ⟨[(K_Si, false), (K_Si, false)], [.bool], true, (G_l4Less)⟩
noncomputable def Γ_spec_l1Same : Ctx := { tk := assoc tks, ar := assoc ars, fs := assoc [] }
abbrev spec_l1Same_l0_H := List Int × List Int × Int × Unit
abbrev spec_l1Same_l0_O := (Bool × Unit) ⊕ Unit ⊕ Empty
def spec_l1Same_l0_h : Form := [(0, .v K_Si), (1, .v K_Si), (5, .v I)]
def spec_l1Same_l0_o : Outs := [(.ret, [(4, .v .bool)]), (.normal, [])]
noncomputable def spec_l1Same_l0_r (N : Nat) (back : spec_l1Same_l0_H → Option spec_l1Same_l0_O) (d : spec_l1Same_l0_H) : Option spec_l1Same_l0_O :=
  let s0 : List Int := d.1
  let s1 : List Int := d.2.1
  let s5 : Int := d.2.2.1
  if (decide (s5 < (List.length s0 : Int))) = true then
    if (idxIn s5 (List.length s0)) = true then
    if (idxIn s5 (List.length s1)) = true then
    if (at_ I s0 s5.toNat != at_ I s1 s5.toNat) = true then
      some (.inl (false, ()))
    else
      let x5 : Int := IntKind.wrap .i64 (s5 + (1 : Int))
      back ((s0, (s1, (x5, ()))))
    else none
    else none
  else
    some (.inr (.inl ()))
noncomputable def spec_l1Same_l0 (N : Nat) : Nat → spec_l1Same_l0_H → Option spec_l1Same_l0_O
  | 0, _ => none
  | k + 1, d => spec_l1Same_l0_r N (spec_l1Same_l0 N k) d
theorem spec_l1Same_l0_ok (N : Nat) (back) (d) : roundR Γ_spec_l1Same (assoc []) 0 spec_l1Same_l0_h spec_l1Same_l0_o (loopOf Tryz.f108 0) back d = spec_l1Same_l0_r N back d := by kernel_rfl
noncomputable def F_spec_l1Same (N : Nat) (d : List Int × List Int × Unit) : Option (Bool × Unit) :=
  let a0 : List Int := d.1
  let a1 : List Int := d.2.1
  if ((List.length a0 : Int) != (List.length a1 : Int)) = true then
    some (false, ())
  else
    (spec_l1Same_l0 N N ((a0, (a1, ((0 : Int), ()))))).bind fun o2 => match o2 with
    | .inl d3 =>
      some (d3.1, ())
    | .inr (.inl d4) =>
      some (true, ())
theorem F_spec_l1Same_ok (N : Nat) (d) : fnR Γ_spec_l1Same (assoc [(0, ⟨spec_l1Same_l0_h, spec_l1Same_l0_o, spec_l1Same_l0 N N⟩)]) true [(K_Si, false), (K_Si, false)] [.bool] Tryz.f108.results.toList (bodyOf Tryz.f108) d = F_spec_l1Same N d := by kernel_rfl
noncomputable def S_spec_l1Same : FSig := ⟨[(K_Si, false), (K_Si, false)], [.bool], true, (G_l1Same)⟩
noncomputable def Γ_spec_l4Put : Ctx := { tk := assoc tks, ar := assoc ars, fs := assoc [(108, S_spec_l1Same), (131, S_spec_l4Less)] }
abbrev spec_l4Put_l0_H := List (List Int) × List Int × Int × Unit
abbrev spec_l4Put_l0_O := (List (List Int) × List Int × Int × Unit) ⊕ Empty
def spec_l4Put_l0_h : Form := [(0, .v K_SSi), (1, .v K_Si), (5, .v I)]
def spec_l4Put_l0_o : Outs := [(.normal, [(0, .v K_SSi), (1, .v K_Si), (5, .v I)])]
noncomputable def spec_l4Put_l0_r (N : Nat) (back : spec_l4Put_l0_H → Option spec_l4Put_l0_O) (d : spec_l4Put_l0_H) : Option spec_l4Put_l0_O :=
  let s0 : List (List Int) := d.1
  let s1 : List Int := d.2.1
  let s5 : Int := d.2.2.1
  if (decide (s5 < (List.length s0 : Int))) = true then
    if (idxIn s5 (List.length s0)) = true then
    (G_l4Less ((at_ K_Si s0 s5.toNat, (s1, ())))).bind fun r15 =>
    if (r15.1) = true then
      let x16 : Int := IntKind.wrap .i64 (s5 + (1 : Int))
      back ((s0, (s1, (x16, ()))))
    else
      some (.inl ((s0, (s1, (s5, ())))))
    else none
  else
    some (.inl ((s0, (s1, (s5, ())))))
noncomputable def spec_l4Put_l0 (N : Nat) : Nat → spec_l4Put_l0_H → Option spec_l4Put_l0_O
  | 0, _ => none
  | k + 1, d => spec_l4Put_l0_r N (spec_l4Put_l0 N k) d
theorem spec_l4Put_l0_ok (N : Nat) (back) (d) : roundR Γ_spec_l4Put (assoc []) 0 spec_l4Put_l0_h spec_l4Put_l0_o (loopOf Tryz.f117 0) back d = spec_l4Put_l0_r N back d := by kernel_rfl
noncomputable def F_spec_l4Put (N : Nat) (d : List (List Int) × List Int × Unit) : Option (List (List Int) × Unit) :=
  let a0 : List (List Int) := d.1
  let a1 : List Int := d.2.1
  (spec_l4Put_l0 N N ((a0, (a1, ((0 : Int), ()))))).bind fun o8 => match o8 with
  | .inl d9 =>
    if (decide (d9.2.2.1 < (List.length d9.1 : Int))) = true then
      if (idxIn d9.2.2.1 (List.length d9.1)) = true then
      (G_l1Same ((at_ K_Si d9.1 d9.2.2.1.toNat, (d9.2.1, ())))).bind fun r10 =>
      if (r10.1) = true then
        some (d9.1, ())
      else
        if ((decide (0 ≤ (0 : Int)) && decide ((0 : Int) ≤ d9.2.2.1) && decide (d9.2.2.1 ≤ (List.length d9.1 : Int)))) = true then
        if (decide (List.length ([] : List (List Int)) + List.length (sub_ d9.1 (0 : Int) d9.2.2.1) ≤ lim)) = true then
        let x11 : List (List Int) := ([] : List (List Int)) ++ (sub_ d9.1 (0 : Int) d9.2.2.1)
        if (decide (List.length x11 + List.length ([d9.2.1]) ≤ lim)) = true then
        if ((decide (0 ≤ d9.2.2.1) && decide (d9.2.2.1 ≤ (List.length d9.1 : Int)) && decide ((List.length d9.1 : Int) ≤ (List.length d9.1 : Int)))) = true then
        let x12 : List (List Int) := sub_ d9.1 d9.2.2.1 (List.length d9.1 : Int)
        if (decide (List.length (x11 ++ ([d9.2.1])) + List.length x12 ≤ lim)) = true then
        some (((x11 ++ ([d9.2.1])) ++ x12, ()))
        else none
        else none
        else none
        else none
        else none
      else none
    else
      if ((decide (0 ≤ (0 : Int)) && decide ((0 : Int) ≤ d9.2.2.1) && decide (d9.2.2.1 ≤ (List.length d9.1 : Int)))) = true then
      if (decide (List.length ([] : List (List Int)) + List.length (sub_ d9.1 (0 : Int) d9.2.2.1) ≤ lim)) = true then
      let x13 : List (List Int) := ([] : List (List Int)) ++ (sub_ d9.1 (0 : Int) d9.2.2.1)
      if (decide (List.length x13 + List.length ([d9.2.1]) ≤ lim)) = true then
      if ((decide (0 ≤ d9.2.2.1) && decide (d9.2.2.1 ≤ (List.length d9.1 : Int)) && decide ((List.length d9.1 : Int) ≤ (List.length d9.1 : Int)))) = true then
      let x14 : List (List Int) := sub_ d9.1 d9.2.2.1 (List.length d9.1 : Int)
      if (decide (List.length (x13 ++ ([d9.2.1])) + List.length x14 ≤ lim)) = true then
      some (((x13 ++ ([d9.2.1])) ++ x14, ()))
      else none
      else none
      else none
      else none
      else none
theorem F_spec_l4Put_ok (N : Nat) (d) : fnR Γ_spec_l4Put (assoc [(0, ⟨spec_l4Put_l0_h, spec_l4Put_l0_o, spec_l4Put_l0 N N⟩)]) false [(K_SSi, false), (K_Si, false)] [K_SSi] Tryz.f117.results.toList (bodyOf Tryz.f117) d = F_spec_l4Put N d := by kernel_rfl
noncomputable def S_spec_l4Put : FSig := ⟨[(K_SSi, false), (K_Si, false)], [K_SSi], false, (G_l4Put)⟩
noncomputable def Γ_spec_l4Moves : Ctx := { tk := assoc tks, ar := assoc ars, fs := assoc [(56, S_spec_l2Ball), (73, S_spec_l1Own), (117, S_spec_l4Put), (118, S_spec_l4Sorted)], dm := fun t => Nat.beq t 5 || Nat.beq t 11, cs := assoc [] }
abbrev spec_l4Moves_l4_H := List Int × (Int × (List (Int × Int × Unit)) × Unit) × List (List Int) × Int × List (List Int) × List Int × Int × Int × Unit
abbrev spec_l4Moves_l4_O := (List Int × (Int × (List (Int × Int × Unit)) × Unit) × List (List Int) × Int × List (List Int) × List Int × Int × Unit) ⊕ Empty
def spec_l4Moves_l4_h : Form := [(1, .v K_Si), (2, .box K_PiSPiiqq 0), (5, .v K_SSi), (6, .v I), (7, .own K_SSi 100), (8, .v K_Si), (9, .v I), (10, .v I)]
def spec_l4Moves_l4_o : Outs := [(.normal, [(1, .v K_Si), (2, .box K_PiSPiiqq 0), (5, .v K_SSi), (6, .v I), (7, .own K_SSi 100), (8, .v K_Si), (9, .v I)])]
noncomputable def spec_l4Moves_l4_r (N : Nat) (back : spec_l4Moves_l4_H → Option spec_l4Moves_l4_O) (d : spec_l4Moves_l4_H) : Option spec_l4Moves_l4_O :=
  let s1 : List Int := d.1
  let s2 : Int × (List (Int × Int × Unit)) × Unit := d.2.1
  let s5 : List (List Int) := d.2.2.1
  let s6 : Int := d.2.2.2.1
  let s7 : List (List Int) := d.2.2.2.2.1
  let s8 : List Int := d.2.2.2.2.2.1
  let s9 : Int := d.2.2.2.2.2.2.1
  let s10 : Int := d.2.2.2.2.2.2.2.1
  if (decide (s10 < (List.length s8 : Int))) = true then
    if (idxIn s9 (List.length s5)) = true then
    ((F_spec_l1Own 0) (at_ K_Si s5 s9.toNat, ())).bind fun r51 =>
    if (idxIn s10 (List.length s8)) = true then
    if (decide (List.length r51.1 + List.length ([at_ I s8 s10.toNat]) ≤ lim)) = true then
    let x52 : List Int := r51.1 ++ ([at_ I s8 s10.toNat])
    if (decide (List.length s7 + List.length ([x52]) ≤ lim)) = true then
    let x53 : Int := IntKind.wrap .i64 (s10 + (1 : Int))
    back ((s1, (s2, (s5, (s6, (s7 ++ ([x52]), (s8, (s9, (x53, ())))))))))
    else none
    else none
    else none
    else none
  else
    some (.inl ((s1, (s2, (s5, (s6, (s7, (s8, (s9, ())))))))))
noncomputable def spec_l4Moves_l4 (N : Nat) : Nat → spec_l4Moves_l4_H → Option spec_l4Moves_l4_O
  | 0, _ => none
  | k + 1, d => spec_l4Moves_l4_r N (spec_l4Moves_l4 N k) d
theorem spec_l4Moves_l4_ok (N : Nat) (back) (d) : roundR Γ_spec_l4Moves (assoc []) 4 spec_l4Moves_l4_h spec_l4Moves_l4_o (loopOf Tryz.f83 4) back d = spec_l4Moves_l4_r N back d := by kernel_rfl
abbrev spec_l4Moves_l2_H := List Int × (Int × (List (Int × Int × Unit)) × Unit) × List (List Int) × Int × List (List Int) × List Int × Int × Unit
abbrev spec_l4Moves_l2_O := (List Int × (Int × (List (Int × Int × Unit)) × Unit) × Int × List (List Int) × Unit) ⊕ Empty
def spec_l4Moves_l2_h : Form := [(1, .v K_Si), (2, .box K_PiSPiiqq 0), (5, .v K_SSi), (6, .v I), (7, .own K_SSi 100), (8, .v K_Si), (9, .v I)]
def spec_l4Moves_l2_o : Outs := [(.normal, [(1, .v K_Si), (2, .box K_PiSPiiqq 0), (6, .v I), (7, .own K_SSi 100)])]
noncomputable def spec_l4Moves_l2_r (N : Nat) (back : spec_l4Moves_l2_H → Option spec_l4Moves_l2_O) (d : spec_l4Moves_l2_H) : Option spec_l4Moves_l2_O :=
  let s1 : List Int := d.1
  let s2 : Int × (List (Int × Int × Unit)) × Unit := d.2.1
  let s5 : List (List Int) := d.2.2.1
  let s6 : Int := d.2.2.2.1
  let s7 : List (List Int) := d.2.2.2.2.1
  let s8 : List Int := d.2.2.2.2.2.1
  let s9 : Int := d.2.2.2.2.2.2.1
  if (decide (s9 < (List.length s5 : Int))) = true then
    (spec_l4Moves_l4 N N ((s1, (s2, (s5, (s6, (s7, (s8, (s9, ((0 : Int), ())))))))))).bind fun o48 => match o48 with
    | .inl d49 =>
      let x50 : Int := IntKind.wrap .i64 (d49.2.2.2.2.2.2.1 + (1 : Int))
      back ((d49.1, (d49.2.1, (d49.2.2.1, (d49.2.2.2.1, (d49.2.2.2.2.1, (d49.2.2.2.2.2.1, (x50, ()))))))))
  else
    some (.inl ((s1, (s2, (s6, (s7, ()))))))
noncomputable def spec_l4Moves_l2 (N : Nat) : Nat → spec_l4Moves_l2_H → Option spec_l4Moves_l2_O
  | 0, _ => none
  | k + 1, d => spec_l4Moves_l2_r N (spec_l4Moves_l2 N k) d
theorem spec_l4Moves_l2_ok (N : Nat) (back) (d) : roundR Γ_spec_l4Moves (assoc [(4, ⟨spec_l4Moves_l4_h, spec_l4Moves_l4_o, spec_l4Moves_l4 N N⟩)]) 2 spec_l4Moves_l2_h spec_l4Moves_l2_o (loopOf Tryz.f83 2) back d = spec_l4Moves_l2_r N back d := by kernel_rfl
abbrev spec_l4Moves_l0_H := List Int × (Int × (List (Int × Int × Unit)) × Unit) × List (List Int) × Int × Unit
abbrev spec_l4Moves_l0_O := (List (List Int) × Unit) ⊕ Empty
def spec_l4Moves_l0_h : Form := [(1, .v K_Si), (2, .box K_PiSPiiqq 0), (5, .v K_SSi), (6, .v I)]
def spec_l4Moves_l0_o : Outs := [(.normal, [(5, .v K_SSi)])]
noncomputable def spec_l4Moves_l0_r (N : Nat) (back : spec_l4Moves_l0_H → Option spec_l4Moves_l0_O) (d : spec_l4Moves_l0_H) : Option spec_l4Moves_l0_O :=
  let s1 : List Int := d.1
  let s2 : Int × (List (Int × Int × Unit)) × Unit := d.2.1
  let s5 : List (List Int) := d.2.2.1
  let s6 : Int := d.2.2.2.1
  if (decide (s6 < (List.length s1 : Int))) = true then
    if (idxIn s6 (List.length s1)) = true then
    ((F_spec_l2Ball 0) ((s2, (at_ I s1 s6.toNat, ())))).bind fun r35 =>
    (spec_l4Moves_l2 N N ((s1, (s2, (s5, (s6, (([] : List (List Int)), (r35.1, ((0 : Int), ()))))))))).bind fun o42 => match o42 with
    | .inl d43 =>
      let x44 : Int := IntKind.wrap .i64 (d43.2.2.1 + (1 : Int))
      back ((d43.1, (d43.2.1, (d43.2.2.2.1, (x44, ())))))
    else none
  else
    some (.inl (s5, ()))
noncomputable def spec_l4Moves_l0 (N : Nat) : Nat → spec_l4Moves_l0_H → Option spec_l4Moves_l0_O
  | 0, _ => none
  | k + 1, d => spec_l4Moves_l0_r N (spec_l4Moves_l0 N k) d
theorem spec_l4Moves_l0_ok (N : Nat) (back) (d) : roundR Γ_spec_l4Moves (assoc [(2, ⟨spec_l4Moves_l2_h, spec_l4Moves_l2_o, spec_l4Moves_l2 N N⟩)]) 0 spec_l4Moves_l0_h spec_l4Moves_l0_o (loopOf Tryz.f83 0) back d = spec_l4Moves_l0_r N back d := by kernel_rfl
abbrev spec_l4Moves_l6_H := List (List Int) × List (List Int) × Int × Unit
abbrev spec_l4Moves_l6_O := (List (List Int) × Unit) ⊕ Empty
def spec_l4Moves_l6_h : Form := [(5, .v K_SSi), (11, .v K_SSi), (12, .v I)]
def spec_l4Moves_l6_o : Outs := [(.normal, [(11, .v K_SSi)])]
noncomputable def spec_l4Moves_l6_r (N : Nat) (back : spec_l4Moves_l6_H → Option spec_l4Moves_l6_O) (d : spec_l4Moves_l6_H) : Option spec_l4Moves_l6_O :=
  let s5 : List (List Int) := d.1
  let s11 : List (List Int) := d.2.1
  let s12 : Int := d.2.2.1
  if (decide (s12 < (List.length s5 : Int))) = true then
    if (idxIn s12 (List.length s5)) = true then
    (G_l4Sorted (at_ K_Si s5 s12.toNat, ())).bind fun r54 =>
    (G_l4Put ((s11, (r54.1, ())))).bind fun r55 =>
    let x56 : Int := IntKind.wrap .i64 (s12 + (1 : Int))
    back ((s5, (r55.1, (x56, ()))))
    else none
  else
    some (.inl (s11, ()))
noncomputable def spec_l4Moves_l6 (N : Nat) : Nat → spec_l4Moves_l6_H → Option spec_l4Moves_l6_O
  | 0, _ => none
  | k + 1, d => spec_l4Moves_l6_r N (spec_l4Moves_l6 N k) d
theorem spec_l4Moves_l6_ok (N : Nat) (back) (d) : roundR Γ_spec_l4Moves (assoc []) 6 spec_l4Moves_l6_h spec_l4Moves_l6_o (loopOf Tryz.f83 6) back d = spec_l4Moves_l6_r N back d := by kernel_rfl
noncomputable def F_spec_l4Moves (N : Nat) (d : (Int × (List (Int × Int × Unit)) × Unit) × List Int × Unit) : Option (List (List Int) × Unit) :=
  let a0 : Int × (List (Int × Int × Unit)) × Unit := d.1
  let a1 : List Int := d.2.1
  (spec_l4Moves_l0 N N ((a1, (a0, ([([] : List Int)], ((0 : Int), ())))))).bind fun o28 => match o28 with
  | .inl d29 =>
    (spec_l4Moves_l6 N N ((d29.1, (([] : List (List Int)), ((0 : Int), ()))))).bind fun o33 => match o33 with
    | .inl d34 =>
      some (d34.1, ())
theorem F_spec_l4Moves_ok (N : Nat) (d) : fnR Γ_spec_l4Moves (assoc [(0, ⟨spec_l4Moves_l0_h, spec_l4Moves_l0_o, spec_l4Moves_l0 N N⟩), (6, ⟨spec_l4Moves_l6_h, spec_l4Moves_l6_o, spec_l4Moves_l6 N N⟩)]) false [(K_PiSPiiqq, false), (K_Si, false)] [K_SSi] Tryz.f83.results.toList (bodyOf Tryz.f83) d = F_spec_l4Moves N d := by kernel_rfl
noncomputable def S_spec_l4Moves : FSig := ⟨[(K_PiSPiiqq, false), (K_Si, false)], [K_SSi], false, (G_l4Moves)⟩
noncomputable def Γ_spec_l4At : Ctx := { tk := assoc tks, ar := assoc ars, fs := assoc [(108, S_spec_l1Same)] }
abbrev spec_l4At_l0_H := List (List Int) × List Int × Int × Unit
abbrev spec_l4At_l0_O := (Int × Unit) ⊕ Unit ⊕ Empty
def spec_l4At_l0_h : Form := [(0, .v K_SSi), (1, .v K_Si), (5, .v I)]
def spec_l4At_l0_o : Outs := [(.ret, [(4, .v I)]), (.normal, [])]
noncomputable def spec_l4At_l0_r (N : Nat) (back : spec_l4At_l0_H → Option spec_l4At_l0_O) (d : spec_l4At_l0_H) : Option spec_l4At_l0_O :=
  let s0 : List (List Int) := d.1
  let s1 : List Int := d.2.1
  let s5 : Int := d.2.2.1
  if (decide (s5 < (List.length s0 : Int))) = true then
    if (idxIn s5 (List.length s0)) = true then
    (G_l1Same ((at_ K_Si s0 s5.toNat, (s1, ())))).bind fun r6 =>
    if (r6.1) = true then
      some (.inl (s5, ()))
    else
      let x7 : Int := IntKind.wrap .i64 (s5 + (1 : Int))
      back ((s0, (s1, (x7, ()))))
    else none
  else
    some (.inr (.inl ()))
noncomputable def spec_l4At_l0 (N : Nat) : Nat → spec_l4At_l0_H → Option spec_l4At_l0_O
  | 0, _ => none
  | k + 1, d => spec_l4At_l0_r N (spec_l4At_l0 N k) d
theorem spec_l4At_l0_ok (N : Nat) (back) (d) : roundR Γ_spec_l4At (assoc []) 0 spec_l4At_l0_h spec_l4At_l0_o (loopOf Tryz.f66 0) back d = spec_l4At_l0_r N back d := by kernel_rfl
noncomputable def F_spec_l4At (N : Nat) (d : List (List Int) × List Int × Unit) : Option (Int × Unit) :=
  let a0 : List (List Int) := d.1
  let a1 : List Int := d.2.1
  (spec_l4At_l0 N N ((a0, (a1, ((0 : Int), ()))))).bind fun o3 => match o3 with
  | .inl d4 =>
    some (d4.1, ())
  | .inr (.inl d5) =>
    some ((-1 : Int), ())
theorem F_spec_l4At_ok (N : Nat) (d) : fnR Γ_spec_l4At (assoc [(0, ⟨spec_l4At_l0_h, spec_l4At_l0_o, spec_l4At_l0 N N⟩)]) true [(K_SSi, false), (K_Si, false)] [I] Tryz.f66.results.toList (bodyOf Tryz.f66) d = F_spec_l4At N d := by kernel_rfl
noncomputable def S_spec_l4At : FSig := ⟨[(K_SSi, false), (K_Si, false)], [I], true, (G_l4At)⟩
noncomputable def Γ_spec_l11Walk : Ctx := { tk := assoc tks, ar := assoc ars, fs := assoc [(59, S_spec_l4Field), (66, S_spec_l4At), (76, S_spec_l4Cops), (77, S_spec_l1In), (83, S_spec_l4Moves)] }
abbrev spec_l11Walk_l0_H := List (List Int) × (Int × (List (Int × Int × Unit)) × Unit) × Int × Unit
abbrev spec_l11Walk_l0_O := (Bool × Unit) ⊕ Unit ⊕ Empty
def spec_l11Walk_l0_h : Form := [(1, .v K_SSi), (2, .box K_PiSPiiqq 0), (5, .v I)]
def spec_l11Walk_l0_o : Outs := [(.ret, [(4, .v .bool)]), (.normal, [])]
noncomputable def spec_l11Walk_l0_r (N : Nat) (back : spec_l11Walk_l0_H → Option spec_l11Walk_l0_O) (d : spec_l11Walk_l0_H) : Option spec_l11Walk_l0_O :=
  let s1 : List (List Int) := d.1
  let s2 : Int × (List (Int × Int × Unit)) × Unit := d.2.1
  let s5 : Int := d.2.2.1
  if (decide (s5 < (List.length s1 : Int))) = true then
    if (idxIn s5 (List.length s1)) = true then
    if (idxIn (0 : Int) (List.length s1)) = true then
    if ((List.length (at_ K_Si s1 s5.toNat) : Int) != (List.length (at_ K_Si s1 (0 : Int).toNat) : Int)) = true then
      some (.inl (false, ()))
    else
      if (idxIn s5 (List.length s1)) = true then
      (G_l4Cops ((s2, (at_ K_Si s1 s5.toNat, ())))).bind fun r12 =>
      if (!r12.1) = true then
        some (.inl (false, ()))
      else
        if (decide (s5 > (0 : Int))) = true then
          let x13 : Int := IntKind.wrap .i64 (s5 - (1 : Int))
          if (idxIn x13 (List.length s1)) = true then
          (G_l4Moves ((s2, (at_ K_Si s1 x13.toNat, ())))).bind fun r14 =>
          if (idxIn s5 (List.length s1)) = true then
          (G_l4At ((r14.1, (at_ K_Si s1 s5.toNat, ())))).bind fun r15 =>
          if (decide (r15.1 < (0 : Int))) = true then
            some (.inl (false, ()))
          else
            let x16 : Int := IntKind.wrap .i64 (s5 + (1 : Int))
            back ((s1, (s2, (x16, ()))))
          else none
          else none
        else
          let x17 : Int := IntKind.wrap .i64 (s5 + (1 : Int))
          back ((s1, (s2, (x17, ()))))
      else none
    else none
    else none
  else
    some (.inr (.inl ()))
noncomputable def spec_l11Walk_l0 (N : Nat) : Nat → spec_l11Walk_l0_H → Option spec_l11Walk_l0_O
  | 0, _ => none
  | k + 1, d => spec_l11Walk_l0_r N (spec_l11Walk_l0 N k) d
theorem spec_l11Walk_l0_ok (N : Nat) (back) (d) : roundR Γ_spec_l11Walk (assoc []) 0 spec_l11Walk_l0_h spec_l11Walk_l0_o (loopOf Tryz.f46 0) back d = spec_l11Walk_l0_r N back d := by kernel_rfl
noncomputable def F_spec_l11Walk (N : Nat) (d : (Int × (List (Int × Int × Unit)) × Unit) × List (List Int) × Unit) : Option (Bool × Unit) :=
  let a0 : Int × (List (Int × Int × Unit)) × Unit := d.1
  let a1 : List (List Int) := d.2.1
  let r1 : Bool × Unit := g_spec_l1In (((List.length a1 : Int), ((1 : Int), ((40 : Int), ()))))
  if (!r1.1) = true then
    some (false, ())
  else
    if (idxIn (0 : Int) (List.length a1)) = true then
    ((F_spec_l4Field 0) ((a0, ((List.length (at_ K_Si a1 (0 : Int).toNat) : Int), ())))).bind fun r2 =>
    if (!r2.1) = true then
      some (false, ())
    else
      (spec_l11Walk_l0 N N ((a1, (a0, ((0 : Int), ()))))).bind fun o9 => match o9 with
      | .inl d10 =>
        some (d10.1, ())
      | .inr (.inl d11) =>
        some (true, ())
    else none
theorem F_spec_l11Walk_ok (N : Nat) (d) : fnR Γ_spec_l11Walk (assoc [(0, ⟨spec_l11Walk_l0_h, spec_l11Walk_l0_o, spec_l11Walk_l0 N N⟩)]) true [(K_PiSPiiqq, false), (K_SSi, false)] [.bool] Tryz.f46.results.toList (bodyOf Tryz.f46) d = F_spec_l11Walk N d := by kernel_rfl
noncomputable def S_spec_l11Walk : FSig := ⟨[(K_PiSPiiqq, false), (K_SSi, false)], [.bool], true, (G_l11Walk)⟩
noncomputable def Γ_spec_l2Bits : Ctx := { tk := assoc tks, ar := assoc ars, fs := assoc [] }
abbrev spec_l2Bits_l0_H := Int × Int × List Int × Int × Unit
abbrev spec_l2Bits_l0_O := (List Int × Unit) ⊕ Empty
def spec_l2Bits_l0_h : Form := [(0, .v I), (1, .v I), (5, .own K_Si 99), (6, .v I)]
def spec_l2Bits_l0_o : Outs := [(.normal, [(5, .own K_Si 99)])]
noncomputable def spec_l2Bits_l0_r (N : Nat) (back : spec_l2Bits_l0_H → Option spec_l2Bits_l0_O) (d : spec_l2Bits_l0_H) : Option spec_l2Bits_l0_O :=
  let s0 : Int := d.1
  let s1 : Int := d.2.1
  let s5 : List Int := d.2.2.1
  let s6 : Int := d.2.2.2.1
  if (decide (s6 < s0)) = true then
    if (decide (0 ≤ s6)) = true then
    let x6 : Int := bits .and .i64 (shr .i64 s1 s6) (1 : Int)
    if (x6 == (1 : Int)) = true then
      if (decide (List.length s5 + List.length ([s6]) ≤ lim)) = true then
      let x7 : Int := IntKind.wrap .i64 (s6 + (1 : Int))
      back ((s0, (s1, (s5 ++ ([s6]), (x7, ())))))
      else none
    else
      let x8 : Int := IntKind.wrap .i64 (s6 + (1 : Int))
      back ((s0, (s1, (s5, (x8, ())))))
    else none
  else
    some (.inl (s5, ()))
noncomputable def spec_l2Bits_l0 (N : Nat) : Nat → spec_l2Bits_l0_H → Option spec_l2Bits_l0_O
  | 0, _ => none
  | k + 1, d => spec_l2Bits_l0_r N (spec_l2Bits_l0 N k) d
theorem spec_l2Bits_l0_ok (N : Nat) (back) (d) : roundR Γ_spec_l2Bits (assoc []) 0 spec_l2Bits_l0_h spec_l2Bits_l0_o (loopOf Tryz.f119 0) back d = spec_l2Bits_l0_r N back d := by kernel_rfl
noncomputable def F_spec_l2Bits (N : Nat) (d : Int × Int × Unit) : Option (List Int × Unit) :=
  let a0 : Int := d.1
  let a1 : Int := d.2.1
  (spec_l2Bits_l0 N N ((a0, (a1, (([] : List Int), ((0 : Int), ())))))).bind fun o4 => match o4 with
  | .inl d5 =>
    some (d5.1, ())
theorem F_spec_l2Bits_ok (N : Nat) (d) : fnR Γ_spec_l2Bits (assoc [(0, ⟨spec_l2Bits_l0_h, spec_l2Bits_l0_o, spec_l2Bits_l0 N N⟩)]) true [(I, false), (I, false)] [K_Si] Tryz.f119.results.toList (bodyOf Tryz.f119) d = F_spec_l2Bits N d := by kernel_rfl
noncomputable def S_spec_l2Bits : FSig := ⟨[(I, false), (I, false)], [K_Si], true, (G_l2Bits)⟩
noncomputable def Γ_spec_l2All : Ctx := { tk := assoc tks, ar := assoc ars, fs := assoc [(119, S_spec_l2Bits)] }
noncomputable def F_spec_l2All (N : Nat) (d : (Int × (List (Int × Int × Unit)) × Unit) × Unit) : Option (List Int × Unit) :=
  let a0 : Int × (List (Int × Int × Unit)) × Unit := d.1
  if (decide (0 ≤ a0.1)) = true then
  let x1 : Int := IntKind.wrap .i64 (shl .i64 (1 : Int) a0.1 - (1 : Int))
  (G_l2Bits ((a0.1, (x1, ())))).bind fun r2 =>
  some (r2.1, ())
  else none
theorem F_spec_l2All_ok (N : Nat) (d) : fnR Γ_spec_l2All (assoc []) true [(K_PiSPiiqq, false)] [K_Si] Tryz.f85.results.toList (bodyOf Tryz.f85) d = F_spec_l2All N d := by kernel_rfl
noncomputable def S_spec_l2All : FSig := ⟨[(K_PiSPiiqq, false)], [K_Si], true, (F_spec_l2All 0)⟩
noncomputable def Γ_spec_l1Has : Ctx := { tk := assoc tks, ar := assoc ars, fs := assoc [] }
abbrev spec_l1Has_l0_H := List Int × Int × Int × Unit
abbrev spec_l1Has_l0_O := (Bool × Unit) ⊕ Unit ⊕ Empty
def spec_l1Has_l0_h : Form := [(0, .v K_Si), (1, .v I), (5, .v I)]
def spec_l1Has_l0_o : Outs := [(.ret, [(4, .v .bool)]), (.normal, [])]
noncomputable def spec_l1Has_l0_r (N : Nat) (back : spec_l1Has_l0_H → Option spec_l1Has_l0_O) (d : spec_l1Has_l0_H) : Option spec_l1Has_l0_O :=
  let s0 : List Int := d.1
  let s1 : Int := d.2.1
  let s5 : Int := d.2.2.1
  if (decide (s5 < (List.length s0 : Int))) = true then
    if (idxIn s5 (List.length s0)) = true then
    if (at_ I s0 s5.toNat == s1) = true then
      some (.inl (true, ()))
    else
      let x5 : Int := IntKind.wrap .i64 (s5 + (1 : Int))
      back ((s0, (s1, (x5, ()))))
    else none
  else
    some (.inr (.inl ()))
noncomputable def spec_l1Has_l0 (N : Nat) : Nat → spec_l1Has_l0_H → Option spec_l1Has_l0_O
  | 0, _ => none
  | k + 1, d => spec_l1Has_l0_r N (spec_l1Has_l0 N k) d
theorem spec_l1Has_l0_ok (N : Nat) (back) (d) : roundR Γ_spec_l1Has (assoc []) 0 spec_l1Has_l0_h spec_l1Has_l0_o (loopOf Tryz.f57 0) back d = spec_l1Has_l0_r N back d := by kernel_rfl
noncomputable def F_spec_l1Has (N : Nat) (d : List Int × Int × Unit) : Option (Bool × Unit) :=
  let a0 : List Int := d.1
  let a1 : Int := d.2.1
  (spec_l1Has_l0 N N ((a0, (a1, ((0 : Int), ()))))).bind fun o2 => match o2 with
  | .inl d3 =>
    some (d3.1, ())
  | .inr (.inl d4) =>
    some (false, ())
theorem F_spec_l1Has_ok (N : Nat) (d) : fnR Γ_spec_l1Has (assoc [(0, ⟨spec_l1Has_l0_h, spec_l1Has_l0_o, spec_l1Has_l0 N N⟩)]) true [(K_Si, false), (I, false)] [.bool] Tryz.f57.results.toList (bodyOf Tryz.f57) d = F_spec_l1Has N d := by kernel_rfl
noncomputable def S_spec_l1Has : FSig := ⟨[(K_Si, false), (I, false)], [.bool], true, (G_l1Has)⟩
noncomputable def Γ_spec_l11Rest : Ctx := { tk := assoc tks, ar := assoc ars, fs := assoc [(57, S_spec_l1Has)] }
abbrev spec_l11Rest_l0_H := List Int × List Int × List Int × Int × Unit
abbrev spec_l11Rest_l0_O := (List Int × Unit) ⊕ Empty
def spec_l11Rest_l0_h : Form := [(0, .v K_Si), (1, .v K_Si), (5, .own K_Si 99), (6, .v I)]
def spec_l11Rest_l0_o : Outs := [(.normal, [(5, .own K_Si 99)])]
noncomputable def spec_l11Rest_l0_r (N : Nat) (back : spec_l11Rest_l0_H → Option spec_l11Rest_l0_O) (d : spec_l11Rest_l0_H) : Option spec_l11Rest_l0_O :=
  let s0 : List Int := d.1
  let s1 : List Int := d.2.1
  let s5 : List Int := d.2.2.1
  let s6 : Int := d.2.2.2.1
  if (decide (s6 < (List.length s0 : Int))) = true then
    if (idxIn s6 (List.length s0)) = true then
    (G_l1Has ((s1, (at_ I s0 s6.toNat, ())))).bind fun r6 =>
    if (!r6.1) = true then
      if (idxIn s6 (List.length s0)) = true then
      if (decide (List.length s5 + List.length ([at_ I s0 s6.toNat]) ≤ lim)) = true then
      let x7 : Int := IntKind.wrap .i64 (s6 + (1 : Int))
      back ((s0, (s1, (s5 ++ ([at_ I s0 s6.toNat]), (x7, ())))))
      else none
      else none
    else
      let x8 : Int := IntKind.wrap .i64 (s6 + (1 : Int))
      back ((s0, (s1, (s5, (x8, ())))))
    else none
  else
    some (.inl (s5, ()))
noncomputable def spec_l11Rest_l0 (N : Nat) : Nat → spec_l11Rest_l0_H → Option spec_l11Rest_l0_O
  | 0, _ => none
  | k + 1, d => spec_l11Rest_l0_r N (spec_l11Rest_l0 N k) d
theorem spec_l11Rest_l0_ok (N : Nat) (back) (d) : roundR Γ_spec_l11Rest (assoc []) 0 spec_l11Rest_l0_h spec_l11Rest_l0_o (loopOf Tryz.f84 0) back d = spec_l11Rest_l0_r N back d := by kernel_rfl
noncomputable def F_spec_l11Rest (N : Nat) (d : List Int × List Int × Unit) : Option (List Int × Unit) :=
  let a0 : List Int := d.1
  let a1 : List Int := d.2.1
  (spec_l11Rest_l0 N N ((a0, (a1, (([] : List Int), ((0 : Int), ())))))).bind fun o4 => match o4 with
  | .inl d5 =>
    some (d5.1, ())
theorem F_spec_l11Rest_ok (N : Nat) (d) : fnR Γ_spec_l11Rest (assoc [(0, ⟨spec_l11Rest_l0_h, spec_l11Rest_l0_o, spec_l11Rest_l0 N N⟩)]) true [(K_Si, false), (K_Si, false)] [K_Si] Tryz.f84.results.toList (bodyOf Tryz.f84) d = F_spec_l11Rest N d := by kernel_rfl
noncomputable def S_spec_l11Rest : FSig := ⟨[(K_Si, false), (K_Si, false)], [K_Si], true, (G_l11Rest)⟩
noncomputable def Γ_spec_l11Back : Ctx := { tk := assoc tks, ar := assoc ars, fs := assoc [(56, S_spec_l2Ball), (57, S_spec_l1Has), (84, S_spec_l11Rest), (85, S_spec_l2All)], dm := fun t => Nat.beq t 8, cs := assoc [] }
abbrev spec_l11Back_l4_H := List (List Int) × (Int × (List (Int × Int × Unit)) × Unit) × List (List Int) × Int × List Int × List Int × Int × List Int × Bool × Int × Unit
abbrev spec_l11Back_l4_O := (List (List Int) × (Int × (List (Int × Int × Unit)) × Unit) × List (List Int) × Int × List Int × List Int × Int × Bool × Unit) ⊕ Empty
def spec_l11Back_l4_h : Form := [(1, .v K_SSi), (2, .box K_PiSPiiqq 0), (5, .own K_SSi 1), (6, .v I), (7, .own K_Si 99), (8, .v K_Si), (9, .v I), (10, .v K_Si), (11, .v .bool), (12, .v I)]
def spec_l11Back_l4_o : Outs := [(.normal, [(1, .v K_SSi), (2, .box K_PiSPiiqq 0), (5, .own K_SSi 1), (6, .v I), (7, .own K_Si 99), (8, .v K_Si), (9, .v I), (11, .v .bool)])]
noncomputable def spec_l11Back_l4_r (N : Nat) (back : spec_l11Back_l4_H → Option spec_l11Back_l4_O) (d : spec_l11Back_l4_H) : Option spec_l11Back_l4_O :=
  let s1 : List (List Int) := d.1
  let s2 : Int × (List (Int × Int × Unit)) × Unit := d.2.1
  let s5 : List (List Int) := d.2.2.1
  let s6 : Int := d.2.2.2.1
  let s7 : List Int := d.2.2.2.2.1
  let s8 : List Int := d.2.2.2.2.2.1
  let s9 : Int := d.2.2.2.2.2.2.1
  let s10 : List Int := d.2.2.2.2.2.2.2.1
  let s11 : Bool := d.2.2.2.2.2.2.2.2.1
  let s12 : Int := d.2.2.2.2.2.2.2.2.2.1
  if (decide (s12 < (List.length s10 : Int))) = true then
    if (s11) = true then
      let x99 : Int := IntKind.wrap .i64 (s12 + (1 : Int))
      back ((s1, (s2, (s5, (s6, (s7, (s8, (s9, (s10, (true, (x99, ())))))))))))
    else
      if (idxIn s12 (List.length s10)) = true then
      (G_l1Has ((s8, (at_ I s10 s12.toNat, ())))).bind fun r100 =>
      let x101 : Int := IntKind.wrap .i64 (s12 + (1 : Int))
      back ((s1, (s2, (s5, (s6, (s7, (s8, (s9, (s10, (r100.1, (x101, ())))))))))))
      else none
  else
    some (.inl ((s1, (s2, (s5, (s6, (s7, (s8, (s9, (s11, ()))))))))))
noncomputable def spec_l11Back_l4 (N : Nat) : Nat → spec_l11Back_l4_H → Option spec_l11Back_l4_O
  | 0, _ => none
  | k + 1, d => spec_l11Back_l4_r N (spec_l11Back_l4 N k) d
theorem spec_l11Back_l4_ok (N : Nat) (back) (d) : roundR Γ_spec_l11Back (assoc []) 4 spec_l11Back_l4_h spec_l11Back_l4_o (loopOf Tryz.f55 4) back d = spec_l11Back_l4_r N back d := by kernel_rfl
abbrev spec_l11Back_l2_H := List (List Int) × (Int × (List (Int × Int × Unit)) × Unit) × List (List Int) × Int × List Int × List Int × Int × Unit
abbrev spec_l11Back_l2_O := (List (List Int) × (Int × (List (Int × Int × Unit)) × Unit) × List (List Int) × Int × List Int × Unit) ⊕ Empty
def spec_l11Back_l2_h : Form := [(1, .v K_SSi), (2, .box K_PiSPiiqq 0), (5, .own K_SSi 1), (6, .v I), (7, .own K_Si 99), (8, .v K_Si), (9, .v I)]
def spec_l11Back_l2_o : Outs := [(.normal, [(1, .v K_SSi), (2, .box K_PiSPiiqq 0), (5, .own K_SSi 1), (6, .v I), (7, .own K_Si 99)])]
noncomputable def spec_l11Back_l2_r (N : Nat) (back : spec_l11Back_l2_H → Option spec_l11Back_l2_O) (d : spec_l11Back_l2_H) : Option spec_l11Back_l2_O :=
  let s1 : List (List Int) := d.1
  let s2 : Int × (List (Int × Int × Unit)) × Unit := d.2.1
  let s5 : List (List Int) := d.2.2.1
  let s6 : Int := d.2.2.2.1
  let s7 : List Int := d.2.2.2.2.1
  let s8 : List Int := d.2.2.2.2.2.1
  let s9 : Int := d.2.2.2.2.2.2.1
  if (decide (s9 < s2.1)) = true then
    ((F_spec_l2Ball 0) ((s2, (s9, ())))).bind fun r85 =>
    (spec_l11Back_l4 N N ((s1, (s2, (s5, (s6, (s7, (s8, (s9, (r85.1, (false, ((0 : Int), ())))))))))))).bind fun o89 => match o89 with
    | .inl d90 =>
      if (d90.2.2.2.2.2.2.2.1) = true then
        if (idxIn d90.2.2.2.1 (List.length d90.1)) = true then
        (G_l1Has ((at_ K_Si d90.1 d90.2.2.2.1.toNat, (d90.2.2.2.2.2.2.1, ())))).bind fun r91 =>
        if (!r91.1) = true then
          let x92 : Int := IntKind.wrap .i64 (d90.2.2.2.1 + (1 : Int))
          if (idxIn x92 (List.length d90.1)) = true then
          (G_l1Has ((at_ K_Si d90.1 x92.toNat, (d90.2.2.2.2.2.2.1, ())))).bind fun r93 =>
          if (!r93.1) = true then
            if (decide (List.length d90.2.2.2.2.1 + List.length ([d90.2.2.2.2.2.2.1]) ≤ lim)) = true then
            let x94 : List Int := d90.2.2.2.2.1 ++ ([d90.2.2.2.2.2.2.1])
            let x95 : Int := IntKind.wrap .i64 (d90.2.2.2.2.2.2.1 + (1 : Int))
            back ((d90.1, (d90.2.1, (d90.2.2.1, (d90.2.2.2.1, (x94, (d90.2.2.2.2.2.1, (x95, ()))))))))
            else none
          else
            let x96 : Int := IntKind.wrap .i64 (d90.2.2.2.2.2.2.1 + (1 : Int))
            back ((d90.1, (d90.2.1, (d90.2.2.1, (d90.2.2.2.1, (d90.2.2.2.2.1, (d90.2.2.2.2.2.1, (x96, ()))))))))
          else none
        else
          let x97 : Int := IntKind.wrap .i64 (d90.2.2.2.2.2.2.1 + (1 : Int))
          back ((d90.1, (d90.2.1, (d90.2.2.1, (d90.2.2.2.1, (d90.2.2.2.2.1, (d90.2.2.2.2.2.1, (x97, ()))))))))
        else none
      else
        let x98 : Int := IntKind.wrap .i64 (d90.2.2.2.2.2.2.1 + (1 : Int))
        back ((d90.1, (d90.2.1, (d90.2.2.1, (d90.2.2.2.1, (d90.2.2.2.2.1, (d90.2.2.2.2.2.1, (x98, ()))))))))
  else
    some (.inl ((s1, (s2, (s5, (s6, (s7, ())))))))
noncomputable def spec_l11Back_l2 (N : Nat) : Nat → spec_l11Back_l2_H → Option spec_l11Back_l2_O
  | 0, _ => none
  | k + 1, d => spec_l11Back_l2_r N (spec_l11Back_l2 N k) d
theorem spec_l11Back_l2_ok (N : Nat) (back) (d) : roundR Γ_spec_l11Back (assoc [(4, ⟨spec_l11Back_l4_h, spec_l11Back_l4_o, spec_l11Back_l4 N N⟩)]) 2 spec_l11Back_l2_h spec_l11Back_l2_o (loopOf Tryz.f55 2) back d = spec_l11Back_l2_r N back d := by kernel_rfl
abbrev spec_l11Back_l0_H := List (List Int) × (Int × (List (Int × Int × Unit)) × Unit) × List (List Int) × Int × Unit
abbrev spec_l11Back_l0_O := (List (List Int) × Unit) ⊕ Empty
def spec_l11Back_l0_h : Form := [(1, .v K_SSi), (2, .box K_PiSPiiqq 0), (5, .own K_SSi 1), (6, .v I)]
def spec_l11Back_l0_o : Outs := [(.normal, [(5, .own K_SSi 1)])]
noncomputable def spec_l11Back_l0_r (N : Nat) (back : spec_l11Back_l0_H → Option spec_l11Back_l0_O) (d : spec_l11Back_l0_H) : Option spec_l11Back_l0_O :=
  let s1 : List (List Int) := d.1
  let s2 : Int × (List (Int × Int × Unit)) × Unit := d.2.1
  let s5 : List (List Int) := d.2.2.1
  let s6 : Int := d.2.2.2.1
  if (decide (s6 ≥ (0 : Int))) = true then
    if (idxIn (0 : Int) (List.length s5)) = true then
    (spec_l11Back_l2 N N ((s1, (s2, (s5, (s6, (([] : List Int), (at_ K_Si s5 (0 : Int).toNat, ((0 : Int), ()))))))))).bind fun o81 => match o81 with
    | .inl d82 =>
      if (decide (List.length ([d82.2.2.2.2.1]) + List.length d82.2.2.1 ≤ lim)) = true then
      let x83 : List (List Int) := ([d82.2.2.2.2.1]) ++ d82.2.2.1
      let x84 : Int := IntKind.wrap .i64 (d82.2.2.2.1 - (1 : Int))
      back ((d82.1, (d82.2.1, (x83, (x84, ())))))
      else none
    else none
  else
    some (.inl (s5, ()))
noncomputable def spec_l11Back_l0 (N : Nat) : Nat → spec_l11Back_l0_H → Option spec_l11Back_l0_O
  | 0, _ => none
  | k + 1, d => spec_l11Back_l0_r N (spec_l11Back_l0 N k) d
theorem spec_l11Back_l0_ok (N : Nat) (back) (d) : roundR Γ_spec_l11Back (assoc [(2, ⟨spec_l11Back_l2_h, spec_l11Back_l2_o, spec_l11Back_l2 N N⟩)]) 0 spec_l11Back_l0_h spec_l11Back_l0_o (loopOf Tryz.f55 0) back d = spec_l11Back_l0_r N back d := by kernel_rfl
noncomputable def F_spec_l11Back (N : Nat) (d : (Int × (List (Int × Int × Unit)) × Unit) × List (List Int) × Unit) : Option (List (List Int) × Unit) :=
  let a0 : Int × (List (Int × Int × Unit)) × Unit := d.1
  let a1 : List (List Int) := d.2.1
  ((F_spec_l2All 0) (a0, ())).bind fun r43 =>
  let x44 : Int := IntKind.wrap .i64 ((List.length a1 : Int) - (1 : Int))
  if (idxIn x44 (List.length a1)) = true then
  (G_l11Rest ((r43.1, (at_ K_Si a1 x44.toNat, ())))).bind fun r45 =>
  let x46 : Int := IntKind.wrap .i64 ((List.length a1 : Int) - (2 : Int))
  (spec_l11Back_l0 N N ((a1, (a0, ([r45.1], (x46, ())))))).bind fun o65 => match o65 with
  | .inl d66 =>
    some (d66.1, ())
  else none
theorem F_spec_l11Back_ok (N : Nat) (d) : fnR Γ_spec_l11Back (assoc [(0, ⟨spec_l11Back_l0_h, spec_l11Back_l0_o, spec_l11Back_l0 N N⟩)]) false [(K_PiSPiiqq, false), (K_SSi, false)] [K_SSi] Tryz.f55.results.toList (bodyOf Tryz.f55) d = F_spec_l11Back N d := by kernel_rfl
noncomputable def S_spec_l11Back : FSig := ⟨[(K_PiSPiiqq, false), (K_SSi, false)], [K_SSi], false, (G_l11Back)⟩
noncomputable def Γ_spec_EscapeOf : Ctx := { tk := assoc tks, ar := assoc ars, fs := assoc [(45, S_spec_l2Good), (46, S_spec_l11Walk), (55, S_spec_l11Back), (56, S_spec_l2Ball), (57, S_spec_l1Has)] }
abbrev spec_EscapeOf_l2_H := List (List Int) × (Int × (List (Int × Int × Unit)) × Unit) × List Int × List (List Int) × Int × List Int × Int × Unit
abbrev spec_EscapeOf_l2_O := (List (List Int) × (Int × (List (Int × Int × Unit)) × Unit) × List Int × List (List Int) × Int × List Int × Int × Unit) ⊕ Empty
def spec_EscapeOf_l2_h : Form := [(1, .v K_SSi), (2, .box K_PiSPiiqq 0), (6, .own K_Si 99), (7, .v K_SSi), (8, .v I), (9, .v K_Si), (10, .v I)]
def spec_EscapeOf_l2_o : Outs := [(.normal, [(1, .v K_SSi), (2, .box K_PiSPiiqq 0), (6, .own K_Si 99), (7, .v K_SSi), (8, .v I), (9, .v K_Si), (10, .v I)])]
noncomputable def spec_EscapeOf_l2_r (N : Nat) (back : spec_EscapeOf_l2_H → Option spec_EscapeOf_l2_O) (d : spec_EscapeOf_l2_H) : Option spec_EscapeOf_l2_O :=
  let s1 : List (List Int) := d.1
  let s2 : Int × (List (Int × Int × Unit)) × Unit := d.2.1
  let s6 : List Int := d.2.2.1
  let s7 : List (List Int) := d.2.2.2.1
  let s8 : Int := d.2.2.2.2.1
  let s9 : List Int := d.2.2.2.2.2.1
  let s10 : Int := d.2.2.2.2.2.2.1
  if (decide (s10 < (List.length s9 : Int))) = true then
    if (idxIn s8 (List.length s7)) = true then
    if (idxIn s10 (List.length s9)) = true then
    (G_l1Has ((at_ K_Si s7 s8.toNat, (at_ I s9 s10.toNat, ())))).bind fun r31 =>
    if (!r31.1) = true then
      let x32 : Int := IntKind.wrap .i64 (s10 + (1 : Int))
      back ((s1, (s2, (s6, (s7, (s8, (s9, (x32, ()))))))))
    else
      some (.inl ((s1, (s2, (s6, (s7, (s8, (s9, (s10, ())))))))))
    else none
    else none
  else
    some (.inl ((s1, (s2, (s6, (s7, (s8, (s9, (s10, ())))))))))
noncomputable def spec_EscapeOf_l2 (N : Nat) : Nat → spec_EscapeOf_l2_H → Option spec_EscapeOf_l2_O
  | 0, _ => none
  | k + 1, d => spec_EscapeOf_l2_r N (spec_EscapeOf_l2 N k) d
theorem spec_EscapeOf_l2_ok (N : Nat) (back) (d) : roundR Γ_spec_EscapeOf (assoc []) 2 spec_EscapeOf_l2_h spec_EscapeOf_l2_o (loopOf Tryz.f23 2) back d = spec_EscapeOf_l2_r N back d := by kernel_rfl
abbrev spec_EscapeOf_l0_H := List (List Int) × (Int × (List (Int × Int × Unit)) × Unit) × List Int × List (List Int) × Int × Unit
abbrev spec_EscapeOf_l0_O := (List Int × Bool × Unit) ⊕ (List Int × Unit) ⊕ Empty
def spec_EscapeOf_l0_h : Form := [(1, .v K_SSi), (2, .box K_PiSPiiqq 0), (6, .own K_Si 99), (7, .v K_SSi), (8, .v I)]
def spec_EscapeOf_l0_o : Outs := [(.ret, [(4, .own K_Si 99), (5, .v .bool)]), (.normal, [(6, .own K_Si 99)])]
noncomputable def spec_EscapeOf_l0_r (N : Nat) (back : spec_EscapeOf_l0_H → Option spec_EscapeOf_l0_O) (d : spec_EscapeOf_l0_H) : Option spec_EscapeOf_l0_O :=
  let s1 : List (List Int) := d.1
  let s2 : Int × (List (Int × Int × Unit)) × Unit := d.2.1
  let s6 : List Int := d.2.2.1
  let s7 : List (List Int) := d.2.2.2.1
  let s8 : Int := d.2.2.2.2.1
  if (decide (s8 < (List.length s1 : Int))) = true then
    if (idxIn s8 (List.length s7)) = true then
    if (decide (s8 > (0 : Int))) = true then
      let x19 : Int := IntKind.wrap .i64 (s8 - (1 : Int))
      if (idxIn x19 (List.length s6)) = true then
      ((F_spec_l2Ball 0) ((s2, (at_ I s6 x19.toNat, ())))).bind fun r20 =>
      (spec_EscapeOf_l2 N N ((s1, (s2, (s6, (s7, (s8, (r20.1, ((0 : Int), ()))))))))).bind fun o23 => match o23 with
      | .inl d24 =>
        if (d24.2.2.2.2.2.2.1 == (List.length d24.2.2.2.2.2.1 : Int)) = true then
          some (.inl ((([] : List Int), (false, ()))))
        else
          if (idxIn d24.2.2.2.2.2.2.1 (List.length d24.2.2.2.2.2.1)) = true then
          if (decide (List.length d24.2.2.1 + List.length ([at_ I d24.2.2.2.2.2.1 d24.2.2.2.2.2.2.1.toNat]) ≤ lim)) = true then
          let x25 : List Int := d24.2.2.1 ++ ([at_ I d24.2.2.2.2.2.1 d24.2.2.2.2.2.2.1.toNat])
          let x26 : Int := IntKind.wrap .i64 (d24.2.2.2.2.1 + (1 : Int))
          back ((d24.1, (d24.2.1, (x25, (d24.2.2.2.1, (x26, ()))))))
          else none
          else none
      else none
    else
      (spec_EscapeOf_l2 N N ((s1, (s2, (s6, (s7, (s8, (at_ K_Si s7 s8.toNat, ((0 : Int), ()))))))))).bind fun o27 => match o27 with
      | .inl d28 =>
        if (d28.2.2.2.2.2.2.1 == (List.length d28.2.2.2.2.2.1 : Int)) = true then
          some (.inl ((([] : List Int), (false, ()))))
        else
          if (idxIn d28.2.2.2.2.2.2.1 (List.length d28.2.2.2.2.2.1)) = true then
          if (decide (List.length d28.2.2.1 + List.length ([at_ I d28.2.2.2.2.2.1 d28.2.2.2.2.2.2.1.toNat]) ≤ lim)) = true then
          let x29 : List Int := d28.2.2.1 ++ ([at_ I d28.2.2.2.2.2.1 d28.2.2.2.2.2.2.1.toNat])
          let x30 : Int := IntKind.wrap .i64 (d28.2.2.2.2.1 + (1 : Int))
          back ((d28.1, (d28.2.1, (x29, (d28.2.2.2.1, (x30, ()))))))
          else none
          else none
    else none
  else
    some (.inr (.inl (s6, ())))
noncomputable def spec_EscapeOf_l0 (N : Nat) : Nat → spec_EscapeOf_l0_H → Option spec_EscapeOf_l0_O
  | 0, _ => none
  | k + 1, d => spec_EscapeOf_l0_r N (spec_EscapeOf_l0 N k) d
theorem spec_EscapeOf_l0_ok (N : Nat) (back) (d) : roundR Γ_spec_EscapeOf (assoc [(2, ⟨spec_EscapeOf_l2_h, spec_EscapeOf_l2_o, spec_EscapeOf_l2 N N⟩)]) 0 spec_EscapeOf_l0_h spec_EscapeOf_l0_o (loopOf Tryz.f23 0) back d = spec_EscapeOf_l0_r N back d := by kernel_rfl
noncomputable def F_spec_EscapeOf (N : Nat) (d : (Int × (List (Int × Int × Unit)) × Unit) × List (List Int) × Unit) : Option (List Int × Bool × Unit) :=
  let a0 : Int × (List (Int × Int × Unit)) × Unit := d.1
  let a1 : List (List Int) := d.2.1
  (G_graph (a0, ())).bind fun r1 =>
  if (!r1.1) = true then
    some ((([] : List Int), (false, ())))
  else
    (G_l11Walk ((a0, (a1, ())))).bind fun r2 =>
    if (!r2.1) = true then
      some ((([] : List Int), (false, ())))
    else
      (G_l11Back ((a0, (a1, ())))).bind fun r3 =>
      (spec_EscapeOf_l0 N N ((a1, (a0, (([] : List Int), (r3.1, ((0 : Int), ()))))))).bind fun o16 => match o16 with
      | .inl d17 =>
        some ((d17.1, (d17.2.1, ())))
      | .inr (.inl d18) =>
        some ((d18.1, (true, ())))
theorem F_spec_EscapeOf_ok (N : Nat) (d) : fnR Γ_spec_EscapeOf (assoc [(0, ⟨spec_EscapeOf_l0_h, spec_EscapeOf_l0_o, spec_EscapeOf_l0 N N⟩)]) true [(K_PiSPiiqq, false), (K_SSi, false)] [K_Si, .bool] Tryz.f23.results.toList (bodyOf Tryz.f23) d = F_spec_EscapeOf N d := by kernel_rfl
noncomputable def S_spec_EscapeOf : FSig := ⟨[(K_PiSPiiqq, false), (K_SSi, false)], [K_Si, .bool], true, (G_escapeOf)⟩
noncomputable def Γ_impl_within : Ctx := { tk := assoc tks, ar := assoc ars, fs := assoc [] }
noncomputable def F_impl_within (N : Nat) (d : Int × Int × Int × Unit) : Option (Bool × Unit) :=
  let a0 : Int := d.1
  let a1 : Int := d.2.1
  let a2 : Int := d.2.2.1
  if (decide (a0 ≥ a1)) = true then
    some (decide (a0 ≤ a2), ())
  else
    some (false, ())
theorem F_impl_within_ok (N : Nat) (d) : fnR Γ_impl_within (assoc []) true [(I, false), (I, false), (I, false)] [.bool] Tryz.f78.results.toList (bodyOf Tryz.f78) d = F_impl_within N d := by kernel_rfl
noncomputable def g_impl_within (d : Int × Int × Int × Unit) : Bool × Unit :=
  let a0 : Int := d.1
  let a1 : Int := d.2.1
  let a2 : Int := d.2.2.1
  if (decide (a0 ≥ a1)) = true then
    (decide (a0 ≤ a2), ())
  else
    (false, ())
theorem F_impl_within_tot (N : Nat) (d) : F_impl_within N d = some (g_impl_within d) := by
  unfold F_impl_within g_impl_within
  first
    | rfl
    | (dsimp only; (repeat' split) <;> rfl)
noncomputable def S_impl_within : FSig := ⟨[(I, false), (I, false), (I, false)], [.bool], true, (fun d => some (g_impl_within d))⟩
noncomputable def Γ_cmp_isNaN_int : Ctx := { tk := assoc tks, ar := assoc ars, fs := assoc [] }
noncomputable def F_cmp_isNaN_int (N : Nat) (d : Int × Unit) : Option (Bool × Unit) :=
  let a0 : Int := d.1
  some (a0 != a0, ())
theorem F_cmp_isNaN_int_ok (N : Nat) (d) : fnR Γ_cmp_isNaN_int (assoc []) true [(I, false)] [.bool] Tryz.f138.results.toList (bodyOf Tryz.f138) d = F_cmp_isNaN_int N d := by kernel_rfl
noncomputable def g_cmp_isNaN_int (d : Int × Unit) : Bool × Unit :=
  let a0 : Int := d.1
  (a0 != a0, ())
theorem F_cmp_isNaN_int_tot (N : Nat) (d) : F_cmp_isNaN_int N d = some (g_cmp_isNaN_int d) := by
  unfold F_cmp_isNaN_int g_cmp_isNaN_int
  first
    | rfl
    | (dsimp only; (repeat' split) <;> rfl)
noncomputable def S_cmp_isNaN_int : FSig := ⟨[(I, false)], [.bool], true, (fun d => some (g_cmp_isNaN_int d))⟩
noncomputable def Γ_cmp_Compare_int : Ctx := { tk := assoc tks, ar := assoc ars, fs := assoc [(138, S_cmp_isNaN_int)] }
noncomputable def F_cmp_Compare_int (N : Nat) (d : Int × Int × Unit) : Option (Int × Unit) :=
  let a0 : Int := d.1
  let a1 : Int := d.2.1
  let r1 : Bool × Unit := g_cmp_isNaN_int (a0, ())
  let r2 : Bool × Unit := g_cmp_isNaN_int (a1, ())
  if (r1.1) = true then
    if (r2.1) = true then
      some ((0 : Int), ())
    else
      some ((-1 : Int), ())
  else
    if (r2.1) = true then
      some ((1 : Int), ())
    else
      if (decide (a0 < a1)) = true then
        some ((-1 : Int), ())
      else
        if (decide (a0 > a1)) = true then
          some ((1 : Int), ())
        else
          some ((0 : Int), ())
theorem F_cmp_Compare_int_ok (N : Nat) (d) : fnR Γ_cmp_Compare_int (assoc []) true [(I, false), (I, false)] [I] Tryz.f130.results.toList (bodyOf Tryz.f130) d = F_cmp_Compare_int N d := by kernel_rfl
noncomputable def g_cmp_Compare_int (d : Int × Int × Unit) : Int × Unit :=
  let a0 : Int := d.1
  let a1 : Int := d.2.1
  let r1 : Bool × Unit := g_cmp_isNaN_int (a0, ())
  let r2 : Bool × Unit := g_cmp_isNaN_int (a1, ())
  if (r1.1) = true then
    if (r2.1) = true then
      ((0 : Int), ())
    else
      ((-1 : Int), ())
  else
    if (r2.1) = true then
      ((1 : Int), ())
    else
      if (decide (a0 < a1)) = true then
        ((-1 : Int), ())
      else
        if (decide (a0 > a1)) = true then
          ((1 : Int), ())
        else
          ((0 : Int), ())
theorem F_cmp_Compare_int_tot (N : Nat) (d) : F_cmp_Compare_int N d = some (g_cmp_Compare_int d) := by
  unfold F_cmp_Compare_int g_cmp_Compare_int
  first
    | rfl
    | (dsimp only; (repeat' split) <;> rfl)
noncomputable def S_cmp_Compare_int : FSig := ⟨[(I, false), (I, false)], [I], true, (fun d => some (g_cmp_Compare_int d))⟩
noncomputable def Γ_slices_Compare_Sint_int : Ctx := { tk := assoc tks, ar := assoc ars, fs := assoc [(130, S_cmp_Compare_int)] }
abbrev slices_Compare_Sint_int_l0_H := List Int × List Int × List Int × Int × Int × Unit
abbrev slices_Compare_Sint_int_l0_O := (Int × Unit) ⊕ (List Int × List Int × Unit) ⊕ Empty
def slices_Compare_Sint_int_l0_h : Form := [(0, .v K_Si), (1, .v K_Si), (9, .v K_Si), (10, .v I), (11, .v I)]
def slices_Compare_Sint_int_l0_o : Outs := [(.ret, [(4, .v I)]), (.normal, [(0, .v K_Si), (1, .v K_Si)])]
noncomputable def slices_Compare_Sint_int_l0_r (N : Nat) (back : slices_Compare_Sint_int_l0_H → Option slices_Compare_Sint_int_l0_O) (d : slices_Compare_Sint_int_l0_H) : Option slices_Compare_Sint_int_l0_O :=
  let s0 : List Int := d.1
  let s1 : List Int := d.2.1
  let s9 : List Int := d.2.2.1
  let s10 : Int := d.2.2.2.1
  let s11 : Int := d.2.2.2.2.1
  if (decide (s11 < s10)) = true then
    if (idxIn s11 (List.length s9)) = true then
    if (decide (s11 ≥ (List.length s1 : Int))) = true then
      some (.inl ((1 : Int), ()))
    else
      if (idxIn s11 (List.length s1)) = true then
      let r6 : Int × Unit := g_cmp_Compare_int ((at_ I s9 s11.toNat, (at_ I s1 s11.toNat, ())))
      if (r6.1 != (0 : Int)) = true then
        some (.inl (r6.1, ()))
      else
        let x7 : Int := IntKind.wrap .i64 (s11 + (1 : Int))
        back ((s0, (s1, (s9, (s10, (x7, ()))))))
      else none
    else none
  else
    some (.inr (.inl ((s0, (s1, ())))))
noncomputable def slices_Compare_Sint_int_l0 (N : Nat) : Nat → slices_Compare_Sint_int_l0_H → Option slices_Compare_Sint_int_l0_O
  | 0, _ => none
  | k + 1, d => slices_Compare_Sint_int_l0_r N (slices_Compare_Sint_int_l0 N k) d
theorem slices_Compare_Sint_int_l0_ok (N : Nat) (back) (d) : roundR Γ_slices_Compare_Sint_int (assoc []) 0 slices_Compare_Sint_int_l0_h slices_Compare_Sint_int_l0_o (loopOf Tryz.f113 0) back d = slices_Compare_Sint_int_l0_r N back d := by kernel_rfl
noncomputable def F_slices_Compare_Sint_int (N : Nat) (d : List Int × List Int × Unit) : Option (Int × Unit) :=
  let a0 : List Int := d.1
  let a1 : List Int := d.2.1
  (slices_Compare_Sint_int_l0 N N ((a0, (a1, (a0, ((List.length a0 : Int), ((0 : Int), ()))))))).bind fun o3 => match o3 with
  | .inl d4 =>
    some (d4.1, ())
  | .inr (.inl d5) =>
    if (decide ((List.length d5.1 : Int) < (List.length d5.2.1 : Int))) = true then
      some ((-1 : Int), ())
    else
      some ((0 : Int), ())
theorem F_slices_Compare_Sint_int_ok (N : Nat) (d) : fnR Γ_slices_Compare_Sint_int (assoc [(0, ⟨slices_Compare_Sint_int_l0_h, slices_Compare_Sint_int_l0_o, slices_Compare_Sint_int_l0 N N⟩)]) true [(K_Si, false), (K_Si, false)] [I] Tryz.f113.results.toList (bodyOf Tryz.f113) d = F_slices_Compare_Sint_int N d := by kernel_rfl
noncomputable def S_slices_Compare_Sint_int : FSig := ⟨[(K_Si, false), (K_Si, false)], [I], true, (G_compare)⟩
noncomputable def Γ_impl_IsGraph : Ctx := { tk := assoc tks, ar := assoc ars, fs := assoc [(78, S_impl_within), (113, S_slices_Compare_Sint_int)] }
abbrev impl_IsGraph_l0_H := (Int × (List (Int × Int × Unit)) × Unit) × (List (Int × Int × Unit)) × Int × Int × Unit
abbrev impl_IsGraph_l0_O := (Bool × Unit) ⊕ Unit ⊕ Empty
def impl_IsGraph_l0_h : Form := [(1, .box K_PiSPiiqq 0), (10, .v K_SPiiq), (11, .v I), (12, .v I)]
def impl_IsGraph_l0_o : Outs := [(.ret, [(2, .v .bool)]), (.normal, [])]
noncomputable def impl_IsGraph_l0_r (N : Nat) (back : impl_IsGraph_l0_H → Option impl_IsGraph_l0_O) (d : impl_IsGraph_l0_H) : Option impl_IsGraph_l0_O :=
  let s1 : Int × (List (Int × Int × Unit)) × Unit := d.1
  let s10 : List (Int × Int × Unit) := d.2.1
  let s11 : Int := d.2.2.1
  let s12 : Int := d.2.2.2.1
  if (decide (s12 < s11)) = true then
    if (idxIn s12 (List.length s10)) = true then
    if (decide ((at_ K_Piiq s10 s12.toNat).1 < (0 : Int))) = true then
      some (.inl (false, ()))
    else
      if (decide ((at_ K_Piiq s10 s12.toNat).1 ≥ (at_ K_Piiq s10 s12.toNat).2.1)) = true then
        some (.inl (false, ()))
      else
        if (decide ((at_ K_Piiq s10 s12.toNat).2.1 ≥ s1.1)) = true then
          some (.inl (false, ()))
        else
          if (decide (s12 > (0 : Int))) = true then
            let x9 : Int := IntKind.wrap .i64 (s12 - (1 : Int))
            if (idxIn x9 (List.length s1.2.1)) = true then
            (G_compare (([(at_ K_Piiq s1.2.1 x9.toNat).1, (at_ K_Piiq s1.2.1 x9.toNat).2.1], ([(at_ K_Piiq s10 s12.toNat).1, (at_ K_Piiq s10 s12.toNat).2.1], ())))).bind fun r10 =>
            if (decide (r10.1 ≥ (0 : Int))) = true then
              some (.inl (false, ()))
            else
              let x11 : Int := IntKind.wrap .i64 (s12 + (1 : Int))
              back ((s1, (s10, (s11, (x11, ())))))
            else none
          else
            let x12 : Int := IntKind.wrap .i64 (s12 + (1 : Int))
            back ((s1, (s10, (s11, (x12, ())))))
    else none
  else
    some (.inr (.inl ()))
noncomputable def impl_IsGraph_l0 (N : Nat) : Nat → impl_IsGraph_l0_H → Option impl_IsGraph_l0_O
  | 0, _ => none
  | k + 1, d => impl_IsGraph_l0_r N (impl_IsGraph_l0 N k) d
theorem impl_IsGraph_l0_ok (N : Nat) (back) (d) : roundR Γ_impl_IsGraph (assoc []) 0 impl_IsGraph_l0_h impl_IsGraph_l0_o (loopOf Tryz.f88 0) back d = impl_IsGraph_l0_r N back d := by kernel_rfl
noncomputable def F_impl_IsGraph (N : Nat) (d : (Int × (List (Int × Int × Unit)) × Unit) × Unit) : Option (Bool × Unit) :=
  let a0 : Int × (List (Int × Int × Unit)) × Unit := d.1
  let r1 : Bool × Unit := g_impl_within ((a0.1, ((0 : Int), ((8 : Int), ()))))
  if (!r1.1) = true then
    some (false, ())
  else
    (impl_IsGraph_l0 N N ((a0, (a0.2.1, ((List.length a0.2.1 : Int), ((0 : Int), ())))))).bind fun o6 => match o6 with
    | .inl d7 =>
      some (d7.1, ())
    | .inr (.inl d8) =>
      some (true, ())
theorem F_impl_IsGraph_ok (N : Nat) (d) : fnR Γ_impl_IsGraph (assoc [(0, ⟨impl_IsGraph_l0_h, impl_IsGraph_l0_o, impl_IsGraph_l0 N N⟩)]) true [(K_PiSPiiqq, false)] [.bool] Tryz.f88.results.toList (bodyOf Tryz.f88) d = F_impl_IsGraph N d := by kernel_rfl
noncomputable def S_impl_IsGraph : FSig := ⟨[(K_PiSPiiqq, false)], [.bool], true, (G_graph)⟩
noncomputable def Γ_impl_netOf : Ctx := { tk := assoc tks, ar := assoc ars, fs := assoc [] }
abbrev impl_netOf_l0_H := (List Int × Unit) × (List Int × Unit) × (List (Int × Int × Unit)) × Int × Int × Unit
abbrev impl_netOf_l0_O := ((List Int × Unit) × (List Int × Unit) × Unit) ⊕ Empty
def impl_netOf_l0_h : Form := [(2, .box K_PSiq 99), (3, .box K_PSiq 99), (11, .v K_SPiiq), (12, .v I), (13, .v I)]
def impl_netOf_l0_o : Outs := [(.normal, [(2, .box K_PSiq 99), (3, .box K_PSiq 99)])]
noncomputable def impl_netOf_l0_r (N : Nat) (back : impl_netOf_l0_H → Option impl_netOf_l0_O) (d : impl_netOf_l0_H) : Option impl_netOf_l0_O :=
  let s2 : List Int × Unit := d.1
  let s3 : List Int × Unit := d.2.1
  let s11 : List (Int × Int × Unit) := d.2.2.1
  let s12 : Int := d.2.2.2.1
  let s13 : Int := d.2.2.2.2.1
  if (decide (s13 < s12)) = true then
    if (idxIn s13 (List.length s11)) = true then
    if (idxIn (at_ K_Piiq s11 s13.toNat).1 (List.length s3.1)) = true then
    if (decide (0 ≤ (at_ K_Piiq s11 s13.toNat).2.1)) = true then
    let x9 : Int := shl .i64 (1 : Int) (at_ K_Piiq s11 s13.toNat).2.1
    let x10 : Int := bits .or .i64 (at_ I s3.1 (at_ K_Piiq s11 s13.toNat).1.toNat) x9
    if (idxIn (at_ K_Piiq s11 s13.toNat).1 (List.length s3.1)) = true then
    if (idxIn (at_ K_Piiq s11 s13.toNat).2.1 (List.length (List.set s3.1 (at_ K_Piiq s11 s13.toNat).1.toNat x10))) = true then
    if (decide (0 ≤ (at_ K_Piiq s11 s13.toNat).1)) = true then
    let x11 : Int := shl .i64 (1 : Int) (at_ K_Piiq s11 s13.toNat).1
    let x12 : Int := bits .or .i64 (at_ I (List.set s3.1 (at_ K_Piiq s11 s13.toNat).1.toNat x10) (at_ K_Piiq s11 s13.toNat).2.1.toNat) x11
    if (idxIn (at_ K_Piiq s11 s13.toNat).2.1 (List.length (List.set s3.1 (at_ K_Piiq s11 s13.toNat).1.toNat x10))) = true then
    let x13 : Int := IntKind.wrap .i64 (s13 + (1 : Int))
    back ((s2, ((List.set (List.set s3.1 (at_ K_Piiq s11 s13.toNat).1.toNat x10) (at_ K_Piiq s11 s13.toNat).2.1.toNat x12, s3.2), (s11, (s12, (x13, ()))))))
    else none
    else none
    else none
    else none
    else none
    else none
    else none
  else
    some (.inl ((s2, (s3, ()))))
noncomputable def impl_netOf_l0 (N : Nat) : Nat → impl_netOf_l0_H → Option impl_netOf_l0_O
  | 0, _ => none
  | k + 1, d => impl_netOf_l0_r N (impl_netOf_l0 N k) d
theorem impl_netOf_l0_ok (N : Nat) (back) (d) : roundR Γ_impl_netOf (assoc []) 0 impl_netOf_l0_h impl_netOf_l0_o (loopOf Tryz.f50 0) back d = impl_netOf_l0_r N back d := by kernel_rfl
noncomputable def F_impl_netOf (N : Nat) (d : (Int × (List (Int × Int × Unit)) × Unit) × Unit) : Option ((List Int × Unit) × Unit) :=
  let a0 : Int × (List (Int × Int × Unit)) × Unit := d.1
  if ((decide (0 ≤ a0.1) && decide (a0.1 ≤ a0.1) && decide (a0.1 ≤ (lim : Int)))) = true then
  let x1 : List Int := List.replicate a0.1.toNat (0 : Int)
  (impl_netOf_l0 N N (((([] : List Int), ()), ((x1, ()), (a0.2.1, ((List.length a0.2.1 : Int), ((0 : Int), ()))))))).bind fun o7 => match o7 with
  | .inl d8 =>
    some (d8.2.1, ())
  else none
theorem F_impl_netOf_ok (N : Nat) (d) : fnR Γ_impl_netOf (assoc [(0, ⟨impl_netOf_l0_h, impl_netOf_l0_o, impl_netOf_l0 N N⟩)]) true [(K_PiSPiiqq, false)] [K_PSiq] Tryz.f50.results.toList (bodyOf Tryz.f50) d = F_impl_netOf N d := by kernel_rfl
noncomputable def S_impl_netOf : FSig := ⟨[(K_PiSPiiqq, false)], [K_PSiq], true, (G_netOf)⟩
noncomputable def Γ_impl_isCopGame : Ctx := { tk := assoc tks, ar := assoc ars, fs := assoc [(78, S_impl_within), (88, S_impl_IsGraph)] }
noncomputable def F_impl_isCopGame (N : Nat) (d : (Int × (List (Int × Int × Unit)) × Unit) × Int × Unit) : Option (Bool × Unit) :=
  let a0 : Int × (List (Int × Int × Unit)) × Unit := d.1
  let a1 : Int := d.2.1
  (G_graph (a0, ())).bind fun r1 =>
  if (r1.1) = true then
    if (decide (a0.1 > (0 : Int))) = true then
      let r2 : Bool × Unit := g_impl_within ((a1, ((1 : Int), ((3 : Int), ()))))
      some (r2.1, ())
    else
      some (false, ())
  else
    some (false, ())
theorem F_impl_isCopGame_ok (N : Nat) (d) : fnR Γ_impl_isCopGame (assoc []) true [(K_PiSPiiqq, false), (I, false)] [.bool] Tryz.f62.results.toList (bodyOf Tryz.f62) d = F_impl_isCopGame N d := by kernel_rfl
noncomputable def S_impl_isCopGame : FSig := ⟨[(K_PiSPiiqq, false), (I, false)], [.bool], true, (F_impl_isCopGame 0)⟩
noncomputable def Γ_impl_allWithin : Ctx := { tk := assoc tks, ar := assoc ars, fs := assoc [(78, S_impl_within)] }
abbrev impl_allWithin_l0_H := Int × Int × List Int × Int × Int × Unit
abbrev impl_allWithin_l0_O := (Bool × Unit) ⊕ Unit ⊕ Empty
def impl_allWithin_l0_h : Form := [(1, .v I), (2, .v I), (9, .v K_Si), (10, .v I), (11, .v I)]
def impl_allWithin_l0_o : Outs := [(.ret, [(6, .v .bool)]), (.normal, [])]
noncomputable def impl_allWithin_l0_r (N : Nat) (back : impl_allWithin_l0_H → Option impl_allWithin_l0_O) (d : impl_allWithin_l0_H) : Option impl_allWithin_l0_O :=
  let s1 : Int := d.1
  let s2 : Int := d.2.1
  let s9 : List Int := d.2.2.1
  let s10 : Int := d.2.2.2.1
  let s11 : Int := d.2.2.2.2.1
  if (decide (s11 < s10)) = true then
    if (idxIn s11 (List.length s9)) = true then
    let r6 : Bool × Unit := g_impl_within ((at_ I s9 s11.toNat, (s1, (s2, ()))))
    if (!r6.1) = true then
      some (.inl (false, ()))
    else
      let x7 : Int := IntKind.wrap .i64 (s11 + (1 : Int))
      back ((s1, (s2, (s9, (s10, (x7, ()))))))
    else none
  else
    some (.inr (.inl ()))
noncomputable def impl_allWithin_l0 (N : Nat) : Nat → impl_allWithin_l0_H → Option impl_allWithin_l0_O
  | 0, _ => none
  | k + 1, d => impl_allWithin_l0_r N (impl_allWithin_l0 N k) d
theorem impl_allWithin_l0_ok (N : Nat) (back) (d) : roundR Γ_impl_allWithin (assoc []) 0 impl_allWithin_l0_h impl_allWithin_l0_o (loopOf Tryz.f110 0) back d = impl_allWithin_l0_r N back d := by kernel_rfl
noncomputable def F_impl_allWithin (N : Nat) (d : List Int × Int × Int × Unit) : Option (Bool × Unit) :=
  let a0 : List Int := d.1
  let a1 : Int := d.2.1
  let a2 : Int := d.2.2.1
  (impl_allWithin_l0 N N ((a1, (a2, (a0, ((List.length a0 : Int), ((0 : Int), ()))))))).bind fun o3 => match o3 with
  | .inl d4 =>
    some (d4.1, ())
  | .inr (.inl d5) =>
    some (true, ())
theorem F_impl_allWithin_ok (N : Nat) (d) : fnR Γ_impl_allWithin (assoc [(0, ⟨impl_allWithin_l0_h, impl_allWithin_l0_o, impl_allWithin_l0 N N⟩)]) true [(K_Si, false), (I, false), (I, false)] [.bool] Tryz.f110.results.toList (bodyOf Tryz.f110) d = F_impl_allWithin N d := by kernel_rfl
noncomputable def S_impl_allWithin : FSig := ⟨[(K_Si, false), (I, false), (I, false)], [.bool], true, (G_allWithin)⟩
noncomputable def Γ_impl_hasNodes : Ctx := { tk := assoc tks, ar := assoc ars, fs := assoc [(88, S_impl_IsGraph), (110, S_impl_allWithin)] }
noncomputable def F_impl_hasNodes (N : Nat) (d : (Int × (List (Int × Int × Unit)) × Unit) × List Int × Unit) : Option (Bool × Unit) :=
  let a0 : Int × (List (Int × Int × Unit)) × Unit := d.1
  let a1 : List Int := d.2.1
  (G_graph (a0, ())).bind fun r1 =>
  if (r1.1) = true then
    let x2 : Int := IntKind.wrap .i64 (a0.1 - (1 : Int))
    (G_allWithin ((a1, ((0 : Int), (x2, ()))))).bind fun r3 =>
    some (r3.1, ())
  else
    some (false, ())
theorem F_impl_hasNodes_ok (N : Nat) (d) : fnR Γ_impl_hasNodes (assoc []) true [(K_PiSPiiqq, false), (K_Si, false)] [.bool] Tryz.f68.results.toList (bodyOf Tryz.f68) d = F_impl_hasNodes N d := by kernel_rfl
noncomputable def S_impl_hasNodes : FSig := ⟨[(K_PiSPiiqq, false), (K_Si, false)], [.bool], true, (F_impl_hasNodes 0)⟩
noncomputable def Γ_cmp_Less_int : Ctx := { tk := assoc tks, ar := assoc ars, fs := assoc [(138, S_cmp_isNaN_int)] }
noncomputable def F_cmp_Less_int (N : Nat) (d : Int × Int × Unit) : Option (Bool × Unit) :=
  let a0 : Int := d.1
  let a1 : Int := d.2.1
  let r1 : Bool × Unit := g_cmp_isNaN_int (a0, ())
  if (r1.1) = true then
    let r2 : Bool × Unit := g_cmp_isNaN_int (a1, ())
    if (!r2.1) = true then
      some (true, ())
    else
      some (decide (a0 < a1), ())
  else
    some (decide (a0 < a1), ())
theorem F_cmp_Less_int_ok (N : Nat) (d) : fnR Γ_cmp_Less_int (assoc []) true [(I, false), (I, false)] [.bool] Tryz.f129.results.toList (bodyOf Tryz.f129) d = F_cmp_Less_int N d := by kernel_rfl
noncomputable def g_cmp_Less_int (d : Int × Int × Unit) : Bool × Unit :=
  let a0 : Int := d.1
  let a1 : Int := d.2.1
  let r1 : Bool × Unit := g_cmp_isNaN_int (a0, ())
  if (r1.1) = true then
    let r2 : Bool × Unit := g_cmp_isNaN_int (a1, ())
    if (!r2.1) = true then
      (true, ())
    else
      (decide (a0 < a1), ())
  else
    (decide (a0 < a1), ())
theorem F_cmp_Less_int_tot (N : Nat) (d) : F_cmp_Less_int N d = some (g_cmp_Less_int d) := by
  unfold F_cmp_Less_int g_cmp_Less_int
  first
    | rfl
    | (dsimp only; (repeat' split) <;> rfl)
noncomputable def S_cmp_Less_int : FSig := ⟨[(I, false), (I, false)], [.bool], true, (fun d => some (g_cmp_Less_int d))⟩
noncomputable def Γ_slices_IsSorted_Sint_int : Ctx := { tk := assoc tks, ar := assoc ars, fs := assoc [(129, S_cmp_Less_int)] }
abbrev slices_IsSorted_Sint_int_l0_H := List Int × Int × Unit
abbrev slices_IsSorted_Sint_int_l0_O := (Bool × Unit) ⊕ Unit ⊕ Empty
def slices_IsSorted_Sint_int_l0_h : Form := [(0, .v K_Si), (3, .v I)]
def slices_IsSorted_Sint_int_l0_o : Outs := [(.ret, [(2, .v .bool)]), (.normal, [])]
noncomputable def slices_IsSorted_Sint_int_l0_r (N : Nat) (back : slices_IsSorted_Sint_int_l0_H → Option slices_IsSorted_Sint_int_l0_O) (d : slices_IsSorted_Sint_int_l0_H) : Option slices_IsSorted_Sint_int_l0_O :=
  let s0 : List Int := d.1
  let s3 : Int := d.2.1
  if (decide (s3 > (0 : Int))) = true then
    if (idxIn s3 (List.length s0)) = true then
    let x8 : Int := IntKind.wrap .i64 (s3 - (1 : Int))
    if (idxIn x8 (List.length s0)) = true then
    let r9 : Bool × Unit := g_cmp_Less_int ((at_ I s0 s3.toNat, (at_ I s0 x8.toNat, ())))
    if (r9.1) = true then
      some (.inl (false, ()))
    else
      let x10 : Int := IntKind.wrap .i64 (s3 - (1 : Int))
      back ((s0, (x10, ())))
    else none
    else none
  else
    some (.inr (.inl ()))
noncomputable def slices_IsSorted_Sint_int_l0 (N : Nat) : Nat → slices_IsSorted_Sint_int_l0_H → Option slices_IsSorted_Sint_int_l0_O
  | 0, _ => none
  | k + 1, d => slices_IsSorted_Sint_int_l0_r N (slices_IsSorted_Sint_int_l0 N k) d
theorem slices_IsSorted_Sint_int_l0_ok (N : Nat) (back) (d) : roundR Γ_slices_IsSorted_Sint_int (assoc []) 0 slices_IsSorted_Sint_int_l0_h slices_IsSorted_Sint_int_l0_o (loopOf Tryz.f109 0) back d = slices_IsSorted_Sint_int_l0_r N back d := by kernel_rfl
noncomputable def F_slices_IsSorted_Sint_int (N : Nat) (d : List Int × Unit) : Option (Bool × Unit) :=
  let a0 : List Int := d.1
  let x1 : Int := IntKind.wrap .i64 ((List.length a0 : Int) - (1 : Int))
  (slices_IsSorted_Sint_int_l0 N N ((a0, (x1, ())))).bind fun o5 => match o5 with
  | .inl d6 =>
    some (d6.1, ())
  | .inr (.inl d7) =>
    some (true, ())
theorem F_slices_IsSorted_Sint_int_ok (N : Nat) (d) : fnR Γ_slices_IsSorted_Sint_int (assoc [(0, ⟨slices_IsSorted_Sint_int_l0_h, slices_IsSorted_Sint_int_l0_o, slices_IsSorted_Sint_int_l0 N N⟩)]) true [(K_Si, false)] [.bool] Tryz.f109.results.toList (bodyOf Tryz.f109) d = F_slices_IsSorted_Sint_int N d := by kernel_rfl
noncomputable def S_slices_IsSorted_Sint_int : FSig := ⟨[(K_Si, false)], [.bool], true, (G_isSorted)⟩
noncomputable def Γ_impl_areCops : Ctx := { tk := assoc tks, ar := assoc ars, fs := assoc [(62, S_impl_isCopGame), (68, S_impl_hasNodes), (109, S_slices_IsSorted_Sint_int)] }
noncomputable def F_impl_areCops (N : Nat) (d : (Int × (List (Int × Int × Unit)) × Unit) × List Int × Unit) : Option (Bool × Unit) :=
  let a0 : Int × (List (Int × Int × Unit)) × Unit := d.1
  let a1 : List Int := d.2.1
  ((F_impl_isCopGame 0) ((a0, ((List.length a1 : Int), ())))).bind fun r1 =>
  if (r1.1) = true then
    ((F_impl_hasNodes 0) ((a0, (a1, ())))).bind fun r2 =>
    if (r2.1) = true then
      (G_isSorted (a1, ())).bind fun r3 =>
      some (r3.1, ())
    else
      some (false, ())
  else
    some (false, ())
theorem F_impl_areCops_ok (N : Nat) (d) : fnR Γ_impl_areCops (assoc []) true [(K_PiSPiiqq, false), (K_Si, false)] [.bool] Tryz.f67.results.toList (bodyOf Tryz.f67) d = F_impl_areCops N d := by kernel_rfl
noncomputable def S_impl_areCops : FSig := ⟨[(K_PiSPiiqq, false), (K_Si, false)], [.bool], true, (F_impl_areCops 0)⟩
noncomputable def Γ_impl_net_closed : Ctx := { tk := assoc tks, ar := assoc ars, fs := assoc [] }
noncomputable def F_impl_net_closed (N : Nat) (d : (List Int × Unit) × Int × Unit) : Option (Int × Unit) :=
  let a0 : List Int × Unit := d.1
  let a1 : Int := d.2.1
  if (idxIn a1 (List.length a0.1)) = true then
  if (decide (0 ≤ a1)) = true then
  let x1 : Int := bits .or .i64 (at_ I a0.1 a1.toNat) (shl .i64 (1 : Int) a1)
  some (x1, ())
  else none
  else none
theorem F_impl_net_closed_ok (N : Nat) (d) : fnR Γ_impl_net_closed (assoc []) true [(K_PSiq, false), (I, false)] [I] Tryz.f100.results.toList (bodyOf Tryz.f100) d = F_impl_net_closed N d := by kernel_rfl
noncomputable def S_impl_net_closed : FSig := ⟨[(K_PSiq, false), (I, false)], [I], true, (F_impl_net_closed 0)⟩
noncomputable def Γ_impl_setOf : Ctx := { tk := assoc tks, ar := assoc ars, fs := assoc [] }
abbrev impl_setOf_l0_H := Int × List Int × Int × Unit
abbrev impl_setOf_l0_O := (List Int × Unit) ⊕ Empty
def impl_setOf_l0_h : Form := [(0, .v I), (3, .own K_Si 99), (4, .v I)]
def impl_setOf_l0_o : Outs := [(.normal, [(3, .own K_Si 99)])]
noncomputable def impl_setOf_l0_r (N : Nat) (back : impl_setOf_l0_H → Option impl_setOf_l0_O) (d : impl_setOf_l0_H) : Option impl_setOf_l0_O :=
  let s0 : Int := d.1
  let s3 : List Int := d.2.1
  let s4 : Int := d.2.2.1
  if (decide (0 ≤ s4)) = true then
  if (shr .i64 s0 s4 != (0 : Int)) = true then
    if (decide (0 ≤ s4)) = true then
    let x6 : Int := bits .and .i64 (shr .i64 s0 s4) (1 : Int)
    if (x6 == (1 : Int)) = true then
      if (decide (List.length s3 + List.length ([s4]) ≤ lim)) = true then
      let x7 : Int := IntKind.wrap .i64 (s4 + (1 : Int))
      back ((s0, (s3 ++ ([s4]), (x7, ()))))
      else none
    else
      let x8 : Int := IntKind.wrap .i64 (s4 + (1 : Int))
      back ((s0, (s3, (x8, ()))))
    else none
  else
    some (.inl (s3, ()))
  else none
noncomputable def impl_setOf_l0 (N : Nat) : Nat → impl_setOf_l0_H → Option impl_setOf_l0_O
  | 0, _ => none
  | k + 1, d => impl_setOf_l0_r N (impl_setOf_l0 N k) d
theorem impl_setOf_l0_ok (N : Nat) (back) (d) : roundR Γ_impl_setOf (assoc []) 0 impl_setOf_l0_h impl_setOf_l0_o (loopOf Tryz.f52 0) back d = impl_setOf_l0_r N back d := by kernel_rfl
noncomputable def F_impl_setOf (N : Nat) (d : Int × Unit) : Option (List Int × Unit) :=
  let a0 : Int := d.1
  (impl_setOf_l0 N N ((a0, (([] : List Int), ((0 : Int), ()))))).bind fun o4 => match o4 with
  | .inl d5 =>
    some (d5.1, ())
theorem F_impl_setOf_ok (N : Nat) (d) : fnR Γ_impl_setOf (assoc [(0, ⟨impl_setOf_l0_h, impl_setOf_l0_o, impl_setOf_l0 N N⟩)]) true [(I, false)] [K_Si] Tryz.f52.results.toList (bodyOf Tryz.f52) d = F_impl_setOf N d := by kernel_rfl
noncomputable def S_impl_setOf : FSig := ⟨[(I, false)], [K_Si], true, (G_setOf)⟩
noncomputable def Γ_slices_Clone_Sint_int : Ctx := { tk := assoc tks, ar := assoc ars, fs := assoc [] }
noncomputable def F_slices_Clone_Sint_int (N : Nat) (d : List Int × Unit) : Option (List Int × Unit) :=
  let a0 : List Int := d.1
  if (decide (List.length a0 = 0)) = true then
    both (
        some (([] : List Int), ())) (
        if (decide (List.length ([] : List Int) + List.length a0 ≤ lim)) = true then
        some (([] : List Int) ++ a0, ())
        else none)
  else
    if (decide (List.length ([] : List Int) + List.length a0 ≤ lim)) = true then
    some (([] : List Int) ++ a0, ())
    else none
theorem F_slices_Clone_Sint_int_ok (N : Nat) (d) : fnR Γ_slices_Clone_Sint_int (assoc []) true [(K_Si, false)] [K_Si] Tryz.f80.results.toList (bodyOf Tryz.f80) d = F_slices_Clone_Sint_int N d := by kernel_rfl
noncomputable def S_slices_Clone_Sint_int : FSig := ⟨[(K_Si, false)], [K_Si], true, (G_toIntS)⟩
def S_slices_Sort_Sint_int : FSig := ⟨[(K_Si, true)], [], true, G_sortI⟩
noncomputable def Γ_slices_Equal_Sint_int : Ctx := { tk := assoc tks, ar := assoc ars, fs := assoc [] }
abbrev slices_Equal_Sint_int_l0_H := List Int × List Int × Int × Int × Unit
abbrev slices_Equal_Sint_int_l0_O := (Bool × Unit) ⊕ Unit ⊕ Empty
def slices_Equal_Sint_int_l0_h : Form := [(0, .v K_Si), (1, .v K_Si), (12, .v I), (13, .v I)]
def slices_Equal_Sint_int_l0_o : Outs := [(.ret, [(4, .v .bool)]), (.normal, [])]
noncomputable def slices_Equal_Sint_int_l0_r (N : Nat) (back : slices_Equal_Sint_int_l0_H → Option slices_Equal_Sint_int_l0_O) (d : slices_Equal_Sint_int_l0_H) : Option slices_Equal_Sint_int_l0_O :=
  let s0 : List Int := d.1
  let s1 : List Int := d.2.1
  let s12 : Int := d.2.2.1
  let s13 : Int := d.2.2.2.1
  if (decide (s13 < s12)) = true then
    if (idxIn s13 (List.length s0)) = true then
    if (idxIn s13 (List.length s1)) = true then
    if (at_ I s0 s13.toNat != at_ I s1 s13.toNat) = true then
      some (.inl (false, ()))
    else
      let x5 : Int := IntKind.wrap .i64 (s13 + (1 : Int))
      back ((s0, (s1, (s12, (x5, ())))))
    else none
    else none
  else
    some (.inr (.inl ()))
noncomputable def slices_Equal_Sint_int_l0 (N : Nat) : Nat → slices_Equal_Sint_int_l0_H → Option slices_Equal_Sint_int_l0_O
  | 0, _ => none
  | k + 1, d => slices_Equal_Sint_int_l0_r N (slices_Equal_Sint_int_l0 N k) d
theorem slices_Equal_Sint_int_l0_ok (N : Nat) (back) (d) : roundR Γ_slices_Equal_Sint_int (assoc []) 0 slices_Equal_Sint_int_l0_h slices_Equal_Sint_int_l0_o (loopOf Tryz.f92 0) back d = slices_Equal_Sint_int_l0_r N back d := by kernel_rfl
noncomputable def F_slices_Equal_Sint_int (N : Nat) (d : List Int × List Int × Unit) : Option (Bool × Unit) :=
  let a0 : List Int := d.1
  let a1 : List Int := d.2.1
  if ((List.length a0 : Int) != (List.length a1 : Int)) = true then
    some (false, ())
  else
    (slices_Equal_Sint_int_l0 N N ((a0, (a1, ((List.length a0 : Int), ((0 : Int), ())))))).bind fun o2 => match o2 with
    | .inl d3 =>
      some (d3.1, ())
    | .inr (.inl d4) =>
      some (true, ())
theorem F_slices_Equal_Sint_int_ok (N : Nat) (d) : fnR Γ_slices_Equal_Sint_int (assoc [(0, ⟨slices_Equal_Sint_int_l0_h, slices_Equal_Sint_int_l0_o, slices_Equal_Sint_int_l0 N N⟩)]) true [(K_Si, false), (K_Si, false)] [.bool] Tryz.f92.results.toList (bodyOf Tryz.f92) d = F_slices_Equal_Sint_int N d := by kernel_rfl
noncomputable def S_slices_Equal_Sint_int : FSig := ⟨[(K_Si, false), (K_Si, false)], [.bool], true, (G_l1Same)⟩
def S_slices_SortFunc_SSint_Sint_by_slices_Compare_Sint_int : FSig := ⟨[(K_SSi, true), (K_F_slices_Compare_Sint_int_qq, false)], [], true, G_sortF⟩
def S_slices_CompactFunc_SSint_Sint_by_slices_Equal_Sint_int : FSig := ⟨[(K_SSi, true), (K_F_slices_Equal_Sint_int_qq, false)], [K_SSi], true, G_compactF⟩
noncomputable def Γ_impl_net_copMoves : Ctx := { tk := assoc tks, ar := assoc ars, fs := assoc [(52, S_impl_setOf), (80, S_slices_Clone_Sint_int), (100, S_impl_net_closed), (121, S_slices_Sort_Sint_int), (122, S_slices_SortFunc_SSint_Sint_by_slices_Compare_Sint_int)], dm := fun t => Nat.beq t 10 || Nat.beq t 22, cs := assoc [], gs := assoc [(123, (S_slices_CompactFunc_SSint_Sint_by_slices_Equal_Sint_int, { gone := [0], deep := [] }))], eqt := inL [], md := md0 }
abbrev impl_net_copMoves_l4_H := (List Int × Unit) × Int × List (List Int) × List Int × List Int × Int × Int × List (List Int) × Int × Int × List Int × Int × Int × Unit
abbrev impl_net_copMoves_l4_O := ((List Int × Unit) × Int × List (List Int) × List Int × Int × Int × List (List Int) × Int × Int × Unit) ⊕ Empty
def impl_net_copMoves_l4_h : Form := [(2, .box K_PSiq 0), (7, .v I), (8, .own K_SSi 99), (10, .v K_Si), (16, .v K_Si), (17, .v I), (18, .v I), (22, .v K_SSi), (23, .v I), (24, .v I), (31, .own K_Si 99), (32, .v I), (33, .v I)]
def impl_net_copMoves_l4_o : Outs := [(.normal, [(2, .box K_PSiq 0), (7, .v I), (8, .own K_SSi 99), (16, .v K_Si), (17, .v I), (18, .v I), (22, .v K_SSi), (23, .v I), (24, .v I)])]
noncomputable def impl_net_copMoves_l4_r (N : Nat) (back : impl_net_copMoves_l4_H → Option impl_net_copMoves_l4_O) (d : impl_net_copMoves_l4_H) : Option impl_net_copMoves_l4_O :=
  let s2 : List Int × Unit := d.1
  let s7 : Int := d.2.1
  let s8 : List (List Int) := d.2.2.1
  let s10 : List Int := d.2.2.2.1
  let s16 : List Int := d.2.2.2.2.1
  let s17 : Int := d.2.2.2.2.2.1
  let s18 : Int := d.2.2.2.2.2.2.1
  let s22 : List (List Int) := d.2.2.2.2.2.2.2.1
  let s23 : Int := d.2.2.2.2.2.2.2.2.1
  let s24 : Int := d.2.2.2.2.2.2.2.2.2.1
  let s31 : List Int := d.2.2.2.2.2.2.2.2.2.2.1
  let s32 : Int := d.2.2.2.2.2.2.2.2.2.2.2.1
  let s33 : Int := d.2.2.2.2.2.2.2.2.2.2.2.2.1
  if (decide (s33 < s32)) = true then
    if (idxIn s33 (List.length s31)) = true then
    (G_toIntS (s10, ())).bind fun r50 =>
    if (decide (List.length r50.1 + List.length ([at_ I s31 s33.toNat]) ≤ lim)) = true then
    let x51 : List Int := r50.1 ++ ([at_ I s31 s33.toNat])
    if (decide (List.length s8 + List.length ([x51]) ≤ lim)) = true then
    let x52 : Int := IntKind.wrap .i64 (s33 + (1 : Int))
    back ((s2, (s7, (s8 ++ ([x51]), (s10, (s16, (s17, (s18, (s22, (s23, (s24, (s31, (s32, (x52, ()))))))))))))))
    else none
    else none
    else none
  else
    some (.inl ((s2, (s7, (s8, (s16, (s17, (s18, (s22, (s23, (s24, ())))))))))))
noncomputable def impl_net_copMoves_l4 (N : Nat) : Nat → impl_net_copMoves_l4_H → Option impl_net_copMoves_l4_O
  | 0, _ => none
  | k + 1, d => impl_net_copMoves_l4_r N (impl_net_copMoves_l4 N k) d
theorem impl_net_copMoves_l4_ok (N : Nat) (back) (d) : roundR Γ_impl_net_copMoves (assoc []) 4 impl_net_copMoves_l4_h impl_net_copMoves_l4_o (loopOf Tryz.f90 4) back d = impl_net_copMoves_l4_r N back d := by kernel_rfl
abbrev impl_net_copMoves_l2_H := (List Int × Unit) × Int × List (List Int) × List Int × Int × Int × List (List Int) × Int × Int × Unit
abbrev impl_net_copMoves_l2_O := ((List Int × Unit) × List (List Int) × List Int × Int × Int × Unit) ⊕ Empty
def impl_net_copMoves_l2_h : Form := [(2, .box K_PSiq 0), (7, .v I), (8, .own K_SSi 99), (16, .v K_Si), (17, .v I), (18, .v I), (22, .v K_SSi), (23, .v I), (24, .v I)]
def impl_net_copMoves_l2_o : Outs := [(.normal, [(2, .box K_PSiq 0), (8, .own K_SSi 99), (16, .v K_Si), (17, .v I), (18, .v I)])]
noncomputable def impl_net_copMoves_l2_r (N : Nat) (back : impl_net_copMoves_l2_H → Option impl_net_copMoves_l2_O) (d : impl_net_copMoves_l2_H) : Option impl_net_copMoves_l2_O :=
  let s2 : List Int × Unit := d.1
  let s7 : Int := d.2.1
  let s8 : List (List Int) := d.2.2.1
  let s16 : List Int := d.2.2.2.1
  let s17 : Int := d.2.2.2.2.1
  let s18 : Int := d.2.2.2.2.2.1
  let s22 : List (List Int) := d.2.2.2.2.2.2.1
  let s23 : Int := d.2.2.2.2.2.2.2.1
  let s24 : Int := d.2.2.2.2.2.2.2.2.1
  if (decide (s24 < s23)) = true then
    if (idxIn s24 (List.length s22)) = true then
    ((F_impl_net_closed 0) ((s2, (s7, ())))).bind fun r42 =>
    (G_setOf (r42.1, ())).bind fun r43 =>
    (impl_net_copMoves_l4 N N ((s2, (s7, (s8, (at_ K_Si s22 s24.toNat, (s16, (s17, (s18, (s22, (s23, (s24, (r43.1, ((List.length r43.1 : Int), ((0 : Int), ()))))))))))))))).bind fun o47 => match o47 with
    | .inl d48 =>
      let x49 : Int := IntKind.wrap .i64 (d48.2.2.2.2.2.2.2.2.1 + (1 : Int))
      back ((d48.1, (d48.2.1, (d48.2.2.1, (d48.2.2.2.1, (d48.2.2.2.2.1, (d48.2.2.2.2.2.1, (d48.2.2.2.2.2.2.1, (d48.2.2.2.2.2.2.2.1, (x49, ()))))))))))
    else none
  else
    some (.inl ((s2, (s8, (s16, (s17, (s18, ())))))))
noncomputable def impl_net_copMoves_l2 (N : Nat) : Nat → impl_net_copMoves_l2_H → Option impl_net_copMoves_l2_O
  | 0, _ => none
  | k + 1, d => impl_net_copMoves_l2_r N (impl_net_copMoves_l2 N k) d
theorem impl_net_copMoves_l2_ok (N : Nat) (back) (d) : roundR Γ_impl_net_copMoves (assoc [(4, ⟨impl_net_copMoves_l4_h, impl_net_copMoves_l4_o, impl_net_copMoves_l4 N N⟩)]) 2 impl_net_copMoves_l2_h impl_net_copMoves_l2_o (loopOf Tryz.f90 2) back d = impl_net_copMoves_l2_r N back d := by kernel_rfl
abbrev impl_net_copMoves_l0_H := (List Int × Unit) × List (List Int) × List Int × Int × Int × Unit
abbrev impl_net_copMoves_l0_O := (List (List Int) × Unit) ⊕ Empty
def impl_net_copMoves_l0_h : Form := [(2, .box K_PSiq 0), (5, .own K_SSi 99), (16, .v K_Si), (17, .v I), (18, .v I)]
def impl_net_copMoves_l0_o : Outs := [(.normal, [(5, .own K_SSi 99)])]
noncomputable def impl_net_copMoves_l0_r (N : Nat) (back : impl_net_copMoves_l0_H → Option impl_net_copMoves_l0_O) (d : impl_net_copMoves_l0_H) : Option impl_net_copMoves_l0_O :=
  let s2 : List Int × Unit := d.1
  let s5 : List (List Int) := d.2.1
  let s16 : List Int := d.2.2.1
  let s17 : Int := d.2.2.2.1
  let s18 : Int := d.2.2.2.2.1
  if (decide (s18 < s17)) = true then
    if (idxIn s18 (List.length s16)) = true then
    (impl_net_copMoves_l2 N N ((s2, (at_ I s16 s18.toNat, (([] : List (List Int)), (s16, (s17, (s18, (s5, ((List.length s5 : Int), ((0 : Int), ()))))))))))).bind fun o39 => match o39 with
    | .inl d40 =>
      let x41 : Int := IntKind.wrap .i64 (d40.2.2.2.2.1 + (1 : Int))
      back ((d40.1, (d40.2.1, (d40.2.2.1, (d40.2.2.2.1, (x41, ()))))))
    else none
  else
    some (.inl (s5, ()))
noncomputable def impl_net_copMoves_l0 (N : Nat) : Nat → impl_net_copMoves_l0_H → Option impl_net_copMoves_l0_O
  | 0, _ => none
  | k + 1, d => impl_net_copMoves_l0_r N (impl_net_copMoves_l0 N k) d
theorem impl_net_copMoves_l0_ok (N : Nat) (back) (d) : roundR Γ_impl_net_copMoves (assoc [(2, ⟨impl_net_copMoves_l2_h, impl_net_copMoves_l2_o, impl_net_copMoves_l2 N N⟩)]) 0 impl_net_copMoves_l0_h impl_net_copMoves_l0_o (loopOf Tryz.f90 0) back d = impl_net_copMoves_l0_r N back d := by kernel_rfl
abbrev impl_net_copMoves_l6_H := List (List Int) × Unit × Int × Int × Unit
abbrev impl_net_copMoves_l6_O := (List (List Int) × Unit) ⊕ Empty
def impl_net_copMoves_l6_h : Form := [(5, .own K_SSi 99), (49, .same 5 []), (50, .v I), (51, .v I)]
def impl_net_copMoves_l6_o : Outs := [(.normal, [(5, .own K_SSi 99)])]
noncomputable def impl_net_copMoves_l6_r (N : Nat) (back : impl_net_copMoves_l6_H → Option impl_net_copMoves_l6_O) (d : impl_net_copMoves_l6_H) : Option impl_net_copMoves_l6_O :=
  let s5 : List (List Int) := d.1
  let s49 : Unit := d.2.1
  let s50 : Int := d.2.2.1
  let s51 : Int := d.2.2.2.1
  if (decide (s51 < s50)) = true then
    if (idxIn s51 (List.length s5)) = true then
    (G_sortI (at_ K_Si s5 s51.toNat, ())).bind fun r53 =>
    let x54 : Int := IntKind.wrap .i64 (s51 + (1 : Int))
    back ((List.set s5 s51.toNat r53.1, ((), (s50, (x54, ())))))
    else none
  else
    some (.inl (s5, ()))
noncomputable def impl_net_copMoves_l6 (N : Nat) : Nat → impl_net_copMoves_l6_H → Option impl_net_copMoves_l6_O
  | 0, _ => none
  | k + 1, d => impl_net_copMoves_l6_r N (impl_net_copMoves_l6 N k) d
theorem impl_net_copMoves_l6_ok (N : Nat) (back) (d) : roundR Γ_impl_net_copMoves (assoc []) 6 impl_net_copMoves_l6_h impl_net_copMoves_l6_o (loopOf Tryz.f90 6) back d = impl_net_copMoves_l6_r N back d := by kernel_rfl
noncomputable def F_impl_net_copMoves (N : Nat) (d : (List Int × Unit) × List Int × Unit) : Option (List (List Int) × Unit) :=
  let a0 : List Int × Unit := d.1
  let a1 : List Int := d.2.1
  (impl_net_copMoves_l0 N N ((a0, ([([] : List Int)], (a1, ((List.length a1 : Int), ((0 : Int), ()))))))).bind fun o23 => match o23 with
  | .inl d24 =>
    (impl_net_copMoves_l6 N N ((d24.1, ((), ((List.length d24.1 : Int), ((0 : Int), ())))))).bind fun o27 => match o27 with
    | .inl d28 =>
      (G_sortF ((d28.1, (((), ()), ())))).bind fun r29 =>
      (G_compactF ((r29.1, (((), ()), ())))).bind fun r30 =>
      some (r30.1, ())
theorem F_impl_net_copMoves_ok (N : Nat) (d) : fnR Γ_impl_net_copMoves (assoc [(0, ⟨impl_net_copMoves_l0_h, impl_net_copMoves_l0_o, impl_net_copMoves_l0 N N⟩), (6, ⟨impl_net_copMoves_l6_h, impl_net_copMoves_l6_o, impl_net_copMoves_l6 N N⟩)]) true [(K_PSiq, false), (K_Si, false)] [K_SSi] Tryz.f90.results.toList (bodyOf Tryz.f90) d = F_impl_net_copMoves N d := by kernel_rfl
noncomputable def S_impl_net_copMoves : FSig := ⟨[(K_PSiq, false), (K_Si, false)], [K_SSi], true, (G_copMoves)⟩
noncomputable def Γ_impl_isWalk_1 : Ctx := { tk := assoc tks, ar := assoc ars, fs := assoc [(92, S_slices_Equal_Sint_int)] }
noncomputable def F_impl_isWalk_1 (N : Nat) (d : List Int × List Int × Unit) : Option (Bool × Unit) :=
  let a0 : List Int := d.1
  let a1 : List Int := d.2.1
  (G_l1Same ((a0, (a1, ())))).bind fun r1 =>
  some (r1.1, ())
theorem F_impl_isWalk_1_ok (N : Nat) (d) : fnR Γ_impl_isWalk_1 (assoc []) true [(K_Si, false), (K_BSi, false)] [.bool] Tryz.f91.results.toList (bodyOf Tryz.f91) d = F_impl_isWalk_1 N d := by kernel_rfl
noncomputable def S_impl_isWalk_1 : FSig := ⟨[(K_Si, false), (K_BSi, false)], [.bool], true, (F_impl_isWalk_1 0)⟩
noncomputable def FV_impl_isWalk_1 (d : List Int × (Unit × List Int × Unit) × Unit) : Option (Bool × Unit) := (F_impl_isWalk_1 0) (d.1, d.2.1.2)
noncomputable def SV_impl_isWalk_1 : FSig := ⟨[(K_Si, false), (K_F_impl_isWalk_1_qPBSiq, false)], [.bool], true, FV_impl_isWalk_1⟩
noncomputable def Γ_slices_IndexFunc_SSint_Sint_by_impl_isWalk_1 : Ctx := { tk := assoc tks, ar := assoc ars, fs := assoc [], cs := assoc [(91, SV_impl_isWalk_1)] }
abbrev slices_IndexFunc_SSint_Sint_by_impl_isWalk_1_l0_H := List (List Int) × (Unit × List Int × Unit) × Int × Int × Unit
abbrev slices_IndexFunc_SSint_Sint_by_impl_isWalk_1_l0_O := (Int × Unit) ⊕ Unit ⊕ Empty
def slices_IndexFunc_SSint_Sint_by_impl_isWalk_1_l0_h : Form := [(0, .v K_SSi), (1, .v K_F_impl_isWalk_1_qPBSiq), (7, .v I), (8, .v I)]
def slices_IndexFunc_SSint_Sint_by_impl_isWalk_1_l0_o : Outs := [(.ret, [(4, .v I)]), (.normal, [])]
noncomputable def slices_IndexFunc_SSint_Sint_by_impl_isWalk_1_l0_r (N : Nat) (back : slices_IndexFunc_SSint_Sint_by_impl_isWalk_1_l0_H → Option slices_IndexFunc_SSint_Sint_by_impl_isWalk_1_l0_O) (d : slices_IndexFunc_SSint_Sint_by_impl_isWalk_1_l0_H) : Option slices_IndexFunc_SSint_Sint_by_impl_isWalk_1_l0_O :=
  let s0 : List (List Int) := d.1
  let s1 : Unit × List Int × Unit := d.2.1
  let s7 : Int := d.2.2.1
  let s8 : Int := d.2.2.2.1
  if (decide (s8 < s7)) = true then
    if (idxIn s8 (List.length s0)) = true then
    (FV_impl_isWalk_1 ((at_ K_Si s0 s8.toNat, (s1, ())))).bind fun r6 =>
    if (r6.1) = true then
      some (.inl (s8, ()))
    else
      let x7 : Int := IntKind.wrap .i64 (s8 + (1 : Int))
      back ((s0, (s1, (s7, (x7, ())))))
    else none
  else
    some (.inr (.inl ()))
noncomputable def slices_IndexFunc_SSint_Sint_by_impl_isWalk_1_l0 (N : Nat) : Nat → slices_IndexFunc_SSint_Sint_by_impl_isWalk_1_l0_H → Option slices_IndexFunc_SSint_Sint_by_impl_isWalk_1_l0_O
  | 0, _ => none
  | k + 1, d => slices_IndexFunc_SSint_Sint_by_impl_isWalk_1_l0_r N (slices_IndexFunc_SSint_Sint_by_impl_isWalk_1_l0 N k) d
theorem slices_IndexFunc_SSint_Sint_by_impl_isWalk_1_l0_ok (N : Nat) (back) (d) : roundR Γ_slices_IndexFunc_SSint_Sint_by_impl_isWalk_1 (assoc []) 0 slices_IndexFunc_SSint_Sint_by_impl_isWalk_1_l0_h slices_IndexFunc_SSint_Sint_by_impl_isWalk_1_l0_o (loopOf Tryz.f120 0) back d = slices_IndexFunc_SSint_Sint_by_impl_isWalk_1_l0_r N back d := by kernel_rfl
noncomputable def F_slices_IndexFunc_SSint_Sint_by_impl_isWalk_1 (N : Nat) (d : List (List Int) × (Unit × List Int × Unit) × Unit) : Option (Int × Unit) :=
  let a0 : List (List Int) := d.1
  let a1 : Unit × List Int × Unit := d.2.1
  (slices_IndexFunc_SSint_Sint_by_impl_isWalk_1_l0 N N ((a0, (a1, ((List.length a0 : Int), ((0 : Int), ())))))).bind fun o3 => match o3 with
  | .inl d4 =>
    some (d4.1, ())
  | .inr (.inl d5) =>
    some ((-1 : Int), ())
theorem F_slices_IndexFunc_SSint_Sint_by_impl_isWalk_1_ok (N : Nat) (d) : fnR Γ_slices_IndexFunc_SSint_Sint_by_impl_isWalk_1 (assoc [(0, ⟨slices_IndexFunc_SSint_Sint_by_impl_isWalk_1_l0_h, slices_IndexFunc_SSint_Sint_by_impl_isWalk_1_l0_o, slices_IndexFunc_SSint_Sint_by_impl_isWalk_1_l0 N N⟩)]) true [(K_SSi, false), (K_F_impl_isWalk_1_qPBSiq, false)] [I] Tryz.f120.results.toList (bodyOf Tryz.f120) d = F_slices_IndexFunc_SSint_Sint_by_impl_isWalk_1 N d := by kernel_rfl
noncomputable def S_slices_IndexFunc_SSint_Sint_by_impl_isWalk_1 : FSig := ⟨[(K_SSi, false), (K_F_impl_isWalk_1_qPBSiq, false)], [I], true, (G_idxWalk)⟩
noncomputable def Γ_slices_ContainsFunc_SSint_Sint_by_impl_isWalk_1 : Ctx := { tk := assoc tks, ar := assoc ars, fs := assoc [(120, S_slices_IndexFunc_SSint_Sint_by_impl_isWalk_1)] }
noncomputable def F_slices_ContainsFunc_SSint_Sint_by_impl_isWalk_1 (N : Nat) (d : List (List Int) × (Unit × List Int × Unit) × Unit) : Option (Bool × Unit) :=
  let a0 : List (List Int) := d.1
  let a1 : Unit × List Int × Unit := d.2.1
  (G_idxWalk ((a0, (a1, ())))).bind fun r1 =>
  some ((decide (r1.1 ≥ (0 : Int)), ()))
theorem F_slices_ContainsFunc_SSint_Sint_by_impl_isWalk_1_ok (N : Nat) (d) : fnR Γ_slices_ContainsFunc_SSint_Sint_by_impl_isWalk_1 (assoc []) true [(K_SSi, false), (K_F_impl_isWalk_1_qPBSiq, false)] [.bool] Tryz.f89.results.toList (bodyOf Tryz.f89) d = F_slices_ContainsFunc_SSint_Sint_by_impl_isWalk_1 N d := by kernel_rfl
noncomputable def S_slices_ContainsFunc_SSint_Sint_by_impl_isWalk_1 : FSig := ⟨[(K_SSi, false), (K_F_impl_isWalk_1_qPBSiq, false)], [.bool], true, (F_slices_ContainsFunc_SSint_Sint_by_impl_isWalk_1 0)⟩
noncomputable def Γ_impl_isWalk : Ctx := { tk := assoc tks, ar := assoc ars, fs := assoc [(50, S_impl_netOf), (67, S_impl_areCops), (78, S_impl_within), (88, S_impl_IsGraph), (89, S_slices_ContainsFunc_SSint_Sint_by_impl_isWalk_1), (90, S_impl_net_copMoves)], cs := assoc [], fz := fun t => Nat.beq t 7 }
abbrev impl_isWalk_l0_H := List (List Int) × (Int × (List (Int × Int × Unit)) × Unit) × (List Int × Unit) × List (List Int) × Int × Int × Unit
abbrev impl_isWalk_l0_O := (Bool × Unit) ⊕ Unit ⊕ Empty
def impl_isWalk_l0_h : Form := [(1, .v K_SSi), (2, .box K_PiSPiiqq 0), (5, .box K_PSiq 99), (19, .v K_SSi), (20, .v I), (21, .v I)]
def impl_isWalk_l0_o : Outs := [(.ret, [(4, .v .bool)]), (.normal, [])]
noncomputable def impl_isWalk_l0_r (N : Nat) (back : impl_isWalk_l0_H → Option impl_isWalk_l0_O) (d : impl_isWalk_l0_H) : Option impl_isWalk_l0_O :=
  let s1 : List (List Int) := d.1
  let s2 : Int × (List (Int × Int × Unit)) × Unit := d.2.1
  let s5 : List Int × Unit := d.2.2.1
  let s19 : List (List Int) := d.2.2.2.1
  let s20 : Int := d.2.2.2.2.1
  let s21 : Int := d.2.2.2.2.2.1
  if (decide (s21 < s20)) = true then
    if (idxIn s21 (List.length s19)) = true then
    ((F_impl_areCops 0) ((s2, (at_ K_Si s19 s21.toNat, ())))).bind fun r13 =>
    if (!r13.1) = true then
      some (.inl (false, ()))
    else
      if (idxIn (0 : Int) (List.length s1)) = true then
      if ((List.length (at_ K_Si s19 s21.toNat) : Int) != (List.length (at_ K_Si s1 (0 : Int).toNat) : Int)) = true then
        some (.inl (false, ()))
      else
        if (decide (s21 > (0 : Int))) = true then
          let x14 : Int := IntKind.wrap .i64 (s21 - (1 : Int))
          if (idxIn x14 (List.length s1)) = true then
          (G_copMoves ((s5, (at_ K_Si s1 x14.toNat, ())))).bind fun r15 =>
          ((F_slices_ContainsFunc_SSint_Sint_by_impl_isWalk_1 0) ((r15.1, (((), (at_ K_Si s19 s21.toNat, ())), ())))).bind fun r16 =>
          if (!r16.1) = true then
            some (.inl (false, ()))
          else
            let x17 : Int := IntKind.wrap .i64 (s21 + (1 : Int))
            back ((s1, (s2, (s5, (s19, (s20, (x17, ())))))))
          else none
        else
          let x18 : Int := IntKind.wrap .i64 (s21 + (1 : Int))
          back ((s1, (s2, (s5, (s19, (s20, (x18, ())))))))
      else none
    else none
  else
    some (.inr (.inl ()))
noncomputable def impl_isWalk_l0 (N : Nat) : Nat → impl_isWalk_l0_H → Option impl_isWalk_l0_O
  | 0, _ => none
  | k + 1, d => impl_isWalk_l0_r N (impl_isWalk_l0 N k) d
theorem impl_isWalk_l0_ok (N : Nat) (back) (d) : roundR Γ_impl_isWalk (assoc []) 0 impl_isWalk_l0_h impl_isWalk_l0_o (loopOf Tryz.f49 0) back d = impl_isWalk_l0_r N back d := by kernel_rfl
noncomputable def F_impl_isWalk (N : Nat) (d : (Int × (List (Int × Int × Unit)) × Unit) × List (List Int) × Unit) : Option (Bool × Unit) :=
  let a0 : Int × (List (Int × Int × Unit)) × Unit := d.1
  let a1 : List (List Int) := d.2.1
  (G_graph (a0, ())).bind fun r1 =>
  if (!r1.1) = true then
    some (false, ())
  else
    let r2 : Bool × Unit := g_impl_within (((List.length a1 : Int), ((1 : Int), ((40 : Int), ()))))
    if (!r2.1) = true then
      some (false, ())
    else
      (G_netOf (a0, ())).bind fun r3 =>
      (impl_isWalk_l0 N N ((a1, (a0, (r3.1, (a1, ((List.length a1 : Int), ((0 : Int), ())))))))).bind fun o10 => match o10 with
      | .inl d11 =>
        some (d11.1, ())
      | .inr (.inl d12) =>
        some (true, ())
theorem F_impl_isWalk_ok (N : Nat) (d) : fnR Γ_impl_isWalk (assoc [(0, ⟨impl_isWalk_l0_h, impl_isWalk_l0_o, impl_isWalk_l0 N N⟩)]) true [(K_PiSPiiqq, false), (K_SSi, false)] [.bool] Tryz.f49.results.toList (bodyOf Tryz.f49) d = F_impl_isWalk N d := by kernel_rfl
noncomputable def S_impl_isWalk : FSig := ⟨[(K_PiSPiiqq, false), (K_SSi, false)], [.bool], true, (G_walk)⟩
noncomputable def Γ_impl_net_all : Ctx := { tk := assoc tks, ar := assoc ars, fs := assoc [] }
noncomputable def F_impl_net_all (N : Nat) (d : (List Int × Unit) × Unit) : Option (Int × Unit) :=
  let a0 : List Int × Unit := d.1
  if (decide (0 ≤ (List.length a0.1 : Int))) = true then
  let x1 : Int := shl .i64 (1 : Int) (List.length a0.1 : Int)
  let x2 : Int := IntKind.wrap .i64 (x1 - (1 : Int))
  some (x2, ())
  else none
theorem F_impl_net_all_ok (N : Nat) (d) : fnR Γ_impl_net_all (assoc []) true [(K_PSiq, false)] [I] Tryz.f93.results.toList (bodyOf Tryz.f93) d = F_impl_net_all N d := by kernel_rfl
noncomputable def S_impl_net_all : FSig := ⟨[(K_PSiq, false)], [I], true, (F_impl_net_all 0)⟩
noncomputable def Γ_impl_maskOf : Ctx := { tk := assoc tks, ar := assoc ars, fs := assoc [] }
abbrev impl_maskOf_l0_H := Int × List Int × Int × Int × Unit
abbrev impl_maskOf_l0_O := (Int × Unit) ⊕ Empty
def impl_maskOf_l0_h : Form := [(3, .v I), (6, .v K_Si), (7, .v I), (8, .v I)]
def impl_maskOf_l0_o : Outs := [(.normal, [(3, .v I)])]
noncomputable def impl_maskOf_l0_r (N : Nat) (back : impl_maskOf_l0_H → Option impl_maskOf_l0_O) (d : impl_maskOf_l0_H) : Option impl_maskOf_l0_O :=
  let s3 : Int := d.1
  let s6 : List Int := d.2.1
  let s7 : Int := d.2.2.1
  let s8 : Int := d.2.2.2.1
  if (decide (s8 < s7)) = true then
    if (idxIn s8 (List.length s6)) = true then
    if (decide (0 ≤ at_ I s6 s8.toNat)) = true then
    let x5 : Int := shl .i64 (1 : Int) (at_ I s6 s8.toNat)
    let x6 : Int := IntKind.wrap .i64 (s8 + (1 : Int))
    back ((bits .or .i64 s3 x5, (s6, (s7, (x6, ())))))
    else none
    else none
  else
    some (.inl (s3, ()))
noncomputable def impl_maskOf_l0 (N : Nat) : Nat → impl_maskOf_l0_H → Option impl_maskOf_l0_O
  | 0, _ => none
  | k + 1, d => impl_maskOf_l0_r N (impl_maskOf_l0 N k) d
theorem impl_maskOf_l0_ok (N : Nat) (back) (d) : roundR Γ_impl_maskOf (assoc []) 0 impl_maskOf_l0_h impl_maskOf_l0_o (loopOf Tryz.f94 0) back d = impl_maskOf_l0_r N back d := by kernel_rfl
noncomputable def F_impl_maskOf (N : Nat) (d : List Int × Unit) : Option (Int × Unit) :=
  let a0 : List Int := d.1
  (impl_maskOf_l0 N N (((0 : Int), (a0, ((List.length a0 : Int), ((0 : Int), ())))))).bind fun o3 => match o3 with
  | .inl d4 =>
    some (d4.1, ())
theorem F_impl_maskOf_ok (N : Nat) (d) : fnR Γ_impl_maskOf (assoc [(0, ⟨impl_maskOf_l0_h, impl_maskOf_l0_o, impl_maskOf_l0 N N⟩)]) true [(K_Si, false)] [I] Tryz.f94.results.toList (bodyOf Tryz.f94) d = F_impl_maskOf N d := by kernel_rfl
noncomputable def S_impl_maskOf : FSig := ⟨[(K_Si, false)], [I], true, (G_maskOf)⟩
noncomputable def Γ_impl_net_around : Ctx := { tk := assoc tks, ar := assoc ars, fs := assoc [] }
abbrev impl_net_around_l0_H := Int × Int × List Int × Int × Int × Unit
abbrev impl_net_around_l0_O := (Int × Unit) ⊕ Empty
def impl_net_around_l0_h : Form := [(1, .v I), (5, .v I), (10, .v K_Si), (11, .v I), (12, .v I)]
def impl_net_around_l0_o : Outs := [(.normal, [(5, .v I)])]
noncomputable def impl_net_around_l0_r (N : Nat) (back : impl_net_around_l0_H → Option impl_net_around_l0_O) (d : impl_net_around_l0_H) : Option impl_net_around_l0_O :=
  let s1 : Int := d.1
  let s5 : Int := d.2.1
  let s10 : List Int := d.2.2.1
  let s11 : Int := d.2.2.2.1
  let s12 : Int := d.2.2.2.2.1
  if (decide (s12 < s11)) = true then
    if (idxIn s12 (List.length s10)) = true then
    if (decide (0 ≤ s12)) = true then
    let x7 : Int := bits .and .i64 (shr .i64 s1 s12) (1 : Int)
    if (x7 == (1 : Int)) = true then
      let x8 : Int := bits .or .i64 s5 (at_ I s10 s12.toNat)
      let x9 : Int := IntKind.wrap .i64 (s12 + (1 : Int))
      back ((s1, (x8, (s10, (s11, (x9, ()))))))
    else
      let x10 : Int := IntKind.wrap .i64 (s12 + (1 : Int))
      back ((s1, (s5, (s10, (s11, (x10, ()))))))
    else none
    else none
  else
    some (.inl (s5, ()))
noncomputable def impl_net_around_l0 (N : Nat) : Nat → impl_net_around_l0_H → Option impl_net_around_l0_O
  | 0, _ => none
  | k + 1, d => impl_net_around_l0_r N (impl_net_around_l0 N k) d
theorem impl_net_around_l0_ok (N : Nat) (back) (d) : roundR Γ_impl_net_around (assoc []) 0 impl_net_around_l0_h impl_net_around_l0_o (loopOf Tryz.f99 0) back d = impl_net_around_l0_r N back d := by kernel_rfl
noncomputable def F_impl_net_around (N : Nat) (d : (List Int × Unit) × Int × Unit) : Option (Int × Unit) :=
  let a0 : List Int × Unit := d.1
  let a1 : Int := d.2.1
  (impl_net_around_l0 N N ((a1, (a1, (a0.1, ((List.length a0.1 : Int), ((0 : Int), ()))))))).bind fun o5 => match o5 with
  | .inl d6 =>
    some (d6.1, ())
theorem F_impl_net_around_ok (N : Nat) (d) : fnR Γ_impl_net_around (assoc [(0, ⟨impl_net_around_l0_h, impl_net_around_l0_o, impl_net_around_l0 N N⟩)]) true [(K_PSiq, false), (I, false)] [I] Tryz.f99.results.toList (bodyOf Tryz.f99) d = F_impl_net_around N d := by kernel_rfl
noncomputable def S_impl_net_around : FSig := ⟨[(K_PSiq, false), (I, false)], [I], true, (G_around)⟩
noncomputable def Γ_impl_net_escape : Ctx := { tk := assoc tks, ar := assoc ars, fs := assoc [(52, S_impl_setOf), (93, S_impl_net_all), (94, S_impl_maskOf), (99, S_impl_net_around), (100, S_impl_net_closed)] }
abbrev impl_net_escape_l0_H := List (List Int) × (List Int × Unit) × List Int × Int × Unit
abbrev impl_net_escape_l0_O := (List (List Int) × (List Int × Unit) × List Int × Unit) ⊕ Empty
def impl_net_escape_l0_h : Form := [(1, .v K_SSi), (2, .box K_PSiq 0), (7, .own K_Si 99), (8, .v I)]
def impl_net_escape_l0_o : Outs := [(.normal, [(1, .v K_SSi), (2, .box K_PSiq 0), (7, .own K_Si 99)])]
noncomputable def impl_net_escape_l0_r (N : Nat) (back : impl_net_escape_l0_H → Option impl_net_escape_l0_O) (d : impl_net_escape_l0_H) : Option impl_net_escape_l0_O :=
  let s1 : List (List Int) := d.1
  let s2 : List Int × Unit := d.2.1
  let s7 : List Int := d.2.2.1
  let s8 : Int := d.2.2.2.1
  if (decide (s8 ≥ (0 : Int))) = true then
    let x25 : Int := IntKind.wrap .i64 (s8 + (1 : Int))
    if (idxIn x25 (List.length s7)) = true then
    (G_around ((s2, (at_ I s7 x25.toNat, ())))).bind fun r26 =>
    if (idxIn s8 (List.length s1)) = true then
    (G_maskOf (at_ K_Si s1 s8.toNat, ())).bind fun r27 =>
    let x28 : Int := bits .andNot .i64 r26.1 r27.1
    let x29 : Int := IntKind.wrap .i64 (s8 + (1 : Int))
    if (idxIn x29 (List.length s1)) = true then
    (G_maskOf (at_ K_Si s1 x29.toNat, ())).bind fun r30 =>
    if (idxIn s8 (List.length s7)) = true then
    let x31 : List Int := List.set s7 s8.toNat (bits .andNot .i64 x28 r30.1)
    let x32 : Int := IntKind.wrap .i64 (s8 - (1 : Int))
    back ((s1, (s2, (x31, (x32, ())))))
    else none
    else none
    else none
    else none
  else
    some (.inl ((s1, (s2, (s7, ())))))
noncomputable def impl_net_escape_l0 (N : Nat) : Nat → impl_net_escape_l0_H → Option impl_net_escape_l0_O
  | 0, _ => none
  | k + 1, d => impl_net_escape_l0_r N (impl_net_escape_l0 N k) d
theorem impl_net_escape_l0_ok (N : Nat) (back) (d) : roundR Γ_impl_net_escape (assoc []) 0 impl_net_escape_l0_h impl_net_escape_l0_o (loopOf Tryz.f58 0) back d = impl_net_escape_l0_r N back d := by kernel_rfl
abbrev impl_net_escape_l2_H := (List Int × Unit) × List Int × List Int × Int × Int × Int × Unit
abbrev impl_net_escape_l2_O := (List Int × Bool × Unit) ⊕ (List Int × Unit) ⊕ Empty
def impl_net_escape_l2_h : Form := [(2, .box K_PSiq 0), (7, .own K_Si 99), (9, .own K_Si 99), (10, .v I), (63, .v I), (64, .v I)]
def impl_net_escape_l2_o : Outs := [(.ret, [(4, .own K_Si 99), (5, .v .bool)]), (.normal, [(9, .own K_Si 99)])]
noncomputable def impl_net_escape_l2_r (N : Nat) (back : impl_net_escape_l2_H → Option impl_net_escape_l2_O) (d : impl_net_escape_l2_H) : Option impl_net_escape_l2_O :=
  let s2 : List Int × Unit := d.1
  let s7 : List Int := d.2.1
  let s9 : List Int := d.2.2.1
  let s10 : Int := d.2.2.2.1
  let s63 : Int := d.2.2.2.2.1
  let s64 : Int := d.2.2.2.2.2.1
  if (decide (s64 < s63)) = true then
    if (idxIn s64 (List.length s7)) = true then
    let x33 : Int := bits .and .i64 s10 (at_ I s7 s64.toNat)
    (G_setOf (x33, ())).bind fun r34 =>
    if ((List.length r34.1 : Int) == (0 : Int)) = true then
      some (.inl ((([] : List Int), (false, ()))))
    else
      if (idxIn (0 : Int) (List.length r34.1)) = true then
      if (decide (List.length s9 + List.length ([at_ I r34.1 (0 : Int).toNat]) ≤ lim)) = true then
      let x35 : List Int := s9 ++ ([at_ I r34.1 (0 : Int).toNat])
      if (idxIn (0 : Int) (List.length r34.1)) = true then
      ((F_impl_net_closed 0) ((s2, (at_ I r34.1 (0 : Int).toNat, ())))).bind fun r36 =>
      let x37 : Int := IntKind.wrap .i64 (s64 + (1 : Int))
      back ((s2, (s7, (x35, (r36.1, (s63, (x37, ())))))))
      else none
      else none
      else none
    else none
  else
    some (.inr (.inl (s9, ())))
noncomputable def impl_net_escape_l2 (N : Nat) : Nat → impl_net_escape_l2_H → Option impl_net_escape_l2_O
  | 0, _ => none
  | k + 1, d => impl_net_escape_l2_r N (impl_net_escape_l2 N k) d
theorem impl_net_escape_l2_ok (N : Nat) (back) (d) : roundR Γ_impl_net_escape (assoc []) 2 impl_net_escape_l2_h impl_net_escape_l2_o (loopOf Tryz.f58 2) back d = impl_net_escape_l2_r N back d := by kernel_rfl
noncomputable def F_impl_net_escape (N : Nat) (d : (List Int × Unit) × List (List Int) × Unit) : Option (List Int × Bool × Unit) :=
  let a0 : List Int × Unit := d.1
  let a1 : List (List Int) := d.2.1
  if ((decide (0 ≤ (List.length a1 : Int)) && decide ((List.length a1 : Int) ≤ (List.length a1 : Int)) && decide ((List.length a1 : Int) ≤ (lim : Int)))) = true then
  let x1 : List Int := List.replicate (List.length a1 : Int).toNat (0 : Int)
  let x2 : Int := IntKind.wrap .i64 ((List.length a1 : Int) - (1 : Int))
  ((F_impl_net_all 0) (a0, ())).bind fun r3 =>
  let x4 : Int := IntKind.wrap .i64 ((List.length a1 : Int) - (1 : Int))
  if (idxIn x4 (List.length a1)) = true then
  (G_maskOf (at_ K_Si a1 x4.toNat, ())).bind fun r5 =>
  if (idxIn x2 (List.length x1)) = true then
  let x6 : List Int := List.set x1 x2.toNat (bits .andNot .i64 r3.1 r5.1)
  let x7 : Int := IntKind.wrap .i64 ((List.length a1 : Int) - (2 : Int))
  (impl_net_escape_l0 N N ((a1, (a0, (x6, (x7, ())))))).bind fun o15 => match o15 with
  | .inl d16 =>
    if (idxIn (0 : Int) (List.length d16.2.2.1)) = true then
    (impl_net_escape_l2 N N ((d16.2.1, (d16.2.2.1, (([] : List Int), (at_ I d16.2.2.1 (0 : Int).toNat, ((List.length d16.1 : Int), ((0 : Int), ())))))))).bind fun o22 => match o22 with
    | .inl d23 =>
      some ((d23.1, (d23.2.1, ())))
    | .inr (.inl d24) =>
      some ((d24.1, (true, ())))
    else none
  else none
  else none
  else none
theorem F_impl_net_escape_ok (N : Nat) (d) : fnR Γ_impl_net_escape (assoc [(0, ⟨impl_net_escape_l0_h, impl_net_escape_l0_o, impl_net_escape_l0 N N⟩), (2, ⟨impl_net_escape_l2_h, impl_net_escape_l2_o, impl_net_escape_l2 N N⟩)]) true [(K_PSiq, false), (K_SSi, false)] [K_Si, .bool] Tryz.f58.results.toList (bodyOf Tryz.f58) d = F_impl_net_escape N d := by kernel_rfl
noncomputable def S_impl_net_escape : FSig := ⟨[(K_PSiq, false), (K_SSi, false)], [K_Si, .bool], true, (G_netEsc)⟩
noncomputable def Γ_impl_EscapeOf : Ctx := { tk := assoc tks, ar := assoc ars, fs := assoc [(49, S_impl_isWalk), (50, S_impl_netOf), (58, S_impl_net_escape)] }
noncomputable def F_impl_EscapeOf (N : Nat) (d : (Int × (List (Int × Int × Unit)) × Unit) × List (List Int) × Unit) : Option (List Int × Bool × Unit) :=
  let a0 : Int × (List (Int × Int × Unit)) × Unit := d.1
  let a1 : List (List Int) := d.2.1
  (G_walk ((a0, (a1, ())))).bind fun r1 =>
  if (!r1.1) = true then
    some ((([] : List Int), (false, ())))
  else
    (G_netOf (a0, ())).bind fun r2 =>
    (G_netEsc ((r2.1, (a1, ())))).bind fun r3 =>
    some ((r3.1, (r3.2.1, ())))
theorem F_impl_EscapeOf_ok (N : Nat) (d) : fnR Γ_impl_EscapeOf (assoc []) true [(K_PiSPiiqq, false), (K_SSi, false)] [K_Si, .bool] Tryz.f24.results.toList (bodyOf Tryz.f24) d = F_impl_EscapeOf N d := by kernel_rfl
noncomputable def S_impl_EscapeOf : FSig := ⟨[(K_PiSPiiqq, false), (K_SSi, false)], [K_Si, .bool], true, (F_impl_EscapeOf 0)⟩
noncomputable def Γ_laws_eqIntS : Ctx := { tk := assoc tks, ar := assoc ars, fs := assoc [] }
abbrev laws_eqIntS_l0_H := List Int × List Int × Int × Unit
abbrev laws_eqIntS_l0_O := (Bool × Unit) ⊕ Unit ⊕ Empty
def laws_eqIntS_l0_h : Form := [(0, .v K_Si), (1, .v K_Si), (5, .v I)]
def laws_eqIntS_l0_o : Outs := [(.ret, [(4, .v .bool)]), (.normal, [])]
noncomputable def laws_eqIntS_l0_r (N : Nat) (back : laws_eqIntS_l0_H → Option laws_eqIntS_l0_O) (d : laws_eqIntS_l0_H) : Option laws_eqIntS_l0_O :=
  let s0 : List Int := d.1
  let s1 : List Int := d.2.1
  let s5 : Int := d.2.2.1
  if (decide (s5 < (List.length s0 : Int))) = true then
    if (idxIn s5 (List.length s0)) = true then
    if (idxIn s5 (List.length s1)) = true then
    if (at_ I s0 s5.toNat != at_ I s1 s5.toNat) = true then
      some (.inl (false, ()))
    else
      let x5 : Int := IntKind.wrap .i64 (s5 + (1 : Int))
      back ((s0, (s1, (x5, ()))))
    else none
    else none
  else
    some (.inr (.inl ()))
noncomputable def laws_eqIntS_l0 (N : Nat) : Nat → laws_eqIntS_l0_H → Option laws_eqIntS_l0_O
  | 0, _ => none
  | k + 1, d => laws_eqIntS_l0_r N (laws_eqIntS_l0 N k) d
theorem laws_eqIntS_l0_ok (N : Nat) (back) (d) : roundR Γ_laws_eqIntS (assoc []) 0 laws_eqIntS_l0_h laws_eqIntS_l0_o (loopOf Tryz.f25 0) back d = laws_eqIntS_l0_r N back d := by kernel_rfl
noncomputable def F_laws_eqIntS (N : Nat) (d : List Int × List Int × Unit) : Option (Bool × Unit) :=
  let a0 : List Int := d.1
  let a1 : List Int := d.2.1
  if ((List.length a0 : Int) != (List.length a1 : Int)) = true then
    some (false, ())
  else
    (laws_eqIntS_l0 N N ((a0, (a1, ((0 : Int), ()))))).bind fun o2 => match o2 with
    | .inl d3 =>
      some (d3.1, ())
    | .inr (.inl d4) =>
      some (true, ())
theorem F_laws_eqIntS_ok (N : Nat) (d) : fnR Γ_laws_eqIntS (assoc [(0, ⟨laws_eqIntS_l0_h, laws_eqIntS_l0_o, laws_eqIntS_l0 N N⟩)]) true [(K_Si, false), (K_Si, false)] [.bool] Tryz.f25.results.toList (bodyOf Tryz.f25) d = F_laws_eqIntS N d := by kernel_rfl
noncomputable def S_laws_eqIntS : FSig := ⟨[(K_Si, false), (K_Si, false)], [.bool], true, (G_eqIntS)⟩
noncomputable def Γ_laws_eqIntA2 : Ctx := { tk := assoc tks, ar := assoc ars, fs := assoc [] }
abbrev laws_eqIntA2_l0_H := (Int × Int × Unit) × (Int × Int × Unit) × Int × Unit
abbrev laws_eqIntA2_l0_O := (Bool × Unit) ⊕ Unit ⊕ Empty
def laws_eqIntA2_l0_h : Form := [(2, .box K_Piiq 99), (3, .box K_Piiq 99), (5, .v I)]
def laws_eqIntA2_l0_o : Outs := [(.ret, [(4, .v .bool)]), (.normal, [])]
noncomputable def laws_eqIntA2_l0_r (N : Nat) (back : laws_eqIntA2_l0_H → Option laws_eqIntA2_l0_O) (d : laws_eqIntA2_l0_H) : Option laws_eqIntA2_l0_O :=
  let s2 : Int × Int × Unit := d.1
  let s3 : Int × Int × Unit := d.2.1
  let s5 : Int := d.2.2.1
  if (decide (s5 < (2 : Int))) = true then
    if (s5 == (0 : Int)) = true then
      if (s5 == (0 : Int)) = true then
        if (s2.1 != s3.1) = true then
          some (.inl (false, ()))
        else
          let x11 : Int := IntKind.wrap .i64 (s5 + (1 : Int))
          back ((s2, (s3, (x11, ()))))
      else
        if (s5 == (1 : Int)) = true then
        if (s2.1 != s3.2.1) = true then
          some (.inl (false, ()))
        else
          let x10 : Int := IntKind.wrap .i64 (s5 + (1 : Int))
          back ((s2, (s3, (x10, ()))))
        else none
    else
      if (s5 == (1 : Int)) = true then
      if (s5 == (0 : Int)) = true then
        if (s2.2.1 != s3.1) = true then
          some (.inl (false, ()))
        else
          let x9 : Int := IntKind.wrap .i64 (s5 + (1 : Int))
          back ((s2, (s3, (x9, ()))))
      else
        if (s5 == (1 : Int)) = true then
        if (s2.2.1 != s3.2.1) = true then
          some (.inl (false, ()))
        else
          let x8 : Int := IntKind.wrap .i64 (s5 + (1 : Int))
          back ((s2, (s3, (x8, ()))))
        else none
      else none
  else
    some (.inr (.inl ()))
noncomputable def laws_eqIntA2_l0 (N : Nat) : Nat → laws_eqIntA2_l0_H → Option laws_eqIntA2_l0_O
  | 0, _ => none
  | k + 1, d => laws_eqIntA2_l0_r N (laws_eqIntA2_l0 N k) d
theorem laws_eqIntA2_l0_ok (N : Nat) (back) (d) : roundR Γ_laws_eqIntA2 (assoc []) 0 laws_eqIntA2_l0_h laws_eqIntA2_l0_o (loopOf Tryz.f96 0) back d = laws_eqIntA2_l0_r N back d := by kernel_rfl
noncomputable def F_laws_eqIntA2 (N : Nat) (d : (Int × Int × Unit) × (Int × Int × Unit) × Unit) : Option (Bool × Unit) :=
  let a0 : Int × Int × Unit := d.1
  let a1 : Int × Int × Unit := d.2.1
  (laws_eqIntA2_l0 N N ((a0, (a1, ((0 : Int), ()))))).bind fun o5 => match o5 with
  | .inl d6 =>
    some (d6.1, ())
  | .inr (.inl d7) =>
    some (true, ())
theorem F_laws_eqIntA2_ok (N : Nat) (d) : fnR Γ_laws_eqIntA2 (assoc [(0, ⟨laws_eqIntA2_l0_h, laws_eqIntA2_l0_o, laws_eqIntA2_l0 N N⟩)]) true [(K_Piiq, false), (K_Piiq, false)] [.bool] Tryz.f96.results.toList (bodyOf Tryz.f96) d = F_laws_eqIntA2 N d := by kernel_rfl
noncomputable def S_laws_eqIntA2 : FSig := ⟨[(K_Piiq, false), (K_Piiq, false)], [.bool], true, (G_eqIntA2)⟩
noncomputable def Γ_laws_eqIntA2S : Ctx := { tk := assoc tks, ar := assoc ars, fs := assoc [(96, S_laws_eqIntA2)] }
abbrev laws_eqIntA2S_l0_H := (List (Int × Int × Unit)) × (List (Int × Int × Unit)) × Int × Unit
abbrev laws_eqIntA2S_l0_O := (Bool × Unit) ⊕ Unit ⊕ Empty
def laws_eqIntA2S_l0_h : Form := [(0, .v K_SPiiq), (1, .v K_SPiiq), (5, .v I)]
def laws_eqIntA2S_l0_o : Outs := [(.ret, [(4, .v .bool)]), (.normal, [])]
noncomputable def laws_eqIntA2S_l0_r (N : Nat) (back : laws_eqIntA2S_l0_H → Option laws_eqIntA2S_l0_O) (d : laws_eqIntA2S_l0_H) : Option laws_eqIntA2S_l0_O :=
  let s0 : List (Int × Int × Unit) := d.1
  let s1 : List (Int × Int × Unit) := d.2.1
  let s5 : Int := d.2.2.1
  if (decide (s5 < (List.length s0 : Int))) = true then
    if (idxIn s5 (List.length s0)) = true then
    if (idxIn s5 (List.length s1)) = true then
    (G_eqIntA2 ((at_ K_Piiq s0 s5.toNat, (at_ K_Piiq s1 s5.toNat, ())))).bind fun r6 =>
    if (!r6.1) = true then
      some (.inl (false, ()))
    else
      let x7 : Int := IntKind.wrap .i64 (s5 + (1 : Int))
      back ((s0, (s1, (x7, ()))))
    else none
    else none
  else
    some (.inr (.inl ()))
noncomputable def laws_eqIntA2S_l0 (N : Nat) : Nat → laws_eqIntA2S_l0_H → Option laws_eqIntA2S_l0_O
  | 0, _ => none
  | k + 1, d => laws_eqIntA2S_l0_r N (laws_eqIntA2S_l0 N k) d
theorem laws_eqIntA2S_l0_ok (N : Nat) (back) (d) : roundR Γ_laws_eqIntA2S (assoc []) 0 laws_eqIntA2S_l0_h laws_eqIntA2S_l0_o (loopOf Tryz.f53 0) back d = laws_eqIntA2S_l0_r N back d := by kernel_rfl
noncomputable def F_laws_eqIntA2S (N : Nat) (d : (List (Int × Int × Unit)) × (List (Int × Int × Unit)) × Unit) : Option (Bool × Unit) :=
  let a0 : List (Int × Int × Unit) := d.1
  let a1 : List (Int × Int × Unit) := d.2.1
  if ((List.length a0 : Int) != (List.length a1 : Int)) = true then
    some (false, ())
  else
    (laws_eqIntA2S_l0 N N ((a0, (a1, ((0 : Int), ()))))).bind fun o3 => match o3 with
    | .inl d4 =>
      some (d4.1, ())
    | .inr (.inl d5) =>
      some (true, ())
theorem F_laws_eqIntA2S_ok (N : Nat) (d) : fnR Γ_laws_eqIntA2S (assoc [(0, ⟨laws_eqIntA2S_l0_h, laws_eqIntA2S_l0_o, laws_eqIntA2S_l0 N N⟩)]) true [(K_SPiiq, false), (K_SPiiq, false)] [.bool] Tryz.f53.results.toList (bodyOf Tryz.f53) d = F_laws_eqIntA2S N d := by kernel_rfl
noncomputable def S_laws_eqIntA2S : FSig := ⟨[(K_SPiiq, false), (K_SPiiq, false)], [.bool], true, (G_eqIntA2S)⟩
noncomputable def Γ_laws_eqGraph : Ctx := { tk := assoc tks, ar := assoc ars, fs := assoc [(53, S_laws_eqIntA2S)] }
noncomputable def F_laws_eqGraph (N : Nat) (d : (Int × (List (Int × Int × Unit)) × Unit) × (Int × (List (Int × Int × Unit)) × Unit) × Unit) : Option (Bool × Unit) :=
  let a0 : Int × (List (Int × Int × Unit)) × Unit := d.1
  let a1 : Int × (List (Int × Int × Unit)) × Unit := d.2.1
  if (a0.1 != a1.1) = true then
    some (false, ())
  else
    (G_eqIntA2S ((a0.2.1, (a1.2.1, ())))).bind fun r1 =>
    if (!r1.1) = true then
      some (false, ())
    else
      some (true, ())
theorem F_laws_eqGraph_ok (N : Nat) (d) : fnR Γ_laws_eqGraph (assoc []) true [(K_PiSPiiqq, false), (K_PiSPiiqq, false)] [.bool] Tryz.f19.results.toList (bodyOf Tryz.f19) d = F_laws_eqGraph N d := by kernel_rfl
noncomputable def S_laws_eqGraph : FSig := ⟨[(K_PiSPiiqq, false), (K_PiSPiiqq, false)], [.bool], true, (F_laws_eqGraph 0)⟩
noncomputable def Γ_laws_eqIntSS : Ctx := { tk := assoc tks, ar := assoc ars, fs := assoc [(25, S_laws_eqIntS)] }
abbrev laws_eqIntSS_l0_H := List (List Int) × List (List Int) × Int × Unit
abbrev laws_eqIntSS_l0_O := (Bool × Unit) ⊕ Unit ⊕ Empty
def laws_eqIntSS_l0_h : Form := [(0, .v K_SSi), (1, .v K_SSi), (5, .v I)]
def laws_eqIntSS_l0_o : Outs := [(.ret, [(4, .v .bool)]), (.normal, [])]
noncomputable def laws_eqIntSS_l0_r (N : Nat) (back : laws_eqIntSS_l0_H → Option laws_eqIntSS_l0_O) (d : laws_eqIntSS_l0_H) : Option laws_eqIntSS_l0_O :=
  let s0 : List (List Int) := d.1
  let s1 : List (List Int) := d.2.1
  let s5 : Int := d.2.2.1
  if (decide (s5 < (List.length s0 : Int))) = true then
    if (idxIn s5 (List.length s0)) = true then
    if (idxIn s5 (List.length s1)) = true then
    (G_eqIntS ((at_ K_Si s0 s5.toNat, (at_ K_Si s1 s5.toNat, ())))).bind fun r6 =>
    if (!r6.1) = true then
      some (.inl (false, ()))
    else
      let x7 : Int := IntKind.wrap .i64 (s5 + (1 : Int))
      back ((s0, (s1, (x7, ()))))
    else none
    else none
  else
    some (.inr (.inl ()))
noncomputable def laws_eqIntSS_l0 (N : Nat) : Nat → laws_eqIntSS_l0_H → Option laws_eqIntSS_l0_O
  | 0, _ => none
  | k + 1, d => laws_eqIntSS_l0_r N (laws_eqIntSS_l0 N k) d
theorem laws_eqIntSS_l0_ok (N : Nat) (back) (d) : roundR Γ_laws_eqIntSS (assoc []) 0 laws_eqIntSS_l0_h laws_eqIntSS_l0_o (loopOf Tryz.f18 0) back d = laws_eqIntSS_l0_r N back d := by kernel_rfl
noncomputable def F_laws_eqIntSS (N : Nat) (d : List (List Int) × List (List Int) × Unit) : Option (Bool × Unit) :=
  let a0 : List (List Int) := d.1
  let a1 : List (List Int) := d.2.1
  if ((List.length a0 : Int) != (List.length a1 : Int)) = true then
    some (false, ())
  else
    (laws_eqIntSS_l0 N N ((a0, (a1, ((0 : Int), ()))))).bind fun o3 => match o3 with
    | .inl d4 =>
      some (d4.1, ())
    | .inr (.inl d5) =>
      some (true, ())
theorem F_laws_eqIntSS_ok (N : Nat) (d) : fnR Γ_laws_eqIntSS (assoc [(0, ⟨laws_eqIntSS_l0_h, laws_eqIntSS_l0_o, laws_eqIntSS_l0 N N⟩)]) true [(K_SSi, false), (K_SSi, false)] [.bool] Tryz.f18.results.toList (bodyOf Tryz.f18) d = F_laws_eqIntSS N d := by kernel_rfl
noncomputable def S_laws_eqIntSS : FSig := ⟨[(K_SSi, false), (K_SSi, false)], [.bool], true, (G_eqIntSS)⟩
noncomputable def Γ_laws_markIntA2S : Ctx := { tk := assoc tks, ar := assoc ars, fs := assoc [], lent := fun t => Nat.beq t 0 }
abbrev laws_markIntA2S_l2_H := (List (Int × Int × Unit)) × Int × Int × Int × Unit
abbrev laws_markIntA2S_l2_O := ((List (Int × Int × Unit)) × Int × Int × Unit) ⊕ Empty
def laws_markIntA2S_l2_h : Form := [(0, .own K_SPiiq 1), (1, .v I), (5, .v I), (6, .v I)]
def laws_markIntA2S_l2_o : Outs := [(.normal, [(0, .own K_SPiiq 1), (1, .v I), (5, .v I)])]
noncomputable def laws_markIntA2S_l2_r (N : Nat) (back : laws_markIntA2S_l2_H → Option laws_markIntA2S_l2_O) (d : laws_markIntA2S_l2_H) : Option laws_markIntA2S_l2_O :=
  let s0 : List (Int × Int × Unit) := d.1
  let s1 : Int := d.2.1
  let s5 : Int := d.2.2.1
  let s6 : Int := d.2.2.2.1
  if (decide (s6 < (2 : Int))) = true then
    if (idxIn s5 (List.length s0)) = true then
    if (s6 == (0 : Int)) = true then
      let x24 : List (Int × Int × Unit) := List.set s0 s5.toNat (s1, (at_ K_Piiq s0 s5.toNat).2)
      let x25 : Int := IntKind.wrap .i64 (s1 + (1 : Int))
      let x26 : Int := IntKind.wrap .i64 (s6 + (1 : Int))
      back ((x24, (x25, (s5, (x26, ())))))
    else
      if (s6 == (1 : Int)) = true then
      let x21 : List (Int × Int × Unit) := List.set s0 s5.toNat (((at_ K_Piiq s0 s5.toNat).1, (s1, (at_ K_Piiq s0 s5.toNat).2.2)))
      let x22 : Int := IntKind.wrap .i64 (s1 + (1 : Int))
      let x23 : Int := IntKind.wrap .i64 (s6 + (1 : Int))
      back ((x21, (x22, (s5, (x23, ())))))
      else none
    else none
  else
    some (.inl ((s0, (s1, (s5, ())))))
noncomputable def laws_markIntA2S_l2 (N : Nat) : Nat → laws_markIntA2S_l2_H → Option laws_markIntA2S_l2_O
  | 0, _ => none
  | k + 1, d => laws_markIntA2S_l2_r N (laws_markIntA2S_l2 N k) d
theorem laws_markIntA2S_l2_ok (N : Nat) (back) (d) : roundR Γ_laws_markIntA2S (assoc []) 2 laws_markIntA2S_l2_h laws_markIntA2S_l2_o (loopOf Tryz.f54 2) back d = laws_markIntA2S_l2_r N back d := by kernel_rfl
abbrev laws_markIntA2S_l0_H := (List (Int × Int × Unit)) × Int × Int × Unit
abbrev laws_markIntA2S_l0_O := ((List (Int × Int × Unit)) × Int × Unit) ⊕ Empty
def laws_markIntA2S_l0_h : Form := [(0, .own K_SPiiq 1), (1, .v I), (5, .v I)]
def laws_markIntA2S_l0_o : Outs := [(.normal, [(0, .own K_SPiiq 1), (1, .v I)])]
noncomputable def laws_markIntA2S_l0_r (N : Nat) (back : laws_markIntA2S_l0_H → Option laws_markIntA2S_l0_O) (d : laws_markIntA2S_l0_H) : Option laws_markIntA2S_l0_O :=
  let s0 : List (Int × Int × Unit) := d.1
  let s1 : Int := d.2.1
  let s5 : Int := d.2.2.1
  if (decide (s5 < (List.length s0 : Int))) = true then
    (laws_markIntA2S_l2 N N ((s0, (s1, (s5, ((0 : Int), ())))))).bind fun o18 => match o18 with
    | .inl d19 =>
      let x20 : Int := IntKind.wrap .i64 (d19.2.2.1 + (1 : Int))
      back ((d19.1, (d19.2.1, (x20, ()))))
  else
    some (.inl ((s0, (s1, ()))))
noncomputable def laws_markIntA2S_l0 (N : Nat) : Nat → laws_markIntA2S_l0_H → Option laws_markIntA2S_l0_O
  | 0, _ => none
  | k + 1, d => laws_markIntA2S_l0_r N (laws_markIntA2S_l0 N k) d
theorem laws_markIntA2S_l0_ok (N : Nat) (back) (d) : roundR Γ_laws_markIntA2S (assoc [(2, ⟨laws_markIntA2S_l2_h, laws_markIntA2S_l2_o, laws_markIntA2S_l2 N N⟩)]) 0 laws_markIntA2S_l0_h laws_markIntA2S_l0_o (loopOf Tryz.f54 0) back d = laws_markIntA2S_l0_r N back d := by kernel_rfl
noncomputable def F_laws_markIntA2S (N : Nat) (d : (List (Int × Int × Unit)) × Int × Unit) : Option (Int × (List (Int × Int × Unit)) × Unit) :=
  let a0 : List (Int × Int × Unit) := d.1
  let a1 : Int := d.2.1
  (laws_markIntA2S_l0 N N ((a0, (a1, ((0 : Int), ()))))).bind fun o10 => match o10 with
  | .inl d11 =>
    some ((d11.2.1, (d11.1, ())))
theorem F_laws_markIntA2S_ok (N : Nat) (d) : fnR Γ_laws_markIntA2S (assoc [(0, ⟨laws_markIntA2S_l0_h, laws_markIntA2S_l0_o, laws_markIntA2S_l0 N N⟩)]) true [(K_SPiiq, true), (I, false)] [I] Tryz.f54.results.toList (bodyOf Tryz.f54) d = F_laws_markIntA2S N d := by kernel_rfl
noncomputable def S_laws_markIntA2S : FSig := ⟨[(K_SPiiq, true), (I, false)], [I], true, (G_markIntA2S)⟩
noncomputable def Γ_laws_markGraph : Ctx := { tk := assoc tks, ar := assoc ars, fs := assoc [(54, S_laws_markIntA2S)], lent := fun t => Nat.beq t 0 }
noncomputable def F_laws_markGraph (N : Nat) (d : (Int × (List (Int × Int × Unit)) × Unit) × Int × Unit) : Option (Int × (Int × (List (Int × Int × Unit)) × Unit) × Unit) :=
  let a0 : Int × (List (Int × Int × Unit)) × Unit := d.1
  let a1 : Int := d.2.1
  (G_markIntA2S ((a0.2.1, (a1, ())))).bind fun r1 =>
  some ((r1.1, ((a0.1, (r1.2.1, a0.2.2)), ())))
theorem F_laws_markGraph_ok (N : Nat) (d) : fnR Γ_laws_markGraph (assoc []) true [(K_PiSPiiqq, true), (I, false)] [I] Tryz.f20.results.toList (bodyOf Tryz.f20) d = F_laws_markGraph N d := by kernel_rfl
noncomputable def S_laws_markGraph : FSig := ⟨[(K_PiSPiiqq, true), (I, false)], [I], true, (F_laws_markGraph 0)⟩
noncomputable def Γ_laws_markIntS : Ctx := { tk := assoc tks, ar := assoc ars, fs := assoc [], lent := fun t => Nat.beq t 0 }
abbrev laws_markIntS_l0_H := List Int × Int × Int × Unit
abbrev laws_markIntS_l0_O := (List Int × Int × Unit) ⊕ Empty
def laws_markIntS_l0_h : Form := [(0, .own K_Si 1), (1, .v I), (5, .v I)]
def laws_markIntS_l0_o : Outs := [(.normal, [(0, .own K_Si 1), (1, .v I)])]
noncomputable def laws_markIntS_l0_r (N : Nat) (back : laws_markIntS_l0_H → Option laws_markIntS_l0_O) (d : laws_markIntS_l0_H) : Option laws_markIntS_l0_O :=
  let s0 : List Int := d.1
  let s1 : Int := d.2.1
  let s5 : Int := d.2.2.1
  if (decide (s5 < (List.length s0 : Int))) = true then
    if (idxIn s5 (List.length s0)) = true then
    let x5 : Int := IntKind.wrap .i64 (s1 + (1 : Int))
    let x6 : Int := IntKind.wrap .i64 (s5 + (1 : Int))
    back ((List.set s0 s5.toNat s1, (x5, (x6, ()))))
    else none
  else
    some (.inl ((s0, (s1, ()))))
noncomputable def laws_markIntS_l0 (N : Nat) : Nat → laws_markIntS_l0_H → Option laws_markIntS_l0_O
  | 0, _ => none
  | k + 1, d => laws_markIntS_l0_r N (laws_markIntS_l0 N k) d
theorem laws_markIntS_l0_ok (N : Nat) (back) (d) : roundR Γ_laws_markIntS (assoc []) 0 laws_markIntS_l0_h laws_markIntS_l0_o (loopOf Tryz.f26 0) back d = laws_markIntS_l0_r N back d := by kernel_rfl
noncomputable def F_laws_markIntS (N : Nat) (d : List Int × Int × Unit) : Option (Int × List Int × Unit) :=
  let a0 : List Int := d.1
  let a1 : Int := d.2.1
  (laws_markIntS_l0 N N ((a0, (a1, ((0 : Int), ()))))).bind fun o3 => match o3 with
  | .inl d4 =>
    some ((d4.2.1, (d4.1, ())))
theorem F_laws_markIntS_ok (N : Nat) (d) : fnR Γ_laws_markIntS (assoc [(0, ⟨laws_markIntS_l0_h, laws_markIntS_l0_o, laws_markIntS_l0 N N⟩)]) true [(K_Si, true), (I, false)] [I] Tryz.f26.results.toList (bodyOf Tryz.f26) d = F_laws_markIntS N d := by kernel_rfl
noncomputable def S_laws_markIntS : FSig := ⟨[(K_Si, true), (I, false)], [I], true, (G_markIntS)⟩
noncomputable def Γ_laws_markIntSS : Ctx := { tk := assoc tks, ar := assoc ars, fs := assoc [(26, S_laws_markIntS)], lent := fun t => Nat.beq t 0 }
abbrev laws_markIntSS_l0_H := List (List Int) × Int × Int × Unit
abbrev laws_markIntSS_l0_O := (List (List Int) × Int × Unit) ⊕ Empty
def laws_markIntSS_l0_h : Form := [(0, .own K_SSi 2), (1, .v I), (5, .v I)]
def laws_markIntSS_l0_o : Outs := [(.normal, [(0, .own K_SSi 2), (1, .v I)])]
noncomputable def laws_markIntSS_l0_r (N : Nat) (back : laws_markIntSS_l0_H → Option laws_markIntSS_l0_O) (d : laws_markIntSS_l0_H) : Option laws_markIntSS_l0_O :=
  let s0 : List (List Int) := d.1
  let s1 : Int := d.2.1
  let s5 : Int := d.2.2.1
  if (decide (s5 < (List.length s0 : Int))) = true then
    if (idxIn s5 (List.length s0)) = true then
    (G_markIntS ((at_ K_Si s0 s5.toNat, (s1, ())))).bind fun r5 =>
    let x6 : Int := IntKind.wrap .i64 (s5 + (1 : Int))
    back ((List.set s0 s5.toNat r5.2.1, (r5.1, (x6, ()))))
    else none
  else
    some (.inl ((s0, (s1, ()))))
noncomputable def laws_markIntSS_l0 (N : Nat) : Nat → laws_markIntSS_l0_H → Option laws_markIntSS_l0_O
  | 0, _ => none
  | k + 1, d => laws_markIntSS_l0_r N (laws_markIntSS_l0 N k) d
theorem laws_markIntSS_l0_ok (N : Nat) (back) (d) : roundR Γ_laws_markIntSS (assoc []) 0 laws_markIntSS_l0_h laws_markIntSS_l0_o (loopOf Tryz.f21 0) back d = laws_markIntSS_l0_r N back d := by kernel_rfl
noncomputable def F_laws_markIntSS (N : Nat) (d : List (List Int) × Int × Unit) : Option (Int × List (List Int) × Unit) :=
  let a0 : List (List Int) := d.1
  let a1 : Int := d.2.1
  (laws_markIntSS_l0 N N ((a0, (a1, ((0 : Int), ()))))).bind fun o3 => match o3 with
  | .inl d4 =>
    some ((d4.2.1, (d4.1, ())))
theorem F_laws_markIntSS_ok (N : Nat) (d) : fnR Γ_laws_markIntSS (assoc [(0, ⟨laws_markIntSS_l0_h, laws_markIntSS_l0_o, laws_markIntSS_l0 N N⟩)]) true [(K_SSi, true), (I, false)] [I] Tryz.f21.results.toList (bodyOf Tryz.f21) d = F_laws_markIntSS N d := by kernel_rfl
noncomputable def S_laws_markIntSS : FSig := ⟨[(K_SSi, true), (I, false)], [I], true, (G_markIntSS)⟩
noncomputable def Γ_laws_heldIntS : Ctx := { tk := assoc tks, ar := assoc ars, fs := assoc [] }
abbrev laws_heldIntS_l0_H := List Int × Int × Int × Unit
abbrev laws_heldIntS_l0_O := (Int × Unit) ⊕ (Int × Unit) ⊕ Empty
def laws_heldIntS_l0_h : Form := [(0, .v K_Si), (1, .v I), (5, .v I)]
def laws_heldIntS_l0_o : Outs := [(.ret, [(4, .v I)]), (.normal, [(1, .v I)])]
noncomputable def laws_heldIntS_l0_r (N : Nat) (back : laws_heldIntS_l0_H → Option laws_heldIntS_l0_O) (d : laws_heldIntS_l0_H) : Option laws_heldIntS_l0_O :=
  let s0 : List Int := d.1
  let s1 : Int := d.2.1
  let s5 : Int := d.2.2.1
  if (decide (s5 < (List.length s0 : Int))) = true then
    if (idxIn s5 (List.length s0)) = true then
    if (at_ I s0 s5.toNat != s1) = true then
      some (.inl ((-1 : Int), ()))
    else
      let x6 : Int := IntKind.wrap .i64 (s1 + (1 : Int))
      let x7 : Int := IntKind.wrap .i64 (s5 + (1 : Int))
      back ((s0, (x6, (x7, ()))))
    else none
  else
    some (.inr (.inl (s1, ())))
noncomputable def laws_heldIntS_l0 (N : Nat) : Nat → laws_heldIntS_l0_H → Option laws_heldIntS_l0_O
  | 0, _ => none
  | k + 1, d => laws_heldIntS_l0_r N (laws_heldIntS_l0 N k) d
theorem laws_heldIntS_l0_ok (N : Nat) (back) (d) : roundR Γ_laws_heldIntS (assoc []) 0 laws_heldIntS_l0_h laws_heldIntS_l0_o (loopOf Tryz.f27 0) back d = laws_heldIntS_l0_r N back d := by kernel_rfl
noncomputable def F_laws_heldIntS (N : Nat) (d : List Int × Int × Unit) : Option (Int × Unit) :=
  let a0 : List Int := d.1
  let a1 : Int := d.2.1
  (laws_heldIntS_l0 N N ((a0, (a1, ((0 : Int), ()))))).bind fun o3 => match o3 with
  | .inl d4 =>
    some (d4.1, ())
  | .inr (.inl d5) =>
    some (d5.1, ())
theorem F_laws_heldIntS_ok (N : Nat) (d) : fnR Γ_laws_heldIntS (assoc [(0, ⟨laws_heldIntS_l0_h, laws_heldIntS_l0_o, laws_heldIntS_l0 N N⟩)]) true [(K_Si, false), (I, false)] [I] Tryz.f27.results.toList (bodyOf Tryz.f27) d = F_laws_heldIntS N d := by kernel_rfl
noncomputable def S_laws_heldIntS : FSig := ⟨[(K_Si, false), (I, false)], [I], true, (G_heldIntS)⟩
noncomputable def Γ_laws_FnExactEscapeOf : Ctx := { tk := assoc tks, ar := assoc ars, fs := assoc [(12, S_laws_szGraph), (13, S_laws_szIntSS), (15, S_laws_toGraph), (16, S_laws_toIntSS), (18, S_laws_eqIntSS), (19, S_laws_eqGraph), (20, S_laws_markGraph), (21, S_laws_markIntSS), (23, S_spec_EscapeOf), (24, S_impl_EscapeOf), (25, S_laws_eqIntS), (26, S_laws_markIntS), (27, S_laws_heldIntS)] }
noncomputable def F_laws_FnExactEscapeOf (N : Nat) (d : (Int × (List (Int × Int × Unit)) × Unit) × List (List Int) × Unit) : Option (Bool × Unit) :=
  let a0 : Int × (List (Int × Int × Unit)) × Unit := d.1
  let a1 : List (List Int) := d.2.1
  let r1 : Int × Unit := g_laws_szGraph ((a0, ((1048576 : Int), ())))
  if (decide (r1.1 < (0 : Int))) = true then
    some (true, ())
  else
    (G_szIntSS ((a1, (r1.1, ())))).bind fun r2 =>
    if (decide (r2.1 < (0 : Int))) = true then
      some (true, ())
    else
      ((F_laws_toGraph 0) (a0, ())).bind fun r3 =>
      (G_toIntSS (a1, ())).bind fun r4 =>
      (G_escapeOf ((r3.1, (r4.1, ())))).bind fun r5 =>
      ((F_laws_toGraph 0) (a0, ())).bind fun r6 =>
      (G_toIntSS (a1, ())).bind fun r7 =>
      ((F_impl_EscapeOf 0) ((r6.1, (r7.1, ())))).bind fun r8 =>
      (G_eqIntS ((r8.1, (r5.1, ())))).bind fun r9 =>
      if (!r9.1) = true then
        some (false, ())
      else
        if (!(r8.2.1 == r5.2.1)) = true then
          some (false, ())
        else
          ((F_laws_toGraph 0) (a0, ())).bind fun r10 =>
          ((F_laws_eqGraph 0) ((r6.1, (r10.1, ())))).bind fun r11 =>
          if (!r11.1) = true then
            some (false, ())
          else
            (G_toIntSS (a1, ())).bind fun r12 =>
            (G_eqIntSS ((r7.1, (r12.1, ())))).bind fun r13 =>
            if (!r13.1) = true then
              some (false, ())
            else
              ((F_laws_markGraph 0) ((r6.1, ((1 : Int), ())))).bind fun r14 =>
              (G_markIntSS ((r7.1, (r14.1, ())))).bind fun r15 =>
              if (decide (r15.1 < (0 : Int))) = true then
                some (false, ())
              else
                (G_eqIntS ((r8.1, (r5.1, ())))).bind fun r16 =>
                if (!r16.1) = true then
                  some (false, ())
                else
                  if (!(r8.2.1 == r5.2.1)) = true then
                    some (false, ())
                  else
                    (G_markIntS ((r8.1, ((1 : Int), ())))).bind fun r17 =>
                    (G_heldIntS ((r17.2.1, ((1 : Int), ())))).bind fun r18 =>
                    if (decide (r18.1 < (0 : Int))) = true then
                      some (false, ())
                    else
                      if (r18.1 != r17.1) = true then
                        some (false, ())
                      else
                        ((F_laws_toGraph 0) (a0, ())).bind fun r19 =>
                        (G_toIntSS (a1, ())).bind fun r20 =>
                        ((F_impl_EscapeOf 0) ((r19.1, (r20.1, ())))).bind fun r21 =>
                        (G_eqIntS ((r21.1, (r5.1, ())))).bind fun r22 =>
                        if (!r22.1) = true then
                          some (false, ())
                        else
                          if (!(r21.2.1 == r5.2.1)) = true then
                            some (false, ())
                          else
                            (G_heldIntS ((r17.2.1, ((1 : Int), ())))).bind fun r23 =>
                            if (decide (r23.1 < (0 : Int))) = true then
                              some (false, ())
                            else
                              if (r23.1 != r17.1) = true then
                                some (false, ())
                              else
                                some (true, ())
theorem F_laws_FnExactEscapeOf_ok (N : Nat) (d) : fnR Γ_laws_FnExactEscapeOf (assoc []) true [(K_PiSPiiqq, false), (K_SSi, false)] [.bool] Tryz.f4.results.toList (bodyOf Tryz.f4) d = F_laws_FnExactEscapeOf N d := by kernel_rfl
noncomputable def S_laws_FnExactEscapeOf : FSig := ⟨[(K_PiSPiiqq, false), (K_SSi, false)], [.bool], true, (F_laws_FnExactEscapeOf 0)⟩
end Go.V.W
set_option linter.unusedVariables false
set_option linter.unusedSimpArgs false
namespace Go.V.W
theorem wrap_nat {m : Nat} (h : m < 9223372036854775808) : IntKind.wrap .i64 (m : Int) = (m : Int) := Go.IntWalk.i64_in _ (by omega)
theorem ofInt_nat (m : Nat) : BitVec.ofInt 64 (m : Int) = BitVec.ofNat 64 m := by simp
theorem bits_or {a b : Nat} (ha : a < 256) (hb : b < 256) : bits .or .i64 (a : Int) (b : Int) = ((a ||| b : Nat) : Int) := by
  have hab : a ||| b < 256 := Nat.or_lt_two_pow (n := 8) ha hb
  have e : (BitVec.ofInt IntKind.i64.bits (a : Int) ||| BitVec.ofInt IntKind.i64.bits (b : Int)).toNat = a ||| b := by
    show (BitVec.ofInt 64 (a : Int) ||| BitVec.ofInt 64 (b : Int)).toNat = a ||| b
    rw [ofInt_nat, ofInt_nat, BitVec.toNat_or, BitVec.toNat_ofNat, BitVec.toNat_ofNat, Nat.mod_eq_of_lt (by omega), Nat.mod_eq_of_lt (by omega)]
  unfold bits bitI
  simp only [Option.getD_some]
  rw [e]
  exact wrap_nat (by omega)
theorem bits_and {a b : Nat} (ha : a < 256) (hb : b < 256) : bits .and .i64 (a : Int) (b : Int) = ((a &&& b : Nat) : Int) := by
  have hab : a &&& b ≤ a := Nat.and_le_left
  have e : (BitVec.ofInt IntKind.i64.bits (a : Int) &&& BitVec.ofInt IntKind.i64.bits (b : Int)).toNat = a &&& b := by
    show (BitVec.ofInt 64 (a : Int) &&& BitVec.ofInt 64 (b : Int)).toNat = a &&& b
    rw [ofInt_nat, ofInt_nat, BitVec.toNat_and, BitVec.toNat_ofNat, BitVec.toNat_ofNat, Nat.mod_eq_of_lt (by omega), Nat.mod_eq_of_lt (by omega)]
  unfold bits bitI
  simp only [Option.getD_some]
  rw [e]
  exact wrap_nat (by omega)
theorem shl_one {y : Nat} (h : y < 8) : shl .i64 1 (y : Int) = ((2 ^ y : Nat) : Int) := by
  have : y = 0 ∨ y = 1 ∨ y = 2 ∨ y = 3 ∨ y = 4 ∨ y = 5 ∨ y = 6 ∨ y = 7 := by omega
  rcases this with rfl | rfl | rfl | rfl | rfl | rfl | rfl | rfl <;> decide
theorem pow_small {y : Nat} (h : y < 8) : 2 ^ y < 256 := by
  have : y = 0 ∨ y = 1 ∨ y = 2 ∨ y = 3 ∨ y = 4 ∨ y = 5 ∨ y = 6 ∨ y = 7 := by omega
  rcases this with rfl | rfl | rfl | rfl | rfl | rfl | rfl | rfl <;> decide
theorem shr_nat {m y : Nat} (h : y < 8) : shr .i64 (m : Int) (y : Int) = ((m >>> y : Nat) : Int) := by
  unfold shr
  have e : min (y : Int).toNat IntKind.i64.bits = y := by
    show min (y : Int).toNat 64 = y
    rw [Int.toNat_natCast]
    omega
  rw [e, Nat.shiftRight_eq_div_pow, Int.fdiv_eq_ediv_of_nonneg _ (by
    have := Nat.two_pow_pos y
    exact_mod_cast Nat.zero_le (2 ^ y))]
  norm_cast
theorem has_bit {m y : Nat} (hm : m < 256) (h : y < 8) : (bits .and .i64 (shr .i64 (m : Int) (y : Int)) 1 == (1 : Int)) = m.testBit y := by
  have h1 : m >>> y < 256 := by
    rw [Nat.shiftRight_eq_div_pow]
    exact Nat.lt_of_le_of_lt (Nat.div_le_self _ _) hm
  rw [shr_nat h]
  have := bits_and h1 (show 1 < 256 by omega)
  rw [show ((1 : Nat) : Int) = 1 from rfl] at this
  rw [this, Nat.testBit_eq_decide_div_mod_eq, Nat.shiftRight_eq_div_pow, Nat.and_one_is_mod]
  have : m / 2 ^ y % 2 = 0 ∨ m / 2 ^ y % 2 = 1 := by omega
  rcases this with h | h <;> simp [h]
def okN (n : Nat) (ms : List Nat) : Prop := ms.length = n ∧ ∀ x, ms.getD x 0 < 256
theorem okN_zero (n : Nat) : okN n (List.replicate n 0) := by
  refine ⟨by simp, fun x => ?_⟩
  simp only [List.getD_eq_getElem?_getD, List.getElem?_replicate]
  split <;> simp
theorem getD_set (ms : List Nat) (a x v : Nat) (h : a < ms.length) : (ms.set a v).getD x 0 = if x = a then v else ms.getD x 0 := by
  simp only [List.getD_eq_getElem?_getD, List.getElem?_set]
  by_cases e : x = a
  · subst e; simp [h]
  · simp [e, Ne.symm e]
theorem orN_ok {n : Nat} {ms : List Nat} (h : okN n ms) {a b : Nat} (ha : a < n) (hb : b < 8) : okN n (orN ms a b) := by
  refine ⟨by simp [orN, h.1], fun x => ?_⟩
  unfold orN
  rw [getD_set _ _ _ _ (by rw [h.1]; exact ha)]
  split
  · exact Nat.or_lt_two_pow (n := 8) (h.2 a) (pow_small hb)
  · exact h.2 x
theorem orN_bit {n : Nat} {ms : List Nat} (h : okN n ms) {a b : Nat} (ha : a < n) (x y : Nat) : ((orN ms a b).getD x 0).testBit y = ((ms.getD x 0).testBit y || (decide (x = a) && decide (y = b))) := by
  unfold orN
  rw [getD_set _ _ _ _ (by rw [h.1]; exact ha)]
  by_cases e : x = a
  · subst e
    simp only [if_true, Nat.testBit_or, Nat.testBit_two_pow, decide_true, Bool.true_and]
    congr 1
    by_cases e : y = b
    · simp [e]
    · simp [e, Ne.symm e]
  · simp [e]
/-- An edge of n nodes. -/
theorem edgeB_nat {n : Nat} {e : E} (h : edgeB (n : Int) e = true) : e.1.toNat < e.2.1.toNat ∧ e.2.1.toNat < n ∧ e.1 = (e.1.toNat : Int) ∧ e.2.1 = (e.2.1.toNat : Int) := by
  unfold edgeB at h
  simp only [Bool.and_eq_true, decide_eq_true_eq] at h
  omega
theorem addN_ok {n : Nat} {ms : List Nat} (hn : n ≤ 8) (h : okN n ms) {e : E} (he : edgeB (n : Int) e = true) : okN n (addN ms e) := by
  obtain ⟨h1, h2, _, _⟩ := edgeB_nat he
  exact orN_ok (orN_ok h (by omega) (by omega)) h2 (by omega)
def isE (e : E) (x y : Nat) : Bool := (decide (x = e.1.toNat) && decide (y = e.2.1.toNat)) || (decide (x = e.2.1.toNat) && decide (y = e.1.toNat))
theorem foldN_ok {n : Nat} (hn : n ≤ 8) : ∀ (es : List E) (ms : List Nat), okN n ms → es.all (edgeB (n : Int)) = true → okN n (es.foldl addN ms) ∧ ∀ x y, ((es.foldl addN ms).getD x 0).testBit y = ((ms.getD x 0).testBit y || es.any (fun e => isE e x y)) := by
  intro es
  induction es with
  | nil => intro ms h _; exact ⟨h, fun x y => by simp⟩
  | cons e es ih =>
    intro ms h he
    simp only [List.all_cons, Bool.and_eq_true] at he
    obtain ⟨h1, h2, _, _⟩ := edgeB_nat he.1
    obtain ⟨k1, k2⟩ := ih (addN ms e) (addN_ok hn h he.1) he.2
    refine ⟨k1, fun x y => ?_⟩
    rw [List.foldl_cons, k2 x y]
    unfold addN
    rw [orN_bit (orN_ok h (show e.1.toNat < n by omega) (by omega)) h2, orN_bit h (show e.1.toNat < n by omega)]
    simp only [List.any_cons, isE, Bool.or_assoc]
theorem netN_ok {n : Nat} (hn : n ≤ 8) {es : List E} (h : es.all (edgeB (n : Int)) = true) : okN n (netN n es) := (foldN_ok hn es _ (okN_zero n) h).1
theorem netN_bit {n : Nat} (hn : n ≤ 8) {es : List E} (h : es.all (edgeB (n : Int)) = true) (x y : Nat) : hasN (netN n es) x y = es.any (fun e => isE e x y) := by
  unfold hasN netN
  rw [(foldN_ok hn es _ (okN_zero n) h).2 x y]
  have : ((List.replicate n 0).getD x 0).testBit y = false := by
    simp only [List.getD_eq_getElem?_getD, List.getElem?_replicate]
    split <;> simp
  rw [this, Bool.false_or]
theorem toI_from (ms : List Nat) : fromI (toI ms) = ms := by
  unfold fromI toI
  rw [List.map_map]
  exact List.map_id' _
theorem at_toI (ms : List Nat) (x : Nat) : at_ (.int .i64) (toI ms) x = ((ms.getD x 0 : Nat) : Int) := by
  unfold at_ toI
  simp only [List.getD_eq_getElem?_getD, List.getElem?_map]
  cases ms[x]? <;> rfl
theorem toI_set (ms : List Nat) (x v : Nat) : List.set (toI ms) x (v : Int) = toI (ms.set x v) := by
  simp [toI, List.map_set]
theorem toI_len (ms : List Nat) : (toI ms).length = ms.length := by simp [toI]
end Go.V.W
set_option linter.unusedVariables false
set_option linter.unusedSimpArgs false
namespace Go.V
end Go.V
namespace Go.V.W
open Go.Proofs Go.RowKit
def val (a0 F : Nat → Value) (L : Nat → Bool) (t : Nat) : Value := if t = 8 then (if L 9 = true then F 9 else a0 8) else if 38 ≤ t ∧ t ≤ 46 then (if L (t - 38) = true then F (t - 38) else a0 t) else a0 t
def dstv (j : Nat) : Nat := if j = 9 then 8 else 38 + j
theorem val_step (a0 F : Nat → Value) (L : Nat → Bool) {j : Nat} (hj : j ≤ 9) (t : Nat) : (if t = dstv j then F j else val a0 F L t) = val a0 F (fun i => L i || decide (i = j)) t := by
  unfold val dstv
  by_cases e9 : j = 9
  · subst e9
    simp only [if_true]
    by_cases et : t = 8
    · simp [et]
    · simp only [et, if_false]
      by_cases er : 38 ≤ t ∧ t ≤ 46
      · have : ¬ t - 38 = 9 := by omega
        simp [er, this]
      · simp [er]
  · simp only [e9, if_false]
    by_cases et : t = 8
    · subst et
      have h1 : ¬ 8 = 38 + j := by omega
      have h2 : ¬ (9 = j) := fun h => e9 h.symm
      simp [h1, h2]
    · simp only [et, if_false]
      by_cases er : 38 ≤ t ∧ t ≤ 46
      · simp only [er, and_self, if_true]
        by_cases ej : t = 38 + j
        · subst ej
          simp
        · have : ¬ t - 38 = j := by omega
          simp [ej, this]
      · have : ¬ t = 38 + j := by omega
        simp [er, this]
def rowL (n m : Nat) (x z : Value) : List Value := List.replicate m x ++ List.replicate (n - m) z
theorem put_getD {a : Act} {d t : Nat} {v : Value} (hd : d < a.tmps.size) : (a.put (some d) v).tmps.getD t undef = if t = d then v else a.tmps.getD t undef := by
  unfold Act.put
  by_cases e : t = d
  · subst e
    simp [Array.getD_eq_getD_getElem?, hd]
  · have e' : d ≠ t := fun h => e h.symm
    simp [Array.getD_eq_getD_getElem?, Array.getElem?_setIfInBounds_ne e', e]
/-- What is held of the listed operations. -/
structure Phi (a0 F : Nat → Value) (df : List Deferred) (sz g n m c B : Nat) (x z : Value) (T : TypeId) (w0 : World) (L : Nat → Bool) (a : Act) (w : World) : Prop where
  size : a.tmps.size = sz
  defers : a.defers = df
  tmps : ∀ t, a.tmps.getD t undef = val a0 F L t
  row : w.heap[g]? = some (.cells (rowL n (if L 7 = true then m + c else m) x z).toArray T (0, 0))
  below : Below B w0 w
theorem Phi.fin {P : Program} {Q : Exit → Act → World → Prop} {a0 F : Nat → Value} {df : List Deferred} {g n m c B : Nat} {x z : Value} {T : TypeId} {w0 w w' : World} {L : Nat → Bool} {a : Act} (h : Phi a0 F df 48 g n m c B x z T w0 L a w) {j : Nat} (hj : j ≤ 9) {o : Oper} (hd : o.dst = some (dstv j))
    (hrun : (execOp a.eval o).run P w = .ok (.value (F j)) w') (hrow : w'.heap[g]? = some (.cells (rowL n (if (L 7 || decide (7 = j)) = true then m + c else m) x z).toArray T (0, 0))) (hB : Below B w0 w')
    (K : Act → World → Prop) (hK : ∀ a' w', Phi a0 F df 48 g n m c B x z T w0 (fun i => L i || decide (i = j)) a' w' → K a' w') : o.wp P a w K Q := by
  refine wp_value hrun (hK _ _ ⟨?_, ?_, fun t => ?_, hrow, hB⟩)
  · rw [hd]
    simp [Act.put, h.size]
  · rw [hd]
    exact h.defers
  · rw [hd, put_getD (by rw [h.size]; unfold dstv; split <;> omega), h.tmps t]
    exact val_step a0 F L hj t
end Go.V.W
set_option linter.unusedVariables false
set_option linter.unusedSimpArgs false
namespace Go.V.W
open Go.Proofs
theorem containsAny_any (c : List UInt8) : ∀ l : List UInt8, Lib.containsAny l c = l.any fun b => c.contains b := by
  intro l
  induction l with
  | nil => simp [Lib.containsAny, Lib.indexAny]
  | cons b l ih =>
    unfold Lib.containsAny at ih ⊢
    unfold Lib.indexAny
    rw [List.any_cons, ← ih]
    by_cases hb : c.contains b = true
    · have hb' : b ∈ c := by simpa using hb
      simp [hb']
    · simp only [Bool.not_eq_true] at hb
      rw [hb]
      simp only [Bool.false_eq_true, if_false, Bool.false_or]
      have := Lib.indexAny_ge c l
      by_cases he : Lib.indexAny l c = -1
      · simp [he]
      · have e1 : (Lib.indexAny l c == -1) = false := by simpa using he
        rw [e1]
        simp only [Bool.false_eq_true, if_false]
        have e2 : (0 ≤ Lib.indexAny l c) := by omega
        have e3 : (0 ≤ Lib.indexAny l c + 1) := by omega
        simp [e2, e3]
end Go.V.W
set_option linter.unusedVariables false
set_option linter.unusedSimpArgs false
namespace Go.V.W
open Go.Proofs
def specB (a b : ByteArray) : Bool := !seq_ a (⟨#[]⟩ : ByteArray) && ((a.data.toList.all (fun b => printed1 b && !(b.toNat == 35)) && decide ((a.size : Int) ≤ 160)) && (!(a.data.toList.any (fun b => ((b.toNat : Int) == 64))) && (b.data.toList.all (fun b => printed1 b && !(b.toNat == 35)) && decide ((b.size : Int) ≤ 200))))
def implB (a b : ByteArray) : Bool := ((decide ((a.size : Int) ≥ 1) && decide ((a.size : Int) ≤ 160)) && (printedB a && !Lib.containsAny a.data.toList [35, 64])) && (decide ((b.size : Int) ≤ 200) && (printedB b && !Lib.containsAny b.data.toList [35]))
theorem all_not (l : List UInt8) (p q : UInt8 → Bool) : l.all (fun b => p b && !q b) = (l.all p && !l.any q) := by
  induction l with
  | nil => rfl
  | cons b l ih =>
    simp only [List.all_cons, List.any_cons, ih]
    cases p b <;> cases q b <;> cases l.all p <;> cases l.any q <;> rfl
theorem any_or (l : List UInt8) (p q : UInt8 → Bool) : l.any (fun b => p b || q b) = (l.any p || l.any q) := by
  induction l with
  | nil => rfl
  | cons b l ih =>
    simp only [List.any_cons, ih]
    cases p b <;> cases q b <;> cases l.any p <;> cases l.any q <;> rfl
theorem has35 (l : List UInt8) : Lib.containsAny l [35] = l.any (fun b => b.toNat == 35) := by
  rw [containsAny_any]
  congr 1
  funext b
  simp only [List.contains_cons, List.contains_nil, Bool.or_false]
  rw [Bool.eq_iff_iff]
  simp only [beq_iff_eq]
  exact ⟨fun h => by rw [h]; rfl, fun h => UInt8.toNat_inj.1 h⟩
theorem has3564 (l : List UInt8) : Lib.containsAny l [35, 64] = (l.any (fun b => b.toNat == 35) || l.any (fun b => ((b.toNat : Int) == 64))) := by
  rw [containsAny_any, ← any_or]
  congr 1
  funext b
  simp only [List.contains_cons, List.contains_nil, Bool.or_false]
  rw [Bool.eq_iff_iff]
  simp only [Bool.or_eq_true, beq_iff_eq]
  constructor
  · rintro (h | h)
    · left; rw [h]; rfl
    · right; rw [h]; rfl
  · rintro (h | h)
    · left; exact UInt8.toNat_inj.1 h
    · right
      have h64 : b.toNat = 64 := by omega
      exact UInt8.toNat_inj.1 (by rw [h64]; rfl)
theorem empty_size (a : ByteArray) : seq_ a (⟨#[]⟩ : ByteArray) = !decide ((a.size : Int) ≥ 1) := by
  unfold seq_
  have h1 : a.toList = a.data.toList := Lib.toList_data a
  have h2 : (⟨#[]⟩ : ByteArray).toList = [] := Lib.toList_data _
  have h3 : a.data.toList.length = a.size := by simp
  rw [h1, h2]
  cases hl : a.data.toList with
  | nil =>
    rw [hl] at h3
    simp only [List.length_nil] at h3
    simp [← h3]
  | cons x l =>
    rw [hl] at h3
    simp only [List.length_cons] at h3
    have : decide ((a.size : Int) ≥ 1) = true := by simp; omega
    rw [this]
    rfl
theorem same (a b : ByteArray) : specB a b = implB a b := by
  unfold specB implB
  rw [empty_size, all_not, all_not, has35, has3564]
  unfold printedB
  cases decide ((a.size : Int) ≥ 1) <;> cases a.data.toList.all printed1 <;> cases a.data.toList.any (fun b => b.toNat == 35) <;> cases a.data.toList.any (fun b => ((b.toNat : Int) == 64)) <;> cases decide ((a.size : Int) ≤ 160) <;> cases decide ((b.size : Int) ≤ 200) <;> cases b.data.toList.all printed1 <;> cases b.data.toList.any (fun b => b.toNat == 35) <;> rfl
end Go.V.W
set_option linter.unusedVariables false
set_option linter.unusedSimpArgs false
namespace Go.V.W
open Go.Proofs
theorem lim_max {n : Nat} (h : n ≤ lim) : n ≤ maxLen := by unfold lim at h; unfold maxLen; omega
theorem toIntA2_lim (d) (r) (h : G_toIntA2 d = some r) : ∃ N, F_laws_toIntA2 N d = some r := by
  obtain ⟨⟨a, b, _⟩, _⟩ := d
  have h := Option.some.inj h
  subst h
  exact ⟨3, rfl⟩
theorem set_copy {α : Type} (l m : List α) (i : Nat) (x : α) (hi : i < l.length) (hx : l[i] = x) (hm : m.length = l.length) (h : m.take i = l.take i) : (m.set i x).take (i + 1) = l.take (i + 1) := by
  apply List.ext_getElem?
  intro j
  simp only [List.getElem?_take]
  split
  · rename_i hj
    by_cases hji : j = i
    · subst hji
      rw [List.getElem?_set_self (by omega), List.getElem?_eq_getElem hi, hx]
    · rw [List.getElem?_set_ne (fun e => hji e.symm)]
      have := congrArg (fun z => z[j]?) h
      simp only [List.getElem?_take] at this
      rw [if_pos (by omega), if_pos (by omega)] at this
      exact this
  · rfl
theorem toIntS_l0 (N : Nat) (l : List Int) (hl : l.length ≤ lim) : ∀ k, l.length ≤ k → laws_toIntS_l0 N (k + 1) (l, List.replicate l.length (0 : Int), (0 : Int), ()) = some (.inl (l, ())) := by
  intro k hk
  have hmx := lim_max hl
  have key : ∀ n i (m : List Int), l.length ≤ i + n → i ≤ l.length → m.length = l.length → m.take i = l.take i → laws_toIntS_l0 N (n + 1) (l, m, (i : Int), ()) = some (.inl (l, ())) := by
    intro n
    induction n with
    | zero =>
      intro i m h1 h2 h3 h4
      have e : i = l.length := by omega
      subst e
      rw [List.take_of_length_le (by omega), List.take_of_length_le (by omega)] at h4
      subst h4
      simp [laws_toIntS_l0, laws_toIntS_l0_r]
    | succ n ih =>
      intro i m h1 h2 h3 h4
      by_cases hi : i < l.length
      · show laws_toIntS_l0_r N (laws_toIntS_l0 N (n + 1)) (l, m, (i : Int), ()) = _
        unfold laws_toIntS_l0_r
        have hlt : decide ((i : Int) < (List.length l : Int)) = true := by simp; omega
        simp only [hlt, if_true, idxIn_nat hi, idxIn_nat (show i < m.length by omega), Int.toNat_natCast, wrap_up hi hmx]
        refine ih (i + 1) _ (by omega) (by omega) (by simp [h3]) ?_
        exact set_copy l m i _ hi (by rw [at_get (e := I) hi]; rfl) h3 h4
      · have e : i = l.length := by omega
        subst e
        rw [List.take_of_length_le (by omega), List.take_of_length_le (by omega)] at h4
        subst h4
        simp [laws_toIntS_l0, laws_toIntS_l0_r]
  simpa using key k 0 (List.replicate l.length 0) (by omega) (by omega) (by simp) (by simp)
theorem toIntS_lim (d) (r) (h : G_toIntS d = some r) : ∃ N, F_laws_toIntS N d = some r := by
  obtain ⟨l, _⟩ := d
  unfold G_toIntS at h
  split at h
  · rename_i hl
    have hl : l.length ≤ lim := of_decide_eq_true hl
    have h := Option.some.inj h
    subst h
    refine ⟨l.length + 1, ?_⟩
    unfold F_laws_toIntS
    have hc : (decide (0 ≤ (List.length l : Int)) && decide ((List.length l : Int) ≤ (List.length l : Int)) && decide ((List.length l : Int) ≤ (lim : Int))) = true := by simp; omega
    have := toIntS_l0 (l.length + 1) l hl l.length (Nat.le_refl _)
    simp only [hc, if_true, Int.toNat_natCast]
    rw [this]
    rfl
  · cases h
theorem toIntA2S_l0 (N : Nat) (l : List E) (hl : l.length ≤ lim) : ∀ k, l.length ≤ k → laws_toIntA2S_l0 N (k + 1) (l, List.replicate l.length ((0 : Int), (0 : Int), ()), (0 : Int), ()) = some (.inl (l, ())) := by
  intro k hk
  have hmx := lim_max hl
  have key : ∀ n i (m : List E), l.length ≤ i + n → i ≤ l.length → m.length = l.length → m.take i = l.take i → laws_toIntA2S_l0 N (n + 1) (l, m, (i : Int), ()) = some (.inl (l, ())) := by
    intro n
    induction n with
    | zero =>
      intro i m h1 h2 h3 h4
      have e : i = l.length := by omega
      subst e
      rw [List.take_of_length_le (by omega), List.take_of_length_le (by omega)] at h4
      subst h4
      simp [laws_toIntA2S_l0, laws_toIntA2S_l0_r]
    | succ n ih =>
      intro i m h1 h2 h3 h4
      by_cases hi : i < l.length
      · show laws_toIntA2S_l0_r N (laws_toIntA2S_l0 N (n + 1)) (l, m, (i : Int), ()) = _
        unfold laws_toIntA2S_l0_r
        have hlt : decide ((i : Int) < (List.length l : Int)) = true := by simp; omega
        simp only [hlt, if_true, idxIn_nat hi, idxIn_nat (show i < m.length by omega), Int.toNat_natCast, wrap_up hi hmx, G_toIntA2, Option.bind_some]
        refine ih (i + 1) _ (by omega) (by omega) (by simp [h3]) ?_
        exact set_copy l m i _ hi (by rw [at_get (e := K_Piiq) hi]; rfl) h3 h4
      · have e : i = l.length := by omega
        subst e
        rw [List.take_of_length_le (by omega), List.take_of_length_le (by omega)] at h4
        subst h4
        simp [laws_toIntA2S_l0, laws_toIntA2S_l0_r]
  simpa using key k 0 (List.replicate l.length ((0 : Int), (0 : Int), ())) (by omega) (by omega) (by simp) (by simp)
theorem toIntA2S_lim (d) (r) (h : G_toIntA2S d = some r) : ∃ N, F_laws_toIntA2S N d = some r := by
  obtain ⟨l, _⟩ := d
  unfold G_toIntA2S at h
  split at h
  · rename_i hl
    have hl : l.length ≤ lim := of_decide_eq_true hl
    have h := Option.some.inj h
    subst h
    refine ⟨l.length + 1, ?_⟩
    unfold F_laws_toIntA2S
    have hc : (decide (0 ≤ (List.length l : Int)) && decide ((List.length l : Int) ≤ (List.length l : Int)) && decide ((List.length l : Int) ≤ (lim : Int))) = true := by simp; omega
    have := toIntA2S_l0 (l.length + 1) l hl l.length (Nat.le_refl _)
    simp only [hc, if_true, Int.toNat_natCast]
    rw [this]
    rfl
  · cases h
end Go.V.W
set_option linter.unusedVariables false
set_option linter.unusedSimpArgs false
namespace Go.V.W
open Go.Proofs
theorem eqIntA2_lim (d) (r) (h : G_eqIntA2 d = some r) : ∃ N, F_laws_eqIntA2 N d = some r := by
  obtain ⟨⟨a, b, _⟩, ⟨c, e, _⟩, _⟩ := d
  have h := Option.some.inj h
  subst h
  refine ⟨3, ?_⟩
  by_cases h1 : a = c
  · by_cases h2 : b = e
    · subst h1 h2
      simp [F_laws_eqIntA2, laws_eqIntA2_l0, laws_eqIntA2_l0_r, wrap_in]
    · subst h1
      simp [F_laws_eqIntA2, laws_eqIntA2_l0, laws_eqIntA2_l0_r, wrap_in, h2]
  · simp [F_laws_eqIntA2, laws_eqIntA2_l0, laws_eqIntA2_l0_r, wrap_in, h1]
theorem eqIntS_l0 (N : Nat) (l m : List Int) (hl : l.length ≤ lim) (hm : l.length = m.length) : ∀ n i, l.length ≤ i + n → i ≤ l.length → laws_eqIntS_l0 N (n + 1) (l, m, (i : Int), ()) = if l.drop i = m.drop i then some (.inr (.inl ())) else some (.inl (false, ())) := by
  have hmx := lim_max hl
  intro n
  induction n with
  | zero =>
    intro i h1 h2
    have e : i = l.length := by omega
    subst e
    rw [List.drop_of_length_le (by omega), List.drop_of_length_le (by omega)]
    simp [laws_eqIntS_l0, laws_eqIntS_l0_r]
  | succ n ih =>
    intro i h1 h2
    by_cases hi : i < l.length
    · have hi' : i < m.length := by omega
      show laws_eqIntS_l0_r N (laws_eqIntS_l0 N (n + 1)) (l, m, (i : Int), ()) = _
      unfold laws_eqIntS_l0_r
      have hlt : decide ((i : Int) < (List.length l : Int)) = true := by simp; omega
      simp only [hlt, if_true, idxIn_nat hi, idxIn_nat hi', Int.toNat_natCast, wrap_up hi hmx, at_get (e := I) hi, at_get (e := I) (l := m) hi', ih (i + 1) (by omega) (by omega)]
      rw [List.drop_eq_getElem_cons hi, List.drop_eq_getElem_cons hi']
      simp only [List.cons.injEq, List.get_eq_getElem]
      by_cases he : l[i] = m[i]
      · simp only [he, bne_self_eq_false, Bool.false_eq_true, if_false, true_and]
      · have he' : (l[i] != m[i]) = true := by simpa using he
        simp only [he', he, if_true, false_and, if_false]
    · have e : i = l.length := by omega
      subst e
      rw [List.drop_of_length_le (by omega), List.drop_of_length_le (by omega)]
      simp [laws_eqIntS_l0, laws_eqIntS_l0_r]
theorem eqIntS_lim (d) (r) (h : G_eqIntS d = some r) : ∃ N, F_laws_eqIntS N d = some r := by
  obtain ⟨l, m, _⟩ := d
  unfold G_eqIntS at h
  split at h
  · rename_i hl
    have hl : l.length ≤ lim := of_decide_eq_true hl
    have h := Option.some.inj h
    subst h
    refine ⟨l.length + 1, ?_⟩
    unfold F_laws_eqIntS
    by_cases hm : l.length = m.length
    · have := eqIntS_l0 (l.length + 1) l m hl hm l.length 0 (by omega) (by omega)
      simp only [Int.natCast_zero, List.drop_zero] at this
      have hne : ((List.length l : Int) != (List.length m : Int)) = false := by simp [hm]
      simp only [hne, Bool.false_eq_true, if_false, this]
      by_cases he : l = m
      · simp [he]
      · simp [he]
    · have hne : ((List.length l : Int) != (List.length m : Int)) = true := by simp; omega
      have he : ¬ l = m := fun e => hm (by rw [e])
      simp [hne, he]
  · cases h
end Go.V.W
