/- What the law FnExactBestCops leans on, part 6: an interpreter of the model as plain data, its soundness, the functions as it tells them, and their laws. -/
import Derived.Shelf.Lays
import Derived.Shelf.LaysM
import Derived.Shelf.SortM.Plain
import Derived.Shelf.SortM.SortNone
import Derived.Shelf.SlSortCmp.NoneTotal
import Derived.Test.YtcdhlpfcjpnfoaaGreatVE
set_option linter.unusedVariables false
set_option linter.unusedSimpArgs false
set_option maxRecDepth 100000
set_option linter.unusedVariables false
set_option linter.unusedSimpArgs false
namespace Go.V.W
open Go.Proofs
theorem tabM_len (m n : Nat) (f : Nat → Nat → Int) : (tabM m n f).length = m := by simp [tabM]
theorem tabM_row {m n c : Nat} (f : Nat → Nat → Int) (h : c < m) : (tabM m n f)[c]? = some ((List.range n).map fun x => f c x) := by
 unfold tabM
 rw [List.getElem?_map, List.getElem?_range h]
 rfl
theorem tab2_tabM {m n c x : Nat} (f : Nat → Nat → Int) (hc : c < m) (hx : x < n) : tab2 (tabM m n f) (c : Int) (x : Int) = f c x := by
 unfold tab2
 simp only [Int.toNat_natCast, List.getD_eq_getElem?_getD, tabM_row f hc, Option.getD_some, rowR_get _ hx]
theorem tabM_congr {m n : Nat} {f g : Nat → Nat → Int} (h : ∀ c x, c < m → x < n → f c x = g c x) : tabM m n f = tabM m n g := by
 unfold tabM
 refine List.map_congr_left fun c hc => List.map_congr_left fun x hx => h c x (List.mem_range.1 hc) (List.mem_range.1 hx)
theorem rcB_parts {m n : Nat} {T : Tab} (h : rcB m n T = true) : T.length = m ∧ ∀ c, c < m → (at_ K_Si T c).length = n := by
 unfold rcB at h
 simp only [Bool.and_eq_true, decide_eq_true_eq, List.all_eq_true] at h
 refine ⟨h.1, fun c hc => ?_⟩
 have hlt : c < T.length := by omega
 have e : at_ K_Si T c = T[c] := at_get (e := K_Si) hlt
 rw [e]
 exact h.2 _ (List.getElem_mem hlt)
theorem tab2_rc {m n : Nat} {T : Tab} (h : rcB m n T = true) {c x : Nat} (hc : c < m) (hx : x < n) : at_ I (at_ K_Si T c) x = tab2 T (c : Int) (x : Int) := by
 obtain ⟨h1, h2⟩ := rcB_parts h
 have hlt : c < T.length := by omega
 have e : at_ K_Si T c = T[c] := at_get (e := K_Si) hlt
 have h3 := h2 c hc
 rw [e] at h3 ⊢
 have e2 : at_ I T[c] x = T[c][x] := at_get (e := I) (by omega)
 rw [e2]
 unfold tab2
 simp only [Int.toNat_natCast, List.getD_eq_getElem?_getD, List.getElem?_eq_getElem hlt, Option.getD_some]
 rw [List.getElem?_eq_getElem (by omega)]
 rfl
theorem rc_tabM (m n : Nat) (f : Nat → Nat → Int) : rcB m n (tabM m n f) = true := by
 unfold rcB tabM
 simp
theorem row_rc {m n : Nat} {T : Tab} (h : rcB m n T = true) {c : Nat} (hc : c < m) : at_ K_Si T c = (List.range n).map fun (x : Nat) => tab2 T (c : Int) (x : Int) := by
 obtain ⟨h1, h2⟩ := rcB_parts h
 have h3 := h2 c hc
 apply List.ext_getElem
 ·simp [h3]
 ·intro i i1 i2
  have hi : i < n := by omega
  rw [List.getElem_map, List.getElem_range, ← tab2_rc h hc hi]
  exact (at_get (e := I) i1).symm
theorem tabM_self {m n : Nat} {T : Tab} (h : rcB m n T = true) : tabM m n (fun c x => tab2 T (c : Int) (x : Int)) = T := by
 obtain ⟨h1, h2⟩ := rcB_parts h
 apply List.ext_getElem
 ·rw [tabM_len, h1]
 ·intro c c1 c2
  have hc : c < m := by omega
  have e : at_ K_Si T c = T[c] := at_get (e := K_Si) c2
  rw [← e, row_rc h hc]
  simp [tabM]
def rowU (n : Nat) (f g : Nat → Int) (x : Nat) : List Int := (List.range n).map fun j => if j < x then g j else f j
theorem rowU_len (n : Nat) (f g : Nat → Int) (x : Nat) : (rowU n f g x).length = n := by simp [rowU]
theorem rowU_at {n : Nat} {f g : Nat → Int} {x : Nat} (h : x < n) : at_ I (rowU n f g x) x = f x := by
 have : (rowU n f g x)[x]? = some (f x) := by
  unfold rowU
  rw [rowR_get _ h, if_neg (by omega)]
 exact (at_some this).1
theorem rowU_set {n : Nat} {f g : Nat → Int} {x : Nat} {v : Int} (h : x < n) (hv : g x = v) : (rowU n f g x).set x v = rowU n f g (x + 1) := by
 unfold rowU
 rw [map_set]
 refine List.map_congr_left fun j _ => ?_
 by_cases e : j = x
 ·subst e
  have : j < j + 1 := by omega
  simp [this, hv]
 ·by_cases e2 : j < x
  ·have : j < x + 1 := by omega
   simp [e, e2, this]
  ·have : ¬ j < x + 1 := by omega
   simp [e, e2, this]
theorem rowU_keep {n : Nat} {f g : Nat → Int} {x : Nat} (hv : g x = f x) : rowU n f g x = rowU n f g (x + 1) := by
 unfold rowU
 refine List.map_congr_left fun j _ => ?_
 by_cases e : j = x
 ·subst e
  have : j < j + 1 := by omega
  simp [this, hv]
 ·by_cases e2 : j < x
  ·have : j < x + 1 := by omega
   simp [e2, this]
  ·have : ¬ j < x + 1 := by omega
   simp [e2, this]
theorem rowU_zero (n : Nat) (f g : Nat → Int) : rowU n f g 0 = (List.range n).map f := List.map_congr_left fun j _ => if_neg (by omega)
theorem rowU_full (n : Nat) (f g : Nat → Int) : rowU n f g n = (List.range n).map g := List.map_congr_left fun j hj => if_pos (List.mem_range.1 hj)
def negsM (m n : Nat) (T : Tab) : Nat := (List.range (m * n)).countP fun i => decide (tab2 T ((i / n : Nat) : Int) ((i % n : Nat) : Int) < 0)
theorem anyG_spec {cf mv : List (List Int)} {ball : Int → List Int} {n : Nat} {T : Tab} : anyG cf mv ball n T = true ↔ ∃ c x, c < cf.length ∧ x < n ∧ canG cf mv ball T c x = true := by
 unfold anyG
 simp only [List.any_eq_true, List.mem_range]
 constructor
 ·rintro ⟨c, hc, r, hr, h⟩
  exact ⟨c, r, hc, hr, h⟩
 ·rintro ⟨c, r, hc, hr, h⟩
  exact ⟨c, hc, r, hr, h⟩
theorem stepG_at {cf mv : List (List Int)} {ball : Int → List Int} {n : Nat} {t : Int} {T : Tab} {c x : Nat} (hc : c < cf.length) (hx : x < n) : tab2 (stepG cf mv ball n t T) (c : Int) (x : Int) = if canG cf mv ball T c x = true then t else tab2 T (c : Int) (x : Int) := tab2_tabM _ hc hx
theorem negsM_step {cf mv : List (List Int)} {ball : Int → List Int} {n : Nat} {t : Int} (ht : 0 ≤ t) {T : Tab} (h : anyG cf mv ball n T = true) : negsM cf.length n (stepG cf mv ball n t T) < negsM cf.length n T := by
 obtain ⟨c, x, hc, hx, hcan⟩ := anyG_spec.1 h
 have hdiv : ∀ i, i < cf.length * n → i / n < cf.length ∧ i % n < n := fun i hi => by
  have hn : 0 < n := by omega
  exact ⟨(Nat.div_lt_iff_lt_mul hn).2 hi, Nat.mod_lt _ hn⟩
 have hsub := countP_lt (p := fun i => decide (tab2 T ((i / n : Nat) : Int) ((i % n : Nat) : Int) < 0)) (q := fun i => decide (tab2 (stepG cf mv ball n t T) ((i / n : Nat) : Int) ((i % n : Nat) : Int) < 0)) (l := List.range (cf.length * n)) (fun i hi h => by
  obtain ⟨d1, d2⟩ := hdiv i (List.mem_range.1 hi)
  have h := of_decide_eq_true h
  rw [stepG_at d1 d2] at h
  split at h
  ·omega
  ·exact decide_eq_true h)
 refine hsub.2 ⟨c * n + x, ?_, ?_, ?_⟩
 ·rw [List.mem_range]
  have : (c + 1) * n ≤ cf.length * n := Nat.mul_le_mul_right _ hc
  rw [Nat.succ_mul] at this
  omega
 all_goals
  have e1 : (c * n + x) / n = c := by
   rw [Nat.mul_comm, Nat.mul_add_div (by omega), Nat.div_eq_of_lt hx]
   omega
  have e2 : (c * n + x) % n = x := by
   rw [Nat.mul_comm, Nat.mul_add_mod, Nat.mod_eq_of_lt hx]
  simp only [e1, e2]
 ·unfold canG at hcan
  simp only [Bool.and_eq_true] at hcan
  exact hcan.1
 ·rw [stepG_at hc hx, if_pos hcan]
  simpa using ht
theorem negsM_le (m n : Nat) (T : Tab) : negsM m n T ≤ m * n := by
 unfold negsM
 have := List.countP_le_length (p := fun i => decide (tab2 T ((i / n : Nat) : Int) ((i % n : Nat) : Int) < 0)) (l := List.range (m * n))
 simpa using this
theorem stepG_none {cf mv : List (List Int)} {ball : Int → List Int} {n : Nat} {t : Int} {T : Tab} (hT : rcB cf.length n T = true) (h : anyG cf mv ball n T = false) : stepG cf mv ball n t T = T := by
 refine Eq.trans (tabM_congr fun c x hc hx => if_neg fun hh => ?_) (tabM_self hT)
 have := anyG_spec.2 ⟨c, x, hc, hx, hh⟩
 rw [h] at this
 cases this
theorem gmB_parts {n : Nat} {cf mv : List (List Int)} (h : gmB n cf mv = true) : cf.length ≤ 120 ∧ mv.length = cf.length ∧ (∀ c, c < cf.length → (at_ K_Si cf c).length ≤ 3 ∧ cf.getD c [] = at_ K_Si cf c ∧ ∀ x ∈ at_ K_Si cf c, inB 0 ((n : Int) - 1) x = true) ∧
  (∀ c, c < cf.length → (at_ K_Si mv c).length ≤ 1000 ∧ mv.getD c [] = at_ K_Si mv c ∧ ∀ d ∈ at_ K_Si mv c, inB 0 ((cf.length : Int) - 1) d = true) := by
 unfold gmB at h
 simp only [Bool.and_eq_true, decide_eq_true_eq, List.all_eq_true] at h
 obtain ⟨⟨⟨h1, h2⟩, h3⟩, h4⟩ := h
 refine ⟨h1, h2, fun c hc => ?_, fun c hc => ?_⟩
 ·have e : at_ K_Si cf c = cf[c] := at_get (e := K_Si) hc
  have := h3 _ (List.getElem_mem hc)
  rw [e]
  refine ⟨this.1, ?_, this.2⟩
  rw [List.getD_eq_getElem?_getD, List.getElem?_eq_getElem hc]
  rfl
 ·have hc2 : c < mv.length := by omega
  have e : at_ K_Si mv c = mv[c] := at_get (e := K_Si) hc2
  have := h4 _ (List.getElem_mem hc2)
  rw [e]
  refine ⟨this.1, ?_, this.2⟩
  rw [List.getD_eq_getElem?_getD, List.getElem?_eq_getElem hc2]
  rfl
theorem blB_parts {bl : List (List Int)} (h : blB bl = true) : bl.length ≤ 8 ∧ ∀ x : Nat, x < bl.length → at_ K_Si bl x = ballA bl (x : Int) ∧ (ballA bl (x : Int)).length ≤ 8 ∧ ∀ z ∈ ballA bl (x : Int), ∃ y : Nat, y < bl.length ∧ z = (y : Int) := by
 unfold blB at h
 simp only [Bool.and_eq_true, decide_eq_true_eq, List.all_eq_true] at h
 refine ⟨h.1, fun x hx => ?_⟩
 have e : at_ K_Si bl x = bl[x] := at_get (e := K_Si) hx
 have e2 : ballA bl (x : Int) = bl[x] := by
  unfold ballA
  rw [Int.toNat_natCast, List.getD_eq_getElem?_getD, List.getElem?_eq_getElem hx]
  rfl
 have := h.2 _ (List.getElem_mem hx)
 rw [e, e2]
 refine ⟨rfl, this.1, fun z hz => ?_⟩
 obtain ⟨y, hy, h2⟩ := nodeX (this.2 z hz)
 exact ⟨y, h2, hy⟩
theorem af_l0 (N m n : Nat) (T : Tab) (hT : rcB m n T = true) (c : Nat) (hc : c < m) (ball : List Int) (hb : ∀ z ∈ ball, ∃ y : Nat, y < n ∧ z = (y : Int)) (hl : ball.length ≤ 1000) : ∀ (k i f : Nat) (s : Int), i + k = ball.length → k < f →
  spec_l4After_l0 N f (T, (c : Int), s, ball, (i : Int), ()) = some (.inl (worstL (tab2 T c) (ball.drop i) s, ())) ∨ spec_l4After_l0 N f (T, (c : Int), s, ball, (i : Int), ()) = some (.inr (.inl (worstL (tab2 T c) (ball.drop i) s, ()))) := by
 have hmx : ball.length ≤ maxLen := by unfold maxLen; omega
 obtain ⟨t1, t2⟩ := rcB_parts hT
 intro k
 induction k with
 | zero =>
  intro i f m h1 h2
  obtain ⟨f, rfl⟩ : ∃ m, f = m + 1 := ⟨f - 1, by omega⟩
  have e : i = ball.length := by omega
  subst e
  rw [List.drop_of_length_le (Nat.le_refl _)]
  right
  simp [spec_l4After_l0, spec_l4After_l0_r, worstL]
 | succ k ih =>
  intro i f s h1 h2
  obtain ⟨f, rfl⟩ : ∃ m, f = m + 1 := ⟨f - 1, by omega⟩
  have hi : i < ball.length := by omega
  obtain ⟨y, hy, ey⟩ := hb ball[i] (List.getElem_mem hi)
  have e : at_ I ball i = (y : Int) := (at_get (e := I) hi).trans ey
  have i1 : idxIn (c : Int) T.length = true := idxIn_nat (by omega)
  have i2 : idxIn (y : Int) (at_ K_Si T c).length = true := idxIn_nat (by rw [t2 c hc]; exact hy)
  have hv := tab2_rc hT hc hy
  have hd : ball.drop i = (y : Int) :: ball.drop (i + 1) := by rw [List.drop_eq_getElem_cons hi, ey]
  have step : spec_l4After_l0 N (f + 1) (T, (c : Int), s, ball, (i : Int), ()) = if tab2 T c y < 0 then some (.inl (-1, ())) else spec_l4After_l0 N f (T, (c : Int), (if s < tab2 T c y then tab2 T c y else s), ball, ((i + 1 : Nat) : Int), ()) := by
   show spec_l4After_l0_r N (spec_l4After_l0 N f) (T, (c : Int), s, ball, (i : Int), ()) = _
   unfold spec_l4After_l0_r
   simp only [lt_dec hi, if_true, i1, idxIn_nat hi, Int.toNat_natCast, e, i2, hv, most_eq, wrap_up hi hmx]
   by_cases h : tab2 T c y < 0
   ·simp only [h, decide_true, if_true]
   ·simp only [h, decide_false, Bool.false_eq_true, if_false]
  rw [step, hd]
  simp only [worstL]
  by_cases h : tab2 T c y < 0
  ·rw [if_pos h, if_pos h]
   exact .inl rfl
  ·rw [if_neg h, if_neg h]
   exact ih (i + 1) f _ (by omega) (by omega)
theorem l4After_lim (d) (r) (h : G_l4After d = some r) : ∃ N, F_spec_l4After N d = some r := by
 obtain ⟨⟨cf, mv, bl, v⟩, T, c, x, _⟩ := d
 unfold G_l4After at h
 split at h
 ·rename_i hc
  simp only [Bool.and_eq_true] at hc
  obtain ⟨⟨⟨⟨hg, hb⟩, hT⟩, hc'⟩, hx'⟩ := hc
  obtain ⟨g1, g2, g3, g4⟩ := gmB_parts hg
  obtain ⟨b1, b2⟩ := blB_parts hb
  obtain ⟨c, rfl, hc⟩ := nodeX hc'
  obtain ⟨x, rfl, hx⟩ := nodeX hx'
  have h := Option.some.inj h
  subst h
  obtain ⟨x1, x2, x3⟩ := b2 x hx
  obtain ⟨y1, y2, y3⟩ := g3 c hc
  refine ⟨20, ?_⟩
  have hl := af_l0 20 cf.length bl.length T hT c hc (ballA bl (x : Int)) x3 (by omega) (ballA bl (x : Int)).length 0 20 0 (by omega) (by omega)
  simp only [Int.natCast_zero, List.drop_zero] at hl
  unfold F_spec_l4After afterG
  simp only [idxIn_nat hc, idxIn_nat hx, if_true, Int.toNat_natCast, has1 (okL_of (show (at_ K_Si cf c).length ≤ 1048576 by omega)), Option.bind_some, x1, y2]
  by_cases hh : hasL (at_ K_Si cf c) (x : Int) = true
  ·simp only [hh, if_true]
  ·simp only [hh, Bool.false_eq_true, if_false]
   rcases hl with h | h
   ·simp only [h, Option.bind_some]
   ·simp only [h, Option.bind_some]
 ·cases h
theorem afterG_some {cf mv bl : List (List Int)} (hg : gmB bl.length cf mv = true) (hb : blB bl = true) {T : Tab} (hT : rcB cf.length bl.length T = true) {d x : Int} (hd : inB 0 ((cf.length : Int) - 1) d = true) (hx : inB 0 ((bl.length : Int) - 1) x = true) (v u : Unit) : G_l4After ((cf, mv, bl, v), T, d, x, u) = some (afterG cf (ballA bl) T d x, ()) := by
 unfold G_l4After
 simp only [hg, hb, hT, hd, hx, Bool.and_self, if_true]
theorem ts_l2 (N : Nat) (cf mv bl : List (List Int)) (hg : gmB bl.length cf mv = true) (hb : blB bl = true) (v : Unit) (T : Tab) (c : Nat) (hc : c < cf.length) : ∀ (k x f : Nat), x + k = bl.length → k < f →
  spec_l4Times_l2 N f ((cf, mv, bl, v), T, (c : Int), (List.range x).map (fun (x : Nat) => if hasL (cf.getD c []) (x : Int) = true then 0 else -1), (x : Int), ()) = some (.inl ((cf, mv, bl, v), T, (c : Int), (List.range bl.length).map (fun (x : Nat) => if hasL (cf.getD c []) (x : Int) = true then 0 else -1), ())) := by
 obtain ⟨g1, g2, g3, g4⟩ := gmB_parts hg
 obtain ⟨b1, b2⟩ := blB_parts hb
 obtain ⟨y1, y2, y3⟩ := g3 c hc
 intro k
 induction k with
 | zero =>
  intro x f h1 h2
  obtain ⟨f, rfl⟩ : ∃ m, f = m + 1 := ⟨f - 1, by omega⟩
  have e : x = bl.length := by omega
  subst e
  show spec_l4Times_l2_r _ _ _ = _
  unfold spec_l4Times_l2_r
  simp only [lt_not, Bool.false_eq_true, if_false]
 | succ k ih =>
  intro x f h1 h2
  obtain ⟨f, rfl⟩ : ∃ m, f = m + 1 := ⟨f - 1, by omega⟩
  have hx : x < bl.length := by omega
  have hle : ∀ w : Int, decide (((List.range x).map (fun (x : Nat) => if hasL (cf.getD c []) (x : Int) = true then (0 : Int) else -1)).length + List.length [w] ≤ lim) = true := fun w => by
   unfold lim
   simp
   omega
  have fin := ih (x + 1) f (by omega) (by omega)
  rw [← range_snoc x (fun (x : Nat) => if hasL (cf.getD c []) (x : Int) = true then 0 else -1)] at fin
  show spec_l4Times_l2_r _ _ _ = _
  unfold spec_l4Times_l2_r
  simp only [lt_dec hx, if_true, idxIn_nat hc, Int.toNat_natCast, has1 (okL_of (show (at_ K_Si cf c).length ≤ 1048576 by omega)), Option.bind_some, hle, small_wrap (show x ≤ 100000 by omega)]
  by_cases hh : hasL (at_ K_Si cf c) (x : Int) = true
  ·rw [y2, if_pos hh] at fin
   simp only [hh, if_true, y2]
   exact fin
  ·rw [y2, if_neg hh] at fin
   simp only [hh, Bool.false_eq_true, if_false, y2]
   exact fin
theorem ts_l0 (N : Nat) (hN : 200 ≤ N) (cf mv bl : List (List Int)) (hg : gmB bl.length cf mv = true) (hb : blB bl = true) (v : Unit) : ∀ (k c f : Nat), c + k = cf.length → k < f →
  spec_l4Times_l0 N f ((cf, mv, bl, v), (List.range c).map (fun c => (List.range bl.length).map (fun (x : Nat) => if hasL (cf.getD c []) (x : Int) = true then (0 : Int) else -1)), (c : Int), ()) = some (.inl ((cf, mv, bl, v), startG cf bl.length, ())) := by
 obtain ⟨g1, g2, g3, g4⟩ := gmB_parts hg
 obtain ⟨b1, b2⟩ := blB_parts hb
 intro k
 induction k with
 | zero =>
  intro c f h1 h2
  obtain ⟨f, rfl⟩ : ∃ m, f = m + 1 := ⟨f - 1, by omega⟩
  have e : c = cf.length := by omega
  subst e
  show spec_l4Times_l0_r _ _ _ = _
  unfold spec_l4Times_l0_r
  simp only [lt_not, Bool.false_eq_true, if_false]
  rfl
 | succ k ih =>
  intro c f h1 h2
  obtain ⟨f, rfl⟩ : ∃ m, f = m + 1 := ⟨f - 1, by omega⟩
  have hc : c < cf.length := by omega
  have hin := ts_l2 N cf mv bl hg hb v ((List.range c).map (fun c => (List.range bl.length).map (fun (x : Nat) => if hasL (cf.getD c []) (x : Int) = true then (0 : Int) else -1))) c hc bl.length 0 N (by omega) (by omega)
  simp only [List.range_zero, List.map_nil, Int.natCast_zero] at hin
  have hle : ∀ w : List Int, decide (((List.range c).map (fun c => (List.range bl.length).map (fun (x : Nat) => if hasL (cf.getD c []) (x : Int) = true then (0 : Int) else -1))).length + List.length [w] ≤ lim) = true := fun w => by
   unfold lim
   simp
   omega
  have fin := ih (c + 1) f (by omega) (by omega)
  rw [← range_snocT c (fun c => (List.range bl.length).map (fun (x : Nat) => if hasL (cf.getD c []) (x : Int) = true then (0 : Int) else -1))] at fin
  show spec_l4Times_l0_r _ _ _ = _
  unfold spec_l4Times_l0_r
  simp only [lt_dec hc, if_true, hin, Option.bind_some, hle, small_wrap (show c ≤ 100000 by omega)]
  exact fin
theorem ts_l10 (N : Nat) (cf mv bl : List (List Int)) (hg : gmB bl.length cf mv = true) (hb : blB bl = true) (v : Unit) (T : Tab) (hT : rcB cf.length bl.length T = true) (t : Nat) (ht : 1 ≤ t) (next : Tab) (c : Nat) (hc : c < cf.length) (x : Nat) (hx : x < bl.length) (row : List Int) (hr : row.length = bl.length) (hneg : at_ I row x < 0) :
  ∀ (k i f : Nat) (ch : Bool), i + k = (at_ K_Si mv c).length → k + 1 < f →
  spec_l4Times_l10 N f ((cf, mv, bl, v), T, (t : Int), next, ch, (c : Int), row, (x : Int), (i : Int), ()) =
   some (.inl ((cf, mv, bl, v), T, (t : Int), next, ch || ((at_ K_Si mv c).drop i).any (fun d => decide (0 ≤ afterG cf (ballA bl) T d (x : Int))), (c : Int), (if ((at_ K_Si mv c).drop i).any (fun d => decide (0 ≤ afterG cf (ballA bl) T d (x : Int))) = true then row.set x (t : Int) else row), (x : Int), ())) := by
 obtain ⟨g1, g2, g3, g4⟩ := gmB_parts hg
 obtain ⟨b1, b2⟩ := blB_parts hb
 obtain ⟨m1, m2, m3⟩ := g4 c hc
 have i1 : idxIn (c : Int) mv.length = true := idxIn_nat (by omega)
 have i2 : idxIn (x : Int) row.length = true := idxIn_nat (by omega)
 have hxi : inB 0 ((bl.length : Int) - 1) (x : Int) = true := inB_iff.2 (by omega)
 intro k
 induction k with
 | zero =>
  intro i f ch h1 h2
  obtain ⟨f, rfl⟩ : ∃ m, f = m + 1 := ⟨f - 1, by omega⟩
  have e : i = (at_ K_Si mv c).length := by omega
  rw [List.drop_of_length_le (by omega)]
  subst e
  show spec_l4Times_l10_r _ _ _ = _
  unfold spec_l4Times_l10_r
  simp only [i1, if_true, Int.toNat_natCast, lt_not, Bool.false_eq_true, if_false, List.any_nil, Bool.or_false]
 | succ k ih =>
  intro i f ch h1 h2
  obtain ⟨f, rfl⟩ : ∃ m, f = m + 1 := ⟨f - 1, by omega⟩
  have hi : i < (at_ K_Si mv c).length := by omega
  have ei : at_ I (at_ K_Si mv c) i = (at_ K_Si mv c)[i] := at_get (e := I) hi
  have haf := afterG_some hg hb hT (m3 _ (List.getElem_mem hi)) hxi v ()
  rw [List.drop_eq_getElem_cons hi, List.any_cons]
  show spec_l4Times_l10_r _ _ _ = _
  unfold spec_l4Times_l10_r
  simp only [i1, if_true, Int.toNat_natCast, lt_dec hi, i2, hneg, decide_true, idxIn_nat hi, ei, haf, Option.bind_some, small_wrap (show i ≤ 100000 by omega)]
  by_cases h0 : 0 ≤ afterG cf (ballA bl) T (at_ K_Si mv c)[i] (x : Int)
  ·have h0' : decide (afterG cf (ballA bl) T (at_ K_Si mv c)[i] (x : Int) ≥ 0) = true := decide_eq_true h0
   simp only [h0', h0, decide_true, if_true, Bool.true_or, Bool.or_true]
   obtain ⟨f, rfl⟩ : ∃ m, f = m + 1 := ⟨f - 1, by omega⟩
   have es : at_ I (row.set x (t : Int)) x = (t : Int) := by
    have e1 : at_ I (row.set x (t : Int)) x = (row.set x (t : Int))[x]'(by rw [List.length_set]; omega) := at_get (e := I) (by rw [List.length_set]; omega)
    rw [e1, List.getElem_set_self]
   have i3 : idxIn (x : Int) (row.set x (t : Int)).length = true := idxIn_nat (by rw [List.length_set]; omega)
   have hpos : decide ((t : Int) < 0) = false := decide_eq_false (by omega)
   show spec_l4Times_l10_r _ _ _ = _
   unfold spec_l4Times_l10_r
   by_cases hi2 : i + 1 < (at_ K_Si mv c).length
   ·simp only [i1, if_true, Int.toNat_natCast, lt_dec hi2, i3, es, hpos, Bool.false_eq_true, if_false]
   ·have e : decide (((i + 1 : Nat) : Int) < ((at_ K_Si mv c).length : Int)) = false := decide_eq_false (by omega)
    simp only [i1, if_true, Int.toNat_natCast, e, Bool.false_eq_true, if_false]
  ·have h0' : decide (afterG cf (ballA bl) T (at_ K_Si mv c)[i] (x : Int) ≥ 0) = false := decide_eq_false h0
   simp only [h0', h0, decide_false, Bool.false_eq_true, if_false, Bool.false_or]
   exact ih (i + 1) f ch (by omega) (by omega)
theorem ts_l8 (N : Nat) (hN : 2000 ≤ N) (cf mv bl : List (List Int)) (hg : gmB bl.length cf mv = true) (hb : blB bl = true) (v : Unit) (T : Tab) (hT : rcB cf.length bl.length T = true) (t : Nat) (ht : 1 ≤ t) (next : Tab) (c : Nat) (hc : c < cf.length) : ∀ (k x f : Nat) (ch : Bool), x + k = bl.length → k < f →
  spec_l4Times_l8 N f ((cf, mv, bl, v), T, (t : Int), next, ch, (c : Int), rowU bl.length (fun x => tab2 T (c : Int) (x : Int)) (fun x => if canG cf mv (ballA bl) T c x = true then (t : Int) else tab2 T (c : Int) (x : Int)) x, (x : Int), ()) =
   some (.inl ((cf, mv, bl, v), T, (t : Int), next, ch || (List.range' x k).any (fun x => canG cf mv (ballA bl) T c x), (c : Int), (List.range bl.length).map (fun x => if canG cf mv (ballA bl) T c x = true then (t : Int) else tab2 T (c : Int) (x : Int)), ())) := by
 obtain ⟨g1, g2, g3, g4⟩ := gmB_parts hg
 obtain ⟨b1, b2⟩ := blB_parts hb
 obtain ⟨m1, m2, m3⟩ := g4 c hc
 have i1 : idxIn (c : Int) mv.length = true := idxIn_nat (by omega)
 intro k
 induction k with
 | zero =>
  intro x f ch h1 h2
  obtain ⟨f, rfl⟩ : ∃ m, f = m + 1 := ⟨f - 1, by omega⟩
  have e : x = bl.length := by omega
  subst e
  show spec_l4Times_l8_r _ _ _ = _
  unfold spec_l4Times_l8_r
  simp only [rowU_full, List.length_map, List.length_range, lt_not, Bool.false_eq_true, if_false, List.range'_zero, List.any_nil, Bool.or_false]
 | succ k ih =>
  intro x f ch h1 h2
  obtain ⟨f, rfl⟩ : ∃ m, f = m + 1 := ⟨f - 1, by omega⟩
  have hx : x < bl.length := by omega
  have hlt : ∀ g h : Nat → Int, decide (((x : Nat) : Int) < ((rowU bl.length g h x).length : Int)) = true := fun g h => by rw [rowU_len]; exact lt_dec hx
  rw [List.range'_succ, List.any_cons, ← Bool.or_assoc]
  show spec_l4Times_l8_r _ _ _ = _
  unfold spec_l4Times_l8_r
  by_cases hn : tab2 T (c : Int) (x : Int) < 0
  ·have hin := ts_l10 N cf mv bl hg hb v T hT t ht next c hc x hx (rowU bl.length (fun x => tab2 T (c : Int) (x : Int)) (fun x => if canG cf mv (ballA bl) T c x = true then (t : Int) else tab2 T (c : Int) (x : Int)) x) (rowU_len _ _ _ _) (by rw [rowU_at hx]; exact hn) (at_ K_Si mv c).length 0 N ch (by omega) (by omega)
   simp only [Int.natCast_zero, List.drop_zero] at hin
   have hcan : canG cf mv (ballA bl) T c x = (at_ K_Si mv c).any (fun d => decide (0 ≤ afterG cf (ballA bl) T d (x : Int))) := by
    unfold canG
    rw [m2]
    simp [hn]
   rw [← hcan] at hin
   simp only [hlt, if_true, hin, Option.bind_some, small_wrap (show x ≤ 100000 by omega)]
   by_cases hcc : canG cf mv (ballA bl) T c x = true
   ·have e1 := rowU_set (n := bl.length) (f := fun x => tab2 T (c : Int) (x : Int)) (g := fun x => if canG cf mv (ballA bl) T c x = true then (t : Int) else tab2 T (c : Int) (x : Int)) (v := (t : Int)) hx (if_pos hcc)
    simp only [hcc, if_true, e1]
    exact ih (x + 1) f _ (by omega) (by omega)
   ·have e1 := rowU_keep (n := bl.length) (f := fun x => tab2 T (c : Int) (x : Int)) (g := fun x => if canG cf mv (ballA bl) T c x = true then (t : Int) else tab2 T (c : Int) (x : Int)) (x := x) (if_neg hcc)
    rw [if_neg hcc, e1]
    exact ih (x + 1) f _ (by omega) (by omega)
  ·have hcan : canG cf mv (ballA bl) T c x = false := by
    unfold canG
    simp [hn]
   have e1 := rowU_keep (n := bl.length) (f := fun x => tab2 T (c : Int) (x : Int)) (g := fun x => if canG cf mv (ballA bl) T c x = true then (t : Int) else tab2 T (c : Int) (x : Int)) (x := x) (if_neg (by rw [hcan]; simp))
   have i2 : ∀ g h : Nat → Int, idxIn (x : Int) (rowU bl.length g h x).length = true := fun g h => by rw [rowU_len]; exact idxIn_nat hx
   have hin : spec_l4Times_l10 N N ((cf, mv, bl, v), T, (t : Int), next, ch, (c : Int), rowU bl.length (fun x => tab2 T (c : Int) (x : Int)) (fun x => if canG cf mv (ballA bl) T c x = true then (t : Int) else tab2 T (c : Int) (x : Int)) x, (x : Int), 0, ()) = some (.inl ((cf, mv, bl, v), T, (t : Int), next, ch, (c : Int), rowU bl.length (fun x => tab2 T (c : Int) (x : Int)) (fun x => if canG cf mv (ballA bl) T c x = true then (t : Int) else tab2 T (c : Int) (x : Int)) x, (x : Int), ())) := by
    obtain ⟨M, rfl⟩ : ∃ m, N = m + 1 := ⟨N - 1, by omega⟩
    show spec_l4Times_l10_r _ _ _ = _
    unfold spec_l4Times_l10_r
    simp only [i1, if_true, Int.toNat_natCast, i2, rowU_at hx, hn, decide_false, Bool.false_eq_true, if_false]
    split <;> rfl
   simp only [hlt, if_true, hin, Option.bind_some, small_wrap (show x ≤ 100000 by omega), hcan, Bool.or_false]
   rw [e1]
   exact ih (x + 1) f _ (by omega) (by omega)
theorem ts_l6 (N : Nat) (hN : 2000 ≤ N) (cf mv bl : List (List Int)) (hg : gmB bl.length cf mv = true) (hb : blB bl = true) (v : Unit) (T : Tab) (hT : rcB cf.length bl.length T = true) (t : Nat) (ht : 1 ≤ t) : ∀ (k c f : Nat) (ch : Bool), c + k = cf.length → k < f →
  spec_l4Times_l6 N f ((cf, mv, bl, v), T, (t : Int), (List.range c).map (fun c => (List.range bl.length).map (fun x => if canG cf mv (ballA bl) T c x = true then (t : Int) else tab2 T (c : Int) (x : Int))), ch, (c : Int), ()) =
   some (.inl ((cf, mv, bl, v), (t : Int), stepG cf mv (ballA bl) bl.length (t : Int) T, ch || (List.range' c k).any (fun c => (List.range bl.length).any fun x => canG cf mv (ballA bl) T c x), ())) := by
 obtain ⟨g1, g2, g3, g4⟩ := gmB_parts hg
 obtain ⟨b1, b2⟩ := blB_parts hb
 obtain ⟨t1, t2⟩ := rcB_parts hT
 intro k
 induction k with
 | zero =>
  intro c f ch h1 h2
  obtain ⟨f, rfl⟩ : ∃ m, f = m + 1 := ⟨f - 1, by omega⟩
  have e : c = cf.length := by omega
  subst e
  have hlt : decide (((cf.length : Nat) : Int) < (T.length : Int)) = false := by rw [t1]; exact lt_not _
  show spec_l4Times_l6_r _ _ _ = _
  unfold spec_l4Times_l6_r
  simp only [hlt, Bool.false_eq_true, if_false, List.range'_zero, List.any_nil, Bool.or_false]
  rfl
 | succ k ih =>
  intro c f ch h1 h2
  obtain ⟨f, rfl⟩ : ∃ m, f = m + 1 := ⟨f - 1, by omega⟩
  have hc : c < cf.length := by omega
  have hlt : decide (((c : Nat) : Int) < (T.length : Int)) = true := by rw [t1]; exact lt_dec hc
  have i1 : idxIn (c : Int) T.length = true := by rw [t1]; exact idxIn_nat hc
  have hin := ts_l8 N hN cf mv bl hg hb v T hT t ht ((List.range c).map (fun c => (List.range bl.length).map (fun x => if canG cf mv (ballA bl) T c x = true then (t : Int) else tab2 T (c : Int) (x : Int)))) c hc bl.length 0 N ch (by omega) (by omega)
  rw [rowU_zero] at hin
  simp only [Int.natCast_zero, ← List.range_eq_range'] at hin
  have hle : ∀ w : List Int, decide (((List.range c).map (fun c => (List.range bl.length).map (fun x => if canG cf mv (ballA bl) T c x = true then (t : Int) else tab2 T (c : Int) (x : Int)))).length + List.length [w] ≤ lim) = true := fun w => by
   unfold lim
   simp
   omega
  have fin := ih (c + 1) f (ch || (List.range bl.length).any (fun x => canG cf mv (ballA bl) T c x)) (by omega) (by omega)
  rw [← range_snocT c (fun c => (List.range bl.length).map (fun x => if canG cf mv (ballA bl) T c x = true then (t : Int) else tab2 T (c : Int) (x : Int)))] at fin
  have hown := own_some (at_ K_Si T c) (by rw [t2 c hc]; omega)
  rw [row_rc hT hc] at hown
  rw [List.range'_succ, List.any_cons, ← Bool.or_assoc]
  show spec_l4Times_l6_r _ _ _ = _
  unfold spec_l4Times_l6_r
  simp only [hlt, if_true, i1, Int.toNat_natCast, row_rc hT hc, hown, Option.bind_some, hin, hle, small_wrap (show c ≤ 100000 by omega)]
  exact fin
theorem ts_l4 (N : Nat) (hN : 2000 ≤ N) (cf mv bl : List (List Int)) (hg : gmB bl.length cf mv = true) (hb : blB bl = true) (v : Unit) : ∀ (k t : Nat) (T : Tab), rcB cf.length bl.length T = true → 1 ≤ t → t + k ≤ 2000 → negsM cf.length bl.length T < k → ∀ f, k + 1 ≤ f →
  spec_l4Times_l4 N f ((cf, mv, bl, v), T, (t : Int), ()) = some (.inl (gameT cf mv (ballA bl) bl.length k (t : Int) T, ())) := by
 obtain ⟨g1, g2, g3, g4⟩ := gmB_parts hg
 intro k
 induction k with
 | zero => intro t T _ _ _ h; omega
 | succ k ih =>
  intro t T hT ht h2000 hneg f hf
  obtain ⟨f, rfl⟩ : ∃ m, f = m + 1 := ⟨f - 1, by omega⟩
  have hin := ts_l6 N hN cf mv bl hg hb v T hT t ht cf.length 0 N false (by omega) (by omega)
  simp only [List.range_zero, List.map_nil, Int.natCast_zero, Bool.false_or, ← List.range_eq_range'] at hin
  have hany : ((List.range cf.length).any (fun c => (List.range bl.length).any fun x => canG cf mv (ballA bl) T c x)) = anyG cf mv (ballA bl) bl.length T := rfl
  rw [hany] at hin
  show spec_l4Times_l4_r _ _ _ = _
  unfold spec_l4Times_l4_r gameT
  simp only [hin, Option.bind_some]
  cases ha : anyG cf mv (ballA bl) bl.length T with
  | true =>
   have := negsM_step (t := (t : Int)) (by omega) ha
   simp only [Bool.not_true, Bool.false_eq_true, if_false, if_true, small_wrap (show t ≤ 100000 by omega)]
   have := ih (t + 1) (stepG cf mv (ballA bl) bl.length (t : Int) T) (rc_tabM _ _ _) (by omega) (by omega) (by omega) f (by omega)
   exact this
  | false =>
   simp only [Bool.not_false, if_true, Bool.false_eq_true, if_false, stepG_none hT ha]
theorem l4Times_lim (d) (r) (h : G_l4Times d = some r) : ∃ N, F_spec_l4Times N d = some r := by
 obtain ⟨⟨cf, mv, bl, v⟩, _⟩ := d
 unfold G_l4Times at h
 split at h
 ·rename_i hc
  simp only [Bool.and_eq_true] at hc
  obtain ⟨hg, hb⟩ := hc
  obtain ⟨g1, g2, g3, g4⟩ := gmB_parts hg
  obtain ⟨b1, b2⟩ := blB_parts hb
  have h := Option.some.inj h
  subst h
  refine ⟨2000, ?_⟩
  have h0 := ts_l0 2000 (by omega) cf mv bl hg hb v cf.length 0 2000 (by omega) (by omega)
  simp only [List.range_zero, List.map_nil, Int.natCast_zero] at h0
  have hneg := negsM_le cf.length bl.length (startG cf bl.length)
  have hmul : cf.length * bl.length ≤ 120 * 8 := Nat.mul_le_mul g1 b1
  have h4 := ts_l4 2000 (by omega) cf mv bl hg hb v 1000 1 (startG cf bl.length) (rc_tabM _ _ _) (by omega) (by omega) (by omega) 2000 (by omega)
  unfold F_spec_l4Times
  simp only [h0, Option.bind_some]
  have e1 : ((1 : Nat) : Int) = 1 := rfl
  rw [e1] at h4
  simp only [h4, Option.bind_some]
  rfl
 ·cases h
end Go.V.W
set_option linter.unusedVariables false
set_option linter.unusedSimpArgs false
namespace Go.V.W
open Go.Proofs
theorem cgB_parts {l : List Int} {v u : Unit} {cf mv : List (List Int)} {T : Tab} (h : cgB ((l, v), cf, mv, T, u) = true) : netB l = true ∧ 1 ≤ l.length ∧ gmB l.length cf mv = true ∧ rcB cf.length l.length T = true := by
 unfold cgB at h
 simp only [Bool.and_eq_true, decide_eq_true_eq] at h
 exact ⟨h.1.1.1, h.1.1.2, h.1.2, h.2⟩
theorem timeAfter_some {l : List Int} (hl : netB l = true) {cf : List (List Int)} {T : Tab} (hT : rcB cf.length l.length T = true) {d x : Nat} (hd : d < cf.length) (hx : x < l.length) (v u : Unit) : G_timeAfter ((l, v), at_ K_Si T d, (x : Int), u) = some (worstL (tab2 T (d : Int)) (ballM l (x : Int)) 0, ()) := by
 obtain ⟨t1, t2⟩ := rcB_parts hT
 have hlen : decide ((at_ K_Si T d).length = l.length) = true := decide_eq_true (t2 d hd)
 have i2 : inB 0 ((l.length : Int) - 1) (x : Int) = true := inB_iff.2 (by omega)
 have hlt : d < T.length := by omega
 have ea : at_ K_Si T d = T.getD d [] := by
  have : at_ K_Si T d = T[d] := at_get (e := K_Si) hlt
  rw [this, List.getD_eq_getElem?_getD, List.getElem?_eq_getElem hlt]
  rfl
 unfold G_timeAfter
 simp only [hl, hlen, i2, Bool.and_self, if_true]
 rw [ea]
 rfl
theorem can1g_some {l : List Int} {v u : Unit} {cf mv : List (List Int)} {T : Tab} (h : cgB ((l, v), cf, mv, T, u) = true) {d x : Nat} (hd : d < cf.length) (hx : x < l.length) (a b e : Unit) : FV_impl_copGame_can_1 ((d : Int), (a, ((l, v), cf, mv, T, u), (x : Int), b), e) = some (decide (0 ≤ afterG cf (ballM l) T (d : Int) (x : Int)), ()) := by
 obtain ⟨h1, h2, h3, h4⟩ := cgB_parts h
 obtain ⟨g1, g2, g3, g4⟩ := gmB_parts h3
 obtain ⟨y1, y2, y3⟩ := g3 d hd
 obtain ⟨t1, t2⟩ := rcB_parts h4
 have i1 : idxIn (d : Int) T.length = true := idxIn_nat (by omega)
 unfold FV_impl_copGame_can_1 F_impl_copGame_can_1 afterG
 simp only [idxIn_nat hd, if_true, Int.toNat_natCast, has2 (okL_of (show (at_ K_Si cf d).length ≤ 1048576 by omega)), Option.bind_some, y2, i1, timeAfter_some h1 h4 hd hx]
 by_cases hh : hasL (at_ K_Si cf d) (x : Int) = true
 ·simp only [hh, if_true]
  rfl
 ·simp only [hh, Bool.false_eq_true, if_false]
theorem gameCan_lim (d) (r) (h : G_gameCan d = some r) : ∃ N, F_slices_IndexFunc_Sint_int_by_impl_copGame_can_1 N d = some r := by
 obtain ⟨xs, ⟨a, ⟨⟨l, v⟩, cf, mv, T, u⟩, q, b⟩, _⟩ := d
 unfold G_gameCan at h
 split at h
 ·rename_i hc
  simp only [Bool.and_eq_true, decide_eq_true_eq] at hc
  obtain ⟨⟨⟨hg, hq'⟩, hlen⟩, hxs⟩ := hc
  obtain ⟨q, rfl, hq⟩ := nodeX hq'
  have h := Option.some.inj h
  subst h
  have hlen : xs.length ≤ 1000 := hlen
  have hmx : xs.length ≤ maxLen := by unfold maxLen; omega
  refine ⟨xs.length + 1, ?_⟩
  unfold F_slices_IndexFunc_Sint_int_by_impl_copGame_can_1
  have := loop_idx (L := slices_IndexFunc_Sint_int_by_impl_copGame_can_1_l0 (xs.length + 1)) (r := slices_IndexFunc_Sint_int_by_impl_copGame_can_1_l0_r (xs.length + 1)) (fun _ _ => rfl) (e := I) xs (mk := fun i => (xs, (a, ((l, v), cf, mv, T, u), (q : Int), b), (xs.length : Int), (i : Int), ())) (q := fun b => decide (0 ≤ afterG cf (ballM l) T b (q : Int))) (o := fun i => .inl ((i : Int), ())) (f := .inr (.inl ()))
   (by
    intro back i hi
    have hx : at_ I xs i = xs[i] := at_get (e := I) hi
    obtain ⟨y, b1, b2⟩ := nodeX (List.all_eq_true.1 hxs xs[i] (List.getElem_mem hi))
    have hcan := can1g_some hg b2 hq a b ()
    rw [← b1] at hcan
    unfold slices_IndexFunc_Sint_int_by_impl_copGame_can_1_l0_r
    simp only [lt_dec hi, if_true, idxIn_nat hi, Int.toNat_natCast, wrap_up hi hmx, hx, hcan, Option.bind_some])
   (by intro back; unfold slices_IndexFunc_Sint_int_by_impl_copGame_can_1_l0_r; simp only [lt_not, Bool.false_eq_true, if_false]) xs.length 0 (by omega) (by omega)
  simp only [Int.natCast_zero, List.drop_zero] at this
  simp only [this, Option.bind_some]
  cases idxN (fun b => decide (0 ≤ afterG cf (ballM l) T b (q : Int))) xs 0 <;> rfl
 ·cases h
theorem gcan_some {l : List Int} {v u : Unit} {cf mv : List (List Int)} {T : Tab} (h : cgB ((l, v), cf, mv, T, u) = true) {c x : Nat} (hc : c < cf.length) (hx : x < l.length) (b : Unit) : F_impl_copGame_can 0 (((l, v), cf, mv, T, u), (c : Int), (x : Int), b) = some ((at_ K_Si mv c).any (fun d => decide (0 ≤ afterG cf (ballM l) T d (x : Int))), ()) := by
 obtain ⟨h1, h2, h3, h4⟩ := cgB_parts h
 obtain ⟨g1, g2, g3, g4⟩ := gmB_parts h3
 obtain ⟨m1, m2, m3⟩ := g4 c hc
 have i1 : idxIn (c : Int) mv.length = true := idxIn_nat (by omega)
 have i2 : inB 0 ((l.length : Int) - 1) (x : Int) = true := inB_iff.2 (by omega)
 have hall : (at_ K_Si mv c).all (inB 0 ((cf.length : Int) - 1)) = true := List.all_eq_true.2 m3
 have hlen : decide ((at_ K_Si mv c).length ≤ 1000) = true := decide_eq_true m1
 unfold F_impl_copGame_can F_slices_ContainsFunc_Sint_int_by_impl_copGame_can_1
 simp only [i1, if_true, Int.toNat_natCast, G_gameCan, h, i2, hlen, hall, Bool.and_self, Option.bind_some, idxI_ge]
theorem has_take {c : List Int} {j : Nat} (hj : j < c.length) (x : Int) : hasL (c.take (j + 1)) x = (hasL (c.take j) x || c[j] == x) := by
 unfold hasL
 rw [List.take_add_one, List.any_append, List.getElem?_eq_getElem hj]
 simp
theorem cg_l2 (N : Nat) (w : Nt) (y : Cg) (a : List (List Int)) (b e : Int) (n : Nat) (c : List Int) (hc3 : c.length ≤ 3) (hc : ∀ x ∈ c, inB 0 ((n : Int) - 1) x = true) : ∀ q j f, j + q = c.length → q < f →
  impl_net_copGame_l2 N f (w, y, (List.range n).map (fun (x : Nat) => if hasL (c.take j) (x : Int) = true then (0 : Int) else -1), a, b, e, c, (c.length : Int), (j : Int), ()) = some (.inl (w, y, (List.range n).map (fun (x : Nat) => if hasL c (x : Int) = true then (0 : Int) else -1), a, b, e, ())) := by
 intro q
 induction q with
 | zero =>
  intro j f e1 e2
  obtain ⟨f, rfl⟩ : ∃ m, f = m + 1 := ⟨f - 1, by omega⟩
  have e : j = c.length := by omega
  subst e
  rw [List.take_of_length_le (Nat.le_refl _)]
  show impl_net_copGame_l2_r _ _ _ = _
  unfold impl_net_copGame_l2_r
  simp only [lt_not, Bool.false_eq_true, if_false]
 | succ q ih =>
  intro j f e1 e2
  obtain ⟨f, rfl⟩ : ∃ m, f = m + 1 := ⟨f - 1, by omega⟩
  have hj : j < c.length := by omega
  obtain ⟨z, hz, hzn⟩ := nodeX (hc c[j] (List.getElem_mem hj))
  have ej : at_ I c j = (z : Int) := (at_get (e := I) hj).trans hz
  have i1 : ∀ g : Nat → Int, idxIn (z : Int) ((List.range n).map g).length = true := fun g => idxIn_nat (by simpa using hzn)
  have fin := ih (j + 1) f (by omega) (by omega)
  have er : (List.range n).map (fun (x : Nat) => if hasL (c.take (j + 1)) (x : Int) = true then (0 : Int) else -1) = ((List.range n).map (fun (x : Nat) => if hasL (c.take j) (x : Int) = true then (0 : Int) else -1)).set z 0 := by
   rw [map_set]
   refine List.map_congr_left fun x _ => ?_
   rw [has_take hj, hz]
   by_cases exz : x = z
   ·subst exz; simp
   ·have : ((z : Int) == (x : Int)) = false := by simp; omega
    rw [this, Bool.or_false, if_neg exz]
  rw [er] at fin
  show impl_net_copGame_l2_r _ _ _ = _
  unfold impl_net_copGame_l2_r
  simp only [lt_dec hj, if_true, idxIn_nat hj, Int.toNat_natCast, ej, i1, small_wrap (show j ≤ 100000 by omega)]
  exact fin
theorem cg_l0 (N : Nat) (hN : 10 ≤ N) (l : List Int) (v : Unit) (h1 : 1 ≤ l.length) (h8 : l.length ≤ 8) (net : Nt) (cf mv : List (List Int)) (u : Unit) (hg : gmB l.length cf mv = true) : ∀ q i f (acc : Tab), i + q = cf.length → q < f → acc.length + q ≤ 1000 →
  impl_net_copGame_l0 N f ((l, v), (net, cf, mv, acc, u), cf, (cf.length : Int), (i : Int), ()) = some (.inl ((net, cf, mv, acc ++ (List.range' i q).map (fun c => (List.range l.length).map (fun (x : Nat) => if hasL (cf.getD c []) (x : Int) = true then (0 : Int) else -1)), u), ())) := by
 obtain ⟨g1, g2, g3, g4⟩ := gmB_parts hg
 intro q
 induction q with
 | zero =>
  intro i f acc e1 e2 e3
  obtain ⟨f, rfl⟩ : ∃ m, f = m + 1 := ⟨f - 1, by omega⟩
  have e : i = cf.length := by omega
  subst e
  show impl_net_copGame_l0_r _ _ _ = _
  unfold impl_net_copGame_l0_r
  simp only [lt_not, Bool.false_eq_true, if_false, List.range'_zero, List.map_nil, List.append_nil]
 | succ q ih =>
  intro i f acc e1 e2 e3
  obtain ⟨f, rfl⟩ : ∃ m, f = m + 1 := ⟨f - 1, by omega⟩
  have hi : i < cf.length := by omega
  obtain ⟨y1, y2, y3⟩ := g3 i hi
  have hr : G_repeat ([-1], (l.length : Int), ()) = some ((List.range l.length).map (fun (x : Nat) => if hasL ((at_ K_Si cf i).take 0) (x : Int) = true then (0 : Int) else -1), ()) := by
   unfold G_repeat
   have e1 : decide (1 ≤ (l.length : Int)) = true := by simp; omega
   have e2 : decide ((l.length : Int) ≤ 8) = true := by simp; omega
   simp only [List.length_singleton, decide_true, e1, e2, Bool.and_self, if_true, Int.toNat_natCast, List.headD_cons]
   congr 2
   apply List.ext_getElem
   ·simp
   ·intro i h1 h2
    simp [hasL]
  have hin := cg_l2 N (l, v) (net, cf, mv, acc, u) cf (cf.length : Int) (i : Int) l.length (at_ K_Si cf i) y1 y3 (at_ K_Si cf i).length 0 N (by omega) (by omega)
  simp only [Int.natCast_zero] at hin
  have c1 : ∀ x : List Int, decide (acc.length + List.length [x] ≤ lim) = true := fun x => by unfold lim; simp; omega
  show impl_net_copGame_l0_r _ _ _ = _
  unfold impl_net_copGame_l0_r g_impl_net_size
  simp only [lt_dec hi, if_true, idxIn_nat hi, Int.toNat_natCast, hr, Option.bind_some, hin, c1, small_wrap (show i ≤ 100000 by omega)]
  rw [ih (i + 1) f _ (by omega) (by omega) (by simp; omega), List.range'_succ, List.map_cons, List.append_assoc, List.singleton_append, y2]
theorem cg_l8 (N : Nat) {l : List Int} {v u : Unit} {cf mv : List (List Int)} {T : Tab} (h : cgB ((l, v), cf, mv, T, u) = true) (t : Int) (fd : Bool) (c : Nat) (hc : c < cf.length) (a b : Int) : ∀ (k x f : Nat) (fresh : List E), x + k = l.length → k < f → fresh.length + k ≤ 2000 →
  impl_net_copGame_l8 N f (((l, v), cf, mv, T, u), t, fd, fresh, (c : Int), a, b, (l.length : Int), (x : Int), (), (c : Int), ()) =
   some (.inl (((l, v), cf, mv, T, u), t, fd, fresh ++ rowE (canG cf mv (ballM l) T) c k x, a, b, (), ())) := by
 obtain ⟨h1, h2, h3, h4⟩ := cgB_parts h
 obtain ⟨g1, g2, g3, g4⟩ := gmB_parts h3
 obtain ⟨m1, m2, m3⟩ := g4 c hc
 obtain ⟨t1, t2⟩ := rcB_parts h4
 obtain ⟨p1, p2, p3, p4⟩ := netB_parts h1
 intro k
 induction k with
 | zero =>
  intro x f fresh e1 e2 e3
  obtain ⟨f, rfl⟩ : ∃ m, f = m + 1 := ⟨f - 1, by omega⟩
  have e : x = l.length := by omega
  subst e
  show impl_net_copGame_l8_r _ _ _ = _
  unfold impl_net_copGame_l8_r
  simp only [lt_not, Bool.false_eq_true, if_false, rowE, List.append_nil]
 | succ k ih =>
  intro x f fresh e1 e2 e3
  obtain ⟨f, rfl⟩ : ∃ m, f = m + 1 := ⟨f - 1, by omega⟩
  have hx : x < l.length := by omega
  have i2 : idxIn (x : Int) (at_ K_Si T c).length = true := idxIn_nat (by rw [t2 c hc]; exact hx)
  have hv := tab2_rc h4 hc hx
  have hle : decide (fresh.length + List.length [(((c : Int), (x : Int), ()) : E)] ≤ lim) = true := by
   unfold lim
   simp
   omega
  show impl_net_copGame_l8_r _ _ _ = _
  unfold impl_net_copGame_l8_r
  simp only [lt_dec hx, if_true, Int.toNat_natCast, i2, hv, gcan_some h hc hx, Option.bind_some, hle, small_wrap (show x ≤ 100000 by omega), rowE]
  have hcan : canG cf mv (ballM l) T c x = (decide (tab2 T (c : Int) (x : Int) < 0) && (at_ K_Si mv c).any (fun d => decide (0 ≤ afterG cf (ballM l) T d (x : Int)))) := by
   unfold canG
   rw [m2]
  by_cases hf : tab2 T (c : Int) (x : Int) < 0
  ·cases hany : (at_ K_Si mv c).any (fun d => decide (0 ≤ afterG cf (ballM l) T d (x : Int))) with
   | true =>
    rw [hany] at hcan
    simp only [hf, decide_true, Bool.and_self] at hcan
    simp only [hf, decide_true, if_true, hcan]
    rw [ih (x + 1) f _ (by omega) (by omega) (by simp; omega)]
    simp
   | false =>
    rw [hany, Bool.and_false] at hcan
    simp only [hf, decide_true, if_true, hcan, Bool.false_eq_true, if_false]
    exact ih (x + 1) f fresh (by omega) (by omega) (by omega)
  ·simp only [hf, decide_false, Bool.false_and] at hcan
   simp only [hf, decide_false, Bool.false_eq_true, if_false, hcan]
   exact ih (x + 1) f fresh (by omega) (by omega) (by omega)
theorem cg_l6 (N : Nat) (hN : 10 ≤ N) {l : List Int} {v u : Unit} {cf mv : List (List Int)} {T : Tab} (h : cgB ((l, v), cf, mv, T, u) = true) (t : Int) (fd : Bool) : ∀ (k c f : Nat) (fresh : List E), c + k = cf.length → k < f → fresh.length + 8 * k ≤ 1000 →
  impl_net_copGame_l6 N f (((l, v), cf, mv, T, u), t, fd, fresh, (cf.length : Int), (c : Int), (), ()) =
   some (.inl (((l, v), cf, mv, T, u), t, fd, fresh ++ allP (canG cf mv (ballM l) T) l.length k c, ())) := by
 obtain ⟨h1, h2, h3, h4⟩ := cgB_parts h
 obtain ⟨g1, g2, g3, g4⟩ := gmB_parts h3
 obtain ⟨t1, t2⟩ := rcB_parts h4
 obtain ⟨p1, p2, p3, p4⟩ := netB_parts h1
 intro k
 induction k with
 | zero =>
  intro c f fresh e1 e2 e3
  obtain ⟨f, rfl⟩ : ∃ m, f = m + 1 := ⟨f - 1, by omega⟩
  have e : c = cf.length := by omega
  subst e
  show impl_net_copGame_l6_r _ _ _ = _
  unfold impl_net_copGame_l6_r
  simp only [lt_not, Bool.false_eq_true, if_false, allP, List.append_nil]
 | succ k ih =>
  intro c f fresh e1 e2 e3
  obtain ⟨f, rfl⟩ : ∃ m, f = m + 1 := ⟨f - 1, by omega⟩
  have hc : c < cf.length := by omega
  have i1 : idxIn (c : Int) T.length = true := idxIn_nat (by omega)
  have hin := cg_l8 N h t fd c hc (cf.length : Int) (c : Int) l.length 0 N fresh (by omega) (by omega) (by omega)
  simp only [Int.natCast_zero] at hin
  have hrl := rowE_len (p := canG cf mv (ballM l) T) (x := c) (m := l.length) (y := 0)
  show impl_net_copGame_l6_r _ _ _ = _
  unfold impl_net_copGame_l6_r
  simp only [lt_dec hc, if_true, i1, Int.toNat_natCast, t2 c hc, hin, Option.bind_some, small_wrap (show c ≤ 100000 by omega), allP]
  rw [ih (c + 1) f _ (by omega) (by omega) (by simp; omega), List.append_assoc]
theorem tabM_set {m n : Nat} {g : Nat → Nat → Int} {x z : Nat} (hx : x < m) (hz : z < n) (t : Int) : List.set (tabM m n g) x (List.set (at_ K_Si (tabM m n g) x) z t) = tabM m n fun c r => if c = x ∧ r = z then t else g c r := by
 have hl : x < (tabM m n g).length := by rw [tabM_len]; exact hx
 have e : at_ K_Si (tabM m n g) x = (tabM m n g)[x] := at_get (e := K_Si) hl
 have hrow := tabM_row (n := n) g hx
 rw [List.getElem?_eq_getElem hl] at hrow
 rw [e, Option.some.inj hrow, map_set]
 apply List.ext_getElem
 ·simp [tabM]
 ·intro i h1 h2
  rw [List.getElem_set]
  by_cases ei : x = i
  ·subst ei
   simp only [if_true, tabM, List.getElem_map, List.getElem_range, true_and]
  ·have ei' : ¬ i = x := fun h => ei h.symm
   simp only [ei, if_false, tabM, List.getElem_map, List.getElem_range, ei', false_and]
theorem cg_l10 (N : Nat) (w : Nt) (cf mv : List (List Int)) (u : Unit) (m n : Nat) (t : Int) (fresh : List E) (hfr : ∀ e ∈ fresh, ∃ x z : Nat, x < m ∧ z < n ∧ e = ((x : Int), (z : Int), ())) (hl : fresh.length ≤ 1000) : ∀ (k i f : Nat) (g : Nat → Nat → Int) (fd : Bool), i + k = fresh.length → k < f →
  impl_net_copGame_l10 N f ((w, cf, mv, tabM m n g, u), t, fd, fresh, (fresh.length : Int), (i : Int), ()) =
   some (.inl ((w, cf, mv, tabM m n (fun c r => if (fresh.drop i).any (isP c r) = true then t else g c r), u), t, fd || decide (0 < k), ())) := by
 intro k
 induction k with
 | zero =>
  intro i f g fd h1 h2
  obtain ⟨f, rfl⟩ : ∃ m, f = m + 1 := ⟨f - 1, by omega⟩
  have e : i = fresh.length := by omega
  subst e
  show impl_net_copGame_l10_r _ _ _ = _
  unfold impl_net_copGame_l10_r
  rw [List.drop_of_length_le (Nat.le_refl _)]
  simp only [lt_not, Bool.false_eq_true, if_false, List.any_nil, Nat.lt_irrefl, decide_false, Bool.or_false]
 | succ k ih =>
  intro i f g fd h1 h2
  obtain ⟨f, rfl⟩ : ∃ m, f = m + 1 := ⟨f - 1, by omega⟩
  have hi : i < fresh.length := by omega
  obtain ⟨x, z, hx, hz, ee⟩ := hfr fresh[i] (List.getElem_mem hi)
  have e : at_ K_Piiq fresh i = ((x : Int), (z : Int), ()) := (at_get (e := K_Piiq) hi).trans ee
  obtain ⟨t1, t2⟩ := rcB_parts (rc_tabM m n g)
  have i1 : idxIn (x : Int) (tabM m n g).length = true := idxIn_nat (by omega)
  have i2 : idxIn (z : Int) (at_ K_Si (tabM m n g) x).length = true := idxIn_nat (by rw [t2 x hx]; exact hz)
  show impl_net_copGame_l10_r _ _ _ = _
  unfold impl_net_copGame_l10_r
  simp only [lt_dec hi, if_true, idxIn_nat hi, Int.toNat_natCast, e, i1, i2, small_wrap (show i ≤ 100000 by omega), tabM_set hx hz]
  rw [ih (i + 1) f _ true (by omega) (by omega), List.drop_eq_getElem_cons hi, ee]
  have et : tabM m n (fun c r => if (fresh.drop (i + 1)).any (isP c r) = true then t else if c = x ∧ r = z then t else g c r) = tabM m n fun c r => if (((x : Int), (z : Int), ()) :: fresh.drop (i + 1)).any (isP c r) = true then t else g c r := tabM_congr fun c r _ _ => by
   rw [List.any_cons]
   by_cases h3 : (fresh.drop (i + 1)).any (isP c r) = true
   ·simp [h3]
   ·have h3' : (fresh.drop (i + 1)).any (isP c r) = false := by simpa using h3
    by_cases h4 : c = x ∧ r = z
    ·have : isP c r ((x : Int), (z : Int), ()) = true := by
      unfold isP
      simp [h4.1, h4.2]
     rw [if_neg h3, if_pos h4, this, Bool.true_or, if_pos rfl]
    ·have : isP c r ((x : Int), (z : Int), ()) = false := by
      unfold isP
      simp only [Bool.and_eq_false_iff, beq_eq_false_iff_ne, ne_eq]
      by_cases h5 : c = x
      ·exact .inr fun h => h4 ⟨h5, by omega⟩
      ·exact .inl fun h => h5 (by omega)
     simp [h3', h4, this]
  rw [et]
  simp
theorem allP_anyM {p : Nat → Nat → Bool} {m n c r : Nat} (hc : c < m) (hr : r < n) : (allP p n m 0).any (isP c r) = p c r := by
 apply Bool.eq_iff_iff.2
 rw [List.any_eq_true]
 constructor
 ·rintro ⟨e, he, h⟩
  obtain ⟨x, z, h1, h2, h3, h4, rfl⟩ := allP_mem.1 he
  unfold isP at h
  simp only [Bool.and_eq_true, beq_iff_eq] at h
  have e1 : x = c := by omega
  have e2 : z = r := by omega
  subst e1 e2
  exact h4
 ·intro h
  exact ⟨((c : Int), (r : Int), ()), allP_mem.2 ⟨c, r, Nat.zero_le _, by omega, hr, h, rfl⟩, by unfold isP; simp⟩
theorem allP_posM {cf mv : List (List Int)} {ball : Int → List Int} {n : Nat} {T : Tab} : decide (0 < (allP (canG cf mv ball T) n cf.length 0).length) = anyG cf mv ball n T := by
 apply Bool.eq_iff_iff.2
 rw [decide_eq_true_eq, anyG_spec]
 constructor
 ·intro h
  obtain ⟨x, z, h1, h2, h3, h4, _⟩ := allP_mem.1 (List.getElem_mem h)
  exact ⟨x, z, by omega, h3, h4⟩
 ·rintro ⟨c, r, hc, hr, h⟩
  exact List.length_pos_of_mem (allP_mem.2 ⟨c, r, Nat.zero_le _, by omega, hr, h, rfl⟩)
theorem cg_l4 (N : Nat) (hN : 2000 ≤ N) {l : List Int} {v u : Unit} {cf mv : List (List Int)} (hl : netB l = true) (h1 : 1 ≤ l.length) (hg : gmB l.length cf mv = true) : ∀ (k t : Nat) (T : Tab), rcB cf.length l.length T = true → t + k ≤ 2000 → negsM cf.length l.length T < k → ∀ f, k + 1 ≤ f →
  impl_net_copGame_l4 N f (((l, v), cf, mv, T, u), (t : Int), true, ()) = some (.inl (((l, v), cf, mv, gameT cf mv (ballM l) l.length k (t : Int) T, u), ())) := by
 obtain ⟨g1, g2, g3, g4⟩ := gmB_parts hg
 obtain ⟨p1, p2, p3, p4⟩ := netB_parts hl
 intro k
 induction k with
 | zero => intro t T _ _ h; omega
 | succ k ih =>
  intro t T hT ht hng f hf
  obtain ⟨f, rfl⟩ : ∃ m, f = m + 1 := ⟨f - 1, by omega⟩
  have h : cgB ((l, v), cf, mv, T, u) = true := by
   unfold cgB
   simp only [hl, hg, hT, h1, decide_true, Bool.and_self]
  obtain ⟨t1, t2⟩ := rcB_parts hT
  have h6 := cg_l6 N (by omega) h (t : Int) false cf.length 0 N [] (by omega) (by omega) (by simp; omega)
  simp only [Int.natCast_zero, List.nil_append] at h6
  have hlen := allP_len (p := canG cf mv (ballM l) T) (n := l.length) (k := cf.length) (c := 0)
  have hnn : l.length * cf.length ≤ 8 * 120 := Nat.mul_le_mul p3 g1
  have h10 := cg_l10 N (l, v) cf mv u cf.length l.length (t : Int) (allP (canG cf mv (ballM l) T) l.length cf.length 0) (fun e he => by
   obtain ⟨x, z, _, h2, h3, _, h5⟩ := allP_mem.1 he
   exact ⟨x, z, by omega, h3, h5⟩) (by omega) (allP (canG cf mv (ballM l) T) l.length cf.length 0).length 0 N (fun c x => tab2 T (c : Int) (x : Int)) false (by omega) (by omega)
  rw [tabM_self hT] at h10
  simp only [Int.natCast_zero, List.drop_zero, Bool.false_or, allP_posM] at h10
  have et : tabM cf.length l.length (fun c r => if (allP (canG cf mv (ballM l) T) l.length cf.length 0).any (isP c r) = true then (t : Int) else tab2 T (c : Int) (r : Int)) = stepG cf mv (ballM l) l.length (t : Int) T := tabM_congr fun c r hc hr => by
   rw [allP_anyM hc hr]
  rw [et] at h10
  show impl_net_copGame_l4_r _ _ _ = _
  unfold impl_net_copGame_l4_r
  simp only [if_true, t1, h6, Option.bind_some, h10, small_wrap (show t ≤ 100000 by omega), gameT]
  by_cases ha : anyG cf mv (ballM l) l.length T = true
  ·rw [if_pos ha, ha]
   have := negsM_step (t := (t : Int)) (by omega) ha
   exact ih (t + 1) (stepG cf mv (ballM l) l.length (t : Int) T) (rc_tabM _ _ _) (by omega) (by omega) f (by omega)
  ·have ha' : anyG cf mv (ballM l) l.length T = false := (Bool.not_eq_true _).mp ha
   rw [if_neg ha, ha', stepG_none hT ha']
   obtain ⟨f, rfl⟩ : ∃ m, f = m + 1 := ⟨f - 1, by omega⟩
   rfl
theorem copGame_lim (d) (r) (h : G_copGame d = some r) : ∃ N, F_impl_net_copGame N d = some r := by
 obtain ⟨⟨l, v⟩, k, _⟩ := d
 unfold G_copGame at h
 split at h
 ·rename_i hc
  simp only [Bool.and_eq_true, decide_eq_true_eq] at hc
  obtain ⟨⟨hl, h1⟩, hk⟩ := hc
  have hl : netB l = true := hl
  have h1 : 1 ≤ l.length := h1
  have hk2 := inB_iff.1 hk
  obtain ⟨p1, p2, p3, p4⟩ := netB_parts hl
  have h := Option.some.inj h
  subst h
  refine ⟨2000, ?_⟩
  have hg := board_ok (n := l.length) p3 (k := k.toNat) (by omega) (ball := ballM l) (fun x _ => ballM_len l _) (fun x hx => ballM_in hl hx)
  obtain ⟨g1, g2, g3, g4⟩ := gmB_parts hg
  have hb : G_copBoard ((l, v), k, ()) = some (((l, v), confL l.length k.toNat, movesI (ballM l) (confL l.length k.toNat), [], ()), ()) := by
   unfold G_copBoard
   simp only [hl, hk, Bool.and_self, if_true]
  have h0 := cg_l0 2000 (by omega) l v h1 p3 (l, v) (confL l.length k.toNat) (movesI (ballM l) (confL l.length k.toNat)) () hg (confL l.length k.toNat).length 0 2000 [] (by omega) (by omega) (by simp; omega)
  simp only [Int.natCast_zero, List.nil_append, ← List.range_eq_range'] at h0
  have e0 : (List.range (confL l.length k.toNat).length).map (fun c => (List.range l.length).map (fun (x : Nat) => if hasL ((confL l.length k.toNat).getD c []) (x : Int) = true then (0 : Int) else -1)) = startG (confL l.length k.toNat) l.length := rfl
  rw [e0] at h0
  have hneg := negsM_le (confL l.length k.toNat).length l.length (startG (confL l.length k.toNat) l.length)
  have hmul : (confL l.length k.toNat).length * l.length ≤ 120 * 8 := Nat.mul_le_mul g1 p3
  have h4 := cg_l4 2000 (by omega) (v := v) (u := ()) hl h1 hg 1000 1 (startG (confL l.length k.toNat) l.length) (rc_tabM _ _ _) (by omega) (by omega) 2000 (by omega)
  have e1 : ((1 : Nat) : Int) = 1 := rfl
  rw [e1] at h4
  unfold F_impl_net_copGame
  simp only [hb, Option.bind_some, h0, h4]
  rfl
 ·cases h
end Go.V.W
set_option linter.unusedVariables false
set_option linter.unusedSimpArgs false
namespace Go.V.W
open Go.Proofs
theorem after_congr {cf : List (List Int)} {b1 b2 : Int → List Int} {T : Tab} {d x : Int} (h : b1 x = b2 x) : afterG cf b1 T d x = afterG cf b2 T d x := by
 unfold afterG
 rw [h]
theorem canG_congr {cf mv : List (List Int)} {b1 b2 : Int → List Int} {T : Tab} {c x : Nat} (h : b1 (x : Int) = b2 (x : Int)) : canG cf mv b1 T c x = canG cf mv b2 T c x := by
 unfold canG
 simp only [after_congr (cf := cf) (T := T) h]
theorem anyG_congr {cf mv : List (List Int)} {b1 b2 : Int → List Int} {n : Nat} (h : ∀ x : Nat, x < n → b1 (x : Int) = b2 (x : Int)) (T : Tab) : anyG cf mv b1 n T = anyG cf mv b2 n T := by
 apply bool_eq_iff
 rw [anyG_spec, anyG_spec]
 constructor
 ·rintro ⟨c, x, hc, hx, h2⟩
  exact ⟨c, x, hc, hx, by rw [← canG_congr (h x hx)]; exact h2⟩
 ·rintro ⟨c, x, hc, hx, h2⟩
  exact ⟨c, x, hc, hx, by rw [canG_congr (h x hx)]; exact h2⟩
theorem gameT_congr {cf mv : List (List Int)} {b1 b2 : Int → List Int} {n : Nat} (h : ∀ x : Nat, x < n → b1 (x : Int) = b2 (x : Int)) : ∀ (k : Nat) (t : Int) (T : Tab), gameT cf mv b1 n k t T = gameT cf mv b2 n k t T := by
 intro k
 induction k with
 | zero => intro t T; rfl
 | succ k ih =>
  intro t T
  unfold gameT
  rw [anyG_congr h T]
  have : stepG cf mv b1 n t T = stepG cf mv b2 n t T := tabM_congr fun c x hc hx => by rw [canG_congr (h x hx)]
  rw [this, ih]
theorem times_congr {cf mv : List (List Int)} {b1 b2 : Int → List Int} {n : Nat} (h : ∀ x : Nat, x < n → b1 (x : Int) = b2 (x : Int)) : timesG cf mv b1 n = timesG cf mv b2 n := gameT_congr h _ _ _
theorem gameT_rc {cf mv : List (List Int)} {ball : Int → List Int} {n : Nat} : ∀ (k : Nat) (t : Int) (T : Tab), rcB cf.length n T = true → rcB cf.length n (gameT cf mv ball n k t T) = true := by
 intro k
 induction k with
 | zero => intro t T h; exact h
 | succ k ih =>
  intro t T h
  unfold gameT
  split
  ·exact ih _ _ (rc_tabM _ _ _)
  ·exact h
theorem times_rc (cf mv : List (List Int)) (ball : Int → List Int) (n : Nat) : rcB cf.length n (timesG cf mv ball n) = true := gameT_rc _ _ _ (rc_tabM _ _ _)
theorem tm_rc (g : Gr) (k : Nat) : rcB (cfG g k).length g.1.toNat (tmG g k) = true := times_rc _ _ _ _
theorem ballA_L {n : Nat} (es : List E) {x : Nat} (hx : x < n) : ballA (ballsL n es) (x : Int) = ballF n es (x : Int) := by
 unfold ballA ballsL
 rw [Int.toNat_natCast, List.getD_eq_getElem?_getD, List.getElem?_map, List.getElem?_range hx]
 rfl
theorem ballsL_len (n : Nat) (es : List E) : (ballsL n es).length = n := by simp [ballsL]
theorem balls_ok {n : Nat} (hn : n ≤ 8) (es : List E) : blB (ballsL n es) = true := by
 unfold blB
 rw [ballsL_len, Bool.and_eq_true]
 refine ⟨decide_eq_true hn, List.all_eq_true.2 fun b hb => ?_⟩
 unfold ballsL at hb
 obtain ⟨x, _, rfl⟩ := List.mem_map.1 hb
 have := ballF_len n es (x : Int)
 rw [Bool.and_eq_true]
 exact ⟨decide_eq_true (by omega), List.all_eq_true.2 (ballF_in es (x : Int))⟩
theorem field_parts {n : Int} {es : List E} {v : Unit} {k : Int} (h : fieldB (n, es, v) k = true) : graphB (n, es, v) = true ∧ ∃ m q : Nat, n = (m : Int) ∧ k = (q : Int) ∧ 1 ≤ m ∧ m ≤ 8 ∧ 1 ≤ q ∧ q ≤ 3 := by
 unfold fieldB at h
 simp only [Bool.and_eq_true, decide_eq_true_eq] at h
 obtain ⟨⟨h1, h2⟩, h3⟩ := h
 obtain ⟨h4, h5⟩ := graphB_n h1
 have h3 := inB_iff.1 h3
 exact ⟨h1, n.toNat, k.toNat, by omega, by omega, by omega, by omega, by omega, by omega⟩
theorem game_spec {m q : Nat} {es : List E} {v : Unit} (hg : graphB ((m : Int), es, v) = true) (ho : okL es = true) (hq : q ≤ 3) (u w : Unit) :
  G_l4Make (((m : Int), es, v), (q : Int), u) = some ((cfG ((m : Int), es, v) q, mvG ((m : Int), es, v) q, ballsL m es, ()), ()) ∧ G_l4Times ((cfG ((m : Int), es, v) q, mvG ((m : Int), es, v) q, ballsL m es, ()), w) = some (tmG ((m : Int), es, v) q, ()) ∧
  gmB (ballsL m es).length (cfG ((m : Int), es, v) q) (mvG ((m : Int), es, v) q) = true ∧ blB (ballsL m es) = true := by
 obtain ⟨h0, h8⟩ := graphB_n hg
 have hm : m ≤ 8 := by omega
 have hG := graph_grB hg ho
 have hk : inB 0 3 (q : Int) = true := inB_iff.2 (by omega)
 have hb := board_ok (n := m) hm hq (ball := ballF m es) (fun x _ => by have := ballF_len m es (x : Int); omega) (fun x _ => ballF_in es (x : Int))
 have hb2 : gmB (ballsL m es).length (cfG ((m : Int), es, v) q) (mvG ((m : Int), es, v) q) = true := by
  rw [ballsL_len]
  unfold mvG cfG
  simp only [Int.toNat_natCast]
  exact hb
 have hbl := balls_ok hm es
 refine ⟨?_, ?_, hb2, hbl⟩
 ·unfold G_l4Make mvG cfG
  simp only [hG, hk, Bool.and_self, if_true, Int.toNat_natCast]
 ·unfold G_l4Times
  simp only [hb2, hbl, Bool.and_self, if_true]
  unfold tmG
  simp only [ballsL_len, Int.toNat_natCast]
  rw [times_congr fun x hx => ballA_L es hx]
theorem game_impl {m q : Nat} {es : List E} {v : Unit} (hg : graphB ((m : Int), es, v) = true) (ho : okL es = true) (h1 : 1 ≤ m) (hq : q ≤ 3) (u : Unit) :
  G_copGame ((toI (netN m es), ()), (q : Int), u) = some (((toI (netN m es), ()), cfG ((m : Int), es, v) q, mvG ((m : Int), es, v) q, tmG ((m : Int), es, v) q, ()), ()) ∧ cgB ((toI (netN m es), ()), cfG ((m : Int), es, v) q, mvG ((m : Int), es, v) q, tmG ((m : Int), es, v) q, ()) = true := by
 obtain ⟨h0, h8⟩ := graphB_n hg
 have hm : m ≤ 8 := by omega
 obtain ⟨g1, _⟩ := graphB_edges hg
 obtain ⟨n1, n2⟩ := netB_net hm g1
 have hk : inB 0 3 (q : Int) = true := inB_iff.2 (by omega)
 have e1 : movesI (ballM (toI (netN m es))) (confL m q) = movesI (ballF m es) (confL m q) := by
  unfold movesI
  refine List.map_congr_left fun c hc => ?_
  rw [moves_congr fun x hx => ?_]
  have := copsB_in (confL_mem.1 hc).2 x hx
  obtain ⟨y, rfl, hy⟩ := nodeX this
  exact ball_same hm g1 hy
 have e2 : timesG (confL m q) (movesI (ballF m es) (confL m q)) (ballM (toI (netN m es))) m = timesG (confL m q) (movesI (ballF m es) (confL m q)) (ballF m es) m := times_congr fun x hx => ball_same hm g1 hx
 have hb := board_ok (n := m) hm hq (ball := ballF m es) (fun x _ => by have := ballF_len m es (x : Int); omega) (fun x _ => ballF_in es (x : Int))
 constructor
 ·unfold G_copGame
  have h1' : decide (1 ≤ m) = true := decide_eq_true h1
  simp only [n1, n2, h1', hk, Bool.and_self, if_true, Int.toNat_natCast, e1, e2]
  rfl
 ·unfold cgB
  have h1' : decide (1 ≤ m) = true := decide_eq_true h1
  have h2 := tm_rc ((m : Int), es, v) q
  simp only [Int.toNat_natCast] at h2
  have h3 : gmB m (cfG ((m : Int), es, v) q) (mvG ((m : Int), es, v) q) = true := by
   unfold mvG cfG
   simp only [Int.toNat_natCast]
   exact hb
  simp only [n1, n2, h1', h2, h3, Bool.and_self]
theorem specField {g : Gr} (ho : okL g.2.1 = true) (k : Int) (u : Unit) : F_spec_l4Field 0 (g, k, u) = some (fieldB g k, ()) := by
 unfold F_spec_l4Field G_graph fieldB
 simp only [ho, if_true, Option.bind_some, l1In_eq]
 cases graphB g with
 | false => simp only [Bool.false_eq_true, if_false, Bool.false_and]
 | true =>
  cases decide (g.1 > 0) with
  | false => simp only [Bool.false_eq_true, if_false, if_true, Bool.and_false, Bool.false_and]
  | true => simp only [if_true, Bool.true_and]
theorem implField {g : Gr} (ho : okL g.2.1 = true) (k : Int) (u : Unit) : F_impl_isCopGame 0 (g, k, u) = some (fieldB g k, ()) := by
 unfold F_impl_isCopGame G_graph fieldB
 simp only [ho, if_true, Option.bind_some, within_eq]
 cases graphB g with
 | false => simp only [Bool.false_eq_true, if_false, Bool.false_and]
 | true =>
  cases decide (g.1 > 0) with
  | false => simp only [Bool.false_eq_true, if_false, if_true, Bool.and_false, Bool.false_and]
  | true => simp only [if_true, Bool.true_and]
theorem tm_small {m q : Nat} {es : List E} {v : Unit} (hm : m ≤ 8) (hq : q ≤ 3) : (tmG ((m : Int), es, v) q).length ≤ 120 ∧ ∀ l ∈ tmG ((m : Int), es, v) q, l.length ≤ 8 := by
 have h2 := tm_rc ((m : Int), es, v) q
 have h3 : (cfG ((m : Int), es, v) q).length ≤ 120 := confL_120 hm hq
 unfold rcB at h2
 simp only [Int.toNat_natCast, Bool.and_eq_true, decide_eq_true_eq, List.all_eq_true] at h2
 refine ⟨by omega, fun l hl => ?_⟩
 have := h2.2 l hl
 omega
end Go.V.W
set_option linter.unusedVariables false
set_option linter.unusedSimpArgs false
namespace Go.V.W
open Go.Proofs
theorem at_getDS {l : List (List Int)} {i : Nat} (h : i < l.length) : at_ K_Si l i = l.getD i [] := by
 have e : at_ K_Si l i = l[i] := at_get (e := K_Si) h
 rw [e, List.getD_eq_getElem?_getD, List.getElem?_eq_getElem h]
 rfl
end Go.V.W
set_option linter.unusedVariables false
set_option linter.unusedSimpArgs false
namespace Go.V.W
open Go.Proofs
def BestI (T : Tab) (b l : Int) : Prop := b < 0 ∨ ∃ p : Nat, p < T.length ∧ b = (p : Int) ∧ l = worstR (at_ K_Si T p)
theorem bestRow_inv (T : Tab) : ∀ (k c : Nat) (b l : Int), c + k = T.length → BestI T b l → BestI T (bestRow (T.drop c) (c : Int) b l).1 (bestRow (T.drop c) (c : Int) b l).2 := by
 intro k
 induction k with
 | zero =>
  intro c b l h h2
  rw [List.drop_of_length_le (by omega)]
  exact h2
 | succ k ih =>
  intro c b l h h2
  have hc : c < T.length := by omega
  have ec : at_ K_Si T c = T[c] := at_get (e := K_Si) hc
  rw [List.drop_eq_getElem_cons hc]
  unfold bestRow
  have e1 : ((c : Int) + 1) = ((c + 1 : Nat) : Int) := rfl
  rw [e1]
  split
  ·exact ih (c + 1) (c : Int) (worstR T[c]) (by omega) (.inr ⟨c, hc, rfl, by rw [ec]⟩)
  ·exact ih (c + 1) b l (by omega) h2
theorem worst_row8 {row : List Int} (h : row.length ≤ 1000) (u : Unit) : G_l4Worst (row, u) = some (worstR row, ()) := by
 unfold G_l4Worst worstR
 have : okL row = true := okL_of (by omega)
 simp only [this, if_true]
theorem sb_l0 (N : Nat) (y : Gm) (T : Tab) (hT : T.length ≤ 1000) (hr : ∀ p, p < T.length → (at_ K_Si T p).length ≤ 1000) : ∀ (k c f : Nat) (b l : Int), c + k = T.length → k < f → BestI T b l →
  spec_BestCops_l0 N f (y, T, b, (c : Int), ()) = some (.inl (y, T, (bestRow (T.drop c) (c : Int) b l).1, ())) := by
 intro k
 induction k with
 | zero =>
  intro c f b l h1 h2 h3
  obtain ⟨f, rfl⟩ : ∃ m, f = m + 1 := ⟨f - 1, by omega⟩
  have e : c = T.length := by omega
  subst e
  rw [List.drop_of_length_le (Nat.le_refl _)]
  show spec_BestCops_l0_r _ _ _ = _
  unfold spec_BestCops_l0_r
  simp only [lt_not, Bool.false_eq_true, if_false, bestRow]
 | succ k ih =>
  intro c f b l h1 h2 h3
  obtain ⟨f, rfl⟩ : ∃ m, f = m + 1 := ⟨f - 1, by omega⟩
  have hc : c < T.length := by omega
  have ec : at_ K_Si T c = T[c] := at_get (e := K_Si) hc
  have hI : BestI T (c : Int) (worstR T[c]) := .inr ⟨c, hc, rfl, by rw [ec]⟩
  have e1 : ((c : Int) + 1) = ((c + 1 : Nat) : Int) := rfl
  have hrc := hr c hc
  rw [ec] at hrc
  rw [List.drop_eq_getElem_cons hc]
  show spec_BestCops_l0_r _ _ _ = _
  unfold spec_BestCops_l0_r
  simp only [lt_dec hc, if_true, idxIn_nat hc, Int.toNat_natCast, ec, worst_row8 hrc, Option.bind_some, small_wrap (show c ≤ 100000 by omega), bestRow]
  simp only [e1]
  by_cases hw : 0 ≤ worstR T[c]
  ·have hw' : decide (worstR T[c] ≥ 0) = true := decide_eq_true hw
   by_cases hb : b < 0
   ·simp only [hw', hw, hb, decide_true, if_true, true_or, and_self]
    exact ih (c + 1) f (c : Int) (worstR T[c]) (by omega) (by omega) hI
   ·rcases h3 with h3 | ⟨p, p1, rfl, rfl⟩
    ·exact absurd h3 hb
    ·simp only [hw', hw, hb, decide_true, decide_false, Bool.false_eq_true, if_true, if_false, idxIn_nat p1, Int.toNat_natCast, worst_row8 (hr p p1), Option.bind_some, false_or, true_and]
     by_cases hlt : worstR T[c] < worstR (at_ K_Si T p)
     ·simp only [hlt, decide_true, if_true]
      exact ih (c + 1) f (c : Int) (worstR T[c]) (by omega) (by omega) hI
     ·simp only [hlt, decide_false, Bool.false_eq_true, if_false]
      exact ih (c + 1) f (p : Int) (worstR (at_ K_Si T p)) (by omega) (by omega) (.inr ⟨p, p1, rfl, rfl⟩)
  ·have hw' : decide (worstR T[c] ≥ 0) = false := decide_eq_false hw
   simp only [hw', hw, decide_false, Bool.false_eq_true, if_false, false_and]
   exact ih (c + 1) f b l (by omega) (by omega) h3
theorem specBC_lim (d) (r) (h : G_specBest d = some r) : ∃ N, F_spec_BestCops N d = some r := by
 obtain ⟨⟨n, es, v⟩, k, _⟩ := d
 unfold G_specBest at h
 split at h
 ·rename_i ho
  have ho : okL es = true := ho
  have h := Option.some.inj h
  subst h
  refine ⟨1010, ?_⟩
  unfold F_spec_BestCops bestCB
  simp only [specField (g := (n, es, v)) ho, Option.bind_some]
  cases hf : fieldB (n, es, v) k with
  | false => simp only [Bool.not_false, if_true, Bool.false_eq_true, if_false]
  | true =>
   obtain ⟨hg, m, q, rfl, rfl, m1, m8, q1, q3⟩ := field_parts hf
   obtain ⟨h1, h2, _⟩ := game_spec (v := v) hg ho q3 () ()
   obtain ⟨s1, s2⟩ := tm_small (es := es) (v := v) m8 q3
   have hrc := tm_rc ((m : Int), es, v) q
   obtain ⟨t1, t2⟩ := rcB_parts hrc
   have hcl : (cfG ((m : Int), es, v) q).length ≤ 120 := confL_120 m8 q3
   have hrow : ∀ p, p < (tmG ((m : Int), es, v) q).length → (at_ K_Si (tmG ((m : Int), es, v) q) p).length ≤ 1000 := fun p hp => by
    rw [t2 p (by omega)]
    have : ((m : Int), es, v).1.toNat = m := Int.toNat_natCast m
    omega
   have hl := sb_l0 1010 (cfG ((m : Int), es, v) q, mvG ((m : Int), es, v) q, ballsL m es, ()) (tmG ((m : Int), es, v) q) (by omega) hrow (tmG ((m : Int), es, v) q).length 0 1010 (-1) 0 (by omega) (by omega) (.inl (by omega))
   have hI := bestRow_inv (tmG ((m : Int), es, v) q) (tmG ((m : Int), es, v) q).length 0 (-1) 0 (by omega) (.inl (by omega))
   simp only [Int.natCast_zero, List.drop_zero] at hl hI
   simp only [Bool.not_true, Bool.false_eq_true, if_false, h1, h2, Option.bind_some, hl, if_true, Int.toNat_natCast, bestOut]
   rcases hI with hI | ⟨p, p1, p2, p3⟩
   ·simp only [hI, decide_true, if_true]
   ·have hp : p < (cfG ((m : Int), es, v) q).length := by omega
    have hneg : ¬ ((p : Int) < 0) := by omega
    have hcp : (at_ K_Si (cfG ((m : Int), es, v) q) p).length ≤ 1000 := by
     have hm : at_ K_Si (cfG ((m : Int), es, v) q) p ∈ cfG ((m : Int), es, v) q := by
      have e : at_ K_Si (cfG ((m : Int), es, v) q) p = (cfG ((m : Int), es, v) q)[p] := at_get (e := K_Si) hp
      rw [e]
      exact List.getElem_mem hp
     rw [confL_len hm]
     omega
    simp only [p2, p3, hneg, decide_false, Bool.false_eq_true, if_false, idxIn_nat hp, if_true, Int.toNat_natCast, own_some _ hcp, Option.bind_some, idxIn_nat p1, worst_row8 (hrow p p1)]
    rw [at_getDS hp]
 ·cases h
theorem worstR_max : ∀ {l : List Int} {m : Int}, (∀ x ∈ l, 0 ≤ x) → worstL (fun z => z) l m = l.foldl (fun a b => if a < b then b else a) m := by
 intro l
 induction l with
 | nil => intro m _; rfl
 | cons a l ih =>
  intro m h
  have ha := h a (by simp)
  simp only [worstL, List.foldl_cons]
  rw [if_neg (by omega)]
  exact ih fun x hx => h x (by simp [hx])
theorem max_eq {l : List Int} (h : ∀ x ∈ l, 0 ≤ x) (h1 : 0 < l.length) : l.foldl (fun a b => if a < b then b else a) (l.headD 0) = worstR l := by
 unfold worstR
 rw [worstR_max h]
 cases l with
 | nil => simp at h1
 | cons a l =>
  have ha := h a (by simp)
  simp only [List.foldl_cons, List.headD_cons, Int.lt_irrefl, if_false]
  congr 1
  by_cases h0 : (0 : Int) < a
  ·rw [if_pos h0]
  ·rw [if_neg h0]
   omega
theorem has_neg {l : List Int} (h : ∀ x ∈ l, -1 ≤ x) : (hasL l (-1) = true → worstR l < 0) ∧ (hasL l (-1) = false → 0 ≤ worstR l ∧ ∀ x ∈ l, 0 ≤ x) := by
 unfold hasL worstR
 rcases worst_spec (fun z => z) l 0 with ⟨⟨x, hx, h1⟩, h2⟩ | ⟨h1, h2, h3⟩
 ·refine ⟨fun _ => by omega, fun hh => ?_⟩
  have := h x hx
  have e : x = -1 := by omega
  subst e
  have : (l.any fun z => z == -1) = true := List.any_eq_true.2 ⟨-1, hx, by simp⟩
  rw [hh] at this
  cases this
 ·refine ⟨fun hh => ?_, fun _ => ⟨h2, fun x hx => (h1 x hx).1⟩⟩
  obtain ⟨x, hx, h4⟩ := List.any_eq_true.1 hh
  have := (h1 x hx).1
  have e : x = -1 := by simpa using h4
  have : 0 ≤ x := this
  omega
theorem gb_l0 (N : Nat) (y : Cg) (T : Tab) (hT : T.length ≤ 1000) (hr : ∀ r ∈ T, 1 ≤ r.length ∧ r.length ≤ 1000 ∧ ∀ x ∈ r, -1 ≤ x) : ∀ (k c f : Nat) (b l : Int), c + k = T.length → k < f →
  impl_copGame_best_l0 N f (y, b, l, T, (T.length : Int), (c : Int), ()) = some (.inl (y, (bestRow (T.drop c) (c : Int) b l).1, (bestRow (T.drop c) (c : Int) b l).2, ())) := by
 intro k
 induction k with
 | zero =>
  intro c f b l h1 h2
  obtain ⟨f, rfl⟩ : ∃ m, f = m + 1 := ⟨f - 1, by omega⟩
  have e : c = T.length := by omega
  subst e
  rw [List.drop_of_length_le (Nat.le_refl _)]
  show impl_copGame_best_l0_r _ _ _ = _
  unfold impl_copGame_best_l0_r
  simp only [lt_not, Bool.false_eq_true, if_false, bestRow]
 | succ k ih =>
  intro c f b l h1 h2
  obtain ⟨f, rfl⟩ : ∃ m, f = m + 1 := ⟨f - 1, by omega⟩
  have hc : c < T.length := by omega
  have ec : at_ K_Si T c = T[c] := at_get (e := K_Si) hc
  obtain ⟨r1, r2, r3⟩ := hr _ (List.getElem_mem hc)
  obtain ⟨n1, n2⟩ := has_neg r3
  have e1 : ((c : Int) + 1) = ((c + 1 : Nat) : Int) := rfl
  have hok : okL T[c] = true := okL_of (by omega)
  rw [List.drop_eq_getElem_cons hc]
  show impl_copGame_best_l0_r _ _ _ = _
  unfold impl_copGame_best_l0_r
  simp only [lt_dec hc, if_true, idxIn_nat hc, Int.toNat_natCast, ec, has2 hok, Option.bind_some, small_wrap (show c ≤ 100000 by omega), bestRow]
  simp only [e1]
  cases hh : hasL T[c] (-1) with
  | true =>
   have hw : ¬ 0 ≤ worstR T[c] := by have := n1 hh; omega
   simp only [if_true, hw, if_false, false_and]
   exact ih (c + 1) f b l (by omega) (by omega)
  | false =>
   obtain ⟨hw, hall⟩ := n2 hh
   have hmx : G_max (T[c], ()) = some (worstR T[c], ()) := by
    unfold G_max
    have a1 : decide (0 < T[c].length) = true := decide_eq_true (by omega)
    simp only [hok, a1, Bool.and_self, if_true]
    rw [max_eq hall (by omega)]
   simp only [Bool.false_eq_true, if_false, hmx, Option.bind_some, hw, true_and]
   by_cases hb : b < 0
   ·simp only [hb, decide_true, if_true, true_or]
    exact ih (c + 1) f (c : Int) (worstR T[c]) (by omega) (by omega)
   ·by_cases hlt : worstR T[c] < l
    ·simp only [hb, hlt, decide_true, decide_false, Bool.false_eq_true, if_true, if_false, or_true]
     exact ih (c + 1) f (c : Int) (worstR T[c]) (by omega) (by omega)
    ·simp only [hb, hlt, decide_false, Bool.false_eq_true, if_false, or_self]
     exact ih (c + 1) f b l (by omega) (by omega)
theorem gameBest_lim (d) (r) (h : G_copBest d = some r) : ∃ N, F_impl_copGame_best N d = some r := by
 obtain ⟨⟨⟨l, v⟩, cf, mv, T, u⟩, _⟩ := d
 unfold G_copBest at h
 split at h
 ·rename_i hc
  rw [Bool.and_eq_true] at hc
  obtain ⟨hcg, hlow⟩ := hc
  have hlow : lowB T = true := hlow
  obtain ⟨c1, c2, c3, c4⟩ := cgB_parts hcg
  obtain ⟨g1, g2, g3, g4⟩ := gmB_parts c3
  obtain ⟨p1, p2, p3, p4⟩ := netB_parts c1
  obtain ⟨t1, t2⟩ := rcB_parts c4
  have h := Option.some.inj h
  subst h
  have hr : ∀ r ∈ T, 1 ≤ r.length ∧ r.length ≤ 1000 ∧ ∀ x ∈ r, -1 ≤ x := fun r hr => by
   unfold rcB at c4
   simp only [Bool.and_eq_true, decide_eq_true_eq, List.all_eq_true] at c4
   have h1 := c4.2 r hr
   refine ⟨by omega, by omega, fun x hx => ?_⟩
   unfold lowB at hlow
   exact of_decide_eq_true (List.all_eq_true.1 (List.all_eq_true.1 hlow r hr) x hx)
  have hl := gb_l0 1010 ((l, v), cf, mv, T, u) T (by omega) hr T.length 0 1010 (-1) 0 (by omega) (by omega)
  have hI := bestRow_inv T T.length 0 (-1) 0 (by omega) (.inl (by omega))
  simp only [Int.natCast_zero, List.drop_zero] at hl hI
  refine ⟨1010, ?_⟩
  unfold F_impl_copGame_best bestOut
  simp only [hl, Option.bind_some]
  rcases hI with hI | ⟨p, p1, p2, p3⟩
  ·simp only [hI, decide_true, if_true]
  ·have hp : p < cf.length := by omega
   have hneg : ¬ ((p : Int) < 0) := by omega
   have hok : okL (at_ K_Si cf p) = true := okL_of (by have := (g3 p hp).1; omega)
   rw [at_getDS hp] at hok
   simp only [p2, hneg, decide_false, Bool.false_eq_true, if_false, idxIn_nat hp, if_true, Int.toNat_natCast, at_getDS hp, G_toIntS, hok, Option.bind_some]
 ·cases h
theorem low_tabM {m n : Nat} {f : Nat → Nat → Int} (h : ∀ c x, c < m → x < n → -1 ≤ f c x) : lowB (tabM m n f) = true := by
 unfold lowB tabM
 simp only [List.all_map, List.all_eq_true, Function.comp, List.mem_range, decide_eq_true_eq]
 intro c hc x hx
 exact h c x hc hx
theorem low_tab2 {m n : Nat} {T : Tab} (hT : rcB m n T = true) (h : lowB T = true) {c x : Nat} (hc : c < m) (hx : x < n) : -1 ≤ tab2 T (c : Int) (x : Int) := by
 obtain ⟨t1, t2⟩ := rcB_parts hT
 have hlt : c < T.length := by omega
 have ec : at_ K_Si T c = T[c] := at_get (e := K_Si) hlt
 have hl := t2 c hc
 rw [ec] at hl
 have ex : at_ I T[c] x = T[c][x] := at_get (e := I) (by omega)
 rw [← tab2_rc hT hc hx, ec, ex]
 unfold lowB at h
 exact of_decide_eq_true (List.all_eq_true.1 (List.all_eq_true.1 h _ (List.getElem_mem hlt)) _ (List.getElem_mem (by omega)))
theorem gameT_low {cf mv : List (List Int)} {ball : Int → List Int} {n : Nat} : ∀ (k : Nat) (t : Int) (T : Tab), 0 ≤ t → rcB cf.length n T = true → lowB T = true → lowB (gameT cf mv ball n k t T) = true := by
 intro k
 induction k with
 | zero => intro t T _ _ h; exact h
 | succ k ih =>
  intro t T ht h h2
  unfold gameT
  split
  ·refine ih _ _ (by omega) (rc_tabM _ _ _) (low_tabM fun c x hc hx => ?_)
   split
   ·omega
   ·exact low_tab2 h h2 hc hx
  ·exact h2
theorem tm_low (g : Gr) (k : Nat) : lowB (tmG g k) = true := gameT_low _ _ _ (by omega) (rc_tabM _ _ _) (low_tabM fun c x _ _ => by split <;> omega)
theorem implBC {n : Int} {es : List E} {v : Unit} (ho : okL es = true) (k : Int) (u : Unit) : F_impl_BestCops 0 ((n, es, v), k, u) = some (bestCB (n, es, v) k) := by
 unfold F_impl_BestCops bestCB
 simp only [implField (g := (n, es, v)) ho]
 cases h : fieldB (n, es, v) k with
 | false => simp only [Option.bind_some, Bool.not_false, if_true, Bool.false_eq_true, if_false]
 | true =>
  obtain ⟨hg, m, q, rfl, rfl, m1, m8, q1, q3⟩ := field_parts h
  obtain ⟨h1, h2⟩ := game_impl (v := v) hg ho m1 q3 ()
  have h3 : G_copBest (((toI (netN m es), ()), cfG ((m : Int), es, v) q, mvG ((m : Int), es, v) q, tmG ((m : Int), es, v) q, ()), ()) = some (bestOut (cfG ((m : Int), es, v) q) (bestRow (tmG ((m : Int), es, v) q) 0 (-1) 0)) := by
   unfold G_copBest
   simp only [h2, tm_low, Bool.and_self, if_true]
  simp only [Option.bind_some, Bool.not_true, Bool.false_eq_true, if_false, net_some hg ho, h1, h3, if_true, Int.toNat_natCast]
theorem best_small {g : Gr} {k : Int} : (bestCB g k).1.length ≤ 3 := by
 unfold bestCB
 split
 ·rename_i hb
  obtain ⟨n, es, v⟩ := g
  obtain ⟨hg, m, q, rfl, rfl, m1, m8, q1, q3⟩ := field_parts hb
  unfold bestOut
  split
  ·simp
  ·simp only [Int.toNat_natCast]
   rw [List.getD_eq_getElem?_getD]
   cases hi : (cfG ((m : Int), es, v) q)[(bestRow (tmG ((m : Int), es, v) q) 0 (-1) 0).1.toNat]? with
   | none => simp
   | some r =>
    have := confL_len (List.mem_of_getElem? hi)
    simp only [Option.getD_some]
    omega
 ·simp
theorem law44 : ∀ d, WfD (Kd.tuple ([(K_PiSPiiqq, false), (I, false)].map (·.1))) d → ∃ out, F_laws_FnExactBestCops 0 d = some out ∧ (splitT [.bool] [] out).1.1 = true := by
 rintro ⟨⟨n, es, v⟩, k, w⟩ ⟨⟨_, he, _⟩, _⟩
 have he : es.length ≤ maxLen := he.1
 refine ⟨(true, ()), ?_, rfl⟩
 unfold F_laws_FnExactBestCops
 simp only [szGraph_eq n es v 1048576 () (by omega) (by omega) he]
 by_cases h : szStep 1048576 es.length < 0
 ·simp only [h, decide_true, if_true]
 ·have h1 := szStep_le h
  have ho := okL_of (l := es) (by omega)
  have hlen := best_small (g := (n, es, ())) (k := k)
  have ho2 : okL (bestCB (n, es, ()) k).1 = true := okL_of (by omega)
  have hm1 := markGraph_eq n es () () 1 ho (by decide)
  have hk : okK 1 = true := by decide
  have hk1 : decide ((1 : Int) + 2 * (es.length : Int) < 0) = false := decide_eq_false (by omega)
  have hk2 : decide ((1 : Int) + ((bestCB (n, es, ()) k).1.length : Int) < 0) = false := decide_eq_false (by omega)
  simp only [h, decide_false, Bool.false_eq_true, if_false, toGraph_eq n es v _ ho, implBC ho, G_specBest, ho, G_eqIntS, ho2, eqGraph_self n es () () _ ho, Option.bind_some, hm1, hk1, G_markIntS, G_heldIntS, hk, Bool.and_self, markL_ok ho2, held_markL, hk2, beq_self_eq_true, bne_self_eq_false, Bool.not_true, if_true, decide_true]
end Go.V.W
set_option linter.unusedVariables false
set_option linter.unusedSimpArgs false
namespace Go.V.W
open Go.Proofs
structure TimI (cf mv : List (List Int)) (ball : Int → List Int) (n : Nat) (T : Tab) : Prop where
 caught : ∀ c x : Nat, c < cf.length → x < n → hasL (cf.getD c []) (x : Int) = true → tab2 T (c : Int) (x : Int) = 0
 some : ∀ c x : Nat, c < cf.length → x < n → 0 ≤ tab2 T (c : Int) (x : Int) → hasL (cf.getD c []) (x : Int) = true ∨ (1 ≤ tab2 T (c : Int) (x : Int) ∧ ∃ d ∈ mv.getD c [], 0 ≤ afterG cf ball T d (x : Int))
end Go.V.W
set_option linter.unusedVariables false
set_option linter.unusedSimpArgs false
namespace Go.V.W
open Go.Proofs
structure PlayI (m q : Nat) (es : List E) (v : Unit) : Prop where
 hg : graphB ((m : Int), es, v) = true
 ho : okL es = true
 m1 : 1 ≤ m
 m8 : m ≤ 8
 q3 : q ≤ 3
end Go.V.W
set_option linter.unusedVariables false
set_option linter.unusedSimpArgs false
namespace Go.V.W
open Go.Proofs
theorem at_l {e : Kd} {l : List e.den} {i : Nat} (h : i < l.length) : at_ e l i = l[i] := at_get h
end Go.V.W
set_option linter.unusedVariables false
set_option linter.unusedSimpArgs false
namespace Go.V.W
structure Inv3 (p n : Nat) (ball : Nat → Int → List Int) (f : Nat → Nat → Nat → Int) : Prop where
 low : ∀ r c q, -1 ≤ f r c q
 home : ∀ r c, f r c c = 0
 away : ∀ r c q, c ≠ q → f r c q ≠ 0
 why : ∀ r c q, r < p → c < n → q < n → 0 ≤ f r c q → c = q ∨ ∃ b ∈ ball r (c : Int), 0 ≤ afterT (ball r) (tabL n (f ((r + 1) % p))) b (q : Int)
theorem Inv3.start (p n : Nat) (ball : Nat → Int → List Int) : Inv3 p n ball start3 := by
 refine ⟨fun r c q => ?_, fun r c => ?_, fun r c q h => ?_, fun r c q _ _ _ h => ?_⟩
 ·unfold start3 startF; split <;> omega
 ·unfold start3 startF; simp
 ·unfold start3 startF; rw [if_neg h]; omega
 ·unfold start3 startF at h
  by_cases e : c = q
  ·exact .inl e
  ·rw [if_neg e] at h; omega
def okBalls (p n : Nat) (ball : Nat → Int → List Int) : Prop := ∀ r, r < p → okBall n (ball r)
theorem after_mono {n : Nat} {ball : Int → List Int} (hb : okBall n ball) {f g : Nat → Nat → Int} (h : ∀ c q, 0 ≤ f c q → 0 ≤ g c q) {b q : Nat} (hbn : b < n) (hq : q < n) (h0 : 0 ≤ afterT ball (tabL n f) (b : Int) (q : Int)) : 0 ≤ afterT ball (tabL n g) (b : Int) (q : Int) := by
 unfold afterT at h0 ⊢
 by_cases e : (b : Int) = (q : Int)
 ·rw [if_pos e]; exact Int.le_refl _
 ·rw [if_neg e] at h0 ⊢
  rcases worst_spec (tab2 (tabL n f) (b : Int)) (ball (q : Int)) 0 with ⟨_, h1⟩ | ⟨h1, _, _⟩
  ·omega
  ·rcases worst_spec (tab2 (tabL n g) (b : Int)) (ball (q : Int)) 0 with ⟨⟨x, hx, h2⟩, _⟩ | ⟨_, h2, _⟩
   ·exfalso
    obtain ⟨y, hy, rfl⟩ := hb q hq x hx
    have := (h1 _ hx).1
    rw [tab2_tabL _ hbn hy] at this h2
    have := h _ _ this
    omega
   ·exact h2
theorem Inv3.next {p n : Nat} {ball : Nat → Int → List Int} (hb : okBalls p n ball) {t : Int} (ht : 1 ≤ t) {f : Nat → Nat → Nat → Int} (hI : Inv3 p n ball f) : Inv3 p n ball (step3 p n ball t f) := by
 have hkeep : ∀ r c q, 0 ≤ f r c q → step3 p n ball t f r c q = f r c q := fun r c q h => by
  unfold step3 can3
  have : decide (f r c q < 0) = false := by simp; omega
  simp [this]
 have hge : ∀ r c q, 0 ≤ f r c q → 0 ≤ step3 p n ball t f r c q := fun r c q h => by rw [hkeep r c q h]; exact h
 refine ⟨fun r c q => ?_, fun r c => ?_, fun r c q h => ?_, fun r c q hr hc hq h => ?_⟩
 ·unfold step3; split
  ·omega
  ·exact hI.low r c q
 ·rw [hkeep r c c (by rw [hI.home]; exact Int.le_refl _)]; exact hI.home r c
 ·unfold step3; split
  ·omega
  ·exact hI.away r c q h
 ·have key : (∃ b ∈ ball r (c : Int), 0 ≤ afterT (ball r) (tabL n (f ((r + 1) % p))) b (q : Int)) → ∃ b ∈ ball r (c : Int), 0 ≤ afterT (ball r) (tabL n (step3 p n ball t f ((r + 1) % p))) b (q : Int) := by
   rintro ⟨b, hbm, h1⟩
   obtain ⟨y, hy, rfl⟩ := hb r hr c hc b hbm
   exact ⟨_, hbm, after_mono (hb r hr) (hge _) hy hq h1⟩
  by_cases hf : 0 ≤ f r c q
  ·exact (hI.why r c q hr hc hq hf).imp _root_.id key
  ·right
   have hcan : can3 p n ball f r c q = true := by
    cases hcan : can3 p n ball f r c q with
    | true => rfl
    | false => unfold step3 at h; rw [if_neg (by rw [hcan]; simp)] at h; exact absurd h hf
   unfold can3 at hcan
   simp only [Bool.and_eq_true, List.any_eq_true, decide_eq_true_eq] at hcan
   exact key hcan.2
end Go.V.W
set_option linter.unusedVariables false
set_option linter.unusedSimpArgs false
namespace Go.V.W
open Go.Proofs
structure TT (nets : List Nt) (p n : Nat) : Prop where
 ok : netsB n nets = true
 len : nets.length = p
 n8 : n ≤ 8
end Go.V.W
set_option linter.unusedVariables false
set_option linter.unusedSimpArgs false
namespace Go.V.W
open Go.Proofs
theorem l4Worst_lim (d) (r) (h : G_l4Worst d = some r) : ∃ N, F_spec_l4Worst N d = some r := by
 obtain ⟨l, _⟩ := d
 unfold G_l4Worst at h
 split at h
 ·rename_i hl
  have hmx := lim_max (okL_lim hl)
  have h := Option.some.inj h
  subst h
  have key : ∀ (k i f : Nat) (m : Int), i + k = l.length → k < f → spec_l4Worst_l0 (l.length + 1) f (l, m, (i : Int), ()) = some (.inl (worstL (fun z => z) (l.drop i) m, ())) ∨ spec_l4Worst_l0 (l.length + 1) f (l, m, (i : Int), ()) = some (.inr (.inl (worstL (fun z => z) (l.drop i) m, ()))) := by
   intro k
   induction k with
   | zero =>
    intro i f m h1 h2
    obtain ⟨f, rfl⟩ : ∃ z, f = z + 1 := ⟨f - 1, by omega⟩
    have e : i = l.length := by omega
    subst e
    rw [List.drop_of_length_le (Nat.le_refl _)]
    right
    simp [spec_l4Worst_l0, spec_l4Worst_l0_r, worstL]
   | succ k ih =>
    intro i f m h1 h2
    obtain ⟨f, rfl⟩ : ∃ z, f = z + 1 := ⟨f - 1, by omega⟩
    have hi : i < l.length := by omega
    have step : spec_l4Worst_l0 (l.length + 1) (f + 1) (l, m, (i : Int), ()) = if l[i] < 0 then some (.inl (-1, ())) else spec_l4Worst_l0 (l.length + 1) f (l, (if m < l[i] then l[i] else m), ((i + 1 : Nat) : Int), ()) := by
     show spec_l4Worst_l0_r (l.length + 1) (spec_l4Worst_l0 (l.length + 1) f) _ = _
     unfold spec_l4Worst_l0_r
     simp only [lt_dec hi, if_true, idxIn_nat hi, Int.toNat_natCast, at_l (e := I) hi, most_eq, wrap_up hi hmx]
     by_cases h : l[i] < 0
     ·simp only [h, decide_true, if_true]
     ·simp only [h, decide_false, Bool.false_eq_true, if_false]
    rw [step, List.drop_eq_getElem_cons hi]
    simp only [worstL]
    by_cases h : l[i] < 0
    ·rw [if_pos h, if_pos h]
     exact .inl rfl
    ·rw [if_neg h, if_neg h]
     exact ih (i + 1) f _ (by omega) (by omega)
  refine ⟨l.length + 1, ?_⟩
  unfold F_spec_l4Worst
  have := key l.length 0 (l.length + 1) 0 (by omega) (by omega)
  simp only [Int.natCast_zero, List.drop_zero] at this
  rcases this with h | h <;> simp only [h, Option.bind_some]
 ·cases h
theorem max_lim (d) (r) (h : G_max d = some r) : ∃ N, F_slices_Max_Sint_int N d = some r := by
 obtain ⟨l, _⟩ := d
 unfold G_max at h
 split at h
 ·rename_i hc
  simp only [Bool.and_eq_true, decide_eq_true_eq] at hc
  obtain ⟨hl, h0⟩ := hc
  have h0 : 0 < l.length := h0
  have hmx := lim_max (okL_lim hl)
  have h := Option.some.inj h
  subst h
  have key : ∀ (k i f : Nat) (m : Int), i + k = l.length → k < f → slices_Max_Sint_int_l0 (l.length + 1) f (l, m, (i : Int), ()) = some (.inl ((l.drop i).foldl (fun a b => if a < b then b else a) m, ())) := by
   intro k
   induction k with
   | zero =>
    intro i f m h1 h2
    obtain ⟨f, rfl⟩ : ∃ z, f = z + 1 := ⟨f - 1, by omega⟩
    have e : i = l.length := by omega
    subst e
    rw [List.drop_of_length_le (Nat.le_refl _)]
    simp [slices_Max_Sint_int_l0, slices_Max_Sint_int_l0_r]
   | succ k ih =>
    intro i f m h1 h2
    obtain ⟨f, rfl⟩ : ∃ z, f = z + 1 := ⟨f - 1, by omega⟩
    have hi : i < l.length := by omega
    show slices_Max_Sint_int_l0_r (l.length + 1) (slices_Max_Sint_int_l0 (l.length + 1) f) _ = _
    unfold slices_Max_Sint_int_l0_r
    rw [List.drop_eq_getElem_cons hi]
    simp only [lt_dec hi, if_true, idxIn_nat hi, Int.toNat_natCast, at_l (e := I) hi, wrap_up hi hmx, List.foldl_cons]
    exact ih (i + 1) f _ (by omega) (by omega)
  refine ⟨l.length + 1, ?_⟩
  unfold F_slices_Max_Sint_int
  have h1 : decide ((l.length : Int) < 1) = false := by simp; omega
  have i0 : idxIn (0 : Int) l.length = true := idxIn_nat h0
  have z0 : (0 : Int).toNat = 0 := rfl
  have := key (l.length - 1) 1 (l.length + 1) l[0] (by omega) (by omega)
  simp only [Int.natCast_one] at this
  simp only [h1, Bool.false_eq_true, if_false, i0, if_true, z0, at_l (e := I) h0, this, Option.bind_some]
  cases l with
  | nil => simp at h0
  | cons a l => simp
 ·cases h
end Go.V.W
set_option linter.unusedVariables false
set_option linter.unusedSimpArgs false
namespace Go.V.W
open Go.Proofs
structure LogIs (d p : List UInt8) (c : Int) : Prop where
 size : d.length + p.length ≤ 30000
 all : (openL 60 0 (d ++ p)).2 = (d ++ p).length
 durable : (openL 60 0 d).2 = d.length
 count : ((openL 60 0 (d ++ p)).1.length : Int) = c
end Go.V.W
namespace Go.V.W
open Go.Proofs Go.Shelf Go.RowKit
-- import Derived.Shelf.Lays
-- import Derived.Shelf.LaysM
-- import Derived.Test.XvLib3
-- import Derived.Shelf.SortM.Plain
-- import Derived.Shelf.SortM.SortNone
-- import Derived.Shelf.SlSortCmp.NoneTotal
def layg5_ren : Go.Shelf.Ren :=
{
  f := fun x =>
    match x with
    | 5 => 121
    | 8 => 133
    | 7 => 132
    | 19 => 147
    | 20 => 148
    | 10 => 139
    | 11 => 140
    | 12 => 141
    | 13 => 142
    | 14 => 143
    | 15 => 144
    | 16 => 129
    | 17 => 145
    | 18 => 146
    | 30 => 157
    | 31 => 158
    | 32 => 159
    | 33 => 160
    | 34 => 161
    | 35 => 138
    | 40 => 165
    | n => n,
  t := fun x =>
    match x with
    | 23 => 37
    | 25 => 3
    | 3 => 3
    | 32 => 114
    | 22 => 37
    | 0 => 0
    | 44 => 122
    | 46 => 125
    | 4 => 4
    | 36 => 131
    | 35 => 130
    | 41 => 44
    | 5 => 5
    | 9 => 9
    | 53 => 142
    | 57 => 146
    | 63 => 150
    | 64 => 151
    | n => n,
  g := fun x =>
    x }
set_option maxRecDepth 1000000 in
theorem layg5 : Go.Proofs.SlLaysM.n5 Go.Proofs.Tryz.prog layg5_ren :=
{ mixed := by kernel_rfl,
  f5 := ⟨Go.Proofs.Tryz.f121.name, of_decide_eq_true (by kernel_rfl), (Go.Proofs.Tryz.func121).trans (congrArg some (by kernel_rfl))⟩,
  f7 := ⟨Go.Proofs.Tryz.f132.name, of_decide_eq_true (by kernel_rfl), (Go.Proofs.Tryz.func132).trans (congrArg some (by kernel_rfl))⟩,
  f8 := (Go.Proofs.Tryz.func133).trans (congrArg some (by kernel_rfl)),
  f10 := ⟨Go.Proofs.Tryz.f139.name, of_decide_eq_true (by kernel_rfl), (Go.Proofs.Tryz.func139).trans (congrArg some (by kernel_rfl))⟩,
  f11 := ⟨Go.Proofs.Tryz.f140.name, of_decide_eq_true (by kernel_rfl), (Go.Proofs.Tryz.func140).trans (congrArg some (by kernel_rfl))⟩,
  f12 := ⟨Go.Proofs.Tryz.f141.name, of_decide_eq_true (by kernel_rfl), (Go.Proofs.Tryz.func141).trans (congrArg some (by kernel_rfl))⟩,
  f13 := ⟨Go.Proofs.Tryz.f142.name, of_decide_eq_true (by kernel_rfl), (Go.Proofs.Tryz.func142).trans (congrArg some (by kernel_rfl))⟩,
  f14 := ⟨Go.Proofs.Tryz.f143.name, of_decide_eq_true (by kernel_rfl), (Go.Proofs.Tryz.func143).trans (congrArg some (by kernel_rfl))⟩,
  f15 := ⟨Go.Proofs.Tryz.f144.name, of_decide_eq_true (by kernel_rfl), (Go.Proofs.Tryz.func144).trans (congrArg some (by kernel_rfl))⟩,
  f16 := ⟨Go.Proofs.Tryz.f129.name, of_decide_eq_true (by kernel_rfl), (Go.Proofs.Tryz.func129).trans (congrArg some (by kernel_rfl))⟩,
  f17 := ⟨Go.Proofs.Tryz.f145.name, of_decide_eq_true (by kernel_rfl), (Go.Proofs.Tryz.func145).trans (congrArg some (by kernel_rfl))⟩,
  f18 := ⟨Go.Proofs.Tryz.f146.name, of_decide_eq_true (by kernel_rfl), (Go.Proofs.Tryz.func146).trans (congrArg some (by kernel_rfl))⟩,
  f19 := (Go.Proofs.Tryz.func147).trans (congrArg some (by kernel_rfl)),
  f20 := (Go.Proofs.Tryz.func148).trans (congrArg some (by kernel_rfl)),
  f30 := ⟨Go.Proofs.Tryz.f157.name, of_decide_eq_true (by kernel_rfl), (Go.Proofs.Tryz.func157).trans (congrArg some (by kernel_rfl))⟩,
  f31 := (Go.Proofs.Tryz.func158).trans (congrArg some (by kernel_rfl)),
  f32 := (Go.Proofs.Tryz.func159).trans (congrArg some (by kernel_rfl)),
  f33 := ⟨Go.Proofs.Tryz.f160.name, of_decide_eq_true (by kernel_rfl), (Go.Proofs.Tryz.func160).trans (congrArg some (by kernel_rfl))⟩,
  f34 := ⟨Go.Proofs.Tryz.f161.name, of_decide_eq_true (by kernel_rfl), (Go.Proofs.Tryz.func161).trans (congrArg some (by kernel_rfl))⟩,
  f35 := ⟨Go.Proofs.Tryz.f138.name, of_decide_eq_true (by kernel_rfl), (Go.Proofs.Tryz.func138).trans (congrArg some (by kernel_rfl))⟩,
  f40 := ⟨Go.Proofs.Tryz.f165.name, of_decide_eq_true (by kernel_rfl), (Go.Proofs.Tryz.func165).trans (congrArg some (by kernel_rfl))⟩,
  t0 := Go.Proofs.Tryz.underlying0,
  a0 := Go.Proofs.Tryz.isAgg0,
  z0 := Go.Proofs.Tryz.sizeOf0,
  v0 := Go.Proofs.Tryz.zeroValue0,
  t3 := Go.Proofs.Tryz.underlying3,
  a3 := Go.Proofs.Tryz.isAgg3,
  z3 := Go.Proofs.Tryz.sizeOf3,
  v3 := Go.Proofs.Tryz.zeroValue3,
  t4 := Go.Proofs.Tryz.underlying4,
  a4 := Go.Proofs.Tryz.isAgg4,
  z4 := Go.Proofs.Tryz.sizeOf4,
  v4 := Go.Proofs.Tryz.zeroValue4,
  t5 := Go.Proofs.Tryz.underlying5,
  a5 := Go.Proofs.Tryz.isAgg5,
  z5 := Go.Proofs.Tryz.sizeOf5,
  v5 := Go.Proofs.Tryz.zeroValue5,
  t9 := Go.Proofs.Tryz.underlying9,
  a9 := Go.Proofs.Tryz.isAgg9,
  z9 := Go.Proofs.Tryz.sizeOf9,
  v9 := Go.Proofs.Tryz.zeroValue9,
  t22 := Go.Proofs.Tryz.underlying37,
  a22 := Go.Proofs.Tryz.isAgg37,
  z22 := Go.Proofs.Tryz.sizeOf37,
  v22 := Go.Proofs.Tryz.zeroValue37,
  t23 := Go.Proofs.Tryz.underlying37,
  a23 := Go.Proofs.Tryz.isAgg37,
  z23 := Go.Proofs.Tryz.sizeOf37,
  v23 := Go.Proofs.Tryz.zeroValue37,
  t25 := Go.Proofs.Tryz.underlying3,
  a25 := Go.Proofs.Tryz.isAgg3,
  z25 := Go.Proofs.Tryz.sizeOf3,
  v25 := Go.Proofs.Tryz.zeroValue3,
  t32 := Go.Proofs.Tryz.underlying114,
  a32 := Go.Proofs.Tryz.isAgg114,
  z32 := Go.Proofs.Tryz.sizeOf114,
  v32 := Go.Proofs.Tryz.zeroValue114,
  t35 := Go.Proofs.Tryz.underlying130,
  a35 := Go.Proofs.Tryz.isAgg130,
  z35 := Go.Proofs.Tryz.sizeOf130,
  v35 := Go.Proofs.Tryz.zeroValue130,
  t36 := Go.Proofs.Tryz.underlying131,
  a36 := Go.Proofs.Tryz.isAgg131,
  z36 := Go.Proofs.Tryz.sizeOf131,
  v36 := Go.Proofs.Tryz.zeroValue131,
  t41 := Go.Proofs.Tryz.underlying44,
  a41 := Go.Proofs.Tryz.isAgg44,
  z41 := Go.Proofs.Tryz.sizeOf44,
  v41 := Go.Proofs.Tryz.zeroValue44,
  t44 := Go.Proofs.Tryz.underlying122,
  a44 := Go.Proofs.Tryz.isAgg122,
  z44 := Go.Proofs.Tryz.sizeOf122,
  v44 := Go.Proofs.Tryz.zeroValue122,
  t46 := Go.Proofs.Tryz.underlying125,
  a46 := Go.Proofs.Tryz.isAgg125,
  z46 := Go.Proofs.Tryz.sizeOf125,
  v46 := Go.Proofs.Tryz.zeroValue125,
  t53 := Go.Proofs.Tryz.underlying142,
  a53 := Go.Proofs.Tryz.isAgg142,
  z53 := Go.Proofs.Tryz.sizeOf142,
  v53 := Go.Proofs.Tryz.zeroValue142,
  t57 := Go.Proofs.Tryz.underlying146,
  a57 := Go.Proofs.Tryz.isAgg146,
  z57 := Go.Proofs.Tryz.sizeOf146,
  v57 := Go.Proofs.Tryz.zeroValue146,
  t63 := Go.Proofs.Tryz.underlying150,
  a63 := Go.Proofs.Tryz.isAgg150,
  z63 := Go.Proofs.Tryz.sizeOf150,
  v63 := Go.Proofs.Tryz.zeroValue150,
  t64 := Go.Proofs.Tryz.underlying151,
  a64 := Go.Proofs.Tryz.isAgg151,
  z64 := Go.Proofs.Tryz.sizeOf151,
  v64 := Go.Proofs.Tryz.zeroValue151 }
def layg6_ren : Go.Shelf.Ren :=
{
  f := fun x =>
    match x with
    | 6 => 122
    | 15 => 133
    | 14 => 134
    | 28 => 147
    | 29 => 148
    | 20 => 149
    | 21 => 150
    | 22 => 151
    | 23 => 152
    | 24 => 153
    | 25 => 154
    | 26 => 155
    | 27 => 156
    | 46 => 162
    | 47 => 158
    | 48 => 159
    | 49 => 163
    | 50 => 164
    | 57 => 166
    | n => n,
  t := fun x =>
    match x with
    | 22 => 25
    | 24 => 37
    | 25 => 105
    | 3 => 3
    | 39 => 114
    | 0 => 0
    | 53 => 122
    | 55 => 125
    | 4 => 4
    | 46 => 131
    | 45 => 130
    | 50 => 44
    | 5 => 5
    | 9 => 9
    | 66 => 142
    | 70 => 146
    | 76 => 150
    | 77 => 151
    | n => n,
  g := fun x =>
    x }
set_option maxRecDepth 1000000 in
theorem layg6 : Go.Proofs.SlLaysF.n6 Go.Proofs.Tryz.prog layg6_ren :=
{ mixed := by kernel_rfl,
  f6 := ⟨Go.Proofs.Tryz.f122.name, of_decide_eq_true (by kernel_rfl), (Go.Proofs.Tryz.func122).trans (congrArg some (by kernel_rfl))⟩,
  f14 := ⟨Go.Proofs.Tryz.f134.name, of_decide_eq_true (by kernel_rfl), (Go.Proofs.Tryz.func134).trans (congrArg some (by kernel_rfl))⟩,
  f15 := (Go.Proofs.Tryz.func133).trans (congrArg some (by kernel_rfl)),
  f20 := ⟨Go.Proofs.Tryz.f149.name, of_decide_eq_true (by kernel_rfl), (Go.Proofs.Tryz.func149).trans (congrArg some (by kernel_rfl))⟩,
  f21 := ⟨Go.Proofs.Tryz.f150.name, of_decide_eq_true (by kernel_rfl), (Go.Proofs.Tryz.func150).trans (congrArg some (by kernel_rfl))⟩,
  f22 := ⟨Go.Proofs.Tryz.f151.name, of_decide_eq_true (by kernel_rfl), (Go.Proofs.Tryz.func151).trans (congrArg some (by kernel_rfl))⟩,
  f23 := ⟨Go.Proofs.Tryz.f152.name, of_decide_eq_true (by kernel_rfl), (Go.Proofs.Tryz.func152).trans (congrArg some (by kernel_rfl))⟩,
  f24 := ⟨Go.Proofs.Tryz.f153.name, of_decide_eq_true (by kernel_rfl), (Go.Proofs.Tryz.func153).trans (congrArg some (by kernel_rfl))⟩,
  f25 := ⟨Go.Proofs.Tryz.f154.name, of_decide_eq_true (by kernel_rfl), (Go.Proofs.Tryz.func154).trans (congrArg some (by kernel_rfl))⟩,
  f26 := ⟨Go.Proofs.Tryz.f155.name, of_decide_eq_true (by kernel_rfl), (Go.Proofs.Tryz.func155).trans (congrArg some (by kernel_rfl))⟩,
  f27 := ⟨Go.Proofs.Tryz.f156.name, of_decide_eq_true (by kernel_rfl), (Go.Proofs.Tryz.func156).trans (congrArg some (by kernel_rfl))⟩,
  f28 := (Go.Proofs.Tryz.func147).trans (congrArg some (by kernel_rfl)),
  f29 := (Go.Proofs.Tryz.func148).trans (congrArg some (by kernel_rfl)),
  f46 := ⟨Go.Proofs.Tryz.f162.name, of_decide_eq_true (by kernel_rfl), (Go.Proofs.Tryz.func162).trans (congrArg some (by kernel_rfl))⟩,
  f47 := (Go.Proofs.Tryz.func158).trans (congrArg some (by kernel_rfl)),
  f48 := (Go.Proofs.Tryz.func159).trans (congrArg some (by kernel_rfl)),
  f49 := ⟨Go.Proofs.Tryz.f163.name, of_decide_eq_true (by kernel_rfl), (Go.Proofs.Tryz.func163).trans (congrArg some (by kernel_rfl))⟩,
  f50 := ⟨Go.Proofs.Tryz.f164.name, of_decide_eq_true (by kernel_rfl), (Go.Proofs.Tryz.func164).trans (congrArg some (by kernel_rfl))⟩,
  f57 := ⟨Go.Proofs.Tryz.f166.name, of_decide_eq_true (by kernel_rfl), (Go.Proofs.Tryz.func166).trans (congrArg some (by kernel_rfl))⟩,
  t0 := Go.Proofs.Tryz.underlying0,
  a0 := Go.Proofs.Tryz.isAgg0,
  z0 := Go.Proofs.Tryz.sizeOf0,
  v0 := Go.Proofs.Tryz.zeroValue0,
  t3 := Go.Proofs.Tryz.underlying3,
  a3 := Go.Proofs.Tryz.isAgg3,
  z3 := Go.Proofs.Tryz.sizeOf3,
  v3 := Go.Proofs.Tryz.zeroValue3,
  t4 := Go.Proofs.Tryz.underlying4,
  a4 := Go.Proofs.Tryz.isAgg4,
  z4 := Go.Proofs.Tryz.sizeOf4,
  v4 := Go.Proofs.Tryz.zeroValue4,
  t5 := Go.Proofs.Tryz.underlying5,
  a5 := Go.Proofs.Tryz.isAgg5,
  z5 := Go.Proofs.Tryz.sizeOf5,
  v5 := Go.Proofs.Tryz.zeroValue5,
  t9 := Go.Proofs.Tryz.underlying9,
  a9 := Go.Proofs.Tryz.isAgg9,
  z9 := Go.Proofs.Tryz.sizeOf9,
  v9 := Go.Proofs.Tryz.zeroValue9,
  t22 := Go.Proofs.Tryz.underlying25,
  a22 := Go.Proofs.Tryz.isAgg25,
  z22 := Go.Proofs.Tryz.sizeOf25,
  v22 := Go.Proofs.Tryz.zeroValue25,
  a24 := Go.Proofs.Tryz.isAgg37,
  z24 := Go.Proofs.Tryz.sizeOf37,
  t25 := Go.Proofs.Tryz.underlying105,
  a25 := Go.Proofs.Tryz.isAgg105,
  z25 := Go.Proofs.Tryz.sizeOf105,
  v25 := Go.Proofs.Tryz.zeroValue105,
  t39 := Go.Proofs.Tryz.underlying114,
  a39 := Go.Proofs.Tryz.isAgg114,
  z39 := Go.Proofs.Tryz.sizeOf114,
  v39 := Go.Proofs.Tryz.zeroValue114,
  t45 := Go.Proofs.Tryz.underlying130,
  a45 := Go.Proofs.Tryz.isAgg130,
  z45 := Go.Proofs.Tryz.sizeOf130,
  v45 := Go.Proofs.Tryz.zeroValue130,
  t46 := Go.Proofs.Tryz.underlying131,
  a46 := Go.Proofs.Tryz.isAgg131,
  z46 := Go.Proofs.Tryz.sizeOf131,
  v46 := Go.Proofs.Tryz.zeroValue131,
  t50 := Go.Proofs.Tryz.underlying44,
  a50 := Go.Proofs.Tryz.isAgg44,
  z50 := Go.Proofs.Tryz.sizeOf44,
  v50 := Go.Proofs.Tryz.zeroValue44,
  t53 := Go.Proofs.Tryz.underlying122,
  a53 := Go.Proofs.Tryz.isAgg122,
  z53 := Go.Proofs.Tryz.sizeOf122,
  v53 := Go.Proofs.Tryz.zeroValue122,
  t55 := Go.Proofs.Tryz.underlying125,
  a55 := Go.Proofs.Tryz.isAgg125,
  z55 := Go.Proofs.Tryz.sizeOf125,
  v55 := Go.Proofs.Tryz.zeroValue125,
  t66 := Go.Proofs.Tryz.underlying142,
  a66 := Go.Proofs.Tryz.isAgg142,
  z66 := Go.Proofs.Tryz.sizeOf142,
  v66 := Go.Proofs.Tryz.zeroValue142,
  t70 := Go.Proofs.Tryz.underlying146,
  a70 := Go.Proofs.Tryz.isAgg146,
  z70 := Go.Proofs.Tryz.sizeOf146,
  v70 := Go.Proofs.Tryz.zeroValue146,
  t76 := Go.Proofs.Tryz.underlying150,
  a76 := Go.Proofs.Tryz.isAgg150,
  z76 := Go.Proofs.Tryz.sizeOf150,
  v76 := Go.Proofs.Tryz.zeroValue150,
  t77 := Go.Proofs.Tryz.underlying151,
  a77 := Go.Proofs.Tryz.isAgg151,
  z77 := Go.Proofs.Tryz.sizeOf151,
  v77 := Go.Proofs.Tryz.zeroValue151 }
theorem tab : TabOk Tryz.prog (assoc tks) (assoc ars) := tab_of (by kernel_rfl)
theorem mixed : Tryz.prog.follows .mixedOrders = true := by kernel_rfl
theorem C_slices_SortFunc_SSint_Sint_by_slices_Compare_Sint_int : Contract Tryz.prog 122 S_slices_SortFunc_SSint_Sint_by_slices_Compare_Sint_int :=
  con_sortF (enters_of Tryz.func122 (by kernel_rfl) rfl) (fun w v1 v2 xs ys h1 h2 l1 l2 => cmpH h1 h2 l1 l2) (fun n enc cf blk off cap w h1 hO hcmp hH hb hs => Any.slices_SortFunc layg6 enc h1 cf hO 113 #[] blk off cap (idA n) w (enters_of Tryz.func113 (by kernel_rfl) rfl) hcmp hH hb hs) (AnyF.slices_SortFunc_none { layg6 with })
theorem C_slices_Sort_Sint_int : Contract Tryz.prog 121 S_slices_Sort_Sint_int :=
  con_sortI (enters_of Tryz.func121 (by kernel_rfl) rfl) (fun blk off cap zs w h1 h2 h3 => AnyM.slices_Sort_int layg5 blk off cap zs w h1 h2 h3) (fun p cap w => AnyM.slices_Sort_int_none layg5 p cap w)
theorem C_laws_szIntA2S_raw (N : Nat) : Contract Tryz.prog 43 ⟨[(K_SPiiq, false), (I, false)], [I], true, F_laws_szIntA2S N⟩ :=
  have E : Env Tryz.prog Γ_laws_szIntA2S := env_of tab trivial
  con_of (Pc := []) E rfl mixed Tryz.func43 (by kernel_rfl) (by kernel_rfl) (by kernel_rfl) (by kernel_rfl) (fun A hA => trivial) (F_laws_szIntA2S_ok N)
theorem C_laws_szIntA2S : Contract Tryz.prog 43 S_laws_szIntA2S := Contract.less (fun N : Nat => F_laws_szIntA2S N) C_laws_szIntA2S_raw (fun d r h => ⟨0, (F_laws_szIntA2S_tot 0 d).trans h⟩)
theorem C_laws_szGraph_raw (N : Nat) : Contract Tryz.prog 12 ⟨[(K_PiSPiiqq, false), (I, false)], [I], true, F_laws_szGraph N⟩ :=
  have E : Env Tryz.prog Γ_laws_szGraph := env_of tab ⟨C_laws_szIntA2S, trivial⟩
  con_of (Pc := []) E rfl mixed Tryz.func12 (by kernel_rfl) (by kernel_rfl) (by kernel_rfl) (by kernel_rfl) (fun A hA => trivial) (F_laws_szGraph_ok N)
theorem C_laws_szGraph : Contract Tryz.prog 12 S_laws_szGraph := Contract.less (fun N : Nat => F_laws_szGraph N) C_laws_szGraph_raw (fun d r h => ⟨0, (F_laws_szGraph_tot 0 d).trans h⟩)
theorem C_laws_toIntA2_raw (N : Nat) : Contract Tryz.prog 87 ⟨[(K_Piiq, false)], [K_Piiq], true, F_laws_toIntA2 N⟩ :=
  have E : Env Tryz.prog Γ_laws_toIntA2 := env_of tab trivial
  con_of (Pc := [(0, ⟨laws_toIntA2_l0_h, laws_toIntA2_l0_o, laws_toIntA2_l0 N N⟩)]) E rfl mixed Tryz.func87 (by kernel_rfl) (by kernel_rfl) (by kernel_rfl) (by kernel_rfl) (fun A hA => ⟨pc_of (inner := []) E mixed hA (by kernel_rfl) (by kernel_rfl) (by kernel_rfl) trivial (fun _ => rfl) (fun m d => (laws_toIntA2_l0_ok N (laws_toIntA2_l0 N m) d).symm) N, trivial⟩) (F_laws_toIntA2_ok N)
theorem C_laws_toIntA2 : Contract Tryz.prog 87 S_laws_toIntA2 := Contract.less (fun N : Nat => F_laws_toIntA2 N) C_laws_toIntA2_raw toIntA2_lim
theorem C_laws_toIntA2S_raw (N : Nat) : Contract Tryz.prog 48 ⟨[(K_SPiiq, false)], [K_SPiiq], true, F_laws_toIntA2S N⟩ :=
  have E : Env Tryz.prog Γ_laws_toIntA2S := env_of tab ⟨C_laws_toIntA2, trivial⟩
  con_of (Pc := [(0, ⟨laws_toIntA2S_l0_h, laws_toIntA2S_l0_o, laws_toIntA2S_l0 N N⟩)]) E rfl mixed Tryz.func48 (by kernel_rfl) (by kernel_rfl) (by kernel_rfl) (by kernel_rfl) (fun A hA => ⟨pc_of (inner := []) E mixed hA (by kernel_rfl) (by kernel_rfl) (by kernel_rfl) trivial (fun _ => rfl) (fun m d => (laws_toIntA2S_l0_ok N (laws_toIntA2S_l0 N m) d).symm) N, trivial⟩) (F_laws_toIntA2S_ok N)
theorem C_laws_toIntA2S : Contract Tryz.prog 48 S_laws_toIntA2S := Contract.less (fun N : Nat => F_laws_toIntA2S N) C_laws_toIntA2S_raw toIntA2S_lim
theorem C_laws_toGraph_raw (N : Nat) : Contract Tryz.prog 15 ⟨[(K_PiSPiiqq, false)], [K_PiSPiiqq], true, F_laws_toGraph N⟩ :=
  have E : Env Tryz.prog Γ_laws_toGraph := env_of tab ⟨C_laws_toIntA2S, trivial⟩
  con_of (Pc := []) E rfl mixed Tryz.func15 (by kernel_rfl) (by kernel_rfl) (by kernel_rfl) (by kernel_rfl) (fun A hA => trivial) (F_laws_toGraph_ok N)
theorem C_laws_toGraph : Contract Tryz.prog 15 S_laws_toGraph := C_laws_toGraph_raw 0
theorem C_spec_l1In_raw (N : Nat) : Contract Tryz.prog 77 ⟨[(I, false), (I, false), (I, false)], [.bool], true, F_spec_l1In N⟩ :=
  have E : Env Tryz.prog Γ_spec_l1In := env_of tab trivial
  con_of (Pc := []) E rfl mixed Tryz.func77 (by kernel_rfl) (by kernel_rfl) (by kernel_rfl) (by kernel_rfl) (fun A hA => trivial) (F_spec_l1In_ok N)
theorem C_spec_l1In : Contract Tryz.prog 77 S_spec_l1In := Contract.less (fun N : Nat => F_spec_l1In N) C_spec_l1In_raw (fun d r h => ⟨0, (F_spec_l1In_tot 0 d).trans h⟩)
theorem C_spec_l2Before_raw (N : Nat) : Contract Tryz.prog 82 ⟨[(K_Piiq, false), (K_Piiq, false)], [.bool], true, F_spec_l2Before N⟩ :=
  have E : Env Tryz.prog Γ_spec_l2Before := env_of tab trivial
  con_of (Pc := []) E rfl mixed Tryz.func82 (by kernel_rfl) (by kernel_rfl) (by kernel_rfl) (by kernel_rfl) (fun A hA => trivial) (F_spec_l2Before_ok N)
theorem C_spec_l2Before : Contract Tryz.prog 82 S_spec_l2Before := Contract.less (fun N : Nat => F_spec_l2Before N) C_spec_l2Before_raw (fun d r h => ⟨0, (F_spec_l2Before_tot 0 d).trans h⟩)
theorem C_spec_l2Good_raw (N : Nat) : Contract Tryz.prog 45 ⟨[(K_PiSPiiqq, false)], [.bool], true, F_spec_l2Good N⟩ :=
  have E : Env Tryz.prog Γ_spec_l2Good := env_of tab ⟨C_spec_l1In, ⟨C_spec_l2Before, trivial⟩⟩
  con_of (Pc := [(0, ⟨spec_l2Good_l0_h, spec_l2Good_l0_o, spec_l2Good_l0 N N⟩)]) E rfl mixed Tryz.func45 (by kernel_rfl) (by kernel_rfl) (by kernel_rfl) (by kernel_rfl) (fun A hA => ⟨pc_of (inner := []) E mixed hA (by kernel_rfl) (by kernel_rfl) (by kernel_rfl) trivial (fun _ => rfl) (fun m d => (spec_l2Good_l0_ok N (spec_l2Good_l0 N m) d).symm) N, trivial⟩) (F_spec_l2Good_ok N)
theorem C_spec_l2Good : Contract Tryz.prog 45 S_spec_l2Good := Contract.less (fun N : Nat => F_spec_l2Good N) C_spec_l2Good_raw l2Good_lim
theorem C_spec_l4Field_raw (N : Nat) : Contract Tryz.prog 59 ⟨[(K_PiSPiiqq, false), (I, false)], [.bool], true, F_spec_l4Field N⟩ :=
  have E : Env Tryz.prog Γ_spec_l4Field := env_of tab ⟨C_spec_l2Good, ⟨C_spec_l1In, trivial⟩⟩
  con_of (Pc := []) E rfl mixed Tryz.func59 (by kernel_rfl) (by kernel_rfl) (by kernel_rfl) (by kernel_rfl) (fun A hA => trivial) (F_spec_l4Field_ok N)
theorem C_spec_l4Field : Contract Tryz.prog 59 S_spec_l4Field := C_spec_l4Field_raw 0
theorem C_spec_l1Own_raw (N : Nat) : Contract Tryz.prog 73 ⟨[(K_Si, false)], [K_Si], true, F_spec_l1Own N⟩ :=
  have E : Env Tryz.prog Γ_spec_l1Own := env_of tab trivial
  con_of (Pc := []) E rfl mixed Tryz.func73 (by kernel_rfl) (by kernel_rfl) (by kernel_rfl) (by kernel_rfl) (fun A hA => trivial) (F_spec_l1Own_ok N)
theorem C_spec_l1Own : Contract Tryz.prog 73 S_spec_l1Own := C_spec_l1Own_raw 0
theorem C_spec_l4Configs_raw (N : Nat) : Contract Tryz.prog 102 ⟨[(I, false), (I, false)], [K_SSi], true, F_spec_l4Configs N⟩ :=
  have E : Env Tryz.prog Γ_spec_l4Configs := env_of tab ⟨C_spec_l1Own, trivial⟩
  con_of (Pc := [(0, ⟨spec_l4Configs_l0_h, spec_l4Configs_l0_o, spec_l4Configs_l0 N N⟩)]) E rfl mixed Tryz.func102 (by kernel_rfl) (by kernel_rfl) (by kernel_rfl) (by kernel_rfl) (fun A hA => ⟨pc_of (inner := [(2, ⟨spec_l4Configs_l2_h, spec_l4Configs_l2_o, spec_l4Configs_l2 N N⟩)]) E mixed hA (by kernel_rfl) (by kernel_rfl) (by kernel_rfl) ⟨pc_of (inner := [(4, ⟨spec_l4Configs_l4_h, spec_l4Configs_l4_o, spec_l4Configs_l4 N N⟩)]) E mixed hA (by kernel_rfl) (by kernel_rfl) (by kernel_rfl) ⟨pc_of (inner := []) E mixed hA (by kernel_rfl) (by kernel_rfl) (by kernel_rfl) trivial (fun _ => rfl) (fun m d => (spec_l4Configs_l4_ok N (spec_l4Configs_l4 N m) d).symm) N, trivial⟩ (fun _ => rfl) (fun m d => (spec_l4Configs_l2_ok N (spec_l4Configs_l2 N m) d).symm) N, trivial⟩ (fun _ => rfl) (fun m d => (spec_l4Configs_l0_ok N (spec_l4Configs_l0 N m) d).symm) N, trivial⟩) (F_spec_l4Configs_ok N)
theorem C_spec_l4Configs : Contract Tryz.prog 102 S_spec_l4Configs := Contract.less (fun N : Nat => F_spec_l4Configs N) C_spec_l4Configs_raw l4Configs_lim
theorem C_spec_l2Near_raw (N : Nat) : Contract Tryz.prog 124 ⟨[(K_PiSPiiqq, false), (I, false), (I, false)], [.bool], true, F_spec_l2Near N⟩ :=
  have E : Env Tryz.prog Γ_spec_l2Near := env_of tab trivial
  con_of (Pc := [(0, ⟨spec_l2Near_l0_h, spec_l2Near_l0_o, spec_l2Near_l0 N N⟩)]) E rfl mixed Tryz.func124 (by kernel_rfl) (by kernel_rfl) (by kernel_rfl) (by kernel_rfl) (fun A hA => ⟨pc_of (inner := []) E mixed hA (by kernel_rfl) (by kernel_rfl) (by kernel_rfl) trivial (fun _ => rfl) (fun m d => (spec_l2Near_l0_ok N (spec_l2Near_l0 N m) d).symm) N, trivial⟩) (F_spec_l2Near_ok N)
theorem C_spec_l2Near : Contract Tryz.prog 124 S_spec_l2Near := Contract.less (fun N : Nat => F_spec_l2Near N) C_spec_l2Near_raw l2Near_lim
theorem C_spec_l2Neighbors_raw (N : Nat) : Contract Tryz.prog 98 ⟨[(K_PiSPiiqq, false), (I, false)], [K_Si], true, F_spec_l2Neighbors N⟩ :=
  have E : Env Tryz.prog Γ_spec_l2Neighbors := env_of tab ⟨C_spec_l2Near, trivial⟩
  con_of (Pc := [(0, ⟨spec_l2Neighbors_l0_h, spec_l2Neighbors_l0_o, spec_l2Neighbors_l0 N N⟩)]) E rfl mixed Tryz.func98 (by kernel_rfl) (by kernel_rfl) (by kernel_rfl) (by kernel_rfl) (fun A hA => ⟨pc_of (inner := []) E mixed hA (by kernel_rfl) (by kernel_rfl) (by kernel_rfl) trivial (fun _ => rfl) (fun m d => (spec_l2Neighbors_l0_ok N (spec_l2Neighbors_l0 N m) d).symm) N, trivial⟩) (F_spec_l2Neighbors_ok N)
theorem C_spec_l2Neighbors : Contract Tryz.prog 98 S_spec_l2Neighbors := Contract.less (fun N : Nat => F_spec_l2Neighbors N) C_spec_l2Neighbors_raw l2Neighbors_lim
theorem C_spec_l1Put_raw (N : Nat) : Contract Tryz.prog 97 ⟨[(K_Si, false), (I, false)], [K_Si], false, F_spec_l1Put N⟩ :=
  have E : Env Tryz.prog Γ_spec_l1Put := env_of tab trivial
  con_of (Pc := [(0, ⟨spec_l1Put_l0_h, spec_l1Put_l0_o, spec_l1Put_l0 N N⟩)]) E rfl mixed Tryz.func97 (by kernel_rfl) (by kernel_rfl) (by kernel_rfl) (by kernel_rfl) (fun A hA => ⟨pc_of (inner := []) E mixed hA (by kernel_rfl) (by kernel_rfl) (by kernel_rfl) trivial (fun _ => rfl) (fun m d => (spec_l1Put_l0_ok N (spec_l1Put_l0 N m) d).symm) N, trivial⟩) (F_spec_l1Put_ok N)
theorem C_spec_l1Put : Contract Tryz.prog 97 S_spec_l1Put := Contract.less (fun N : Nat => F_spec_l1Put N) C_spec_l1Put_raw l1Put_lim
theorem C_spec_l2Ball_raw (N : Nat) : Contract Tryz.prog 56 ⟨[(K_PiSPiiqq, false), (I, false)], [K_Si], false, F_spec_l2Ball N⟩ :=
  have E : Env Tryz.prog Γ_spec_l2Ball := env_of tab ⟨C_spec_l1Put, ⟨C_spec_l2Neighbors, trivial⟩⟩
  con_of (Pc := []) E rfl mixed Tryz.func56 (by kernel_rfl) (by kernel_rfl) (by kernel_rfl) (by kernel_rfl) (fun A hA => trivial) (F_spec_l2Ball_ok N)
theorem C_spec_l2Ball : Contract Tryz.prog 56 S_spec_l2Ball := C_spec_l2Ball_raw 0
theorem C_spec_l4Sorted_raw (N : Nat) : Contract Tryz.prog 118 ⟨[(K_Si, false)], [K_Si], false, F_spec_l4Sorted N⟩ :=
  have E : Env Tryz.prog Γ_spec_l4Sorted := env_ofV tab trivial trivial (fun _ h => by cases h)
  con_of (Pc := [(0, ⟨spec_l4Sorted_l0_h, spec_l4Sorted_l0_o, spec_l4Sorted_l0 N N⟩)]) E rfl mixed Tryz.func118 (by kernel_rfl) (by kernel_rfl) (by kernel_rfl) (by kernel_rfl) (fun A hA => ⟨pc_of (inner := [(2, ⟨spec_l4Sorted_l2_h, spec_l4Sorted_l2_o, spec_l4Sorted_l2 N N⟩)]) E mixed hA (by kernel_rfl) (by kernel_rfl) (by kernel_rfl) ⟨pc_of (inner := []) E mixed hA (by kernel_rfl) (by kernel_rfl) (by kernel_rfl) trivial (fun _ => rfl) (fun m d => (spec_l4Sorted_l2_ok N (spec_l4Sorted_l2 N m) d).symm) N, trivial⟩ (fun _ => rfl) (fun m d => (spec_l4Sorted_l0_ok N (spec_l4Sorted_l0 N m) d).symm) N, trivial⟩) (F_spec_l4Sorted_ok N)
theorem C_spec_l4Sorted : Contract Tryz.prog 118 S_spec_l4Sorted := Contract.less (fun N : Nat => F_spec_l4Sorted N) C_spec_l4Sorted_raw l4Sorted_lim
theorem C_spec_l4Less_raw (N : Nat) : Contract Tryz.prog 131 ⟨[(K_Si, false), (K_Si, false)], [.bool], true, F_spec_l4Less N⟩ :=
  have E : Env Tryz.prog Γ_spec_l4Less := env_of tab trivial
  con_of (Pc := [(0, ⟨spec_l4Less_l0_h, spec_l4Less_l0_o, spec_l4Less_l0 N N⟩)]) E rfl mixed Tryz.func131 (by kernel_rfl) (by kernel_rfl) (by kernel_rfl) (by kernel_rfl) (fun A hA => ⟨pc_of (inner := []) E mixed hA (by kernel_rfl) (by kernel_rfl) (by kernel_rfl) trivial (fun _ => rfl) (fun m d => (spec_l4Less_l0_ok N (spec_l4Less_l0 N m) d).symm) N, trivial⟩) (F_spec_l4Less_ok N)
theorem C_spec_l4Less : Contract Tryz.prog 131 S_spec_l4Less := Contract.less (fun N : Nat => F_spec_l4Less N) C_spec_l4Less_raw l4Less_lim
theorem C_spec_l1Same_raw (N : Nat) : Contract Tryz.prog 108 ⟨[(K_Si, false), (K_Si, false)], [.bool], true, F_spec_l1Same N⟩ :=
  have E : Env Tryz.prog Γ_spec_l1Same := env_of tab trivial
  con_of (Pc := [(0, ⟨spec_l1Same_l0_h, spec_l1Same_l0_o, spec_l1Same_l0 N N⟩)]) E rfl mixed Tryz.func108 (by kernel_rfl) (by kernel_rfl) (by kernel_rfl) (by kernel_rfl) (fun A hA => ⟨pc_of (inner := []) E mixed hA (by kernel_rfl) (by kernel_rfl) (by kernel_rfl) trivial (fun _ => rfl) (fun m d => (spec_l1Same_l0_ok N (spec_l1Same_l0 N m) d).symm) N, trivial⟩) (F_spec_l1Same_ok N)
theorem C_spec_l1Same : Contract Tryz.prog 108 S_spec_l1Same := Contract.less (fun N : Nat => F_spec_l1Same N) C_spec_l1Same_raw l1Same_lim
theorem C_spec_l4Put_raw (N : Nat) : Contract Tryz.prog 117 ⟨[(K_SSi, false), (K_Si, false)], [K_SSi], false, F_spec_l4Put N⟩ :=
  have E : Env Tryz.prog Γ_spec_l4Put := env_of tab ⟨C_spec_l1Same, ⟨C_spec_l4Less, trivial⟩⟩
  con_of (Pc := [(0, ⟨spec_l4Put_l0_h, spec_l4Put_l0_o, spec_l4Put_l0 N N⟩)]) E rfl mixed Tryz.func117 (by kernel_rfl) (by kernel_rfl) (by kernel_rfl) (by kernel_rfl) (fun A hA => ⟨pc_of (inner := []) E mixed hA (by kernel_rfl) (by kernel_rfl) (by kernel_rfl) trivial (fun _ => rfl) (fun m d => (spec_l4Put_l0_ok N (spec_l4Put_l0 N m) d).symm) N, trivial⟩) (F_spec_l4Put_ok N)
theorem C_spec_l4Put : Contract Tryz.prog 117 S_spec_l4Put := Contract.less (fun N : Nat => F_spec_l4Put N) C_spec_l4Put_raw l4Put_lim
theorem C_spec_l4Moves_raw (N : Nat) : Contract Tryz.prog 83 ⟨[(K_PiSPiiqq, false), (K_Si, false)], [K_SSi], false, F_spec_l4Moves N⟩ :=
  have E : Env Tryz.prog Γ_spec_l4Moves := env_ofV tab ⟨C_spec_l2Ball, ⟨C_spec_l1Own, ⟨C_spec_l4Put, ⟨C_spec_l4Sorted, trivial⟩⟩⟩⟩ trivial (fun _ h => by cases h)
  con_of (Pc := [(0, ⟨spec_l4Moves_l0_h, spec_l4Moves_l0_o, spec_l4Moves_l0 N N⟩), (6, ⟨spec_l4Moves_l6_h, spec_l4Moves_l6_o, spec_l4Moves_l6 N N⟩)]) E rfl mixed Tryz.func83 (by kernel_rfl) (by kernel_rfl) (by kernel_rfl) (by kernel_rfl) (fun A hA => ⟨pc_of (inner := [(2, ⟨spec_l4Moves_l2_h, spec_l4Moves_l2_o, spec_l4Moves_l2 N N⟩)]) E mixed hA (by kernel_rfl) (by kernel_rfl) (by kernel_rfl) ⟨pc_of (inner := [(4, ⟨spec_l4Moves_l4_h, spec_l4Moves_l4_o, spec_l4Moves_l4 N N⟩)]) E mixed hA (by kernel_rfl) (by kernel_rfl) (by kernel_rfl) ⟨pc_of (inner := []) E mixed hA (by kernel_rfl) (by kernel_rfl) (by kernel_rfl) trivial (fun _ => rfl) (fun m d => (spec_l4Moves_l4_ok N (spec_l4Moves_l4 N m) d).symm) N, trivial⟩ (fun _ => rfl) (fun m d => (spec_l4Moves_l2_ok N (spec_l4Moves_l2 N m) d).symm) N, trivial⟩ (fun _ => rfl) (fun m d => (spec_l4Moves_l0_ok N (spec_l4Moves_l0 N m) d).symm) N, ⟨pc_of (inner := []) E mixed hA (by kernel_rfl) (by kernel_rfl) (by kernel_rfl) trivial (fun _ => rfl) (fun m d => (spec_l4Moves_l6_ok N (spec_l4Moves_l6 N m) d).symm) N, trivial⟩⟩) (F_spec_l4Moves_ok N)
theorem C_spec_l4Moves : Contract Tryz.prog 83 S_spec_l4Moves := Contract.less (fun N : Nat => F_spec_l4Moves N) C_spec_l4Moves_raw l4Moves_lim
theorem C_spec_l4At_raw (N : Nat) : Contract Tryz.prog 66 ⟨[(K_SSi, false), (K_Si, false)], [I], true, F_spec_l4At N⟩ :=
  have E : Env Tryz.prog Γ_spec_l4At := env_of tab ⟨C_spec_l1Same, trivial⟩
  con_of (Pc := [(0, ⟨spec_l4At_l0_h, spec_l4At_l0_o, spec_l4At_l0 N N⟩)]) E rfl mixed Tryz.func66 (by kernel_rfl) (by kernel_rfl) (by kernel_rfl) (by kernel_rfl) (fun A hA => ⟨pc_of (inner := []) E mixed hA (by kernel_rfl) (by kernel_rfl) (by kernel_rfl) trivial (fun _ => rfl) (fun m d => (spec_l4At_l0_ok N (spec_l4At_l0 N m) d).symm) N, trivial⟩) (F_spec_l4At_ok N)
theorem C_spec_l4At : Contract Tryz.prog 66 S_spec_l4At := Contract.less (fun N : Nat => F_spec_l4At N) C_spec_l4At_raw l4At_lim
theorem C_spec_l4Make_raw (N : Nat) : Contract Tryz.prog 61 ⟨[(K_PiSPiiqq, false), (I, false)], [K_PZSiSSiSSiq], false, F_spec_l4Make N⟩ :=
  have E : Env Tryz.prog Γ_spec_l4Make := env_ofG tab ⟨C_spec_l2Ball, ⟨C_spec_l4At, ⟨C_spec_l4Moves, ⟨C_spec_l4Configs, trivial⟩⟩⟩⟩ trivial (fun _ h => by cases h) trivial (by kernel_rfl)
  con_of (Pc := [(0, ⟨spec_l4Make_l0_h, spec_l4Make_l0_o, spec_l4Make_l0 N N⟩), (4, ⟨spec_l4Make_l4_h, spec_l4Make_l4_o, spec_l4Make_l4 N N⟩)]) E rfl mixed Tryz.func61 (by kernel_rfl) (by kernel_rfl) (by kernel_rfl) (by kernel_rfl) (fun A hA => ⟨pc_of (inner := [(2, ⟨spec_l4Make_l2_h, spec_l4Make_l2_o, spec_l4Make_l2 N N⟩)]) E mixed hA (by kernel_rfl) (by kernel_rfl) (by kernel_rfl) ⟨pc_of (inner := []) E mixed hA (by kernel_rfl) (by kernel_rfl) (by kernel_rfl) trivial (fun _ => rfl) (fun m d => (spec_l4Make_l2_ok N (spec_l4Make_l2 N m) d).symm) N, trivial⟩ (fun _ => rfl) (fun m d => (spec_l4Make_l0_ok N (spec_l4Make_l0 N m) d).symm) N, ⟨pc_of (inner := []) E mixed hA (by kernel_rfl) (by kernel_rfl) (by kernel_rfl) trivial (fun _ => rfl) (fun m d => (spec_l4Make_l4_ok N (spec_l4Make_l4 N m) d).symm) N, trivial⟩⟩) (F_spec_l4Make_ok N)
theorem C_spec_l4Make : Contract Tryz.prog 61 S_spec_l4Make := Contract.less (fun N : Nat => F_spec_l4Make N) C_spec_l4Make_raw l4Make_lim
theorem C_spec_l1Has_raw (N : Nat) : Contract Tryz.prog 57 ⟨[(K_Si, false), (I, false)], [.bool], true, F_spec_l1Has N⟩ :=
  have E : Env Tryz.prog Γ_spec_l1Has := env_of tab trivial
  con_of (Pc := [(0, ⟨spec_l1Has_l0_h, spec_l1Has_l0_o, spec_l1Has_l0 N N⟩)]) E rfl mixed Tryz.func57 (by kernel_rfl) (by kernel_rfl) (by kernel_rfl) (by kernel_rfl) (fun A hA => ⟨pc_of (inner := []) E mixed hA (by kernel_rfl) (by kernel_rfl) (by kernel_rfl) trivial (fun _ => rfl) (fun m d => (spec_l1Has_l0_ok N (spec_l1Has_l0 N m) d).symm) N, trivial⟩) (F_spec_l1Has_ok N)
theorem C_spec_l1Has : Contract Tryz.prog 57 S_spec_l1Has := Contract.less (fun N : Nat => F_spec_l1Has N) C_spec_l1Has_raw l1Has_lim
theorem C_spec_l1Most_raw (N : Nat) : Contract Tryz.prog 114 ⟨[(I, false), (I, false)], [I], true, F_spec_l1Most N⟩ :=
  have E : Env Tryz.prog Γ_spec_l1Most := env_of tab trivial
  con_of (Pc := []) E rfl mixed Tryz.func114 (by kernel_rfl) (by kernel_rfl) (by kernel_rfl) (by kernel_rfl) (fun A hA => trivial) (F_spec_l1Most_ok N)
theorem C_spec_l1Most : Contract Tryz.prog 114 S_spec_l1Most := Contract.less (fun N : Nat => F_spec_l1Most N) C_spec_l1Most_raw (fun d r h => ⟨0, (F_spec_l1Most_tot 0 d).trans h⟩)
theorem C_spec_l4After_raw (N : Nat) : Contract Tryz.prog 101 ⟨[(K_PZSiSSiSSiq, false), (K_SSi, false), (I, false), (I, false)], [I], true, F_spec_l4After N⟩ :=
  have E : Env Tryz.prog Γ_spec_l4After := env_of tab ⟨C_spec_l1Has, ⟨C_spec_l1Most, trivial⟩⟩
  con_of (Pc := [(0, ⟨spec_l4After_l0_h, spec_l4After_l0_o, spec_l4After_l0 N N⟩)]) E rfl mixed Tryz.func101 (by kernel_rfl) (by kernel_rfl) (by kernel_rfl) (by kernel_rfl) (fun A hA => ⟨pc_of (inner := []) E mixed hA (by kernel_rfl) (by kernel_rfl) (by kernel_rfl) trivial (fun _ => rfl) (fun m d => (spec_l4After_l0_ok N (spec_l4After_l0 N m) d).symm) N, trivial⟩) (F_spec_l4After_ok N)
theorem C_spec_l4After : Contract Tryz.prog 101 S_spec_l4After := Contract.less (fun N : Nat => F_spec_l4After N) C_spec_l4After_raw l4After_lim
theorem C_spec_l4Times_raw (N : Nat) : Contract Tryz.prog 60 ⟨[(K_PZSiSSiSSiq, false)], [K_SSi], true, F_spec_l4Times N⟩ :=
  have E : Env Tryz.prog Γ_spec_l4Times := env_of tab ⟨C_spec_l1Has, ⟨C_spec_l1Own, ⟨C_spec_l4After, trivial⟩⟩⟩
  con_of (Pc := [(0, ⟨spec_l4Times_l0_h, spec_l4Times_l0_o, spec_l4Times_l0 N N⟩), (4, ⟨spec_l4Times_l4_h, spec_l4Times_l4_o, spec_l4Times_l4 N N⟩)]) E rfl mixed Tryz.func60 (by kernel_rfl) (by kernel_rfl) (by kernel_rfl) (by kernel_rfl) (fun A hA => ⟨pc_of (inner := [(2, ⟨spec_l4Times_l2_h, spec_l4Times_l2_o, spec_l4Times_l2 N N⟩)]) E mixed hA (by kernel_rfl) (by kernel_rfl) (by kernel_rfl) ⟨pc_of (inner := []) E mixed hA (by kernel_rfl) (by kernel_rfl) (by kernel_rfl) trivial (fun _ => rfl) (fun m d => (spec_l4Times_l2_ok N (spec_l4Times_l2 N m) d).symm) N, trivial⟩ (fun _ => rfl) (fun m d => (spec_l4Times_l0_ok N (spec_l4Times_l0 N m) d).symm) N, ⟨pc_of (inner := [(6, ⟨spec_l4Times_l6_h, spec_l4Times_l6_o, spec_l4Times_l6 N N⟩)]) E mixed hA (by kernel_rfl) (by kernel_rfl) (by kernel_rfl) ⟨pc_of (inner := [(8, ⟨spec_l4Times_l8_h, spec_l4Times_l8_o, spec_l4Times_l8 N N⟩)]) E mixed hA (by kernel_rfl) (by kernel_rfl) (by kernel_rfl) ⟨pc_of (inner := [(10, ⟨spec_l4Times_l10_h, spec_l4Times_l10_o, spec_l4Times_l10 N N⟩)]) E mixed hA (by kernel_rfl) (by kernel_rfl) (by kernel_rfl) ⟨pc_of (inner := []) E mixed hA (by kernel_rfl) (by kernel_rfl) (by kernel_rfl) trivial (fun _ => rfl) (fun m d => (spec_l4Times_l10_ok N (spec_l4Times_l10 N m) d).symm) N, trivial⟩ (fun _ => rfl) (fun m d => (spec_l4Times_l8_ok N (spec_l4Times_l8 N m) d).symm) N, trivial⟩ (fun _ => rfl) (fun m d => (spec_l4Times_l6_ok N (spec_l4Times_l6 N m) d).symm) N, trivial⟩ (fun _ => rfl) (fun m d => (spec_l4Times_l4_ok N (spec_l4Times_l4 N m) d).symm) N, trivial⟩⟩) (F_spec_l4Times_ok N)
theorem C_spec_l4Times : Contract Tryz.prog 60 S_spec_l4Times := Contract.less (fun N : Nat => F_spec_l4Times N) C_spec_l4Times_raw l4Times_lim
theorem C_spec_l4Worst_raw (N : Nat) : Contract Tryz.prog 72 ⟨[(K_Si, false)], [I], true, F_spec_l4Worst N⟩ :=
  have E : Env Tryz.prog Γ_spec_l4Worst := env_of tab ⟨C_spec_l1Most, trivial⟩
  con_of (Pc := [(0, ⟨spec_l4Worst_l0_h, spec_l4Worst_l0_o, spec_l4Worst_l0 N N⟩)]) E rfl mixed Tryz.func72 (by kernel_rfl) (by kernel_rfl) (by kernel_rfl) (by kernel_rfl) (fun A hA => ⟨pc_of (inner := []) E mixed hA (by kernel_rfl) (by kernel_rfl) (by kernel_rfl) trivial (fun _ => rfl) (fun m d => (spec_l4Worst_l0_ok N (spec_l4Worst_l0 N m) d).symm) N, trivial⟩) (F_spec_l4Worst_ok N)
theorem C_spec_l4Worst : Contract Tryz.prog 72 S_spec_l4Worst := Contract.less (fun N : Nat => F_spec_l4Worst N) C_spec_l4Worst_raw l4Worst_lim
theorem C_spec_BestCops_raw (N : Nat) : Contract Tryz.prog 33 ⟨[(K_PiSPiiqq, false), (I, false)], [K_Si, I, .bool], true, F_spec_BestCops N⟩ :=
  have E : Env Tryz.prog Γ_spec_BestCops := env_of tab ⟨C_spec_l4Field, ⟨C_spec_l4Times, ⟨C_spec_l4Make, ⟨C_spec_l4Worst, ⟨C_spec_l1Own, trivial⟩⟩⟩⟩⟩
  con_of (Pc := [(0, ⟨spec_BestCops_l0_h, spec_BestCops_l0_o, spec_BestCops_l0 N N⟩)]) E rfl mixed Tryz.func33 (by kernel_rfl) (by kernel_rfl) (by kernel_rfl) (by kernel_rfl) (fun A hA => ⟨pc_of (inner := []) E mixed hA (by kernel_rfl) (by kernel_rfl) (by kernel_rfl) trivial (fun _ => rfl) (fun m d => (spec_BestCops_l0_ok N (spec_BestCops_l0 N m) d).symm) N, trivial⟩) (F_spec_BestCops_ok N)
theorem C_spec_BestCops : Contract Tryz.prog 33 S_spec_BestCops := Contract.less (fun N : Nat => F_spec_BestCops N) C_spec_BestCops_raw specBC_lim
theorem C_impl_within_raw (N : Nat) : Contract Tryz.prog 78 ⟨[(I, false), (I, false), (I, false)], [.bool], true, F_impl_within N⟩ :=
  have E : Env Tryz.prog Γ_impl_within := env_of tab trivial
  con_of (Pc := []) E rfl mixed Tryz.func78 (by kernel_rfl) (by kernel_rfl) (by kernel_rfl) (by kernel_rfl) (fun A hA => trivial) (F_impl_within_ok N)
theorem C_impl_within : Contract Tryz.prog 78 S_impl_within := Contract.less (fun N : Nat => F_impl_within N) C_impl_within_raw (fun d r h => ⟨0, (F_impl_within_tot 0 d).trans h⟩)
theorem C_cmp_isNaN_int_raw (N : Nat) : Contract Tryz.prog 138 ⟨[(I, false)], [.bool], true, F_cmp_isNaN_int N⟩ :=
  have E : Env Tryz.prog Γ_cmp_isNaN_int := env_of tab trivial
  con_of (Pc := []) E rfl mixed Tryz.func138 (by kernel_rfl) (by kernel_rfl) (by kernel_rfl) (by kernel_rfl) (fun A hA => trivial) (F_cmp_isNaN_int_ok N)
theorem C_cmp_isNaN_int : Contract Tryz.prog 138 S_cmp_isNaN_int := Contract.less (fun N : Nat => F_cmp_isNaN_int N) C_cmp_isNaN_int_raw (fun d r h => ⟨0, (F_cmp_isNaN_int_tot 0 d).trans h⟩)
theorem C_cmp_Compare_int_raw (N : Nat) : Contract Tryz.prog 130 ⟨[(I, false), (I, false)], [I], true, F_cmp_Compare_int N⟩ :=
  have E : Env Tryz.prog Γ_cmp_Compare_int := env_of tab ⟨C_cmp_isNaN_int, trivial⟩
  con_of (Pc := []) E rfl mixed Tryz.func130 (by kernel_rfl) (by kernel_rfl) (by kernel_rfl) (by kernel_rfl) (fun A hA => trivial) (F_cmp_Compare_int_ok N)
theorem C_cmp_Compare_int : Contract Tryz.prog 130 S_cmp_Compare_int := Contract.less (fun N : Nat => F_cmp_Compare_int N) C_cmp_Compare_int_raw (fun d r h => ⟨0, (F_cmp_Compare_int_tot 0 d).trans h⟩)
theorem C_slices_Compare_Sint_int_raw (N : Nat) : Contract Tryz.prog 113 ⟨[(K_Si, false), (K_Si, false)], [I], true, F_slices_Compare_Sint_int N⟩ :=
  have E : Env Tryz.prog Γ_slices_Compare_Sint_int := env_of tab ⟨C_cmp_Compare_int, trivial⟩
  con_of (Pc := [(0, ⟨slices_Compare_Sint_int_l0_h, slices_Compare_Sint_int_l0_o, slices_Compare_Sint_int_l0 N N⟩)]) E rfl mixed Tryz.func113 (by kernel_rfl) (by kernel_rfl) (by kernel_rfl) (by kernel_rfl) (fun A hA => ⟨pc_of (inner := []) E mixed hA (by kernel_rfl) (by kernel_rfl) (by kernel_rfl) trivial (fun _ => rfl) (fun m d => (slices_Compare_Sint_int_l0_ok N (slices_Compare_Sint_int_l0 N m) d).symm) N, trivial⟩) (F_slices_Compare_Sint_int_ok N)
theorem C_slices_Compare_Sint_int : Contract Tryz.prog 113 S_slices_Compare_Sint_int := Contract.less (fun N : Nat => F_slices_Compare_Sint_int N) C_slices_Compare_Sint_int_raw compare_lim
theorem C_impl_IsGraph_raw (N : Nat) : Contract Tryz.prog 88 ⟨[(K_PiSPiiqq, false)], [.bool], true, F_impl_IsGraph N⟩ :=
  have E : Env Tryz.prog Γ_impl_IsGraph := env_of tab ⟨C_impl_within, ⟨C_slices_Compare_Sint_int, trivial⟩⟩
  con_of (Pc := [(0, ⟨impl_IsGraph_l0_h, impl_IsGraph_l0_o, impl_IsGraph_l0 N N⟩)]) E rfl mixed Tryz.func88 (by kernel_rfl) (by kernel_rfl) (by kernel_rfl) (by kernel_rfl) (fun A hA => ⟨pc_of (inner := []) E mixed hA (by kernel_rfl) (by kernel_rfl) (by kernel_rfl) trivial (fun _ => rfl) (fun m d => (impl_IsGraph_l0_ok N (impl_IsGraph_l0 N m) d).symm) N, trivial⟩) (F_impl_IsGraph_ok N)
theorem C_impl_IsGraph : Contract Tryz.prog 88 S_impl_IsGraph := Contract.less (fun N : Nat => F_impl_IsGraph N) C_impl_IsGraph_raw IsGraph_lim
theorem C_impl_isCopGame_raw (N : Nat) : Contract Tryz.prog 62 ⟨[(K_PiSPiiqq, false), (I, false)], [.bool], true, F_impl_isCopGame N⟩ :=
  have E : Env Tryz.prog Γ_impl_isCopGame := env_of tab ⟨C_impl_within, ⟨C_impl_IsGraph, trivial⟩⟩
  con_of (Pc := []) E rfl mixed Tryz.func62 (by kernel_rfl) (by kernel_rfl) (by kernel_rfl) (by kernel_rfl) (fun A hA => trivial) (F_impl_isCopGame_ok N)
theorem C_impl_isCopGame : Contract Tryz.prog 62 S_impl_isCopGame := C_impl_isCopGame_raw 0
theorem C_impl_netOf_raw (N : Nat) : Contract Tryz.prog 50 ⟨[(K_PiSPiiqq, false)], [K_PSiq], true, F_impl_netOf N⟩ :=
  have E : Env Tryz.prog Γ_impl_netOf := env_of tab trivial
  con_of (Pc := [(0, ⟨impl_netOf_l0_h, impl_netOf_l0_o, impl_netOf_l0 N N⟩)]) E rfl mixed Tryz.func50 (by kernel_rfl) (by kernel_rfl) (by kernel_rfl) (by kernel_rfl) (fun A hA => ⟨pc_of (inner := []) E mixed hA (by kernel_rfl) (by kernel_rfl) (by kernel_rfl) trivial (fun _ => rfl) (fun m d => (impl_netOf_l0_ok N (impl_netOf_l0 N m) d).symm) N, trivial⟩) (F_impl_netOf_ok N)
theorem C_impl_netOf : Contract Tryz.prog 50 S_impl_netOf := Contract.less (fun N : Nat => F_impl_netOf N) C_impl_netOf_raw netOf_lim
theorem C_impl_net_size_raw (N : Nat) : Contract Tryz.prog 105 ⟨[(K_PSiq, false)], [I], true, F_impl_net_size N⟩ :=
  have E : Env Tryz.prog Γ_impl_net_size := env_of tab trivial
  con_of (Pc := []) E rfl mixed Tryz.func105 (by kernel_rfl) (by kernel_rfl) (by kernel_rfl) (by kernel_rfl) (fun A hA => trivial) (F_impl_net_size_ok N)
theorem C_impl_net_size : Contract Tryz.prog 105 S_impl_net_size := Contract.less (fun N : Nat => F_impl_net_size N) C_impl_net_size_raw (fun d r h => ⟨0, (F_impl_net_size_tot 0 d).trans h⟩)
theorem C_slices_Clone_Sint_int_raw (N : Nat) : Contract Tryz.prog 80 ⟨[(K_Si, false)], [K_Si], true, F_slices_Clone_Sint_int N⟩ :=
  have E : Env Tryz.prog Γ_slices_Clone_Sint_int := env_of tab trivial
  con_of (Pc := []) E rfl mixed Tryz.func80 (by kernel_rfl) (by kernel_rfl) (by kernel_rfl) (by kernel_rfl) (fun A hA => trivial) (F_slices_Clone_Sint_int_ok N)
theorem C_slices_Clone_Sint_int : Contract Tryz.prog 80 S_slices_Clone_Sint_int := Contract.less (fun N : Nat => F_slices_Clone_Sint_int N) C_slices_Clone_Sint_int_raw cloneI_lim
theorem C_impl_copLists_raw (N : Nat) : Contract Tryz.prog 125 ⟨[(I, false), (I, false)], [K_SSi], true, F_impl_copLists N⟩ :=
  have E : Env Tryz.prog Γ_impl_copLists := env_ofV tab ⟨C_slices_Clone_Sint_int, trivial⟩ trivial (fun _ h => by cases h)
  con_of (Pc := [(0, ⟨impl_copLists_l0_h, impl_copLists_l0_o, impl_copLists_l0 N N⟩)]) E rfl mixed Tryz.func125 (by kernel_rfl) (by kernel_rfl) (by kernel_rfl) (by kernel_rfl) (fun A hA => ⟨pc_of (inner := [(2, ⟨impl_copLists_l2_h, impl_copLists_l2_o, impl_copLists_l2 N N⟩)]) E mixed hA (by kernel_rfl) (by kernel_rfl) (by kernel_rfl) ⟨pc_of (inner := [(4, ⟨impl_copLists_l4_h, impl_copLists_l4_o, impl_copLists_l4 N N⟩)]) E mixed hA (by kernel_rfl) (by kernel_rfl) (by kernel_rfl) ⟨pc_of (inner := []) E mixed hA (by kernel_rfl) (by kernel_rfl) (by kernel_rfl) trivial (fun _ => rfl) (fun m d => (impl_copLists_l4_ok N (impl_copLists_l4 N m) d).symm) N, trivial⟩ (fun _ => rfl) (fun m d => (impl_copLists_l2_ok N (impl_copLists_l2 N m) d).symm) N, trivial⟩ (fun _ => rfl) (fun m d => (impl_copLists_l0_ok N (impl_copLists_l0 N m) d).symm) N, trivial⟩) (F_impl_copLists_ok N)
theorem C_impl_copLists : Contract Tryz.prog 125 S_impl_copLists := Contract.less (fun N : Nat => F_impl_copLists N) C_impl_copLists_raw copLists_lim
theorem C_impl_net_closed_raw (N : Nat) : Contract Tryz.prog 100 ⟨[(K_PSiq, false), (I, false)], [I], true, F_impl_net_closed N⟩ :=
  have E : Env Tryz.prog Γ_impl_net_closed := env_of tab trivial
  con_of (Pc := []) E rfl mixed Tryz.func100 (by kernel_rfl) (by kernel_rfl) (by kernel_rfl) (by kernel_rfl) (fun A hA => trivial) (F_impl_net_closed_ok N)
theorem C_impl_net_closed : Contract Tryz.prog 100 S_impl_net_closed := C_impl_net_closed_raw 0
theorem C_impl_setOf_raw (N : Nat) : Contract Tryz.prog 52 ⟨[(I, false)], [K_Si], true, F_impl_setOf N⟩ :=
  have E : Env Tryz.prog Γ_impl_setOf := env_of tab trivial
  con_of (Pc := [(0, ⟨impl_setOf_l0_h, impl_setOf_l0_o, impl_setOf_l0 N N⟩)]) E rfl mixed Tryz.func52 (by kernel_rfl) (by kernel_rfl) (by kernel_rfl) (by kernel_rfl) (fun A hA => ⟨pc_of (inner := []) E mixed hA (by kernel_rfl) (by kernel_rfl) (by kernel_rfl) trivial (fun _ => rfl) (fun m d => (impl_setOf_l0_ok N (impl_setOf_l0 N m) d).symm) N, trivial⟩) (F_impl_setOf_ok N)
theorem C_impl_setOf : Contract Tryz.prog 52 S_impl_setOf := Contract.less (fun N : Nat => F_impl_setOf N) C_impl_setOf_raw setOf_lim
theorem C_slices_CompactFunc_SSint_Sint_by_slices_Equal_Sint_int : ContractG Tryz.prog 123 (S_slices_CompactFunc_SSint_Sint_by_slices_Equal_Sint_int, { gone := [0], deep := [] }) := con_compactF (enters_of Tryz.func123 (by kernel_rfl) rfl) (fun w v1 v2 xs ys h1 h2 l1 l2 => eqH h1 h2 l1 l2) compact74 compact74_small
theorem C_impl_net_copMoves_raw (N : Nat) : Contract Tryz.prog 90 ⟨[(K_PSiq, false), (K_Si, false)], [K_SSi], true, F_impl_net_copMoves N⟩ :=
  have E : Env Tryz.prog Γ_impl_net_copMoves := env_ofG tab ⟨C_impl_setOf, ⟨C_slices_Clone_Sint_int, ⟨C_impl_net_closed, ⟨C_slices_Sort_Sint_int, ⟨C_slices_SortFunc_SSint_Sint_by_slices_Compare_Sint_int, trivial⟩⟩⟩⟩⟩ trivial (fun _ h => by cases h) ⟨C_slices_CompactFunc_SSint_Sint_by_slices_Equal_Sint_int, trivial⟩ (by kernel_rfl)
  con_of (Pc := [(0, ⟨impl_net_copMoves_l0_h, impl_net_copMoves_l0_o, impl_net_copMoves_l0 N N⟩), (6, ⟨impl_net_copMoves_l6_h, impl_net_copMoves_l6_o, impl_net_copMoves_l6 N N⟩)]) E rfl mixed Tryz.func90 (by kernel_rfl) (by kernel_rfl) (by kernel_rfl) (by kernel_rfl) (fun A hA => ⟨pc_of (inner := [(2, ⟨impl_net_copMoves_l2_h, impl_net_copMoves_l2_o, impl_net_copMoves_l2 N N⟩)]) E mixed hA (by kernel_rfl) (by kernel_rfl) (by kernel_rfl) ⟨pc_of (inner := [(4, ⟨impl_net_copMoves_l4_h, impl_net_copMoves_l4_o, impl_net_copMoves_l4 N N⟩)]) E mixed hA (by kernel_rfl) (by kernel_rfl) (by kernel_rfl) ⟨pc_of (inner := []) E mixed hA (by kernel_rfl) (by kernel_rfl) (by kernel_rfl) trivial (fun _ => rfl) (fun m d => (impl_net_copMoves_l4_ok N (impl_net_copMoves_l4 N m) d).symm) N, trivial⟩ (fun _ => rfl) (fun m d => (impl_net_copMoves_l2_ok N (impl_net_copMoves_l2 N m) d).symm) N, trivial⟩ (fun _ => rfl) (fun m d => (impl_net_copMoves_l0_ok N (impl_net_copMoves_l0 N m) d).symm) N, ⟨pc_of (inner := []) E mixed hA (by kernel_rfl) (by kernel_rfl) (by kernel_rfl) trivial (fun _ => rfl) (fun m d => (impl_net_copMoves_l6_ok N (impl_net_copMoves_l6 N m) d).symm) N, trivial⟩⟩) (F_impl_net_copMoves_ok N)
theorem C_impl_net_copMoves : Contract Tryz.prog 90 S_impl_net_copMoves := Contract.less (fun N : Nat => F_impl_net_copMoves N) C_impl_net_copMoves_raw copMoves47_lim
theorem CV_slices_Compare_Sint_int : ContractV Tryz.prog SV_slices_Compare_Sint_int := conV_0_2_0 C_slices_Compare_Sint_int
theorem C_slices_BinarySearchFunc_SSint_Sint_Sint_by_slices_Compare_Sint_int_raw (N : Nat) : Contract Tryz.prog 112 ⟨[(K_SSi, false), (K_Si, false), (K_F_slices_Compare_Sint_int_qq, false)], [I, .bool], true, F_slices_BinarySearchFunc_SSint_Sint_Sint_by_slices_Compare_Sint_int N⟩ :=
  have E : Env Tryz.prog Γ_slices_BinarySearchFunc_SSint_Sint_Sint_by_slices_Compare_Sint_int := env_ofV tab trivial ⟨CV_slices_Compare_Sint_int, trivial⟩ (fun _ h => by cases h)
  con_of (Pc := [(0, ⟨slices_BinarySearchFunc_SSint_Sint_Sint_by_slices_Compare_Sint_int_l0_h, slices_BinarySearchFunc_SSint_Sint_Sint_by_slices_Compare_Sint_int_l0_o, slices_BinarySearchFunc_SSint_Sint_Sint_by_slices_Compare_Sint_int_l0 N N⟩)]) E rfl mixed Tryz.func112 (by kernel_rfl) (by kernel_rfl) (by kernel_rfl) (by kernel_rfl) (fun A hA => ⟨pc_of (inner := []) E mixed hA (by kernel_rfl) (by kernel_rfl) (by kernel_rfl) trivial (fun _ => rfl) (fun m d => (slices_BinarySearchFunc_SSint_Sint_Sint_by_slices_Compare_Sint_int_l0_ok N (slices_BinarySearchFunc_SSint_Sint_Sint_by_slices_Compare_Sint_int_l0 N m) d).symm) N, trivial⟩) (F_slices_BinarySearchFunc_SSint_Sint_Sint_by_slices_Compare_Sint_int_ok N)
theorem C_slices_BinarySearchFunc_SSint_Sint_Sint_by_slices_Compare_Sint_int : Contract Tryz.prog 112 S_slices_BinarySearchFunc_SSint_Sint_Sint_by_slices_Compare_Sint_int := Contract.less (fun N : Nat => F_slices_BinarySearchFunc_SSint_Sint_Sint_by_slices_Compare_Sint_int N) C_slices_BinarySearchFunc_SSint_Sint_Sint_by_slices_Compare_Sint_int_raw binSearch_lim
theorem C_impl_copGame_place_raw (N : Nat) : Contract Tryz.prog 71 ⟨[(K_BPPZiqZSiSSiSSiq, false), (K_Si, false)], [I], true, F_impl_copGame_place N⟩ :=
  have E : Env Tryz.prog Γ_impl_copGame_place := env_of tab ⟨C_slices_BinarySearchFunc_SSint_Sint_Sint_by_slices_Compare_Sint_int, trivial⟩
  con_of (Pc := []) E rfl mixed Tryz.func71 (by kernel_rfl) (by kernel_rfl) (by kernel_rfl) (by kernel_rfl) (fun A hA => trivial) (F_impl_copGame_place_ok N)
theorem C_impl_copGame_place : Contract Tryz.prog 71 S_impl_copGame_place := C_impl_copGame_place_raw 0
theorem C_impl_net_copBoard_raw (N : Nat) : ContractG Tryz.prog 103 (⟨[(K_PSiq, false), (I, false)], [K_BPPZiqZSiSSiSSiq], true, F_impl_net_copBoard N⟩, md0) :=
  have E : Env Tryz.prog Γ_impl_net_copBoard := env_of tab ⟨C_impl_copGame_place, ⟨C_impl_net_copMoves, ⟨C_impl_net_size, ⟨C_impl_copLists, trivial⟩⟩⟩⟩
  con_ofG (Pc := [(0, ⟨impl_net_copBoard_l0_h, impl_net_copBoard_l0_o, impl_net_copBoard_l0 N N⟩)]) E mixed Tryz.func103 (by kernel_rfl) (by kernel_rfl) (by kernel_rfl) (by kernel_rfl) (fun A hA => ⟨pc_of (inner := [(2, ⟨impl_net_copBoard_l2_h, impl_net_copBoard_l2_o, impl_net_copBoard_l2 N N⟩)]) E mixed hA (by kernel_rfl) (by kernel_rfl) (by kernel_rfl) ⟨pc_of (inner := []) E mixed hA (by kernel_rfl) (by kernel_rfl) (by kernel_rfl) trivial (fun _ => rfl) (fun m d => (impl_net_copBoard_l2_ok N (impl_net_copBoard_l2 N m) d).symm) N, trivial⟩ (fun _ => rfl) (fun m d => (impl_net_copBoard_l0_ok N (impl_net_copBoard_l0 N m) d).symm) N, trivial⟩) (F_impl_net_copBoard_ok N)
theorem C_impl_net_copBoard : ContractG Tryz.prog 103 (S_impl_net_copBoard, md0) := ContractG.less (fun N : Nat => F_impl_net_copBoard N) C_impl_net_copBoard_raw copBoard_lim
theorem C_slices_Index_Sint_int_raw (N : Nat) : Contract Tryz.prog 111 ⟨[(K_Si, false), (I, false)], [I], true, F_slices_Index_Sint_int N⟩ :=
  have E : Env Tryz.prog Γ_slices_Index_Sint_int := env_of tab trivial
  con_of (Pc := [(0, ⟨slices_Index_Sint_int_l0_h, slices_Index_Sint_int_l0_o, slices_Index_Sint_int_l0 N N⟩)]) E rfl mixed Tryz.func111 (by kernel_rfl) (by kernel_rfl) (by kernel_rfl) (by kernel_rfl) (fun A hA => ⟨pc_of (inner := []) E mixed hA (by kernel_rfl) (by kernel_rfl) (by kernel_rfl) trivial (fun _ => rfl) (fun m d => (slices_Index_Sint_int_l0_ok N (slices_Index_Sint_int_l0 N m) d).symm) N, trivial⟩) (F_slices_Index_Sint_int_ok N)
theorem C_slices_Index_Sint_int : Contract Tryz.prog 111 S_slices_Index_Sint_int := Contract.less (fun N : Nat => F_slices_Index_Sint_int N) C_slices_Index_Sint_int_raw index_lim
theorem C_slices_Contains_Sint_int_raw (N : Nat) : Contract Tryz.prog 69 ⟨[(K_Si, false), (I, false)], [.bool], true, F_slices_Contains_Sint_int N⟩ :=
  have E : Env Tryz.prog Γ_slices_Contains_Sint_int := env_of tab ⟨C_slices_Index_Sint_int, trivial⟩
  con_of (Pc := []) E rfl mixed Tryz.func69 (by kernel_rfl) (by kernel_rfl) (by kernel_rfl) (by kernel_rfl) (fun A hA => trivial) (F_slices_Contains_Sint_int_ok N)
theorem C_slices_Contains_Sint_int : Contract Tryz.prog 69 S_slices_Contains_Sint_int := C_slices_Contains_Sint_int_raw 0
theorem C_impl_net_timeAfter_raw (N : Nat) : Contract Tryz.prog 116 ⟨[(K_PSiq, false), (K_Si, false), (I, false)], [I], true, F_impl_net_timeAfter N⟩ :=
  have E : Env Tryz.prog Γ_impl_net_timeAfter := env_of tab ⟨C_impl_setOf, ⟨C_impl_net_closed, trivial⟩⟩
  con_of (Pc := [(0, ⟨impl_net_timeAfter_l0_h, impl_net_timeAfter_l0_o, impl_net_timeAfter_l0 N N⟩)]) E rfl mixed Tryz.func116 (by kernel_rfl) (by kernel_rfl) (by kernel_rfl) (by kernel_rfl) (fun A hA => ⟨pc_of (inner := []) E mixed hA (by kernel_rfl) (by kernel_rfl) (by kernel_rfl) trivial (fun _ => rfl) (fun m d => (impl_net_timeAfter_l0_ok N (impl_net_timeAfter_l0 N m) d).symm) N, trivial⟩) (F_impl_net_timeAfter_ok N)
theorem C_impl_net_timeAfter : Contract Tryz.prog 116 S_impl_net_timeAfter := Contract.less (fun N : Nat => F_impl_net_timeAfter N) C_impl_net_timeAfter_raw timeAfter_lim
theorem C_impl_copGame_can_1_raw (N : Nat) : Contract Tryz.prog 128 ⟨[(I, false), (K_BBPPZiqZSiSSiSSiq, false), (K_Bi, false)], [.bool], true, F_impl_copGame_can_1 N⟩ :=
  have E : Env Tryz.prog Γ_impl_copGame_can_1 := env_ofV tab ⟨C_slices_Contains_Sint_int, ⟨C_impl_net_timeAfter, trivial⟩⟩ trivial (w1_of (by kernel_rfl))
  con_of (Pc := []) E rfl mixed Tryz.func128 (by kernel_rfl) (by kernel_rfl) (by kernel_rfl) (by kernel_rfl) (fun A hA => trivial) (F_impl_copGame_can_1_ok N)
theorem C_impl_copGame_can_1 : Contract Tryz.prog 128 S_impl_copGame_can_1 := C_impl_copGame_can_1_raw 0
theorem CV_impl_copGame_can_1 : ContractV Tryz.prog SV_impl_copGame_can_1 := conV_0_1_2 C_impl_copGame_can_1
theorem C_slices_IndexFunc_Sint_int_by_impl_copGame_can_1_raw (N : Nat) : Contract Tryz.prog 137 ⟨[(K_Si, false), (K_F_impl_copGame_can_1_qPBBPPZiqZSiSSiSSiqBiq, false)], [I], true, F_slices_IndexFunc_Sint_int_by_impl_copGame_can_1 N⟩ :=
  have E : Env Tryz.prog Γ_slices_IndexFunc_Sint_int_by_impl_copGame_can_1 := env_ofV tab trivial ⟨CV_impl_copGame_can_1, trivial⟩ (fun _ h => by cases h)
  con_of (Pc := [(0, ⟨slices_IndexFunc_Sint_int_by_impl_copGame_can_1_l0_h, slices_IndexFunc_Sint_int_by_impl_copGame_can_1_l0_o, slices_IndexFunc_Sint_int_by_impl_copGame_can_1_l0 N N⟩)]) E rfl mixed Tryz.func137 (by kernel_rfl) (by kernel_rfl) (by kernel_rfl) (by kernel_rfl) (fun A hA => ⟨pc_of (inner := []) E mixed hA (by kernel_rfl) (by kernel_rfl) (by kernel_rfl) trivial (fun _ => rfl) (fun m d => (slices_IndexFunc_Sint_int_by_impl_copGame_can_1_l0_ok N (slices_IndexFunc_Sint_int_by_impl_copGame_can_1_l0 N m) d).symm) N, trivial⟩) (F_slices_IndexFunc_Sint_int_by_impl_copGame_can_1_ok N)
theorem C_slices_IndexFunc_Sint_int_by_impl_copGame_can_1 : Contract Tryz.prog 137 S_slices_IndexFunc_Sint_int_by_impl_copGame_can_1 := Contract.less (fun N : Nat => F_slices_IndexFunc_Sint_int_by_impl_copGame_can_1 N) C_slices_IndexFunc_Sint_int_by_impl_copGame_can_1_raw gameCan_lim
theorem C_slices_ContainsFunc_Sint_int_by_impl_copGame_can_1_raw (N : Nat) : Contract Tryz.prog 127 ⟨[(K_Si, false), (K_F_impl_copGame_can_1_qPBBPPZiqZSiSSiSSiqBiq, false)], [.bool], true, F_slices_ContainsFunc_Sint_int_by_impl_copGame_can_1 N⟩ :=
  have E : Env Tryz.prog Γ_slices_ContainsFunc_Sint_int_by_impl_copGame_can_1 := env_of tab ⟨C_slices_IndexFunc_Sint_int_by_impl_copGame_can_1, trivial⟩
  con_of (Pc := []) E rfl mixed Tryz.func127 (by kernel_rfl) (by kernel_rfl) (by kernel_rfl) (by kernel_rfl) (fun A hA => trivial) (F_slices_ContainsFunc_Sint_int_by_impl_copGame_can_1_ok N)
theorem C_slices_ContainsFunc_Sint_int_by_impl_copGame_can_1 : Contract Tryz.prog 127 S_slices_ContainsFunc_Sint_int_by_impl_copGame_can_1 := C_slices_ContainsFunc_Sint_int_by_impl_copGame_can_1_raw 0
theorem C_impl_copGame_can_raw (N : Nat) : Contract Tryz.prog 106 ⟨[(K_BPPZiqZSiSSiSSiq, false), (I, false), (I, false)], [.bool], true, F_impl_copGame_can N⟩ :=
  have E : Env Tryz.prog Γ_impl_copGame_can := env_ofV tab ⟨C_slices_ContainsFunc_Sint_int_by_impl_copGame_can_1, trivial⟩ trivial (w1_of (by kernel_rfl))
  con_of (Pc := []) E rfl mixed Tryz.func106 (by kernel_rfl) (by kernel_rfl) (by kernel_rfl) (by kernel_rfl) (fun A hA => trivial) (F_impl_copGame_can_ok N)
theorem C_impl_copGame_can : Contract Tryz.prog 106 S_impl_copGame_can := C_impl_copGame_can_raw 0
theorem C_impl_net_copGame_raw (N : Nat) : ContractG Tryz.prog 63 (⟨[(K_PSiq, false), (I, false)], [K_BPPZiqZSiSSiSSiq], true, F_impl_net_copGame N⟩, md0) :=
  have E : Env Tryz.prog Γ_impl_net_copGame := env_ofG tab ⟨C_slices_Repeat_Sint_int, ⟨C_impl_net_size, ⟨C_impl_copGame_can, trivial⟩⟩⟩ trivial (fun _ h => by cases h) ⟨C_impl_net_copBoard, trivial⟩ (by kernel_rfl)
  con_ofG (Pc := [(0, ⟨impl_net_copGame_l0_h, impl_net_copGame_l0_o, impl_net_copGame_l0 N N⟩), (4, ⟨impl_net_copGame_l4_h, impl_net_copGame_l4_o, impl_net_copGame_l4 N N⟩)]) E mixed Tryz.func63 (by kernel_rfl) (by kernel_rfl) (by kernel_rfl) (by kernel_rfl) (fun A hA => ⟨pc_of (inner := [(2, ⟨impl_net_copGame_l2_h, impl_net_copGame_l2_o, impl_net_copGame_l2 N N⟩)]) E mixed hA (by kernel_rfl) (by kernel_rfl) (by kernel_rfl) ⟨pc_of (inner := []) E mixed hA (by kernel_rfl) (by kernel_rfl) (by kernel_rfl) trivial (fun _ => rfl) (fun m d => (impl_net_copGame_l2_ok N (impl_net_copGame_l2 N m) d).symm) N, trivial⟩ (fun _ => rfl) (fun m d => (impl_net_copGame_l0_ok N (impl_net_copGame_l0 N m) d).symm) N, ⟨pc_of (inner := [(6, ⟨impl_net_copGame_l6_h, impl_net_copGame_l6_o, impl_net_copGame_l6 N N⟩), (10, ⟨impl_net_copGame_l10_h, impl_net_copGame_l10_o, impl_net_copGame_l10 N N⟩)]) E mixed hA (by kernel_rfl) (by kernel_rfl) (by kernel_rfl) ⟨pc_of (inner := [(8, ⟨impl_net_copGame_l8_h, impl_net_copGame_l8_o, impl_net_copGame_l8 N N⟩)]) E mixed hA (by kernel_rfl) (by kernel_rfl) (by kernel_rfl) ⟨pc_of (inner := []) E mixed hA (by kernel_rfl) (by kernel_rfl) (by kernel_rfl) trivial (fun _ => rfl) (fun m d => (impl_net_copGame_l8_ok N (impl_net_copGame_l8 N m) d).symm) N, trivial⟩ (fun _ => rfl) (fun m d => (impl_net_copGame_l6_ok N (impl_net_copGame_l6 N m) d).symm) N, ⟨pc_of (inner := []) E mixed hA (by kernel_rfl) (by kernel_rfl) (by kernel_rfl) trivial (fun _ => rfl) (fun m d => (impl_net_copGame_l10_ok N (impl_net_copGame_l10 N m) d).symm) N, trivial⟩⟩ (fun _ => rfl) (fun m d => (impl_net_copGame_l4_ok N (impl_net_copGame_l4 N m) d).symm) N, trivial⟩⟩) (F_impl_net_copGame_ok N)
theorem C_impl_net_copGame : ContractG Tryz.prog 63 (S_impl_net_copGame, md0) := ContractG.less (fun N : Nat => F_impl_net_copGame N) C_impl_net_copGame_raw copGame_lim
theorem C_slices_Max_Sint_int_raw (N : Nat) : Contract Tryz.prog 115 ⟨[(K_Si, false)], [I], true, F_slices_Max_Sint_int N⟩ :=
  have E : Env Tryz.prog Γ_slices_Max_Sint_int := env_of tab trivial
  con_of (Pc := [(0, ⟨slices_Max_Sint_int_l0_h, slices_Max_Sint_int_l0_o, slices_Max_Sint_int_l0 N N⟩)]) E rfl mixed Tryz.func115 (by kernel_rfl) (by kernel_rfl) (by kernel_rfl) (by kernel_rfl) (fun A hA => ⟨pc_of (inner := []) E mixed hA (by kernel_rfl) (by kernel_rfl) (by kernel_rfl) trivial (fun _ => rfl) (fun m d => (slices_Max_Sint_int_l0_ok N (slices_Max_Sint_int_l0 N m) d).symm) N, trivial⟩) (F_slices_Max_Sint_int_ok N)
theorem C_slices_Max_Sint_int : Contract Tryz.prog 115 S_slices_Max_Sint_int := Contract.less (fun N : Nat => F_slices_Max_Sint_int N) C_slices_Max_Sint_int_raw max_lim
theorem C_impl_copGame_best_raw (N : Nat) : Contract Tryz.prog 74 ⟨[(K_BPPZiqZSiSSiSSiq, false)], [K_Si, I, .bool], true, F_impl_copGame_best N⟩ :=
  have E : Env Tryz.prog Γ_impl_copGame_best := env_of tab ⟨C_slices_Contains_Sint_int, ⟨C_slices_Clone_Sint_int, ⟨C_slices_Max_Sint_int, trivial⟩⟩⟩
  con_of (Pc := [(0, ⟨impl_copGame_best_l0_h, impl_copGame_best_l0_o, impl_copGame_best_l0 N N⟩)]) E rfl mixed Tryz.func74 (by kernel_rfl) (by kernel_rfl) (by kernel_rfl) (by kernel_rfl) (fun A hA => ⟨pc_of (inner := []) E mixed hA (by kernel_rfl) (by kernel_rfl) (by kernel_rfl) trivial (fun _ => rfl) (fun m d => (impl_copGame_best_l0_ok N (impl_copGame_best_l0 N m) d).symm) N, trivial⟩) (F_impl_copGame_best_ok N)
theorem C_impl_copGame_best : Contract Tryz.prog 74 S_impl_copGame_best := Contract.less (fun N : Nat => F_impl_copGame_best N) C_impl_copGame_best_raw gameBest_lim
theorem C_impl_BestCops_raw (N : Nat) : Contract Tryz.prog 34 ⟨[(K_PiSPiiqq, false), (I, false)], [K_Si, I, .bool], true, F_impl_BestCops N⟩ :=
  have E : Env Tryz.prog Γ_impl_BestCops := env_ofG tab ⟨C_impl_netOf, ⟨C_impl_isCopGame, ⟨C_impl_copGame_best, trivial⟩⟩⟩ trivial (fun _ h => by cases h) ⟨C_impl_net_copGame, trivial⟩ (by kernel_rfl)
  con_of (Pc := []) E rfl mixed Tryz.func34 (by kernel_rfl) (by kernel_rfl) (by kernel_rfl) (by kernel_rfl) (fun A hA => trivial) (F_impl_BestCops_ok N)
theorem C_impl_BestCops : Contract Tryz.prog 34 S_impl_BestCops := C_impl_BestCops_raw 0
theorem C_laws_eqIntS_raw (N : Nat) : Contract Tryz.prog 25 ⟨[(K_Si, false), (K_Si, false)], [.bool], true, F_laws_eqIntS N⟩ :=
  have E : Env Tryz.prog Γ_laws_eqIntS := env_of tab trivial
  con_of (Pc := [(0, ⟨laws_eqIntS_l0_h, laws_eqIntS_l0_o, laws_eqIntS_l0 N N⟩)]) E rfl mixed Tryz.func25 (by kernel_rfl) (by kernel_rfl) (by kernel_rfl) (by kernel_rfl) (fun A hA => ⟨pc_of (inner := []) E mixed hA (by kernel_rfl) (by kernel_rfl) (by kernel_rfl) trivial (fun _ => rfl) (fun m d => (laws_eqIntS_l0_ok N (laws_eqIntS_l0 N m) d).symm) N, trivial⟩) (F_laws_eqIntS_ok N)
theorem C_laws_eqIntS : Contract Tryz.prog 25 S_laws_eqIntS := Contract.less (fun N : Nat => F_laws_eqIntS N) C_laws_eqIntS_raw eqIntS_lim
theorem C_laws_eqIntA2_raw (N : Nat) : Contract Tryz.prog 96 ⟨[(K_Piiq, false), (K_Piiq, false)], [.bool], true, F_laws_eqIntA2 N⟩ :=
  have E : Env Tryz.prog Γ_laws_eqIntA2 := env_of tab trivial
  con_of (Pc := [(0, ⟨laws_eqIntA2_l0_h, laws_eqIntA2_l0_o, laws_eqIntA2_l0 N N⟩)]) E rfl mixed Tryz.func96 (by kernel_rfl) (by kernel_rfl) (by kernel_rfl) (by kernel_rfl) (fun A hA => ⟨pc_of (inner := []) E mixed hA (by kernel_rfl) (by kernel_rfl) (by kernel_rfl) trivial (fun _ => rfl) (fun m d => (laws_eqIntA2_l0_ok N (laws_eqIntA2_l0 N m) d).symm) N, trivial⟩) (F_laws_eqIntA2_ok N)
theorem C_laws_eqIntA2 : Contract Tryz.prog 96 S_laws_eqIntA2 := Contract.less (fun N : Nat => F_laws_eqIntA2 N) C_laws_eqIntA2_raw eqIntA2_lim
theorem C_laws_eqIntA2S_raw (N : Nat) : Contract Tryz.prog 53 ⟨[(K_SPiiq, false), (K_SPiiq, false)], [.bool], true, F_laws_eqIntA2S N⟩ :=
  have E : Env Tryz.prog Γ_laws_eqIntA2S := env_of tab ⟨C_laws_eqIntA2, trivial⟩
  con_of (Pc := [(0, ⟨laws_eqIntA2S_l0_h, laws_eqIntA2S_l0_o, laws_eqIntA2S_l0 N N⟩)]) E rfl mixed Tryz.func53 (by kernel_rfl) (by kernel_rfl) (by kernel_rfl) (by kernel_rfl) (fun A hA => ⟨pc_of (inner := []) E mixed hA (by kernel_rfl) (by kernel_rfl) (by kernel_rfl) trivial (fun _ => rfl) (fun m d => (laws_eqIntA2S_l0_ok N (laws_eqIntA2S_l0 N m) d).symm) N, trivial⟩) (F_laws_eqIntA2S_ok N)
theorem C_laws_eqIntA2S : Contract Tryz.prog 53 S_laws_eqIntA2S := Contract.less (fun N : Nat => F_laws_eqIntA2S N) C_laws_eqIntA2S_raw eqIntA2S_lim
theorem C_laws_eqGraph_raw (N : Nat) : Contract Tryz.prog 19 ⟨[(K_PiSPiiqq, false), (K_PiSPiiqq, false)], [.bool], true, F_laws_eqGraph N⟩ :=
  have E : Env Tryz.prog Γ_laws_eqGraph := env_of tab ⟨C_laws_eqIntA2S, trivial⟩
  con_of (Pc := []) E rfl mixed Tryz.func19 (by kernel_rfl) (by kernel_rfl) (by kernel_rfl) (by kernel_rfl) (fun A hA => trivial) (F_laws_eqGraph_ok N)
theorem C_laws_eqGraph : Contract Tryz.prog 19 S_laws_eqGraph := C_laws_eqGraph_raw 0
theorem C_laws_markIntA2S_raw (N : Nat) : Contract Tryz.prog 54 ⟨[(K_SPiiq, true), (I, false)], [I], true, F_laws_markIntA2S N⟩ :=
  have E : Env Tryz.prog Γ_laws_markIntA2S := env_of tab trivial
  con_of (Pc := [(0, ⟨laws_markIntA2S_l0_h, laws_markIntA2S_l0_o, laws_markIntA2S_l0 N N⟩)]) E rfl mixed Tryz.func54 (by kernel_rfl) (by kernel_rfl) (by kernel_rfl) (by kernel_rfl) (fun A hA => ⟨pc_of (inner := [(2, ⟨laws_markIntA2S_l2_h, laws_markIntA2S_l2_o, laws_markIntA2S_l2 N N⟩)]) E mixed hA (by kernel_rfl) (by kernel_rfl) (by kernel_rfl) ⟨pc_of (inner := []) E mixed hA (by kernel_rfl) (by kernel_rfl) (by kernel_rfl) trivial (fun _ => rfl) (fun m d => (laws_markIntA2S_l2_ok N (laws_markIntA2S_l2 N m) d).symm) N, trivial⟩ (fun _ => rfl) (fun m d => (laws_markIntA2S_l0_ok N (laws_markIntA2S_l0 N m) d).symm) N, trivial⟩) (F_laws_markIntA2S_ok N)
theorem C_laws_markIntA2S : Contract Tryz.prog 54 S_laws_markIntA2S := Contract.less (fun N : Nat => F_laws_markIntA2S N) C_laws_markIntA2S_raw markIntA2S_lim
theorem C_laws_markGraph_raw (N : Nat) : Contract Tryz.prog 20 ⟨[(K_PiSPiiqq, true), (I, false)], [I], true, F_laws_markGraph N⟩ :=
  have E : Env Tryz.prog Γ_laws_markGraph := env_of tab ⟨C_laws_markIntA2S, trivial⟩
  con_of (Pc := []) E rfl mixed Tryz.func20 (by kernel_rfl) (by kernel_rfl) (by kernel_rfl) (by kernel_rfl) (fun A hA => trivial) (F_laws_markGraph_ok N)
theorem C_laws_markGraph : Contract Tryz.prog 20 S_laws_markGraph := C_laws_markGraph_raw 0
theorem C_laws_markIntS_raw (N : Nat) : Contract Tryz.prog 26 ⟨[(K_Si, true), (I, false)], [I], true, F_laws_markIntS N⟩ :=
  have E : Env Tryz.prog Γ_laws_markIntS := env_of tab trivial
  con_of (Pc := [(0, ⟨laws_markIntS_l0_h, laws_markIntS_l0_o, laws_markIntS_l0 N N⟩)]) E rfl mixed Tryz.func26 (by kernel_rfl) (by kernel_rfl) (by kernel_rfl) (by kernel_rfl) (fun A hA => ⟨pc_of (inner := []) E mixed hA (by kernel_rfl) (by kernel_rfl) (by kernel_rfl) trivial (fun _ => rfl) (fun m d => (laws_markIntS_l0_ok N (laws_markIntS_l0 N m) d).symm) N, trivial⟩) (F_laws_markIntS_ok N)
theorem C_laws_markIntS : Contract Tryz.prog 26 S_laws_markIntS := Contract.less (fun N : Nat => F_laws_markIntS N) C_laws_markIntS_raw markIntS_lim
theorem C_laws_heldIntS_raw (N : Nat) : Contract Tryz.prog 27 ⟨[(K_Si, false), (I, false)], [I], true, F_laws_heldIntS N⟩ :=
  have E : Env Tryz.prog Γ_laws_heldIntS := env_of tab trivial
  con_of (Pc := [(0, ⟨laws_heldIntS_l0_h, laws_heldIntS_l0_o, laws_heldIntS_l0 N N⟩)]) E rfl mixed Tryz.func27 (by kernel_rfl) (by kernel_rfl) (by kernel_rfl) (by kernel_rfl) (fun A hA => ⟨pc_of (inner := []) E mixed hA (by kernel_rfl) (by kernel_rfl) (by kernel_rfl) trivial (fun _ => rfl) (fun m d => (laws_heldIntS_l0_ok N (laws_heldIntS_l0 N m) d).symm) N, trivial⟩) (F_laws_heldIntS_ok N)
theorem C_laws_heldIntS : Contract Tryz.prog 27 S_laws_heldIntS := Contract.less (fun N : Nat => F_laws_heldIntS N) C_laws_heldIntS_raw heldIntS_lim
theorem C_laws_FnExactBestCops_raw (N : Nat) : Contract Tryz.prog 7 ⟨[(K_PiSPiiqq, false), (I, false)], [.bool], true, F_laws_FnExactBestCops N⟩ :=
  have E : Env Tryz.prog Γ_laws_FnExactBestCops := env_of tab ⟨C_laws_szGraph, ⟨C_laws_toGraph, ⟨C_laws_eqGraph, ⟨C_laws_markGraph, ⟨C_laws_eqIntS, ⟨C_laws_markIntS, ⟨C_laws_heldIntS, ⟨C_spec_BestCops, ⟨C_impl_BestCops, trivial⟩⟩⟩⟩⟩⟩⟩⟩⟩
  con_of (Pc := []) E rfl mixed Tryz.func7 (by kernel_rfl) (by kernel_rfl) (by kernel_rfl) (by kernel_rfl) (fun A hA => trivial) (F_laws_FnExactBestCops_ok N)
theorem C_laws_FnExactBestCops : Contract Tryz.prog 7 S_laws_FnExactBestCops := C_laws_FnExactBestCops_raw 0
end Go.V.W
