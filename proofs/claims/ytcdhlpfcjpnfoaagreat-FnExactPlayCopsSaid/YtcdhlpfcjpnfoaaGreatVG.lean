/- What the law FnExactPlayCops leans on, part 7: an interpreter of the model as plain data, its soundness, the functions as it tells them, and their laws. -/
import Derived.Shelf.Lays
import Derived.Shelf.LaysM
import Derived.Shelf.SortM.Plain
import Derived.Shelf.SortM.SortNone
import Derived.Shelf.SlSortCmp.NoneTotal
import Derived.Test.YtcdhlpfcjpnfoaaGreatVF
set_option linter.unusedVariables false
set_option linter.unusedSimpArgs false
set_option maxRecDepth 100000
set_option linter.unusedVariables false
set_option linter.unusedSimpArgs false
namespace Go.V.W
open Go.Proofs
theorem tabM_len (m n : Nat) (f : Nat -> Nat -> Int) : (tabM m n f).length = m := by simp [tabM]
theorem tabM_row {m n c : Nat} (f : Nat -> Nat -> Int) (h : c < m) : (tabM m n f)[c]? = some ((List.range n).map fun x => f c x) := by
 unfold tabM
 rw [List.getElem?_map, List.getElem?_range h]
 rfl
theorem tab2_tabM {m n c x : Nat} (f : Nat -> Nat -> Int) (hc : c < m) (hx : x < n) : tab2 (tabM m n f) (c : Int) (x : Int) = f c x := by
 unfold tab2
 simp only [Int.toNat_natCast, List.getD_eq_getElem?_getD, tabM_row f hc, Option.getD_some, rowR_get _ hx]
theorem tabM_congr {m n : Nat} {f g : Nat -> Nat -> Int} (h : ∀ c x, c < m -> x < n -> f c x = g c x) : tabM m n f = tabM m n g := by
 unfold tabM
 refine List.map_congr_left fun c hc => List.map_congr_left fun x hx => h c x (List.mem_range.1 hc) (List.mem_range.1 hx)
theorem rcB_parts {m n : Nat} {T : Tab} (h : rcB m n T = true) : T.length = m /\ ∀ c, c < m -> (at_ K_Si T c).length = n := by
 unfold rcB at h
 simp only [Bool.and_eq_true, decide_eq_true_eq, List.all_eq_true] at h
 refine ⟨h.1, fun c hc => ?_⟩
 have hlt : c < T.length := by omega
 have e : at_ K_Si T c = T[c] := at_get (e := K_Si) hlt
 rw [e]
 exact h.2 _ (List.getElem_mem hlt)
theorem tab2_rc {m n : Nat} {T : Tab} (h : rcB m n T = true) {c x : Nat} (hc : c < m) (hx : x < n) : at_ I (at_ K_Si T c) x = tab2 T (c : Int) (x : Int) := by
 obtain ⟨h1, h2⟩ := rcB_parts h
 have hlt : c < T.length := by omega
 have e : at_ K_Si T c = T[c] := at_get (e := K_Si) hlt
 have h3 := h2 c hc
 rw [e] at h3 |-
 have e2 : at_ I T[c] x = T[c][x] := at_get (e := I) (by omega)
 rw [e2]
 unfold tab2
 simp only [Int.toNat_natCast, List.getD_eq_getElem?_getD, List.getElem?_eq_getElem hlt, Option.getD_some]
 rw [List.getElem?_eq_getElem (by omega)]
 rfl
theorem rc_tabM (m n : Nat) (f : Nat -> Nat -> Int) : rcB m n (tabM m n f) = true := by
 unfold rcB tabM
 simp
theorem row_rc {m n : Nat} {T : Tab} (h : rcB m n T = true) {c : Nat} (hc : c < m) : at_ K_Si T c = (List.range n).map fun (x : Nat) => tab2 T (c : Int) (x : Int) := by
 obtain ⟨h1, h2⟩ := rcB_parts h
 have h3 := h2 c hc
 apply List.ext_getElem
 ·simp [h3]
 ·intro i i1 i2
  have hi : i < n := by omega
  rw [List.getElem_map, List.getElem_range, <- tab2_rc h hc hi]
  exact (at_get (e := I) i1).symm
theorem tabM_self {m n : Nat} {T : Tab} (h : rcB m n T = true) : tabM m n (fun c x => tab2 T (c : Int) (x : Int)) = T := by
 obtain ⟨h1, h2⟩ := rcB_parts h
 apply List.ext_getElem
 ·rw [tabM_len, h1]
 ·intro c c1 c2
  have hc : c < m := by omega
  have e : at_ K_Si T c = T[c] := at_get (e := K_Si) c2
  rw [<- e, row_rc h hc]
  simp [tabM]
def rowU (n : Nat) (f g : Nat -> Int) (x : Nat) : List Int := (List.range n).map fun j => if j < x then g j else f j
theorem rowU_len (n : Nat) (f g : Nat -> Int) (x : Nat) : (rowU n f g x).length = n := by simp [rowU]
theorem rowU_at {n : Nat} {f g : Nat -> Int} {x : Nat} (h : x < n) : at_ I (rowU n f g x) x = f x := by
 have : (rowU n f g x)[x]? = some (f x) := by
  unfold rowU
  rw [rowR_get _ h, if_neg (by omega)]
 exact (at_some this).1
theorem rowU_set {n : Nat} {f g : Nat -> Int} {x : Nat} {v : Int} (h : x < n) (hv : g x = v) : (rowU n f g x).set x v = rowU n f g (x + 1) := by
 unfold rowU
 rw [map_set]
 refine List.map_congr_left fun j _ => ?_
 by_cases e : j = x
 ·subst e
  have : j < j + 1 := by omega
  simp [this, hv]
 ·by_cases e2 : j < x
  ·have : j < x + 1 := by omega
   simp [e, e2, this]
  ·have : ¬ j < x + 1 := by omega
   simp [e, e2, this]
theorem rowU_keep {n : Nat} {f g : Nat -> Int} {x : Nat} (hv : g x = f x) : rowU n f g x = rowU n f g (x + 1) := by
 unfold rowU
 refine List.map_congr_left fun j _ => ?_
 by_cases e : j = x
 ·subst e
  have : j < j + 1 := by omega
  simp [this, hv]
 ·by_cases e2 : j < x
  ·have : j < x + 1 := by omega
   simp [e2, this]
  ·have : ¬ j < x + 1 := by omega
   simp [e2, this]
theorem rowU_zero (n : Nat) (f g : Nat -> Int) : rowU n f g 0 = (List.range n).map f := List.map_congr_left fun j _ => if_neg (by omega)
theorem rowU_full (n : Nat) (f g : Nat -> Int) : rowU n f g n = (List.range n).map g := List.map_congr_left fun j hj => if_pos (List.mem_range.1 hj)
def negsM (m n : Nat) (T : Tab) : Nat := (List.range (m * n)).countP fun i => decide (tab2 T ((i / n : Nat) : Int) ((i % n : Nat) : Int) < 0)
theorem anyG_spec {cf mv : List (List Int)} {ball : Int -> List Int} {n : Nat} {T : Tab} : anyG cf mv ball n T = true ↔ ∃ c x, c < cf.length /\ x < n /\ canG cf mv ball T c x = true := by
 unfold anyG
 simp only [List.any_eq_true, List.mem_range]
 constructor
 ·rintro ⟨c, hc, r, hr, h⟩
  exact ⟨c, r, hc, hr, h⟩
 ·rintro ⟨c, r, hc, hr, h⟩
  exact ⟨c, hc, r, hr, h⟩
theorem stepG_at {cf mv : List (List Int)} {ball : Int -> List Int} {n : Nat} {t : Int} {T : Tab} {c x : Nat} (hc : c < cf.length) (hx : x < n) : tab2 (stepG cf mv ball n t T) (c : Int) (x : Int) = if canG cf mv ball T c x = true then t else tab2 T (c : Int) (x : Int) := tab2_tabM _ hc hx
theorem negsM_step {cf mv : List (List Int)} {ball : Int -> List Int} {n : Nat} {t : Int} (ht : 0 <= t) {T : Tab} (h : anyG cf mv ball n T = true) : negsM cf.length n (stepG cf mv ball n t T) < negsM cf.length n T := by
 obtain ⟨c, x, hc, hx, hcan⟩ := anyG_spec.1 h
 have hdiv : ∀ i, i < cf.length * n -> i / n < cf.length /\ i % n < n := fun i hi => by
  have hn : 0 < n := by omega
  exact ⟨(Nat.div_lt_iff_lt_mul hn).2 hi, Nat.mod_lt _ hn⟩
 have hsub := countP_lt (p := fun i => decide (tab2 T ((i / n : Nat) : Int) ((i % n : Nat) : Int) < 0)) (q := fun i => decide (tab2 (stepG cf mv ball n t T) ((i / n : Nat) : Int) ((i % n : Nat) : Int) < 0)) (l := List.range (cf.length * n)) (fun i hi h => by
  obtain ⟨d1, d2⟩ := hdiv i (List.mem_range.1 hi)
  have h := of_decide_eq_true h
  rw [stepG_at d1 d2] at h
  split at h
  ·omega
  ·exact decide_eq_true h)
 refine hsub.2 ⟨c * n + x, ?_, ?_, ?_⟩
 ·rw [List.mem_range]
  have : (c + 1) * n <= cf.length * n := Nat.mul_le_mul_right _ hc
  rw [Nat.succ_mul] at this
  omega
 all_goals
  have e1 : (c * n + x) / n = c := by
   rw [Nat.mul_comm, Nat.mul_add_div (by omega), Nat.div_eq_of_lt hx]
   omega
  have e2 : (c * n + x) % n = x := by
   rw [Nat.mul_comm, Nat.mul_add_mod, Nat.mod_eq_of_lt hx]
  simp only [e1, e2]
 ·unfold canG at hcan
  simp only [Bool.and_eq_true] at hcan
  exact hcan.1
 ·rw [stepG_at hc hx, if_pos hcan]
  simpa using ht
theorem negsM_le (m n : Nat) (T : Tab) : negsM m n T <= m * n := by
 unfold negsM
 have := List.countP_le_length (p := fun i => decide (tab2 T ((i / n : Nat) : Int) ((i % n : Nat) : Int) < 0)) (l := List.range (m * n))
 simpa using this
theorem stepG_none {cf mv : List (List Int)} {ball : Int -> List Int} {n : Nat} {t : Int} {T : Tab} (hT : rcB cf.length n T = true) (h : anyG cf mv ball n T = false) : stepG cf mv ball n t T = T := by
 refine Eq.trans (tabM_congr fun c x hc hx => if_neg fun hh => ?_) (tabM_self hT)
 have := anyG_spec.2 ⟨c, x, hc, hx, hh⟩
 rw [h] at this
 cases this
theorem gmB_parts {n : Nat} {cf mv : List (List Int)} (h : gmB n cf mv = true) : cf.length <= 120 /\ mv.length = cf.length /\ (∀ c, c < cf.length -> (at_ K_Si cf c).length <= 3 /\ cf.getD c [] = at_ K_Si cf c /\ ∀ x ∈ at_ K_Si cf c, inB 0 ((n : Int) - 1) x = true) /\
  (∀ c, c < cf.length -> (at_ K_Si mv c).length <= 1000 /\ mv.getD c [] = at_ K_Si mv c /\ ∀ d ∈ at_ K_Si mv c, inB 0 ((cf.length : Int) - 1) d = true) := by
 unfold gmB at h
 simp only [Bool.and_eq_true, decide_eq_true_eq, List.all_eq_true] at h
 obtain ⟨⟨⟨h1, h2⟩, h3⟩, h4⟩ := h
 refine ⟨h1, h2, fun c hc => ?_, fun c hc => ?_⟩
 ·have e : at_ K_Si cf c = cf[c] := at_get (e := K_Si) hc
  have := h3 _ (List.getElem_mem hc)
  rw [e]
  refine ⟨this.1, ?_, this.2⟩
  rw [List.getD_eq_getElem?_getD, List.getElem?_eq_getElem hc]
  rfl
 ·have hc2 : c < mv.length := by omega
  have e : at_ K_Si mv c = mv[c] := at_get (e := K_Si) hc2
  have := h4 _ (List.getElem_mem hc2)
  rw [e]
  refine ⟨this.1, ?_, this.2⟩
  rw [List.getD_eq_getElem?_getD, List.getElem?_eq_getElem hc2]
  rfl
theorem blB_parts {bl : List (List Int)} (h : blB bl = true) : bl.length <= 8 /\ ∀ x : Nat, x < bl.length -> at_ K_Si bl x = ballA bl (x : Int) /\ (ballA bl (x : Int)).length <= 8 /\ ∀ z ∈ ballA bl (x : Int), ∃ y : Nat, y < bl.length /\ z = (y : Int) := by
 unfold blB at h
 simp only [Bool.and_eq_true, decide_eq_true_eq, List.all_eq_true] at h
 refine ⟨h.1, fun x hx => ?_⟩
 have e : at_ K_Si bl x = bl[x] := at_get (e := K_Si) hx
 have e2 : ballA bl (x : Int) = bl[x] := by
  unfold ballA
  rw [Int.toNat_natCast, List.getD_eq_getElem?_getD, List.getElem?_eq_getElem hx]
  rfl
 have := h.2 _ (List.getElem_mem hx)
 rw [e, e2]
 refine ⟨rfl, this.1, fun z hz => ?_⟩
 obtain ⟨y, hy, h2⟩ := nodeX (this.2 z hz)
 exact ⟨y, h2, hy⟩
theorem af_l0 (N m n : Nat) (T : Tab) (hT : rcB m n T = true) (c : Nat) (hc : c < m) (ball : List Int) (hb : ∀ z ∈ ball, ∃ y : Nat, y < n /\ z = (y : Int)) (hl : ball.length <= 1000) : ∀ (k i f : Nat) (s : Int), i + k = ball.length -> k < f ->
  q52q_l0 N f (T, (c : Int), s, ball, (i : Int), ()) = some (.inl (worstL (tab2 T c) (ball.drop i) s, ())) \/ q52q_l0 N f (T, (c : Int), s, ball, (i : Int), ()) = some (.inr (.inl (worstL (tab2 T c) (ball.drop i) s, ()))) := by
 have hmx : ball.length <= maxLen := by unfold maxLen; omega
 obtain ⟨t1, t2⟩ := rcB_parts hT
 intro k
 induction k with
 | zero =>
  intro i f m h1 h2
  obtain ⟨f, rfl⟩ : ∃ m, f = m + 1 := ⟨f - 1, by omega⟩
  have e : i = ball.length := by omega
  subst e
  rw [List.drop_of_length_le (Nat.le_refl _)]
  right
  simp [q52q_l0, q52q_l0_r, worstL]
 | succ k ih =>
  intro i f s h1 h2
  obtain ⟨f, rfl⟩ : ∃ m, f = m + 1 := ⟨f - 1, by omega⟩
  have hi : i < ball.length := by omega
  obtain ⟨y, hy, ey⟩ := hb ball[i] (List.getElem_mem hi)
  have e : at_ I ball i = (y : Int) := (at_get (e := I) hi).trans ey
  have i1 : idxIn (c : Int) T.length = true := idxIn_nat (by omega)
  have i2 : idxIn (y : Int) (at_ K_Si T c).length = true := idxIn_nat (by rw [t2 c hc]; exact hy)
  have hv := tab2_rc hT hc hy
  have hd : ball.drop i = (y : Int) :: ball.drop (i + 1) := by rw [List.drop_eq_getElem_cons hi, ey]
  have step : q52q_l0 N (f + 1) (T, (c : Int), s, ball, (i : Int), ()) = if tab2 T c y < 0 then some (.inl (-1, ())) else q52q_l0 N f (T, (c : Int), (if s < tab2 T c y then tab2 T c y else s), ball, ((i + 1 : Nat) : Int), ()) := by
   show q52q_l0_r N (q52q_l0 N f) (T, (c : Int), s, ball, (i : Int), ()) = _
   unfold q52q_l0_r
   simp only [lt_dec hi, if_true, i1, idxIn_nat hi, Int.toNat_natCast, e, i2, hv, most_eq, wrap_up hi hmx]
   by_cases h : tab2 T c y < 0
   ·simp only [h, decide_true, if_true]
   ·simp only [h, decide_false, Bool.false_eq_true, if_false]
  rw [step, hd]
  simp only [worstL]
  by_cases h : tab2 T c y < 0
  ·rw [if_pos h, if_pos h]
   exact .inl rfl
  ·rw [if_neg h, if_neg h]
   exact ih (i + 1) f _ (by omega) (by omega)
theorem l4After_lim (d) (r) (h : G_l4After d = some r) : ∃ N, F_q52q N d = some r := by
 obtain ⟨⟨cf, mv, bl, v⟩, T, c, x, _⟩ := d
 unfold G_l4After at h
 split at h
 ·rename_i hc
  simp only [Bool.and_eq_true] at hc
  obtain ⟨⟨⟨⟨hg, hb⟩, hT⟩, hc'⟩, hx'⟩ := hc
  obtain ⟨g1, g2, g3, g4⟩ := gmB_parts hg
  obtain ⟨b1, b2⟩ := blB_parts hb
  obtain ⟨c, rfl, hc⟩ := nodeX hc'
  obtain ⟨x, rfl, hx⟩ := nodeX hx'
  have h := Option.some.inj h
  subst h
  obtain ⟨x1, x2, x3⟩ := b2 x hx
  obtain ⟨y1, y2, y3⟩ := g3 c hc
  refine ⟨20, ?_⟩
  have hl := af_l0 20 cf.length bl.length T hT c hc (ballA bl (x : Int)) x3 (by omega) (ballA bl (x : Int)).length 0 20 0 (by omega) (by omega)
  simp only [Int.natCast_zero, List.drop_zero] at hl
  unfold F_q52q afterG
  simp only [idxIn_nat hc, idxIn_nat hx, if_true, Int.toNat_natCast, has1 (okL_of (show (at_ K_Si cf c).length <= 1048576 by omega)), Option.bind_some, x1, y2]
  by_cases hh : hasL (at_ K_Si cf c) (x : Int) = true
  ·simp only [hh, if_true]
  ·simp only [hh, Bool.false_eq_true, if_false]
   rcases hl with h | h
   ·simp only [h, Option.bind_some]
   ·simp only [h, Option.bind_some]
 ·cases h
theorem afterG_some {cf mv bl : List (List Int)} (hg : gmB bl.length cf mv = true) (hb : blB bl = true) {T : Tab} (hT : rcB cf.length bl.length T = true) {d x : Int} (hd : inB 0 ((cf.length : Int) - 1) d = true) (hx : inB 0 ((bl.length : Int) - 1) x = true) (v u : Unit) : G_l4After ((cf, mv, bl, v), T, d, x, u) = some (afterG cf (ballA bl) T d x, ()) := by
 unfold G_l4After
 simp only [hg, hb, hT, hd, hx, Bool.and_self, if_true]
theorem ts_l2 (N : Nat) (cf mv bl : List (List Int)) (hg : gmB bl.length cf mv = true) (hb : blB bl = true) (v : Unit) (T : Tab) (c : Nat) (hc : c < cf.length) : ∀ (k x f : Nat), x + k = bl.length -> k < f ->
  q53q_l2 N f ((cf, mv, bl, v), T, (c : Int), (List.range x).map (fun (x : Nat) => if hasL (cf.getD c []) (x : Int) = true then 0 else -1), (x : Int), ()) = some (.inl ((cf, mv, bl, v), T, (c : Int), (List.range bl.length).map (fun (x : Nat) => if hasL (cf.getD c []) (x : Int) = true then 0 else -1), ())) := by
 obtain ⟨g1, g2, g3, g4⟩ := gmB_parts hg
 obtain ⟨b1, b2⟩ := blB_parts hb
 obtain ⟨y1, y2, y3⟩ := g3 c hc
 intro k
 induction k with
 | zero =>
  intro x f h1 h2
  obtain ⟨f, rfl⟩ : ∃ m, f = m + 1 := ⟨f - 1, by omega⟩
  have e : x = bl.length := by omega
  subst e
  show q53q_l2_r _ _ _ = _
  unfold q53q_l2_r
  simp only [lt_not, Bool.false_eq_true, if_false]
 | succ k ih =>
  intro x f h1 h2
  obtain ⟨f, rfl⟩ : ∃ m, f = m + 1 := ⟨f - 1, by omega⟩
  have hx : x < bl.length := by omega
  have hle : ∀ w : Int, decide (((List.range x).map (fun (x : Nat) => if hasL (cf.getD c []) (x : Int) = true then (0 : Int) else -1)).length + List.length [w] <= lim) = true := fun w => by
   unfold lim
   simp
   omega
  have fin := ih (x + 1) f (by omega) (by omega)
  rw [<- range_snoc x (fun (x : Nat) => if hasL (cf.getD c []) (x : Int) = true then 0 else -1)] at fin
  show q53q_l2_r _ _ _ = _
  unfold q53q_l2_r
  simp only [lt_dec hx, if_true, idxIn_nat hc, Int.toNat_natCast, has1 (okL_of (show (at_ K_Si cf c).length <= 1048576 by omega)), Option.bind_some, hle, small_wrap (show x <= 100000 by omega)]
  by_cases hh : hasL (at_ K_Si cf c) (x : Int) = true
  ·rw [y2, if_pos hh] at fin
   simp only [hh, if_true, y2]
   exact fin
  ·rw [y2, if_neg hh] at fin
   simp only [hh, Bool.false_eq_true, if_false, y2]
   exact fin
theorem ts_l0 (N : Nat) (hN : 200 <= N) (cf mv bl : List (List Int)) (hg : gmB bl.length cf mv = true) (hb : blB bl = true) (v : Unit) : ∀ (k c f : Nat), c + k = cf.length -> k < f ->
  q53q_l0 N f ((cf, mv, bl, v), (List.range c).map (fun c => (List.range bl.length).map (fun (x : Nat) => if hasL (cf.getD c []) (x : Int) = true then (0 : Int) else -1)), (c : Int), ()) = some (.inl ((cf, mv, bl, v), startG cf bl.length, ())) := by
 obtain ⟨g1, g2, g3, g4⟩ := gmB_parts hg
 obtain ⟨b1, b2⟩ := blB_parts hb
 intro k
 induction k with
 | zero =>
  intro c f h1 h2
  obtain ⟨f, rfl⟩ : ∃ m, f = m + 1 := ⟨f - 1, by omega⟩
  have e : c = cf.length := by omega
  subst e
  show q53q_l0_r _ _ _ = _
  unfold q53q_l0_r
  simp only [lt_not, Bool.false_eq_true, if_false]
  rfl
 | succ k ih =>
  intro c f h1 h2
  obtain ⟨f, rfl⟩ : ∃ m, f = m + 1 := ⟨f - 1, by omega⟩
  have hc : c < cf.length := by omega
  have hin := ts_l2 N cf mv bl hg hb v ((List.range c).map (fun c => (List.range bl.length).map (fun (x : Nat) => if hasL (cf.getD c []) (x : Int) = true then (0 : Int) else -1))) c hc bl.length 0 N (by omega) (by omega)
  simp only [List.range_zero, List.map_nil, Int.natCast_zero] at hin
  have hle : ∀ w : List Int, decide (((List.range c).map (fun c => (List.range bl.length).map (fun (x : Nat) => if hasL (cf.getD c []) (x : Int) = true then (0 : Int) else -1))).length + List.length [w] <= lim) = true := fun w => by
   unfold lim
   simp
   omega
  have fin := ih (c + 1) f (by omega) (by omega)
  rw [<- range_snocT c (fun c => (List.range bl.length).map (fun (x : Nat) => if hasL (cf.getD c []) (x : Int) = true then (0 : Int) else -1))] at fin
  show q53q_l0_r _ _ _ = _
  unfold q53q_l0_r
  simp only [lt_dec hc, if_true, hin, Option.bind_some, hle, small_wrap (show c <= 100000 by omega)]
  exact fin
theorem ts_l10 (N : Nat) (cf mv bl : List (List Int)) (hg : gmB bl.length cf mv = true) (hb : blB bl = true) (v : Unit) (T : Tab) (hT : rcB cf.length bl.length T = true) (t : Nat) (ht : 1 <= t) (next : Tab) (c : Nat) (hc : c < cf.length) (x : Nat) (hx : x < bl.length) (row : List Int) (hr : row.length = bl.length) (hneg : at_ I row x < 0) :
  ∀ (k i f : Nat) (ch : Bool), i + k = (at_ K_Si mv c).length -> k + 1 < f ->
  q53q_l10 N f ((cf, mv, bl, v), T, (t : Int), next, ch, (c : Int), row, (x : Int), (i : Int), ()) =
   some (.inl ((cf, mv, bl, v), T, (t : Int), next, ch || ((at_ K_Si mv c).drop i).any (fun d => decide (0 <= afterG cf (ballA bl) T d (x : Int))), (c : Int), (if ((at_ K_Si mv c).drop i).any (fun d => decide (0 <= afterG cf (ballA bl) T d (x : Int))) = true then row.set x (t : Int) else row), (x : Int), ())) := by
 obtain ⟨g1, g2, g3, g4⟩ := gmB_parts hg
 obtain ⟨b1, b2⟩ := blB_parts hb
 obtain ⟨m1, m2, m3⟩ := g4 c hc
 have i1 : idxIn (c : Int) mv.length = true := idxIn_nat (by omega)
 have i2 : idxIn (x : Int) row.length = true := idxIn_nat (by omega)
 have hxi : inB 0 ((bl.length : Int) - 1) (x : Int) = true := inB_iff.2 (by omega)
 intro k
 induction k with
 | zero =>
  intro i f ch h1 h2
  obtain ⟨f, rfl⟩ : ∃ m, f = m + 1 := ⟨f - 1, by omega⟩
  have e : i = (at_ K_Si mv c).length := by omega
  rw [List.drop_of_length_le (by omega)]
  subst e
  show q53q_l10_r _ _ _ = _
  unfold q53q_l10_r
  simp only [i1, if_true, Int.toNat_natCast, lt_not, Bool.false_eq_true, if_false, List.any_nil, Bool.or_false]
 | succ k ih =>
  intro i f ch h1 h2
  obtain ⟨f, rfl⟩ : ∃ m, f = m + 1 := ⟨f - 1, by omega⟩
  have hi : i < (at_ K_Si mv c).length := by omega
  have ei : at_ I (at_ K_Si mv c) i = (at_ K_Si mv c)[i] := at_get (e := I) hi
  have haf := afterG_some hg hb hT (m3 _ (List.getElem_mem hi)) hxi v ()
  rw [List.drop_eq_getElem_cons hi, List.any_cons]
  show q53q_l10_r _ _ _ = _
  unfold q53q_l10_r
  simp only [i1, if_true, Int.toNat_natCast, lt_dec hi, i2, hneg, decide_true, idxIn_nat hi, ei, haf, Option.bind_some, small_wrap (show i <= 100000 by omega)]
  by_cases h0 : 0 <= afterG cf (ballA bl) T (at_ K_Si mv c)[i] (x : Int)
  ·have h0' : decide (afterG cf (ballA bl) T (at_ K_Si mv c)[i] (x : Int) >= 0) = true := decide_eq_true h0
   simp only [h0', h0, decide_true, if_true, Bool.true_or, Bool.or_true]
   obtain ⟨f, rfl⟩ : ∃ m, f = m + 1 := ⟨f - 1, by omega⟩
   have es : at_ I (row.set x (t : Int)) x = (t : Int) := by
    have e1 : at_ I (row.set x (t : Int)) x = (row.set x (t : Int))[x]'(by rw [List.length_set]; omega) := at_get (e := I) (by rw [List.length_set]; omega)
    rw [e1, List.getElem_set_self]
   have i3 : idxIn (x : Int) (row.set x (t : Int)).length = true := idxIn_nat (by rw [List.length_set]; omega)
   have hpos : decide ((t : Int) < 0) = false := decide_eq_false (by omega)
   show q53q_l10_r _ _ _ = _
   unfold q53q_l10_r
   by_cases hi2 : i + 1 < (at_ K_Si mv c).length
   ·simp only [i1, if_true, Int.toNat_natCast, lt_dec hi2, i3, es, hpos, Bool.false_eq_true, if_false]
   ·have e : decide (((i + 1 : Nat) : Int) < ((at_ K_Si mv c).length : Int)) = false := decide_eq_false (by omega)
    simp only [i1, if_true, Int.toNat_natCast, e, Bool.false_eq_true, if_false]
  ·have h0' : decide (afterG cf (ballA bl) T (at_ K_Si mv c)[i] (x : Int) >= 0) = false := decide_eq_false h0
   simp only [h0', h0, decide_false, Bool.false_eq_true, if_false, Bool.false_or]
   exact ih (i + 1) f ch (by omega) (by omega)
theorem ts_l8 (N : Nat) (hN : 2000 <= N) (cf mv bl : List (List Int)) (hg : gmB bl.length cf mv = true) (hb : blB bl = true) (v : Unit) (T : Tab) (hT : rcB cf.length bl.length T = true) (t : Nat) (ht : 1 <= t) (next : Tab) (c : Nat) (hc : c < cf.length) : ∀ (k x f : Nat) (ch : Bool), x + k = bl.length -> k < f ->
  q53q_l8 N f ((cf, mv, bl, v), T, (t : Int), next, ch, (c : Int), rowU bl.length (fun x => tab2 T (c : Int) (x : Int)) (fun x => if canG cf mv (ballA bl) T c x = true then (t : Int) else tab2 T (c : Int) (x : Int)) x, (x : Int), ()) =
   some (.inl ((cf, mv, bl, v), T, (t : Int), next, ch || (List.range' x k).any (fun x => canG cf mv (ballA bl) T c x), (c : Int), (List.range bl.length).map (fun x => if canG cf mv (ballA bl) T c x = true then (t : Int) else tab2 T (c : Int) (x : Int)), ())) := by
 obtain ⟨g1, g2, g3, g4⟩ := gmB_parts hg
 obtain ⟨b1, b2⟩ := blB_parts hb
 obtain ⟨m1, m2, m3⟩ := g4 c hc
 have i1 : idxIn (c : Int) mv.length = true := idxIn_nat (by omega)
 intro k
 induction k with
 | zero =>
  intro x f ch h1 h2
  obtain ⟨f, rfl⟩ : ∃ m, f = m + 1 := ⟨f - 1, by omega⟩
  have e : x = bl.length := by omega
  subst e
  show q53q_l8_r _ _ _ = _
  unfold q53q_l8_r
  simp only [rowU_full, List.length_map, List.length_range, lt_not, Bool.false_eq_true, if_false, List.range'_zero, List.any_nil, Bool.or_false]
 | succ k ih =>
  intro x f ch h1 h2
  obtain ⟨f, rfl⟩ : ∃ m, f = m + 1 := ⟨f - 1, by omega⟩
  have hx : x < bl.length := by omega
  have hlt : ∀ g h : Nat -> Int, decide (((x : Nat) : Int) < ((rowU bl.length g h x).length : Int)) = true := fun g h => by rw [rowU_len]; exact lt_dec hx
  rw [List.range'_succ, List.any_cons, <- Bool.or_assoc]
  show q53q_l8_r _ _ _ = _
  unfold q53q_l8_r
  by_cases hn : tab2 T (c : Int) (x : Int) < 0
  ·have hin := ts_l10 N cf mv bl hg hb v T hT t ht next c hc x hx (rowU bl.length (fun x => tab2 T (c : Int) (x : Int)) (fun x => if canG cf mv (ballA bl) T c x = true then (t : Int) else tab2 T (c : Int) (x : Int)) x) (rowU_len _ _ _ _) (by rw [rowU_at hx]; exact hn) (at_ K_Si mv c).length 0 N ch (by omega) (by omega)
   simp only [Int.natCast_zero, List.drop_zero] at hin
   have hcan : canG cf mv (ballA bl) T c x = (at_ K_Si mv c).any (fun d => decide (0 <= afterG cf (ballA bl) T d (x : Int))) := by
    unfold canG
    rw [m2]
    simp [hn]
   rw [<- hcan] at hin
   simp only [hlt, if_true, hin, Option.bind_some, small_wrap (show x <= 100000 by omega)]
   by_cases hcc : canG cf mv (ballA bl) T c x = true
   ·have e1 := rowU_set (n := bl.length) (f := fun x => tab2 T (c : Int) (x : Int)) (g := fun x => if canG cf mv (ballA bl) T c x = true then (t : Int) else tab2 T (c : Int) (x : Int)) (v := (t : Int)) hx (if_pos hcc)
    simp only [hcc, if_true, e1]
    exact ih (x + 1) f _ (by omega) (by omega)
   ·have e1 := rowU_keep (n := bl.length) (f := fun x => tab2 T (c : Int) (x : Int)) (g := fun x => if canG cf mv (ballA bl) T c x = true then (t : Int) else tab2 T (c : Int) (x : Int)) (x := x) (if_neg hcc)
    rw [if_neg hcc, e1]
    exact ih (x + 1) f _ (by omega) (by omega)
  ·have hcan : canG cf mv (ballA bl) T c x = false := by
    unfold canG
    simp [hn]
   have e1 := rowU_keep (n := bl.length) (f := fun x => tab2 T (c : Int) (x : Int)) (g := fun x => if canG cf mv (ballA bl) T c x = true then (t : Int) else tab2 T (c : Int) (x : Int)) (x := x) (if_neg (by rw [hcan]; simp))
   have i2 : ∀ g h : Nat -> Int, idxIn (x : Int) (rowU bl.length g h x).length = true := fun g h => by rw [rowU_len]; exact idxIn_nat hx
   have hin : q53q_l10 N N ((cf, mv, bl, v), T, (t : Int), next, ch, (c : Int), rowU bl.length (fun x => tab2 T (c : Int) (x : Int)) (fun x => if canG cf mv (ballA bl) T c x = true then (t : Int) else tab2 T (c : Int) (x : Int)) x, (x : Int), 0, ()) = some (.inl ((cf, mv, bl, v), T, (t : Int), next, ch, (c : Int), rowU bl.length (fun x => tab2 T (c : Int) (x : Int)) (fun x => if canG cf mv (ballA bl) T c x = true then (t : Int) else tab2 T (c : Int) (x : Int)) x, (x : Int), ())) := by
    obtain ⟨M, rfl⟩ : ∃ m, N = m + 1 := ⟨N - 1, by omega⟩
    show q53q_l10_r _ _ _ = _
    unfold q53q_l10_r
    simp only [i1, if_true, Int.toNat_natCast, i2, rowU_at hx, hn, decide_false, Bool.false_eq_true, if_false]
    split <;> rfl
   simp only [hlt, if_true, hin, Option.bind_some, small_wrap (show x <= 100000 by omega), hcan, Bool.or_false]
   rw [e1]
   exact ih (x + 1) f _ (by omega) (by omega)
theorem ts_l6 (N : Nat) (hN : 2000 <= N) (cf mv bl : List (List Int)) (hg : gmB bl.length cf mv = true) (hb : blB bl = true) (v : Unit) (T : Tab) (hT : rcB cf.length bl.length T = true) (t : Nat) (ht : 1 <= t) : ∀ (k c f : Nat) (ch : Bool), c + k = cf.length -> k < f ->
  q53q_l6 N f ((cf, mv, bl, v), T, (t : Int), (List.range c).map (fun c => (List.range bl.length).map (fun x => if canG cf mv (ballA bl) T c x = true then (t : Int) else tab2 T (c : Int) (x : Int))), ch, (c : Int), ()) =
   some (.inl ((cf, mv, bl, v), (t : Int), stepG cf mv (ballA bl) bl.length (t : Int) T, ch || (List.range' c k).any (fun c => (List.range bl.length).any fun x => canG cf mv (ballA bl) T c x), ())) := by
 obtain ⟨g1, g2, g3, g4⟩ := gmB_parts hg
 obtain ⟨b1, b2⟩ := blB_parts hb
 obtain ⟨t1, t2⟩ := rcB_parts hT
 intro k
 induction k with
 | zero =>
  intro c f ch h1 h2
  obtain ⟨f, rfl⟩ : ∃ m, f = m + 1 := ⟨f - 1, by omega⟩
  have e : c = cf.length := by omega
  subst e
  have hlt : decide (((cf.length : Nat) : Int) < (T.length : Int)) = false := by rw [t1]; exact lt_not _
  show q53q_l6_r _ _ _ = _
  unfold q53q_l6_r
  simp only [hlt, Bool.false_eq_true, if_false, List.range'_zero, List.any_nil, Bool.or_false]
  rfl
 | succ k ih =>
  intro c f ch h1 h2
  obtain ⟨f, rfl⟩ : ∃ m, f = m + 1 := ⟨f - 1, by omega⟩
  have hc : c < cf.length := by omega
  have hlt : decide (((c : Nat) : Int) < (T.length : Int)) = true := by rw [t1]; exact lt_dec hc
  have i1 : idxIn (c : Int) T.length = true := by rw [t1]; exact idxIn_nat hc
  have hin := ts_l8 N hN cf mv bl hg hb v T hT t ht ((List.range c).map (fun c => (List.range bl.length).map (fun x => if canG cf mv (ballA bl) T c x = true then (t : Int) else tab2 T (c : Int) (x : Int)))) c hc bl.length 0 N ch (by omega) (by omega)
  rw [rowU_zero] at hin
  simp only [Int.natCast_zero, <- List.range_eq_range'] at hin
  have hle : ∀ w : List Int, decide (((List.range c).map (fun c => (List.range bl.length).map (fun x => if canG cf mv (ballA bl) T c x = true then (t : Int) else tab2 T (c : Int) (x : Int)))).length + List.length [w] <= lim) = true := fun w => by
   unfold lim
   simp
   omega
  have fin := ih (c + 1) f (ch || (List.range bl.length).any (fun x => canG cf mv (ballA bl) T c x)) (by omega) (by omega)
  rw [<- range_snocT c (fun c => (List.range bl.length).map (fun x => if canG cf mv (ballA bl) T c x = true then (t : Int) else tab2 T (c : Int) (x : Int)))] at fin
  have hown := own_some (at_ K_Si T c) (by rw [t2 c hc]; omega)
  rw [row_rc hT hc] at hown
  rw [List.range'_succ, List.any_cons, <- Bool.or_assoc]
  show q53q_l6_r _ _ _ = _
  unfold q53q_l6_r
  simp only [hlt, if_true, i1, Int.toNat_natCast, row_rc hT hc, hown, Option.bind_some, hin, hle, small_wrap (show c <= 100000 by omega)]
  exact fin
theorem ts_l4 (N : Nat) (hN : 2000 <= N) (cf mv bl : List (List Int)) (hg : gmB bl.length cf mv = true) (hb : blB bl = true) (v : Unit) : ∀ (k t : Nat) (T : Tab), rcB cf.length bl.length T = true -> 1 <= t -> t + k <= 2000 -> negsM cf.length bl.length T < k -> ∀ f, k + 1 <= f ->
  q53q_l4 N f ((cf, mv, bl, v), T, (t : Int), ()) = some (.inl (gameT cf mv (ballA bl) bl.length k (t : Int) T, ())) := by
 obtain ⟨g1, g2, g3, g4⟩ := gmB_parts hg
 intro k
 induction k with
 | zero => intro t T _ _ _ h; omega
 | succ k ih =>
  intro t T hT ht h2000 hneg f hf
  obtain ⟨f, rfl⟩ : ∃ m, f = m + 1 := ⟨f - 1, by omega⟩
  have hin := ts_l6 N hN cf mv bl hg hb v T hT t ht cf.length 0 N false (by omega) (by omega)
  simp only [List.range_zero, List.map_nil, Int.natCast_zero, Bool.false_or, <- List.range_eq_range'] at hin
  have hany : ((List.range cf.length).any (fun c => (List.range bl.length).any fun x => canG cf mv (ballA bl) T c x)) = anyG cf mv (ballA bl) bl.length T := rfl
  rw [hany] at hin
  show q53q_l4_r _ _ _ = _
  unfold q53q_l4_r gameT
  simp only [hin, Option.bind_some]
  cases ha : anyG cf mv (ballA bl) bl.length T with
  | true =>
   have := negsM_step (t := (t : Int)) (by omega) ha
   simp only [Bool.not_true, Bool.false_eq_true, if_false, if_true, small_wrap (show t <= 100000 by omega)]
   have := ih (t + 1) (stepG cf mv (ballA bl) bl.length (t : Int) T) (rc_tabM _ _ _) (by omega) (by omega) (by omega) f (by omega)
   exact this
  | false =>
   simp only [Bool.not_false, if_true, Bool.false_eq_true, if_false, stepG_none hT ha]
theorem l4Times_lim (d) (r) (h : G_l4Times d = some r) : ∃ N, F_q53q N d = some r := by
 obtain ⟨⟨cf, mv, bl, v⟩, _⟩ := d
 unfold G_l4Times at h
 split at h
 ·rename_i hc
  simp only [Bool.and_eq_true] at hc
  obtain ⟨hg, hb⟩ := hc
  obtain ⟨g1, g2, g3, g4⟩ := gmB_parts hg
  obtain ⟨b1, b2⟩ := blB_parts hb
  have h := Option.some.inj h
  subst h
  refine ⟨2000, ?_⟩
  have h0 := ts_l0 2000 (by omega) cf mv bl hg hb v cf.length 0 2000 (by omega) (by omega)
  simp only [List.range_zero, List.map_nil, Int.natCast_zero] at h0
  have hneg := negsM_le cf.length bl.length (startG cf bl.length)
  have hmul : cf.length * bl.length <= 120 * 8 := Nat.mul_le_mul g1 b1
  have h4 := ts_l4 2000 (by omega) cf mv bl hg hb v 1000 1 (startG cf bl.length) (rc_tabM _ _ _) (by omega) (by omega) (by omega) 2000 (by omega)
  unfold F_q53q
  simp only [h0, Option.bind_some]
  have e1 : ((1 : Nat) : Int) = 1 := rfl
  rw [e1] at h4
  simp only [h4, Option.bind_some]
  rfl
 ·cases h
end Go.V.W
set_option linter.unusedVariables false
set_option linter.unusedSimpArgs false
namespace Go.V.W
open Go.Proofs
theorem cgB_parts {l : List Int} {v u : Unit} {cf mv : List (List Int)} {T : Tab} (h : cgB ((l, v), cf, mv, T, u) = true) : netB l = true /\ 1 <= l.length /\ gmB l.length cf mv = true /\ rcB cf.length l.length T = true := by
 unfold cgB at h
 simp only [Bool.and_eq_true, decide_eq_true_eq] at h
 exact ⟨h.1.1.1, h.1.1.2, h.1.2, h.2⟩
theorem timeAfter_some {l : List Int} (hl : netB l = true) {cf : List (List Int)} {T : Tab} (hT : rcB cf.length l.length T = true) {d x : Nat} (hd : d < cf.length) (hx : x < l.length) (v u : Unit) : G_timeAfter ((l, v), at_ K_Si T d, (x : Int), u) = some (worstL (tab2 T (d : Int)) (ballM l (x : Int)) 0, ()) := by
 obtain ⟨t1, t2⟩ := rcB_parts hT
 have hlen : decide ((at_ K_Si T d).length = l.length) = true := decide_eq_true (t2 d hd)
 have i2 : inB 0 ((l.length : Int) - 1) (x : Int) = true := inB_iff.2 (by omega)
 have hlt : d < T.length := by omega
 have ea : at_ K_Si T d = T.getD d [] := by
  have : at_ K_Si T d = T[d] := at_get (e := K_Si) hlt
  rw [this, List.getD_eq_getElem?_getD, List.getElem?_eq_getElem hlt]
  rfl
 unfold G_timeAfter
 simp only [hl, hlen, i2, Bool.and_self, if_true]
 rw [ea]
 rfl
theorem can1g_some {l : List Int} {v u : Unit} {cf mv : List (List Int)} {T : Tab} (h : cgB ((l, v), cf, mv, T, u) = true) {d x : Nat} (hd : d < cf.length) (hx : x < l.length) (a b e : Unit) : FV_q15q ((d : Int), (a, ((l, v), cf, mv, T, u), (x : Int), b), e) = some (decide (0 <= afterG cf (ballM l) T (d : Int) (x : Int)), ()) := by
 obtain ⟨h1, h2, h3, h4⟩ := cgB_parts h
 obtain ⟨g1, g2, g3, g4⟩ := gmB_parts h3
 obtain ⟨y1, y2, y3⟩ := g3 d hd
 obtain ⟨t1, t2⟩ := rcB_parts h4
 have i1 : idxIn (d : Int) T.length = true := idxIn_nat (by omega)
 unfold FV_q15q F_q15q afterG
 simp only [idxIn_nat hd, if_true, Int.toNat_natCast, has2 (okL_of (show (at_ K_Si cf d).length <= 1048576 by omega)), Option.bind_some, y2, i1, timeAfter_some h1 h4 hd hx]
 by_cases hh : hasL (at_ K_Si cf d) (x : Int) = true
 ·simp only [hh, if_true]
  rfl
 ·simp only [hh, Bool.false_eq_true, if_false]
theorem gameCan_lim (d) (r) (h : G_gameCan d = some r) : ∃ N, F_q4q N d = some r := by
 obtain ⟨xs, ⟨a, ⟨⟨l, v⟩, cf, mv, T, u⟩, q, b⟩, _⟩ := d
 unfold G_gameCan at h
 split at h
 ·rename_i hc
  simp only [Bool.and_eq_true, decide_eq_true_eq] at hc
  obtain ⟨⟨⟨hg, hq'⟩, hlen⟩, hxs⟩ := hc
  obtain ⟨q, rfl, hq⟩ := nodeX hq'
  have h := Option.some.inj h
  subst h
  have hlen : xs.length <= 1000 := hlen
  have hmx : xs.length <= maxLen := by unfold maxLen; omega
  refine ⟨xs.length + 1, ?_⟩
  unfold F_q4q
  have := loop_idx (L := q4q_l0 (xs.length + 1)) (r := q4q_l0_r (xs.length + 1)) (fun _ _ => rfl) (e := I) xs (mk := fun i => (xs, (a, ((l, v), cf, mv, T, u), (q : Int), b), (xs.length : Int), (i : Int), ())) (q := fun b => decide (0 <= afterG cf (ballM l) T b (q : Int))) (o := fun i => .inl ((i : Int), ())) (f := .inr (.inl ()))
   (by
    intro back i hi
    have hx : at_ I xs i = xs[i] := at_get (e := I) hi
    obtain ⟨y, b1, b2⟩ := nodeX (List.all_eq_true.1 hxs xs[i] (List.getElem_mem hi))
    have hcan := can1g_some hg b2 hq a b ()
    rw [<- b1] at hcan
    unfold q4q_l0_r
    simp only [lt_dec hi, if_true, idxIn_nat hi, Int.toNat_natCast, wrap_up hi hmx, hx, hcan, Option.bind_some])
   (by intro back; unfold q4q_l0_r; simp only [lt_not, Bool.false_eq_true, if_false]) xs.length 0 (by omega) (by omega)
  simp only [Int.natCast_zero, List.drop_zero] at this
  simp only [this, Option.bind_some]
  cases idxN (fun b => decide (0 <= afterG cf (ballM l) T b (q : Int))) xs 0 <;> rfl
 ·cases h
theorem gcan_some {l : List Int} {v u : Unit} {cf mv : List (List Int)} {T : Tab} (h : cgB ((l, v), cf, mv, T, u) = true) {c x : Nat} (hc : c < cf.length) (hx : x < l.length) (b : Unit) : F_q19q 0 (((l, v), cf, mv, T, u), (c : Int), (x : Int), b) = some ((at_ K_Si mv c).any (fun d => decide (0 <= afterG cf (ballM l) T d (x : Int))), ()) := by
 obtain ⟨h1, h2, h3, h4⟩ := cgB_parts h
 obtain ⟨g1, g2, g3, g4⟩ := gmB_parts h3
 obtain ⟨m1, m2, m3⟩ := g4 c hc
 have i1 : idxIn (c : Int) mv.length = true := idxIn_nat (by omega)
 have i2 : inB 0 ((l.length : Int) - 1) (x : Int) = true := inB_iff.2 (by omega)
 have hall : (at_ K_Si mv c).all (inB 0 ((cf.length : Int) - 1)) = true := List.all_eq_true.2 m3
 have hlen : decide ((at_ K_Si mv c).length <= 1000) = true := decide_eq_true m1
 unfold F_q19q F_q3q
 simp only [i1, if_true, Int.toNat_natCast, G_gameCan, h, i2, hlen, hall, Bool.and_self, Option.bind_some, idxI_ge]
theorem has_take {c : List Int} {j : Nat} (hj : j < c.length) (x : Int) : hasL (c.take (j + 1)) x = (hasL (c.take j) x || c[j] == x) := by
 unfold hasL
 rw [List.take_add_one, List.any_append, List.getElem?_eq_getElem hj]
 simp
theorem cg_l2 (N : Nat) (w : Nt) (y : Cg) (a : List (List Int)) (b e : Int) (n : Nat) (c : List Int) (hc3 : c.length <= 3) (hc : ∀ x ∈ c, inB 0 ((n : Int) - 1) x = true) : ∀ q j f, j + q = c.length -> q < f ->
  q21q_l2 N f (w, y, (List.range n).map (fun (x : Nat) => if hasL (c.take j) (x : Int) = true then (0 : Int) else -1), a, b, e, c, (c.length : Int), (j : Int), ()) = some (.inl (w, y, (List.range n).map (fun (x : Nat) => if hasL c (x : Int) = true then (0 : Int) else -1), a, b, e, ())) := by
 intro q
 induction q with
 | zero =>
  intro j f e1 e2
  obtain ⟨f, rfl⟩ : ∃ m, f = m + 1 := ⟨f - 1, by omega⟩
  have e : j = c.length := by omega
  subst e
  rw [List.take_of_length_le (Nat.le_refl _)]
  show q21q_l2_r _ _ _ = _
  unfold q21q_l2_r
  simp only [lt_not, Bool.false_eq_true, if_false]
 | succ q ih =>
  intro j f e1 e2
  obtain ⟨f, rfl⟩ : ∃ m, f = m + 1 := ⟨f - 1, by omega⟩
  have hj : j < c.length := by omega
  obtain ⟨z, hz, hzn⟩ := nodeX (hc c[j] (List.getElem_mem hj))
  have ej : at_ I c j = (z : Int) := (at_get (e := I) hj).trans hz
  have i1 : ∀ g : Nat -> Int, idxIn (z : Int) ((List.range n).map g).length = true := fun g => idxIn_nat (by simpa using hzn)
  have fin := ih (j + 1) f (by omega) (by omega)
  have er : (List.range n).map (fun (x : Nat) => if hasL (c.take (j + 1)) (x : Int) = true then (0 : Int) else -1) = ((List.range n).map (fun (x : Nat) => if hasL (c.take j) (x : Int) = true then (0 : Int) else -1)).set z 0 := by
   rw [map_set]
   refine List.map_congr_left fun x _ => ?_
   rw [has_take hj, hz]
   by_cases exz : x = z
   ·subst exz; simp
   ·have : ((z : Int) == (x : Int)) = false := by simp; omega
    rw [this, Bool.or_false, if_neg exz]
  rw [er] at fin
  show q21q_l2_r _ _ _ = _
  unfold q21q_l2_r
  simp only [lt_dec hj, if_true, idxIn_nat hj, Int.toNat_natCast, ej, i1, small_wrap (show j <= 100000 by omega)]
  exact fin
theorem cg_l0 (N : Nat) (hN : 10 <= N) (l : List Int) (v : Unit) (h1 : 1 <= l.length) (h8 : l.length <= 8) (net : Nt) (cf mv : List (List Int)) (u : Unit) (hg : gmB l.length cf mv = true) : ∀ q i f (acc : Tab), i + q = cf.length -> q < f -> acc.length + q <= 1000 ->
  q21q_l0 N f ((l, v), (net, cf, mv, acc, u), cf, (cf.length : Int), (i : Int), ()) = some (.inl ((net, cf, mv, acc ++ (List.range' i q).map (fun c => (List.range l.length).map (fun (x : Nat) => if hasL (cf.getD c []) (x : Int) = true then (0 : Int) else -1)), u), ())) := by
 obtain ⟨g1, g2, g3, g4⟩ := gmB_parts hg
 intro q
 induction q with
 | zero =>
  intro i f acc e1 e2 e3
  obtain ⟨f, rfl⟩ : ∃ m, f = m + 1 := ⟨f - 1, by omega⟩
  have e : i = cf.length := by omega
  subst e
  show q21q_l0_r _ _ _ = _
  unfold q21q_l0_r
  simp only [lt_not, Bool.false_eq_true, if_false, List.range'_zero, List.map_nil, List.append_nil]
 | succ q ih =>
  intro i f acc e1 e2 e3
  obtain ⟨f, rfl⟩ : ∃ m, f = m + 1 := ⟨f - 1, by omega⟩
  have hi : i < cf.length := by omega
  obtain ⟨y1, y2, y3⟩ := g3 i hi
  have hr : G_repeat ([-1], (l.length : Int), ()) = some ((List.range l.length).map (fun (x : Nat) => if hasL ((at_ K_Si cf i).take 0) (x : Int) = true then (0 : Int) else -1), ()) := by
   unfold G_repeat
   have e1 : decide (1 <= (l.length : Int)) = true := by simp; omega
   have e2 : decide ((l.length : Int) <= 8) = true := by simp; omega
   simp only [List.length_singleton, decide_true, e1, e2, Bool.and_self, if_true, Int.toNat_natCast, List.headD_cons]
   congr 2
   apply List.ext_getElem
   ·simp
   ·intro i h1 h2
    simp [hasL]
  have hin := cg_l2 N (l, v) (net, cf, mv, acc, u) cf (cf.length : Int) (i : Int) l.length (at_ K_Si cf i) y1 y3 (at_ K_Si cf i).length 0 N (by omega) (by omega)
  simp only [Int.natCast_zero] at hin
  have c1 : ∀ x : List Int, decide (acc.length + List.length [x] <= lim) = true := fun x => by unfold lim; simp; omega
  show q21q_l0_r _ _ _ = _
  unfold q21q_l0_r g_q32q
  simp only [lt_dec hi, if_true, idxIn_nat hi, Int.toNat_natCast, hr, Option.bind_some, hin, c1, small_wrap (show i <= 100000 by omega)]
  rw [ih (i + 1) f _ (by omega) (by omega) (by simp; omega), List.range'_succ, List.map_cons, List.append_assoc, List.singleton_append, y2]
theorem cg_l8 (N : Nat) {l : List Int} {v u : Unit} {cf mv : List (List Int)} {T : Tab} (h : cgB ((l, v), cf, mv, T, u) = true) (t : Int) (fd : Bool) (c : Nat) (hc : c < cf.length) (a b : Int) : ∀ (k x f : Nat) (fresh : List E), x + k = l.length -> k < f -> fresh.length + k <= 2000 ->
  q21q_l8 N f (((l, v), cf, mv, T, u), t, fd, fresh, (c : Int), a, b, (l.length : Int), (x : Int), (), (c : Int), ()) =
   some (.inl (((l, v), cf, mv, T, u), t, fd, fresh ++ rowE (canG cf mv (ballM l) T) c k x, a, b, (), ())) := by
 obtain ⟨h1, h2, h3, h4⟩ := cgB_parts h
 obtain ⟨g1, g2, g3, g4⟩ := gmB_parts h3
 obtain ⟨m1, m2, m3⟩ := g4 c hc
 obtain ⟨t1, t2⟩ := rcB_parts h4
 obtain ⟨p1, p2, p3, p4⟩ := netB_parts h1
 intro k
 induction k with
 | zero =>
  intro x f fresh e1 e2 e3
  obtain ⟨f, rfl⟩ : ∃ m, f = m + 1 := ⟨f - 1, by omega⟩
  have e : x = l.length := by omega
  subst e
  show q21q_l8_r _ _ _ = _
  unfold q21q_l8_r
  simp only [lt_not, Bool.false_eq_true, if_false, rowE, List.append_nil]
 | succ k ih =>
  intro x f fresh e1 e2 e3
  obtain ⟨f, rfl⟩ : ∃ m, f = m + 1 := ⟨f - 1, by omega⟩
  have hx : x < l.length := by omega
  have i2 : idxIn (x : Int) (at_ K_Si T c).length = true := idxIn_nat (by rw [t2 c hc]; exact hx)
  have hv := tab2_rc h4 hc hx
  have hle : decide (fresh.length + List.length [(((c : Int), (x : Int), ()) : E)] <= lim) = true := by
   unfold lim
   simp
   omega
  show q21q_l8_r _ _ _ = _
  unfold q21q_l8_r
  simp only [lt_dec hx, if_true, Int.toNat_natCast, i2, hv, gcan_some h hc hx, Option.bind_some, hle, small_wrap (show x <= 100000 by omega), rowE]
  have hcan : canG cf mv (ballM l) T c x = (decide (tab2 T (c : Int) (x : Int) < 0) && (at_ K_Si mv c).any (fun d => decide (0 <= afterG cf (ballM l) T d (x : Int)))) := by
   unfold canG
   rw [m2]
  by_cases hf : tab2 T (c : Int) (x : Int) < 0
  ·cases hany : (at_ K_Si mv c).any (fun d => decide (0 <= afterG cf (ballM l) T d (x : Int))) with
   | true =>
    rw [hany] at hcan
    simp only [hf, decide_true, Bool.and_self] at hcan
    simp only [hf, decide_true, if_true, hcan]
    rw [ih (x + 1) f _ (by omega) (by omega) (by simp; omega)]
    simp
   | false =>
    rw [hany, Bool.and_false] at hcan
    simp only [hf, decide_true, if_true, hcan, Bool.false_eq_true, if_false]
    exact ih (x + 1) f fresh (by omega) (by omega) (by omega)
  ·simp only [hf, decide_false, Bool.false_and] at hcan
   simp only [hf, decide_false, Bool.false_eq_true, if_false, hcan]
   exact ih (x + 1) f fresh (by omega) (by omega) (by omega)
theorem cg_l6 (N : Nat) (hN : 10 <= N) {l : List Int} {v u : Unit} {cf mv : List (List Int)} {T : Tab} (h : cgB ((l, v), cf, mv, T, u) = true) (t : Int) (fd : Bool) : ∀ (k c f : Nat) (fresh : List E), c + k = cf.length -> k < f -> fresh.length + 8 * k <= 1000 ->
  q21q_l6 N f (((l, v), cf, mv, T, u), t, fd, fresh, (cf.length : Int), (c : Int), (), ()) =
   some (.inl (((l, v), cf, mv, T, u), t, fd, fresh ++ allP (canG cf mv (ballM l) T) l.length k c, ())) := by
 obtain ⟨h1, h2, h3, h4⟩ := cgB_parts h
 obtain ⟨g1, g2, g3, g4⟩ := gmB_parts h3
 obtain ⟨t1, t2⟩ := rcB_parts h4
 obtain ⟨p1, p2, p3, p4⟩ := netB_parts h1
 intro k
 induction k with
 | zero =>
  intro c f fresh e1 e2 e3
  obtain ⟨f, rfl⟩ : ∃ m, f = m + 1 := ⟨f - 1, by omega⟩
  have e : c = cf.length := by omega
  subst e
  show q21q_l6_r _ _ _ = _
  unfold q21q_l6_r
  simp only [lt_not, Bool.false_eq_true, if_false, allP, List.append_nil]
 | succ k ih =>
  intro c f fresh e1 e2 e3
  obtain ⟨f, rfl⟩ : ∃ m, f = m + 1 := ⟨f - 1, by omega⟩
  have hc : c < cf.length := by omega
  have i1 : idxIn (c : Int) T.length = true := idxIn_nat (by omega)
  have hin := cg_l8 N h t fd c hc (cf.length : Int) (c : Int) l.length 0 N fresh (by omega) (by omega) (by omega)
  simp only [Int.natCast_zero] at hin
  have hrl := rowE_len (p := canG cf mv (ballM l) T) (x := c) (m := l.length) (y := 0)
  show q21q_l6_r _ _ _ = _
  unfold q21q_l6_r
  simp only [lt_dec hc, if_true, i1, Int.toNat_natCast, t2 c hc, hin, Option.bind_some, small_wrap (show c <= 100000 by omega), allP]
  rw [ih (c + 1) f _ (by omega) (by omega) (by simp; omega), List.append_assoc]
theorem tabM_set {m n : Nat} {g : Nat -> Nat -> Int} {x z : Nat} (hx : x < m) (hz : z < n) (t : Int) : List.set (tabM m n g) x (List.set (at_ K_Si (tabM m n g) x) z t) = tabM m n fun c r => if c = x /\ r = z then t else g c r := by
 have hl : x < (tabM m n g).length := by rw [tabM_len]; exact hx
 have e : at_ K_Si (tabM m n g) x = (tabM m n g)[x] := at_get (e := K_Si) hl
 have hrow := tabM_row (n := n) g hx
 rw [List.getElem?_eq_getElem hl] at hrow
 rw [e, Option.some.inj hrow, map_set]
 apply List.ext_getElem
 ·simp [tabM]
 ·intro i h1 h2
  rw [List.getElem_set]
  by_cases ei : x = i
  ·subst ei
   simp only [if_true, tabM, List.getElem_map, List.getElem_range, true_and]
  ·have ei' : ¬ i = x := fun h => ei h.symm
   simp only [ei, if_false, tabM, List.getElem_map, List.getElem_range, ei', false_and]
theorem cg_l10 (N : Nat) (w : Nt) (cf mv : List (List Int)) (u : Unit) (m n : Nat) (t : Int) (fresh : List E) (hfr : ∀ e ∈ fresh, ∃ x z : Nat, x < m /\ z < n /\ e = ((x : Int), (z : Int), ())) (hl : fresh.length <= 1000) : ∀ (k i f : Nat) (g : Nat -> Nat -> Int) (fd : Bool), i + k = fresh.length -> k < f ->
  q21q_l10 N f ((w, cf, mv, tabM m n g, u), t, fd, fresh, (fresh.length : Int), (i : Int), ()) =
   some (.inl ((w, cf, mv, tabM m n (fun c r => if (fresh.drop i).any (isP c r) = true then t else g c r), u), t, fd || decide (0 < k), ())) := by
 intro k
 induction k with
 | zero =>
  intro i f g fd h1 h2
  obtain ⟨f, rfl⟩ : ∃ m, f = m + 1 := ⟨f - 1, by omega⟩
  have e : i = fresh.length := by omega
  subst e
  show q21q_l10_r _ _ _ = _
  unfold q21q_l10_r
  rw [List.drop_of_length_le (Nat.le_refl _)]
  simp only [lt_not, Bool.false_eq_true, if_false, List.any_nil, Nat.lt_irrefl, decide_false, Bool.or_false]
 | succ k ih =>
  intro i f g fd h1 h2
  obtain ⟨f, rfl⟩ : ∃ m, f = m + 1 := ⟨f - 1, by omega⟩
  have hi : i < fresh.length := by omega
  obtain ⟨x, z, hx, hz, ee⟩ := hfr fresh[i] (List.getElem_mem hi)
  have e : at_ K_Piiq fresh i = ((x : Int), (z : Int), ()) := (at_get (e := K_Piiq) hi).trans ee
  obtain ⟨t1, t2⟩ := rcB_parts (rc_tabM m n g)
  have i1 : idxIn (x : Int) (tabM m n g).length = true := idxIn_nat (by omega)
  have i2 : idxIn (z : Int) (at_ K_Si (tabM m n g) x).length = true := idxIn_nat (by rw [t2 x hx]; exact hz)
  show q21q_l10_r _ _ _ = _
  unfold q21q_l10_r
  simp only [lt_dec hi, if_true, idxIn_nat hi, Int.toNat_natCast, e, i1, i2, small_wrap (show i <= 100000 by omega), tabM_set hx hz]
  rw [ih (i + 1) f _ true (by omega) (by omega), List.drop_eq_getElem_cons hi, ee]
  have et : tabM m n (fun c r => if (fresh.drop (i + 1)).any (isP c r) = true then t else if c = x /\ r = z then t else g c r) = tabM m n fun c r => if (((x : Int), (z : Int), ()) :: fresh.drop (i + 1)).any (isP c r) = true then t else g c r := tabM_congr fun c r _ _ => by
   rw [List.any_cons]
   by_cases h3 : (fresh.drop (i + 1)).any (isP c r) = true
   ·simp [h3]
   ·have h3' : (fresh.drop (i + 1)).any (isP c r) = false := by simpa using h3
    by_cases h4 : c = x /\ r = z
    ·have : isP c r ((x : Int), (z : Int), ()) = true := by
      unfold isP
      simp [h4.1, h4.2]
     rw [if_neg h3, if_pos h4, this, Bool.true_or, if_pos rfl]
    ·have : isP c r ((x : Int), (z : Int), ()) = false := by
      unfold isP
      simp only [Bool.and_eq_false_iff, beq_eq_false_iff_ne, ne_eq]
      by_cases h5 : c = x
      ·exact .inr fun h => h4 ⟨h5, by omega⟩
      ·exact .inl fun h => h5 (by omega)
     simp [h3', h4, this]
  rw [et]
  simp
theorem allP_anyM {p : Nat -> Nat -> Bool} {m n c r : Nat} (hc : c < m) (hr : r < n) : (allP p n m 0).any (isP c r) = p c r := by
 apply Bool.eq_iff_iff.2
 rw [List.any_eq_true]
 constructor
 ·rintro ⟨e, he, h⟩
  obtain ⟨x, z, h1, h2, h3, h4, rfl⟩ := allP_mem.1 he
  unfold isP at h
  simp only [Bool.and_eq_true, beq_iff_eq] at h
  have e1 : x = c := by omega
  have e2 : z = r := by omega
  subst e1 e2
  exact h4
 ·intro h
  exact ⟨((c : Int), (r : Int), ()), allP_mem.2 ⟨c, r, Nat.zero_le _, by omega, hr, h, rfl⟩, by unfold isP; simp⟩
theorem allP_posM {cf mv : List (List Int)} {ball : Int -> List Int} {n : Nat} {T : Tab} : decide (0 < (allP (canG cf mv ball T) n cf.length 0).length) = anyG cf mv ball n T := by
 apply Bool.eq_iff_iff.2
 rw [decide_eq_true_eq, anyG_spec]
 constructor
 ·intro h
  obtain ⟨x, z, h1, h2, h3, h4, _⟩ := allP_mem.1 (List.getElem_mem h)
  exact ⟨x, z, by omega, h3, h4⟩
 ·rintro ⟨c, r, hc, hr, h⟩
  exact List.length_pos_of_mem (allP_mem.2 ⟨c, r, Nat.zero_le _, by omega, hr, h, rfl⟩)
theorem cg_l4 (N : Nat) (hN : 2000 <= N) {l : List Int} {v u : Unit} {cf mv : List (List Int)} (hl : netB l = true) (h1 : 1 <= l.length) (hg : gmB l.length cf mv = true) : ∀ (k t : Nat) (T : Tab), rcB cf.length l.length T = true -> t + k <= 2000 -> negsM cf.length l.length T < k -> ∀ f, k + 1 <= f ->
  q21q_l4 N f (((l, v), cf, mv, T, u), (t : Int), true, ()) = some (.inl (((l, v), cf, mv, gameT cf mv (ballM l) l.length k (t : Int) T, u), ())) := by
 obtain ⟨g1, g2, g3, g4⟩ := gmB_parts hg
 obtain ⟨p1, p2, p3, p4⟩ := netB_parts hl
 intro k
 induction k with
 | zero => intro t T _ _ h; omega
 | succ k ih =>
  intro t T hT ht hng f hf
  obtain ⟨f, rfl⟩ : ∃ m, f = m + 1 := ⟨f - 1, by omega⟩
  have h : cgB ((l, v), cf, mv, T, u) = true := by
   unfold cgB
   simp only [hl, hg, hT, h1, decide_true, Bool.and_self]
  obtain ⟨t1, t2⟩ := rcB_parts hT
  have h6 := cg_l6 N (by omega) h (t : Int) false cf.length 0 N [] (by omega) (by omega) (by simp; omega)
  simp only [Int.natCast_zero, List.nil_append] at h6
  have hlen := allP_len (p := canG cf mv (ballM l) T) (n := l.length) (k := cf.length) (c := 0)
  have hnn : l.length * cf.length <= 8 * 120 := Nat.mul_le_mul p3 g1
  have h10 := cg_l10 N (l, v) cf mv u cf.length l.length (t : Int) (allP (canG cf mv (ballM l) T) l.length cf.length 0) (fun e he => by
   obtain ⟨x, z, _, h2, h3, _, h5⟩ := allP_mem.1 he
   exact ⟨x, z, by omega, h3, h5⟩) (by omega) (allP (canG cf mv (ballM l) T) l.length cf.length 0).length 0 N (fun c x => tab2 T (c : Int) (x : Int)) false (by omega) (by omega)
  rw [tabM_self hT] at h10
  simp only [Int.natCast_zero, List.drop_zero, Bool.false_or, allP_posM] at h10
  have et : tabM cf.length l.length (fun c r => if (allP (canG cf mv (ballM l) T) l.length cf.length 0).any (isP c r) = true then (t : Int) else tab2 T (c : Int) (r : Int)) = stepG cf mv (ballM l) l.length (t : Int) T := tabM_congr fun c r hc hr => by
   rw [allP_anyM hc hr]
  rw [et] at h10
  show q21q_l4_r _ _ _ = _
  unfold q21q_l4_r
  simp only [if_true, t1, h6, Option.bind_some, h10, small_wrap (show t <= 100000 by omega), gameT]
  by_cases ha : anyG cf mv (ballM l) l.length T = true
  ·rw [if_pos ha, ha]
   have := negsM_step (t := (t : Int)) (by omega) ha
   exact ih (t + 1) (stepG cf mv (ballM l) l.length (t : Int) T) (rc_tabM _ _ _) (by omega) (by omega) f (by omega)
  ·have ha' : anyG cf mv (ballM l) l.length T = false := (Bool.not_eq_true _).mp ha
   rw [if_neg ha, ha', stepG_none hT ha']
   obtain ⟨f, rfl⟩ : ∃ m, f = m + 1 := ⟨f - 1, by omega⟩
   rfl
theorem copGame_lim (d) (r) (h : G_copGame d = some r) : ∃ N, F_q21q N d = some r := by
 obtain ⟨⟨l, v⟩, k, _⟩ := d
 unfold G_copGame at h
 split at h
 ·rename_i hc
  simp only [Bool.and_eq_true, decide_eq_true_eq] at hc
  obtain ⟨⟨hl, h1⟩, hk⟩ := hc
  have hl : netB l = true := hl
  have h1 : 1 <= l.length := h1
  have hk2 := inB_iff.1 hk
  obtain ⟨p1, p2, p3, p4⟩ := netB_parts hl
  have h := Option.some.inj h
  subst h
  refine ⟨2000, ?_⟩
  have hg := board_ok (n := l.length) p3 (k := k.toNat) (by omega) (ball := ballM l) (fun x _ => ballM_len l _) (fun x hx => ballM_in hl hx)
  obtain ⟨g1, g2, g3, g4⟩ := gmB_parts hg
  have hb : G_copBoard ((l, v), k, ()) = some (((l, v), confL l.length k.toNat, movesI (ballM l) (confL l.length k.toNat), [], ()), ()) := by
   unfold G_copBoard
   simp only [hl, hk, Bool.and_self, if_true]
  have h0 := cg_l0 2000 (by omega) l v h1 p3 (l, v) (confL l.length k.toNat) (movesI (ballM l) (confL l.length k.toNat)) () hg (confL l.length k.toNat).length 0 2000 [] (by omega) (by omega) (by simp; omega)
  simp only [Int.natCast_zero, List.nil_append, <- List.range_eq_range'] at h0
  have e0 : (List.range (confL l.length k.toNat).length).map (fun c => (List.range l.length).map (fun (x : Nat) => if hasL ((confL l.length k.toNat).getD c []) (x : Int) = true then (0 : Int) else -1)) = startG (confL l.length k.toNat) l.length := rfl
  rw [e0] at h0
  have hneg := negsM_le (confL l.length k.toNat).length l.length (startG (confL l.length k.toNat) l.length)
  have hmul : (confL l.length k.toNat).length * l.length <= 120 * 8 := Nat.mul_le_mul g1 p3
  have h4 := cg_l4 2000 (by omega) (v := v) (u := ()) hl h1 hg 1000 1 (startG (confL l.length k.toNat) l.length) (rc_tabM _ _ _) (by omega) (by omega) 2000 (by omega)
  have e1 : ((1 : Nat) : Int) = 1 := rfl
  rw [e1] at h4
  unfold F_q21q
  simp only [hb, Option.bind_some, h0, h4]
  rfl
 ·cases h
end Go.V.W
set_option linter.unusedVariables false
set_option linter.unusedSimpArgs false
namespace Go.V.W
open Go.Proofs
theorem after_congr {cf : List (List Int)} {b1 b2 : Int -> List Int} {T : Tab} {d x : Int} (h : b1 x = b2 x) : afterG cf b1 T d x = afterG cf b2 T d x := by
 unfold afterG
 rw [h]
theorem canG_congr {cf mv : List (List Int)} {b1 b2 : Int -> List Int} {T : Tab} {c x : Nat} (h : b1 (x : Int) = b2 (x : Int)) : canG cf mv b1 T c x = canG cf mv b2 T c x := by
 unfold canG
 simp only [after_congr (cf := cf) (T := T) h]
theorem anyG_congr {cf mv : List (List Int)} {b1 b2 : Int -> List Int} {n : Nat} (h : ∀ x : Nat, x < n -> b1 (x : Int) = b2 (x : Int)) (T : Tab) : anyG cf mv b1 n T = anyG cf mv b2 n T := by
 apply bool_eq_iff
 rw [anyG_spec, anyG_spec]
 constructor
 ·rintro ⟨c, x, hc, hx, h2⟩
  exact ⟨c, x, hc, hx, by rw [<- canG_congr (h x hx)]; exact h2⟩
 ·rintro ⟨c, x, hc, hx, h2⟩
  exact ⟨c, x, hc, hx, by rw [canG_congr (h x hx)]; exact h2⟩
theorem gameT_congr {cf mv : List (List Int)} {b1 b2 : Int -> List Int} {n : Nat} (h : ∀ x : Nat, x < n -> b1 (x : Int) = b2 (x : Int)) : ∀ (k : Nat) (t : Int) (T : Tab), gameT cf mv b1 n k t T = gameT cf mv b2 n k t T := by
 intro k
 induction k with
 | zero => intro t T; rfl
 | succ k ih =>
  intro t T
  unfold gameT
  rw [anyG_congr h T]
  have : stepG cf mv b1 n t T = stepG cf mv b2 n t T := tabM_congr fun c x hc hx => by rw [canG_congr (h x hx)]
  rw [this, ih]
theorem times_congr {cf mv : List (List Int)} {b1 b2 : Int -> List Int} {n : Nat} (h : ∀ x : Nat, x < n -> b1 (x : Int) = b2 (x : Int)) : timesG cf mv b1 n = timesG cf mv b2 n := gameT_congr h _ _ _
theorem gameT_rc {cf mv : List (List Int)} {ball : Int -> List Int} {n : Nat} : ∀ (k : Nat) (t : Int) (T : Tab), rcB cf.length n T = true -> rcB cf.length n (gameT cf mv ball n k t T) = true := by
 intro k
 induction k with
 | zero => intro t T h; exact h
 | succ k ih =>
  intro t T h
  unfold gameT
  split
  ·exact ih _ _ (rc_tabM _ _ _)
  ·exact h
theorem times_rc (cf mv : List (List Int)) (ball : Int -> List Int) (n : Nat) : rcB cf.length n (timesG cf mv ball n) = true := gameT_rc _ _ _ (rc_tabM _ _ _)
theorem tm_rc (g : Gr) (k : Nat) : rcB (cfG g k).length g.1.toNat (tmG g k) = true := times_rc _ _ _ _
theorem ballA_L {n : Nat} (es : List E) {x : Nat} (hx : x < n) : ballA (ballsL n es) (x : Int) = ballF n es (x : Int) := by
 unfold ballA ballsL
 rw [Int.toNat_natCast, List.getD_eq_getElem?_getD, List.getElem?_map, List.getElem?_range hx]
 rfl
theorem ballsL_len (n : Nat) (es : List E) : (ballsL n es).length = n := by simp [ballsL]
theorem balls_ok {n : Nat} (hn : n <= 8) (es : List E) : blB (ballsL n es) = true := by
 unfold blB
 rw [ballsL_len, Bool.and_eq_true]
 refine ⟨decide_eq_true hn, List.all_eq_true.2 fun b hb => ?_⟩
 unfold ballsL at hb
 obtain ⟨x, _, rfl⟩ := List.mem_map.1 hb
 have := ballF_len n es (x : Int)
 rw [Bool.and_eq_true]
 exact ⟨decide_eq_true (by omega), List.all_eq_true.2 (ballF_in es (x : Int))⟩
theorem field_parts {n : Int} {es : List E} {v : Unit} {k : Int} (h : fieldB (n, es, v) k = true) : graphB (n, es, v) = true /\ ∃ m q : Nat, n = (m : Int) /\ k = (q : Int) /\ 1 <= m /\ m <= 8 /\ 1 <= q /\ q <= 3 := by
 unfold fieldB at h
 simp only [Bool.and_eq_true, decide_eq_true_eq] at h
 obtain ⟨⟨h1, h2⟩, h3⟩ := h
 obtain ⟨h4, h5⟩ := graphB_n h1
 have h3 := inB_iff.1 h3
 exact ⟨h1, n.toNat, k.toNat, by omega, by omega, by omega, by omega, by omega, by omega⟩
theorem game_spec {m q : Nat} {es : List E} {v : Unit} (hg : graphB ((m : Int), es, v) = true) (ho : okL es = true) (hq : q <= 3) (u w : Unit) :
  G_l4Make (((m : Int), es, v), (q : Int), u) = some ((cfG ((m : Int), es, v) q, mvG ((m : Int), es, v) q, ballsL m es, ()), ()) /\ G_l4Times ((cfG ((m : Int), es, v) q, mvG ((m : Int), es, v) q, ballsL m es, ()), w) = some (tmG ((m : Int), es, v) q, ()) /\
  gmB (ballsL m es).length (cfG ((m : Int), es, v) q) (mvG ((m : Int), es, v) q) = true /\ blB (ballsL m es) = true := by
 obtain ⟨h0, h8⟩ := graphB_n hg
 have hm : m <= 8 := by omega
 have hG := graph_grB hg ho
 have hk : inB 0 3 (q : Int) = true := inB_iff.2 (by omega)
 have hb := board_ok (n := m) hm hq (ball := ballF m es) (fun x _ => by have := ballF_len m es (x : Int); omega) (fun x _ => ballF_in es (x : Int))
 have hb2 : gmB (ballsL m es).length (cfG ((m : Int), es, v) q) (mvG ((m : Int), es, v) q) = true := by
  rw [ballsL_len]
  unfold mvG cfG
  simp only [Int.toNat_natCast]
  exact hb
 have hbl := balls_ok hm es
 refine ⟨?_, ?_, hb2, hbl⟩
 ·unfold G_l4Make mvG cfG
  simp only [hG, hk, Bool.and_self, if_true, Int.toNat_natCast]
 ·unfold G_l4Times
  simp only [hb2, hbl, Bool.and_self, if_true]
  unfold tmG
  simp only [ballsL_len, Int.toNat_natCast]
  rw [times_congr fun x hx => ballA_L es hx]
theorem game_impl {m q : Nat} {es : List E} {v : Unit} (hg : graphB ((m : Int), es, v) = true) (ho : okL es = true) (h1 : 1 <= m) (hq : q <= 3) (u : Unit) :
  G_copGame ((toI (netN m es), ()), (q : Int), u) = some (((toI (netN m es), ()), cfG ((m : Int), es, v) q, mvG ((m : Int), es, v) q, tmG ((m : Int), es, v) q, ()), ()) /\ cgB ((toI (netN m es), ()), cfG ((m : Int), es, v) q, mvG ((m : Int), es, v) q, tmG ((m : Int), es, v) q, ()) = true := by
 obtain ⟨h0, h8⟩ := graphB_n hg
 have hm : m <= 8 := by omega
 obtain ⟨g1, _⟩ := graphB_edges hg
 obtain ⟨n1, n2⟩ := netB_net hm g1
 have hk : inB 0 3 (q : Int) = true := inB_iff.2 (by omega)
 have e1 : movesI (ballM (toI (netN m es))) (confL m q) = movesI (ballF m es) (confL m q) := by
  unfold movesI
  refine List.map_congr_left fun c hc => ?_
  rw [moves_congr fun x hx => ?_]
  have := copsB_in (confL_mem.1 hc).2 x hx
  obtain ⟨y, rfl, hy⟩ := nodeX this
  exact ball_same hm g1 hy
 have e2 : timesG (confL m q) (movesI (ballF m es) (confL m q)) (ballM (toI (netN m es))) m = timesG (confL m q) (movesI (ballF m es) (confL m q)) (ballF m es) m := times_congr fun x hx => ball_same hm g1 hx
 have hb := board_ok (n := m) hm hq (ball := ballF m es) (fun x _ => by have := ballF_len m es (x : Int); omega) (fun x _ => ballF_in es (x : Int))
 constructor
 ·unfold G_copGame
  have h1' : decide (1 <= m) = true := decide_eq_true h1
  simp only [n1, n2, h1', hk, Bool.and_self, if_true, Int.toNat_natCast, e1, e2]
  rfl
 ·unfold cgB
  have h1' : decide (1 <= m) = true := decide_eq_true h1
  have h2 := tm_rc ((m : Int), es, v) q
  simp only [Int.toNat_natCast] at h2
  have h3 : gmB m (cfG ((m : Int), es, v) q) (mvG ((m : Int), es, v) q) = true := by
   unfold mvG cfG
   simp only [Int.toNat_natCast]
   exact hb
  simp only [n1, n2, h1', h2, h3, Bool.and_self]
theorem specField {g : Gr} (ho : okL g.2.1 = true) (k : Int) (u : Unit) : F_q47q 0 (g, k, u) = some (fieldB g k, ()) := by
 unfold F_q47q G_graph fieldB
 simp only [ho, if_true, Option.bind_some, l1In_eq]
 cases graphB g with
 | false => simp only [Bool.false_eq_true, if_false, Bool.false_and]
 | true =>
  cases decide (g.1 > 0) with
  | false => simp only [Bool.false_eq_true, if_false, if_true, Bool.and_false, Bool.false_and]
  | true => simp only [if_true, Bool.true_and]
theorem implField {g : Gr} (ho : okL g.2.1 = true) (k : Int) (u : Unit) : F_q30q 0 (g, k, u) = some (fieldB g k, ()) := by
 unfold F_q30q G_graph fieldB
 simp only [ho, if_true, Option.bind_some, within_eq]
 cases graphB g with
 | false => simp only [Bool.false_eq_true, if_false, Bool.false_and]
 | true =>
  cases decide (g.1 > 0) with
  | false => simp only [Bool.false_eq_true, if_false, if_true, Bool.and_false, Bool.false_and]
  | true => simp only [if_true, Bool.true_and]
theorem okLL_8 {T : List (List Int)} (h1 : T.length <= 120) (h2 : ∀ l ∈ T, l.length <= 8) : okLL T = true := okLL_small (by omega) (List.all_eq_true.2 fun l hl => decide_eq_true (by have := h2 l hl; omega))
end Go.V.W
set_option linter.unusedVariables false
set_option linter.unusedSimpArgs false
namespace Go.V.W
open Go.Proofs
theorem fl_l0 (N m n : Nat) (T : Tab) (hT : rcB m n T = true) (c : Nat) (hc : c < m) (ball : List Int) (hb : ∀ z ∈ ball, ∃ y : Nat, y < n /\ z = (y : Int)) (hl : ball.length <= 8) : ∀ (k i f b : Nat), i + k = ball.length -> k < f -> b < n ->
  q71q_l0 N f (T, (c : Int), ball, (b : Int), (i : Int), ()) = some (.inl (robL (tab2 T (c : Int)) (ball.drop i) (b : Int), ())) := by
 obtain ⟨t1, t2⟩ := rcB_parts hT
 have i1 : idxIn (c : Int) T.length = true := idxIn_nat (by omega)
 intro k
 induction k with
 | zero =>
  intro i f b h1 h2 h3
  obtain ⟨f, rfl⟩ : ∃ m, f = m + 1 := ⟨f - 1, by omega⟩
  have e : i = ball.length := by omega
  subst e
  rw [List.drop_of_length_le (Nat.le_refl _)]
  show q71q_l0_r _ _ _ = _
  unfold q71q_l0_r
  simp only [lt_not, Bool.false_eq_true, if_false, robL]
 | succ k ih =>
  intro i f b h1 h2 h3
  obtain ⟨f, rfl⟩ : ∃ m, f = m + 1 := ⟨f - 1, by omega⟩
  have hi : i < ball.length := by omega
  obtain ⟨y, hy, ey⟩ := hb ball[i] (List.getElem_mem hi)
  have e : at_ I ball i = (y : Int) := (at_get (e := I) hi).trans ey
  have i2 : idxIn (y : Int) (at_ K_Si T c).length = true := idxIn_nat (by rw [t2 c hc]; exact hy)
  have i3 : idxIn (b : Int) (at_ K_Si T c).length = true := idxIn_nat (by rw [t2 c hc]; exact h3)
  have hv := tab2_rc hT hc hy
  have hw := tab2_rc hT hc h3
  have hd : ball.drop i = (y : Int) :: ball.drop (i + 1) := by rw [List.drop_eq_getElem_cons hi, ey]
  rw [hd]
  show q71q_l0_r _ _ _ = _
  unfold q71q_l0_r
  simp only [lt_dec hi, if_true, i1, idxIn_nat hi, Int.toNat_natCast, e, i2, i3, hv, hw, small_wrap (show i <= 100000 by omega), robL]
  by_cases h4 : 0 <= tab2 T (c : Int) (b : Int)
  ·have h4' : decide (tab2 T (c : Int) (b : Int) >= 0) = true := decide_eq_true h4
   by_cases h5 : tab2 T (c : Int) (y : Int) < 0
   ·simp only [h4', h4, h5, decide_true, if_true, true_or, and_self]
    exact ih (i + 1) f y (by omega) (by omega) hy
   ·by_cases h6 : tab2 T (c : Int) (y : Int) > tab2 T (c : Int) (b : Int)
    ·simp only [h4', h4, h5, h6, decide_true, decide_false, Bool.false_eq_true, if_true, if_false, or_true, and_self]
     exact ih (i + 1) f y (by omega) (by omega) hy
    ·simp only [h4', h4, h5, h6, decide_true, decide_false, Bool.false_eq_true, if_true, if_false, or_self, and_false]
     exact ih (i + 1) f b (by omega) (by omega) h3
  ·have h4' : decide (tab2 T (c : Int) (b : Int) >= 0) = false := decide_eq_false h4
   simp only [h4', h4, Bool.false_eq_true, if_false, false_and]
   exact ih (i + 1) f b (by omega) (by omega) h3
theorem headD_at {l : List Int} (h : 0 < l.length) : l.headD 0 = l[0] := by
 cases l with
 | nil => simp at h
 | cons a l => rfl
theorem l4Flee_lim (d) (r) (h : G_l4Flee d = some r) : ∃ N, F_q71q N d = some r := by
 obtain ⟨⟨cf, mv, bl, v⟩, T, c, x, _⟩ := d
 unfold G_l4Flee at h
 split at h
 ·rename_i hc
  simp only [Bool.and_eq_true, decide_eq_true_eq] at hc
  obtain ⟨⟨⟨⟨hb, hT⟩, hc'⟩, hx'⟩, hp⟩ := hc
  obtain ⟨b1, b2⟩ := blB_parts hb
  obtain ⟨c, rfl, hc⟩ := nodeX hc'
  obtain ⟨x, rfl, hx⟩ := nodeX hx'
  have h := Option.some.inj h
  subst h
  obtain ⟨x1, x2, x3⟩ := b2 x hx
  have hp : 1 <= (ballA bl (x : Int)).length := hp
  have hT : rcB cf.length bl.length T = true := hT
  obtain ⟨y, hy, ey⟩ := x3 _ (List.getElem_mem (show 0 < (ballA bl (x : Int)).length by omega))
  have e0 : at_ I (ballA bl (x : Int)) 0 = (y : Int) := (at_get (e := I) (show 0 < (ballA bl (x : Int)).length by omega)).trans ey
  have i1 : idxIn (0 : Int) (ballA bl (x : Int)).length = true := idxIn_nat (i := 0) (by omega)
  have hl := fl_l0 20 cf.length bl.length T hT c hc (ballA bl (x : Int)) x3 x2 ((ballA bl (x : Int)).length - 1) 1 20 y (by omega) (by omega) hy
  have e1 : ((1 : Nat) : Int) = 1 := rfl
  rw [e1] at hl
  refine ⟨20, ?_⟩
  unfold F_q71q fleeG
  have z0 : Int.toNat 0 = 0 := rfl
  simp only [idxIn_nat hx, if_true, Int.toNat_natCast, x1, i1, z0, e0, hl, Option.bind_some]
  have e2 : (ballA bl (x : Int)).headD 0 = (y : Int) := by
   rw [<- ey]
   exact headD_at _
  rw [e2, List.drop_one]
 ·cases h
theorem flee_spec {m q : Nat} {es : List E} {v : Unit} (hm : m <= 8) {p : Nat} (hp : p < (cfG ((m : Int), es, v) q).length) {x : Nat} (hx : x < m) (u : Unit) :
  G_l4Flee ((cfG ((m : Int), es, v) q, mvG ((m : Int), es, v) q, ballsL m es, ()), tmG ((m : Int), es, v) q, (p : Int), (x : Int), u) = some (fleeG (ballF m es) (tmG ((m : Int), es, v) q) (p : Int) (x : Int), ()) := by
 have h2 := tm_rc ((m : Int), es, v) q
 simp only [Int.toNat_natCast] at h2
 have a1 : inB 0 (((cfG ((m : Int), es, v) q).length : Int) - 1) (p : Int) = true := inB_iff.2 (by omega)
 have a2 : inB 0 ((m : Int) - 1) (x : Int) = true := inB_iff.2 (by omega)
 have a3 : decide (1 <= (ballF m es (x : Int)).length) = true := decide_eq_true (List.length_pos_of_mem (ball_self es hx))
 unfold G_l4Flee fleeG
 simp only [balls_ok hm es, ballsL_len, h2, a1, a2, ballA_L es hx, a3, Bool.and_self, if_true]
theorem flee_impl {m q : Nat} {es : List E} {v : Unit} (hg : graphB ((m : Int), es, v) = true) {p : Nat} (hp : p < (cfG ((m : Int), es, v) q).length) {x : Nat} (hx : x < m) (u : Unit) :
  G_robberMove ((toI (netN m es), ()), at_ K_Si (tmG ((m : Int), es, v) q) p, (x : Int), u) = some (fleeG (ballF m es) (tmG ((m : Int), es, v) q) (p : Int) (x : Int), ()) := by
 obtain ⟨h0, h8⟩ := graphB_n hg
 have hm : m <= 8 := by omega
 obtain ⟨g1, _⟩ := graphB_edges hg
 obtain ⟨n1, n2⟩ := netB_net hm g1
 have h2 := tm_rc ((m : Int), es, v) q
 simp only [Int.toNat_natCast] at h2
 obtain ⟨t1, t2⟩ := rcB_parts h2
 have a1 : decide ((at_ K_Si (tmG ((m : Int), es, v) q) p).length = m) = true := decide_eq_true (t2 p hp)
 have a2 : inB 0 ((m : Int) - 1) (x : Int) = true := inB_iff.2 (by omega)
 have hlt : p < (tmG ((m : Int), es, v) q).length := by omega
 have ea : at_ K_Si (tmG ((m : Int), es, v) q) p = (tmG ((m : Int), es, v) q).getD p [] := by
  have : at_ K_Si (tmG ((m : Int), es, v) q) p = (tmG ((m : Int), es, v) q)[p] := at_get (e := K_Si) hlt
  rw [this, List.getD_eq_getElem?_getD, List.getElem?_eq_getElem hlt]
  rfl
 unfold G_robberMove fleeG
 simp only [n1, n2, a1, a2, Bool.and_self, if_true, ball_same hm g1 hx]
 rw [ea]
 rfl
theorem meet_parts {n : Int} {es : List E} {v : Unit} {c : List Int} (h : meetB (n, es, v) c = true) : graphB (n, es, v) = true /\ ∃ m : Nat, n = (m : Int) /\ 1 <= m /\ m <= 8 /\ 1 <= c.length /\ c.length <= 3 /\ copsB (m : Int) c = true /\ c ∈ cfG (n, es, v) c.length := by
 unfold meetB at h
 rw [Bool.and_eq_true] at h
 obtain ⟨hg, m, q, rfl, e, m1, m8, q1, q3⟩ := field_parts h.1
 refine ⟨hg, m, rfl, m1, m8, by omega, by omega, h.2, ?_⟩
 unfold cfG
 rw [Int.toNat_natCast]
 exact confL_mem.2 ⟨rfl, h.2⟩
theorem specMeet {n : Int} {es : List E} {v : Unit} (ho : okL es = true) {c : List Int} (hc : okL c = true) (x : Int) (u : Unit) : F_q57q 0 ((n, es, v), c, x, u) = some (meetB (n, es, v) c && inB 0 (n - 1) x && !hasL c x, ()) := by
 unfold F_q57q
 simp only [specField (g := (n, es, v)) ho, Option.bind_some]
 cases hf : fieldB (n, es, v) (c.length : Int) with
 | false => simp only [meetB, hf, Bool.false_eq_true, if_false, Bool.false_and]
 | true =>
  obtain ⟨hg, m, q, rfl, e, m1, m8, q1, q3⟩ := field_parts hf
  have a1 : decide (0 <= (m : Int)) = true := decide_eq_true (by omega)
  have a2 : decide ((m : Int) <= 8) = true := decide_eq_true (by omega)
  simp only [meetB, hf, if_true, G_l4Cops, hc, a1, a2, Bool.and_self, Option.bind_some, Bool.true_and, node_eq (m : Int) es v x () (by omega) (by omega), has1 hc]
  cases copsB (m : Int) c with
  | false => simp only [Bool.false_eq_true, if_false, Bool.false_and]
  | true =>
   cases inB 0 ((m : Int) - 1) x with
   | false => simp only [if_true, Bool.false_eq_true, if_false, Bool.and_false, Bool.false_and]
   | true => simp only [if_true, Bool.true_and]
theorem implAre {n : Int} {es : List E} {v : Unit} (ho : okL es = true) {c : List Int} (hc : okL c = true) (u : Unit) : F_q55q 0 ((n, es, v), c, u) = some (meetB (n, es, v) c, ()) := by
 cases hg : graphB (n, es, v) with
 | true =>
  rw [are_cops hg ho hc]
  unfold meetB fieldB
  rw [hg, Bool.true_and]
 | false =>
  unfold F_q55q
  have hf : fieldB (n, es, v) (c.length : Int) = false := by
   unfold fieldB
   rw [hg]
   rfl
  simp only [implField (g := (n, es, v)) ho, Option.bind_some, hf, meetB, Bool.false_eq_true, if_false, Bool.false_and]
theorem place_impl {m : Nat} {es : List E} {v : Unit} {q : Nat} (hm : m <= 8) (hq : q <= 3) {c : List Int} (hc : c ∈ cfG ((m : Int), es, v) q) (net : Nt) (mv : List (List Int)) (T : Tab) (u w : Unit) : F_q14q 0 ((net, cfG ((m : Int), es, v) q, mv, T, u), c, w) = some (placeL (cfG ((m : Int), es, v) q) c, ()) :=
 place_some (confL_120 hm hq) (okLL_conf hm hq) (confL_rise _ _) hc net mv T u w
theorem place_spec {m : Nat} {es : List E} {v : Unit} {q : Nat} (hm : m <= 8) (hq : q <= 3) (c : List Int) (u : Unit) : G_l4At (cfG ((m : Int), es, v) q, c, u) = some (placeL (cfG ((m : Int), es, v) q) c, ()) := at_place (okLL_conf hm hq) c
end Go.V.W
set_option linter.unusedVariables false
set_option linter.unusedSimpArgs false
namespace Go.V.W
open Go.Proofs
theorem at_getDS {l : List (List Int)} {i : Nat} (h : i < l.length) : at_ K_Si l i = l.getD i [] := by
 have e : at_ K_Si l i = l[i] := at_get (e := K_Si) h
 rw [e, List.getD_eq_getElem?_getD, List.getElem?_eq_getElem h]
 rfl
end Go.V.W
set_option linter.unusedVariables false
set_option linter.unusedSimpArgs false
namespace Go.V.W
open Go.Proofs
theorem bestP_free (after : Int -> Int) : ∀ (l : List Int) (b p q : Int), b < 0 -> bestP after l b p = bestP after l b q := by
 intro l
 induction l with
 | nil => intro b p q _; rfl
 | cons d l ih =>
  intro b p q hb
  unfold bestP
  by_cases h : 0 <= after d
  ·have h1 : 0 <= after d /\ (b < 0 \/ after d < p) := ⟨h, .inl hb⟩
   have h2 : 0 <= after d /\ (b < 0 \/ after d < q) := ⟨h, .inl hb⟩
   rw [if_pos h1, if_pos h2]
  ·have h1 : ¬ (0 <= after d /\ (b < 0 \/ after d < p)) := fun hh => h hh.1
   have h2 : ¬ (0 <= after d /\ (b < 0 \/ after d < q)) := fun hh => h hh.1
   rw [if_neg h1, if_neg h2]
   exact ih b p q hb
theorem bestP_pos (after : Int -> Int) : ∀ (l : List Int) (b p : Int), (∀ d ∈ l, 0 <= d) -> (0 <= bestP after l b p ↔ 0 <= b \/ ∃ d ∈ l, 0 <= after d) := by
 intro l
 induction l with
 | nil => intro b p _; simp [bestP]
 | cons d l ih =>
  intro b p hl
  have hd := hl d (by simp)
  have hl' : ∀ x ∈ l, 0 <= x := fun x hx => hl x (by simp [hx])
  unfold bestP
  by_cases h : 0 <= after d /\ (b < 0 \/ after d < p)
  ·rw [if_pos h, ih _ _ hl']
   constructor
   ·intro _; exact .inr ⟨d, by simp, h.1⟩
   ·intro _; exact .inl hd
  ·rw [if_neg h, ih _ _ hl']
   constructor
   ·rintro (h1 | ⟨x, hx, h1⟩)
    ·exact .inl h1
    ·exact .inr ⟨x, by simp [hx], h1⟩
   ·rintro (h1 | ⟨x, hx, h1⟩)
    ·exact .inl h1
    ·rcases List.mem_cons.1 hx with rfl | hx
     ·refine .inl (Int.not_lt.1 fun hb => h ⟨h1, .inl hb⟩)
     ·exact .inr ⟨x, hx, h1⟩
theorem bestP_mem (after : Int -> Int) : ∀ (l : List Int) (b p : Int), bestP after l b p = b \/ bestP after l b p ∈ l := by
 intro l
 induction l with
 | nil => intro b p; exact .inl rfl
 | cons d l ih =>
  intro b p
  unfold bestP
  split
  ·rcases ih d (after d) with h | h
   ·exact .inr (by rw [h]; simp)
   ·exact .inr (by simp [h])
  ·rcases ih b p with h | h
   ·exact .inl h
   ·exact .inr (by simp [h])
theorem lb_l0 (N : Nat) (cf mv bl : List (List Int)) (hg : gmB bl.length cf mv = true) (hb : blB bl = true) (v : Unit) (T : Tab) (hT : rcB cf.length bl.length T = true) (c : Nat) (hc : c < cf.length) (x : Nat) (hx : x < bl.length) : ∀ (k i f : Nat) (b p : Int), i + k = (at_ K_Si mv c).length -> k < f ->
  q68q_l0 N f (T, (c : Int), (x : Int), (cf, mv, bl, v), b, p, (i : Int), ()) = some (.inl (bestP (fun d => afterG cf (ballA bl) T d (x : Int)) ((at_ K_Si mv c).drop i) b p, ())) := by
 obtain ⟨g1, g2, g3, g4⟩ := gmB_parts hg
 obtain ⟨m1, m2, m3⟩ := g4 c hc
 have i1 : idxIn (c : Int) mv.length = true := idxIn_nat (by omega)
 have hxi : inB 0 ((bl.length : Int) - 1) (x : Int) = true := inB_iff.2 (by omega)
 intro k
 induction k with
 | zero =>
  intro i f b p h1 h2
  obtain ⟨f, rfl⟩ : ∃ m, f = m + 1 := ⟨f - 1, by omega⟩
  have e : i = (at_ K_Si mv c).length := by omega
  rw [List.drop_of_length_le (by omega)]
  subst e
  show q68q_l0_r _ _ _ = _
  unfold q68q_l0_r
  simp only [i1, if_true, Int.toNat_natCast, lt_not, Bool.false_eq_true, if_false, bestP]
 | succ k ih =>
  intro i f b p h1 h2
  obtain ⟨f, rfl⟩ : ∃ m, f = m + 1 := ⟨f - 1, by omega⟩
  have hi : i < (at_ K_Si mv c).length := by omega
  have ei : at_ I (at_ K_Si mv c) i = (at_ K_Si mv c)[i] := at_get (e := I) hi
  have haf := afterG_some hg hb hT (m3 _ (List.getElem_mem hi)) hxi v ()
  rw [List.drop_eq_getElem_cons hi]
  show q68q_l0_r _ _ _ = _
  unfold q68q_l0_r
  simp only [i1, if_true, Int.toNat_natCast, lt_dec hi, idxIn_nat hi, ei, haf, Option.bind_some, small_wrap (show i <= 100000 by omega), bestP]
  by_cases h0 : 0 <= afterG cf (ballA bl) T (at_ K_Si mv c)[i] (x : Int)
  ·have h0' : decide (afterG cf (ballA bl) T (at_ K_Si mv c)[i] (x : Int) >= 0) = true := decide_eq_true h0
   by_cases hbn : b < 0
   ·simp only [h0', h0, hbn, decide_true, if_true, true_or, and_self]
    exact ih (i + 1) f _ _ (by omega) (by omega)
   ·by_cases hp : afterG cf (ballA bl) T (at_ K_Si mv c)[i] (x : Int) < p
    ·simp only [h0', h0, hbn, hp, decide_true, decide_false, Bool.false_eq_true, if_true, if_false, or_true, and_self]
     exact ih (i + 1) f _ _ (by omega) (by omega)
    ·simp only [h0', h0, hbn, hp, decide_true, decide_false, Bool.false_eq_true, if_true, if_false, or_self, and_false]
     exact ih (i + 1) f _ _ (by omega) (by omega)
  ·have h0' : decide (afterG cf (ballA bl) T (at_ K_Si mv c)[i] (x : Int) >= 0) = false := decide_eq_false h0
   simp only [h0', h0, decide_false, Bool.false_eq_true, if_false, false_and]
   exact ih (i + 1) f _ _ (by omega) (by omega)
theorem l4Best_lim (d) (r) (h : G_l4Best d = some r) : ∃ N, F_q68q N d = some r := by
 obtain ⟨⟨cf, mv, bl, v⟩, T, c, x, _⟩ := d
 unfold G_l4Best at h
 split at h
 ·rename_i hc
  simp only [Bool.and_eq_true] at hc
  obtain ⟨⟨⟨⟨hg, hb⟩, hT⟩, hc'⟩, hx'⟩ := hc
  obtain ⟨g1, g2, g3, g4⟩ := gmB_parts hg
  obtain ⟨c, rfl, hc⟩ := nodeX hc'
  obtain ⟨x, rfl, hx⟩ := nodeX hx'
  have h := Option.some.inj h
  subst h
  obtain ⟨m1, m2, m3⟩ := g4 c hc
  refine ⟨1010, ?_⟩
  have hl := lb_l0 1010 cf mv bl hg hb v T hT c hc x hx (at_ K_Si mv c).length 0 1010 (-1) (-1) (by omega) (by omega)
  simp only [Int.natCast_zero, List.drop_zero] at hl
  unfold F_q68q bestG
  simp only [hl, Option.bind_some, Int.toNat_natCast, m2]
  rw [bestP_free _ _ (-1) 0 (-1) (by omega)]
 ·cases h
theorem gr_l0 (N : Nat) {l : List Int} {v u : Unit} {cf mv : List (List Int)} {T : Tab} (h : cgB ((l, v), cf, mv, T, u) = true) (x : Nat) (hx : x < l.length) (L : List Int) (hL : L.length <= 1000) (hLm : ∀ d ∈ L, inB 0 ((cf.length : Int) - 1) d = true) : ∀ (k i f : Nat) (b p : Int), i + k = L.length -> k < f ->
  q16q_l0 N f (((l, v), cf, mv, T, u), (x : Int), b, p, L, (L.length : Int), (i : Int), ()) = some (.inl (((l, v), cf, mv, T, u), bestP (fun d => afterG cf (ballM l) T d (x : Int)) (L.drop i) b p, ())) := by
 obtain ⟨h1, h2, h3, h4⟩ := cgB_parts h
 obtain ⟨g1, g2, g3, g4⟩ := gmB_parts h3
 obtain ⟨t1, t2⟩ := rcB_parts h4
 intro k
 induction k with
 | zero =>
  intro i f b p e1 e2
  obtain ⟨f, rfl⟩ : ∃ m, f = m + 1 := ⟨f - 1, by omega⟩
  have e : i = L.length := by omega
  subst e
  rw [List.drop_of_length_le (Nat.le_refl _)]
  show q16q_l0_r _ _ _ = _
  unfold q16q_l0_r
  simp only [lt_not, Bool.false_eq_true, if_false, bestP]
 | succ k ih =>
  intro i f b p e1 e2
  obtain ⟨f, rfl⟩ : ∃ m, f = m + 1 := ⟨f - 1, by omega⟩
  have hi : i < L.length := by omega
  obtain ⟨d, ed, hd⟩ := nodeX (hLm _ (List.getElem_mem hi))
  have ei : at_ I L i = (d : Int) := (at_get (e := I) hi).trans ed
  obtain ⟨y1, y2, y3⟩ := g3 d hd
  have i2 : idxIn (d : Int) T.length = true := idxIn_nat (by omega)
  have hge : decide ((0 : Int) >= 0) = true := by decide
  have hea : afterG cf (ballM l) T (d : Int) (x : Int) = if hasL (at_ K_Si cf d) (x : Int) = true then 0 else worstL (tab2 T (d : Int)) (ballM l (x : Int)) 0 := by
   unfold afterG
   rw [Int.toNat_natCast, y2]
  rw [List.drop_eq_getElem_cons hi, ed]
  show q16q_l0_r _ _ _ = _
  unfold q16q_l0_r
  simp only [lt_dec hi, if_true, idxIn_nat hi, Int.toNat_natCast, ei, idxIn_nat hd, has2 (okL_of (show (at_ K_Si cf d).length <= 1048576 by omega)), Option.bind_some, i2, timeAfter_some h1 h4 hd hx, small_wrap (show i <= 100000 by omega), bestP, hge]
  by_cases hh : hasL (at_ K_Si cf d) (x : Int) = true
  ·rw [if_pos hh] at hea
   simp only [hh, Bool.not_true, Bool.false_eq_true, if_false, hea, Int.le_refl, true_and]
   by_cases hbn : b < 0
   ·simp only [hbn, decide_true, if_true, true_or]
    exact ih (i + 1) f _ _ (by omega) (by omega)
   ·by_cases hp : (0 : Int) < p
    ·simp only [hbn, hp, decide_true, decide_false, Bool.false_eq_true, if_true, if_false, or_true]
     exact ih (i + 1) f _ _ (by omega) (by omega)
    ·simp only [hbn, hp, decide_false, Bool.false_eq_true, if_false, or_self]
     exact ih (i + 1) f _ _ (by omega) (by omega)
  ·have hh' : hasL (at_ K_Si cf d) (x : Int) = false := (Bool.not_eq_true _).mp hh
   rw [if_neg hh] at hea
   simp only [hh', Bool.not_false, if_true, hea]
   by_cases h0 : 0 <= worstL (tab2 T (d : Int)) (ballM l (x : Int)) 0
   ·have h0' : decide (worstL (tab2 T (d : Int)) (ballM l (x : Int)) 0 >= 0) = true := decide_eq_true h0
    by_cases hbn : b < 0
    ·simp only [h0', h0, hbn, decide_true, if_true, true_or, and_self]
     exact ih (i + 1) f _ _ (by omega) (by omega)
    ·by_cases hp : worstL (tab2 T (d : Int)) (ballM l (x : Int)) 0 < p
     ·simp only [h0', h0, hbn, hp, decide_true, decide_false, Bool.false_eq_true, if_true, if_false, or_true, and_self]
      exact ih (i + 1) f _ _ (by omega) (by omega)
     ·simp only [h0', h0, hbn, hp, decide_true, decide_false, Bool.false_eq_true, if_true, if_false, or_self, and_false]
      exact ih (i + 1) f _ _ (by omega) (by omega)
   ·have h0' : decide (worstL (tab2 T (d : Int)) (ballM l (x : Int)) 0 >= 0) = false := decide_eq_false h0
    simp only [h0', h0, decide_false, Bool.false_eq_true, if_false, false_and]
    exact ih (i + 1) f _ _ (by omega) (by omega)
theorem gameReply_lim (d) (r) (h : G_reply d = some r) : ∃ N, F_q16q N d = some r := by
 obtain ⟨⟨⟨l, v⟩, cf, mv, T, u⟩, c, x, _⟩ := d
 unfold G_reply at h
 split at h
 ·rename_i hc
  simp only [Bool.and_eq_true, decide_eq_true_eq] at hc
  obtain ⟨⟨⟨⟨hcg, hri⟩, hme⟩, hx'⟩, hpos⟩ := hc
  obtain ⟨h1, h2, h3, h4⟩ := cgB_parts hcg
  obtain ⟨g1, g2, g3, g4⟩ := gmB_parts h3
  obtain ⟨x, rfl, hx⟩ := nodeX hx'
  have h := Option.some.inj h
  subst h
  have hri : riseB cf = true := hri
  have hme : memB cf c = true := hme
  have hok : okLL cf = true := okLL_small (by omega) (List.all_eq_true.2 fun y hy => decide_eq_true (by
   obtain ⟨i, hi, rfl⟩ := List.getElem_of_mem hy
   have := (g3 i hi).1
   have e : at_ K_Si cf i = cf[i] := at_get (e := K_Si) hi
   rw [e] at this
   omega))
  have hpl := place_some g1 hok (riseB_iff.1 hri) (memB_iff.1 hme) (l, v) mv T u ()
  obtain ⟨p, p1, p2, p3⟩ := place_at (memB_iff.1 hme)
  have hpos : 0 <= bestG cf mv (ballM l) T (placeL cf c) (x : Int) := hpos
  have i1 : idxIn (p : Int) mv.length = true := idxIn_nat (by omega)
  obtain ⟨m1, m2, m3⟩ := g4 p p1
  have hl := gr_l0 1010 hcg x hx (at_ K_Si mv p) m1 m3 (at_ K_Si mv p).length 0 1010 (-1) 0 (by omega) (by omega)
  simp only [Int.natCast_zero, List.drop_zero] at hl
  have hbe : bestP (fun d => afterG cf (ballM l) T d (x : Int)) (at_ K_Si mv p) (-1) 0 = bestG cf mv (ballM l) T (p : Int) (x : Int) := by
   unfold bestG
   rw [Int.toNat_natCast, m2]
  rw [hbe] at hl
  rw [p2] at hpos
  have hbm : bestG cf mv (ballM l) T (p : Int) (x : Int) ∈ at_ K_Si mv p := by
   rw [<- hbe] at hpos |-
   rcases bestP_mem (fun d => afterG cf (ballM l) T d (x : Int)) (at_ K_Si mv p) (-1) 0 with h | h
   ·rw [h] at hpos; omega
   ·exact h
  obtain ⟨b, eb, hb⟩ := nodeX (m3 _ hbm)
  refine ⟨1010, ?_⟩
  unfold F_q16q
  simp only [hpl, Option.bind_some, p2, i1, if_true, Int.toNat_natCast, hl, eb, idxIn_nat hb]
  rw [at_getDS hb]
 ·cases h
structure TimI (cf mv : List (List Int)) (ball : Int -> List Int) (n : Nat) (T : Tab) : Prop where
 caught : ∀ c x : Nat, c < cf.length -> x < n -> hasL (cf.getD c []) (x : Int) = true -> tab2 T (c : Int) (x : Int) = 0
 some : ∀ c x : Nat, c < cf.length -> x < n -> 0 <= tab2 T (c : Int) (x : Int) -> hasL (cf.getD c []) (x : Int) = true \/ (1 <= tab2 T (c : Int) (x : Int) /\ ∃ d ∈ mv.getD c [], 0 <= afterG cf ball T d (x : Int))
theorem afterG_keep {cf mv : List (List Int)} {ball : Int -> List Int} {n : Nat} (hb : ∀ x : Nat, x < n -> ∀ z ∈ ball (x : Int), ∃ y : Nat, y < n /\ z = (y : Int)) {t : Int} {T : Tab} {d x : Nat} (hd : d < cf.length) (hx : x < n) (h : 0 <= afterG cf ball T (d : Int) (x : Int)) : 0 <= afterG cf ball (stepG cf mv ball n t T) (d : Int) (x : Int) := by
 unfold afterG at h |-
 split
 ·omega
 ·rename_i hh
  rw [if_neg hh] at h
  have e : worstL (tab2 (stepG cf mv ball n t T) (d : Int)) (ball (x : Int)) 0 = worstL (tab2 T (d : Int)) (ball (x : Int)) 0 := by
   rcases worst_spec (tab2 T (d : Int)) (ball (x : Int)) 0 with ⟨_, h2⟩ | ⟨hall, _, _⟩
   ·omega
   ·refine worst_congr fun z hz => ?_
    obtain ⟨y, hy, rfl⟩ := hb x hx z hz
    have := hall (y : Int) hz
    rw [stepG_at hd hy, if_neg fun hcan => ?_]
    unfold canG at hcan
    simp only [Bool.and_eq_true, decide_eq_true_eq] at hcan
    omega
  rw [e]
  exact h
theorem timI_step {cf mv : List (List Int)} {ball : Int -> List Int} {n : Nat} (hg : gmB n cf mv = true) (hb : ∀ x : Nat, x < n -> ∀ z ∈ ball (x : Int), ∃ y : Nat, y < n /\ z = (y : Int)) {t : Int} (ht : 1 <= t) {T : Tab} (hI : TimI cf mv ball n T) : TimI cf mv ball n (stepG cf mv ball n t T) := by
 obtain ⟨g1, g2, g3, g4⟩ := gmB_parts hg
 refine ⟨fun c x hc hx hh => ?_, fun c x hc hx h0 => ?_⟩
 ·have h1 := hI.caught c x hc hx hh
  rw [stepG_at hc hx, if_neg fun hcan => ?_]
  ·exact h1
  ·unfold canG at hcan
   simp only [Bool.and_eq_true, decide_eq_true_eq] at hcan
   omega
 ·obtain ⟨m1, m2, m3⟩ := g4 c hc
  by_cases hcan : canG cf mv ball T c x = true
  ·right
   rw [stepG_at hc hx, if_pos hcan]
   refine ⟨ht, ?_⟩
   unfold canG at hcan
   rw [Bool.and_eq_true] at hcan
   obtain ⟨d, hd, h2⟩ := List.any_eq_true.1 hcan.2
   have hdm := m3 d (by rw [<- m2]; exact hd)
   obtain ⟨e, rfl, he⟩ := nodeX hdm
   exact ⟨(e : Int), hd, afterG_keep hb he hx (of_decide_eq_true h2)⟩
  ·rw [stepG_at hc hx, if_neg hcan] at h0 |-
   rcases hI.some c x hc hx h0 with h1 | ⟨h1, d, hd, h2⟩
   ·exact .inl h1
   ·have hdm := m3 d (by rw [<- m2]; exact hd)
    obtain ⟨e, rfl, he⟩ := nodeX hdm
    exact .inr ⟨h1, (e : Int), hd, afterG_keep hb he hx h2⟩
theorem timI_start (cf mv : List (List Int)) (ball : Int -> List Int) (n : Nat) : TimI cf mv ball n (startG cf n) := by
 have e : ∀ c x : Nat, c < cf.length -> x < n -> tab2 (startG cf n) (c : Int) (x : Int) = if hasL (cf.getD c []) (x : Int) = true then 0 else -1 := fun c x hc hx => tab2_tabM _ hc hx
 refine ⟨fun c x hc hx hh => ?_, fun c x hc hx h0 => ?_⟩
 ·rw [e c x hc hx, if_pos hh]
 ·rw [e c x hc hx] at h0
  by_cases hh : hasL (cf.getD c []) (x : Int) = true
  ·exact .inl hh
  ·rw [if_neg hh] at h0
   omega
theorem gameT_end {cf mv : List (List Int)} {ball : Int -> List Int} {n : Nat} (hg : gmB n cf mv = true) (hb : ∀ x : Nat, x < n -> ∀ z ∈ ball (x : Int), ∃ y : Nat, y < n /\ z = (y : Int)) : ∀ (k : Nat) (t : Int) (T : Tab), 1 <= t -> negsM cf.length n T < k -> TimI cf mv ball n T -> TimI cf mv ball n (gameT cf mv ball n k t T) /\ anyG cf mv ball n (gameT cf mv ball n k t T) = false := by
 intro k
 induction k with
 | zero => intro t T _ h; omega
 | succ k ih =>
  intro t T ht hn hI
  unfold gameT
  by_cases ha : anyG cf mv ball n T = true
  ·rw [if_pos ha]
   have := negsM_step (t := t) (by omega) ha
   exact ih (t + 1) _ (by omega) (by omega) (timI_step hg hb ht hI)
  ·rw [if_neg ha]
   exact ⟨hI, (Bool.not_eq_true _).mp ha⟩
theorem best_iff {cf mv : List (List Int)} {ball : Int -> List Int} {n : Nat} (hn : n <= 8) (hg : gmB n cf mv = true) (hb : ∀ x : Nat, x < n -> ∀ z ∈ ball (x : Int), ∃ y : Nat, y < n /\ z = (y : Int)) {c x : Nat} (hc : c < cf.length) (hx : x < n) (hh : hasL (cf.getD c []) (x : Int) = false) :
  (0 <= bestG cf mv ball (timesG cf mv ball n) (c : Int) (x : Int) ↔ 0 <= tab2 (timesG cf mv ball n) (c : Int) (x : Int)) /\ (0 <= tab2 (timesG cf mv ball n) (c : Int) (x : Int) ↔ 1 <= tab2 (timesG cf mv ball n) (c : Int) (x : Int)) := by
 obtain ⟨g1, g2, g3, g4⟩ := gmB_parts hg
 obtain ⟨m1, m2, m3⟩ := g4 c hc
 have hneg := negsM_le cf.length n (startG cf n)
 have hmul : cf.length * n <= 120 * 8 := Nat.mul_le_mul g1 hn
 obtain ⟨hI, hno⟩ := gameT_end hg hb 1000 1 (startG cf n) (by omega) (by omega) (timI_start cf mv ball n)
 have hI : TimI cf mv ball n (timesG cf mv ball n) := hI
 have hno : anyG cf mv ball n (timesG cf mv ball n) = false := hno
 have hall : ∀ d ∈ mv.getD c [], 0 <= d := fun d hd => by
  rw [m2] at hd
  exact (inB_iff.1 (m3 d hd)).1
 constructor
 ·unfold bestG
  rw [Int.toNat_natCast, bestP_pos _ _ _ _ hall]
  constructor
  ·rintro (h | ⟨d, hd, h⟩)
   ·omega
   ·rcases Int.lt_or_le (tab2 (timesG cf mv ball n) (c : Int) (x : Int)) 0 with h0 | h0
    ·have hcan : canG cf mv ball (timesG cf mv ball n) c x = true := by
      unfold canG
      rw [Bool.and_eq_true]
      exact ⟨decide_eq_true h0, List.any_eq_true.2 ⟨d, hd, decide_eq_true h⟩⟩
     have := anyG_spec.2 ⟨c, x, hc, hx, hcan⟩
     rw [hno] at this
     cases this
    ·exact h0
  ·intro h0
   rcases hI.some c x hc hx h0 with h1 | ⟨h1, d, hd, h2⟩
   ·rw [hh] at h1; cases h1
   ·exact .inr ⟨d, hd, h2⟩
 ·constructor
  ·intro h0
   rcases hI.some c x hc hx h0 with h1 | ⟨h1, _⟩
   ·rw [hh] at h1; cases h1
   ·exact h1
  ·intro h; omega
theorem best_congr {cf mv : List (List Int)} {b1 b2 : Int -> List Int} {T : Tab} {c x : Int} (h : b1 x = b2 x) : bestG cf mv b1 T c x = bestG cf mv b2 T c x := by
 unfold bestG
 congr 1
 funext d
 exact after_congr h
theorem best_rng {n : Nat} {cf mv : List (List Int)} (hg : gmB n cf mv = true) {ball : Int -> List Int} {T : Tab} {c : Nat} (hc : c < cf.length) {x : Int} (h : 0 <= bestG cf mv ball T (c : Int) x) : ∃ b : Nat, bestG cf mv ball T (c : Int) x = (b : Int) /\ b < cf.length := by
 obtain ⟨g1, g2, g3, g4⟩ := gmB_parts hg
 obtain ⟨m1, m2, m3⟩ := g4 c hc
 unfold bestG at h |-
 rw [Int.toNat_natCast, m2] at h |-
 rcases bestP_mem (fun d => afterG cf ball T d x) (at_ K_Si mv c) (-1) 0 with h1 | h1
 ·rw [h1] at h; omega
 ·exact nodeX (m3 _ h1)
theorem best_spec_some {m q : Nat} {es : List E} {v : Unit} (hg : graphB ((m : Int), es, v) = true) (ho : okL es = true) (hm : m <= 8) (hq : q <= 3) {p : Nat} (hp : p < (cfG ((m : Int), es, v) q).length) {x : Nat} (hx : x < m) (u : Unit) :
  G_l4Best ((cfG ((m : Int), es, v) q, mvG ((m : Int), es, v) q, ballsL m es, ()), tmG ((m : Int), es, v) q, (p : Int), (x : Int), u) = some (bestG (cfG ((m : Int), es, v) q) (mvG ((m : Int), es, v) q) (ballF m es) (tmG ((m : Int), es, v) q) (p : Int) (x : Int), ()) := by
 obtain ⟨_, _, h3, h4⟩ := game_spec (v := v) hg ho hq () ()
 have h2 := tm_rc ((m : Int), es, v) q
 simp only [Int.toNat_natCast] at h2
 have a1 : inB 0 (((cfG ((m : Int), es, v) q).length : Int) - 1) (p : Int) = true := inB_iff.2 (by omega)
 have a2 : inB 0 ((m : Int) - 1) (x : Int) = true := inB_iff.2 (by omega)
 rw [ballsL_len] at h3
 unfold G_l4Best
 simp only [h4, ballsL_len, h2, h3, a1, a2, Bool.and_self, if_true]
 rw [best_congr (ballA_L es hx)]
theorem conf_own {m q : Nat} {es : List E} {v : Unit} (hq : q <= 3) {p : Nat} (hp : p < (cfG ((m : Int), es, v) q).length) : (at_ K_Si (cfG ((m : Int), es, v) q) p).length <= 3 /\ (cfG ((m : Int), es, v) q).getD p [] ∈ cfG ((m : Int), es, v) q /\ at_ K_Si (cfG ((m : Int), es, v) q) p = (cfG ((m : Int), es, v) q).getD p [] := by
 have hm : at_ K_Si (cfG ((m : Int), es, v) q) p ∈ cfG ((m : Int), es, v) q := by
  have e : at_ K_Si (cfG ((m : Int), es, v) q) p = (cfG ((m : Int), es, v) q)[p] := at_get (e := K_Si) hp
  rw [e]
  exact List.getElem_mem hp
 refine ⟨by rw [confL_len hm]; exact hq, ?_, at_getDS hp⟩
 rw [<- at_getDS hp]
 exact hm
theorem board_fits {m q : Nat} {es : List E} {v : Unit} (hm : m <= 8) (hq : q <= 3) : gmB m (cfG ((m : Int), es, v) q) (mvG ((m : Int), es, v) q) = true := by
 unfold mvG cfG
 simp only [Int.toNat_natCast]
 exact board_ok hm hq (fun x _ => by have := ballF_len m es (x : Int); omega) (fun x _ => ballF_in es (x : Int))
theorem reply_impl {m q : Nat} {es : List E} {v : Unit} (hg : graphB ((m : Int), es, v) = true) (ho : okL es = true) (h1 : 1 <= m) (hm : m <= 8) (hq : q <= 3) {c : List Int} (hc : c ∈ cfG ((m : Int), es, v) q) {x : Nat} (hx : x < m) (hb : 0 <= bestG (cfG ((m : Int), es, v) q) (mvG ((m : Int), es, v) q) (ballF m es) (tmG ((m : Int), es, v) q) (placeL (cfG ((m : Int), es, v) q) c) (x : Int)) (u : Unit) :
  G_reply (((toI (netN m es), ()), cfG ((m : Int), es, v) q, mvG ((m : Int), es, v) q, tmG ((m : Int), es, v) q, ()), c, (x : Int), u) = some ((cfG ((m : Int), es, v) q).getD (bestG (cfG ((m : Int), es, v) q) (mvG ((m : Int), es, v) q) (ballF m es) (tmG ((m : Int), es, v) q) (placeL (cfG ((m : Int), es, v) q) c) (x : Int)).toNat [], ()) := by
 obtain ⟨_, hcg⟩ := game_impl (v := v) hg ho h1 hq ()
 obtain ⟨g1, _⟩ := graphB_edges hg
 obtain ⟨n1, n2⟩ := netB_net hm g1
 have a1 : riseB (cfG ((m : Int), es, v) q) = true := riseB_iff.2 (confL_rise _ _)
 have a2 : memB (cfG ((m : Int), es, v) q) c = true := memB_iff.2 hc
 have a3 : inB 0 ((m : Int) - 1) (x : Int) = true := inB_iff.2 (by omega)
 unfold G_reply
 simp only [hcg, a1, a2, n2, a3, best_congr (ball_same hm g1 hx), hb, decide_true, Bool.and_self, if_true]
end Go.V.W
set_option linter.unusedVariables false
set_option linter.unusedSimpArgs false
namespace Go.V.W
open Go.Proofs
theorem robL_mem (row : Int -> Int) : ∀ (l : List Int) (b : Int), robL row l b = b \/ robL row l b ∈ l := by
 intro l
 induction l with
 | nil => intro b; exact .inl rfl
 | cons x l ih =>
  intro b
  unfold robL
  split
  ·rcases ih x with h | h
   ·exact .inr (by rw [h]; simp)
   ·exact .inr (by simp [h])
  ·rcases ih b with h | h
   ·exact .inl h
   ·exact .inr (by simp [h])
theorem flee_node {m : Nat} (es : List E) (T : Tab) (c : Int) {x : Nat} (hx : x < m) : ∃ y : Nat, fleeG (ballF m es) T c (x : Int) = (y : Int) /\ y < m := by
 have hne : 0 < (ballF m es (x : Int)).length := List.length_pos_of_mem (ball_self es hx)
 have key : fleeG (ballF m es) T c (x : Int) ∈ ballF m es (x : Int) := by
  unfold fleeG
  cases hb : ballF m es (x : Int) with
  | nil => rw [hb] at hne; simp at hne
  | cons a l =>
   simp only [List.tail_cons, List.headD_cons]
   rcases robL_mem (tab2 T c) l a with h | h
   ·rw [h]; simp
   ·simp [h]
 obtain ⟨y, hy, e⟩ := ballF_ok m es x hx _ key
 exact ⟨y, e, hy⟩
structure PlayI (m q : Nat) (es : List E) (v : Unit) : Prop where
 hg : graphB ((m : Int), es, v) = true
 ho : okL es = true
 m1 : 1 <= m
 m8 : m <= 8
 q3 : q <= 3
theorem next_rng {m q : Nat} {es : List E} {v : Unit} (hP : PlayI m q es v) {p : Nat} (hp : p < (cfG ((m : Int), es, v) q).length) (x : Int) : ∃ b : Nat, nextC (bestG (cfG ((m : Int), es, v) q) (mvG ((m : Int), es, v) q) (ballF m es) (tmG ((m : Int), es, v) q)) (p : Int) x = (b : Int) /\ b < (cfG ((m : Int), es, v) q).length := by
 unfold nextC
 split
 ·rename_i h
  exact best_rng (board_fits hP.m8 hP.q3) hp h
 ·exact ⟨p, rfl, hp⟩
theorem ps_step (N : Nat) {m q : Nat} {es : List E} {v : Unit} (hP : PlayI m q es v) (r : Int) (lists : List (List Int)) (nodes : List Int) (hl1 : lists.length <= 1000) (hl2 : nodes.length <= 1000) {p : Nat} (hp : p < (cfG ((m : Int), es, v) q).length) {x : Nat} (hx : x < m) (i : Nat) (hi : i <= 1000) (hir : (i : Int) < r)
  {b : Nat} (hb : nextC (bestG (cfG ((m : Int), es, v) q) (mvG ((m : Int), es, v) q) (ballF m es) (tmG ((m : Int), es, v) q)) (p : Int) (x : Int) = (b : Int)) (hbl : b < (cfG ((m : Int), es, v) q).length) (f : Nat) :
  q41q_l0 N (f + 1) ((x : Int), r, lists, nodes, (cfG ((m : Int), es, v) q, mvG ((m : Int), es, v) q, ballsL m es, ()), tmG ((m : Int), es, v) q, (p : Int), (i : Int), ()) =
   if hasL ((cfG ((m : Int), es, v) q).getD b []) (x : Int) = true then some (.inl (lists ++ [(cfG ((m : Int), es, v) q).getD b []], nodes, true, ()))
   else if hasL ((cfG ((m : Int), es, v) q).getD b []) (fleeG (ballF m es) (tmG ((m : Int), es, v) q) (b : Int) (x : Int)) = true then some (.inl (lists ++ [(cfG ((m : Int), es, v) q).getD b []], nodes ++ [fleeG (ballF m es) (tmG ((m : Int), es, v) q) (b : Int) (x : Int)], true, ()))
   else q41q_l0 N f (fleeG (ballF m es) (tmG ((m : Int), es, v) q) (b : Int) (x : Int), r, lists ++ [(cfG ((m : Int), es, v) q).getD b []], nodes ++ [fleeG (ballF m es) (tmG ((m : Int), es, v) q) (b : Int) (x : Int)], (cfG ((m : Int), es, v) q, mvG ((m : Int), es, v) q, ballsL m es, ()), tmG ((m : Int), es, v) q, (b : Int), ((i + 1 : Nat) : Int), ()) := by
 obtain ⟨o1, o2, o3⟩ := conf_own hP.q3 hbl
 have hown := own_some _ (show (at_ K_Si (cfG ((m : Int), es, v) q) b).length <= 1000 by omega)
 have hok : okL (at_ K_Si (cfG ((m : Int), es, v) q) b) = true := okL_of (by omega)
 rw [o3] at hown hok
 have c1 : ∀ l : List Int, decide (lists.length + List.length [l] <= lim) = true := fun l => by unfold lim; simp; omega
 have c2 : ∀ y : Int, decide (nodes.length + List.length [y] <= lim) = true := fun y => by unfold lim; simp; omega
 have hr : decide ((i : Int) < r) = true := decide_eq_true hir
 show q41q_l0_r _ _ _ = _
 unfold q41q_l0_r
 simp only [hr, if_true, best_spec_some hP.hg hP.ho hP.m8 hP.q3 hp hx, Option.bind_some]
 unfold nextC at hb
 by_cases h : 0 <= bestG (cfG ((m : Int), es, v) q) (mvG ((m : Int), es, v) q) (ballF m es) (tmG ((m : Int), es, v) q) (p : Int) (x : Int)
 ·rw [if_pos h] at hb
  rw [hb] at h
  have h' : decide (((b : Nat) : Int) >= 0) = true := decide_eq_true h
  simp only [hb, h', if_true, idxIn_nat hbl, Int.toNat_natCast, o3, hown, Option.bind_some, c1, has1 hok, flee_spec hP.m8 hbl hx, c2, small_wrap (show i <= 100000 by omega)]
 ·rw [if_neg h] at hb
  have e : b = p := by omega
  subst e
  have h' : decide (bestG (cfG ((m : Int), es, v) q) (mvG ((m : Int), es, v) q) (ballF m es) (tmG ((m : Int), es, v) q) (b : Int) (x : Int) >= 0) = false := decide_eq_false h
  simp only [h', Bool.false_eq_true, if_false, if_true, idxIn_nat hbl, Int.toNat_natCast, o3, hown, Option.bind_some, c1, has1 hok, flee_spec hP.m8 hbl hx, c2, small_wrap (show i <= 100000 by omega)]
theorem ps_l0 (N : Nat) {m q : Nat} {es : List E} {v : Unit} (hP : PlayI m q es v) (r : Nat) (hr : r <= 60) : ∀ (k i f : Nat) (lists : List (List Int)) (nodes : List Int) (p x : Nat), i + k = r -> k < f -> lists.length + k <= 1000 -> nodes.length + k <= 1000 -> p < (cfG ((m : Int), es, v) q).length -> x < m ->
  q41q_l0 N f ((x : Int), (r : Int), lists, nodes, (cfG ((m : Int), es, v) q, mvG ((m : Int), es, v) q, ballsL m es, ()), tmG ((m : Int), es, v) q, (p : Int), (i : Int), ()) = some (.inl (lists ++ (playL (bestG (cfG ((m : Int), es, v) q) (mvG ((m : Int), es, v) q) (ballF m es) (tmG ((m : Int), es, v) q)) (fleeG (ballF m es) (tmG ((m : Int), es, v) q)) (cfG ((m : Int), es, v) q) k (p : Int) (x : Int)).1, nodes ++ (playL (bestG (cfG ((m : Int), es, v) q) (mvG ((m : Int), es, v) q) (ballF m es) (tmG ((m : Int), es, v) q)) (fleeG (ballF m es) (tmG ((m : Int), es, v) q)) (cfG ((m : Int), es, v) q) k (p : Int) (x : Int)).2, true, ())) \/
  q41q_l0 N f ((x : Int), (r : Int), lists, nodes, (cfG ((m : Int), es, v) q, mvG ((m : Int), es, v) q, ballsL m es, ()), tmG ((m : Int), es, v) q, (p : Int), (i : Int), ()) = some (.inr (.inl (lists ++ (playL (bestG (cfG ((m : Int), es, v) q) (mvG ((m : Int), es, v) q) (ballF m es) (tmG ((m : Int), es, v) q)) (fleeG (ballF m es) (tmG ((m : Int), es, v) q)) (cfG ((m : Int), es, v) q) k (p : Int) (x : Int)).1, nodes ++ (playL (bestG (cfG ((m : Int), es, v) q) (mvG ((m : Int), es, v) q) (ballF m es) (tmG ((m : Int), es, v) q)) (fleeG (ballF m es) (tmG ((m : Int), es, v) q)) (cfG ((m : Int), es, v) q) k (p : Int) (x : Int)).2, ()))) := by
 intro k
 induction k with
 | zero =>
  intro i f lists nodes p x h1 h2 h3 h4 hp hx
  obtain ⟨f, rfl⟩ : ∃ m, f = m + 1 := ⟨f - 1, by omega⟩
  have e : i = r := by omega
  subst e
  right
  show q41q_l0_r _ _ _ = _
  unfold q41q_l0_r
  simp only [lt_not, Bool.false_eq_true, if_false, playL, List.append_nil]
 | succ k ih =>
  intro i f lists nodes p x h1 h2 h3 h4 hp hx
  obtain ⟨f, rfl⟩ : ∃ m, f = m + 1 := ⟨f - 1, by omega⟩
  obtain ⟨b, eb, hbl⟩ := next_rng hP hp (x : Int)
  obtain ⟨y, ey, hy⟩ := flee_node es (tmG ((m : Int), es, v) q) (b : Int) hx
  rw [ps_step N hP (r : Int) lists nodes (by omega) (by omega) hp hx i (by omega) (by omega) eb hbl f]
  simp only [playL, eb, Int.toNat_natCast, ey]
  by_cases hh : hasL ((cfG ((m : Int), es, v) q).getD b []) (x : Int) = true
  ·left
   simp only [hh, if_true, List.append_nil]
  ·by_cases hh2 : hasL ((cfG ((m : Int), es, v) q).getD b []) (y : Int) = true
   ·left
    simp only [hh, hh2, Bool.false_eq_true, if_true, if_false]
   ·simp only [hh, hh2, Bool.false_eq_true, if_false]
    have := ih (i + 1) f (lists ++ [(cfG ((m : Int), es, v) q).getD b []]) (nodes ++ [(y : Int)]) b y (by omega) (by omega) (by simp; omega) (by simp; omega) hbl hy
    simp only [List.append_assoc, List.singleton_append] at this
    exact this
theorem specPC_lim (d) (r) (h : G_play d = some r) : ∃ N, F_q41q N d = some r := by
 obtain ⟨⟨n, es, v⟩, c, x, r0, _⟩ := d
 unfold G_play at h
 split at h
 ·rename_i hc
  rw [Bool.and_eq_true] at hc
  have ho : okL es = true := hc.1
  have hc : okL c = true := hc.2
  have h := Option.some.inj h
  subst h
  refine ⟨100, ?_⟩
  unfold F_q41q playB
  simp only [specMeet ho hc, Option.bind_some, l1In_eq]
  cases h : meetB (n, es, v) c && inB 0 (n - 1) x && !hasL c x with
  | false => simp only [Bool.not_false, if_true, Bool.false_and, Bool.false_eq_true, if_false]
  | true =>
   cases hr : inB 0 60 r0 with
   | false => simp only [Bool.not_true, Bool.not_false, if_true, Bool.and_false, Bool.false_eq_true, if_false]
   | true =>
    simp only [Bool.and_eq_true] at h
    obtain ⟨hg, m, rfl, m1, m8, c1, c3, hcb, hcm⟩ := meet_parts h.1.1
    obtain ⟨x, rfl, hx⟩ := nodeX h.1.2
    have hr2 := inB_iff.1 hr
    obtain ⟨r, rfl⟩ := nat_of hr2.1
    obtain ⟨h1, h2, _⟩ := game_spec (v := v) hg ho c3 () ()
    obtain ⟨p, p1, p2, p3⟩ := place_at hcm
    have hl := ps_l0 100 (v := v) ⟨hg, ho, m1, m8, c3⟩ r (by omega) r 0 100 [] [] p x (by omega) (by omega) (by simp; omega) (by simp; omega) p1 hx
    simp only [Int.natCast_zero, List.nil_append] at hl
    simp only [Bool.not_true, Bool.false_eq_true, if_false, h1, h2, Option.bind_some, place_spec m8 c3, p2, Bool.and_self, if_true, Int.toNat_natCast]
    rcases hl with h | h
    ·simp only [h, Option.bind_some]
    ·simp only [h, Option.bind_some]
 ·cases h
theorem ip_step (N : Nat) {m q : Nat} {es : List E} {v : Unit} (hP : PlayI m q es v) {cops : List Int} (hc : cops ∈ cfG ((m : Int), es, v) q) {p : Nat} (hp : p < (cfG ((m : Int), es, v) q).length) (hpl : placeL (cfG ((m : Int), es, v) q) cops = (p : Int)) (hpc : (cfG ((m : Int), es, v) q).getD p [] = cops) {x : Nat} (hx : x < m) (hh : hasL cops (x : Int) = false) (k : Nat) (hk : k <= 60) (lists : List (List Int)) (nodes : List Int) (hl1 : lists.length <= 1000) (hl2 : nodes.length <= 1000)
  {b : Nat} (hb : nextC (bestG (cfG ((m : Int), es, v) q) (mvG ((m : Int), es, v) q) (ballF m es) (tmG ((m : Int), es, v) q)) (p : Int) (x : Int) = (b : Int)) (hbl : b < (cfG ((m : Int), es, v) q).length) (f : Nat) :
  q40q_l0 N (f + 1) (cops, (x : Int), ((k + 1 : Nat) : Int), lists, nodes, ((toI (netN m es), ()), cfG ((m : Int), es, v) q, mvG ((m : Int), es, v) q, tmG ((m : Int), es, v) q, ()), ()) =
   if hasL ((cfG ((m : Int), es, v) q).getD b []) (x : Int) = true then some (.inl (lists ++ [(cfG ((m : Int), es, v) q).getD b []], nodes, ()))
   else q40q_l0 N f ((cfG ((m : Int), es, v) q).getD b [], fleeG (ballF m es) (tmG ((m : Int), es, v) q) (b : Int) (x : Int), (k : Int), lists ++ [(cfG ((m : Int), es, v) q).getD b []], nodes ++ [fleeG (ballF m es) (tmG ((m : Int), es, v) q) (b : Int) (x : Int)], ((toI (netN m es), ()), cfG ((m : Int), es, v) q, mvG ((m : Int), es, v) q, tmG ((m : Int), es, v) q, ()), ()) := by
 obtain ⟨o1, o2, o3⟩ := conf_own hP.q3 hbl
 have hok : okL (at_ K_Si (cfG ((m : Int), es, v) q) b) = true := okL_of (by omega)
 rw [o3] at hok
 have hokc : okL cops = true := by
  have := confL_len hc
  have := hP.q3
  exact okL_of (by omega)
 have c1 : ∀ l : List Int, decide (lists.length + List.length [l] <= lim) = true := fun l => by unfold lim; simp; omega
 have c2 : ∀ y : Int, decide (nodes.length + List.length [y] <= lim) = true := fun y => by unfold lim; simp; omega
 have hr : decide (((k + 1 : Nat) : Int) > 0) = true := decide_eq_true (by omega)
 have hw : IntKind.wrap .i64 (((k + 1 : Nat) : Int) - 1) = (k : Int) := by
  rw [wrap_in _ (by omega) (by omega)]
  omega
 have hrc := tm_rc ((m : Int), es, v) q
 simp only [Int.toNat_natCast] at hrc
 obtain ⟨t1, t2⟩ := rcB_parts hrc
 have hlt : p < (tmG ((m : Int), es, v) q).length := by omega
 have i1 : idxIn (p : Int) (tmG ((m : Int), es, v) q).length = true := idxIn_nat hlt
 have i2 : idxIn (x : Int) (at_ K_Si (tmG ((m : Int), es, v) q) p).length = true := idxIn_nat (by rw [t2 p hp]; exact hx)
 have i3 : idxIn (b : Int) (tmG ((m : Int), es, v) q).length = true := idxIn_nat (by omega)
 have hfit := board_fits (v := v) (es := es) hP.m8 hP.q3
 have hbf : ∀ x : Nat, x < m -> ∀ z ∈ ballF m es (x : Int), ∃ y : Nat, y < m /\ z = (y : Int) := fun x hx => ballF_ok m es x hx
 have etm : tmG ((m : Int), es, v) q = timesG (cfG ((m : Int), es, v) q) (mvG ((m : Int), es, v) q) (ballF m es) m := by
  unfold tmG
  simp only [Int.toNat_natCast]
 obtain ⟨k1, k2⟩ := best_iff hP.m8 hfit hbf hp hx (by rw [hpc]; exact hh)
 rw [<- etm] at k1 k2
 have hplb : placeL (cfG ((m : Int), es, v) q) ((cfG ((m : Int), es, v) q).getD b []) = (b : Int) := by
  obtain ⟨j, j1, j2, j3⟩ := place_at o2
  have hrise := List.pairwise_iff_getElem.1 (confL_rise m q)
  have ecf : cfG ((m : Int), es, v) q = confL m q := by
   unfold cfG
   rw [Int.toNat_natCast]
  rw [j2]
  have e1 : (cfG ((m : Int), es, v) q)[j] = (cfG ((m : Int), es, v) q)[b] := by
   have a1 : (cfG ((m : Int), es, v) q).getD j [] = (cfG ((m : Int), es, v) q)[j] := by
    rw [List.getD_eq_getElem?_getD, List.getElem?_eq_getElem j1]
    rfl
   have a2 : (cfG ((m : Int), es, v) q).getD b [] = (cfG ((m : Int), es, v) q)[b] := by
    rw [List.getD_eq_getElem?_getD, List.getElem?_eq_getElem hbl]
    rfl
   rw [<- a1, <- a2, j3]
  have hR := List.pairwise_iff_getElem.1 (show (cfG ((m : Int), es, v) q).Pairwise ltL from confL_rise _ _)
  rcases Nat.lt_trichotomy j b with h | h | h
  ·have := hR j b j1 hbl h
   rw [e1] at this
   exact absurd this (ltL_irr _)
  ·rw [h]
  ·have := hR b j hbl j1 h
   rw [e1] at this
   exact absurd this (ltL_irr _)
 show q40q_l0_r _ _ _ = _
 unfold q40q_l0_r
 simp only [hr, if_true, has2 hokc, hh, Bool.not_false, Option.bind_some, place_impl hP.m8 hP.q3 hc, hpl, i1, i2, Int.toNat_natCast, tab2_rc hrc hp hx, hw]
 unfold nextC at hb
 by_cases h : 0 <= bestG (cfG ((m : Int), es, v) q) (mvG ((m : Int), es, v) q) (ballF m es) (tmG ((m : Int), es, v) q) (p : Int) (x : Int)
 ·rw [if_pos h] at hb
  have hre := reply_impl (v := v) hP.hg hP.ho hP.m1 hP.m8 hP.q3 hc hx (by rw [hpl]; exact h) ()
  rw [hpl, hb, Int.toNat_natCast] at hre
  have h' : decide (tab2 (tmG ((m : Int), es, v) q) (p : Int) (x : Int) >= 0) = true := decide_eq_true (k1.1 h)
  simp only [h', if_true, hre, Option.bind_some, G_toIntS, hok, c1, has2 hok, place_impl hP.m8 hP.q3 o2, hplb, i3, Int.toNat_natCast, flee_impl hP.hg hbl hx, c2]
 ·rw [if_neg h] at hb
  have e : b = p := by omega
  subst e
  have h' : decide (tab2 (tmG ((m : Int), es, v) q) (b : Int) (x : Int) >= 0) = false := decide_eq_false fun h0 => h (k1.2 h0)
  simp only [h', Bool.false_eq_true, if_false, if_true, Option.bind_some, G_toIntS, hokc, c1, has2 hokc, place_impl hP.m8 hP.q3 hc, hpl, i1, Int.toNat_natCast, flee_impl hP.hg hbl hx, c2, hpc, hh]
theorem ip_end (N f : Nat) {m q : Nat} {es : List E} {v : Unit} (cops : List Int) (hok : okL cops = true) (x : Int) (k : Int) (h : ¬ k > 0 \/ hasL cops x = true) (lists : List (List Int)) (nodes : List Int) (y : Cg) : q40q_l0 N (f + 1) (cops, x, k, lists, nodes, y, ()) = some (.inl (lists, nodes, ())) := by
 show q40q_l0_r _ _ _ = _
 unfold q40q_l0_r
 by_cases hk : k > 0
 ·have hh : hasL cops x = true := h.resolve_left fun hn => hn hk
  simp only [hk, decide_true, if_true, has2 hok, Option.bind_some, hh, Bool.not_true, Bool.false_eq_true, if_false]
 ·simp only [hk, decide_false, Bool.false_eq_true, if_false]
theorem ip_l0 (N : Nat) {m q : Nat} {es : List E} {v : Unit} (hP : PlayI m q es v) : ∀ (k f : Nat) (lists : List (List Int)) (nodes : List Int) (cops : List Int) (p x : Nat), k <= 60 -> k < f -> lists.length + k <= 1000 -> nodes.length + k <= 1000 -> cops ∈ cfG ((m : Int), es, v) q -> p < (cfG ((m : Int), es, v) q).length -> placeL (cfG ((m : Int), es, v) q) cops = (p : Int) -> (cfG ((m : Int), es, v) q).getD p [] = cops -> x < m -> hasL cops (x : Int) = false ->
  q40q_l0 N f (cops, (x : Int), (k : Int), lists, nodes, ((toI (netN m es), ()), cfG ((m : Int), es, v) q, mvG ((m : Int), es, v) q, tmG ((m : Int), es, v) q, ()), ()) = some (.inl (lists ++ (playL (bestG (cfG ((m : Int), es, v) q) (mvG ((m : Int), es, v) q) (ballF m es) (tmG ((m : Int), es, v) q)) (fleeG (ballF m es) (tmG ((m : Int), es, v) q)) (cfG ((m : Int), es, v) q) k (p : Int) (x : Int)).1, nodes ++ (playL (bestG (cfG ((m : Int), es, v) q) (mvG ((m : Int), es, v) q) (ballF m es) (tmG ((m : Int), es, v) q)) (fleeG (ballF m es) (tmG ((m : Int), es, v) q)) (cfG ((m : Int), es, v) q) k (p : Int) (x : Int)).2, ())) := by
 intro k
 induction k with
 | zero =>
  intro f lists nodes cops p x _ h2 h3 h4 hc hp hpl hpc hx hh
  obtain ⟨f, rfl⟩ : ∃ m, f = m + 1 := ⟨f - 1, by omega⟩
  have hokc : okL cops = true := by
   have := confL_len hc
   have := hP.q3
   exact okL_of (by omega)
  rw [ip_end N f (m := m) (q := q) (es := es) (v := v) cops hokc (x : Int) ((0 : Nat) : Int) (.inl (by omega))]
  simp only [playL, List.append_nil]
 | succ k ih =>
  intro f lists nodes cops p x h60 h2 h3 h4 hc hp hpl hpc hx hh
  obtain ⟨f, rfl⟩ : ∃ m, f = m + 1 := ⟨f - 1, by omega⟩
  obtain ⟨b, eb, hbl⟩ := next_rng hP hp (x : Int)
  obtain ⟨y, ey, hy⟩ := flee_node es (tmG ((m : Int), es, v) q) (b : Int) hx
  obtain ⟨o1, o2, o3⟩ := conf_own hP.q3 hbl
  rw [ip_step N hP hc hp hpl hpc hx hh k (by omega) lists nodes (by omega) (by omega) eb hbl f]
  simp only [playL, eb, Int.toNat_natCast, ey]
  by_cases hx1 : hasL ((cfG ((m : Int), es, v) q).getD b []) (x : Int) = true
  ·simp only [hx1, if_true, List.append_nil]
  ·by_cases hx2 : hasL ((cfG ((m : Int), es, v) q).getD b []) (y : Int) = true
   ·obtain ⟨f, rfl⟩ : ∃ m, f = m + 1 := ⟨f - 1, by omega⟩
    have hok : okL ((cfG ((m : Int), es, v) q).getD b []) = true := by
     rw [<- o3]
     exact okL_of (by omega)
    simp only [hx1, hx2, Bool.false_eq_true, if_true, if_false]
    exact ip_end N f (m := m) (q := q) (es := es) (v := v) _ hok (y : Int) (k : Int) (.inr hx2) _ _ _
   ·have hplb : ∃ j : Nat, j < (cfG ((m : Int), es, v) q).length /\ placeL (cfG ((m : Int), es, v) q) ((cfG ((m : Int), es, v) q).getD b []) = (j : Int) /\ (cfG ((m : Int), es, v) q).getD j [] = (cfG ((m : Int), es, v) q).getD b [] := by
     obtain ⟨j, j1, j2, j3⟩ := place_at o2
     exact ⟨j, j1, j2, j3⟩
    obtain ⟨j, j1, j2, j3⟩ := hplb
    have ejb : j = b := by
     have e1 : (cfG ((m : Int), es, v) q)[j] = (cfG ((m : Int), es, v) q)[b] := by
      have a1 : (cfG ((m : Int), es, v) q).getD j [] = (cfG ((m : Int), es, v) q)[j] := by
       rw [List.getD_eq_getElem?_getD, List.getElem?_eq_getElem j1]
       rfl
      have a2 : (cfG ((m : Int), es, v) q).getD b [] = (cfG ((m : Int), es, v) q)[b] := by
       rw [List.getD_eq_getElem?_getD, List.getElem?_eq_getElem hbl]
       rfl
      rw [<- a1, <- a2, j3]
     have hR := List.pairwise_iff_getElem.1 (show (cfG ((m : Int), es, v) q).Pairwise ltL from confL_rise _ _)
     rcases Nat.lt_trichotomy j b with h | h | h
     ·have := hR j b j1 hbl h
      rw [e1] at this
      exact absurd this (ltL_irr _)
     ·exact h
     ·have := hR b j hbl j1 h
      rw [e1] at this
      exact absurd this (ltL_irr _)
    subst ejb
    simp only [hx1, hx2, Bool.false_eq_true, if_false]
    have := ih f (lists ++ [(cfG ((m : Int), es, v) q).getD j []]) (nodes ++ [(y : Int)]) ((cfG ((m : Int), es, v) q).getD j []) j y (by omega) (by omega) (by simp; omega) (by simp; omega) o2 hbl j2 rfl hy ((Bool.not_eq_true _).mp hx2)
    simp only [List.append_assoc, List.singleton_append] at this
    exact this
theorem implPC_lim (d) (r) (h : G_play d = some r) : ∃ N, F_q40q N d = some r := by
 obtain ⟨⟨n, es, v⟩, c, x, r0, _⟩ := d
 unfold G_play at h
 split at h
 ·rename_i hc
  rw [Bool.and_eq_true] at hc
  have ho : okL es = true := hc.1
  have hc : okL c = true := hc.2
  have h := Option.some.inj h
  subst h
  refine ⟨100, ?_⟩
  unfold F_q40q playB
  simp only [implAre ho hc, Option.bind_some, has_nodes n es v () [x] ho (okL_of (by simp)), has2 hc, within_eq]
  cases hme : meetB (n, es, v) c with
  | false => simp only [Bool.not_false, if_true, Bool.false_and, Bool.false_eq_true, if_false]
  | true =>
   obtain ⟨hg, m, rfl, m1, m8, c1, c3, hcb, hcm⟩ := meet_parts hme
   simp only [Bool.not_true, Bool.false_eq_true, if_false, hg, List.all_cons, List.all_nil, Bool.and_true, Bool.true_and]
   cases hxb : inB 0 ((m : Int) - 1) x with
   | false => simp only [Bool.not_false, if_true, Bool.false_and, Bool.false_eq_true, if_false]
   | true =>
    cases hh : hasL c x with
    | true => simp only [Bool.not_true, Bool.false_eq_true, if_false, if_true, Bool.and_false, Bool.false_and]
    | false =>
     cases hr : inB 0 60 r0 with
     | false => simp only [Bool.not_true, Bool.not_false, Bool.false_eq_true, if_false, if_true, Bool.and_false]
     | true =>
      obtain ⟨x, rfl, hx⟩ := nodeX hxb
      have hr2 := inB_iff.1 hr
      obtain ⟨r, rfl⟩ := nat_of hr2.1
      obtain ⟨h1, _⟩ := game_impl (v := v) hg ho m1 c3 ()
      obtain ⟨p, p1, p2, p3⟩ := place_at hcm
      have hl := ip_l0 100 (v := v) ⟨hg, ho, m1, m8, c3⟩ r 100 [] [] c p x (by omega) (by omega) (by simp; omega) (by simp; omega) hcm p1 p2 p3 hx hh
      simp only [List.nil_append] at hl
      simp only [Bool.not_true, Bool.not_false, Bool.false_eq_true, if_false, if_true, Bool.and_self, net_some hg ho, Option.bind_some, h1, hl, p2, Int.toNat_natCast]
 ·cases h
theorem play_len {best flee : Int -> Int -> Int} {cf : List (List Int)} (h3 : ∀ i : Nat, (cf.getD i []).length <= 3) : ∀ (k : Nat) (c x : Int), (playL best flee cf k c x).1.length <= k /\ (playL best flee cf k c x).2.length <= k /\ ∀ l ∈ (playL best flee cf k c x).1, l.length <= 3 := by
 intro k
 induction k with
 | zero => intro c x; simp [playL]
 | succ k ih =>
  intro c x
  obtain ⟨i1, i2, i3⟩ := ih (nextC best c x) (flee (nextC best c x) x)
  unfold playL
  split
  ·exact ⟨by simp, by simp, fun l hl => by
    have e : l = cf.getD (nextC best c x).toNat [] := by simpa using hl
    rw [e]
    exact h3 _⟩
  ·split
   ·exact ⟨by simp, by simp, fun l hl => by
     have e : l = cf.getD (nextC best c x).toNat [] := by simpa using hl
     rw [e]
     exact h3 _⟩
   ·refine ⟨by simp only [List.length_cons]; omega, by simp only [List.length_cons]; omega, fun l hl => ?_⟩
    rcases List.mem_cons.1 hl with e | hl
    ·rw [e]
     exact h3 _
    ·exact i3 l hl
theorem play_small {g : Gr} {c : List Int} {x r : Int} : (playB g c x r).1.length <= 60 /\ (∀ l ∈ (playB g c x r).1, l.length <= 8) /\ (playB g c x r).2.1.length <= 60 := by
 unfold playB
 split
 ·rename_i hb
  simp only [Bool.and_eq_true] at hb
  obtain ⟨n, es, v⟩ := g
  obtain ⟨hg, m, rfl, m1, m8, c1, c3, hcb, hcm⟩ := meet_parts hb.1.1.1
  have hr := inB_iff.1 hb.2
  have h3 : ∀ i : Nat, ((cfG ((m : Int), es, v) c.length).getD i []).length <= 3 := fun i => by
   rw [List.getD_eq_getElem?_getD]
   cases hi : (cfG ((m : Int), es, v) c.length)[i]? with
   | none => simp
   | some l =>
    have := confL_len (List.mem_of_getElem? hi)
    simp only [Option.getD_some]
    omega
  obtain ⟨a1, a2, a3⟩ := play_len (best := bestG (cfG ((m : Int), es, v) c.length) (mvG ((m : Int), es, v) c.length) (ballF (m : Int).toNat es) (tmG ((m : Int), es, v) c.length)) (flee := fleeG (ballF (m : Int).toNat es) (tmG ((m : Int), es, v) c.length)) h3 r.toNat (placeL (cfG ((m : Int), es, v) c.length) c) x
  exact ⟨Nat.le_trans a1 (by omega), fun l hl => by have := a3 l hl; omega, Nat.le_trans a2 (by omega)⟩
 ·exact ⟨by simp, fun l hl => by simp at hl, by simp⟩
theorem law48 : ∀ d, WfD (Kd.tuple ([(K_PiSPiiqq, false), (K_Si, false), (I, false), (I, false)].map (·.1))) d -> ∃ out, F_laws_FnExactPlayCops 0 d = some out /\ (splitT [.bool] [] out).1.1 = true := by
 rintro ⟨⟨n, es, v⟩, t, x, r, w⟩ ⟨⟨_, he, _⟩, ht, _⟩
 have he : es.length <= maxLen := he.1
 refine ⟨(true, ()), ?_, rfl⟩
 unfold F_laws_FnExactPlayCops
 by_cases hb : (t.length : Int) > 1048576
 ·simp only [hb, decide_true, if_true]
 have hs : okL t = true := okL_of (by omega)
 simp only [hb, decide_false, Bool.false_eq_true, if_false, szGraph_eq n es v 1048576 () (by omega) (by omega) he]
 by_cases h : szStep 1048576 es.length < 0
 ·simp only [h, decide_true, if_true]
 ·have h1 := szStep_le h
  have ho := okL_of (l := es) (by omega)
  obtain ⟨u1, u2, u3⟩ := play_small (g := (n, es, ())) (c := t) (x := x) (r := r)
  obtain ⟨t1, t2⟩ := sumL_small _ 8 u2
  have hok := okLL_8 (by omega) u2
  obtain ⟨m1, m2, m3⟩ := marks_two hok t1 (by omega)
  have ho2 : okL (playB (n, es, ()) t x r).2.1 = true := okL_of (by omega)
  have hm1 := markGraph_eq n es () () 1 ho (by decide)
  have hk : okK 1 = true := by decide
  have hk0 : okK (1 + 2 * (es.length : Int)) = true := okK_small (by omega) (by omega)
  have hkk : okK (1 + sumL (playB (n, es, ()) t x r).1) = true := okK_small (by omega) (by omega)
  have hk1 : decide ((1 : Int) + 2 * (es.length : Int) < 0) = false := decide_eq_false (by omega)
  have hk3 : decide ((1 : Int) + 2 * (es.length : Int) + (t.length : Int) < 0) = false := decide_eq_false (by omega)
  have hk2 : decide ((1 : Int) + sumL (playB (n, es, ()) t x r).1 + ((playB (n, es, ()) t x r).2.1.length : Int) < 0) = false := decide_eq_false (by omega)
  simp only [h, decide_false, Bool.false_eq_true, if_false, toGraph_eq n es v _ ho, G_toIntS, G_eqIntS, G_eqIntSS, hs, G_play, ho, hok, ho2, eqGraph_self n es () () _ ho, Option.bind_some, hm1, hk0, hk1, hk3, m1, m2, m3, hkk, G_markIntS, G_heldIntS, hk, Bool.and_self, markL_ok ho2, held_markL, hk2, beq_self_eq_true, bne_self_eq_false, Bool.not_true, if_true, decide_true]
end Go.V.W
set_option linter.unusedVariables false
set_option linter.unusedSimpArgs false
namespace Go.V.W
open Go.Proofs
structure RoundI (cf mv : List (List Int)) (ball : Int -> List Int) (n : Nat) (t : Int) (T : Tab) : Prop where
 pos : 1 <= t
 low : ∀ c x : Nat, c < cf.length -> x < n -> -1 <= tab2 T (c : Int) (x : Int)
 high : ∀ c x : Nat, c < cf.length -> x < n -> tab2 T (c : Int) (x : Int) < t
 none : ∀ c x : Nat, c < cf.length -> x < n -> tab2 T (c : Int) (x : Int) < 0 -> ∀ d ∈ mv.getD c [], 0 <= afterG cf ball T d (x : Int) -> t - 1 <= afterG cf ball T d (x : Int)
 ex : ∀ c x : Nat, c < cf.length -> x < n -> 1 <= tab2 T (c : Int) (x : Int) -> ∃ d ∈ mv.getD c [], 0 <= afterG cf ball T d (x : Int) /\ afterG cf ball T d (x : Int) + 1 <= tab2 T (c : Int) (x : Int)
 least : ∀ c x : Nat, c < cf.length -> x < n -> 1 <= tab2 T (c : Int) (x : Int) -> ∀ d ∈ mv.getD c [], 0 <= afterG cf ball T d (x : Int) -> tab2 T (c : Int) (x : Int) <= afterG cf ball T d (x : Int) + 1
 zero : ∀ c x : Nat, c < cf.length -> x < n -> (tab2 T (c : Int) (x : Int) = 0 ↔ hasL (cf.getD c []) (x : Int) = true)
structure TimesI (cf mv : List (List Int)) (ball : Int -> List Int) (n : Nat) (T : Tab) : Prop where
 low : ∀ c x : Nat, c < cf.length -> x < n -> -1 <= tab2 T (c : Int) (x : Int)
 none : ∀ c x : Nat, c < cf.length -> x < n -> tab2 T (c : Int) (x : Int) < 0 -> ∀ d ∈ mv.getD c [], afterG cf ball T d (x : Int) < 0
 ex : ∀ c x : Nat, c < cf.length -> x < n -> 1 <= tab2 T (c : Int) (x : Int) -> ∃ d ∈ mv.getD c [], 0 <= afterG cf ball T d (x : Int) /\ afterG cf ball T d (x : Int) + 1 <= tab2 T (c : Int) (x : Int)
 least : ∀ c x : Nat, c < cf.length -> x < n -> 1 <= tab2 T (c : Int) (x : Int) -> ∀ d ∈ mv.getD c [], 0 <= afterG cf ball T d (x : Int) -> tab2 T (c : Int) (x : Int) <= afterG cf ball T d (x : Int) + 1
 zero : ∀ c x : Nat, c < cf.length -> x < n -> (tab2 T (c : Int) (x : Int) = 0 ↔ hasL (cf.getD c []) (x : Int) = true)
end Go.V.W
set_option linter.unusedVariables false
set_option linter.unusedSimpArgs false
namespace Go.V.W
structure Inv3 (p n : Nat) (ball : Nat -> Int -> List Int) (f : Nat -> Nat -> Nat -> Int) : Prop where
 low : ∀ r c q, -1 <= f r c q
 home : ∀ r c, f r c c = 0
 away : ∀ r c q, c ≠ q -> f r c q ≠ 0
 why : ∀ r c q, r < p -> c < n -> q < n -> 0 <= f r c q -> c = q \/ ∃ b ∈ ball r (c : Int), 0 <= afterT (ball r) (tabL n (f ((r + 1) % p))) b (q : Int)
theorem Inv3.start (p n : Nat) (ball : Nat -> Int -> List Int) : Inv3 p n ball start3 := by
 refine ⟨fun r c q => ?_, fun r c => ?_, fun r c q h => ?_, fun r c q _ _ _ h => ?_⟩
 ·unfold start3 startF; split <;> omega
 ·unfold start3 startF; simp
 ·unfold start3 startF; rw [if_neg h]; omega
 ·unfold start3 startF at h
  by_cases e : c = q
  ·exact .inl e
  ·rw [if_neg e] at h; omega
def okBalls (p n : Nat) (ball : Nat -> Int -> List Int) : Prop := ∀ r, r < p -> okBall n (ball r)
theorem after_mono {n : Nat} {ball : Int -> List Int} (hb : okBall n ball) {f g : Nat -> Nat -> Int} (h : ∀ c q, 0 <= f c q -> 0 <= g c q) {b q : Nat} (hbn : b < n) (hq : q < n) (h0 : 0 <= afterT ball (tabL n f) (b : Int) (q : Int)) : 0 <= afterT ball (tabL n g) (b : Int) (q : Int) := by
 unfold afterT at h0 |-
 by_cases e : (b : Int) = (q : Int)
 ·rw [if_pos e]; exact Int.le_refl _
 ·rw [if_neg e] at h0 |-
  rcases worst_spec (tab2 (tabL n f) (b : Int)) (ball (q : Int)) 0 with ⟨_, h1⟩ | ⟨h1, _, _⟩
  ·omega
  ·rcases worst_spec (tab2 (tabL n g) (b : Int)) (ball (q : Int)) 0 with ⟨⟨x, hx, h2⟩, _⟩ | ⟨_, h2, _⟩
   ·exfalso
    obtain ⟨y, hy, rfl⟩ := hb q hq x hx
    have := (h1 _ hx).1
    rw [tab2_tabL _ hbn hy] at this h2
    have := h _ _ this
    omega
   ·exact h2
theorem Inv3.next {p n : Nat} {ball : Nat -> Int -> List Int} (hb : okBalls p n ball) {t : Int} (ht : 1 <= t) {f : Nat -> Nat -> Nat -> Int} (hI : Inv3 p n ball f) : Inv3 p n ball (step3 p n ball t f) := by
 have hkeep : ∀ r c q, 0 <= f r c q -> step3 p n ball t f r c q = f r c q := fun r c q h => by
  unfold step3 can3
  have : decide (f r c q < 0) = false := by simp; omega
  simp [this]
 have hge : ∀ r c q, 0 <= f r c q -> 0 <= step3 p n ball t f r c q := fun r c q h => by rw [hkeep r c q h]; exact h
 refine ⟨fun r c q => ?_, fun r c => ?_, fun r c q h => ?_, fun r c q hr hc hq h => ?_⟩
 ·unfold step3; split
  ·omega
  ·exact hI.low r c q
 ·rw [hkeep r c c (by rw [hI.home]; exact Int.le_refl _)]; exact hI.home r c
 ·unfold step3; split
  ·omega
  ·exact hI.away r c q h
 ·have key : (∃ b ∈ ball r (c : Int), 0 <= afterT (ball r) (tabL n (f ((r + 1) % p))) b (q : Int)) -> ∃ b ∈ ball r (c : Int), 0 <= afterT (ball r) (tabL n (step3 p n ball t f ((r + 1) % p))) b (q : Int) := by
   rintro ⟨b, hbm, h1⟩
   obtain ⟨y, hy, rfl⟩ := hb r hr c hc b hbm
   exact ⟨_, hbm, after_mono (hb r hr) (hge _) hy hq h1⟩
  by_cases hf : 0 <= f r c q
  ·exact (hI.why r c q hr hc hq hf).imp _root_.id key
  ·right
   have hcan : can3 p n ball f r c q = true := by
    cases hcan : can3 p n ball f r c q with
    | true => rfl
    | false => unfold step3 at h; rw [if_neg (by rw [hcan]; simp)] at h; exact absurd h hf
   unfold can3 at hcan
   simp only [Bool.and_eq_true, List.any_eq_true, decide_eq_true_eq] at hcan
   exact key hcan.2
end Go.V.W
set_option linter.unusedVariables false
set_option linter.unusedSimpArgs false
namespace Go.V.W
open Go.Proofs
structure TT (nets : List Nt) (p n : Nat) : Prop where
 ok : netsB n nets = true
 len : nets.length = p
 n8 : n <= 8
end Go.V.W
set_option linter.unusedVariables false
set_option linter.unusedSimpArgs false
namespace Go.V.W
open Go.Proofs
structure LogIs (d p : List UInt8) (c : Int) : Prop where
 size : d.length + p.length <= 30000
 all : (openL 60 0 (d ++ p)).2 = (d ++ p).length
 durable : (openL 60 0 d).2 = d.length
 count : ((openL 60 0 (d ++ p)).1.length : Int) = c
end Go.V.W
namespace Go.V.W
open Go.Proofs Go.Shelf Go.RowKit
-- import Derived.Shelf.Lays
-- import Derived.Shelf.LaysM
-- import Derived.Test.XvLib3
-- import Derived.Shelf.SortM.Plain
-- import Derived.Shelf.SortM.SortNone
-- import Derived.Shelf.SlSortCmp.NoneTotal
def layg5_ren : Go.Shelf.Ren :=
{
  f := fun x =>
    match x with
    | 5 => 121
    | 8 => 133
    | 7 => 132
    | 19 => 147
    | 20 => 148
    | 10 => 139
    | 11 => 140
    | 12 => 141
    | 13 => 142
    | 14 => 143
    | 15 => 144
    | 16 => 129
    | 17 => 145
    | 18 => 146
    | 30 => 157
    | 31 => 158
    | 32 => 159
    | 33 => 160
    | 34 => 161
    | 35 => 138
    | 40 => 165
    | n => n,
  t := fun x =>
    match x with
    | 23 => 37
    | 25 => 3
    | 3 => 3
    | 32 => 114
    | 22 => 37
    | 0 => 0
    | 44 => 122
    | 46 => 125
    | 4 => 4
    | 36 => 131
    | 35 => 130
    | 41 => 44
    | 5 => 5
    | 9 => 9
    | 53 => 142
    | 57 => 146
    | 63 => 150
    | 64 => 151
    | n => n,
  g := fun x =>
    x }
set_option maxRecDepth 1000000 in
theorem layg5 : Go.Proofs.SlLaysM.n5 Go.Proofs.Tryz.prog layg5_ren :=
{ mixed := by kernel_rfl,
  f5 := ⟨Go.Proofs.Tryz.f121.name, of_decide_eq_true (by kernel_rfl), (Go.Proofs.Tryz.func121).trans (congrArg some (by kernel_rfl))⟩,
  f7 := ⟨Go.Proofs.Tryz.f132.name, of_decide_eq_true (by kernel_rfl), (Go.Proofs.Tryz.func132).trans (congrArg some (by kernel_rfl))⟩,
  f8 := (Go.Proofs.Tryz.func133).trans (congrArg some (by kernel_rfl)),
  f10 := ⟨Go.Proofs.Tryz.f139.name, of_decide_eq_true (by kernel_rfl), (Go.Proofs.Tryz.func139).trans (congrArg some (by kernel_rfl))⟩,
  f11 := ⟨Go.Proofs.Tryz.f140.name, of_decide_eq_true (by kernel_rfl), (Go.Proofs.Tryz.func140).trans (congrArg some (by kernel_rfl))⟩,
  f12 := ⟨Go.Proofs.Tryz.f141.name, of_decide_eq_true (by kernel_rfl), (Go.Proofs.Tryz.func141).trans (congrArg some (by kernel_rfl))⟩,
  f13 := ⟨Go.Proofs.Tryz.f142.name, of_decide_eq_true (by kernel_rfl), (Go.Proofs.Tryz.func142).trans (congrArg some (by kernel_rfl))⟩,
  f14 := ⟨Go.Proofs.Tryz.f143.name, of_decide_eq_true (by kernel_rfl), (Go.Proofs.Tryz.func143).trans (congrArg some (by kernel_rfl))⟩,
  f15 := ⟨Go.Proofs.Tryz.f144.name, of_decide_eq_true (by kernel_rfl), (Go.Proofs.Tryz.func144).trans (congrArg some (by kernel_rfl))⟩,
  f16 := ⟨Go.Proofs.Tryz.f129.name, of_decide_eq_true (by kernel_rfl), (Go.Proofs.Tryz.func129).trans (congrArg some (by kernel_rfl))⟩,
  f17 := ⟨Go.Proofs.Tryz.f145.name, of_decide_eq_true (by kernel_rfl), (Go.Proofs.Tryz.func145).trans (congrArg some (by kernel_rfl))⟩,
  f18 := ⟨Go.Proofs.Tryz.f146.name, of_decide_eq_true (by kernel_rfl), (Go.Proofs.Tryz.func146).trans (congrArg some (by kernel_rfl))⟩,
  f19 := (Go.Proofs.Tryz.func147).trans (congrArg some (by kernel_rfl)),
  f20 := (Go.Proofs.Tryz.func148).trans (congrArg some (by kernel_rfl)),
  f30 := ⟨Go.Proofs.Tryz.f157.name, of_decide_eq_true (by kernel_rfl), (Go.Proofs.Tryz.func157).trans (congrArg some (by kernel_rfl))⟩,
  f31 := (Go.Proofs.Tryz.func158).trans (congrArg some (by kernel_rfl)),
  f32 := (Go.Proofs.Tryz.func159).trans (congrArg some (by kernel_rfl)),
  f33 := ⟨Go.Proofs.Tryz.f160.name, of_decide_eq_true (by kernel_rfl), (Go.Proofs.Tryz.func160).trans (congrArg some (by kernel_rfl))⟩,
  f34 := ⟨Go.Proofs.Tryz.f161.name, of_decide_eq_true (by kernel_rfl), (Go.Proofs.Tryz.func161).trans (congrArg some (by kernel_rfl))⟩,
  f35 := ⟨Go.Proofs.Tryz.f138.name, of_decide_eq_true (by kernel_rfl), (Go.Proofs.Tryz.func138).trans (congrArg some (by kernel_rfl))⟩,
  f40 := ⟨Go.Proofs.Tryz.f165.name, of_decide_eq_true (by kernel_rfl), (Go.Proofs.Tryz.func165).trans (congrArg some (by kernel_rfl))⟩,
  t0 := Go.Proofs.Tryz.underlying0,
  a0 := Go.Proofs.Tryz.isAgg0,
  z0 := Go.Proofs.Tryz.sizeOf0,
  v0 := Go.Proofs.Tryz.zeroValue0,
  t3 := Go.Proofs.Tryz.underlying3,
  a3 := Go.Proofs.Tryz.isAgg3,
  z3 := Go.Proofs.Tryz.sizeOf3,
  v3 := Go.Proofs.Tryz.zeroValue3,
  t4 := Go.Proofs.Tryz.underlying4,
  a4 := Go.Proofs.Tryz.isAgg4,
  z4 := Go.Proofs.Tryz.sizeOf4,
  v4 := Go.Proofs.Tryz.zeroValue4,
  t5 := Go.Proofs.Tryz.underlying5,
  a5 := Go.Proofs.Tryz.isAgg5,
  z5 := Go.Proofs.Tryz.sizeOf5,
  v5 := Go.Proofs.Tryz.zeroValue5,
  t9 := Go.Proofs.Tryz.underlying9,
  a9 := Go.Proofs.Tryz.isAgg9,
  z9 := Go.Proofs.Tryz.sizeOf9,
  v9 := Go.Proofs.Tryz.zeroValue9,
  t22 := Go.Proofs.Tryz.underlying37,
  a22 := Go.Proofs.Tryz.isAgg37,
  z22 := Go.Proofs.Tryz.sizeOf37,
  v22 := Go.Proofs.Tryz.zeroValue37,
  t23 := Go.Proofs.Tryz.underlying37,
  a23 := Go.Proofs.Tryz.isAgg37,
  z23 := Go.Proofs.Tryz.sizeOf37,
  v23 := Go.Proofs.Tryz.zeroValue37,
  t25 := Go.Proofs.Tryz.underlying3,
  a25 := Go.Proofs.Tryz.isAgg3,
  z25 := Go.Proofs.Tryz.sizeOf3,
  v25 := Go.Proofs.Tryz.zeroValue3,
  t32 := Go.Proofs.Tryz.underlying114,
  a32 := Go.Proofs.Tryz.isAgg114,
  z32 := Go.Proofs.Tryz.sizeOf114,
  v32 := Go.Proofs.Tryz.zeroValue114,
  t35 := Go.Proofs.Tryz.underlying130,
  a35 := Go.Proofs.Tryz.isAgg130,
  z35 := Go.Proofs.Tryz.sizeOf130,
  v35 := Go.Proofs.Tryz.zeroValue130,
  t36 := Go.Proofs.Tryz.underlying131,
  a36 := Go.Proofs.Tryz.isAgg131,
  z36 := Go.Proofs.Tryz.sizeOf131,
  v36 := Go.Proofs.Tryz.zeroValue131,
  t41 := Go.Proofs.Tryz.underlying44,
  a41 := Go.Proofs.Tryz.isAgg44,
  z41 := Go.Proofs.Tryz.sizeOf44,
  v41 := Go.Proofs.Tryz.zeroValue44,
  t44 := Go.Proofs.Tryz.underlying122,
  a44 := Go.Proofs.Tryz.isAgg122,
  z44 := Go.Proofs.Tryz.sizeOf122,
  v44 := Go.Proofs.Tryz.zeroValue122,
  t46 := Go.Proofs.Tryz.underlying125,
  a46 := Go.Proofs.Tryz.isAgg125,
  z46 := Go.Proofs.Tryz.sizeOf125,
  v46 := Go.Proofs.Tryz.zeroValue125,
  t53 := Go.Proofs.Tryz.underlying142,
  a53 := Go.Proofs.Tryz.isAgg142,
  z53 := Go.Proofs.Tryz.sizeOf142,
  v53 := Go.Proofs.Tryz.zeroValue142,
  t57 := Go.Proofs.Tryz.underlying146,
  a57 := Go.Proofs.Tryz.isAgg146,
  z57 := Go.Proofs.Tryz.sizeOf146,
  v57 := Go.Proofs.Tryz.zeroValue146,
  t63 := Go.Proofs.Tryz.underlying150,
  a63 := Go.Proofs.Tryz.isAgg150,
  z63 := Go.Proofs.Tryz.sizeOf150,
  v63 := Go.Proofs.Tryz.zeroValue150,
  t64 := Go.Proofs.Tryz.underlying151,
  a64 := Go.Proofs.Tryz.isAgg151,
  z64 := Go.Proofs.Tryz.sizeOf151,
  v64 := Go.Proofs.Tryz.zeroValue151 }
def layg6_ren : Go.Shelf.Ren :=
{
  f := fun x =>
    match x with
    | 6 => 122
    | 15 => 133
    | 14 => 134
    | 28 => 147
    | 29 => 148
    | 20 => 149
    | 21 => 150
    | 22 => 151
    | 23 => 152
    | 24 => 153
    | 25 => 154
    | 26 => 155
    | 27 => 156
    | 46 => 162
    | 47 => 158
    | 48 => 159
    | 49 => 163
    | 50 => 164
    | 57 => 166
    | n => n,
  t := fun x =>
    match x with
    | 22 => 25
    | 24 => 37
    | 25 => 105
    | 3 => 3
    | 39 => 114
    | 0 => 0
    | 53 => 122
    | 55 => 125
    | 4 => 4
    | 46 => 131
    | 45 => 130
    | 50 => 44
    | 5 => 5
    | 9 => 9
    | 66 => 142
    | 70 => 146
    | 76 => 150
    | 77 => 151
    | n => n,
  g := fun x =>
    x }
set_option maxRecDepth 1000000 in
theorem layg6 : Go.Proofs.SlLaysF.n6 Go.Proofs.Tryz.prog layg6_ren :=
{ mixed := by kernel_rfl,
  f6 := ⟨Go.Proofs.Tryz.f122.name, of_decide_eq_true (by kernel_rfl), (Go.Proofs.Tryz.func122).trans (congrArg some (by kernel_rfl))⟩,
  f14 := ⟨Go.Proofs.Tryz.f134.name, of_decide_eq_true (by kernel_rfl), (Go.Proofs.Tryz.func134).trans (congrArg some (by kernel_rfl))⟩,
  f15 := (Go.Proofs.Tryz.func133).trans (congrArg some (by kernel_rfl)),
  f20 := ⟨Go.Proofs.Tryz.f149.name, of_decide_eq_true (by kernel_rfl), (Go.Proofs.Tryz.func149).trans (congrArg some (by kernel_rfl))⟩,
  f21 := ⟨Go.Proofs.Tryz.f150.name, of_decide_eq_true (by kernel_rfl), (Go.Proofs.Tryz.func150).trans (congrArg some (by kernel_rfl))⟩,
  f22 := ⟨Go.Proofs.Tryz.f151.name, of_decide_eq_true (by kernel_rfl), (Go.Proofs.Tryz.func151).trans (congrArg some (by kernel_rfl))⟩,
  f23 := ⟨Go.Proofs.Tryz.f152.name, of_decide_eq_true (by kernel_rfl), (Go.Proofs.Tryz.func152).trans (congrArg some (by kernel_rfl))⟩,
  f24 := ⟨Go.Proofs.Tryz.f153.name, of_decide_eq_true (by kernel_rfl), (Go.Proofs.Tryz.func153).trans (congrArg some (by kernel_rfl))⟩,
  f25 := ⟨Go.Proofs.Tryz.f154.name, of_decide_eq_true (by kernel_rfl), (Go.Proofs.Tryz.func154).trans (congrArg some (by kernel_rfl))⟩,
  f26 := ⟨Go.Proofs.Tryz.f155.name, of_decide_eq_true (by kernel_rfl), (Go.Proofs.Tryz.func155).trans (congrArg some (by kernel_rfl))⟩,
  f27 := ⟨Go.Proofs.Tryz.f156.name, of_decide_eq_true (by kernel_rfl), (Go.Proofs.Tryz.func156).trans (congrArg some (by kernel_rfl))⟩,
  f28 := (Go.Proofs.Tryz.func147).trans (congrArg some (by kernel_rfl)),
  f29 := (Go.Proofs.Tryz.func148).trans (congrArg some (by kernel_rfl)),
  f46 := ⟨Go.Proofs.Tryz.f162.name, of_decide_eq_true (by kernel_rfl), (Go.Proofs.Tryz.func162).trans (congrArg some (by kernel_rfl))⟩,
  f47 := (Go.Proofs.Tryz.func158).trans (congrArg some (by kernel_rfl)),
  f48 := (Go.Proofs.Tryz.func159).trans (congrArg some (by kernel_rfl)),
  f49 := ⟨Go.Proofs.Tryz.f163.name, of_decide_eq_true (by kernel_rfl), (Go.Proofs.Tryz.func163).trans (congrArg some (by kernel_rfl))⟩,
  f50 := ⟨Go.Proofs.Tryz.f164.name, of_decide_eq_true (by kernel_rfl), (Go.Proofs.Tryz.func164).trans (congrArg some (by kernel_rfl))⟩,
  f57 := ⟨Go.Proofs.Tryz.f166.name, of_decide_eq_true (by kernel_rfl), (Go.Proofs.Tryz.func166).trans (congrArg some (by kernel_rfl))⟩,
  t0 := Go.Proofs.Tryz.underlying0,
  a0 := Go.Proofs.Tryz.isAgg0,
  z0 := Go.Proofs.Tryz.sizeOf0,
  v0 := Go.Proofs.Tryz.zeroValue0,
  t3 := Go.Proofs.Tryz.underlying3,
  a3 := Go.Proofs.Tryz.isAgg3,
  z3 := Go.Proofs.Tryz.sizeOf3,
  v3 := Go.Proofs.Tryz.zeroValue3,
  t4 := Go.Proofs.Tryz.underlying4,
  a4 := Go.Proofs.Tryz.isAgg4,
  z4 := Go.Proofs.Tryz.sizeOf4,
  v4 := Go.Proofs.Tryz.zeroValue4,
  t5 := Go.Proofs.Tryz.underlying5,
  a5 := Go.Proofs.Tryz.isAgg5,
  z5 := Go.Proofs.Tryz.sizeOf5,
  v5 := Go.Proofs.Tryz.zeroValue5,
  t9 := Go.Proofs.Tryz.underlying9,
  a9 := Go.Proofs.Tryz.isAgg9,
  z9 := Go.Proofs.Tryz.sizeOf9,
  v9 := Go.Proofs.Tryz.zeroValue9,
  t22 := Go.Proofs.Tryz.underlying25,
  a22 := Go.Proofs.Tryz.isAgg25,
  z22 := Go.Proofs.Tryz.sizeOf25,
  v22 := Go.Proofs.Tryz.zeroValue25,
  a24 := Go.Proofs.Tryz.isAgg37,
  z24 := Go.Proofs.Tryz.sizeOf37,
  t25 := Go.Proofs.Tryz.underlying105,
  a25 := Go.Proofs.Tryz.isAgg105,
  z25 := Go.Proofs.Tryz.sizeOf105,
  v25 := Go.Proofs.Tryz.zeroValue105,
  t39 := Go.Proofs.Tryz.underlying114,
  a39 := Go.Proofs.Tryz.isAgg114,
  z39 := Go.Proofs.Tryz.sizeOf114,
  v39 := Go.Proofs.Tryz.zeroValue114,
  t45 := Go.Proofs.Tryz.underlying130,
  a45 := Go.Proofs.Tryz.isAgg130,
  z45 := Go.Proofs.Tryz.sizeOf130,
  v45 := Go.Proofs.Tryz.zeroValue130,
  t46 := Go.Proofs.Tryz.underlying131,
  a46 := Go.Proofs.Tryz.isAgg131,
  z46 := Go.Proofs.Tryz.sizeOf131,
  v46 := Go.Proofs.Tryz.zeroValue131,
  t50 := Go.Proofs.Tryz.underlying44,
  a50 := Go.Proofs.Tryz.isAgg44,
  z50 := Go.Proofs.Tryz.sizeOf44,
  v50 := Go.Proofs.Tryz.zeroValue44,
  t53 := Go.Proofs.Tryz.underlying122,
  a53 := Go.Proofs.Tryz.isAgg122,
  z53 := Go.Proofs.Tryz.sizeOf122,
  v53 := Go.Proofs.Tryz.zeroValue122,
  t55 := Go.Proofs.Tryz.underlying125,
  a55 := Go.Proofs.Tryz.isAgg125,
  z55 := Go.Proofs.Tryz.sizeOf125,
  v55 := Go.Proofs.Tryz.zeroValue125,
  t66 := Go.Proofs.Tryz.underlying142,
  a66 := Go.Proofs.Tryz.isAgg142,
  z66 := Go.Proofs.Tryz.sizeOf142,
  v66 := Go.Proofs.Tryz.zeroValue142,
  t70 := Go.Proofs.Tryz.underlying146,
  a70 := Go.Proofs.Tryz.isAgg146,
  z70 := Go.Proofs.Tryz.sizeOf146,
  v70 := Go.Proofs.Tryz.zeroValue146,
  t76 := Go.Proofs.Tryz.underlying150,
  a76 := Go.Proofs.Tryz.isAgg150,
  z76 := Go.Proofs.Tryz.sizeOf150,
  v76 := Go.Proofs.Tryz.zeroValue150,
  t77 := Go.Proofs.Tryz.underlying151,
  a77 := Go.Proofs.Tryz.isAgg151,
  z77 := Go.Proofs.Tryz.sizeOf151,
  v77 := Go.Proofs.Tryz.zeroValue151 }
theorem tab : TabOk Tryz.prog (assoc tks) (assoc ars) := tab_of (by kernel_rfl)
theorem mixed : Tryz.prog.follows .mixedOrders = true := by kernel_rfl
theorem C_q2q : Contract Tryz.prog 122 S_q2q :=
  con_sortF (enters_of Tryz.func122 (by kernel_rfl) rfl) (fun w v1 v2 xs ys h1 h2 l1 l2 => cmpH h1 h2 l1 l2) (fun n enc cf blk off cap w h1 hO hcmp hH hb hs => Any.slices_SortFunc layg6 enc h1 cf hO 113 #[] blk off cap (idA n) w (enters_of Tryz.func113 (by kernel_rfl) rfl) hcmp hH hb hs) (AnyF.slices_SortFunc_none { layg6 with })
theorem C_q11q : Contract Tryz.prog 121 S_q11q :=
  con_sortI (enters_of Tryz.func121 (by kernel_rfl) rfl) (fun blk off cap zs w h1 h2 h3 => AnyM.slices_Sort_int layg5 blk off cap zs w h1 h2 h3) (fun p cap w => AnyM.slices_Sort_int_none layg5 p cap w)
theorem C_q34q_raw (N : Nat) : Contract Tryz.prog 43 ⟨[(K_SPiiq, false), (I, false)], [I], true, F_q34q N⟩ :=
  have E : Env Tryz.prog Γ_q34q := env_of tab trivial
  con_of (Pc := []) E rfl mixed Tryz.func43 (by kernel_rfl) (by kernel_rfl) (by kernel_rfl) (by kernel_rfl) (fun A hA => trivial) (F_q34q_ok N)
theorem C_q34q : Contract Tryz.prog 43 S_q34q := Contract.less (fun N : Nat => F_q34q N) C_q34q_raw (fun d r h => ⟨0, (F_q34q_tot 0 d).trans h⟩)
theorem C_q51q_raw (N : Nat) : Contract Tryz.prog 12 ⟨[(K_PiSPiiqq, false), (I, false)], [I], true, F_q51q N⟩ :=
  have E : Env Tryz.prog Γ_q51q := env_of tab ⟨C_q34q, trivial⟩
  con_of (Pc := []) E rfl mixed Tryz.func12 (by kernel_rfl) (by kernel_rfl) (by kernel_rfl) (by kernel_rfl) (fun A hA => trivial) (F_q51q_ok N)
theorem C_q51q : Contract Tryz.prog 12 S_q51q := Contract.less (fun N : Nat => F_q51q N) C_q51q_raw (fun d r h => ⟨0, (F_q51q_tot 0 d).trans h⟩)
theorem C_q54q_raw (N : Nat) : Contract Tryz.prog 87 ⟨[(K_Piiq, false)], [K_Piiq], true, F_q54q N⟩ :=
  have E : Env Tryz.prog Γ_q54q := env_of tab trivial
  con_of (Pc := [(0, ⟨q54q_l0_h, q54q_l0_o, q54q_l0 N N⟩)]) E rfl mixed Tryz.func87 (by kernel_rfl) (by kernel_rfl) (by kernel_rfl) (by kernel_rfl) (fun A hA => ⟨pc_of (inner := []) E mixed hA (by kernel_rfl) (by kernel_rfl) (by kernel_rfl) trivial (fun _ => rfl) (fun m d => (q54q_l0_ok N (q54q_l0 N m) d).symm) N, trivial⟩) (F_q54q_ok N)
theorem C_q54q : Contract Tryz.prog 87 S_q54q := Contract.less (fun N : Nat => F_q54q N) C_q54q_raw toIntA2_lim
theorem C_q38q_raw (N : Nat) : Contract Tryz.prog 48 ⟨[(K_SPiiq, false)], [K_SPiiq], true, F_q38q N⟩ :=
  have E : Env Tryz.prog Γ_q38q := env_of tab ⟨C_q54q, trivial⟩
  con_of (Pc := [(0, ⟨q38q_l0_h, q38q_l0_o, q38q_l0 N N⟩)]) E rfl mixed Tryz.func48 (by kernel_rfl) (by kernel_rfl) (by kernel_rfl) (by kernel_rfl) (fun A hA => ⟨pc_of (inner := []) E mixed hA (by kernel_rfl) (by kernel_rfl) (by kernel_rfl) trivial (fun _ => rfl) (fun m d => (q38q_l0_ok N (q38q_l0 N m) d).symm) N, trivial⟩) (F_q38q_ok N)
theorem C_q38q : Contract Tryz.prog 48 S_q38q := Contract.less (fun N : Nat => F_q38q N) C_q38q_raw toIntA2S_lim
theorem C_q48q_raw (N : Nat) : Contract Tryz.prog 15 ⟨[(K_PiSPiiqq, false)], [K_PiSPiiqq], true, F_q48q N⟩ :=
  have E : Env Tryz.prog Γ_q48q := env_of tab ⟨C_q38q, trivial⟩
  con_of (Pc := []) E rfl mixed Tryz.func15 (by kernel_rfl) (by kernel_rfl) (by kernel_rfl) (by kernel_rfl) (fun A hA => trivial) (F_q48q_ok N)
theorem C_q48q : Contract Tryz.prog 15 S_q48q := C_q48q_raw 0
theorem C_q60q_raw (N : Nat) : Contract Tryz.prog 31 ⟨[(K_Si, false)], [K_Si], true, F_q60q N⟩ :=
  have E : Env Tryz.prog Γ_q60q := env_of tab trivial
  con_of (Pc := [(0, ⟨q60q_l0_h, q60q_l0_o, q60q_l0 N N⟩)]) E rfl mixed Tryz.func31 (by kernel_rfl) (by kernel_rfl) (by kernel_rfl) (by kernel_rfl) (fun A hA => ⟨pc_of (inner := []) E mixed hA (by kernel_rfl) (by kernel_rfl) (by kernel_rfl) trivial (fun _ => rfl) (fun m d => (q60q_l0_ok N (q60q_l0 N m) d).symm) N, trivial⟩) (F_q60q_ok N)
theorem C_q60q : Contract Tryz.prog 31 S_q60q := Contract.less (fun N : Nat => F_q60q N) C_q60q_raw toIntS_lim
theorem C_spec_l1In_raw (N : Nat) : Contract Tryz.prog 77 ⟨[(I, false), (I, false), (I, false)], [.bool], true, F_spec_l1In N⟩ :=
  have E : Env Tryz.prog Γ_spec_l1In := env_of tab trivial
  con_of (Pc := []) E rfl mixed Tryz.func77 (by kernel_rfl) (by kernel_rfl) (by kernel_rfl) (by kernel_rfl) (fun A hA => trivial) (F_spec_l1In_ok N)
theorem C_spec_l1In : Contract Tryz.prog 77 S_spec_l1In := Contract.less (fun N : Nat => F_spec_l1In N) C_spec_l1In_raw (fun d r h => ⟨0, (F_spec_l1In_tot 0 d).trans h⟩)
theorem C_q35q_raw (N : Nat) : Contract Tryz.prog 82 ⟨[(K_Piiq, false), (K_Piiq, false)], [.bool], true, F_q35q N⟩ :=
  have E : Env Tryz.prog Γ_q35q := env_of tab trivial
  con_of (Pc := []) E rfl mixed Tryz.func82 (by kernel_rfl) (by kernel_rfl) (by kernel_rfl) (by kernel_rfl) (fun A hA => trivial) (F_q35q_ok N)
theorem C_q35q : Contract Tryz.prog 82 S_q35q := Contract.less (fun N : Nat => F_q35q N) C_q35q_raw (fun d r h => ⟨0, (F_q35q_tot 0 d).trans h⟩)
theorem C_q63q_raw (N : Nat) : Contract Tryz.prog 45 ⟨[(K_PiSPiiqq, false)], [.bool], true, F_q63q N⟩ :=
  have E : Env Tryz.prog Γ_q63q := env_of tab ⟨C_spec_l1In, ⟨C_q35q, trivial⟩⟩
  con_of (Pc := [(0, ⟨q63q_l0_h, q63q_l0_o, q63q_l0 N N⟩)]) E rfl mixed Tryz.func45 (by kernel_rfl) (by kernel_rfl) (by kernel_rfl) (by kernel_rfl) (fun A hA => ⟨pc_of (inner := []) E mixed hA (by kernel_rfl) (by kernel_rfl) (by kernel_rfl) trivial (fun _ => rfl) (fun m d => (q63q_l0_ok N (q63q_l0 N m) d).symm) N, trivial⟩) (F_q63q_ok N)
theorem C_q63q : Contract Tryz.prog 45 S_q63q := Contract.less (fun N : Nat => F_q63q N) C_q63q_raw l2Good_lim
theorem C_q47q_raw (N : Nat) : Contract Tryz.prog 59 ⟨[(K_PiSPiiqq, false), (I, false)], [.bool], true, F_q47q N⟩ :=
  have E : Env Tryz.prog Γ_q47q := env_of tab ⟨C_q63q, ⟨C_spec_l1In, trivial⟩⟩
  con_of (Pc := []) E rfl mixed Tryz.func59 (by kernel_rfl) (by kernel_rfl) (by kernel_rfl) (by kernel_rfl) (fun A hA => trivial) (F_q47q_ok N)
theorem C_q47q : Contract Tryz.prog 59 S_q47q := C_q47q_raw 0
theorem C_q65q_raw (N : Nat) : Contract Tryz.prog 107 ⟨[(K_PiSPiiqq, false), (I, false)], [.bool], true, F_q65q N⟩ :=
  have E : Env Tryz.prog Γ_q65q := env_of tab ⟨C_spec_l1In, trivial⟩
  con_of (Pc := []) E rfl mixed Tryz.func107 (by kernel_rfl) (by kernel_rfl) (by kernel_rfl) (by kernel_rfl) (fun A hA => trivial) (F_q65q_ok N)
theorem C_q65q : Contract Tryz.prog 107 S_q65q := Contract.less (fun N : Nat => F_q65q N) C_q65q_raw (fun d r h => ⟨0, (F_q65q_tot 0 d).trans h⟩)
theorem C_q66q_raw (N : Nat) : Contract Tryz.prog 76 ⟨[(K_PiSPiiqq, false), (K_Si, false)], [.bool], true, F_q66q N⟩ :=
  have E : Env Tryz.prog Γ_q66q := env_of tab ⟨C_q65q, trivial⟩
  con_of (Pc := [(0, ⟨q66q_l0_h, q66q_l0_o, q66q_l0 N N⟩)]) E rfl mixed Tryz.func76 (by kernel_rfl) (by kernel_rfl) (by kernel_rfl) (by kernel_rfl) (fun A hA => ⟨pc_of (inner := []) E mixed hA (by kernel_rfl) (by kernel_rfl) (by kernel_rfl) trivial (fun _ => rfl) (fun m d => (q66q_l0_ok N (q66q_l0 N m) d).symm) N, trivial⟩) (F_q66q_ok N)
theorem C_q66q : Contract Tryz.prog 76 S_q66q := Contract.less (fun N : Nat => F_q66q N) C_q66q_raw l4Cops_lim
theorem C_spec_l1Has_raw (N : Nat) : Contract Tryz.prog 57 ⟨[(K_Si, false), (I, false)], [.bool], true, F_spec_l1Has N⟩ :=
  have E : Env Tryz.prog Γ_spec_l1Has := env_of tab trivial
  con_of (Pc := [(0, ⟨spec_l1Has_l0_h, spec_l1Has_l0_o, spec_l1Has_l0 N N⟩)]) E rfl mixed Tryz.func57 (by kernel_rfl) (by kernel_rfl) (by kernel_rfl) (by kernel_rfl) (fun A hA => ⟨pc_of (inner := []) E mixed hA (by kernel_rfl) (by kernel_rfl) (by kernel_rfl) trivial (fun _ => rfl) (fun m d => (spec_l1Has_l0_ok N (spec_l1Has_l0 N m) d).symm) N, trivial⟩) (F_spec_l1Has_ok N)
theorem C_spec_l1Has : Contract Tryz.prog 57 S_spec_l1Has := Contract.less (fun N : Nat => F_spec_l1Has N) C_spec_l1Has_raw l1Has_lim
theorem C_q57q_raw (N : Nat) : Contract Tryz.prog 64 ⟨[(K_PiSPiiqq, false), (K_Si, false), (I, false)], [.bool], true, F_q57q N⟩ :=
  have E : Env Tryz.prog Γ_q57q := env_of tab ⟨C_spec_l1Has, ⟨C_q47q, ⟨C_q66q, ⟨C_q65q, trivial⟩⟩⟩⟩
  con_of (Pc := []) E rfl mixed Tryz.func64 (by kernel_rfl) (by kernel_rfl) (by kernel_rfl) (by kernel_rfl) (fun A hA => trivial) (F_q57q_ok N)
theorem C_q57q : Contract Tryz.prog 64 S_q57q := C_q57q_raw 0
theorem C_spec_l1Own_raw (N : Nat) : Contract Tryz.prog 73 ⟨[(K_Si, false)], [K_Si], true, F_spec_l1Own N⟩ :=
  have E : Env Tryz.prog Γ_spec_l1Own := env_of tab trivial
  con_of (Pc := []) E rfl mixed Tryz.func73 (by kernel_rfl) (by kernel_rfl) (by kernel_rfl) (by kernel_rfl) (fun A hA => trivial) (F_spec_l1Own_ok N)
theorem C_spec_l1Own : Contract Tryz.prog 73 S_spec_l1Own := C_spec_l1Own_raw 0
theorem C_q25q_raw (N : Nat) : Contract Tryz.prog 102 ⟨[(I, false), (I, false)], [K_SSi], true, F_q25q N⟩ :=
  have E : Env Tryz.prog Γ_q25q := env_of tab ⟨C_spec_l1Own, trivial⟩
  con_of (Pc := [(0, ⟨q25q_l0_h, q25q_l0_o, q25q_l0 N N⟩)]) E rfl mixed Tryz.func102 (by kernel_rfl) (by kernel_rfl) (by kernel_rfl) (by kernel_rfl) (fun A hA => ⟨pc_of (inner := [(2, ⟨q25q_l2_h, q25q_l2_o, q25q_l2 N N⟩)]) E mixed hA (by kernel_rfl) (by kernel_rfl) (by kernel_rfl) ⟨pc_of (inner := [(4, ⟨q25q_l4_h, q25q_l4_o, q25q_l4 N N⟩)]) E mixed hA (by kernel_rfl) (by kernel_rfl) (by kernel_rfl) ⟨pc_of (inner := []) E mixed hA (by kernel_rfl) (by kernel_rfl) (by kernel_rfl) trivial (fun _ => rfl) (fun m d => (q25q_l4_ok N (q25q_l4 N m) d).symm) N, trivial⟩ (fun _ => rfl) (fun m d => (q25q_l2_ok N (q25q_l2 N m) d).symm) N, trivial⟩ (fun _ => rfl) (fun m d => (q25q_l0_ok N (q25q_l0 N m) d).symm) N, trivial⟩) (F_q25q_ok N)
theorem C_q25q : Contract Tryz.prog 102 S_q25q := Contract.less (fun N : Nat => F_q25q N) C_q25q_raw l4Configs_lim
theorem C_q64q_raw (N : Nat) : Contract Tryz.prog 124 ⟨[(K_PiSPiiqq, false), (I, false), (I, false)], [.bool], true, F_q64q N⟩ :=
  have E : Env Tryz.prog Γ_q64q := env_of tab trivial
  con_of (Pc := [(0, ⟨q64q_l0_h, q64q_l0_o, q64q_l0 N N⟩)]) E rfl mixed Tryz.func124 (by kernel_rfl) (by kernel_rfl) (by kernel_rfl) (by kernel_rfl) (fun A hA => ⟨pc_of (inner := []) E mixed hA (by kernel_rfl) (by kernel_rfl) (by kernel_rfl) trivial (fun _ => rfl) (fun m d => (q64q_l0_ok N (q64q_l0 N m) d).symm) N, trivial⟩) (F_q64q_ok N)
theorem C_q64q : Contract Tryz.prog 124 S_q64q := Contract.less (fun N : Nat => F_q64q N) C_q64q_raw l2Near_lim
theorem C_q20q_raw (N : Nat) : Contract Tryz.prog 98 ⟨[(K_PiSPiiqq, false), (I, false)], [K_Si], true, F_q20q N⟩ :=
  have E : Env Tryz.prog Γ_q20q := env_of tab ⟨C_q64q, trivial⟩
  con_of (Pc := [(0, ⟨q20q_l0_h, q20q_l0_o, q20q_l0 N N⟩)]) E rfl mixed Tryz.func98 (by kernel_rfl) (by kernel_rfl) (by kernel_rfl) (by kernel_rfl) (fun A hA => ⟨pc_of (inner := []) E mixed hA (by kernel_rfl) (by kernel_rfl) (by kernel_rfl) trivial (fun _ => rfl) (fun m d => (q20q_l0_ok N (q20q_l0 N m) d).symm) N, trivial⟩) (F_q20q_ok N)
theorem C_q20q : Contract Tryz.prog 98 S_q20q := Contract.less (fun N : Nat => F_q20q N) C_q20q_raw l2Neighbors_lim
theorem C_spec_l1Put_raw (N : Nat) : Contract Tryz.prog 97 ⟨[(K_Si, false), (I, false)], [K_Si], false, F_spec_l1Put N⟩ :=
  have E : Env Tryz.prog Γ_spec_l1Put := env_of tab trivial
  con_of (Pc := [(0, ⟨spec_l1Put_l0_h, spec_l1Put_l0_o, spec_l1Put_l0 N N⟩)]) E rfl mixed Tryz.func97 (by kernel_rfl) (by kernel_rfl) (by kernel_rfl) (by kernel_rfl) (fun A hA => ⟨pc_of (inner := []) E mixed hA (by kernel_rfl) (by kernel_rfl) (by kernel_rfl) trivial (fun _ => rfl) (fun m d => (spec_l1Put_l0_ok N (spec_l1Put_l0 N m) d).symm) N, trivial⟩) (F_spec_l1Put_ok N)
theorem C_spec_l1Put : Contract Tryz.prog 97 S_spec_l1Put := Contract.less (fun N : Nat => F_spec_l1Put N) C_spec_l1Put_raw l1Put_lim
theorem C_q62q_raw (N : Nat) : Contract Tryz.prog 56 ⟨[(K_PiSPiiqq, false), (I, false)], [K_Si], false, F_q62q N⟩ :=
  have E : Env Tryz.prog Γ_q62q := env_of tab ⟨C_spec_l1Put, ⟨C_q20q, trivial⟩⟩
  con_of (Pc := []) E rfl mixed Tryz.func56 (by kernel_rfl) (by kernel_rfl) (by kernel_rfl) (by kernel_rfl) (fun A hA => trivial) (F_q62q_ok N)
theorem C_q62q : Contract Tryz.prog 56 S_q62q := C_q62q_raw 0
theorem C_q33q_raw (N : Nat) : Contract Tryz.prog 118 ⟨[(K_Si, false)], [K_Si], false, F_q33q N⟩ :=
  have E : Env Tryz.prog Γ_q33q := env_ofV tab trivial trivial (fun _ h => by cases h)
  con_of (Pc := [(0, ⟨q33q_l0_h, q33q_l0_o, q33q_l0 N N⟩)]) E rfl mixed Tryz.func118 (by kernel_rfl) (by kernel_rfl) (by kernel_rfl) (by kernel_rfl) (fun A hA => ⟨pc_of (inner := [(2, ⟨q33q_l2_h, q33q_l2_o, q33q_l2 N N⟩)]) E mixed hA (by kernel_rfl) (by kernel_rfl) (by kernel_rfl) ⟨pc_of (inner := []) E mixed hA (by kernel_rfl) (by kernel_rfl) (by kernel_rfl) trivial (fun _ => rfl) (fun m d => (q33q_l2_ok N (q33q_l2 N m) d).symm) N, trivial⟩ (fun _ => rfl) (fun m d => (q33q_l0_ok N (q33q_l0 N m) d).symm) N, trivial⟩) (F_q33q_ok N)
theorem C_q33q : Contract Tryz.prog 118 S_q33q := Contract.less (fun N : Nat => F_q33q N) C_q33q_raw l4Sorted_lim
theorem C_q61q_raw (N : Nat) : Contract Tryz.prog 131 ⟨[(K_Si, false), (K_Si, false)], [.bool], true, F_q61q N⟩ :=
  have E : Env Tryz.prog Γ_q61q := env_of tab trivial
  con_of (Pc := [(0, ⟨q61q_l0_h, q61q_l0_o, q61q_l0 N N⟩)]) E rfl mixed Tryz.func131 (by kernel_rfl) (by kernel_rfl) (by kernel_rfl) (by kernel_rfl) (fun A hA => ⟨pc_of (inner := []) E mixed hA (by kernel_rfl) (by kernel_rfl) (by kernel_rfl) trivial (fun _ => rfl) (fun m d => (q61q_l0_ok N (q61q_l0 N m) d).symm) N, trivial⟩) (F_q61q_ok N)
theorem C_q61q : Contract Tryz.prog 131 S_q61q := Contract.less (fun N : Nat => F_q61q N) C_q61q_raw l4Less_lim
theorem C_q70q_raw (N : Nat) : Contract Tryz.prog 108 ⟨[(K_Si, false), (K_Si, false)], [.bool], true, F_q70q N⟩ :=
  have E : Env Tryz.prog Γ_q70q := env_of tab trivial
  con_of (Pc := [(0, ⟨q70q_l0_h, q70q_l0_o, q70q_l0 N N⟩)]) E rfl mixed Tryz.func108 (by kernel_rfl) (by kernel_rfl) (by kernel_rfl) (by kernel_rfl) (fun A hA => ⟨pc_of (inner := []) E mixed hA (by kernel_rfl) (by kernel_rfl) (by kernel_rfl) trivial (fun _ => rfl) (fun m d => (q70q_l0_ok N (q70q_l0 N m) d).symm) N, trivial⟩) (F_q70q_ok N)
theorem C_q70q : Contract Tryz.prog 108 S_q70q := Contract.less (fun N : Nat => F_q70q N) C_q70q_raw l1Same_lim
theorem C_spec_l4Put_raw (N : Nat) : Contract Tryz.prog 117 ⟨[(K_SSi, false), (K_Si, false)], [K_SSi], false, F_spec_l4Put N⟩ :=
  have E : Env Tryz.prog Γ_spec_l4Put := env_of tab ⟨C_q70q, ⟨C_q61q, trivial⟩⟩
  con_of (Pc := [(0, ⟨spec_l4Put_l0_h, spec_l4Put_l0_o, spec_l4Put_l0 N N⟩)]) E rfl mixed Tryz.func117 (by kernel_rfl) (by kernel_rfl) (by kernel_rfl) (by kernel_rfl) (fun A hA => ⟨pc_of (inner := []) E mixed hA (by kernel_rfl) (by kernel_rfl) (by kernel_rfl) trivial (fun _ => rfl) (fun m d => (spec_l4Put_l0_ok N (spec_l4Put_l0 N m) d).symm) N, trivial⟩) (F_spec_l4Put_ok N)
theorem C_spec_l4Put : Contract Tryz.prog 117 S_spec_l4Put := Contract.less (fun N : Nat => F_spec_l4Put N) C_spec_l4Put_raw l4Put_lim
theorem C_q50q_raw (N : Nat) : Contract Tryz.prog 83 ⟨[(K_PiSPiiqq, false), (K_Si, false)], [K_SSi], false, F_q50q N⟩ :=
  have E : Env Tryz.prog Γ_q50q := env_ofV tab ⟨C_q62q, ⟨C_spec_l1Own, ⟨C_spec_l4Put, ⟨C_q33q, trivial⟩⟩⟩⟩ trivial (fun _ h => by cases h)
  con_of (Pc := [(0, ⟨q50q_l0_h, q50q_l0_o, q50q_l0 N N⟩), (6, ⟨q50q_l6_h, q50q_l6_o, q50q_l6 N N⟩)]) E rfl mixed Tryz.func83 (by kernel_rfl) (by kernel_rfl) (by kernel_rfl) (by kernel_rfl) (fun A hA => ⟨pc_of (inner := [(2, ⟨q50q_l2_h, q50q_l2_o, q50q_l2 N N⟩)]) E mixed hA (by kernel_rfl) (by kernel_rfl) (by kernel_rfl) ⟨pc_of (inner := [(4, ⟨q50q_l4_h, q50q_l4_o, q50q_l4 N N⟩)]) E mixed hA (by kernel_rfl) (by kernel_rfl) (by kernel_rfl) ⟨pc_of (inner := []) E mixed hA (by kernel_rfl) (by kernel_rfl) (by kernel_rfl) trivial (fun _ => rfl) (fun m d => (q50q_l4_ok N (q50q_l4 N m) d).symm) N, trivial⟩ (fun _ => rfl) (fun m d => (q50q_l2_ok N (q50q_l2 N m) d).symm) N, trivial⟩ (fun _ => rfl) (fun m d => (q50q_l0_ok N (q50q_l0 N m) d).symm) N, ⟨pc_of (inner := []) E mixed hA (by kernel_rfl) (by kernel_rfl) (by kernel_rfl) trivial (fun _ => rfl) (fun m d => (q50q_l6_ok N (q50q_l6 N m) d).symm) N, trivial⟩⟩) (F_q50q_ok N)
theorem C_q50q : Contract Tryz.prog 83 S_q50q := Contract.less (fun N : Nat => F_q50q N) C_q50q_raw l4Moves_lim
theorem C_spec_l4At_raw (N : Nat) : Contract Tryz.prog 66 ⟨[(K_SSi, false), (K_Si, false)], [I], true, F_spec_l4At N⟩ :=
  have E : Env Tryz.prog Γ_spec_l4At := env_of tab ⟨C_q70q, trivial⟩
  con_of (Pc := [(0, ⟨spec_l4At_l0_h, spec_l4At_l0_o, spec_l4At_l0 N N⟩)]) E rfl mixed Tryz.func66 (by kernel_rfl) (by kernel_rfl) (by kernel_rfl) (by kernel_rfl) (fun A hA => ⟨pc_of (inner := []) E mixed hA (by kernel_rfl) (by kernel_rfl) (by kernel_rfl) trivial (fun _ => rfl) (fun m d => (spec_l4At_l0_ok N (spec_l4At_l0 N m) d).symm) N, trivial⟩) (F_spec_l4At_ok N)
theorem C_spec_l4At : Contract Tryz.prog 66 S_spec_l4At := Contract.less (fun N : Nat => F_spec_l4At N) C_spec_l4At_raw l4At_lim
theorem C_q67q_raw (N : Nat) : Contract Tryz.prog 61 ⟨[(K_PiSPiiqq, false), (I, false)], [K_PZSiSSiSSiq], false, F_q67q N⟩ :=
  have E : Env Tryz.prog Γ_q67q := env_ofG tab ⟨C_q62q, ⟨C_spec_l4At, ⟨C_q50q, ⟨C_q25q, trivial⟩⟩⟩⟩ trivial (fun _ h => by cases h) trivial (by kernel_rfl)
  con_of (Pc := [(0, ⟨q67q_l0_h, q67q_l0_o, q67q_l0 N N⟩), (4, ⟨q67q_l4_h, q67q_l4_o, q67q_l4 N N⟩)]) E rfl mixed Tryz.func61 (by kernel_rfl) (by kernel_rfl) (by kernel_rfl) (by kernel_rfl) (fun A hA => ⟨pc_of (inner := [(2, ⟨q67q_l2_h, q67q_l2_o, q67q_l2 N N⟩)]) E mixed hA (by kernel_rfl) (by kernel_rfl) (by kernel_rfl) ⟨pc_of (inner := []) E mixed hA (by kernel_rfl) (by kernel_rfl) (by kernel_rfl) trivial (fun _ => rfl) (fun m d => (q67q_l2_ok N (q67q_l2 N m) d).symm) N, trivial⟩ (fun _ => rfl) (fun m d => (q67q_l0_ok N (q67q_l0 N m) d).symm) N, ⟨pc_of (inner := []) E mixed hA (by kernel_rfl) (by kernel_rfl) (by kernel_rfl) trivial (fun _ => rfl) (fun m d => (q67q_l4_ok N (q67q_l4 N m) d).symm) N, trivial⟩⟩) (F_q67q_ok N)
theorem C_q67q : Contract Tryz.prog 61 S_q67q := Contract.less (fun N : Nat => F_q67q N) C_q67q_raw l4Make_lim
theorem C_q59q_raw (N : Nat) : Contract Tryz.prog 114 ⟨[(I, false), (I, false)], [I], true, F_q59q N⟩ :=
  have E : Env Tryz.prog Γ_q59q := env_of tab trivial
  con_of (Pc := []) E rfl mixed Tryz.func114 (by kernel_rfl) (by kernel_rfl) (by kernel_rfl) (by kernel_rfl) (fun A hA => trivial) (F_q59q_ok N)
theorem C_q59q : Contract Tryz.prog 114 S_q59q := Contract.less (fun N : Nat => F_q59q N) C_q59q_raw (fun d r h => ⟨0, (F_q59q_tot 0 d).trans h⟩)
theorem C_q52q_raw (N : Nat) : Contract Tryz.prog 101 ⟨[(K_PZSiSSiSSiq, false), (K_SSi, false), (I, false), (I, false)], [I], true, F_q52q N⟩ :=
  have E : Env Tryz.prog Γ_q52q := env_of tab ⟨C_spec_l1Has, ⟨C_q59q, trivial⟩⟩
  con_of (Pc := [(0, ⟨q52q_l0_h, q52q_l0_o, q52q_l0 N N⟩)]) E rfl mixed Tryz.func101 (by kernel_rfl) (by kernel_rfl) (by kernel_rfl) (by kernel_rfl) (fun A hA => ⟨pc_of (inner := []) E mixed hA (by kernel_rfl) (by kernel_rfl) (by kernel_rfl) trivial (fun _ => rfl) (fun m d => (q52q_l0_ok N (q52q_l0 N m) d).symm) N, trivial⟩) (F_q52q_ok N)
theorem C_q52q : Contract Tryz.prog 101 S_q52q := Contract.less (fun N : Nat => F_q52q N) C_q52q_raw l4After_lim
theorem C_q53q_raw (N : Nat) : Contract Tryz.prog 60 ⟨[(K_PZSiSSiSSiq, false)], [K_SSi], true, F_q53q N⟩ :=
  have E : Env Tryz.prog Γ_q53q := env_of tab ⟨C_spec_l1Has, ⟨C_spec_l1Own, ⟨C_q52q, trivial⟩⟩⟩
  con_of (Pc := [(0, ⟨q53q_l0_h, q53q_l0_o, q53q_l0 N N⟩), (4, ⟨q53q_l4_h, q53q_l4_o, q53q_l4 N N⟩)]) E rfl mixed Tryz.func60 (by kernel_rfl) (by kernel_rfl) (by kernel_rfl) (by kernel_rfl) (fun A hA => ⟨pc_of (inner := [(2, ⟨q53q_l2_h, q53q_l2_o, q53q_l2 N N⟩)]) E mixed hA (by kernel_rfl) (by kernel_rfl) (by kernel_rfl) ⟨pc_of (inner := []) E mixed hA (by kernel_rfl) (by kernel_rfl) (by kernel_rfl) trivial (fun _ => rfl) (fun m d => (q53q_l2_ok N (q53q_l2 N m) d).symm) N, trivial⟩ (fun _ => rfl) (fun m d => (q53q_l0_ok N (q53q_l0 N m) d).symm) N, ⟨pc_of (inner := [(6, ⟨q53q_l6_h, q53q_l6_o, q53q_l6 N N⟩)]) E mixed hA (by kernel_rfl) (by kernel_rfl) (by kernel_rfl) ⟨pc_of (inner := [(8, ⟨q53q_l8_h, q53q_l8_o, q53q_l8 N N⟩)]) E mixed hA (by kernel_rfl) (by kernel_rfl) (by kernel_rfl) ⟨pc_of (inner := [(10, ⟨q53q_l10_h, q53q_l10_o, q53q_l10 N N⟩)]) E mixed hA (by kernel_rfl) (by kernel_rfl) (by kernel_rfl) ⟨pc_of (inner := []) E mixed hA (by kernel_rfl) (by kernel_rfl) (by kernel_rfl) trivial (fun _ => rfl) (fun m d => (q53q_l10_ok N (q53q_l10 N m) d).symm) N, trivial⟩ (fun _ => rfl) (fun m d => (q53q_l8_ok N (q53q_l8 N m) d).symm) N, trivial⟩ (fun _ => rfl) (fun m d => (q53q_l6_ok N (q53q_l6 N m) d).symm) N, trivial⟩ (fun _ => rfl) (fun m d => (q53q_l4_ok N (q53q_l4 N m) d).symm) N, trivial⟩⟩) (F_q53q_ok N)
theorem C_q53q : Contract Tryz.prog 60 S_q53q := Contract.less (fun N : Nat => F_q53q N) C_q53q_raw l4Times_lim
theorem C_q68q_raw (N : Nat) : Contract Tryz.prog 79 ⟨[(K_PZSiSSiSSiq, false), (K_SSi, false), (I, false), (I, false)], [I], true, F_q68q N⟩ :=
  have E : Env Tryz.prog Γ_q68q := env_of tab ⟨C_q52q, trivial⟩
  con_of (Pc := [(0, ⟨q68q_l0_h, q68q_l0_o, q68q_l0 N N⟩)]) E rfl mixed Tryz.func79 (by kernel_rfl) (by kernel_rfl) (by kernel_rfl) (by kernel_rfl) (fun A hA => ⟨pc_of (inner := []) E mixed hA (by kernel_rfl) (by kernel_rfl) (by kernel_rfl) trivial (fun _ => rfl) (fun m d => (q68q_l0_ok N (q68q_l0 N m) d).symm) N, trivial⟩) (F_q68q_ok N)
theorem C_q68q : Contract Tryz.prog 79 S_q68q := Contract.less (fun N : Nat => F_q68q N) C_q68q_raw l4Best_lim
theorem C_q71q_raw (N : Nat) : Contract Tryz.prog 65 ⟨[(K_PZSiSSiSSiq, false), (K_SSi, false), (I, false), (I, false)], [I], true, F_q71q N⟩ :=
  have E : Env Tryz.prog Γ_q71q := env_of tab trivial
  con_of (Pc := [(0, ⟨q71q_l0_h, q71q_l0_o, q71q_l0 N N⟩)]) E rfl mixed Tryz.func65 (by kernel_rfl) (by kernel_rfl) (by kernel_rfl) (by kernel_rfl) (fun A hA => ⟨pc_of (inner := []) E mixed hA (by kernel_rfl) (by kernel_rfl) (by kernel_rfl) trivial (fun _ => rfl) (fun m d => (q71q_l0_ok N (q71q_l0 N m) d).symm) N, trivial⟩) (F_q71q_ok N)
theorem C_q71q : Contract Tryz.prog 65 S_q71q := Contract.less (fun N : Nat => F_q71q N) C_q71q_raw l4Flee_lim
theorem C_q41q_raw (N : Nat) : Contract Tryz.prog 41 ⟨[(K_PiSPiiqq, false), (K_Si, false), (I, false), (I, false)], [K_SSi, K_Si, .bool], true, F_q41q N⟩ :=
  have E : Env Tryz.prog Γ_q41q := env_of tab ⟨C_spec_l1Has, ⟨C_q53q, ⟨C_q67q, ⟨C_q57q, ⟨C_q71q, ⟨C_spec_l4At, ⟨C_spec_l1Own, ⟨C_spec_l1In, ⟨C_q68q, trivial⟩⟩⟩⟩⟩⟩⟩⟩⟩
  con_of (Pc := [(0, ⟨q41q_l0_h, q41q_l0_o, q41q_l0 N N⟩)]) E rfl mixed Tryz.func41 (by kernel_rfl) (by kernel_rfl) (by kernel_rfl) (by kernel_rfl) (fun A hA => ⟨pc_of (inner := []) E mixed hA (by kernel_rfl) (by kernel_rfl) (by kernel_rfl) trivial (fun _ => rfl) (fun m d => (q41q_l0_ok N (q41q_l0 N m) d).symm) N, trivial⟩) (F_q41q_ok N)
theorem C_q41q : Contract Tryz.prog 41 S_q41q := Contract.less (fun N : Nat => F_q41q N) C_q41q_raw specPC_lim
theorem C_q69q_raw (N : Nat) : Contract Tryz.prog 78 ⟨[(I, false), (I, false), (I, false)], [.bool], true, F_q69q N⟩ :=
  have E : Env Tryz.prog Γ_q69q := env_of tab trivial
  con_of (Pc := []) E rfl mixed Tryz.func78 (by kernel_rfl) (by kernel_rfl) (by kernel_rfl) (by kernel_rfl) (fun A hA => trivial) (F_q69q_ok N)
theorem C_q69q : Contract Tryz.prog 78 S_q69q := Contract.less (fun N : Nat => F_q69q N) C_q69q_raw (fun d r h => ⟨0, (F_q69q_tot 0 d).trans h⟩)
theorem C_q36q_raw (N : Nat) : Contract Tryz.prog 138 ⟨[(I, false)], [.bool], true, F_q36q N⟩ :=
  have E : Env Tryz.prog Γ_q36q := env_of tab trivial
  con_of (Pc := []) E rfl mixed Tryz.func138 (by kernel_rfl) (by kernel_rfl) (by kernel_rfl) (by kernel_rfl) (fun A hA => trivial) (F_q36q_ok N)
theorem C_q36q : Contract Tryz.prog 138 S_q36q := Contract.less (fun N : Nat => F_q36q N) C_q36q_raw (fun d r h => ⟨0, (F_q36q_tot 0 d).trans h⟩)
theorem C_q22q_raw (N : Nat) : Contract Tryz.prog 130 ⟨[(I, false), (I, false)], [I], true, F_q22q N⟩ :=
  have E : Env Tryz.prog Γ_q22q := env_of tab ⟨C_q36q, trivial⟩
  con_of (Pc := []) E rfl mixed Tryz.func130 (by kernel_rfl) (by kernel_rfl) (by kernel_rfl) (by kernel_rfl) (fun A hA => trivial) (F_q22q_ok N)
theorem C_q22q : Contract Tryz.prog 130 S_q22q := Contract.less (fun N : Nat => F_q22q N) C_q22q_raw (fun d r h => ⟨0, (F_q22q_tot 0 d).trans h⟩)
theorem C_q7q_raw (N : Nat) : Contract Tryz.prog 113 ⟨[(K_Si, false), (K_Si, false)], [I], true, F_q7q N⟩ :=
  have E : Env Tryz.prog Γ_q7q := env_of tab ⟨C_q22q, trivial⟩
  con_of (Pc := [(0, ⟨q7q_l0_h, q7q_l0_o, q7q_l0 N N⟩)]) E rfl mixed Tryz.func113 (by kernel_rfl) (by kernel_rfl) (by kernel_rfl) (by kernel_rfl) (fun A hA => ⟨pc_of (inner := []) E mixed hA (by kernel_rfl) (by kernel_rfl) (by kernel_rfl) trivial (fun _ => rfl) (fun m d => (q7q_l0_ok N (q7q_l0 N m) d).symm) N, trivial⟩) (F_q7q_ok N)
theorem C_q7q : Contract Tryz.prog 113 S_q7q := Contract.less (fun N : Nat => F_q7q N) C_q7q_raw compare_lim
theorem C_q45q_raw (N : Nat) : Contract Tryz.prog 88 ⟨[(K_PiSPiiqq, false)], [.bool], true, F_q45q N⟩ :=
  have E : Env Tryz.prog Γ_q45q := env_of tab ⟨C_q69q, ⟨C_q7q, trivial⟩⟩
  con_of (Pc := [(0, ⟨q45q_l0_h, q45q_l0_o, q45q_l0 N N⟩)]) E rfl mixed Tryz.func88 (by kernel_rfl) (by kernel_rfl) (by kernel_rfl) (by kernel_rfl) (fun A hA => ⟨pc_of (inner := []) E mixed hA (by kernel_rfl) (by kernel_rfl) (by kernel_rfl) trivial (fun _ => rfl) (fun m d => (q45q_l0_ok N (q45q_l0 N m) d).symm) N, trivial⟩) (F_q45q_ok N)
theorem C_q45q : Contract Tryz.prog 88 S_q45q := Contract.less (fun N : Nat => F_q45q N) C_q45q_raw IsGraph_lim
theorem C_q30q_raw (N : Nat) : Contract Tryz.prog 62 ⟨[(K_PiSPiiqq, false), (I, false)], [.bool], true, F_q30q N⟩ :=
  have E : Env Tryz.prog Γ_q30q := env_of tab ⟨C_q69q, ⟨C_q45q, trivial⟩⟩
  con_of (Pc := []) E rfl mixed Tryz.func62 (by kernel_rfl) (by kernel_rfl) (by kernel_rfl) (by kernel_rfl) (fun A hA => trivial) (F_q30q_ok N)
theorem C_q30q : Contract Tryz.prog 62 S_q30q := C_q30q_raw 0
theorem C_q26q_raw (N : Nat) : Contract Tryz.prog 110 ⟨[(K_Si, false), (I, false), (I, false)], [.bool], true, F_q26q N⟩ :=
  have E : Env Tryz.prog Γ_q26q := env_of tab ⟨C_q69q, trivial⟩
  con_of (Pc := [(0, ⟨q26q_l0_h, q26q_l0_o, q26q_l0 N N⟩)]) E rfl mixed Tryz.func110 (by kernel_rfl) (by kernel_rfl) (by kernel_rfl) (by kernel_rfl) (fun A hA => ⟨pc_of (inner := []) E mixed hA (by kernel_rfl) (by kernel_rfl) (by kernel_rfl) trivial (fun _ => rfl) (fun m d => (q26q_l0_ok N (q26q_l0 N m) d).symm) N, trivial⟩) (F_q26q_ok N)
theorem C_q26q : Contract Tryz.prog 110 S_q26q := Contract.less (fun N : Nat => F_q26q N) C_q26q_raw allWithin_lim
theorem C_q39q_raw (N : Nat) : Contract Tryz.prog 68 ⟨[(K_PiSPiiqq, false), (K_Si, false)], [.bool], true, F_q39q N⟩ :=
  have E : Env Tryz.prog Γ_q39q := env_of tab ⟨C_q45q, ⟨C_q26q, trivial⟩⟩
  con_of (Pc := []) E rfl mixed Tryz.func68 (by kernel_rfl) (by kernel_rfl) (by kernel_rfl) (by kernel_rfl) (fun A hA => trivial) (F_q39q_ok N)
theorem C_q39q : Contract Tryz.prog 68 S_q39q := C_q39q_raw 0
theorem C_q56q_raw (N : Nat) : Contract Tryz.prog 129 ⟨[(I, false), (I, false)], [.bool], true, F_q56q N⟩ :=
  have E : Env Tryz.prog Γ_q56q := env_of tab ⟨C_q36q, trivial⟩
  con_of (Pc := []) E rfl mixed Tryz.func129 (by kernel_rfl) (by kernel_rfl) (by kernel_rfl) (by kernel_rfl) (fun A hA => trivial) (F_q56q_ok N)
theorem C_q56q : Contract Tryz.prog 129 S_q56q := Contract.less (fun N : Nat => F_q56q N) C_q56q_raw (fun d r h => ⟨0, (F_q56q_tot 0 d).trans h⟩)
theorem C_q6q_raw (N : Nat) : Contract Tryz.prog 109 ⟨[(K_Si, false)], [.bool], true, F_q6q N⟩ :=
  have E : Env Tryz.prog Γ_q6q := env_of tab ⟨C_q56q, trivial⟩
  con_of (Pc := [(0, ⟨q6q_l0_h, q6q_l0_o, q6q_l0 N N⟩)]) E rfl mixed Tryz.func109 (by kernel_rfl) (by kernel_rfl) (by kernel_rfl) (by kernel_rfl) (fun A hA => ⟨pc_of (inner := []) E mixed hA (by kernel_rfl) (by kernel_rfl) (by kernel_rfl) trivial (fun _ => rfl) (fun m d => (q6q_l0_ok N (q6q_l0 N m) d).symm) N, trivial⟩) (F_q6q_ok N)
theorem C_q6q : Contract Tryz.prog 109 S_q6q := Contract.less (fun N : Nat => F_q6q N) C_q6q_raw isSorted_lim
theorem C_q55q_raw (N : Nat) : Contract Tryz.prog 67 ⟨[(K_PiSPiiqq, false), (K_Si, false)], [.bool], true, F_q55q N⟩ :=
  have E : Env Tryz.prog Γ_q55q := env_of tab ⟨C_q30q, ⟨C_q39q, ⟨C_q6q, trivial⟩⟩⟩
  con_of (Pc := []) E rfl mixed Tryz.func67 (by kernel_rfl) (by kernel_rfl) (by kernel_rfl) (by kernel_rfl) (fun A hA => trivial) (F_q55q_ok N)
theorem C_q55q : Contract Tryz.prog 67 S_q55q := C_q55q_raw 0
theorem C_q9q_raw (N : Nat) : Contract Tryz.prog 111 ⟨[(K_Si, false), (I, false)], [I], true, F_q9q N⟩ :=
  have E : Env Tryz.prog Γ_q9q := env_of tab trivial
  con_of (Pc := [(0, ⟨q9q_l0_h, q9q_l0_o, q9q_l0 N N⟩)]) E rfl mixed Tryz.func111 (by kernel_rfl) (by kernel_rfl) (by kernel_rfl) (by kernel_rfl) (fun A hA => ⟨pc_of (inner := []) E mixed hA (by kernel_rfl) (by kernel_rfl) (by kernel_rfl) trivial (fun _ => rfl) (fun m d => (q9q_l0_ok N (q9q_l0 N m) d).symm) N, trivial⟩) (F_q9q_ok N)
theorem C_q9q : Contract Tryz.prog 111 S_q9q := Contract.less (fun N : Nat => F_q9q N) C_q9q_raw index_lim
theorem C_q5q_raw (N : Nat) : Contract Tryz.prog 69 ⟨[(K_Si, false), (I, false)], [.bool], true, F_q5q N⟩ :=
  have E : Env Tryz.prog Γ_q5q := env_of tab ⟨C_q9q, trivial⟩
  con_of (Pc := []) E rfl mixed Tryz.func69 (by kernel_rfl) (by kernel_rfl) (by kernel_rfl) (by kernel_rfl) (fun A hA => trivial) (F_q5q_ok N)
theorem C_q5q : Contract Tryz.prog 69 S_q5q := C_q5q_raw 0
theorem C_impl_netOf_raw (N : Nat) : Contract Tryz.prog 50 ⟨[(K_PiSPiiqq, false)], [K_PSiq], true, F_impl_netOf N⟩ :=
  have E : Env Tryz.prog Γ_impl_netOf := env_of tab trivial
  con_of (Pc := [(0, ⟨impl_netOf_l0_h, impl_netOf_l0_o, impl_netOf_l0 N N⟩)]) E rfl mixed Tryz.func50 (by kernel_rfl) (by kernel_rfl) (by kernel_rfl) (by kernel_rfl) (fun A hA => ⟨pc_of (inner := []) E mixed hA (by kernel_rfl) (by kernel_rfl) (by kernel_rfl) trivial (fun _ => rfl) (fun m d => (impl_netOf_l0_ok N (impl_netOf_l0 N m) d).symm) N, trivial⟩) (F_impl_netOf_ok N)
theorem C_impl_netOf : Contract Tryz.prog 50 S_impl_netOf := Contract.less (fun N : Nat => F_impl_netOf N) C_impl_netOf_raw netOf_lim
theorem C_q32q_raw (N : Nat) : Contract Tryz.prog 105 ⟨[(K_PSiq, false)], [I], true, F_q32q N⟩ :=
  have E : Env Tryz.prog Γ_q32q := env_of tab trivial
  con_of (Pc := []) E rfl mixed Tryz.func105 (by kernel_rfl) (by kernel_rfl) (by kernel_rfl) (by kernel_rfl) (fun A hA => trivial) (F_q32q_ok N)
theorem C_q32q : Contract Tryz.prog 105 S_q32q := Contract.less (fun N : Nat => F_q32q N) C_q32q_raw (fun d r h => ⟨0, (F_q32q_tot 0 d).trans h⟩)
theorem C_q10q_raw (N : Nat) : Contract Tryz.prog 80 ⟨[(K_Si, false)], [K_Si], true, F_q10q N⟩ :=
  have E : Env Tryz.prog Γ_q10q := env_of tab trivial
  con_of (Pc := []) E rfl mixed Tryz.func80 (by kernel_rfl) (by kernel_rfl) (by kernel_rfl) (by kernel_rfl) (fun A hA => trivial) (F_q10q_ok N)
theorem C_q10q : Contract Tryz.prog 80 S_q10q := Contract.less (fun N : Nat => F_q10q N) C_q10q_raw cloneI_lim
theorem C_q42q_raw (N : Nat) : Contract Tryz.prog 125 ⟨[(I, false), (I, false)], [K_SSi], true, F_q42q N⟩ :=
  have E : Env Tryz.prog Γ_q42q := env_ofV tab ⟨C_q10q, trivial⟩ trivial (fun _ h => by cases h)
  con_of (Pc := [(0, ⟨q42q_l0_h, q42q_l0_o, q42q_l0 N N⟩)]) E rfl mixed Tryz.func125 (by kernel_rfl) (by kernel_rfl) (by kernel_rfl) (by kernel_rfl) (fun A hA => ⟨pc_of (inner := [(2, ⟨q42q_l2_h, q42q_l2_o, q42q_l2 N N⟩)]) E mixed hA (by kernel_rfl) (by kernel_rfl) (by kernel_rfl) ⟨pc_of (inner := [(4, ⟨q42q_l4_h, q42q_l4_o, q42q_l4 N N⟩)]) E mixed hA (by kernel_rfl) (by kernel_rfl) (by kernel_rfl) ⟨pc_of (inner := []) E mixed hA (by kernel_rfl) (by kernel_rfl) (by kernel_rfl) trivial (fun _ => rfl) (fun m d => (q42q_l4_ok N (q42q_l4 N m) d).symm) N, trivial⟩ (fun _ => rfl) (fun m d => (q42q_l2_ok N (q42q_l2 N m) d).symm) N, trivial⟩ (fun _ => rfl) (fun m d => (q42q_l0_ok N (q42q_l0 N m) d).symm) N, trivial⟩) (F_q42q_ok N)
theorem C_q42q : Contract Tryz.prog 125 S_q42q := Contract.less (fun N : Nat => F_q42q N) C_q42q_raw copLists_lim
theorem C_q23q_raw (N : Nat) : Contract Tryz.prog 100 ⟨[(K_PSiq, false), (I, false)], [I], true, F_q23q N⟩ :=
  have E : Env Tryz.prog Γ_q23q := env_of tab trivial
  con_of (Pc := []) E rfl mixed Tryz.func100 (by kernel_rfl) (by kernel_rfl) (by kernel_rfl) (by kernel_rfl) (fun A hA => trivial) (F_q23q_ok N)
theorem C_q23q : Contract Tryz.prog 100 S_q23q := C_q23q_raw 0
theorem C_impl_setOf_raw (N : Nat) : Contract Tryz.prog 52 ⟨[(I, false)], [K_Si], true, F_impl_setOf N⟩ :=
  have E : Env Tryz.prog Γ_impl_setOf := env_of tab trivial
  con_of (Pc := [(0, ⟨impl_setOf_l0_h, impl_setOf_l0_o, impl_setOf_l0 N N⟩)]) E rfl mixed Tryz.func52 (by kernel_rfl) (by kernel_rfl) (by kernel_rfl) (by kernel_rfl) (fun A hA => ⟨pc_of (inner := []) E mixed hA (by kernel_rfl) (by kernel_rfl) (by kernel_rfl) trivial (fun _ => rfl) (fun m d => (impl_setOf_l0_ok N (impl_setOf_l0 N m) d).symm) N, trivial⟩) (F_impl_setOf_ok N)
theorem C_impl_setOf : Contract Tryz.prog 52 S_impl_setOf := Contract.less (fun N : Nat => F_impl_setOf N) C_impl_setOf_raw setOf_lim
theorem C_q1q : ContractG Tryz.prog 123 (S_q1q, { gone := [0], deep := [] }) := con_compactF (enters_of Tryz.func123 (by kernel_rfl) rfl) (fun w v1 v2 xs ys h1 h2 l1 l2 => eqH h1 h2 l1 l2) compact74 compact74_small
theorem C_q18q_raw (N : Nat) : Contract Tryz.prog 90 ⟨[(K_PSiq, false), (K_Si, false)], [K_SSi], true, F_q18q N⟩ :=
  have E : Env Tryz.prog Γ_q18q := env_ofG tab ⟨C_impl_setOf, ⟨C_q10q, ⟨C_q23q, ⟨C_q11q, ⟨C_q2q, trivial⟩⟩⟩⟩⟩ trivial (fun _ h => by cases h) ⟨C_q1q, trivial⟩ (by kernel_rfl)
  con_of (Pc := [(0, ⟨q18q_l0_h, q18q_l0_o, q18q_l0 N N⟩), (6, ⟨q18q_l6_h, q18q_l6_o, q18q_l6 N N⟩)]) E rfl mixed Tryz.func90 (by kernel_rfl) (by kernel_rfl) (by kernel_rfl) (by kernel_rfl) (fun A hA => ⟨pc_of (inner := [(2, ⟨q18q_l2_h, q18q_l2_o, q18q_l2 N N⟩)]) E mixed hA (by kernel_rfl) (by kernel_rfl) (by kernel_rfl) ⟨pc_of (inner := [(4, ⟨q18q_l4_h, q18q_l4_o, q18q_l4 N N⟩)]) E mixed hA (by kernel_rfl) (by kernel_rfl) (by kernel_rfl) ⟨pc_of (inner := []) E mixed hA (by kernel_rfl) (by kernel_rfl) (by kernel_rfl) trivial (fun _ => rfl) (fun m d => (q18q_l4_ok N (q18q_l4 N m) d).symm) N, trivial⟩ (fun _ => rfl) (fun m d => (q18q_l2_ok N (q18q_l2 N m) d).symm) N, trivial⟩ (fun _ => rfl) (fun m d => (q18q_l0_ok N (q18q_l0 N m) d).symm) N, ⟨pc_of (inner := []) E mixed hA (by kernel_rfl) (by kernel_rfl) (by kernel_rfl) trivial (fun _ => rfl) (fun m d => (q18q_l6_ok N (q18q_l6 N m) d).symm) N, trivial⟩⟩) (F_q18q_ok N)
theorem C_q18q : Contract Tryz.prog 90 S_q18q := Contract.less (fun N : Nat => F_q18q N) C_q18q_raw copMoves47_lim
theorem CV_q7q : ContractV Tryz.prog SV_q7q := conV_0_2_0 C_q7q
theorem C_q0q_raw (N : Nat) : Contract Tryz.prog 112 ⟨[(K_SSi, false), (K_Si, false), (K_F_q7q_qq, false)], [I, .bool], true, F_q0q N⟩ :=
  have E : Env Tryz.prog Γ_q0q := env_ofV tab trivial ⟨CV_q7q, trivial⟩ (fun _ h => by cases h)
  con_of (Pc := [(0, ⟨q0q_l0_h, q0q_l0_o, q0q_l0 N N⟩)]) E rfl mixed Tryz.func112 (by kernel_rfl) (by kernel_rfl) (by kernel_rfl) (by kernel_rfl) (fun A hA => ⟨pc_of (inner := []) E mixed hA (by kernel_rfl) (by kernel_rfl) (by kernel_rfl) trivial (fun _ => rfl) (fun m d => (q0q_l0_ok N (q0q_l0 N m) d).symm) N, trivial⟩) (F_q0q_ok N)
theorem C_q0q : Contract Tryz.prog 112 S_q0q := Contract.less (fun N : Nat => F_q0q N) C_q0q_raw binSearch_lim
theorem C_q14q_raw (N : Nat) : Contract Tryz.prog 71 ⟨[(K_BPPZiqZSiSSiSSiq, false), (K_Si, false)], [I], true, F_q14q N⟩ :=
  have E : Env Tryz.prog Γ_q14q := env_of tab ⟨C_q0q, trivial⟩
  con_of (Pc := []) E rfl mixed Tryz.func71 (by kernel_rfl) (by kernel_rfl) (by kernel_rfl) (by kernel_rfl) (fun A hA => trivial) (F_q14q_ok N)
theorem C_q14q : Contract Tryz.prog 71 S_q14q := C_q14q_raw 0
theorem C_q17q_raw (N : Nat) : ContractG Tryz.prog 103 (⟨[(K_PSiq, false), (I, false)], [K_BPPZiqZSiSSiSSiq], true, F_q17q N⟩, md0) :=
  have E : Env Tryz.prog Γ_q17q := env_of tab ⟨C_q14q, ⟨C_q18q, ⟨C_q32q, ⟨C_q42q, trivial⟩⟩⟩⟩
  con_ofG (Pc := [(0, ⟨q17q_l0_h, q17q_l0_o, q17q_l0 N N⟩)]) E mixed Tryz.func103 (by kernel_rfl) (by kernel_rfl) (by kernel_rfl) (by kernel_rfl) (fun A hA => ⟨pc_of (inner := [(2, ⟨q17q_l2_h, q17q_l2_o, q17q_l2 N N⟩)]) E mixed hA (by kernel_rfl) (by kernel_rfl) (by kernel_rfl) ⟨pc_of (inner := []) E mixed hA (by kernel_rfl) (by kernel_rfl) (by kernel_rfl) trivial (fun _ => rfl) (fun m d => (q17q_l2_ok N (q17q_l2 N m) d).symm) N, trivial⟩ (fun _ => rfl) (fun m d => (q17q_l0_ok N (q17q_l0 N m) d).symm) N, trivial⟩) (F_q17q_ok N)
theorem C_q17q : ContractG Tryz.prog 103 (S_q17q, md0) := ContractG.less (fun N : Nat => F_q17q N) C_q17q_raw copBoard_lim
theorem C_q13q_raw (N : Nat) : Contract Tryz.prog 116 ⟨[(K_PSiq, false), (K_Si, false), (I, false)], [I], true, F_q13q N⟩ :=
  have E : Env Tryz.prog Γ_q13q := env_of tab ⟨C_impl_setOf, ⟨C_q23q, trivial⟩⟩
  con_of (Pc := [(0, ⟨q13q_l0_h, q13q_l0_o, q13q_l0 N N⟩)]) E rfl mixed Tryz.func116 (by kernel_rfl) (by kernel_rfl) (by kernel_rfl) (by kernel_rfl) (fun A hA => ⟨pc_of (inner := []) E mixed hA (by kernel_rfl) (by kernel_rfl) (by kernel_rfl) trivial (fun _ => rfl) (fun m d => (q13q_l0_ok N (q13q_l0 N m) d).symm) N, trivial⟩) (F_q13q_ok N)
theorem C_q13q : Contract Tryz.prog 116 S_q13q := Contract.less (fun N : Nat => F_q13q N) C_q13q_raw timeAfter_lim
theorem C_q15q_raw (N : Nat) : Contract Tryz.prog 128 ⟨[(I, false), (K_BBPPZiqZSiSSiSSiq, false), (K_Bi, false)], [.bool], true, F_q15q N⟩ :=
  have E : Env Tryz.prog Γ_q15q := env_ofV tab ⟨C_q5q, ⟨C_q13q, trivial⟩⟩ trivial (w1_of (by kernel_rfl))
  con_of (Pc := []) E rfl mixed Tryz.func128 (by kernel_rfl) (by kernel_rfl) (by kernel_rfl) (by kernel_rfl) (fun A hA => trivial) (F_q15q_ok N)
theorem C_q15q : Contract Tryz.prog 128 S_q15q := C_q15q_raw 0
theorem CV_q15q : ContractV Tryz.prog SV_q15q := conV_0_1_2 C_q15q
theorem C_q4q_raw (N : Nat) : Contract Tryz.prog 137 ⟨[(K_Si, false), (K_F_q15q_qPBBPPZiqZSiSSiSSiqBiq, false)], [I], true, F_q4q N⟩ :=
  have E : Env Tryz.prog Γ_q4q := env_ofV tab trivial ⟨CV_q15q, trivial⟩ (fun _ h => by cases h)
  con_of (Pc := [(0, ⟨q4q_l0_h, q4q_l0_o, q4q_l0 N N⟩)]) E rfl mixed Tryz.func137 (by kernel_rfl) (by kernel_rfl) (by kernel_rfl) (by kernel_rfl) (fun A hA => ⟨pc_of (inner := []) E mixed hA (by kernel_rfl) (by kernel_rfl) (by kernel_rfl) trivial (fun _ => rfl) (fun m d => (q4q_l0_ok N (q4q_l0 N m) d).symm) N, trivial⟩) (F_q4q_ok N)
theorem C_q4q : Contract Tryz.prog 137 S_q4q := Contract.less (fun N : Nat => F_q4q N) C_q4q_raw gameCan_lim
theorem C_q3q_raw (N : Nat) : Contract Tryz.prog 127 ⟨[(K_Si, false), (K_F_q15q_qPBBPPZiqZSiSSiSSiqBiq, false)], [.bool], true, F_q3q N⟩ :=
  have E : Env Tryz.prog Γ_q3q := env_of tab ⟨C_q4q, trivial⟩
  con_of (Pc := []) E rfl mixed Tryz.func127 (by kernel_rfl) (by kernel_rfl) (by kernel_rfl) (by kernel_rfl) (fun A hA => trivial) (F_q3q_ok N)
theorem C_q3q : Contract Tryz.prog 127 S_q3q := C_q3q_raw 0
theorem C_q19q_raw (N : Nat) : Contract Tryz.prog 106 ⟨[(K_BPPZiqZSiSSiSSiq, false), (I, false), (I, false)], [.bool], true, F_q19q N⟩ :=
  have E : Env Tryz.prog Γ_q19q := env_ofV tab ⟨C_q3q, trivial⟩ trivial (w1_of (by kernel_rfl))
  con_of (Pc := []) E rfl mixed Tryz.func106 (by kernel_rfl) (by kernel_rfl) (by kernel_rfl) (by kernel_rfl) (fun A hA => trivial) (F_q19q_ok N)
theorem C_q19q : Contract Tryz.prog 106 S_q19q := C_q19q_raw 0
theorem C_q21q_raw (N : Nat) : ContractG Tryz.prog 63 (⟨[(K_PSiq, false), (I, false)], [K_BPPZiqZSiSSiSSiq], true, F_q21q N⟩, md0) :=
  have E : Env Tryz.prog Γ_q21q := env_ofG tab ⟨C_q8q, ⟨C_q32q, ⟨C_q19q, trivial⟩⟩⟩ trivial (fun _ h => by cases h) ⟨C_q17q, trivial⟩ (by kernel_rfl)
  con_ofG (Pc := [(0, ⟨q21q_l0_h, q21q_l0_o, q21q_l0 N N⟩), (4, ⟨q21q_l4_h, q21q_l4_o, q21q_l4 N N⟩)]) E mixed Tryz.func63 (by kernel_rfl) (by kernel_rfl) (by kernel_rfl) (by kernel_rfl) (fun A hA => ⟨pc_of (inner := [(2, ⟨q21q_l2_h, q21q_l2_o, q21q_l2 N N⟩)]) E mixed hA (by kernel_rfl) (by kernel_rfl) (by kernel_rfl) ⟨pc_of (inner := []) E mixed hA (by kernel_rfl) (by kernel_rfl) (by kernel_rfl) trivial (fun _ => rfl) (fun m d => (q21q_l2_ok N (q21q_l2 N m) d).symm) N, trivial⟩ (fun _ => rfl) (fun m d => (q21q_l0_ok N (q21q_l0 N m) d).symm) N, ⟨pc_of (inner := [(6, ⟨q21q_l6_h, q21q_l6_o, q21q_l6 N N⟩), (10, ⟨q21q_l10_h, q21q_l10_o, q21q_l10 N N⟩)]) E mixed hA (by kernel_rfl) (by kernel_rfl) (by kernel_rfl) ⟨pc_of (inner := [(8, ⟨q21q_l8_h, q21q_l8_o, q21q_l8 N N⟩)]) E mixed hA (by kernel_rfl) (by kernel_rfl) (by kernel_rfl) ⟨pc_of (inner := []) E mixed hA (by kernel_rfl) (by kernel_rfl) (by kernel_rfl) trivial (fun _ => rfl) (fun m d => (q21q_l8_ok N (q21q_l8 N m) d).symm) N, trivial⟩ (fun _ => rfl) (fun m d => (q21q_l6_ok N (q21q_l6 N m) d).symm) N, ⟨pc_of (inner := []) E mixed hA (by kernel_rfl) (by kernel_rfl) (by kernel_rfl) trivial (fun _ => rfl) (fun m d => (q21q_l10_ok N (q21q_l10 N m) d).symm) N, trivial⟩⟩ (fun _ => rfl) (fun m d => (q21q_l4_ok N (q21q_l4 N m) d).symm) N, trivial⟩⟩) (F_q21q_ok N)
theorem C_q21q : ContractG Tryz.prog 63 (S_q21q, md0) := ContractG.less (fun N : Nat => F_q21q N) C_q21q_raw copGame_lim
theorem C_q16q_raw (N : Nat) : Contract Tryz.prog 81 ⟨[(K_BPPZiqZSiSSiSSiq, false), (K_Si, false), (I, false)], [K_Si], false, F_q16q N⟩ :=
  have E : Env Tryz.prog Γ_q16q := env_of tab ⟨C_q5q, ⟨C_q14q, ⟨C_q13q, trivial⟩⟩⟩
  con_of (Pc := [(0, ⟨q16q_l0_h, q16q_l0_o, q16q_l0 N N⟩)]) E rfl mixed Tryz.func81 (by kernel_rfl) (by kernel_rfl) (by kernel_rfl) (by kernel_rfl) (fun A hA => ⟨pc_of (inner := []) E mixed hA (by kernel_rfl) (by kernel_rfl) (by kernel_rfl) trivial (fun _ => rfl) (fun m d => (q16q_l0_ok N (q16q_l0 N m) d).symm) N, trivial⟩) (F_q16q_ok N)
theorem C_q16q : Contract Tryz.prog 81 S_q16q := Contract.less (fun N : Nat => F_q16q N) C_q16q_raw gameReply_lim
theorem C_q12q_raw (N : Nat) : Contract Tryz.prog 70 ⟨[(K_PSiq, false), (K_Si, false), (I, false)], [I], true, F_q12q N⟩ :=
  have E : Env Tryz.prog Γ_q12q := env_of tab ⟨C_impl_setOf, ⟨C_q23q, trivial⟩⟩
  con_of (Pc := [(0, ⟨q12q_l0_h, q12q_l0_o, q12q_l0 N N⟩)]) E rfl mixed Tryz.func70 (by kernel_rfl) (by kernel_rfl) (by kernel_rfl) (by kernel_rfl) (fun A hA => ⟨pc_of (inner := []) E mixed hA (by kernel_rfl) (by kernel_rfl) (by kernel_rfl) trivial (fun _ => rfl) (fun m d => (q12q_l0_ok N (q12q_l0 N m) d).symm) N, trivial⟩) (F_q12q_ok N)
theorem C_q12q : Contract Tryz.prog 70 S_q12q := Contract.less (fun N : Nat => F_q12q N) C_q12q_raw robberMove_lim
theorem C_q40q_raw (N : Nat) : Contract Tryz.prog 42 ⟨[(K_PiSPiiqq, false), (K_Si, false), (I, false), (I, false)], [K_SSi, K_Si, .bool], true, F_q40q N⟩ :=
  have E : Env Tryz.prog Γ_q40q := env_ofG tab ⟨C_impl_netOf, ⟨C_q55q, ⟨C_q39q, ⟨C_q5q, ⟨C_q12q, ⟨C_q14q, ⟨C_q69q, ⟨C_q10q, ⟨C_q16q, trivial⟩⟩⟩⟩⟩⟩⟩⟩⟩ trivial (fun _ h => by cases h) ⟨C_q21q, trivial⟩ (by kernel_rfl)
  con_of (Pc := [(0, ⟨q40q_l0_h, q40q_l0_o, q40q_l0 N N⟩)]) E rfl mixed Tryz.func42 (by kernel_rfl) (by kernel_rfl) (by kernel_rfl) (by kernel_rfl) (fun A hA => ⟨pc_of (inner := []) E mixed hA (by kernel_rfl) (by kernel_rfl) (by kernel_rfl) trivial (fun _ => rfl) (fun m d => (q40q_l0_ok N (q40q_l0 N m) d).symm) N, trivial⟩) (F_q40q_ok N)
theorem C_q40q : Contract Tryz.prog 42 S_q40q := Contract.less (fun N : Nat => F_q40q N) C_q40q_raw implPC_lim
theorem C_q58q_raw (N : Nat) : Contract Tryz.prog 25 ⟨[(K_Si, false), (K_Si, false)], [.bool], true, F_q58q N⟩ :=
  have E : Env Tryz.prog Γ_q58q := env_of tab trivial
  con_of (Pc := [(0, ⟨q58q_l0_h, q58q_l0_o, q58q_l0 N N⟩)]) E rfl mixed Tryz.func25 (by kernel_rfl) (by kernel_rfl) (by kernel_rfl) (by kernel_rfl) (fun A hA => ⟨pc_of (inner := []) E mixed hA (by kernel_rfl) (by kernel_rfl) (by kernel_rfl) trivial (fun _ => rfl) (fun m d => (q58q_l0_ok N (q58q_l0 N m) d).symm) N, trivial⟩) (F_q58q_ok N)
theorem C_q58q : Contract Tryz.prog 25 S_q58q := Contract.less (fun N : Nat => F_q58q N) C_q58q_raw eqIntS_lim
theorem C_q44q_raw (N : Nat) : Contract Tryz.prog 18 ⟨[(K_SSi, false), (K_SSi, false)], [.bool], true, F_q44q N⟩ :=
  have E : Env Tryz.prog Γ_q44q := env_of tab ⟨C_q58q, trivial⟩
  con_of (Pc := [(0, ⟨q44q_l0_h, q44q_l0_o, q44q_l0 N N⟩)]) E rfl mixed Tryz.func18 (by kernel_rfl) (by kernel_rfl) (by kernel_rfl) (by kernel_rfl) (fun A hA => ⟨pc_of (inner := []) E mixed hA (by kernel_rfl) (by kernel_rfl) (by kernel_rfl) trivial (fun _ => rfl) (fun m d => (q44q_l0_ok N (q44q_l0 N m) d).symm) N, trivial⟩) (F_q44q_ok N)
theorem C_q44q : Contract Tryz.prog 18 S_q44q := Contract.less (fun N : Nat => F_q44q N) C_q44q_raw eqIntSS_lim
theorem C_q46q_raw (N : Nat) : Contract Tryz.prog 96 ⟨[(K_Piiq, false), (K_Piiq, false)], [.bool], true, F_q46q N⟩ :=
  have E : Env Tryz.prog Γ_q46q := env_of tab trivial
  con_of (Pc := [(0, ⟨q46q_l0_h, q46q_l0_o, q46q_l0 N N⟩)]) E rfl mixed Tryz.func96 (by kernel_rfl) (by kernel_rfl) (by kernel_rfl) (by kernel_rfl) (fun A hA => ⟨pc_of (inner := []) E mixed hA (by kernel_rfl) (by kernel_rfl) (by kernel_rfl) trivial (fun _ => rfl) (fun m d => (q46q_l0_ok N (q46q_l0 N m) d).symm) N, trivial⟩) (F_q46q_ok N)
theorem C_q46q : Contract Tryz.prog 96 S_q46q := Contract.less (fun N : Nat => F_q46q N) C_q46q_raw eqIntA2_lim
theorem C_q37q_raw (N : Nat) : Contract Tryz.prog 53 ⟨[(K_SPiiq, false), (K_SPiiq, false)], [.bool], true, F_q37q N⟩ :=
  have E : Env Tryz.prog Γ_q37q := env_of tab ⟨C_q46q, trivial⟩
  con_of (Pc := [(0, ⟨q37q_l0_h, q37q_l0_o, q37q_l0 N N⟩)]) E rfl mixed Tryz.func53 (by kernel_rfl) (by kernel_rfl) (by kernel_rfl) (by kernel_rfl) (fun A hA => ⟨pc_of (inner := []) E mixed hA (by kernel_rfl) (by kernel_rfl) (by kernel_rfl) trivial (fun _ => rfl) (fun m d => (q37q_l0_ok N (q37q_l0 N m) d).symm) N, trivial⟩) (F_q37q_ok N)
theorem C_q37q : Contract Tryz.prog 53 S_q37q := Contract.less (fun N : Nat => F_q37q N) C_q37q_raw eqIntA2S_lim
theorem C_q49q_raw (N : Nat) : Contract Tryz.prog 19 ⟨[(K_PiSPiiqq, false), (K_PiSPiiqq, false)], [.bool], true, F_q49q N⟩ :=
  have E : Env Tryz.prog Γ_q49q := env_of tab ⟨C_q37q, trivial⟩
  con_of (Pc := []) E rfl mixed Tryz.func19 (by kernel_rfl) (by kernel_rfl) (by kernel_rfl) (by kernel_rfl) (fun A hA => trivial) (F_q49q_ok N)
theorem C_q49q : Contract Tryz.prog 19 S_q49q := C_q49q_raw 0
theorem C_q24q_raw (N : Nat) : Contract Tryz.prog 54 ⟨[(K_SPiiq, true), (I, false)], [I], true, F_q24q N⟩ :=
  have E : Env Tryz.prog Γ_q24q := env_of tab trivial
  con_of (Pc := [(0, ⟨q24q_l0_h, q24q_l0_o, q24q_l0 N N⟩)]) E rfl mixed Tryz.func54 (by kernel_rfl) (by kernel_rfl) (by kernel_rfl) (by kernel_rfl) (fun A hA => ⟨pc_of (inner := [(2, ⟨q24q_l2_h, q24q_l2_o, q24q_l2 N N⟩)]) E mixed hA (by kernel_rfl) (by kernel_rfl) (by kernel_rfl) ⟨pc_of (inner := []) E mixed hA (by kernel_rfl) (by kernel_rfl) (by kernel_rfl) trivial (fun _ => rfl) (fun m d => (q24q_l2_ok N (q24q_l2 N m) d).symm) N, trivial⟩ (fun _ => rfl) (fun m d => (q24q_l0_ok N (q24q_l0 N m) d).symm) N, trivial⟩) (F_q24q_ok N)
theorem C_q24q : Contract Tryz.prog 54 S_q24q := Contract.less (fun N : Nat => F_q24q N) C_q24q_raw markIntA2S_lim
theorem C_q28q_raw (N : Nat) : Contract Tryz.prog 20 ⟨[(K_PiSPiiqq, true), (I, false)], [I], true, F_q28q N⟩ :=
  have E : Env Tryz.prog Γ_q28q := env_of tab ⟨C_q24q, trivial⟩
  con_of (Pc := []) E rfl mixed Tryz.func20 (by kernel_rfl) (by kernel_rfl) (by kernel_rfl) (by kernel_rfl) (fun A hA => trivial) (F_q28q_ok N)
theorem C_q28q : Contract Tryz.prog 20 S_q28q := C_q28q_raw 0
theorem C_q31q_raw (N : Nat) : Contract Tryz.prog 26 ⟨[(K_Si, true), (I, false)], [I], true, F_q31q N⟩ :=
  have E : Env Tryz.prog Γ_q31q := env_of tab trivial
  con_of (Pc := [(0, ⟨q31q_l0_h, q31q_l0_o, q31q_l0 N N⟩)]) E rfl mixed Tryz.func26 (by kernel_rfl) (by kernel_rfl) (by kernel_rfl) (by kernel_rfl) (fun A hA => ⟨pc_of (inner := []) E mixed hA (by kernel_rfl) (by kernel_rfl) (by kernel_rfl) trivial (fun _ => rfl) (fun m d => (q31q_l0_ok N (q31q_l0 N m) d).symm) N, trivial⟩) (F_q31q_ok N)
theorem C_q31q : Contract Tryz.prog 26 S_q31q := Contract.less (fun N : Nat => F_q31q N) C_q31q_raw markIntS_lim
theorem C_q27q_raw (N : Nat) : Contract Tryz.prog 21 ⟨[(K_SSi, true), (I, false)], [I], true, F_q27q N⟩ :=
  have E : Env Tryz.prog Γ_q27q := env_of tab ⟨C_q31q, trivial⟩
  con_of (Pc := [(0, ⟨q27q_l0_h, q27q_l0_o, q27q_l0 N N⟩)]) E rfl mixed Tryz.func21 (by kernel_rfl) (by kernel_rfl) (by kernel_rfl) (by kernel_rfl) (fun A hA => ⟨pc_of (inner := []) E mixed hA (by kernel_rfl) (by kernel_rfl) (by kernel_rfl) trivial (fun _ => rfl) (fun m d => (q27q_l0_ok N (q27q_l0 N m) d).symm) N, trivial⟩) (F_q27q_ok N)
theorem C_q27q : Contract Tryz.prog 21 S_q27q := Contract.less (fun N : Nat => F_q27q N) C_q27q_raw markIntSS_lim
theorem C_q43q_raw (N : Nat) : Contract Tryz.prog 27 ⟨[(K_Si, false), (I, false)], [I], true, F_q43q N⟩ :=
  have E : Env Tryz.prog Γ_q43q := env_of tab trivial
  con_of (Pc := [(0, ⟨q43q_l0_h, q43q_l0_o, q43q_l0 N N⟩)]) E rfl mixed Tryz.func27 (by kernel_rfl) (by kernel_rfl) (by kernel_rfl) (by kernel_rfl) (fun A hA => ⟨pc_of (inner := []) E mixed hA (by kernel_rfl) (by kernel_rfl) (by kernel_rfl) trivial (fun _ => rfl) (fun m d => (q43q_l0_ok N (q43q_l0 N m) d).symm) N, trivial⟩) (F_q43q_ok N)
theorem C_q43q : Contract Tryz.prog 27 S_q43q := Contract.less (fun N : Nat => F_q43q N) C_q43q_raw heldIntS_lim
theorem C_q29q_raw (N : Nat) : Contract Tryz.prog 22 ⟨[(K_SSi, false), (I, false)], [I], true, F_q29q N⟩ :=
  have E : Env Tryz.prog Γ_q29q := env_of tab ⟨C_q43q, trivial⟩
  con_of (Pc := [(0, ⟨q29q_l0_h, q29q_l0_o, q29q_l0 N N⟩)]) E rfl mixed Tryz.func22 (by kernel_rfl) (by kernel_rfl) (by kernel_rfl) (by kernel_rfl) (fun A hA => ⟨pc_of (inner := []) E mixed hA (by kernel_rfl) (by kernel_rfl) (by kernel_rfl) trivial (fun _ => rfl) (fun m d => (q29q_l0_ok N (q29q_l0 N m) d).symm) N, trivial⟩) (F_q29q_ok N)
theorem C_q29q : Contract Tryz.prog 22 S_q29q := Contract.less (fun N : Nat => F_q29q N) C_q29q_raw heldIntSS_lim
theorem C_laws_FnExactPlayCops_raw (N : Nat) : Contract Tryz.prog 11 ⟨[(K_PiSPiiqq, false), (K_Si, false), (I, false), (I, false)], [.bool], true, F_laws_FnExactPlayCops N⟩ :=
  have E : Env Tryz.prog Γ_laws_FnExactPlayCops := env_of tab ⟨C_q51q, ⟨C_q48q, ⟨C_q44q, ⟨C_q49q, ⟨C_q28q, ⟨C_q27q, ⟨C_q29q, ⟨C_q58q, ⟨C_q31q, ⟨C_q43q, ⟨C_q60q, ⟨C_q41q, ⟨C_q40q, trivial⟩⟩⟩⟩⟩⟩⟩⟩⟩⟩⟩⟩⟩
  con_of (Pc := []) E rfl mixed Tryz.func11 (by kernel_rfl) (by kernel_rfl) (by kernel_rfl) (by kernel_rfl) (fun A hA => trivial) (F_laws_FnExactPlayCops_ok N)
theorem C_laws_FnExactPlayCops : Contract Tryz.prog 11 S_laws_FnExactPlayCops := C_laws_FnExactPlayCops_raw 0
end Go.V.W
