/- What the law FnExactCopReply leans on, part 7: an interpreter of the model as plain data, its soundness, the functions as it tells them, and their laws. -/
import Derived.Shelf.Lays
import Derived.Shelf.LaysM
import Derived.Shelf.SortM.Plain
import Derived.Shelf.SortM.SortNone
import Derived.Shelf.SlSortCmp.NoneTotal
import Derived.Test.YtcdhlpfcjpnfoaaGreatVF
set_option linter.unusedVariables false
set_option linter.unusedSimpArgs false
set_option maxRecDepth 100000
set_option linter.unusedVariables false
set_option linter.unusedSimpArgs false
namespace Go.V.W
open Go.Proofs
theorem bestP_free (after : Int → Int) : ∀ (l : List Int) (b p q : Int), b < 0 → bestP after l b p = bestP after l b q := by
 intro l
 induction l with
 | nil => intro b p q _; rfl
 | cons d l ih =>
  intro b p q hb
  unfold bestP
  by_cases h : 0 ≤ after d
  ·have h1 : 0 ≤ after d ∧ (b < 0 ∨ after d < p) := ⟨h, .inl hb⟩
   have h2 : 0 ≤ after d ∧ (b < 0 ∨ after d < q) := ⟨h, .inl hb⟩
   rw [if_pos h1, if_pos h2]
  ·have h1 : ¬ (0 ≤ after d ∧ (b < 0 ∨ after d < p)) := fun hh => h hh.1
   have h2 : ¬ (0 ≤ after d ∧ (b < 0 ∨ after d < q)) := fun hh => h hh.1
   rw [if_neg h1, if_neg h2]
   exact ih b p q hb
theorem bestP_pos (after : Int → Int) : ∀ (l : List Int) (b p : Int), (∀ d ∈ l, 0 ≤ d) → (0 ≤ bestP after l b p ↔ 0 ≤ b ∨ ∃ d ∈ l, 0 ≤ after d) := by
 intro l
 induction l with
 | nil => intro b p _; simp [bestP]
 | cons d l ih =>
  intro b p hl
  have hd := hl d (by simp)
  have hl' : ∀ x ∈ l, 0 ≤ x := fun x hx => hl x (by simp [hx])
  unfold bestP
  by_cases h : 0 ≤ after d ∧ (b < 0 ∨ after d < p)
  ·rw [if_pos h, ih _ _ hl']
   constructor
   ·intro _; exact .inr ⟨d, by simp, h.1⟩
   ·intro _; exact .inl hd
  ·rw [if_neg h, ih _ _ hl']
   constructor
   ·rintro (h1 | ⟨x, hx, h1⟩)
    ·exact .inl h1
    ·exact .inr ⟨x, by simp [hx], h1⟩
   ·rintro (h1 | ⟨x, hx, h1⟩)
    ·exact .inl h1
    ·rcases List.mem_cons.1 hx with rfl | hx
     ·refine .inl (Int.not_lt.1 fun hb => h ⟨h1, .inl hb⟩)
     ·exact .inr ⟨x, hx, h1⟩
theorem bestP_mem (after : Int → Int) : ∀ (l : List Int) (b p : Int), bestP after l b p = b ∨ bestP after l b p ∈ l := by
 intro l
 induction l with
 | nil => intro b p; exact .inl rfl
 | cons d l ih =>
  intro b p
  unfold bestP
  split
  ·rcases ih d (after d) with h | h
   ·exact .inr (by rw [h]; simp)
   ·exact .inr (by simp [h])
  ·rcases ih b p with h | h
   ·exact .inl h
   ·exact .inr (by simp [h])
theorem lb_l0 (N : Nat) (cf mv bl : List (List Int)) (hg : gmB bl.length cf mv = true) (hb : blB bl = true) (v : Unit) (T : Tab) (hT : rcB cf.length bl.length T = true) (c : Nat) (hc : c < cf.length) (x : Nat) (hx : x < bl.length) : ∀ (k i f : Nat) (b p : Int), i + k = (at_ K_Si mv c).length → k < f →
  spec_l4Best_l0 N f (T, (c : Int), (x : Int), (cf, mv, bl, v), b, p, (i : Int), ()) = some (.inl (bestP (fun d => afterG cf (ballA bl) T d (x : Int)) ((at_ K_Si mv c).drop i) b p, ())) := by
 obtain ⟨g1, g2, g3, g4⟩ := gmB_parts hg
 obtain ⟨m1, m2, m3⟩ := g4 c hc
 have i1 : idxIn (c : Int) mv.length = true := idxIn_nat (by omega)
 have hxi : inB 0 ((bl.length : Int) - 1) (x : Int) = true := inB_iff.2 (by omega)
 intro k
 induction k with
 | zero =>
  intro i f b p h1 h2
  obtain ⟨f, rfl⟩ : ∃ m, f = m + 1 := ⟨f - 1, by omega⟩
  have e : i = (at_ K_Si mv c).length := by omega
  rw [List.drop_of_length_le (by omega)]
  subst e
  show spec_l4Best_l0_r _ _ _ = _
  unfold spec_l4Best_l0_r
  simp only [i1, if_true, Int.toNat_natCast, lt_not, Bool.false_eq_true, if_false, bestP]
 | succ k ih =>
  intro i f b p h1 h2
  obtain ⟨f, rfl⟩ : ∃ m, f = m + 1 := ⟨f - 1, by omega⟩
  have hi : i < (at_ K_Si mv c).length := by omega
  have ei : at_ I (at_ K_Si mv c) i = (at_ K_Si mv c)[i] := at_get (e := I) hi
  have haf := afterG_some hg hb hT (m3 _ (List.getElem_mem hi)) hxi v ()
  rw [List.drop_eq_getElem_cons hi]
  show spec_l4Best_l0_r _ _ _ = _
  unfold spec_l4Best_l0_r
  simp only [i1, if_true, Int.toNat_natCast, lt_dec hi, idxIn_nat hi, ei, haf, Option.bind_some, small_wrap (show i ≤ 100000 by omega), bestP]
  by_cases h0 : 0 ≤ afterG cf (ballA bl) T (at_ K_Si mv c)[i] (x : Int)
  ·have h0' : decide (afterG cf (ballA bl) T (at_ K_Si mv c)[i] (x : Int) ≥ 0) = true := decide_eq_true h0
   by_cases hbn : b < 0
   ·simp only [h0', h0, hbn, decide_true, if_true, true_or, and_self]
    exact ih (i + 1) f _ _ (by omega) (by omega)
   ·by_cases hp : afterG cf (ballA bl) T (at_ K_Si mv c)[i] (x : Int) < p
    ·simp only [h0', h0, hbn, hp, decide_true, decide_false, Bool.false_eq_true, if_true, if_false, or_true, and_self]
     exact ih (i + 1) f _ _ (by omega) (by omega)
    ·simp only [h0', h0, hbn, hp, decide_true, decide_false, Bool.false_eq_true, if_true, if_false, or_self, and_false]
     exact ih (i + 1) f _ _ (by omega) (by omega)
  ·have h0' : decide (afterG cf (ballA bl) T (at_ K_Si mv c)[i] (x : Int) ≥ 0) = false := decide_eq_false h0
   simp only [h0', h0, decide_false, Bool.false_eq_true, if_false, false_and]
   exact ih (i + 1) f _ _ (by omega) (by omega)
theorem l4Best_lim (d) (r) (h : G_l4Best d = some r) : ∃ N, F_spec_l4Best N d = some r := by
 obtain ⟨⟨cf, mv, bl, v⟩, T, c, x, _⟩ := d
 unfold G_l4Best at h
 split at h
 ·rename_i hc
  simp only [Bool.and_eq_true] at hc
  obtain ⟨⟨⟨⟨hg, hb⟩, hT⟩, hc'⟩, hx'⟩ := hc
  obtain ⟨g1, g2, g3, g4⟩ := gmB_parts hg
  obtain ⟨c, rfl, hc⟩ := nodeX hc'
  obtain ⟨x, rfl, hx⟩ := nodeX hx'
  have h := Option.some.inj h
  subst h
  obtain ⟨m1, m2, m3⟩ := g4 c hc
  refine ⟨1010, ?_⟩
  have hl := lb_l0 1010 cf mv bl hg hb v T hT c hc x hx (at_ K_Si mv c).length 0 1010 (-1) (-1) (by omega) (by omega)
  simp only [Int.natCast_zero, List.drop_zero] at hl
  unfold F_spec_l4Best bestG
  simp only [hl, Option.bind_some, Int.toNat_natCast, m2]
  rw [bestP_free _ _ (-1) 0 (-1) (by omega)]
 ·cases h
theorem gr_l0 (N : Nat) {l : List Int} {v u : Unit} {cf mv : List (List Int)} {T : Tab} (h : cgB ((l, v), cf, mv, T, u) = true) (x : Nat) (hx : x < l.length) (L : List Int) (hL : L.length ≤ 1000) (hLm : ∀ d ∈ L, inB 0 ((cf.length : Int) - 1) d = true) : ∀ (k i f : Nat) (b p : Int), i + k = L.length → k < f →
  impl_copGame_reply_l0 N f (((l, v), cf, mv, T, u), (x : Int), b, p, L, (L.length : Int), (i : Int), ()) = some (.inl (((l, v), cf, mv, T, u), bestP (fun d => afterG cf (ballM l) T d (x : Int)) (L.drop i) b p, ())) := by
 obtain ⟨h1, h2, h3, h4⟩ := cgB_parts h
 obtain ⟨g1, g2, g3, g4⟩ := gmB_parts h3
 obtain ⟨t1, t2⟩ := rcB_parts h4
 intro k
 induction k with
 | zero =>
  intro i f b p e1 e2
  obtain ⟨f, rfl⟩ : ∃ m, f = m + 1 := ⟨f - 1, by omega⟩
  have e : i = L.length := by omega
  subst e
  rw [List.drop_of_length_le (Nat.le_refl _)]
  show impl_copGame_reply_l0_r _ _ _ = _
  unfold impl_copGame_reply_l0_r
  simp only [lt_not, Bool.false_eq_true, if_false, bestP]
 | succ k ih =>
  intro i f b p e1 e2
  obtain ⟨f, rfl⟩ : ∃ m, f = m + 1 := ⟨f - 1, by omega⟩
  have hi : i < L.length := by omega
  obtain ⟨d, ed, hd⟩ := nodeX (hLm _ (List.getElem_mem hi))
  have ei : at_ I L i = (d : Int) := (at_get (e := I) hi).trans ed
  obtain ⟨y1, y2, y3⟩ := g3 d hd
  have i2 : idxIn (d : Int) T.length = true := idxIn_nat (by omega)
  have hge : decide ((0 : Int) ≥ 0) = true := by decide
  have hea : afterG cf (ballM l) T (d : Int) (x : Int) = if hasL (at_ K_Si cf d) (x : Int) = true then 0 else worstL (tab2 T (d : Int)) (ballM l (x : Int)) 0 := by
   unfold afterG
   rw [Int.toNat_natCast, y2]
  rw [List.drop_eq_getElem_cons hi, ed]
  show impl_copGame_reply_l0_r _ _ _ = _
  unfold impl_copGame_reply_l0_r
  simp only [lt_dec hi, if_true, idxIn_nat hi, Int.toNat_natCast, ei, idxIn_nat hd, has2 (okL_of (show (at_ K_Si cf d).length ≤ 1048576 by omega)), Option.bind_some, i2, timeAfter_some h1 h4 hd hx, small_wrap (show i ≤ 100000 by omega), bestP, hge]
  by_cases hh : hasL (at_ K_Si cf d) (x : Int) = true
  ·rw [if_pos hh] at hea
   simp only [hh, Bool.not_true, Bool.false_eq_true, if_false, hea, Int.le_refl, true_and]
   by_cases hbn : b < 0
   ·simp only [hbn, decide_true, if_true, true_or]
    exact ih (i + 1) f _ _ (by omega) (by omega)
   ·by_cases hp : (0 : Int) < p
    ·simp only [hbn, hp, decide_true, decide_false, Bool.false_eq_true, if_true, if_false, or_true]
     exact ih (i + 1) f _ _ (by omega) (by omega)
    ·simp only [hbn, hp, decide_false, Bool.false_eq_true, if_false, or_self]
     exact ih (i + 1) f _ _ (by omega) (by omega)
  ·have hh' : hasL (at_ K_Si cf d) (x : Int) = false := (Bool.not_eq_true _).mp hh
   rw [if_neg hh] at hea
   simp only [hh', Bool.not_false, if_true, hea]
   by_cases h0 : 0 ≤ worstL (tab2 T (d : Int)) (ballM l (x : Int)) 0
   ·have h0' : decide (worstL (tab2 T (d : Int)) (ballM l (x : Int)) 0 ≥ 0) = true := decide_eq_true h0
    by_cases hbn : b < 0
    ·simp only [h0', h0, hbn, decide_true, if_true, true_or, and_self]
     exact ih (i + 1) f _ _ (by omega) (by omega)
    ·by_cases hp : worstL (tab2 T (d : Int)) (ballM l (x : Int)) 0 < p
     ·simp only [h0', h0, hbn, hp, decide_true, decide_false, Bool.false_eq_true, if_true, if_false, or_true, and_self]
      exact ih (i + 1) f _ _ (by omega) (by omega)
     ·simp only [h0', h0, hbn, hp, decide_true, decide_false, Bool.false_eq_true, if_true, if_false, or_self, and_false]
      exact ih (i + 1) f _ _ (by omega) (by omega)
   ·have h0' : decide (worstL (tab2 T (d : Int)) (ballM l (x : Int)) 0 ≥ 0) = false := decide_eq_false h0
    simp only [h0', h0, decide_false, Bool.false_eq_true, if_false, false_and]
    exact ih (i + 1) f _ _ (by omega) (by omega)
theorem gameReply_lim (d) (r) (h : G_reply d = some r) : ∃ N, F_impl_copGame_reply N d = some r := by
 obtain ⟨⟨⟨l, v⟩, cf, mv, T, u⟩, c, x, _⟩ := d
 unfold G_reply at h
 split at h
 ·rename_i hc
  simp only [Bool.and_eq_true, decide_eq_true_eq] at hc
  obtain ⟨⟨⟨⟨hcg, hri⟩, hme⟩, hx'⟩, hpos⟩ := hc
  obtain ⟨h1, h2, h3, h4⟩ := cgB_parts hcg
  obtain ⟨g1, g2, g3, g4⟩ := gmB_parts h3
  obtain ⟨x, rfl, hx⟩ := nodeX hx'
  have h := Option.some.inj h
  subst h
  have hri : riseB cf = true := hri
  have hme : memB cf c = true := hme
  have hok : okLL cf = true := okLL_small (by omega) (List.all_eq_true.2 fun y hy => decide_eq_true (by
   obtain ⟨i, hi, rfl⟩ := List.getElem_of_mem hy
   have := (g3 i hi).1
   have e : at_ K_Si cf i = cf[i] := at_get (e := K_Si) hi
   rw [e] at this
   omega))
  have hpl := place_some g1 hok (riseB_iff.1 hri) (memB_iff.1 hme) (l, v) mv T u ()
  obtain ⟨p, p1, p2, p3⟩ := place_at (memB_iff.1 hme)
  have hpos : 0 ≤ bestG cf mv (ballM l) T (placeL cf c) (x : Int) := hpos
  have i1 : idxIn (p : Int) mv.length = true := idxIn_nat (by omega)
  obtain ⟨m1, m2, m3⟩ := g4 p p1
  have hl := gr_l0 1010 hcg x hx (at_ K_Si mv p) m1 m3 (at_ K_Si mv p).length 0 1010 (-1) 0 (by omega) (by omega)
  simp only [Int.natCast_zero, List.drop_zero] at hl
  have hbe : bestP (fun d => afterG cf (ballM l) T d (x : Int)) (at_ K_Si mv p) (-1) 0 = bestG cf mv (ballM l) T (p : Int) (x : Int) := by
   unfold bestG
   rw [Int.toNat_natCast, m2]
  rw [hbe] at hl
  rw [p2] at hpos
  have hbm : bestG cf mv (ballM l) T (p : Int) (x : Int) ∈ at_ K_Si mv p := by
   rw [← hbe] at hpos ⊢
   rcases bestP_mem (fun d => afterG cf (ballM l) T d (x : Int)) (at_ K_Si mv p) (-1) 0 with h | h
   ·rw [h] at hpos; omega
   ·exact h
  obtain ⟨b, eb, hb⟩ := nodeX (m3 _ hbm)
  refine ⟨1010, ?_⟩
  unfold F_impl_copGame_reply
  simp only [hpl, Option.bind_some, p2, i1, if_true, Int.toNat_natCast, hl, eb, idxIn_nat hb]
  rw [at_getDS hb]
 ·cases h
structure TimI (cf mv : List (List Int)) (ball : Int → List Int) (n : Nat) (T : Tab) : Prop where
 caught : ∀ c x : Nat, c < cf.length → x < n → hasL (cf.getD c []) (x : Int) = true → tab2 T (c : Int) (x : Int) = 0
 some : ∀ c x : Nat, c < cf.length → x < n → 0 ≤ tab2 T (c : Int) (x : Int) → hasL (cf.getD c []) (x : Int) = true ∨ (1 ≤ tab2 T (c : Int) (x : Int) ∧ ∃ d ∈ mv.getD c [], 0 ≤ afterG cf ball T d (x : Int))
theorem afterG_keep {cf mv : List (List Int)} {ball : Int → List Int} {n : Nat} (hb : ∀ x : Nat, x < n → ∀ z ∈ ball (x : Int), ∃ y : Nat, y < n ∧ z = (y : Int)) {t : Int} {T : Tab} {d x : Nat} (hd : d < cf.length) (hx : x < n) (h : 0 ≤ afterG cf ball T (d : Int) (x : Int)) : 0 ≤ afterG cf ball (stepG cf mv ball n t T) (d : Int) (x : Int) := by
 unfold afterG at h ⊢
 split
 ·omega
 ·rename_i hh
  rw [if_neg hh] at h
  have e : worstL (tab2 (stepG cf mv ball n t T) (d : Int)) (ball (x : Int)) 0 = worstL (tab2 T (d : Int)) (ball (x : Int)) 0 := by
   rcases worst_spec (tab2 T (d : Int)) (ball (x : Int)) 0 with ⟨_, h2⟩ | ⟨hall, _, _⟩
   ·omega
   ·refine worst_congr fun z hz => ?_
    obtain ⟨y, hy, rfl⟩ := hb x hx z hz
    have := hall (y : Int) hz
    rw [stepG_at hd hy, if_neg fun hcan => ?_]
    unfold canG at hcan
    simp only [Bool.and_eq_true, decide_eq_true_eq] at hcan
    omega
  rw [e]
  exact h
theorem timI_step {cf mv : List (List Int)} {ball : Int → List Int} {n : Nat} (hg : gmB n cf mv = true) (hb : ∀ x : Nat, x < n → ∀ z ∈ ball (x : Int), ∃ y : Nat, y < n ∧ z = (y : Int)) {t : Int} (ht : 1 ≤ t) {T : Tab} (hI : TimI cf mv ball n T) : TimI cf mv ball n (stepG cf mv ball n t T) := by
 obtain ⟨g1, g2, g3, g4⟩ := gmB_parts hg
 refine ⟨fun c x hc hx hh => ?_, fun c x hc hx h0 => ?_⟩
 ·have h1 := hI.caught c x hc hx hh
  rw [stepG_at hc hx, if_neg fun hcan => ?_]
  ·exact h1
  ·unfold canG at hcan
   simp only [Bool.and_eq_true, decide_eq_true_eq] at hcan
   omega
 ·obtain ⟨m1, m2, m3⟩ := g4 c hc
  by_cases hcan : canG cf mv ball T c x = true
  ·right
   rw [stepG_at hc hx, if_pos hcan]
   refine ⟨ht, ?_⟩
   unfold canG at hcan
   rw [Bool.and_eq_true] at hcan
   obtain ⟨d, hd, h2⟩ := List.any_eq_true.1 hcan.2
   have hdm := m3 d (by rw [← m2]; exact hd)
   obtain ⟨e, rfl, he⟩ := nodeX hdm
   exact ⟨(e : Int), hd, afterG_keep hb he hx (of_decide_eq_true h2)⟩
  ·rw [stepG_at hc hx, if_neg hcan] at h0 ⊢
   rcases hI.some c x hc hx h0 with h1 | ⟨h1, d, hd, h2⟩
   ·exact .inl h1
   ·have hdm := m3 d (by rw [← m2]; exact hd)
    obtain ⟨e, rfl, he⟩ := nodeX hdm
    exact .inr ⟨h1, (e : Int), hd, afterG_keep hb he hx h2⟩
theorem timI_start (cf mv : List (List Int)) (ball : Int → List Int) (n : Nat) : TimI cf mv ball n (startG cf n) := by
 have e : ∀ c x : Nat, c < cf.length → x < n → tab2 (startG cf n) (c : Int) (x : Int) = if hasL (cf.getD c []) (x : Int) = true then 0 else -1 := fun c x hc hx => tab2_tabM _ hc hx
 refine ⟨fun c x hc hx hh => ?_, fun c x hc hx h0 => ?_⟩
 ·rw [e c x hc hx, if_pos hh]
 ·rw [e c x hc hx] at h0
  by_cases hh : hasL (cf.getD c []) (x : Int) = true
  ·exact .inl hh
  ·rw [if_neg hh] at h0
   omega
theorem gameT_end {cf mv : List (List Int)} {ball : Int → List Int} {n : Nat} (hg : gmB n cf mv = true) (hb : ∀ x : Nat, x < n → ∀ z ∈ ball (x : Int), ∃ y : Nat, y < n ∧ z = (y : Int)) : ∀ (k : Nat) (t : Int) (T : Tab), 1 ≤ t → negsM cf.length n T < k → TimI cf mv ball n T → TimI cf mv ball n (gameT cf mv ball n k t T) ∧ anyG cf mv ball n (gameT cf mv ball n k t T) = false := by
 intro k
 induction k with
 | zero => intro t T _ h; omega
 | succ k ih =>
  intro t T ht hn hI
  unfold gameT
  by_cases ha : anyG cf mv ball n T = true
  ·rw [if_pos ha]
   have := negsM_step (t := t) (by omega) ha
   exact ih (t + 1) _ (by omega) (by omega) (timI_step hg hb ht hI)
  ·rw [if_neg ha]
   exact ⟨hI, (Bool.not_eq_true _).mp ha⟩
theorem best_iff {cf mv : List (List Int)} {ball : Int → List Int} {n : Nat} (hn : n ≤ 8) (hg : gmB n cf mv = true) (hb : ∀ x : Nat, x < n → ∀ z ∈ ball (x : Int), ∃ y : Nat, y < n ∧ z = (y : Int)) {c x : Nat} (hc : c < cf.length) (hx : x < n) (hh : hasL (cf.getD c []) (x : Int) = false) :
  (0 ≤ bestG cf mv ball (timesG cf mv ball n) (c : Int) (x : Int) ↔ 0 ≤ tab2 (timesG cf mv ball n) (c : Int) (x : Int)) ∧ (0 ≤ tab2 (timesG cf mv ball n) (c : Int) (x : Int) ↔ 1 ≤ tab2 (timesG cf mv ball n) (c : Int) (x : Int)) := by
 obtain ⟨g1, g2, g3, g4⟩ := gmB_parts hg
 obtain ⟨m1, m2, m3⟩ := g4 c hc
 have hneg := negsM_le cf.length n (startG cf n)
 have hmul : cf.length * n ≤ 120 * 8 := Nat.mul_le_mul g1 hn
 obtain ⟨hI, hno⟩ := gameT_end hg hb 1000 1 (startG cf n) (by omega) (by omega) (timI_start cf mv ball n)
 have hI : TimI cf mv ball n (timesG cf mv ball n) := hI
 have hno : anyG cf mv ball n (timesG cf mv ball n) = false := hno
 have hall : ∀ d ∈ mv.getD c [], 0 ≤ d := fun d hd => by
  rw [m2] at hd
  exact (inB_iff.1 (m3 d hd)).1
 constructor
 ·unfold bestG
  rw [Int.toNat_natCast, bestP_pos _ _ _ _ hall]
  constructor
  ·rintro (h | ⟨d, hd, h⟩)
   ·omega
   ·rcases Int.lt_or_le (tab2 (timesG cf mv ball n) (c : Int) (x : Int)) 0 with h0 | h0
    ·have hcan : canG cf mv ball (timesG cf mv ball n) c x = true := by
      unfold canG
      rw [Bool.and_eq_true]
      exact ⟨decide_eq_true h0, List.any_eq_true.2 ⟨d, hd, decide_eq_true h⟩⟩
     have := anyG_spec.2 ⟨c, x, hc, hx, hcan⟩
     rw [hno] at this
     cases this
    ·exact h0
  ·intro h0
   rcases hI.some c x hc hx h0 with h1 | ⟨h1, d, hd, h2⟩
   ·rw [hh] at h1; cases h1
   ·exact .inr ⟨d, hd, h2⟩
 ·constructor
  ·intro h0
   rcases hI.some c x hc hx h0 with h1 | ⟨h1, _⟩
   ·rw [hh] at h1; cases h1
   ·exact h1
  ·intro h; omega
theorem times_caught {cf mv : List (List Int)} {ball : Int → List Int} {n : Nat} (hn : n ≤ 8) (hg : gmB n cf mv = true) (hb : ∀ x : Nat, x < n → ∀ z ∈ ball (x : Int), ∃ y : Nat, y < n ∧ z = (y : Int)) {c x : Nat} (hc : c < cf.length) (hx : x < n) (hh : hasL (cf.getD c []) (x : Int) = true) : tab2 (timesG cf mv ball n) (c : Int) (x : Int) = 0 := by
 obtain ⟨g1, g2, g3, g4⟩ := gmB_parts hg
 have hneg := negsM_le cf.length n (startG cf n)
 have hmul : cf.length * n ≤ 120 * 8 := Nat.mul_le_mul g1 hn
 obtain ⟨hI, hno⟩ := gameT_end hg hb 1000 1 (startG cf n) (by omega) (by omega) (timI_start cf mv ball n)
 exact hI.caught c x hc hx hh
def replyB (g : Gr) (c : List Int) (x : Int) : List Int × Bool × Unit :=
 if (meetB g c && inB 0 (g.1 - 1) x && !hasL c x && decide (0 ≤ bestG (cfG g c.length) (mvG g c.length) (ballF g.1.toNat g.2.1) (tmG g c.length) (placeL (cfG g c.length) c) x)) = true then ((cfG g c.length).getD (bestG (cfG g c.length) (mvG g c.length) (ballF g.1.toNat g.2.1) (tmG g c.length) (placeL (cfG g c.length) c) x).toNat [], true, ()) else ([], false, ())
theorem best_congr {cf mv : List (List Int)} {b1 b2 : Int → List Int} {T : Tab} {c x : Int} (h : b1 x = b2 x) : bestG cf mv b1 T c x = bestG cf mv b2 T c x := by
 unfold bestG
 congr 1
 funext d
 exact after_congr h
theorem best_rng {n : Nat} {cf mv : List (List Int)} (hg : gmB n cf mv = true) {ball : Int → List Int} {T : Tab} {c : Nat} (hc : c < cf.length) {x : Int} (h : 0 ≤ bestG cf mv ball T (c : Int) x) : ∃ b : Nat, bestG cf mv ball T (c : Int) x = (b : Int) ∧ b < cf.length := by
 obtain ⟨g1, g2, g3, g4⟩ := gmB_parts hg
 obtain ⟨m1, m2, m3⟩ := g4 c hc
 unfold bestG at h ⊢
 rw [Int.toNat_natCast, m2] at h ⊢
 rcases bestP_mem (fun d => afterG cf ball T d x) (at_ K_Si mv c) (-1) 0 with h1 | h1
 ·rw [h1] at h; omega
 ·exact nodeX (m3 _ h1)
theorem best_spec_some {m q : Nat} {es : List E} {v : Unit} (hg : graphB ((m : Int), es, v) = true) (ho : okL es = true) (hm : m ≤ 8) (hq : q ≤ 3) {p : Nat} (hp : p < (cfG ((m : Int), es, v) q).length) {x : Nat} (hx : x < m) (u : Unit) :
  G_l4Best ((cfG ((m : Int), es, v) q, mvG ((m : Int), es, v) q, ballsL m es, ()), tmG ((m : Int), es, v) q, (p : Int), (x : Int), u) = some (bestG (cfG ((m : Int), es, v) q) (mvG ((m : Int), es, v) q) (ballF m es) (tmG ((m : Int), es, v) q) (p : Int) (x : Int), ()) := by
 obtain ⟨_, _, h3, h4⟩ := game_spec (v := v) hg ho hq () ()
 have h2 := tm_rc ((m : Int), es, v) q
 simp only [Int.toNat_natCast] at h2
 have a1 : inB 0 (((cfG ((m : Int), es, v) q).length : Int) - 1) (p : Int) = true := inB_iff.2 (by omega)
 have a2 : inB 0 ((m : Int) - 1) (x : Int) = true := inB_iff.2 (by omega)
 rw [ballsL_len] at h3
 unfold G_l4Best
 simp only [h4, ballsL_len, h2, h3, a1, a2, Bool.and_self, if_true]
 rw [best_congr (ballA_L es hx)]
theorem conf_own {m q : Nat} {es : List E} {v : Unit} (hq : q ≤ 3) {p : Nat} (hp : p < (cfG ((m : Int), es, v) q).length) : (at_ K_Si (cfG ((m : Int), es, v) q) p).length ≤ 3 ∧ (cfG ((m : Int), es, v) q).getD p [] ∈ cfG ((m : Int), es, v) q ∧ at_ K_Si (cfG ((m : Int), es, v) q) p = (cfG ((m : Int), es, v) q).getD p [] := by
 have hm : at_ K_Si (cfG ((m : Int), es, v) q) p ∈ cfG ((m : Int), es, v) q := by
  have e : at_ K_Si (cfG ((m : Int), es, v) q) p = (cfG ((m : Int), es, v) q)[p] := at_get (e := K_Si) hp
  rw [e]
  exact List.getElem_mem hp
 refine ⟨by rw [confL_len hm]; exact hq, ?_, at_getDS hp⟩
 rw [← at_getDS hp]
 exact hm
theorem specCR {n : Int} {es : List E} {v : Unit} (ho : okL es = true) {c : List Int} (hc : okL c = true) (x : Int) (u : Unit) : F_spec_CopReply 0 ((n, es, v), c, x, u) = some (replyB (n, es, v) c x) := by
 unfold F_spec_CopReply replyB
 simp only [specMeet ho hc, Option.bind_some]
 cases h : meetB (n, es, v) c && inB 0 (n - 1) x && !hasL c x with
 | false => simp only [Bool.not_false, if_true, Bool.false_and, Bool.false_eq_true, if_false]
 | true =>
  simp only [Bool.and_eq_true] at h
  obtain ⟨hg, m, rfl, m1, m8, c1, c3, hcb, hcm⟩ := meet_parts h.1.1
  obtain ⟨x, rfl, hx⟩ := nodeX h.1.2
  obtain ⟨h1, h2, h3, _⟩ := game_spec (v := v) hg ho c3 () ()
  obtain ⟨p, p1, p2, p3⟩ := place_at hcm
  simp only [Bool.not_true, Bool.false_eq_true, if_false, h1, h2, Option.bind_some, place_spec m8 c3, p2, best_spec_some hg ho m8 c3 p1 hx, Int.toNat_natCast, Bool.true_and]
  by_cases hb : 0 ≤ bestG (cfG ((m : Int), es, v) c.length) (mvG ((m : Int), es, v) c.length) (ballF m es) (tmG ((m : Int), es, v) c.length) (p : Int) (x : Int)
  ·obtain ⟨b, eb, hbl⟩ := best_rng h3 p1 hb
   obtain ⟨o1, o2, o3⟩ := conf_own c3 hbl
   have hown := own_some _ (show (at_ K_Si (cfG ((m : Int), es, v) c.length) b).length ≤ 1000 by omega)
   rw [o3] at hown
   have hn : decide (((b : Nat) : Int) < 0) = false := decide_eq_false (by omega)
   have hn2 : decide (0 ≤ ((b : Nat) : Int)) = true := decide_eq_true (by omega)
   simp only [eb, hn, hn2, Bool.false_eq_true, if_false, idxIn_nat hbl, if_true, Int.toNat_natCast, o3, hown, Option.bind_some]
  ·have hn : decide (bestG (cfG ((m : Int), es, v) c.length) (mvG ((m : Int), es, v) c.length) (ballF m es) (tmG ((m : Int), es, v) c.length) (p : Int) (x : Int) < 0) = true := decide_eq_true (by omega)
   have hn2 : decide (0 ≤ bestG (cfG ((m : Int), es, v) c.length) (mvG ((m : Int), es, v) c.length) (ballF m es) (tmG ((m : Int), es, v) c.length) (p : Int) (x : Int)) = false := decide_eq_false hb
   simp only [hn, hn2, if_true, Bool.false_eq_true, if_false]
theorem board_fits {m q : Nat} {es : List E} {v : Unit} (hm : m ≤ 8) (hq : q ≤ 3) : gmB m (cfG ((m : Int), es, v) q) (mvG ((m : Int), es, v) q) = true := by
 unfold mvG cfG
 simp only [Int.toNat_natCast]
 exact board_ok hm hq (fun x _ => by have := ballF_len m es (x : Int); omega) (fun x _ => ballF_in es (x : Int))
theorem reply_impl {m q : Nat} {es : List E} {v : Unit} (hg : graphB ((m : Int), es, v) = true) (ho : okL es = true) (h1 : 1 ≤ m) (hm : m ≤ 8) (hq : q ≤ 3) {c : List Int} (hc : c ∈ cfG ((m : Int), es, v) q) {x : Nat} (hx : x < m) (hb : 0 ≤ bestG (cfG ((m : Int), es, v) q) (mvG ((m : Int), es, v) q) (ballF m es) (tmG ((m : Int), es, v) q) (placeL (cfG ((m : Int), es, v) q) c) (x : Int)) (u : Unit) :
  G_reply (((toI (netN m es), ()), cfG ((m : Int), es, v) q, mvG ((m : Int), es, v) q, tmG ((m : Int), es, v) q, ()), c, (x : Int), u) = some ((cfG ((m : Int), es, v) q).getD (bestG (cfG ((m : Int), es, v) q) (mvG ((m : Int), es, v) q) (ballF m es) (tmG ((m : Int), es, v) q) (placeL (cfG ((m : Int), es, v) q) c) (x : Int)).toNat [], ()) := by
 obtain ⟨_, hcg⟩ := game_impl (v := v) hg ho h1 hq ()
 obtain ⟨g1, _⟩ := graphB_edges hg
 obtain ⟨n1, n2⟩ := netB_net hm g1
 have a1 : riseB (cfG ((m : Int), es, v) q) = true := riseB_iff.2 (confL_rise _ _)
 have a2 : memB (cfG ((m : Int), es, v) q) c = true := memB_iff.2 hc
 have a3 : inB 0 ((m : Int) - 1) (x : Int) = true := inB_iff.2 (by omega)
 unfold G_reply
 simp only [hcg, a1, a2, n2, a3, best_congr (ball_same hm g1 hx), hb, decide_true, Bool.and_self, if_true]
theorem implCR {n : Int} {es : List E} {v : Unit} (ho : okL es = true) {c : List Int} (hc : okL c = true) (x : Int) (u : Unit) : F_impl_CopReply 0 ((n, es, v), c, x, u) = some (replyB (n, es, v) c x) := by
 unfold F_impl_CopReply replyB
 simp only [implAre ho hc, Option.bind_some, has_nodes n es v () [x] ho (okL_of (by simp))]
 cases hme : meetB (n, es, v) c with
 | false => simp only [Bool.not_false, if_true, Bool.false_and, Bool.false_eq_true, if_false]
 | true =>
  obtain ⟨hg, m, rfl, m1, m8, c1, c3, hcb, hcm⟩ := meet_parts hme
  simp only [Bool.not_true, Bool.false_eq_true, if_false, hg, List.all_cons, List.all_nil, Bool.and_true, Bool.true_and]
  cases hxb : inB 0 ((m : Int) - 1) x with
  | false => simp only [Bool.not_false, if_true, Bool.false_and, Bool.false_eq_true, if_false]
  | true =>
   obtain ⟨x, rfl, hx⟩ := nodeX hxb
   obtain ⟨h1, _⟩ := game_impl (v := v) hg ho m1 c3 ()
   obtain ⟨p, p1, p2, p3⟩ := place_at hcm
   have hrc := tm_rc ((m : Int), es, v) c.length
   simp only [Int.toNat_natCast] at hrc
   obtain ⟨t1, t2⟩ := rcB_parts hrc
   have hlt : p < (tmG ((m : Int), es, v) c.length).length := by omega
   have i1 : idxIn (p : Int) (tmG ((m : Int), es, v) c.length).length = true := idxIn_nat hlt
   have i2 : idxIn (x : Int) (at_ K_Si (tmG ((m : Int), es, v) c.length) p).length = true := idxIn_nat (by rw [t2 p p1]; exact hx)
   have hfit := board_fits (v := v) (es := es) m8 c3
   have hbf : ∀ x : Nat, x < m → ∀ z ∈ ballF m es (x : Int), ∃ y : Nat, y < m ∧ z = (y : Int) := fun x hx => ballF_ok m es x hx
   have etm : tmG ((m : Int), es, v) c.length = timesG (cfG ((m : Int), es, v) c.length) (mvG ((m : Int), es, v) c.length) (ballF m es) m := by
    unfold tmG
    simp only [Int.toNat_natCast]
   simp only [Bool.not_true, Bool.false_eq_true, if_false, net_some hg ho, Option.bind_some, h1, place_impl m8 c3 hcm, p2, i1, i2, if_true, Int.toNat_natCast, tab2_rc hrc p1 hx]
   cases hh : hasL c (x : Int) with
   | true =>
    have h0 := times_caught m8 hfit hbf p1 hx (by rw [p3]; exact hh)
    rw [← etm] at h0
    have : decide (tab2 (tmG ((m : Int), es, v) c.length) (p : Int) (x : Int) < 1) = true := decide_eq_true (by omega)
    simp only [this, if_true, Bool.not_true, Bool.and_false, Bool.false_and, Bool.false_eq_true, if_false]
   | false =>
    obtain ⟨k1, k2⟩ := best_iff m8 hfit hbf p1 hx (by rw [p3]; exact hh)
    rw [← etm] at k1 k2
    simp only [Bool.not_false, Bool.true_and]
    by_cases hb : 0 ≤ bestG (cfG ((m : Int), es, v) c.length) (mvG ((m : Int), es, v) c.length) (ballF m es) (tmG ((m : Int), es, v) c.length) (p : Int) (x : Int)
    ·have hge := k2.1 (k1.1 hb)
     have hd : decide (tab2 (tmG ((m : Int), es, v) c.length) (p : Int) (x : Int) < 1) = false := decide_eq_false (by omega)
     obtain ⟨b, eb, hbl⟩ := best_rng hfit p1 hb
     obtain ⟨o1, o2, o3⟩ := conf_own c3 hbl
     have hre := reply_impl (v := v) hg ho m1 m8 c3 hcm hx (by rw [p2]; exact hb) ()
     rw [p2] at hre
     have hok : okL ((cfG ((m : Int), es, v) c.length).getD b []) = true := by
      rw [← o3]
      exact okL_of (by omega)
     rw [eb] at hre
     have hb2 : (0 : Int) ≤ (b : Int) := by omega
     simp only [hd, hb, hb2, decide_true, if_true, Bool.false_eq_true, if_false, hre, Option.bind_some, eb, Int.toNat_natCast, G_toIntS, hok]
    ·have hlt : ¬ 0 ≤ tab2 (tmG ((m : Int), es, v) c.length) (p : Int) (x : Int) := fun h => hb (k1.2 h)
     have hd : decide (tab2 (tmG ((m : Int), es, v) c.length) (p : Int) (x : Int) < 1) = true := decide_eq_true (by omega)
     simp only [hd, hb, decide_false, if_true, Bool.false_eq_true, if_false]
theorem reply_small {g : Gr} {c : List Int} {x : Int} : (replyB g c x).1.length ≤ 3 := by
 unfold replyB
 split
 ·rename_i hb
  simp only [Bool.and_eq_true] at hb
  obtain ⟨n, es, v⟩ := g
  obtain ⟨hg, m, rfl, m1, m8, c1, c3, hcb, hcm⟩ := meet_parts hb.1.1.1
  simp only
  rw [List.getD_eq_getElem?_getD]
  cases hi : (cfG ((m : Int), es, v) c.length)[(bestG (cfG ((m : Int), es, v) c.length) (mvG ((m : Int), es, v) c.length) (ballF (m : Int).toNat es) (tmG ((m : Int), es, v) c.length) (placeL (cfG ((m : Int), es, v) c.length) c) x).toNat]? with
  | none => simp
  | some r =>
   have := confL_len (List.mem_of_getElem? hi)
   simp only [Option.getD_some]
   omega
 ·simp
theorem law47 : ∀ d, WfD (Kd.tuple ([(K_PiSPiiqq, false), (K_Si, false), (I, false)].map (·.1))) d → ∃ out, F_laws_FnExactCopReply 0 d = some out ∧ (splitT [.bool] [] out).1.1 = true := by
 rintro ⟨⟨n, es, v⟩, t, x, w⟩ ⟨⟨_, he, _⟩, ht, _⟩
 have he : es.length ≤ maxLen := he.1
 refine ⟨(true, ()), ?_, rfl⟩
 unfold F_laws_FnExactCopReply
 by_cases hb : (t.length : Int) > 1048576
 ·simp only [hb, decide_true, if_true]
 have hs : okL t = true := okL_of (by omega)
 simp only [hb, decide_false, Bool.false_eq_true, if_false, szGraph_eq n es v 1048576 () (by omega) (by omega) he]
 by_cases h : szStep 1048576 es.length < 0
 ·simp only [h, decide_true, if_true]
 ·have h1 := szStep_le h
  have ho := okL_of (l := es) (by omega)
  have hlen := reply_small (g := (n, es, ())) (c := t) (x := x)
  have ho2 : okL (replyB (n, es, ()) t x).1 = true := okL_of (by omega)
  have hm1 := markGraph_eq n es () () 1 ho (by decide)
  have hk : okK 1 = true := by decide
  have hk0 : okK (1 + 2 * (es.length : Int)) = true := okK_small (by omega) (by omega)
  have hk1 : decide ((1 : Int) + 2 * (es.length : Int) < 0) = false := decide_eq_false (by omega)
  have hk3 : decide ((1 : Int) + 2 * (es.length : Int) + (t.length : Int) < 0) = false := decide_eq_false (by omega)
  have hk2 : decide ((1 : Int) + ((replyB (n, es, ()) t x).1.length : Int) < 0) = false := decide_eq_false (by omega)
  simp only [h, decide_false, Bool.false_eq_true, if_false, toGraph_eq n es v _ ho, G_toIntS, G_eqIntS, hs, specCR ho hs, implCR ho hs, ho2, eqGraph_self n es () () _ ho, Option.bind_some, hm1, hk0, hk1, hk3, G_markIntS, G_heldIntS, hk, Bool.and_self, markL_ok ho2, held_markL, hk2, beq_self_eq_true, bne_self_eq_false, Bool.not_true, if_true, decide_true]
end Go.V.W
set_option linter.unusedVariables false
set_option linter.unusedSimpArgs false
namespace Go.V.W
open Go.Proofs
structure PlayI (m q : Nat) (es : List E) (v : Unit) : Prop where
 hg : graphB ((m : Int), es, v) = true
 ho : okL es = true
 m1 : 1 ≤ m
 m8 : m ≤ 8
 q3 : q ≤ 3
end Go.V.W
set_option linter.unusedVariables false
set_option linter.unusedSimpArgs false
namespace Go.V.W
structure Inv3 (p n : Nat) (ball : Nat → Int → List Int) (f : Nat → Nat → Nat → Int) : Prop where
 low : ∀ r c q, -1 ≤ f r c q
 home : ∀ r c, f r c c = 0
 away : ∀ r c q, c ≠ q → f r c q ≠ 0
 why : ∀ r c q, r < p → c < n → q < n → 0 ≤ f r c q → c = q ∨ ∃ b ∈ ball r (c : Int), 0 ≤ afterT (ball r) (tabL n (f ((r + 1) % p))) b (q : Int)
theorem Inv3.start (p n : Nat) (ball : Nat → Int → List Int) : Inv3 p n ball start3 := by
 refine ⟨fun r c q => ?_, fun r c => ?_, fun r c q h => ?_, fun r c q _ _ _ h => ?_⟩
 ·unfold start3 startF; split <;> omega
 ·unfold start3 startF; simp
 ·unfold start3 startF; rw [if_neg h]; omega
 ·unfold start3 startF at h
  by_cases e : c = q
  ·exact .inl e
  ·rw [if_neg e] at h; omega
def okBalls (p n : Nat) (ball : Nat → Int → List Int) : Prop := ∀ r, r < p → okBall n (ball r)
theorem after_mono {n : Nat} {ball : Int → List Int} (hb : okBall n ball) {f g : Nat → Nat → Int} (h : ∀ c q, 0 ≤ f c q → 0 ≤ g c q) {b q : Nat} (hbn : b < n) (hq : q < n) (h0 : 0 ≤ afterT ball (tabL n f) (b : Int) (q : Int)) : 0 ≤ afterT ball (tabL n g) (b : Int) (q : Int) := by
 unfold afterT at h0 ⊢
 by_cases e : (b : Int) = (q : Int)
 ·rw [if_pos e]; exact Int.le_refl _
 ·rw [if_neg e] at h0 ⊢
  rcases worst_spec (tab2 (tabL n f) (b : Int)) (ball (q : Int)) 0 with ⟨_, h1⟩ | ⟨h1, _, _⟩
  ·omega
  ·rcases worst_spec (tab2 (tabL n g) (b : Int)) (ball (q : Int)) 0 with ⟨⟨x, hx, h2⟩, _⟩ | ⟨_, h2, _⟩
   ·exfalso
    obtain ⟨y, hy, rfl⟩ := hb q hq x hx
    have := (h1 _ hx).1
    rw [tab2_tabL _ hbn hy] at this h2
    have := h _ _ this
    omega
   ·exact h2
theorem Inv3.next {p n : Nat} {ball : Nat → Int → List Int} (hb : okBalls p n ball) {t : Int} (ht : 1 ≤ t) {f : Nat → Nat → Nat → Int} (hI : Inv3 p n ball f) : Inv3 p n ball (step3 p n ball t f) := by
 have hkeep : ∀ r c q, 0 ≤ f r c q → step3 p n ball t f r c q = f r c q := fun r c q h => by
  unfold step3 can3
  have : decide (f r c q < 0) = false := by simp; omega
  simp [this]
 have hge : ∀ r c q, 0 ≤ f r c q → 0 ≤ step3 p n ball t f r c q := fun r c q h => by rw [hkeep r c q h]; exact h
 refine ⟨fun r c q => ?_, fun r c => ?_, fun r c q h => ?_, fun r c q hr hc hq h => ?_⟩
 ·unfold step3; split
  ·omega
  ·exact hI.low r c q
 ·rw [hkeep r c c (by rw [hI.home]; exact Int.le_refl _)]; exact hI.home r c
 ·unfold step3; split
  ·omega
  ·exact hI.away r c q h
 ·have key : (∃ b ∈ ball r (c : Int), 0 ≤ afterT (ball r) (tabL n (f ((r + 1) % p))) b (q : Int)) → ∃ b ∈ ball r (c : Int), 0 ≤ afterT (ball r) (tabL n (step3 p n ball t f ((r + 1) % p))) b (q : Int) := by
   rintro ⟨b, hbm, h1⟩
   obtain ⟨y, hy, rfl⟩ := hb r hr c hc b hbm
   exact ⟨_, hbm, after_mono (hb r hr) (hge _) hy hq h1⟩
  by_cases hf : 0 ≤ f r c q
  ·exact (hI.why r c q hr hc hq hf).imp _root_.id key
  ·right
   have hcan : can3 p n ball f r c q = true := by
    cases hcan : can3 p n ball f r c q with
    | true => rfl
    | false => unfold step3 at h; rw [if_neg (by rw [hcan]; simp)] at h; exact absurd h hf
   unfold can3 at hcan
   simp only [Bool.and_eq_true, List.any_eq_true, decide_eq_true_eq] at hcan
   exact key hcan.2
end Go.V.W
set_option linter.unusedVariables false
set_option linter.unusedSimpArgs false
namespace Go.V.W
open Go.Proofs
structure TT (nets : List Nt) (p n : Nat) : Prop where
 ok : netsB n nets = true
 len : nets.length = p
 n8 : n ≤ 8
end Go.V.W
set_option linter.unusedVariables false
set_option linter.unusedSimpArgs false
namespace Go.V.W
open Go.Proofs
structure LogIs (d p : List UInt8) (c : Int) : Prop where
 size : d.length + p.length ≤ 30000
 all : (openL 60 0 (d ++ p)).2 = (d ++ p).length
 durable : (openL 60 0 d).2 = d.length
 count : ((openL 60 0 (d ++ p)).1.length : Int) = c
end Go.V.W
namespace Go.V.W
open Go.Proofs Go.Shelf Go.RowKit
-- import Derived.Shelf.Lays
-- import Derived.Shelf.LaysM
-- import Derived.Test.XvLib3
-- import Derived.Shelf.SortM.Plain
-- import Derived.Shelf.SortM.SortNone
-- import Derived.Shelf.SlSortCmp.NoneTotal
def layg5_ren : Go.Shelf.Ren :=
{
  f := fun x =>
    match x with
    | 5 => 121
    | 8 => 133
    | 7 => 132
    | 19 => 147
    | 20 => 148
    | 10 => 139
    | 11 => 140
    | 12 => 141
    | 13 => 142
    | 14 => 143
    | 15 => 144
    | 16 => 129
    | 17 => 145
    | 18 => 146
    | 30 => 157
    | 31 => 158
    | 32 => 159
    | 33 => 160
    | 34 => 161
    | 35 => 138
    | 40 => 165
    | n => n,
  t := fun x =>
    match x with
    | 23 => 37
    | 25 => 3
    | 3 => 3
    | 32 => 114
    | 22 => 37
    | 0 => 0
    | 44 => 122
    | 46 => 125
    | 4 => 4
    | 36 => 131
    | 35 => 130
    | 41 => 44
    | 5 => 5
    | 9 => 9
    | 53 => 142
    | 57 => 146
    | 63 => 150
    | 64 => 151
    | n => n,
  g := fun x =>
    x }
set_option maxRecDepth 1000000 in
theorem layg5 : Go.Proofs.SlLaysM.n5 Go.Proofs.Tryz.prog layg5_ren :=
{ mixed := by kernel_rfl,
  f5 := ⟨Go.Proofs.Tryz.f121.name, of_decide_eq_true (by kernel_rfl), (Go.Proofs.Tryz.func121).trans (congrArg some (by kernel_rfl))⟩,
  f7 := ⟨Go.Proofs.Tryz.f132.name, of_decide_eq_true (by kernel_rfl), (Go.Proofs.Tryz.func132).trans (congrArg some (by kernel_rfl))⟩,
  f8 := (Go.Proofs.Tryz.func133).trans (congrArg some (by kernel_rfl)),
  f10 := ⟨Go.Proofs.Tryz.f139.name, of_decide_eq_true (by kernel_rfl), (Go.Proofs.Tryz.func139).trans (congrArg some (by kernel_rfl))⟩,
  f11 := ⟨Go.Proofs.Tryz.f140.name, of_decide_eq_true (by kernel_rfl), (Go.Proofs.Tryz.func140).trans (congrArg some (by kernel_rfl))⟩,
  f12 := ⟨Go.Proofs.Tryz.f141.name, of_decide_eq_true (by kernel_rfl), (Go.Proofs.Tryz.func141).trans (congrArg some (by kernel_rfl))⟩,
  f13 := ⟨Go.Proofs.Tryz.f142.name, of_decide_eq_true (by kernel_rfl), (Go.Proofs.Tryz.func142).trans (congrArg some (by kernel_rfl))⟩,
  f14 := ⟨Go.Proofs.Tryz.f143.name, of_decide_eq_true (by kernel_rfl), (Go.Proofs.Tryz.func143).trans (congrArg some (by kernel_rfl))⟩,
  f15 := ⟨Go.Proofs.Tryz.f144.name, of_decide_eq_true (by kernel_rfl), (Go.Proofs.Tryz.func144).trans (congrArg some (by kernel_rfl))⟩,
  f16 := ⟨Go.Proofs.Tryz.f129.name, of_decide_eq_true (by kernel_rfl), (Go.Proofs.Tryz.func129).trans (congrArg some (by kernel_rfl))⟩,
  f17 := ⟨Go.Proofs.Tryz.f145.name, of_decide_eq_true (by kernel_rfl), (Go.Proofs.Tryz.func145).trans (congrArg some (by kernel_rfl))⟩,
  f18 := ⟨Go.Proofs.Tryz.f146.name, of_decide_eq_true (by kernel_rfl), (Go.Proofs.Tryz.func146).trans (congrArg some (by kernel_rfl))⟩,
  f19 := (Go.Proofs.Tryz.func147).trans (congrArg some (by kernel_rfl)),
  f20 := (Go.Proofs.Tryz.func148).trans (congrArg some (by kernel_rfl)),
  f30 := ⟨Go.Proofs.Tryz.f157.name, of_decide_eq_true (by kernel_rfl), (Go.Proofs.Tryz.func157).trans (congrArg some (by kernel_rfl))⟩,
  f31 := (Go.Proofs.Tryz.func158).trans (congrArg some (by kernel_rfl)),
  f32 := (Go.Proofs.Tryz.func159).trans (congrArg some (by kernel_rfl)),
  f33 := ⟨Go.Proofs.Tryz.f160.name, of_decide_eq_true (by kernel_rfl), (Go.Proofs.Tryz.func160).trans (congrArg some (by kernel_rfl))⟩,
  f34 := ⟨Go.Proofs.Tryz.f161.name, of_decide_eq_true (by kernel_rfl), (Go.Proofs.Tryz.func161).trans (congrArg some (by kernel_rfl))⟩,
  f35 := ⟨Go.Proofs.Tryz.f138.name, of_decide_eq_true (by kernel_rfl), (Go.Proofs.Tryz.func138).trans (congrArg some (by kernel_rfl))⟩,
  f40 := ⟨Go.Proofs.Tryz.f165.name, of_decide_eq_true (by kernel_rfl), (Go.Proofs.Tryz.func165).trans (congrArg some (by kernel_rfl))⟩,
  t0 := Go.Proofs.Tryz.underlying0,
  a0 := Go.Proofs.Tryz.isAgg0,
  z0 := Go.Proofs.Tryz.sizeOf0,
  v0 := Go.Proofs.Tryz.zeroValue0,
  t3 := Go.Proofs.Tryz.underlying3,
  a3 := Go.Proofs.Tryz.isAgg3,
  z3 := Go.Proofs.Tryz.sizeOf3,
  v3 := Go.Proofs.Tryz.zeroValue3,
  t4 := Go.Proofs.Tryz.underlying4,
  a4 := Go.Proofs.Tryz.isAgg4,
  z4 := Go.Proofs.Tryz.sizeOf4,
  v4 := Go.Proofs.Tryz.zeroValue4,
  t5 := Go.Proofs.Tryz.underlying5,
  a5 := Go.Proofs.Tryz.isAgg5,
  z5 := Go.Proofs.Tryz.sizeOf5,
  v5 := Go.Proofs.Tryz.zeroValue5,
  t9 := Go.Proofs.Tryz.underlying9,
  a9 := Go.Proofs.Tryz.isAgg9,
  z9 := Go.Proofs.Tryz.sizeOf9,
  v9 := Go.Proofs.Tryz.zeroValue9,
  t22 := Go.Proofs.Tryz.underlying37,
  a22 := Go.Proofs.Tryz.isAgg37,
  z22 := Go.Proofs.Tryz.sizeOf37,
  v22 := Go.Proofs.Tryz.zeroValue37,
  t23 := Go.Proofs.Tryz.underlying37,
  a23 := Go.Proofs.Tryz.isAgg37,
  z23 := Go.Proofs.Tryz.sizeOf37,
  v23 := Go.Proofs.Tryz.zeroValue37,
  t25 := Go.Proofs.Tryz.underlying3,
  a25 := Go.Proofs.Tryz.isAgg3,
  z25 := Go.Proofs.Tryz.sizeOf3,
  v25 := Go.Proofs.Tryz.zeroValue3,
  t32 := Go.Proofs.Tryz.underlying114,
  a32 := Go.Proofs.Tryz.isAgg114,
  z32 := Go.Proofs.Tryz.sizeOf114,
  v32 := Go.Proofs.Tryz.zeroValue114,
  t35 := Go.Proofs.Tryz.underlying130,
  a35 := Go.Proofs.Tryz.isAgg130,
  z35 := Go.Proofs.Tryz.sizeOf130,
  v35 := Go.Proofs.Tryz.zeroValue130,
  t36 := Go.Proofs.Tryz.underlying131,
  a36 := Go.Proofs.Tryz.isAgg131,
  z36 := Go.Proofs.Tryz.sizeOf131,
  v36 := Go.Proofs.Tryz.zeroValue131,
  t41 := Go.Proofs.Tryz.underlying44,
  a41 := Go.Proofs.Tryz.isAgg44,
  z41 := Go.Proofs.Tryz.sizeOf44,
  v41 := Go.Proofs.Tryz.zeroValue44,
  t44 := Go.Proofs.Tryz.underlying122,
  a44 := Go.Proofs.Tryz.isAgg122,
  z44 := Go.Proofs.Tryz.sizeOf122,
  v44 := Go.Proofs.Tryz.zeroValue122,
  t46 := Go.Proofs.Tryz.underlying125,
  a46 := Go.Proofs.Tryz.isAgg125,
  z46 := Go.Proofs.Tryz.sizeOf125,
  v46 := Go.Proofs.Tryz.zeroValue125,
  t53 := Go.Proofs.Tryz.underlying142,
  a53 := Go.Proofs.Tryz.isAgg142,
  z53 := Go.Proofs.Tryz.sizeOf142,
  v53 := Go.Proofs.Tryz.zeroValue142,
  t57 := Go.Proofs.Tryz.underlying146,
  a57 := Go.Proofs.Tryz.isAgg146,
  z57 := Go.Proofs.Tryz.sizeOf146,
  v57 := Go.Proofs.Tryz.zeroValue146,
  t63 := Go.Proofs.Tryz.underlying150,
  a63 := Go.Proofs.Tryz.isAgg150,
  z63 := Go.Proofs.Tryz.sizeOf150,
  v63 := Go.Proofs.Tryz.zeroValue150,
  t64 := Go.Proofs.Tryz.underlying151,
  a64 := Go.Proofs.Tryz.isAgg151,
  z64 := Go.Proofs.Tryz.sizeOf151,
  v64 := Go.Proofs.Tryz.zeroValue151 }
def layg6_ren : Go.Shelf.Ren :=
{
  f := fun x =>
    match x with
    | 6 => 122
    | 15 => 133
    | 14 => 134
    | 28 => 147
    | 29 => 148
    | 20 => 149
    | 21 => 150
    | 22 => 151
    | 23 => 152
    | 24 => 153
    | 25 => 154
    | 26 => 155
    | 27 => 156
    | 46 => 162
    | 47 => 158
    | 48 => 159
    | 49 => 163
    | 50 => 164
    | 57 => 166
    | n => n,
  t := fun x =>
    match x with
    | 22 => 25
    | 24 => 37
    | 25 => 105
    | 3 => 3
    | 39 => 114
    | 0 => 0
    | 53 => 122
    | 55 => 125
    | 4 => 4
    | 46 => 131
    | 45 => 130
    | 50 => 44
    | 5 => 5
    | 9 => 9
    | 66 => 142
    | 70 => 146
    | 76 => 150
    | 77 => 151
    | n => n,
  g := fun x =>
    x }
set_option maxRecDepth 1000000 in
theorem layg6 : Go.Proofs.SlLaysF.n6 Go.Proofs.Tryz.prog layg6_ren :=
{ mixed := by kernel_rfl,
  f6 := ⟨Go.Proofs.Tryz.f122.name, of_decide_eq_true (by kernel_rfl), (Go.Proofs.Tryz.func122).trans (congrArg some (by kernel_rfl))⟩,
  f14 := ⟨Go.Proofs.Tryz.f134.name, of_decide_eq_true (by kernel_rfl), (Go.Proofs.Tryz.func134).trans (congrArg some (by kernel_rfl))⟩,
  f15 := (Go.Proofs.Tryz.func133).trans (congrArg some (by kernel_rfl)),
  f20 := ⟨Go.Proofs.Tryz.f149.name, of_decide_eq_true (by kernel_rfl), (Go.Proofs.Tryz.func149).trans (congrArg some (by kernel_rfl))⟩,
  f21 := ⟨Go.Proofs.Tryz.f150.name, of_decide_eq_true (by kernel_rfl), (Go.Proofs.Tryz.func150).trans (congrArg some (by kernel_rfl))⟩,
  f22 := ⟨Go.Proofs.Tryz.f151.name, of_decide_eq_true (by kernel_rfl), (Go.Proofs.Tryz.func151).trans (congrArg some (by kernel_rfl))⟩,
  f23 := ⟨Go.Proofs.Tryz.f152.name, of_decide_eq_true (by kernel_rfl), (Go.Proofs.Tryz.func152).trans (congrArg some (by kernel_rfl))⟩,
  f24 := ⟨Go.Proofs.Tryz.f153.name, of_decide_eq_true (by kernel_rfl), (Go.Proofs.Tryz.func153).trans (congrArg some (by kernel_rfl))⟩,
  f25 := ⟨Go.Proofs.Tryz.f154.name, of_decide_eq_true (by kernel_rfl), (Go.Proofs.Tryz.func154).trans (congrArg some (by kernel_rfl))⟩,
  f26 := ⟨Go.Proofs.Tryz.f155.name, of_decide_eq_true (by kernel_rfl), (Go.Proofs.Tryz.func155).trans (congrArg some (by kernel_rfl))⟩,
  f27 := ⟨Go.Proofs.Tryz.f156.name, of_decide_eq_true (by kernel_rfl), (Go.Proofs.Tryz.func156).trans (congrArg some (by kernel_rfl))⟩,
  f28 := (Go.Proofs.Tryz.func147).trans (congrArg some (by kernel_rfl)),
  f29 := (Go.Proofs.Tryz.func148).trans (congrArg some (by kernel_rfl)),
  f46 := ⟨Go.Proofs.Tryz.f162.name, of_decide_eq_true (by kernel_rfl), (Go.Proofs.Tryz.func162).trans (congrArg some (by kernel_rfl))⟩,
  f47 := (Go.Proofs.Tryz.func158).trans (congrArg some (by kernel_rfl)),
  f48 := (Go.Proofs.Tryz.func159).trans (congrArg some (by kernel_rfl)),
  f49 := ⟨Go.Proofs.Tryz.f163.name, of_decide_eq_true (by kernel_rfl), (Go.Proofs.Tryz.func163).trans (congrArg some (by kernel_rfl))⟩,
  f50 := ⟨Go.Proofs.Tryz.f164.name, of_decide_eq_true (by kernel_rfl), (Go.Proofs.Tryz.func164).trans (congrArg some (by kernel_rfl))⟩,
  f57 := ⟨Go.Proofs.Tryz.f166.name, of_decide_eq_true (by kernel_rfl), (Go.Proofs.Tryz.func166).trans (congrArg some (by kernel_rfl))⟩,
  t0 := Go.Proofs.Tryz.underlying0,
  a0 := Go.Proofs.Tryz.isAgg0,
  z0 := Go.Proofs.Tryz.sizeOf0,
  v0 := Go.Proofs.Tryz.zeroValue0,
  t3 := Go.Proofs.Tryz.underlying3,
  a3 := Go.Proofs.Tryz.isAgg3,
  z3 := Go.Proofs.Tryz.sizeOf3,
  v3 := Go.Proofs.Tryz.zeroValue3,
  t4 := Go.Proofs.Tryz.underlying4,
  a4 := Go.Proofs.Tryz.isAgg4,
  z4 := Go.Proofs.Tryz.sizeOf4,
  v4 := Go.Proofs.Tryz.zeroValue4,
  t5 := Go.Proofs.Tryz.underlying5,
  a5 := Go.Proofs.Tryz.isAgg5,
  z5 := Go.Proofs.Tryz.sizeOf5,
  v5 := Go.Proofs.Tryz.zeroValue5,
  t9 := Go.Proofs.Tryz.underlying9,
  a9 := Go.Proofs.Tryz.isAgg9,
  z9 := Go.Proofs.Tryz.sizeOf9,
  v9 := Go.Proofs.Tryz.zeroValue9,
  t22 := Go.Proofs.Tryz.underlying25,
  a22 := Go.Proofs.Tryz.isAgg25,
  z22 := Go.Proofs.Tryz.sizeOf25,
  v22 := Go.Proofs.Tryz.zeroValue25,
  a24 := Go.Proofs.Tryz.isAgg37,
  z24 := Go.Proofs.Tryz.sizeOf37,
  t25 := Go.Proofs.Tryz.underlying105,
  a25 := Go.Proofs.Tryz.isAgg105,
  z25 := Go.Proofs.Tryz.sizeOf105,
  v25 := Go.Proofs.Tryz.zeroValue105,
  t39 := Go.Proofs.Tryz.underlying114,
  a39 := Go.Proofs.Tryz.isAgg114,
  z39 := Go.Proofs.Tryz.sizeOf114,
  v39 := Go.Proofs.Tryz.zeroValue114,
  t45 := Go.Proofs.Tryz.underlying130,
  a45 := Go.Proofs.Tryz.isAgg130,
  z45 := Go.Proofs.Tryz.sizeOf130,
  v45 := Go.Proofs.Tryz.zeroValue130,
  t46 := Go.Proofs.Tryz.underlying131,
  a46 := Go.Proofs.Tryz.isAgg131,
  z46 := Go.Proofs.Tryz.sizeOf131,
  v46 := Go.Proofs.Tryz.zeroValue131,
  t50 := Go.Proofs.Tryz.underlying44,
  a50 := Go.Proofs.Tryz.isAgg44,
  z50 := Go.Proofs.Tryz.sizeOf44,
  v50 := Go.Proofs.Tryz.zeroValue44,
  t53 := Go.Proofs.Tryz.underlying122,
  a53 := Go.Proofs.Tryz.isAgg122,
  z53 := Go.Proofs.Tryz.sizeOf122,
  v53 := Go.Proofs.Tryz.zeroValue122,
  t55 := Go.Proofs.Tryz.underlying125,
  a55 := Go.Proofs.Tryz.isAgg125,
  z55 := Go.Proofs.Tryz.sizeOf125,
  v55 := Go.Proofs.Tryz.zeroValue125,
  t66 := Go.Proofs.Tryz.underlying142,
  a66 := Go.Proofs.Tryz.isAgg142,
  z66 := Go.Proofs.Tryz.sizeOf142,
  v66 := Go.Proofs.Tryz.zeroValue142,
  t70 := Go.Proofs.Tryz.underlying146,
  a70 := Go.Proofs.Tryz.isAgg146,
  z70 := Go.Proofs.Tryz.sizeOf146,
  v70 := Go.Proofs.Tryz.zeroValue146,
  t76 := Go.Proofs.Tryz.underlying150,
  a76 := Go.Proofs.Tryz.isAgg150,
  z76 := Go.Proofs.Tryz.sizeOf150,
  v76 := Go.Proofs.Tryz.zeroValue150,
  t77 := Go.Proofs.Tryz.underlying151,
  a77 := Go.Proofs.Tryz.isAgg151,
  z77 := Go.Proofs.Tryz.sizeOf151,
  v77 := Go.Proofs.Tryz.zeroValue151 }
theorem tab : TabOk Tryz.prog (assoc tks) (assoc ars) := tab_of (by kernel_rfl)
theorem mixed : Tryz.prog.follows .mixedOrders = true := by kernel_rfl
theorem C_slices_SortFunc_SSint_Sint_by_slices_Compare_Sint_int : Contract Tryz.prog 122 S_slices_SortFunc_SSint_Sint_by_slices_Compare_Sint_int :=
  con_sortF (enters_of Tryz.func122 (by kernel_rfl) rfl) (fun w v1 v2 xs ys h1 h2 l1 l2 => cmpH h1 h2 l1 l2) (fun n enc cf blk off cap w h1 hO hcmp hH hb hs => Any.slices_SortFunc layg6 enc h1 cf hO 113 #[] blk off cap (idA n) w (enters_of Tryz.func113 (by kernel_rfl) rfl) hcmp hH hb hs) (AnyF.slices_SortFunc_none { layg6 with })
theorem C_slices_Sort_Sint_int : Contract Tryz.prog 121 S_slices_Sort_Sint_int :=
  con_sortI (enters_of Tryz.func121 (by kernel_rfl) rfl) (fun blk off cap zs w h1 h2 h3 => AnyM.slices_Sort_int layg5 blk off cap zs w h1 h2 h3) (fun p cap w => AnyM.slices_Sort_int_none layg5 p cap w)
theorem C_laws_szIntA2S_raw (N : Nat) : Contract Tryz.prog 43 ⟨[(K_SPiiq, false), (I, false)], [I], true, F_laws_szIntA2S N⟩ :=
  have E : Env Tryz.prog Γ_laws_szIntA2S := env_of tab trivial
  con_of (Pc := []) E rfl mixed Tryz.func43 (by kernel_rfl) (by kernel_rfl) (by kernel_rfl) (by kernel_rfl) (fun A hA => trivial) (F_laws_szIntA2S_ok N)
theorem C_laws_szIntA2S : Contract Tryz.prog 43 S_laws_szIntA2S := Contract.less (fun N : Nat => F_laws_szIntA2S N) C_laws_szIntA2S_raw (fun d r h => ⟨0, (F_laws_szIntA2S_tot 0 d).trans h⟩)
theorem C_laws_szGraph_raw (N : Nat) : Contract Tryz.prog 12 ⟨[(K_PiSPiiqq, false), (I, false)], [I], true, F_laws_szGraph N⟩ :=
  have E : Env Tryz.prog Γ_laws_szGraph := env_of tab ⟨C_laws_szIntA2S, trivial⟩
  con_of (Pc := []) E rfl mixed Tryz.func12 (by kernel_rfl) (by kernel_rfl) (by kernel_rfl) (by kernel_rfl) (fun A hA => trivial) (F_laws_szGraph_ok N)
theorem C_laws_szGraph : Contract Tryz.prog 12 S_laws_szGraph := Contract.less (fun N : Nat => F_laws_szGraph N) C_laws_szGraph_raw (fun d r h => ⟨0, (F_laws_szGraph_tot 0 d).trans h⟩)
theorem C_laws_toIntA2_raw (N : Nat) : Contract Tryz.prog 87 ⟨[(K_Piiq, false)], [K_Piiq], true, F_laws_toIntA2 N⟩ :=
  have E : Env Tryz.prog Γ_laws_toIntA2 := env_of tab trivial
  con_of (Pc := [(0, ⟨laws_toIntA2_l0_h, laws_toIntA2_l0_o, laws_toIntA2_l0 N N⟩)]) E rfl mixed Tryz.func87 (by kernel_rfl) (by kernel_rfl) (by kernel_rfl) (by kernel_rfl) (fun A hA => ⟨pc_of (inner := []) E mixed hA (by kernel_rfl) (by kernel_rfl) (by kernel_rfl) trivial (fun _ => rfl) (fun m d => (laws_toIntA2_l0_ok N (laws_toIntA2_l0 N m) d).symm) N, trivial⟩) (F_laws_toIntA2_ok N)
theorem C_laws_toIntA2 : Contract Tryz.prog 87 S_laws_toIntA2 := Contract.less (fun N : Nat => F_laws_toIntA2 N) C_laws_toIntA2_raw toIntA2_lim
theorem C_laws_toIntA2S_raw (N : Nat) : Contract Tryz.prog 48 ⟨[(K_SPiiq, false)], [K_SPiiq], true, F_laws_toIntA2S N⟩ :=
  have E : Env Tryz.prog Γ_laws_toIntA2S := env_of tab ⟨C_laws_toIntA2, trivial⟩
  con_of (Pc := [(0, ⟨laws_toIntA2S_l0_h, laws_toIntA2S_l0_o, laws_toIntA2S_l0 N N⟩)]) E rfl mixed Tryz.func48 (by kernel_rfl) (by kernel_rfl) (by kernel_rfl) (by kernel_rfl) (fun A hA => ⟨pc_of (inner := []) E mixed hA (by kernel_rfl) (by kernel_rfl) (by kernel_rfl) trivial (fun _ => rfl) (fun m d => (laws_toIntA2S_l0_ok N (laws_toIntA2S_l0 N m) d).symm) N, trivial⟩) (F_laws_toIntA2S_ok N)
theorem C_laws_toIntA2S : Contract Tryz.prog 48 S_laws_toIntA2S := Contract.less (fun N : Nat => F_laws_toIntA2S N) C_laws_toIntA2S_raw toIntA2S_lim
theorem C_laws_toGraph_raw (N : Nat) : Contract Tryz.prog 15 ⟨[(K_PiSPiiqq, false)], [K_PiSPiiqq], true, F_laws_toGraph N⟩ :=
  have E : Env Tryz.prog Γ_laws_toGraph := env_of tab ⟨C_laws_toIntA2S, trivial⟩
  con_of (Pc := []) E rfl mixed Tryz.func15 (by kernel_rfl) (by kernel_rfl) (by kernel_rfl) (by kernel_rfl) (fun A hA => trivial) (F_laws_toGraph_ok N)
theorem C_laws_toGraph : Contract Tryz.prog 15 S_laws_toGraph := C_laws_toGraph_raw 0
theorem C_laws_toIntS_raw (N : Nat) : Contract Tryz.prog 31 ⟨[(K_Si, false)], [K_Si], true, F_laws_toIntS N⟩ :=
  have E : Env Tryz.prog Γ_laws_toIntS := env_of tab trivial
  con_of (Pc := [(0, ⟨laws_toIntS_l0_h, laws_toIntS_l0_o, laws_toIntS_l0 N N⟩)]) E rfl mixed Tryz.func31 (by kernel_rfl) (by kernel_rfl) (by kernel_rfl) (by kernel_rfl) (fun A hA => ⟨pc_of (inner := []) E mixed hA (by kernel_rfl) (by kernel_rfl) (by kernel_rfl) trivial (fun _ => rfl) (fun m d => (laws_toIntS_l0_ok N (laws_toIntS_l0 N m) d).symm) N, trivial⟩) (F_laws_toIntS_ok N)
theorem C_laws_toIntS : Contract Tryz.prog 31 S_laws_toIntS := Contract.less (fun N : Nat => F_laws_toIntS N) C_laws_toIntS_raw toIntS_lim
theorem C_spec_l1In_raw (N : Nat) : Contract Tryz.prog 77 ⟨[(I, false), (I, false), (I, false)], [.bool], true, F_spec_l1In N⟩ :=
  have E : Env Tryz.prog Γ_spec_l1In := env_of tab trivial
  con_of (Pc := []) E rfl mixed Tryz.func77 (by kernel_rfl) (by kernel_rfl) (by kernel_rfl) (by kernel_rfl) (fun A hA => trivial) (F_spec_l1In_ok N)
theorem C_spec_l1In : Contract Tryz.prog 77 S_spec_l1In := Contract.less (fun N : Nat => F_spec_l1In N) C_spec_l1In_raw (fun d r h => ⟨0, (F_spec_l1In_tot 0 d).trans h⟩)
theorem C_spec_l2Before_raw (N : Nat) : Contract Tryz.prog 82 ⟨[(K_Piiq, false), (K_Piiq, false)], [.bool], true, F_spec_l2Before N⟩ :=
  have E : Env Tryz.prog Γ_spec_l2Before := env_of tab trivial
  con_of (Pc := []) E rfl mixed Tryz.func82 (by kernel_rfl) (by kernel_rfl) (by kernel_rfl) (by kernel_rfl) (fun A hA => trivial) (F_spec_l2Before_ok N)
theorem C_spec_l2Before : Contract Tryz.prog 82 S_spec_l2Before := Contract.less (fun N : Nat => F_spec_l2Before N) C_spec_l2Before_raw (fun d r h => ⟨0, (F_spec_l2Before_tot 0 d).trans h⟩)
theorem C_spec_l2Good_raw (N : Nat) : Contract Tryz.prog 45 ⟨[(K_PiSPiiqq, false)], [.bool], true, F_spec_l2Good N⟩ :=
  have E : Env Tryz.prog Γ_spec_l2Good := env_of tab ⟨C_spec_l1In, ⟨C_spec_l2Before, trivial⟩⟩
  con_of (Pc := [(0, ⟨spec_l2Good_l0_h, spec_l2Good_l0_o, spec_l2Good_l0 N N⟩)]) E rfl mixed Tryz.func45 (by kernel_rfl) (by kernel_rfl) (by kernel_rfl) (by kernel_rfl) (fun A hA => ⟨pc_of (inner := []) E mixed hA (by kernel_rfl) (by kernel_rfl) (by kernel_rfl) trivial (fun _ => rfl) (fun m d => (spec_l2Good_l0_ok N (spec_l2Good_l0 N m) d).symm) N, trivial⟩) (F_spec_l2Good_ok N)
theorem C_spec_l2Good : Contract Tryz.prog 45 S_spec_l2Good := Contract.less (fun N : Nat => F_spec_l2Good N) C_spec_l2Good_raw l2Good_lim
theorem C_spec_l4Field_raw (N : Nat) : Contract Tryz.prog 59 ⟨[(K_PiSPiiqq, false), (I, false)], [.bool], true, F_spec_l4Field N⟩ :=
  have E : Env Tryz.prog Γ_spec_l4Field := env_of tab ⟨C_spec_l2Good, ⟨C_spec_l1In, trivial⟩⟩
  con_of (Pc := []) E rfl mixed Tryz.func59 (by kernel_rfl) (by kernel_rfl) (by kernel_rfl) (by kernel_rfl) (fun A hA => trivial) (F_spec_l4Field_ok N)
theorem C_spec_l4Field : Contract Tryz.prog 59 S_spec_l4Field := C_spec_l4Field_raw 0
theorem C_spec_l2Node_raw (N : Nat) : Contract Tryz.prog 107 ⟨[(K_PiSPiiqq, false), (I, false)], [.bool], true, F_spec_l2Node N⟩ :=
  have E : Env Tryz.prog Γ_spec_l2Node := env_of tab ⟨C_spec_l1In, trivial⟩
  con_of (Pc := []) E rfl mixed Tryz.func107 (by kernel_rfl) (by kernel_rfl) (by kernel_rfl) (by kernel_rfl) (fun A hA => trivial) (F_spec_l2Node_ok N)
theorem C_spec_l2Node : Contract Tryz.prog 107 S_spec_l2Node := Contract.less (fun N : Nat => F_spec_l2Node N) C_spec_l2Node_raw (fun d r h => ⟨0, (F_spec_l2Node_tot 0 d).trans h⟩)
theorem C_spec_l4Cops_raw (N : Nat) : Contract Tryz.prog 76 ⟨[(K_PiSPiiqq, false), (K_Si, false)], [.bool], true, F_spec_l4Cops N⟩ :=
  have E : Env Tryz.prog Γ_spec_l4Cops := env_of tab ⟨C_spec_l2Node, trivial⟩
  con_of (Pc := [(0, ⟨spec_l4Cops_l0_h, spec_l4Cops_l0_o, spec_l4Cops_l0 N N⟩)]) E rfl mixed Tryz.func76 (by kernel_rfl) (by kernel_rfl) (by kernel_rfl) (by kernel_rfl) (fun A hA => ⟨pc_of (inner := []) E mixed hA (by kernel_rfl) (by kernel_rfl) (by kernel_rfl) trivial (fun _ => rfl) (fun m d => (spec_l4Cops_l0_ok N (spec_l4Cops_l0 N m) d).symm) N, trivial⟩) (F_spec_l4Cops_ok N)
theorem C_spec_l4Cops : Contract Tryz.prog 76 S_spec_l4Cops := Contract.less (fun N : Nat => F_spec_l4Cops N) C_spec_l4Cops_raw l4Cops_lim
theorem C_spec_l1Has_raw (N : Nat) : Contract Tryz.prog 57 ⟨[(K_Si, false), (I, false)], [.bool], true, F_spec_l1Has N⟩ :=
  have E : Env Tryz.prog Γ_spec_l1Has := env_of tab trivial
  con_of (Pc := [(0, ⟨spec_l1Has_l0_h, spec_l1Has_l0_o, spec_l1Has_l0 N N⟩)]) E rfl mixed Tryz.func57 (by kernel_rfl) (by kernel_rfl) (by kernel_rfl) (by kernel_rfl) (fun A hA => ⟨pc_of (inner := []) E mixed hA (by kernel_rfl) (by kernel_rfl) (by kernel_rfl) trivial (fun _ => rfl) (fun m d => (spec_l1Has_l0_ok N (spec_l1Has_l0 N m) d).symm) N, trivial⟩) (F_spec_l1Has_ok N)
theorem C_spec_l1Has : Contract Tryz.prog 57 S_spec_l1Has := Contract.less (fun N : Nat => F_spec_l1Has N) C_spec_l1Has_raw l1Has_lim
theorem C_spec_l4Meets_raw (N : Nat) : Contract Tryz.prog 64 ⟨[(K_PiSPiiqq, false), (K_Si, false), (I, false)], [.bool], true, F_spec_l4Meets N⟩ :=
  have E : Env Tryz.prog Γ_spec_l4Meets := env_of tab ⟨C_spec_l1Has, ⟨C_spec_l4Field, ⟨C_spec_l4Cops, ⟨C_spec_l2Node, trivial⟩⟩⟩⟩
  con_of (Pc := []) E rfl mixed Tryz.func64 (by kernel_rfl) (by kernel_rfl) (by kernel_rfl) (by kernel_rfl) (fun A hA => trivial) (F_spec_l4Meets_ok N)
theorem C_spec_l4Meets : Contract Tryz.prog 64 S_spec_l4Meets := C_spec_l4Meets_raw 0
theorem C_spec_l1Own_raw (N : Nat) : Contract Tryz.prog 73 ⟨[(K_Si, false)], [K_Si], true, F_spec_l1Own N⟩ :=
  have E : Env Tryz.prog Γ_spec_l1Own := env_of tab trivial
  con_of (Pc := []) E rfl mixed Tryz.func73 (by kernel_rfl) (by kernel_rfl) (by kernel_rfl) (by kernel_rfl) (fun A hA => trivial) (F_spec_l1Own_ok N)
theorem C_spec_l1Own : Contract Tryz.prog 73 S_spec_l1Own := C_spec_l1Own_raw 0
theorem C_spec_l4Configs_raw (N : Nat) : Contract Tryz.prog 102 ⟨[(I, false), (I, false)], [K_SSi], true, F_spec_l4Configs N⟩ :=
  have E : Env Tryz.prog Γ_spec_l4Configs := env_of tab ⟨C_spec_l1Own, trivial⟩
  con_of (Pc := [(0, ⟨spec_l4Configs_l0_h, spec_l4Configs_l0_o, spec_l4Configs_l0 N N⟩)]) E rfl mixed Tryz.func102 (by kernel_rfl) (by kernel_rfl) (by kernel_rfl) (by kernel_rfl) (fun A hA => ⟨pc_of (inner := [(2, ⟨spec_l4Configs_l2_h, spec_l4Configs_l2_o, spec_l4Configs_l2 N N⟩)]) E mixed hA (by kernel_rfl) (by kernel_rfl) (by kernel_rfl) ⟨pc_of (inner := [(4, ⟨spec_l4Configs_l4_h, spec_l4Configs_l4_o, spec_l4Configs_l4 N N⟩)]) E mixed hA (by kernel_rfl) (by kernel_rfl) (by kernel_rfl) ⟨pc_of (inner := []) E mixed hA (by kernel_rfl) (by kernel_rfl) (by kernel_rfl) trivial (fun _ => rfl) (fun m d => (spec_l4Configs_l4_ok N (spec_l4Configs_l4 N m) d).symm) N, trivial⟩ (fun _ => rfl) (fun m d => (spec_l4Configs_l2_ok N (spec_l4Configs_l2 N m) d).symm) N, trivial⟩ (fun _ => rfl) (fun m d => (spec_l4Configs_l0_ok N (spec_l4Configs_l0 N m) d).symm) N, trivial⟩) (F_spec_l4Configs_ok N)
theorem C_spec_l4Configs : Contract Tryz.prog 102 S_spec_l4Configs := Contract.less (fun N : Nat => F_spec_l4Configs N) C_spec_l4Configs_raw l4Configs_lim
theorem C_spec_l2Near_raw (N : Nat) : Contract Tryz.prog 124 ⟨[(K_PiSPiiqq, false), (I, false), (I, false)], [.bool], true, F_spec_l2Near N⟩ :=
  have E : Env Tryz.prog Γ_spec_l2Near := env_of tab trivial
  con_of (Pc := [(0, ⟨spec_l2Near_l0_h, spec_l2Near_l0_o, spec_l2Near_l0 N N⟩)]) E rfl mixed Tryz.func124 (by kernel_rfl) (by kernel_rfl) (by kernel_rfl) (by kernel_rfl) (fun A hA => ⟨pc_of (inner := []) E mixed hA (by kernel_rfl) (by kernel_rfl) (by kernel_rfl) trivial (fun _ => rfl) (fun m d => (spec_l2Near_l0_ok N (spec_l2Near_l0 N m) d).symm) N, trivial⟩) (F_spec_l2Near_ok N)
theorem C_spec_l2Near : Contract Tryz.prog 124 S_spec_l2Near := Contract.less (fun N : Nat => F_spec_l2Near N) C_spec_l2Near_raw l2Near_lim
theorem C_spec_l2Neighbors_raw (N : Nat) : Contract Tryz.prog 98 ⟨[(K_PiSPiiqq, false), (I, false)], [K_Si], true, F_spec_l2Neighbors N⟩ :=
  have E : Env Tryz.prog Γ_spec_l2Neighbors := env_of tab ⟨C_spec_l2Near, trivial⟩
  con_of (Pc := [(0, ⟨spec_l2Neighbors_l0_h, spec_l2Neighbors_l0_o, spec_l2Neighbors_l0 N N⟩)]) E rfl mixed Tryz.func98 (by kernel_rfl) (by kernel_rfl) (by kernel_rfl) (by kernel_rfl) (fun A hA => ⟨pc_of (inner := []) E mixed hA (by kernel_rfl) (by kernel_rfl) (by kernel_rfl) trivial (fun _ => rfl) (fun m d => (spec_l2Neighbors_l0_ok N (spec_l2Neighbors_l0 N m) d).symm) N, trivial⟩) (F_spec_l2Neighbors_ok N)
theorem C_spec_l2Neighbors : Contract Tryz.prog 98 S_spec_l2Neighbors := Contract.less (fun N : Nat => F_spec_l2Neighbors N) C_spec_l2Neighbors_raw l2Neighbors_lim
theorem C_spec_l1Put_raw (N : Nat) : Contract Tryz.prog 97 ⟨[(K_Si, false), (I, false)], [K_Si], false, F_spec_l1Put N⟩ :=
  have E : Env Tryz.prog Γ_spec_l1Put := env_of tab trivial
  con_of (Pc := [(0, ⟨spec_l1Put_l0_h, spec_l1Put_l0_o, spec_l1Put_l0 N N⟩)]) E rfl mixed Tryz.func97 (by kernel_rfl) (by kernel_rfl) (by kernel_rfl) (by kernel_rfl) (fun A hA => ⟨pc_of (inner := []) E mixed hA (by kernel_rfl) (by kernel_rfl) (by kernel_rfl) trivial (fun _ => rfl) (fun m d => (spec_l1Put_l0_ok N (spec_l1Put_l0 N m) d).symm) N, trivial⟩) (F_spec_l1Put_ok N)
theorem C_spec_l1Put : Contract Tryz.prog 97 S_spec_l1Put := Contract.less (fun N : Nat => F_spec_l1Put N) C_spec_l1Put_raw l1Put_lim
theorem C_spec_l2Ball_raw (N : Nat) : Contract Tryz.prog 56 ⟨[(K_PiSPiiqq, false), (I, false)], [K_Si], false, F_spec_l2Ball N⟩ :=
  have E : Env Tryz.prog Γ_spec_l2Ball := env_of tab ⟨C_spec_l1Put, ⟨C_spec_l2Neighbors, trivial⟩⟩
  con_of (Pc := []) E rfl mixed Tryz.func56 (by kernel_rfl) (by kernel_rfl) (by kernel_rfl) (by kernel_rfl) (fun A hA => trivial) (F_spec_l2Ball_ok N)
theorem C_spec_l2Ball : Contract Tryz.prog 56 S_spec_l2Ball := C_spec_l2Ball_raw 0
theorem C_spec_l4Sorted_raw (N : Nat) : Contract Tryz.prog 118 ⟨[(K_Si, false)], [K_Si], false, F_spec_l4Sorted N⟩ :=
  have E : Env Tryz.prog Γ_spec_l4Sorted := env_ofV tab trivial trivial (fun _ h => by cases h)
  con_of (Pc := [(0, ⟨spec_l4Sorted_l0_h, spec_l4Sorted_l0_o, spec_l4Sorted_l0 N N⟩)]) E rfl mixed Tryz.func118 (by kernel_rfl) (by kernel_rfl) (by kernel_rfl) (by kernel_rfl) (fun A hA => ⟨pc_of (inner := [(2, ⟨spec_l4Sorted_l2_h, spec_l4Sorted_l2_o, spec_l4Sorted_l2 N N⟩)]) E mixed hA (by kernel_rfl) (by kernel_rfl) (by kernel_rfl) ⟨pc_of (inner := []) E mixed hA (by kernel_rfl) (by kernel_rfl) (by kernel_rfl) trivial (fun _ => rfl) (fun m d => (spec_l4Sorted_l2_ok N (spec_l4Sorted_l2 N m) d).symm) N, trivial⟩ (fun _ => rfl) (fun m d => (spec_l4Sorted_l0_ok N (spec_l4Sorted_l0 N m) d).symm) N, trivial⟩) (F_spec_l4Sorted_ok N)
theorem C_spec_l4Sorted : Contract Tryz.prog 118 S_spec_l4Sorted := Contract.less (fun N : Nat => F_spec_l4Sorted N) C_spec_l4Sorted_raw l4Sorted_lim
theorem C_spec_l4Less_raw (N : Nat) : Contract Tryz.prog 131 ⟨[(K_Si, false), (K_Si, false)], [.bool], true, F_spec_l4Less N⟩ :=
  have E : Env Tryz.prog Γ_spec_l4Less := env_of tab trivial
  con_of (Pc := [(0, ⟨spec_l4Less_l0_h, spec_l4Less_l0_o, spec_l4Less_l0 N N⟩)]) E rfl mixed Tryz.func131 (by kernel_rfl) (by kernel_rfl) (by kernel_rfl) (by kernel_rfl) (fun A hA => ⟨pc_of (inner := []) E mixed hA (by kernel_rfl) (by kernel_rfl) (by kernel_rfl) trivial (fun _ => rfl) (fun m d => (spec_l4Less_l0_ok N (spec_l4Less_l0 N m) d).symm) N, trivial⟩) (F_spec_l4Less_ok N)
theorem C_spec_l4Less : Contract Tryz.prog 131 S_spec_l4Less := Contract.less (fun N : Nat => F_spec_l4Less N) C_spec_l4Less_raw l4Less_lim
theorem C_spec_l1Same_raw (N : Nat) : Contract Tryz.prog 108 ⟨[(K_Si, false), (K_Si, false)], [.bool], true, F_spec_l1Same N⟩ :=
  have E : Env Tryz.prog Γ_spec_l1Same := env_of tab trivial
  con_of (Pc := [(0, ⟨spec_l1Same_l0_h, spec_l1Same_l0_o, spec_l1Same_l0 N N⟩)]) E rfl mixed Tryz.func108 (by kernel_rfl) (by kernel_rfl) (by kernel_rfl) (by kernel_rfl) (fun A hA => ⟨pc_of (inner := []) E mixed hA (by kernel_rfl) (by kernel_rfl) (by kernel_rfl) trivial (fun _ => rfl) (fun m d => (spec_l1Same_l0_ok N (spec_l1Same_l0 N m) d).symm) N, trivial⟩) (F_spec_l1Same_ok N)
theorem C_spec_l1Same : Contract Tryz.prog 108 S_spec_l1Same := Contract.less (fun N : Nat => F_spec_l1Same N) C_spec_l1Same_raw l1Same_lim
theorem C_spec_l4Put_raw (N : Nat) : Contract Tryz.prog 117 ⟨[(K_SSi, false), (K_Si, false)], [K_SSi], false, F_spec_l4Put N⟩ :=
  have E : Env Tryz.prog Γ_spec_l4Put := env_of tab ⟨C_spec_l1Same, ⟨C_spec_l4Less, trivial⟩⟩
  con_of (Pc := [(0, ⟨spec_l4Put_l0_h, spec_l4Put_l0_o, spec_l4Put_l0 N N⟩)]) E rfl mixed Tryz.func117 (by kernel_rfl) (by kernel_rfl) (by kernel_rfl) (by kernel_rfl) (fun A hA => ⟨pc_of (inner := []) E mixed hA (by kernel_rfl) (by kernel_rfl) (by kernel_rfl) trivial (fun _ => rfl) (fun m d => (spec_l4Put_l0_ok N (spec_l4Put_l0 N m) d).symm) N, trivial⟩) (F_spec_l4Put_ok N)
theorem C_spec_l4Put : Contract Tryz.prog 117 S_spec_l4Put := Contract.less (fun N : Nat => F_spec_l4Put N) C_spec_l4Put_raw l4Put_lim
theorem C_spec_l4Moves_raw (N : Nat) : Contract Tryz.prog 83 ⟨[(K_PiSPiiqq, false), (K_Si, false)], [K_SSi], false, F_spec_l4Moves N⟩ :=
  have E : Env Tryz.prog Γ_spec_l4Moves := env_ofV tab ⟨C_spec_l2Ball, ⟨C_spec_l1Own, ⟨C_spec_l4Put, ⟨C_spec_l4Sorted, trivial⟩⟩⟩⟩ trivial (fun _ h => by cases h)
  con_of (Pc := [(0, ⟨spec_l4Moves_l0_h, spec_l4Moves_l0_o, spec_l4Moves_l0 N N⟩), (6, ⟨spec_l4Moves_l6_h, spec_l4Moves_l6_o, spec_l4Moves_l6 N N⟩)]) E rfl mixed Tryz.func83 (by kernel_rfl) (by kernel_rfl) (by kernel_rfl) (by kernel_rfl) (fun A hA => ⟨pc_of (inner := [(2, ⟨spec_l4Moves_l2_h, spec_l4Moves_l2_o, spec_l4Moves_l2 N N⟩)]) E mixed hA (by kernel_rfl) (by kernel_rfl) (by kernel_rfl) ⟨pc_of (inner := [(4, ⟨spec_l4Moves_l4_h, spec_l4Moves_l4_o, spec_l4Moves_l4 N N⟩)]) E mixed hA (by kernel_rfl) (by kernel_rfl) (by kernel_rfl) ⟨pc_of (inner := []) E mixed hA (by kernel_rfl) (by kernel_rfl) (by kernel_rfl) trivial (fun _ => rfl) (fun m d => (spec_l4Moves_l4_ok N (spec_l4Moves_l4 N m) d).symm) N, trivial⟩ (fun _ => rfl) (fun m d => (spec_l4Moves_l2_ok N (spec_l4Moves_l2 N m) d).symm) N, trivial⟩ (fun _ => rfl) (fun m d => (spec_l4Moves_l0_ok N (spec_l4Moves_l0 N m) d).symm) N, ⟨pc_of (inner := []) E mixed hA (by kernel_rfl) (by kernel_rfl) (by kernel_rfl) trivial (fun _ => rfl) (fun m d => (spec_l4Moves_l6_ok N (spec_l4Moves_l6 N m) d).symm) N, trivial⟩⟩) (F_spec_l4Moves_ok N)
theorem C_spec_l4Moves : Contract Tryz.prog 83 S_spec_l4Moves := Contract.less (fun N : Nat => F_spec_l4Moves N) C_spec_l4Moves_raw l4Moves_lim
theorem C_spec_l4At_raw (N : Nat) : Contract Tryz.prog 66 ⟨[(K_SSi, false), (K_Si, false)], [I], true, F_spec_l4At N⟩ :=
  have E : Env Tryz.prog Γ_spec_l4At := env_of tab ⟨C_spec_l1Same, trivial⟩
  con_of (Pc := [(0, ⟨spec_l4At_l0_h, spec_l4At_l0_o, spec_l4At_l0 N N⟩)]) E rfl mixed Tryz.func66 (by kernel_rfl) (by kernel_rfl) (by kernel_rfl) (by kernel_rfl) (fun A hA => ⟨pc_of (inner := []) E mixed hA (by kernel_rfl) (by kernel_rfl) (by kernel_rfl) trivial (fun _ => rfl) (fun m d => (spec_l4At_l0_ok N (spec_l4At_l0 N m) d).symm) N, trivial⟩) (F_spec_l4At_ok N)
theorem C_spec_l4At : Contract Tryz.prog 66 S_spec_l4At := Contract.less (fun N : Nat => F_spec_l4At N) C_spec_l4At_raw l4At_lim
theorem C_spec_l4Make_raw (N : Nat) : Contract Tryz.prog 61 ⟨[(K_PiSPiiqq, false), (I, false)], [K_PZSiSSiSSiq], false, F_spec_l4Make N⟩ :=
  have E : Env Tryz.prog Γ_spec_l4Make := env_ofG tab ⟨C_spec_l2Ball, ⟨C_spec_l4At, ⟨C_spec_l4Moves, ⟨C_spec_l4Configs, trivial⟩⟩⟩⟩ trivial (fun _ h => by cases h) trivial (by kernel_rfl)
  con_of (Pc := [(0, ⟨spec_l4Make_l0_h, spec_l4Make_l0_o, spec_l4Make_l0 N N⟩), (4, ⟨spec_l4Make_l4_h, spec_l4Make_l4_o, spec_l4Make_l4 N N⟩)]) E rfl mixed Tryz.func61 (by kernel_rfl) (by kernel_rfl) (by kernel_rfl) (by kernel_rfl) (fun A hA => ⟨pc_of (inner := [(2, ⟨spec_l4Make_l2_h, spec_l4Make_l2_o, spec_l4Make_l2 N N⟩)]) E mixed hA (by kernel_rfl) (by kernel_rfl) (by kernel_rfl) ⟨pc_of (inner := []) E mixed hA (by kernel_rfl) (by kernel_rfl) (by kernel_rfl) trivial (fun _ => rfl) (fun m d => (spec_l4Make_l2_ok N (spec_l4Make_l2 N m) d).symm) N, trivial⟩ (fun _ => rfl) (fun m d => (spec_l4Make_l0_ok N (spec_l4Make_l0 N m) d).symm) N, ⟨pc_of (inner := []) E mixed hA (by kernel_rfl) (by kernel_rfl) (by kernel_rfl) trivial (fun _ => rfl) (fun m d => (spec_l4Make_l4_ok N (spec_l4Make_l4 N m) d).symm) N, trivial⟩⟩) (F_spec_l4Make_ok N)
theorem C_spec_l4Make : Contract Tryz.prog 61 S_spec_l4Make := Contract.less (fun N : Nat => F_spec_l4Make N) C_spec_l4Make_raw l4Make_lim
theorem C_spec_l1Most_raw (N : Nat) : Contract Tryz.prog 114 ⟨[(I, false), (I, false)], [I], true, F_spec_l1Most N⟩ :=
  have E : Env Tryz.prog Γ_spec_l1Most := env_of tab trivial
  con_of (Pc := []) E rfl mixed Tryz.func114 (by kernel_rfl) (by kernel_rfl) (by kernel_rfl) (by kernel_rfl) (fun A hA => trivial) (F_spec_l1Most_ok N)
theorem C_spec_l1Most : Contract Tryz.prog 114 S_spec_l1Most := Contract.less (fun N : Nat => F_spec_l1Most N) C_spec_l1Most_raw (fun d r h => ⟨0, (F_spec_l1Most_tot 0 d).trans h⟩)
theorem C_spec_l4After_raw (N : Nat) : Contract Tryz.prog 101 ⟨[(K_PZSiSSiSSiq, false), (K_SSi, false), (I, false), (I, false)], [I], true, F_spec_l4After N⟩ :=
  have E : Env Tryz.prog Γ_spec_l4After := env_of tab ⟨C_spec_l1Has, ⟨C_spec_l1Most, trivial⟩⟩
  con_of (Pc := [(0, ⟨spec_l4After_l0_h, spec_l4After_l0_o, spec_l4After_l0 N N⟩)]) E rfl mixed Tryz.func101 (by kernel_rfl) (by kernel_rfl) (by kernel_rfl) (by kernel_rfl) (fun A hA => ⟨pc_of (inner := []) E mixed hA (by kernel_rfl) (by kernel_rfl) (by kernel_rfl) trivial (fun _ => rfl) (fun m d => (spec_l4After_l0_ok N (spec_l4After_l0 N m) d).symm) N, trivial⟩) (F_spec_l4After_ok N)
theorem C_spec_l4After : Contract Tryz.prog 101 S_spec_l4After := Contract.less (fun N : Nat => F_spec_l4After N) C_spec_l4After_raw l4After_lim
theorem C_spec_l4Times_raw (N : Nat) : Contract Tryz.prog 60 ⟨[(K_PZSiSSiSSiq, false)], [K_SSi], true, F_spec_l4Times N⟩ :=
  have E : Env Tryz.prog Γ_spec_l4Times := env_of tab ⟨C_spec_l1Has, ⟨C_spec_l1Own, ⟨C_spec_l4After, trivial⟩⟩⟩
  con_of (Pc := [(0, ⟨spec_l4Times_l0_h, spec_l4Times_l0_o, spec_l4Times_l0 N N⟩), (4, ⟨spec_l4Times_l4_h, spec_l4Times_l4_o, spec_l4Times_l4 N N⟩)]) E rfl mixed Tryz.func60 (by kernel_rfl) (by kernel_rfl) (by kernel_rfl) (by kernel_rfl) (fun A hA => ⟨pc_of (inner := [(2, ⟨spec_l4Times_l2_h, spec_l4Times_l2_o, spec_l4Times_l2 N N⟩)]) E mixed hA (by kernel_rfl) (by kernel_rfl) (by kernel_rfl) ⟨pc_of (inner := []) E mixed hA (by kernel_rfl) (by kernel_rfl) (by kernel_rfl) trivial (fun _ => rfl) (fun m d => (spec_l4Times_l2_ok N (spec_l4Times_l2 N m) d).symm) N, trivial⟩ (fun _ => rfl) (fun m d => (spec_l4Times_l0_ok N (spec_l4Times_l0 N m) d).symm) N, ⟨pc_of (inner := [(6, ⟨spec_l4Times_l6_h, spec_l4Times_l6_o, spec_l4Times_l6 N N⟩)]) E mixed hA (by kernel_rfl) (by kernel_rfl) (by kernel_rfl) ⟨pc_of (inner := [(8, ⟨spec_l4Times_l8_h, spec_l4Times_l8_o, spec_l4Times_l8 N N⟩)]) E mixed hA (by kernel_rfl) (by kernel_rfl) (by kernel_rfl) ⟨pc_of (inner := [(10, ⟨spec_l4Times_l10_h, spec_l4Times_l10_o, spec_l4Times_l10 N N⟩)]) E mixed hA (by kernel_rfl) (by kernel_rfl) (by kernel_rfl) ⟨pc_of (inner := []) E mixed hA (by kernel_rfl) (by kernel_rfl) (by kernel_rfl) trivial (fun _ => rfl) (fun m d => (spec_l4Times_l10_ok N (spec_l4Times_l10 N m) d).symm) N, trivial⟩ (fun _ => rfl) (fun m d => (spec_l4Times_l8_ok N (spec_l4Times_l8 N m) d).symm) N, trivial⟩ (fun _ => rfl) (fun m d => (spec_l4Times_l6_ok N (spec_l4Times_l6 N m) d).symm) N, trivial⟩ (fun _ => rfl) (fun m d => (spec_l4Times_l4_ok N (spec_l4Times_l4 N m) d).symm) N, trivial⟩⟩) (F_spec_l4Times_ok N)
theorem C_spec_l4Times : Contract Tryz.prog 60 S_spec_l4Times := Contract.less (fun N : Nat => F_spec_l4Times N) C_spec_l4Times_raw l4Times_lim
theorem C_spec_l4Best_raw (N : Nat) : Contract Tryz.prog 79 ⟨[(K_PZSiSSiSSiq, false), (K_SSi, false), (I, false), (I, false)], [I], true, F_spec_l4Best N⟩ :=
  have E : Env Tryz.prog Γ_spec_l4Best := env_of tab ⟨C_spec_l4After, trivial⟩
  con_of (Pc := [(0, ⟨spec_l4Best_l0_h, spec_l4Best_l0_o, spec_l4Best_l0 N N⟩)]) E rfl mixed Tryz.func79 (by kernel_rfl) (by kernel_rfl) (by kernel_rfl) (by kernel_rfl) (fun A hA => ⟨pc_of (inner := []) E mixed hA (by kernel_rfl) (by kernel_rfl) (by kernel_rfl) trivial (fun _ => rfl) (fun m d => (spec_l4Best_l0_ok N (spec_l4Best_l0 N m) d).symm) N, trivial⟩) (F_spec_l4Best_ok N)
theorem C_spec_l4Best : Contract Tryz.prog 79 S_spec_l4Best := Contract.less (fun N : Nat => F_spec_l4Best N) C_spec_l4Best_raw l4Best_lim
theorem C_spec_CopReply_raw (N : Nat) : Contract Tryz.prog 39 ⟨[(K_PiSPiiqq, false), (K_Si, false), (I, false)], [K_Si, .bool], true, F_spec_CopReply N⟩ :=
  have E : Env Tryz.prog Γ_spec_CopReply := env_of tab ⟨C_spec_l4Times, ⟨C_spec_l4Make, ⟨C_spec_l4Meets, ⟨C_spec_l4At, ⟨C_spec_l1Own, ⟨C_spec_l4Best, trivial⟩⟩⟩⟩⟩⟩
  con_of (Pc := []) E rfl mixed Tryz.func39 (by kernel_rfl) (by kernel_rfl) (by kernel_rfl) (by kernel_rfl) (fun A hA => trivial) (F_spec_CopReply_ok N)
theorem C_spec_CopReply : Contract Tryz.prog 39 S_spec_CopReply := C_spec_CopReply_raw 0
theorem C_impl_within_raw (N : Nat) : Contract Tryz.prog 78 ⟨[(I, false), (I, false), (I, false)], [.bool], true, F_impl_within N⟩ :=
  have E : Env Tryz.prog Γ_impl_within := env_of tab trivial
  con_of (Pc := []) E rfl mixed Tryz.func78 (by kernel_rfl) (by kernel_rfl) (by kernel_rfl) (by kernel_rfl) (fun A hA => trivial) (F_impl_within_ok N)
theorem C_impl_within : Contract Tryz.prog 78 S_impl_within := Contract.less (fun N : Nat => F_impl_within N) C_impl_within_raw (fun d r h => ⟨0, (F_impl_within_tot 0 d).trans h⟩)
theorem C_cmp_isNaN_int_raw (N : Nat) : Contract Tryz.prog 138 ⟨[(I, false)], [.bool], true, F_cmp_isNaN_int N⟩ :=
  have E : Env Tryz.prog Γ_cmp_isNaN_int := env_of tab trivial
  con_of (Pc := []) E rfl mixed Tryz.func138 (by kernel_rfl) (by kernel_rfl) (by kernel_rfl) (by kernel_rfl) (fun A hA => trivial) (F_cmp_isNaN_int_ok N)
theorem C_cmp_isNaN_int : Contract Tryz.prog 138 S_cmp_isNaN_int := Contract.less (fun N : Nat => F_cmp_isNaN_int N) C_cmp_isNaN_int_raw (fun d r h => ⟨0, (F_cmp_isNaN_int_tot 0 d).trans h⟩)
theorem C_cmp_Compare_int_raw (N : Nat) : Contract Tryz.prog 130 ⟨[(I, false), (I, false)], [I], true, F_cmp_Compare_int N⟩ :=
  have E : Env Tryz.prog Γ_cmp_Compare_int := env_of tab ⟨C_cmp_isNaN_int, trivial⟩
  con_of (Pc := []) E rfl mixed Tryz.func130 (by kernel_rfl) (by kernel_rfl) (by kernel_rfl) (by kernel_rfl) (fun A hA => trivial) (F_cmp_Compare_int_ok N)
theorem C_cmp_Compare_int : Contract Tryz.prog 130 S_cmp_Compare_int := Contract.less (fun N : Nat => F_cmp_Compare_int N) C_cmp_Compare_int_raw (fun d r h => ⟨0, (F_cmp_Compare_int_tot 0 d).trans h⟩)
theorem C_slices_Compare_Sint_int_raw (N : Nat) : Contract Tryz.prog 113 ⟨[(K_Si, false), (K_Si, false)], [I], true, F_slices_Compare_Sint_int N⟩ :=
  have E : Env Tryz.prog Γ_slices_Compare_Sint_int := env_of tab ⟨C_cmp_Compare_int, trivial⟩
  con_of (Pc := [(0, ⟨slices_Compare_Sint_int_l0_h, slices_Compare_Sint_int_l0_o, slices_Compare_Sint_int_l0 N N⟩)]) E rfl mixed Tryz.func113 (by kernel_rfl) (by kernel_rfl) (by kernel_rfl) (by kernel_rfl) (fun A hA => ⟨pc_of (inner := []) E mixed hA (by kernel_rfl) (by kernel_rfl) (by kernel_rfl) trivial (fun _ => rfl) (fun m d => (slices_Compare_Sint_int_l0_ok N (slices_Compare_Sint_int_l0 N m) d).symm) N, trivial⟩) (F_slices_Compare_Sint_int_ok N)
theorem C_slices_Compare_Sint_int : Contract Tryz.prog 113 S_slices_Compare_Sint_int := Contract.less (fun N : Nat => F_slices_Compare_Sint_int N) C_slices_Compare_Sint_int_raw compare_lim
theorem C_impl_IsGraph_raw (N : Nat) : Contract Tryz.prog 88 ⟨[(K_PiSPiiqq, false)], [.bool], true, F_impl_IsGraph N⟩ :=
  have E : Env Tryz.prog Γ_impl_IsGraph := env_of tab ⟨C_impl_within, ⟨C_slices_Compare_Sint_int, trivial⟩⟩
  con_of (Pc := [(0, ⟨impl_IsGraph_l0_h, impl_IsGraph_l0_o, impl_IsGraph_l0 N N⟩)]) E rfl mixed Tryz.func88 (by kernel_rfl) (by kernel_rfl) (by kernel_rfl) (by kernel_rfl) (fun A hA => ⟨pc_of (inner := []) E mixed hA (by kernel_rfl) (by kernel_rfl) (by kernel_rfl) trivial (fun _ => rfl) (fun m d => (impl_IsGraph_l0_ok N (impl_IsGraph_l0 N m) d).symm) N, trivial⟩) (F_impl_IsGraph_ok N)
theorem C_impl_IsGraph : Contract Tryz.prog 88 S_impl_IsGraph := Contract.less (fun N : Nat => F_impl_IsGraph N) C_impl_IsGraph_raw IsGraph_lim
theorem C_impl_isCopGame_raw (N : Nat) : Contract Tryz.prog 62 ⟨[(K_PiSPiiqq, false), (I, false)], [.bool], true, F_impl_isCopGame N⟩ :=
  have E : Env Tryz.prog Γ_impl_isCopGame := env_of tab ⟨C_impl_within, ⟨C_impl_IsGraph, trivial⟩⟩
  con_of (Pc := []) E rfl mixed Tryz.func62 (by kernel_rfl) (by kernel_rfl) (by kernel_rfl) (by kernel_rfl) (fun A hA => trivial) (F_impl_isCopGame_ok N)
theorem C_impl_isCopGame : Contract Tryz.prog 62 S_impl_isCopGame := C_impl_isCopGame_raw 0
theorem C_impl_allWithin_raw (N : Nat) : Contract Tryz.prog 110 ⟨[(K_Si, false), (I, false), (I, false)], [.bool], true, F_impl_allWithin N⟩ :=
  have E : Env Tryz.prog Γ_impl_allWithin := env_of tab ⟨C_impl_within, trivial⟩
  con_of (Pc := [(0, ⟨impl_allWithin_l0_h, impl_allWithin_l0_o, impl_allWithin_l0 N N⟩)]) E rfl mixed Tryz.func110 (by kernel_rfl) (by kernel_rfl) (by kernel_rfl) (by kernel_rfl) (fun A hA => ⟨pc_of (inner := []) E mixed hA (by kernel_rfl) (by kernel_rfl) (by kernel_rfl) trivial (fun _ => rfl) (fun m d => (impl_allWithin_l0_ok N (impl_allWithin_l0 N m) d).symm) N, trivial⟩) (F_impl_allWithin_ok N)
theorem C_impl_allWithin : Contract Tryz.prog 110 S_impl_allWithin := Contract.less (fun N : Nat => F_impl_allWithin N) C_impl_allWithin_raw allWithin_lim
theorem C_impl_hasNodes_raw (N : Nat) : Contract Tryz.prog 68 ⟨[(K_PiSPiiqq, false), (K_Si, false)], [.bool], true, F_impl_hasNodes N⟩ :=
  have E : Env Tryz.prog Γ_impl_hasNodes := env_of tab ⟨C_impl_IsGraph, ⟨C_impl_allWithin, trivial⟩⟩
  con_of (Pc := []) E rfl mixed Tryz.func68 (by kernel_rfl) (by kernel_rfl) (by kernel_rfl) (by kernel_rfl) (fun A hA => trivial) (F_impl_hasNodes_ok N)
theorem C_impl_hasNodes : Contract Tryz.prog 68 S_impl_hasNodes := C_impl_hasNodes_raw 0
theorem C_cmp_Less_int_raw (N : Nat) : Contract Tryz.prog 129 ⟨[(I, false), (I, false)], [.bool], true, F_cmp_Less_int N⟩ :=
  have E : Env Tryz.prog Γ_cmp_Less_int := env_of tab ⟨C_cmp_isNaN_int, trivial⟩
  con_of (Pc := []) E rfl mixed Tryz.func129 (by kernel_rfl) (by kernel_rfl) (by kernel_rfl) (by kernel_rfl) (fun A hA => trivial) (F_cmp_Less_int_ok N)
theorem C_cmp_Less_int : Contract Tryz.prog 129 S_cmp_Less_int := Contract.less (fun N : Nat => F_cmp_Less_int N) C_cmp_Less_int_raw (fun d r h => ⟨0, (F_cmp_Less_int_tot 0 d).trans h⟩)
theorem C_slices_IsSorted_Sint_int_raw (N : Nat) : Contract Tryz.prog 109 ⟨[(K_Si, false)], [.bool], true, F_slices_IsSorted_Sint_int N⟩ :=
  have E : Env Tryz.prog Γ_slices_IsSorted_Sint_int := env_of tab ⟨C_cmp_Less_int, trivial⟩
  con_of (Pc := [(0, ⟨slices_IsSorted_Sint_int_l0_h, slices_IsSorted_Sint_int_l0_o, slices_IsSorted_Sint_int_l0 N N⟩)]) E rfl mixed Tryz.func109 (by kernel_rfl) (by kernel_rfl) (by kernel_rfl) (by kernel_rfl) (fun A hA => ⟨pc_of (inner := []) E mixed hA (by kernel_rfl) (by kernel_rfl) (by kernel_rfl) trivial (fun _ => rfl) (fun m d => (slices_IsSorted_Sint_int_l0_ok N (slices_IsSorted_Sint_int_l0 N m) d).symm) N, trivial⟩) (F_slices_IsSorted_Sint_int_ok N)
theorem C_slices_IsSorted_Sint_int : Contract Tryz.prog 109 S_slices_IsSorted_Sint_int := Contract.less (fun N : Nat => F_slices_IsSorted_Sint_int N) C_slices_IsSorted_Sint_int_raw isSorted_lim
theorem C_impl_areCops_raw (N : Nat) : Contract Tryz.prog 67 ⟨[(K_PiSPiiqq, false), (K_Si, false)], [.bool], true, F_impl_areCops N⟩ :=
  have E : Env Tryz.prog Γ_impl_areCops := env_of tab ⟨C_impl_isCopGame, ⟨C_impl_hasNodes, ⟨C_slices_IsSorted_Sint_int, trivial⟩⟩⟩
  con_of (Pc := []) E rfl mixed Tryz.func67 (by kernel_rfl) (by kernel_rfl) (by kernel_rfl) (by kernel_rfl) (fun A hA => trivial) (F_impl_areCops_ok N)
theorem C_impl_areCops : Contract Tryz.prog 67 S_impl_areCops := C_impl_areCops_raw 0
theorem C_impl_netOf_raw (N : Nat) : Contract Tryz.prog 50 ⟨[(K_PiSPiiqq, false)], [K_PSiq], true, F_impl_netOf N⟩ :=
  have E : Env Tryz.prog Γ_impl_netOf := env_of tab trivial
  con_of (Pc := [(0, ⟨impl_netOf_l0_h, impl_netOf_l0_o, impl_netOf_l0 N N⟩)]) E rfl mixed Tryz.func50 (by kernel_rfl) (by kernel_rfl) (by kernel_rfl) (by kernel_rfl) (fun A hA => ⟨pc_of (inner := []) E mixed hA (by kernel_rfl) (by kernel_rfl) (by kernel_rfl) trivial (fun _ => rfl) (fun m d => (impl_netOf_l0_ok N (impl_netOf_l0 N m) d).symm) N, trivial⟩) (F_impl_netOf_ok N)
theorem C_impl_netOf : Contract Tryz.prog 50 S_impl_netOf := Contract.less (fun N : Nat => F_impl_netOf N) C_impl_netOf_raw netOf_lim
theorem C_impl_net_size_raw (N : Nat) : Contract Tryz.prog 105 ⟨[(K_PSiq, false)], [I], true, F_impl_net_size N⟩ :=
  have E : Env Tryz.prog Γ_impl_net_size := env_of tab trivial
  con_of (Pc := []) E rfl mixed Tryz.func105 (by kernel_rfl) (by kernel_rfl) (by kernel_rfl) (by kernel_rfl) (fun A hA => trivial) (F_impl_net_size_ok N)
theorem C_impl_net_size : Contract Tryz.prog 105 S_impl_net_size := Contract.less (fun N : Nat => F_impl_net_size N) C_impl_net_size_raw (fun d r h => ⟨0, (F_impl_net_size_tot 0 d).trans h⟩)
theorem C_slices_Clone_Sint_int_raw (N : Nat) : Contract Tryz.prog 80 ⟨[(K_Si, false)], [K_Si], true, F_slices_Clone_Sint_int N⟩ :=
  have E : Env Tryz.prog Γ_slices_Clone_Sint_int := env_of tab trivial
  con_of (Pc := []) E rfl mixed Tryz.func80 (by kernel_rfl) (by kernel_rfl) (by kernel_rfl) (by kernel_rfl) (fun A hA => trivial) (F_slices_Clone_Sint_int_ok N)
theorem C_slices_Clone_Sint_int : Contract Tryz.prog 80 S_slices_Clone_Sint_int := Contract.less (fun N : Nat => F_slices_Clone_Sint_int N) C_slices_Clone_Sint_int_raw cloneI_lim
theorem C_impl_copLists_raw (N : Nat) : Contract Tryz.prog 125 ⟨[(I, false), (I, false)], [K_SSi], true, F_impl_copLists N⟩ :=
  have E : Env Tryz.prog Γ_impl_copLists := env_ofV tab ⟨C_slices_Clone_Sint_int, trivial⟩ trivial (fun _ h => by cases h)
  con_of (Pc := [(0, ⟨impl_copLists_l0_h, impl_copLists_l0_o, impl_copLists_l0 N N⟩)]) E rfl mixed Tryz.func125 (by kernel_rfl) (by kernel_rfl) (by kernel_rfl) (by kernel_rfl) (fun A hA => ⟨pc_of (inner := [(2, ⟨impl_copLists_l2_h, impl_copLists_l2_o, impl_copLists_l2 N N⟩)]) E mixed hA (by kernel_rfl) (by kernel_rfl) (by kernel_rfl) ⟨pc_of (inner := [(4, ⟨impl_copLists_l4_h, impl_copLists_l4_o, impl_copLists_l4 N N⟩)]) E mixed hA (by kernel_rfl) (by kernel_rfl) (by kernel_rfl) ⟨pc_of (inner := []) E mixed hA (by kernel_rfl) (by kernel_rfl) (by kernel_rfl) trivial (fun _ => rfl) (fun m d => (impl_copLists_l4_ok N (impl_copLists_l4 N m) d).symm) N, trivial⟩ (fun _ => rfl) (fun m d => (impl_copLists_l2_ok N (impl_copLists_l2 N m) d).symm) N, trivial⟩ (fun _ => rfl) (fun m d => (impl_copLists_l0_ok N (impl_copLists_l0 N m) d).symm) N, trivial⟩) (F_impl_copLists_ok N)
theorem C_impl_copLists : Contract Tryz.prog 125 S_impl_copLists := Contract.less (fun N : Nat => F_impl_copLists N) C_impl_copLists_raw copLists_lim
theorem C_impl_net_closed_raw (N : Nat) : Contract Tryz.prog 100 ⟨[(K_PSiq, false), (I, false)], [I], true, F_impl_net_closed N⟩ :=
  have E : Env Tryz.prog Γ_impl_net_closed := env_of tab trivial
  con_of (Pc := []) E rfl mixed Tryz.func100 (by kernel_rfl) (by kernel_rfl) (by kernel_rfl) (by kernel_rfl) (fun A hA => trivial) (F_impl_net_closed_ok N)
theorem C_impl_net_closed : Contract Tryz.prog 100 S_impl_net_closed := C_impl_net_closed_raw 0
theorem C_impl_setOf_raw (N : Nat) : Contract Tryz.prog 52 ⟨[(I, false)], [K_Si], true, F_impl_setOf N⟩ :=
  have E : Env Tryz.prog Γ_impl_setOf := env_of tab trivial
  con_of (Pc := [(0, ⟨impl_setOf_l0_h, impl_setOf_l0_o, impl_setOf_l0 N N⟩)]) E rfl mixed Tryz.func52 (by kernel_rfl) (by kernel_rfl) (by kernel_rfl) (by kernel_rfl) (fun A hA => ⟨pc_of (inner := []) E mixed hA (by kernel_rfl) (by kernel_rfl) (by kernel_rfl) trivial (fun _ => rfl) (fun m d => (impl_setOf_l0_ok N (impl_setOf_l0 N m) d).symm) N, trivial⟩) (F_impl_setOf_ok N)
theorem C_impl_setOf : Contract Tryz.prog 52 S_impl_setOf := Contract.less (fun N : Nat => F_impl_setOf N) C_impl_setOf_raw setOf_lim
theorem C_slices_CompactFunc_SSint_Sint_by_slices_Equal_Sint_int : ContractG Tryz.prog 123 (S_slices_CompactFunc_SSint_Sint_by_slices_Equal_Sint_int, { gone := [0], deep := [] }) := con_compactF (enters_of Tryz.func123 (by kernel_rfl) rfl) (fun w v1 v2 xs ys h1 h2 l1 l2 => eqH h1 h2 l1 l2) compact74 compact74_small
theorem C_impl_net_copMoves_raw (N : Nat) : Contract Tryz.prog 90 ⟨[(K_PSiq, false), (K_Si, false)], [K_SSi], true, F_impl_net_copMoves N⟩ :=
  have E : Env Tryz.prog Γ_impl_net_copMoves := env_ofG tab ⟨C_impl_setOf, ⟨C_slices_Clone_Sint_int, ⟨C_impl_net_closed, ⟨C_slices_Sort_Sint_int, ⟨C_slices_SortFunc_SSint_Sint_by_slices_Compare_Sint_int, trivial⟩⟩⟩⟩⟩ trivial (fun _ h => by cases h) ⟨C_slices_CompactFunc_SSint_Sint_by_slices_Equal_Sint_int, trivial⟩ (by kernel_rfl)
  con_of (Pc := [(0, ⟨impl_net_copMoves_l0_h, impl_net_copMoves_l0_o, impl_net_copMoves_l0 N N⟩), (6, ⟨impl_net_copMoves_l6_h, impl_net_copMoves_l6_o, impl_net_copMoves_l6 N N⟩)]) E rfl mixed Tryz.func90 (by kernel_rfl) (by kernel_rfl) (by kernel_rfl) (by kernel_rfl) (fun A hA => ⟨pc_of (inner := [(2, ⟨impl_net_copMoves_l2_h, impl_net_copMoves_l2_o, impl_net_copMoves_l2 N N⟩)]) E mixed hA (by kernel_rfl) (by kernel_rfl) (by kernel_rfl) ⟨pc_of (inner := [(4, ⟨impl_net_copMoves_l4_h, impl_net_copMoves_l4_o, impl_net_copMoves_l4 N N⟩)]) E mixed hA (by kernel_rfl) (by kernel_rfl) (by kernel_rfl) ⟨pc_of (inner := []) E mixed hA (by kernel_rfl) (by kernel_rfl) (by kernel_rfl) trivial (fun _ => rfl) (fun m d => (impl_net_copMoves_l4_ok N (impl_net_copMoves_l4 N m) d).symm) N, trivial⟩ (fun _ => rfl) (fun m d => (impl_net_copMoves_l2_ok N (impl_net_copMoves_l2 N m) d).symm) N, trivial⟩ (fun _ => rfl) (fun m d => (impl_net_copMoves_l0_ok N (impl_net_copMoves_l0 N m) d).symm) N, ⟨pc_of (inner := []) E mixed hA (by kernel_rfl) (by kernel_rfl) (by kernel_rfl) trivial (fun _ => rfl) (fun m d => (impl_net_copMoves_l6_ok N (impl_net_copMoves_l6 N m) d).symm) N, trivial⟩⟩) (F_impl_net_copMoves_ok N)
theorem C_impl_net_copMoves : Contract Tryz.prog 90 S_impl_net_copMoves := Contract.less (fun N : Nat => F_impl_net_copMoves N) C_impl_net_copMoves_raw copMoves47_lim
theorem CV_slices_Compare_Sint_int : ContractV Tryz.prog SV_slices_Compare_Sint_int := conV_0_2_0 C_slices_Compare_Sint_int
theorem C_slices_BinarySearchFunc_SSint_Sint_Sint_by_slices_Compare_Sint_int_raw (N : Nat) : Contract Tryz.prog 112 ⟨[(K_SSi, false), (K_Si, false), (K_F_slices_Compare_Sint_int_qq, false)], [I, .bool], true, F_slices_BinarySearchFunc_SSint_Sint_Sint_by_slices_Compare_Sint_int N⟩ :=
  have E : Env Tryz.prog Γ_slices_BinarySearchFunc_SSint_Sint_Sint_by_slices_Compare_Sint_int := env_ofV tab trivial ⟨CV_slices_Compare_Sint_int, trivial⟩ (fun _ h => by cases h)
  con_of (Pc := [(0, ⟨slices_BinarySearchFunc_SSint_Sint_Sint_by_slices_Compare_Sint_int_l0_h, slices_BinarySearchFunc_SSint_Sint_Sint_by_slices_Compare_Sint_int_l0_o, slices_BinarySearchFunc_SSint_Sint_Sint_by_slices_Compare_Sint_int_l0 N N⟩)]) E rfl mixed Tryz.func112 (by kernel_rfl) (by kernel_rfl) (by kernel_rfl) (by kernel_rfl) (fun A hA => ⟨pc_of (inner := []) E mixed hA (by kernel_rfl) (by kernel_rfl) (by kernel_rfl) trivial (fun _ => rfl) (fun m d => (slices_BinarySearchFunc_SSint_Sint_Sint_by_slices_Compare_Sint_int_l0_ok N (slices_BinarySearchFunc_SSint_Sint_Sint_by_slices_Compare_Sint_int_l0 N m) d).symm) N, trivial⟩) (F_slices_BinarySearchFunc_SSint_Sint_Sint_by_slices_Compare_Sint_int_ok N)
theorem C_slices_BinarySearchFunc_SSint_Sint_Sint_by_slices_Compare_Sint_int : Contract Tryz.prog 112 S_slices_BinarySearchFunc_SSint_Sint_Sint_by_slices_Compare_Sint_int := Contract.less (fun N : Nat => F_slices_BinarySearchFunc_SSint_Sint_Sint_by_slices_Compare_Sint_int N) C_slices_BinarySearchFunc_SSint_Sint_Sint_by_slices_Compare_Sint_int_raw binSearch_lim
theorem C_impl_copGame_place_raw (N : Nat) : Contract Tryz.prog 71 ⟨[(K_BPPZiqZSiSSiSSiq, false), (K_Si, false)], [I], true, F_impl_copGame_place N⟩ :=
  have E : Env Tryz.prog Γ_impl_copGame_place := env_of tab ⟨C_slices_BinarySearchFunc_SSint_Sint_Sint_by_slices_Compare_Sint_int, trivial⟩
  con_of (Pc := []) E rfl mixed Tryz.func71 (by kernel_rfl) (by kernel_rfl) (by kernel_rfl) (by kernel_rfl) (fun A hA => trivial) (F_impl_copGame_place_ok N)
theorem C_impl_copGame_place : Contract Tryz.prog 71 S_impl_copGame_place := C_impl_copGame_place_raw 0
theorem C_impl_net_copBoard_raw (N : Nat) : ContractG Tryz.prog 103 (⟨[(K_PSiq, false), (I, false)], [K_BPPZiqZSiSSiSSiq], true, F_impl_net_copBoard N⟩, md0) :=
  have E : Env Tryz.prog Γ_impl_net_copBoard := env_of tab ⟨C_impl_copGame_place, ⟨C_impl_net_copMoves, ⟨C_impl_net_size, ⟨C_impl_copLists, trivial⟩⟩⟩⟩
  con_ofG (Pc := [(0, ⟨impl_net_copBoard_l0_h, impl_net_copBoard_l0_o, impl_net_copBoard_l0 N N⟩)]) E mixed Tryz.func103 (by kernel_rfl) (by kernel_rfl) (by kernel_rfl) (by kernel_rfl) (fun A hA => ⟨pc_of (inner := [(2, ⟨impl_net_copBoard_l2_h, impl_net_copBoard_l2_o, impl_net_copBoard_l2 N N⟩)]) E mixed hA (by kernel_rfl) (by kernel_rfl) (by kernel_rfl) ⟨pc_of (inner := []) E mixed hA (by kernel_rfl) (by kernel_rfl) (by kernel_rfl) trivial (fun _ => rfl) (fun m d => (impl_net_copBoard_l2_ok N (impl_net_copBoard_l2 N m) d).symm) N, trivial⟩ (fun _ => rfl) (fun m d => (impl_net_copBoard_l0_ok N (impl_net_copBoard_l0 N m) d).symm) N, trivial⟩) (F_impl_net_copBoard_ok N)
theorem C_impl_net_copBoard : ContractG Tryz.prog 103 (S_impl_net_copBoard, md0) := ContractG.less (fun N : Nat => F_impl_net_copBoard N) C_impl_net_copBoard_raw copBoard_lim
theorem C_slices_Index_Sint_int_raw (N : Nat) : Contract Tryz.prog 111 ⟨[(K_Si, false), (I, false)], [I], true, F_slices_Index_Sint_int N⟩ :=
  have E : Env Tryz.prog Γ_slices_Index_Sint_int := env_of tab trivial
  con_of (Pc := [(0, ⟨slices_Index_Sint_int_l0_h, slices_Index_Sint_int_l0_o, slices_Index_Sint_int_l0 N N⟩)]) E rfl mixed Tryz.func111 (by kernel_rfl) (by kernel_rfl) (by kernel_rfl) (by kernel_rfl) (fun A hA => ⟨pc_of (inner := []) E mixed hA (by kernel_rfl) (by kernel_rfl) (by kernel_rfl) trivial (fun _ => rfl) (fun m d => (slices_Index_Sint_int_l0_ok N (slices_Index_Sint_int_l0 N m) d).symm) N, trivial⟩) (F_slices_Index_Sint_int_ok N)
theorem C_slices_Index_Sint_int : Contract Tryz.prog 111 S_slices_Index_Sint_int := Contract.less (fun N : Nat => F_slices_Index_Sint_int N) C_slices_Index_Sint_int_raw index_lim
theorem C_slices_Contains_Sint_int_raw (N : Nat) : Contract Tryz.prog 69 ⟨[(K_Si, false), (I, false)], [.bool], true, F_slices_Contains_Sint_int N⟩ :=
  have E : Env Tryz.prog Γ_slices_Contains_Sint_int := env_of tab ⟨C_slices_Index_Sint_int, trivial⟩
  con_of (Pc := []) E rfl mixed Tryz.func69 (by kernel_rfl) (by kernel_rfl) (by kernel_rfl) (by kernel_rfl) (fun A hA => trivial) (F_slices_Contains_Sint_int_ok N)
theorem C_slices_Contains_Sint_int : Contract Tryz.prog 69 S_slices_Contains_Sint_int := C_slices_Contains_Sint_int_raw 0
theorem C_impl_net_timeAfter_raw (N : Nat) : Contract Tryz.prog 116 ⟨[(K_PSiq, false), (K_Si, false), (I, false)], [I], true, F_impl_net_timeAfter N⟩ :=
  have E : Env Tryz.prog Γ_impl_net_timeAfter := env_of tab ⟨C_impl_setOf, ⟨C_impl_net_closed, trivial⟩⟩
  con_of (Pc := [(0, ⟨impl_net_timeAfter_l0_h, impl_net_timeAfter_l0_o, impl_net_timeAfter_l0 N N⟩)]) E rfl mixed Tryz.func116 (by kernel_rfl) (by kernel_rfl) (by kernel_rfl) (by kernel_rfl) (fun A hA => ⟨pc_of (inner := []) E mixed hA (by kernel_rfl) (by kernel_rfl) (by kernel_rfl) trivial (fun _ => rfl) (fun m d => (impl_net_timeAfter_l0_ok N (impl_net_timeAfter_l0 N m) d).symm) N, trivial⟩) (F_impl_net_timeAfter_ok N)
theorem C_impl_net_timeAfter : Contract Tryz.prog 116 S_impl_net_timeAfter := Contract.less (fun N : Nat => F_impl_net_timeAfter N) C_impl_net_timeAfter_raw timeAfter_lim
theorem C_impl_copGame_can_1_raw (N : Nat) : Contract Tryz.prog 128 ⟨[(I, false), (K_BBPPZiqZSiSSiSSiq, false), (K_Bi, false)], [.bool], true, F_impl_copGame_can_1 N⟩ :=
  have E : Env Tryz.prog Γ_impl_copGame_can_1 := env_ofV tab ⟨C_slices_Contains_Sint_int, ⟨C_impl_net_timeAfter, trivial⟩⟩ trivial (w1_of (by kernel_rfl))
  con_of (Pc := []) E rfl mixed Tryz.func128 (by kernel_rfl) (by kernel_rfl) (by kernel_rfl) (by kernel_rfl) (fun A hA => trivial) (F_impl_copGame_can_1_ok N)
theorem C_impl_copGame_can_1 : Contract Tryz.prog 128 S_impl_copGame_can_1 := C_impl_copGame_can_1_raw 0
theorem CV_impl_copGame_can_1 : ContractV Tryz.prog SV_impl_copGame_can_1 := conV_0_1_2 C_impl_copGame_can_1
theorem C_slices_IndexFunc_Sint_int_by_impl_copGame_can_1_raw (N : Nat) : Contract Tryz.prog 137 ⟨[(K_Si, false), (K_F_impl_copGame_can_1_qPBBPPZiqZSiSSiSSiqBiq, false)], [I], true, F_slices_IndexFunc_Sint_int_by_impl_copGame_can_1 N⟩ :=
  have E : Env Tryz.prog Γ_slices_IndexFunc_Sint_int_by_impl_copGame_can_1 := env_ofV tab trivial ⟨CV_impl_copGame_can_1, trivial⟩ (fun _ h => by cases h)
  con_of (Pc := [(0, ⟨slices_IndexFunc_Sint_int_by_impl_copGame_can_1_l0_h, slices_IndexFunc_Sint_int_by_impl_copGame_can_1_l0_o, slices_IndexFunc_Sint_int_by_impl_copGame_can_1_l0 N N⟩)]) E rfl mixed Tryz.func137 (by kernel_rfl) (by kernel_rfl) (by kernel_rfl) (by kernel_rfl) (fun A hA => ⟨pc_of (inner := []) E mixed hA (by kernel_rfl) (by kernel_rfl) (by kernel_rfl) trivial (fun _ => rfl) (fun m d => (slices_IndexFunc_Sint_int_by_impl_copGame_can_1_l0_ok N (slices_IndexFunc_Sint_int_by_impl_copGame_can_1_l0 N m) d).symm) N, trivial⟩) (F_slices_IndexFunc_Sint_int_by_impl_copGame_can_1_ok N)
theorem C_slices_IndexFunc_Sint_int_by_impl_copGame_can_1 : Contract Tryz.prog 137 S_slices_IndexFunc_Sint_int_by_impl_copGame_can_1 := Contract.less (fun N : Nat => F_slices_IndexFunc_Sint_int_by_impl_copGame_can_1 N) C_slices_IndexFunc_Sint_int_by_impl_copGame_can_1_raw gameCan_lim
theorem C_slices_ContainsFunc_Sint_int_by_impl_copGame_can_1_raw (N : Nat) : Contract Tryz.prog 127 ⟨[(K_Si, false), (K_F_impl_copGame_can_1_qPBBPPZiqZSiSSiSSiqBiq, false)], [.bool], true, F_slices_ContainsFunc_Sint_int_by_impl_copGame_can_1 N⟩ :=
  have E : Env Tryz.prog Γ_slices_ContainsFunc_Sint_int_by_impl_copGame_can_1 := env_of tab ⟨C_slices_IndexFunc_Sint_int_by_impl_copGame_can_1, trivial⟩
  con_of (Pc := []) E rfl mixed Tryz.func127 (by kernel_rfl) (by kernel_rfl) (by kernel_rfl) (by kernel_rfl) (fun A hA => trivial) (F_slices_ContainsFunc_Sint_int_by_impl_copGame_can_1_ok N)
theorem C_slices_ContainsFunc_Sint_int_by_impl_copGame_can_1 : Contract Tryz.prog 127 S_slices_ContainsFunc_Sint_int_by_impl_copGame_can_1 := C_slices_ContainsFunc_Sint_int_by_impl_copGame_can_1_raw 0
theorem C_impl_copGame_can_raw (N : Nat) : Contract Tryz.prog 106 ⟨[(K_BPPZiqZSiSSiSSiq, false), (I, false), (I, false)], [.bool], true, F_impl_copGame_can N⟩ :=
  have E : Env Tryz.prog Γ_impl_copGame_can := env_ofV tab ⟨C_slices_ContainsFunc_Sint_int_by_impl_copGame_can_1, trivial⟩ trivial (w1_of (by kernel_rfl))
  con_of (Pc := []) E rfl mixed Tryz.func106 (by kernel_rfl) (by kernel_rfl) (by kernel_rfl) (by kernel_rfl) (fun A hA => trivial) (F_impl_copGame_can_ok N)
theorem C_impl_copGame_can : Contract Tryz.prog 106 S_impl_copGame_can := C_impl_copGame_can_raw 0
theorem C_impl_net_copGame_raw (N : Nat) : ContractG Tryz.prog 63 (⟨[(K_PSiq, false), (I, false)], [K_BPPZiqZSiSSiSSiq], true, F_impl_net_copGame N⟩, md0) :=
  have E : Env Tryz.prog Γ_impl_net_copGame := env_ofG tab ⟨C_slices_Repeat_Sint_int, ⟨C_impl_net_size, ⟨C_impl_copGame_can, trivial⟩⟩⟩ trivial (fun _ h => by cases h) ⟨C_impl_net_copBoard, trivial⟩ (by kernel_rfl)
  con_ofG (Pc := [(0, ⟨impl_net_copGame_l0_h, impl_net_copGame_l0_o, impl_net_copGame_l0 N N⟩), (4, ⟨impl_net_copGame_l4_h, impl_net_copGame_l4_o, impl_net_copGame_l4 N N⟩)]) E mixed Tryz.func63 (by kernel_rfl) (by kernel_rfl) (by kernel_rfl) (by kernel_rfl) (fun A hA => ⟨pc_of (inner := [(2, ⟨impl_net_copGame_l2_h, impl_net_copGame_l2_o, impl_net_copGame_l2 N N⟩)]) E mixed hA (by kernel_rfl) (by kernel_rfl) (by kernel_rfl) ⟨pc_of (inner := []) E mixed hA (by kernel_rfl) (by kernel_rfl) (by kernel_rfl) trivial (fun _ => rfl) (fun m d => (impl_net_copGame_l2_ok N (impl_net_copGame_l2 N m) d).symm) N, trivial⟩ (fun _ => rfl) (fun m d => (impl_net_copGame_l0_ok N (impl_net_copGame_l0 N m) d).symm) N, ⟨pc_of (inner := [(6, ⟨impl_net_copGame_l6_h, impl_net_copGame_l6_o, impl_net_copGame_l6 N N⟩), (10, ⟨impl_net_copGame_l10_h, impl_net_copGame_l10_o, impl_net_copGame_l10 N N⟩)]) E mixed hA (by kernel_rfl) (by kernel_rfl) (by kernel_rfl) ⟨pc_of (inner := [(8, ⟨impl_net_copGame_l8_h, impl_net_copGame_l8_o, impl_net_copGame_l8 N N⟩)]) E mixed hA (by kernel_rfl) (by kernel_rfl) (by kernel_rfl) ⟨pc_of (inner := []) E mixed hA (by kernel_rfl) (by kernel_rfl) (by kernel_rfl) trivial (fun _ => rfl) (fun m d => (impl_net_copGame_l8_ok N (impl_net_copGame_l8 N m) d).symm) N, trivial⟩ (fun _ => rfl) (fun m d => (impl_net_copGame_l6_ok N (impl_net_copGame_l6 N m) d).symm) N, ⟨pc_of (inner := []) E mixed hA (by kernel_rfl) (by kernel_rfl) (by kernel_rfl) trivial (fun _ => rfl) (fun m d => (impl_net_copGame_l10_ok N (impl_net_copGame_l10 N m) d).symm) N, trivial⟩⟩ (fun _ => rfl) (fun m d => (impl_net_copGame_l4_ok N (impl_net_copGame_l4 N m) d).symm) N, trivial⟩⟩) (F_impl_net_copGame_ok N)
theorem C_impl_net_copGame : ContractG Tryz.prog 63 (S_impl_net_copGame, md0) := ContractG.less (fun N : Nat => F_impl_net_copGame N) C_impl_net_copGame_raw copGame_lim
theorem C_impl_copGame_reply_raw (N : Nat) : Contract Tryz.prog 81 ⟨[(K_BPPZiqZSiSSiSSiq, false), (K_Si, false), (I, false)], [K_Si], false, F_impl_copGame_reply N⟩ :=
  have E : Env Tryz.prog Γ_impl_copGame_reply := env_of tab ⟨C_slices_Contains_Sint_int, ⟨C_impl_copGame_place, ⟨C_impl_net_timeAfter, trivial⟩⟩⟩
  con_of (Pc := [(0, ⟨impl_copGame_reply_l0_h, impl_copGame_reply_l0_o, impl_copGame_reply_l0 N N⟩)]) E rfl mixed Tryz.func81 (by kernel_rfl) (by kernel_rfl) (by kernel_rfl) (by kernel_rfl) (fun A hA => ⟨pc_of (inner := []) E mixed hA (by kernel_rfl) (by kernel_rfl) (by kernel_rfl) trivial (fun _ => rfl) (fun m d => (impl_copGame_reply_l0_ok N (impl_copGame_reply_l0 N m) d).symm) N, trivial⟩) (F_impl_copGame_reply_ok N)
theorem C_impl_copGame_reply : Contract Tryz.prog 81 S_impl_copGame_reply := Contract.less (fun N : Nat => F_impl_copGame_reply N) C_impl_copGame_reply_raw gameReply_lim
theorem C_impl_CopReply_raw (N : Nat) : Contract Tryz.prog 40 ⟨[(K_PiSPiiqq, false), (K_Si, false), (I, false)], [K_Si, .bool], true, F_impl_CopReply N⟩ :=
  have E : Env Tryz.prog Γ_impl_CopReply := env_ofG tab ⟨C_impl_netOf, ⟨C_impl_areCops, ⟨C_impl_hasNodes, ⟨C_impl_copGame_place, ⟨C_slices_Clone_Sint_int, ⟨C_impl_copGame_reply, trivial⟩⟩⟩⟩⟩⟩ trivial (fun _ h => by cases h) ⟨C_impl_net_copGame, trivial⟩ (by kernel_rfl)
  con_of (Pc := []) E rfl mixed Tryz.func40 (by kernel_rfl) (by kernel_rfl) (by kernel_rfl) (by kernel_rfl) (fun A hA => trivial) (F_impl_CopReply_ok N)
theorem C_impl_CopReply : Contract Tryz.prog 40 S_impl_CopReply := C_impl_CopReply_raw 0
theorem C_laws_eqIntS_raw (N : Nat) : Contract Tryz.prog 25 ⟨[(K_Si, false), (K_Si, false)], [.bool], true, F_laws_eqIntS N⟩ :=
  have E : Env Tryz.prog Γ_laws_eqIntS := env_of tab trivial
  con_of (Pc := [(0, ⟨laws_eqIntS_l0_h, laws_eqIntS_l0_o, laws_eqIntS_l0 N N⟩)]) E rfl mixed Tryz.func25 (by kernel_rfl) (by kernel_rfl) (by kernel_rfl) (by kernel_rfl) (fun A hA => ⟨pc_of (inner := []) E mixed hA (by kernel_rfl) (by kernel_rfl) (by kernel_rfl) trivial (fun _ => rfl) (fun m d => (laws_eqIntS_l0_ok N (laws_eqIntS_l0 N m) d).symm) N, trivial⟩) (F_laws_eqIntS_ok N)
theorem C_laws_eqIntS : Contract Tryz.prog 25 S_laws_eqIntS := Contract.less (fun N : Nat => F_laws_eqIntS N) C_laws_eqIntS_raw eqIntS_lim
theorem C_laws_eqIntA2_raw (N : Nat) : Contract Tryz.prog 96 ⟨[(K_Piiq, false), (K_Piiq, false)], [.bool], true, F_laws_eqIntA2 N⟩ :=
  have E : Env Tryz.prog Γ_laws_eqIntA2 := env_of tab trivial
  con_of (Pc := [(0, ⟨laws_eqIntA2_l0_h, laws_eqIntA2_l0_o, laws_eqIntA2_l0 N N⟩)]) E rfl mixed Tryz.func96 (by kernel_rfl) (by kernel_rfl) (by kernel_rfl) (by kernel_rfl) (fun A hA => ⟨pc_of (inner := []) E mixed hA (by kernel_rfl) (by kernel_rfl) (by kernel_rfl) trivial (fun _ => rfl) (fun m d => (laws_eqIntA2_l0_ok N (laws_eqIntA2_l0 N m) d).symm) N, trivial⟩) (F_laws_eqIntA2_ok N)
theorem C_laws_eqIntA2 : Contract Tryz.prog 96 S_laws_eqIntA2 := Contract.less (fun N : Nat => F_laws_eqIntA2 N) C_laws_eqIntA2_raw eqIntA2_lim
theorem C_laws_eqIntA2S_raw (N : Nat) : Contract Tryz.prog 53 ⟨[(K_SPiiq, false), (K_SPiiq, false)], [.bool], true, F_laws_eqIntA2S N⟩ :=
  have E : Env Tryz.prog Γ_laws_eqIntA2S := env_of tab ⟨C_laws_eqIntA2, trivial⟩
  con_of (Pc := [(0, ⟨laws_eqIntA2S_l0_h, laws_eqIntA2S_l0_o, laws_eqIntA2S_l0 N N⟩)]) E rfl mixed Tryz.func53 (by kernel_rfl) (by kernel_rfl) (by kernel_rfl) (by kernel_rfl) (fun A hA => ⟨pc_of (inner := []) E mixed hA (by kernel_rfl) (by kernel_rfl) (by kernel_rfl) trivial (fun _ => rfl) (fun m d => (laws_eqIntA2S_l0_ok N (laws_eqIntA2S_l0 N m) d).symm) N, trivial⟩) (F_laws_eqIntA2S_ok N)
theorem C_laws_eqIntA2S : Contract Tryz.prog 53 S_laws_eqIntA2S := Contract.less (fun N : Nat => F_laws_eqIntA2S N) C_laws_eqIntA2S_raw eqIntA2S_lim
theorem C_laws_eqGraph_raw (N : Nat) : Contract Tryz.prog 19 ⟨[(K_PiSPiiqq, false), (K_PiSPiiqq, false)], [.bool], true, F_laws_eqGraph N⟩ :=
  have E : Env Tryz.prog Γ_laws_eqGraph := env_of tab ⟨C_laws_eqIntA2S, trivial⟩
  con_of (Pc := []) E rfl mixed Tryz.func19 (by kernel_rfl) (by kernel_rfl) (by kernel_rfl) (by kernel_rfl) (fun A hA => trivial) (F_laws_eqGraph_ok N)
theorem C_laws_eqGraph : Contract Tryz.prog 19 S_laws_eqGraph := C_laws_eqGraph_raw 0
theorem C_laws_markIntA2S_raw (N : Nat) : Contract Tryz.prog 54 ⟨[(K_SPiiq, true), (I, false)], [I], true, F_laws_markIntA2S N⟩ :=
  have E : Env Tryz.prog Γ_laws_markIntA2S := env_of tab trivial
  con_of (Pc := [(0, ⟨laws_markIntA2S_l0_h, laws_markIntA2S_l0_o, laws_markIntA2S_l0 N N⟩)]) E rfl mixed Tryz.func54 (by kernel_rfl) (by kernel_rfl) (by kernel_rfl) (by kernel_rfl) (fun A hA => ⟨pc_of (inner := [(2, ⟨laws_markIntA2S_l2_h, laws_markIntA2S_l2_o, laws_markIntA2S_l2 N N⟩)]) E mixed hA (by kernel_rfl) (by kernel_rfl) (by kernel_rfl) ⟨pc_of (inner := []) E mixed hA (by kernel_rfl) (by kernel_rfl) (by kernel_rfl) trivial (fun _ => rfl) (fun m d => (laws_markIntA2S_l2_ok N (laws_markIntA2S_l2 N m) d).symm) N, trivial⟩ (fun _ => rfl) (fun m d => (laws_markIntA2S_l0_ok N (laws_markIntA2S_l0 N m) d).symm) N, trivial⟩) (F_laws_markIntA2S_ok N)
theorem C_laws_markIntA2S : Contract Tryz.prog 54 S_laws_markIntA2S := Contract.less (fun N : Nat => F_laws_markIntA2S N) C_laws_markIntA2S_raw markIntA2S_lim
theorem C_laws_markGraph_raw (N : Nat) : Contract Tryz.prog 20 ⟨[(K_PiSPiiqq, true), (I, false)], [I], true, F_laws_markGraph N⟩ :=
  have E : Env Tryz.prog Γ_laws_markGraph := env_of tab ⟨C_laws_markIntA2S, trivial⟩
  con_of (Pc := []) E rfl mixed Tryz.func20 (by kernel_rfl) (by kernel_rfl) (by kernel_rfl) (by kernel_rfl) (fun A hA => trivial) (F_laws_markGraph_ok N)
theorem C_laws_markGraph : Contract Tryz.prog 20 S_laws_markGraph := C_laws_markGraph_raw 0
theorem C_laws_markIntS_raw (N : Nat) : Contract Tryz.prog 26 ⟨[(K_Si, true), (I, false)], [I], true, F_laws_markIntS N⟩ :=
  have E : Env Tryz.prog Γ_laws_markIntS := env_of tab trivial
  con_of (Pc := [(0, ⟨laws_markIntS_l0_h, laws_markIntS_l0_o, laws_markIntS_l0 N N⟩)]) E rfl mixed Tryz.func26 (by kernel_rfl) (by kernel_rfl) (by kernel_rfl) (by kernel_rfl) (fun A hA => ⟨pc_of (inner := []) E mixed hA (by kernel_rfl) (by kernel_rfl) (by kernel_rfl) trivial (fun _ => rfl) (fun m d => (laws_markIntS_l0_ok N (laws_markIntS_l0 N m) d).symm) N, trivial⟩) (F_laws_markIntS_ok N)
theorem C_laws_markIntS : Contract Tryz.prog 26 S_laws_markIntS := Contract.less (fun N : Nat => F_laws_markIntS N) C_laws_markIntS_raw markIntS_lim
theorem C_laws_heldIntS_raw (N : Nat) : Contract Tryz.prog 27 ⟨[(K_Si, false), (I, false)], [I], true, F_laws_heldIntS N⟩ :=
  have E : Env Tryz.prog Γ_laws_heldIntS := env_of tab trivial
  con_of (Pc := [(0, ⟨laws_heldIntS_l0_h, laws_heldIntS_l0_o, laws_heldIntS_l0 N N⟩)]) E rfl mixed Tryz.func27 (by kernel_rfl) (by kernel_rfl) (by kernel_rfl) (by kernel_rfl) (fun A hA => ⟨pc_of (inner := []) E mixed hA (by kernel_rfl) (by kernel_rfl) (by kernel_rfl) trivial (fun _ => rfl) (fun m d => (laws_heldIntS_l0_ok N (laws_heldIntS_l0 N m) d).symm) N, trivial⟩) (F_laws_heldIntS_ok N)
theorem C_laws_heldIntS : Contract Tryz.prog 27 S_laws_heldIntS := Contract.less (fun N : Nat => F_laws_heldIntS N) C_laws_heldIntS_raw heldIntS_lim
theorem C_laws_FnExactCopReply_raw (N : Nat) : Contract Tryz.prog 10 ⟨[(K_PiSPiiqq, false), (K_Si, false), (I, false)], [.bool], true, F_laws_FnExactCopReply N⟩ :=
  have E : Env Tryz.prog Γ_laws_FnExactCopReply := env_of tab ⟨C_laws_szGraph, ⟨C_laws_toGraph, ⟨C_laws_eqGraph, ⟨C_laws_markGraph, ⟨C_laws_eqIntS, ⟨C_laws_markIntS, ⟨C_laws_heldIntS, ⟨C_laws_toIntS, ⟨C_spec_CopReply, ⟨C_impl_CopReply, trivial⟩⟩⟩⟩⟩⟩⟩⟩⟩⟩
  con_of (Pc := []) E rfl mixed Tryz.func10 (by kernel_rfl) (by kernel_rfl) (by kernel_rfl) (by kernel_rfl) (fun A hA => trivial) (F_laws_FnExactCopReply_ok N)
theorem C_laws_FnExactCopReply : Contract Tryz.prog 10 S_laws_FnExactCopReply := C_laws_FnExactCopReply_raw 0
end Go.V.W
