/- Trips, told plainly; the law FnExactEarliestTrip on plain data. -/
import Derived.Test.YtmeglfoapdkhdaaVS2o
set_option linter.unusedVariables false
set_option linter.unusedSimpArgs false
namespace Go.V.W
open Go.Proofs

theorem ends_of {t : Tt} (ht : timeB t = true) {x y : Nat} (hx : x < t.1.1.toNat) (hy : y < t.1.1.toNat) : endsB t (x : Int) (y : Int) = true := by
  obtain ⟨n1, n2, n3, n4, n5, n6, n7⟩ := time_facts ht (Int.le_refl 0)
  unfold endsB
  have h1 : inB 0 (t.1.1 - 1) (x : Int) = true := inB_iff.2 (by omega)
  have h2 : inB 0 (t.1.1 - 1) (y : Int) = true := inB_iff.2 (by omega)
  simp only [ht, h1, h2, Bool.and_self]
/-- A node is reached first after so many steps. -/
def isA (t : Tt) (c : Int) (z y k : Nat) : Prop := iterP t c (z : Int) k y = true ∧ ∀ m, m < k → iterP t c (z : Int) m y = false
def stepB (t : Tt) (c : Int) (z : Nat) (w : Nat) : Bool := nearI (openE t (c.tmod t.2.1)) (z : Int) (w : Int) || decide (w = z)
theorem isA_arr {t : Tt} {c : Int} {z y k : Nat} (hk : k < 33) (h : isA t c z y k) : arrI t c (z : Int) (y : Int) = (k : Int) := by
  unfold arrI
  simp only [Int.toNat_natCast]
  exact findF_eq _ hk h.1 h.2
theorem arr_isA {t : Tt} {c : Int} {z y k : Nat} (h : arrI t c (z : Int) (y : Int) = (k : Int)) : k < 33 ∧ isA t c z y k := by
  unfold arrI at h
  simp only [Int.toNat_natCast] at h
  rcases findF_cases (fun i => iterP t c (z : Int) i y) 33 0 with ⟨k1, k2⟩ | ⟨j, k1, k2, k3, k4, k5⟩
  · omega
  · have : j = k := by omega
    subst this
    exact ⟨by omega, k4, fun m hm => k5 m (by omega) hm⟩
theorem isA_next {t : Tt} {c : Int} {z y k : Nat} (hz : z < t.1.1.toNat) (hy : y < t.1.1.toNat) (h : isA t c z y (k + 1)) {v : Nat} (hv : v < t.1.1.toNat) (hb : stepB t c z v = true) (hi : iterP t (c + 1) (v : Int) k y = true) : isA t (c + 1) v y k := by
  refine ⟨hi, fun m hm => ?_⟩
  cases hh : iterP t (c + 1) (v : Int) m y with
  | false => rfl
  | true =>
    have := (iter_front rfl m c z y hz hy).2 ⟨v, hv, hb, hh⟩
    rw [h.2 (m + 1) (by omega)] at this
    cases this
theorem isA_some {t : Tt} {c : Int} {z y k : Nat} (hz : z < t.1.1.toNat) (hy : y < t.1.1.toNat) (h : isA t c z y (k + 1)) : ∃ w, 0 ≤ w ∧ w < 0 + t.1.1.toNat ∧ (stepB t c z w && iterP t (c + 1) (w : Int) k y) = true := by
  obtain ⟨w, h1, h2, h3⟩ := (iter_front rfl k c z y hz hy).1 h.1
  exact ⟨w, Nat.zero_le _, by omega, by rw [Bool.and_eq_true]; exact ⟨h2, h3⟩⟩
def nextW (t : Tt) (c : Int) (z y k : Nat) : Nat := firstF (fun w => stepB t c z w && iterP t (c + 1) (w : Int) k y) t.1.1.toNat 0
theorem nextW_spec {t : Tt} {c : Int} {z y k : Nat} (hz : z < t.1.1.toNat) (hy : y < t.1.1.toNat) (h : isA t c z y (k + 1)) : nextW t c z y k < t.1.1.toNat ∧ isA t (c + 1) (nextW t c z y k) y k := by
  have hs := firstF_spec (isA_some hz hy h)
  have e : firstF (fun w => stepB t c z w && iterP t (c + 1) (w : Int) k y) t.1.1.toNat 0 = nextW t c z y k := rfl
  rw [e] at hs
  obtain ⟨h1, h2, h3⟩ := hs
  simp only [Bool.and_eq_true] at h3
  exact ⟨by omega, isA_next hz hy h (by omega) h3.1 h3.2⟩
theorem tripL_succ (t : Tt) (y k : Nat) (c : Int) (z : Nat) : tripL t (y : Int) (k + 1) c z = (nextW t c z y k : Int) :: tripL t (y : Int) k (c + 1) (nextW t c z y k) := rfl

/-! ### the reference -/
theorem at_some {l : List Int} {j : Nat} {v : Int} (h : l[j]? = some v) : at_ I l j = v ∧ j < l.length := by
  have hj : j < l.length := by
    rcases Nat.lt_or_ge j l.length with h' | h'
    · exact h'
    · rw [List.getElem?_eq_none h'] at h
      cases h
  refine ⟨?_, hj⟩
  have e : at_ I l j = l[j] := at_get (e := I) hj
  rw [e]
  rw [List.getElem?_eq_getElem hj] at h
  exact Option.some.inj h
theorem ball_eq (g : Gr) (n : Nat) (hg : g.1 = (n : Int)) (hn : n ≤ 8) (ho : okL g.2.1 = true) (z : Int) : F_spec_l2Ball 0 (g, z, ()) = some (ballL n g.2.1 z, ()) := by
  unfold F_spec_l2Ball G_l2Neighbors G_l1Put
  have a2 : okS1 (setF (fun y => nearI g.2.1 z (y : Int)) n 0) = true := by
    have := setF_len (p := fun y => nearI g.2.1 z (y : Int)) (k := n) (x := 0)
    exact decide_eq_true (by omega)
  have a3 : (okL g.2.1 && decide (0 ≤ (n : Int)) && decide ((n : Int) ≤ 8)) = true := by
    rw [ho]
    simp
    omega
  simp only [hg, a3, if_true, Int.toNat_natCast, Option.bind_some, a2, ballL]
theorem specTrip_l2 (N : Nat) (t : Tt) (c : Int) (y i k z : Nat) (out ball : List Int) (j0 : Nat) (ht : timeB t = true) (ho : okT t = true) (h0 : 0 ≤ c) (h1 : c ≤ 1000) (hi : i ≤ 40) (hk : k < 33) (hy : y < t.1.1.toNat) (hz : z < t.1.1.toNat) (hA : isA t (c + (i : Int)) z y (k + 1)) (hl : ball.length ≤ 8)
    (hj0 : ball[j0]? = some (nextW t (c + (i : Int)) z y k : Int)) (hpre : ∀ m, m < j0 → ∃ w : Nat, w < t.1.1.toNat ∧ ball[m]? = some (w : Int) ∧ iterP t (c + (i : Int) + 1) (w : Int) k y = false) : ∀ (q j f : Nat), j + q = j0 → q < f →
    spec_EarliestTrip_l2 N f ((y : Int), c, t, ((i + 1 + k : Nat) : Int), out, (i : Int), ball, (j : Int), ()) = some (.inl ((y : Int), c, t, ((i + 1 + k : Nat) : Int), out, (i : Int), ball, (j0 : Int), ())) := by
  have hw1 : IntKind.wrap .i64 (c + (i : Int)) = c + (i : Int) := wrap_in _ (by omega) (by omega)
  have hw2 : IntKind.wrap .i64 (c + (i : Int) + 1) = c + (i : Int) + 1 := wrap_in _ (by omega) (by omega)
  have hw3 : IntKind.wrap .i64 (((i + 1 + k : Nat) : Int) - (i : Int)) = (k : Int) + 1 := by
    rw [wrap_in _ (by omega) (by omega)]
    omega
  have hw4 : IntKind.wrap .i64 ((k : Int) + 1 - 1) = (k : Int) := by
    rw [wrap_in _ (by omega) (by omega)]
    omega
  have hc2 : inB 0 2000 (c + (i : Int) + 1) = true := inB_iff.2 (by omega)
  intro q
  induction q with
  | zero =>
    intro j f e1 e2
    obtain ⟨f, rfl⟩ : ∃ m, f = m + 1 := ⟨f - 1, by omega⟩
    have e : j = j0 := by omega
    subst e
    obtain ⟨a1, a2⟩ := at_some hj0
    obtain ⟨w1, w2⟩ := nextW_spec hz hy hA
    show spec_EarliestTrip_l2_r N (spec_EarliestTrip_l2 N f) ((y : Int), c, t, ((i + 1 + k : Nat) : Int), out, (i : Int), ball, (j : Int), ()) = _
    unfold spec_EarliestTrip_l2_r
    simp only [idxIn_nat a2, if_true, hw1, hw2, hw3, hw4, Int.toNat_natCast, a1, G_l11Arrive, ho, ends_of ht w1 hy, hc2, Bool.and_self, Option.bind_some, isA_arr hk w2, bne_self_eq_false, Bool.false_eq_true, if_false]
  | succ q ih =>
    intro j f e1 e2
    obtain ⟨f, rfl⟩ : ∃ m, f = m + 1 := ⟨f - 1, by omega⟩
    obtain ⟨w, w1, w2, w3⟩ := hpre j (by omega)
    obtain ⟨a1, a2⟩ := at_some w2
    have hne : (arrI t (c + (i : Int) + 1) (w : Int) (y : Int) != (k : Int)) = true := by
      rw [bne_iff_ne]
      intro e
      have := (arr_isA e).2.1
      rw [w3] at this
      cases this
    have hw : IntKind.wrap .i64 ((j : Int) + 1) = ((j + 1 : Nat) : Int) := by
      rw [wrap_in _ (by omega) (by omega)]
      rfl
    show spec_EarliestTrip_l2_r N (spec_EarliestTrip_l2 N f) ((y : Int), c, t, ((i + 1 + k : Nat) : Int), out, (i : Int), ball, (j : Int), ()) = _
    unfold spec_EarliestTrip_l2_r
    simp only [idxIn_nat a2, if_true, hw1, hw2, hw3, hw4, Int.toNat_natCast, a1, G_l11Arrive, ho, ends_of ht w1 hy, hc2, Bool.and_self, Option.bind_some, hne, hw]
    exact ih (j + 1) f (by omega) (by omega)
theorem at_last {pre : List Int} {z : Int} : at_ I (pre ++ [z]) pre.length = z := (at_some (by simp)).1
theorem open_some {t : Tt} (ht : timeB t = true) (ho : okT t = true) {c : Int} (h0 : 0 ≤ c) (h1 : c ≤ 5000) : G_l11Open (t, c, ()) = some ((t.1.1, openE t (c.tmod t.2.1), ()), ()) := by
  unfold G_l11Open
  have e1 : decide (0 ≤ c) = true := by simp; omega
  have e2 : decide (c ≤ 5000) = true := by simp; omega
  rw [if_pos (by simp only [ht, ho, e1, e2, Bool.and_self])]
theorem openE_okL {t : Tt} (ho : okT t = true) (r : Int) : okL (openE t r) = true := by
  have hlen := selE_len t.1.2.1 t.2.2.1 r
  have := okL_lim (okT_parts ho).1
  exact decide_eq_true (Nat.le_trans hlen this)
theorem specTrip_l0 (N : Nat) (hN : 50 ≤ N) (t : Tt) (c : Int) (y a : Nat) (ht : timeB t = true) (ho : okT t = true) (h0 : 0 ≤ c) (h1 : c ≤ 1000) (ha : a < 33) (hy : y < t.1.1.toNat) : ∀ (k : Nat) (pre : List Int) (z f : Nat), pre.length + k = a → k < f → z < t.1.1.toNat → isA t (c + (pre.length : Int)) z y k →
    spec_EarliestTrip_l0 N f ((y : Int), c, t, (a : Int), pre ++ [(z : Int)], (pre.length : Int), ()) = some (.inl (pre ++ [(z : Int)] ++ tripL t (y : Int) k (c + (pre.length : Int)) z, ())) := by
  intro k
  induction k with
  | zero =>
    intro pre z f e1 e2 hz hA
    obtain ⟨f, rfl⟩ : ∃ m, f = m + 1 := ⟨f - 1, by omega⟩
    have e : a = pre.length := by omega
    subst e
    simp [spec_EarliestTrip_l0, spec_EarliestTrip_l0_r, tripL]
  | succ k ih =>
    intro pre z f e1 e2 hz hA
    obtain ⟨f, rfl⟩ : ∃ m, f = m + 1 := ⟨f - 1, by omega⟩
    obtain ⟨n1, n2, n3, n4, n5, n6, n7⟩ := time_facts ht (c := c + (pre.length : Int)) (by omega)
    obtain ⟨w1, w2⟩ := nextW_spec hz hy hA
    have hi : pre.length < a := by omega
    have ea : a = pre.length + 1 + k := by omega
    have hw1 : IntKind.wrap .i64 (c + (pre.length : Int)) = c + (pre.length : Int) := wrap_in _ (by omega) (by omega)
    have hw : IntKind.wrap .i64 ((pre.length : Int) + 1) = ((pre.length + 1 : Nat) : Int) := by
      rw [wrap_in _ (by omega) (by omega)]
      rfl
    have hball : F_spec_l2Ball 0 ((t.1.1, openE t ((c + (pre.length : Int)).tmod t.2.1), ()), (z : Int), ()) = some (setF (stepB t (c + (pre.length : Int)) z) t.1.1.toNat 0, ()) := by
      rw [ball_eq (t.1.1, openE t ((c + (pre.length : Int)).tmod t.2.1), ()) t.1.1.toNat n1 n3 (openE_okL ho _) (z : Int)]
      show some (ballL t.1.1.toNat (openE t ((c + (pre.length : Int)).tmod t.2.1)) (z : Int), ()) = _
      rw [ballL_set hz]
      rfl
    obtain ⟨j0, j1, j2, j3⟩ := setF_find (p := stepB t (c + (pre.length : Int)) z) (q := fun w => iterP t (c + (pre.length : Int) + 1) (w : Int) k y) (isA_some hz hy hA)
    have hlen := setF_len (p := stepB t (c + (pre.length : Int)) z) (k := t.1.1.toNat) (x := 0)
    have hin := specTrip_l2 N t c y pre.length k z (pre ++ [(z : Int)]) (setF (stepB t (c + (pre.length : Int)) z) t.1.1.toNat 0) j0 ht ho h0 h1 (by omega) (by omega) hy hz hA (by omega) j2 (fun m hm => by
      obtain ⟨w, b1, b2, b3, b4, b5⟩ := j3 m hm
      exact ⟨w, by omega, b3, b5⟩) j0 0 N (by omega) (by omega)
    rw [← ea] at hin
    simp only [Int.natCast_zero] at hin
    have hle : ∀ v : Int, decide (List.length (pre ++ [(z : Int)]) + List.length [v] ≤ lim) = true := fun v => by
      unfold lim
      simp
      omega
    have hidx : idxIn (pre.length : Int) (List.length (pre ++ [(z : Int)])) = true := idxIn_nat (by simp)
    show spec_EarliestTrip_l0_r N (spec_EarliestTrip_l0 N f) ((y : Int), c, t, (a : Int), pre ++ [(z : Int)], (pre.length : Int), ()) = _
    unfold spec_EarliestTrip_l0_r
    simp only [lt_dec hi, if_true, hw1, open_some ht ho (show 0 ≤ c + (pre.length : Int) by omega) (show c + (pre.length : Int) ≤ 5000 by omega), Option.bind_some, hidx, Int.toNat_natCast, at_last, hball, hin, idxIn_nat j1, (at_some j2).1, hle, hw]
    have := ih (pre ++ [(z : Int)]) (nextW t (c + (pre.length : Int)) z y k) f (by simp; omega) (by omega) w1 (by
      rw [show c + ((pre ++ [(z : Int)]).length : Int) = c + (pre.length : Int) + 1 by simp; omega]
      exact w2)
    rw [show c + ((pre ++ [(z : Int)]).length : Int) = c + (pre.length : Int) + 1 by simp; omega] at this
    rw [tripL_succ]
    simp only [List.length_append, List.length_singleton] at this
    refine this.trans ?_
    simp
theorem specTrip_lim (d) (r) (h : G_earliestTrip d = some r) : ∃ N, F_spec_EarliestTrip N d = some r := by
  obtain ⟨t, x, y, c, _⟩ := d
  unfold G_earliestTrip at h
  split at h
  · rename_i ho
    have ho : okT t = true := ho
    have h := Option.some.inj h
    subst h
    refine ⟨100, ?_⟩
    unfold F_spec_EarliestTrip tripB
    simp only [ends_spec t x y c _ ho, Option.bind_some]
    cases he : endsB t x y with
    | false => rfl
    | true =>
      cases hc : inB 0 1000 c with
      | false => rfl
      | true =>
        have hc' := inB_iff.1 hc
        have h2 : inB 0 2000 c = true := inB_iff.2 (by omega)
        obtain ⟨ht, ex, ey, hx, hy⟩ := ends_parts he
        simp only [Bool.and_self, Bool.not_true, Bool.false_eq_true, if_false, G_l11Arrive, ho, he, h2, if_true, Option.bind_some, Bool.true_and]
        by_cases e : arrI t c x y < 0
        · have a1 : decide (0 ≤ arrI t c x y) = false := by simp; omega
          have a2 : decide (arrI t c x y < 0) = true := by simp; omega
          simp only [a1, a2, if_true, Bool.false_eq_true, if_false]
        · have a1 : decide (0 ≤ arrI t c x y) = true := by simp; omega
          have a2 : decide (arrI t c x y < 0) = false := by simp; omega
          simp only [a1, a2, if_true, Bool.false_eq_true, if_false]
          have ea : arrI t c x y = ((arrI t c x y).toNat : Int) := by omega
          have hA : arrI t c ((x.toNat : Nat) : Int) ((y.toNat : Nat) : Int) = ((arrI t c x y).toNat : Int) := by
            rw [← ex, ← ey]
            exact ea
          obtain ⟨k1, k2⟩ := arr_isA hA
          have := specTrip_l0 100 (by omega) t c y.toNat (arrI t c x y).toNat ht ho hc'.1 hc'.2 k1 hy (arrI t c x y).toNat [] x.toNat 100 (by simp) (by omega) hx (by simpa using k2)
          simp only [List.length_nil, Int.natCast_zero, List.nil_append, Int.add_zero] at this
          rw [← ea, ← ex, ← ey] at this
          simp only [this, Option.bind_some, List.singleton_append]
  · cases h

/-! ### the program -/
theorem getD_set_ne {l : List Nat} {i j v : Nat} (h : i ≠ j) : (l.set i v).getD j 0 = l.getD j 0 := by
  simp [List.getD_eq_getElem?_getD, List.getElem?_set, h]
theorem getD_set_eq {l : List Nat} {i v : Nat} (h : i < l.length) : (l.set i v).getD i 0 = v := by
  simp [List.getD_eq_getElem?_getD, List.getElem?_set, h]
def goodP (t : Tt) (c : Int) (a y j : Nat) (z : Nat) : Bool := iterP t (c + (j : Int)) (z : Int) (a - j) y
theorem implTrip_l0 (N : Nat) (t : Tt) (c x : Int) (a y : Nat) (ht : timeB t = true) (h0 : 0 ≤ c) (h1 : c ≤ 1000) (ha : a < 33) (hy : y < t.1.1.toNat) : ∀ (k f : Nat) (gs : List Nat), k ≤ a → k < f → gs.length = a + 1 → (∀ j, k ≤ j → j ≤ a → isM t.1.1.toNat (gs.getD j 0) (goodP t c a y j)) →
    ∃ gs', impl_EarliestTrip_l0 N f (x, c, t, (a : Int), netsL t, toI gs, (k : Int) - 1, ()) = some (.inl (x, c, t, (a : Int), netsL t, toI gs', ())) ∧ gs'.length = a + 1 ∧ ∀ j, j ≤ a → isM t.1.1.toNat (gs'.getD j 0) (goodP t c a y j) := by
  intro k
  induction k with
  | zero =>
    intro f gs e1 e2 e3 hg
    obtain ⟨f, rfl⟩ : ∃ m, f = m + 1 := ⟨f - 1, by omega⟩
    exact ⟨gs, rfl, e3, fun j hj => hg j (by omega) hj⟩
  | succ k ih =>
    intro f gs e1 e2 e3 hg
    obtain ⟨f, rfl⟩ : ∃ m, f = m + 1 := ⟨f - 1, by omega⟩
    obtain ⟨n1, n2, n3, n4, n5, n6, n7⟩ := time_facts (c := c + (k : Int)) ht (by omega)
    have hok := netN_ok (n := t.1.1.toNat) (by omega) n7
    have hsm := small_toI hok n3
    have hm := hg (k + 1) (by omega) (by omega)
    have b1 : decide (0 ≤ ((gs.getD (k + 1) 0 : Nat) : Int)) = true := nonneg_dec _
    have b2 : decide (((gs.getD (k + 1) 0 : Nat) : Int) < 256) = true := by
      have := hm.1
      simp only [decide_eq_true_eq]
      omega
    have hnew : isM t.1.1.toNat (arN (netN t.1.1.toNat (openE t ((c + (k : Int)).tmod t.2.1))) (gs.getD (k + 1) 0) t.1.1.toNat 0 (gs.getD (k + 1) 0)) (goodP t c a y k) := by
      refine isM_congr (fun z hz => ?_) (around_isM n3 n7 hm)
      have hb := back_step (t := t) (n := t.1.1.toNat) rfl (c + (k : Int)) (a - (k + 1)) hy hz
      rw [show a - (k + 1) + 1 = a - k by omega] at hb
      unfold goodP
      rw [← hb, show c + ((k + 1 : Nat) : Int) = c + (k : Int) + 1 by omega]
    obtain ⟨gs', g1, g2, g3⟩ := ih f (gs.set k (arN (netN t.1.1.toNat (openE t ((c + (k : Int)).tmod t.2.1))) (gs.getD (k + 1) 0) t.1.1.toNat 0 (gs.getD (k + 1) 0))) (by omega) (by omega) (by simpa using e3) (fun j hj1 hj2 => by
      by_cases ej : j = k
      · subst ej
        rw [getD_set_eq (by omega)]
        exact hnew
      · rw [getD_set_ne (by omega)]
        exact hg j (by omega) hj2)
    refine ⟨gs', ?_, g2, g3⟩
    rw [← g1]
    have ek : ((k + 1 : Nat) : Int) - 1 = (k : Int) := by omega
    have hw : IntKind.wrap .i64 ((k : Int) + 1) = ((k + 1 : Nat) : Int) := by
      rw [wrap_in _ (by omega) (by omega)]
      rfl
    have hw1 : IntKind.wrap .i64 (c + (k : Int)) = c + (k : Int) := wrap_in _ (by omega) (by omega)
    have hw3 : IntKind.wrap .i64 ((k : Int) - 1) = (k : Int) - 1 := wrap_in _ (by omega) (by omega)
    have i1 : idxIn ((k + 1 : Nat) : Int) gs.length = true := idxIn_nat (by omega)
    have i2 : idxIn (k : Int) gs.length = true := idxIn_nat (by omega)
    have hge : decide ((k : Int) ≥ 0) = true := nonneg_dec k
    rw [ek]
    show impl_EarliestTrip_l0_r N (impl_EarliestTrip_l0 N f) (x, c, t, (a : Int), netsL t, toI gs, (k : Int), ()) = _
    unfold impl_EarliestTrip_l0_r
    simp only [hge, if_true, n4, hw1, n5, n6, hw, hw3, toI_len, i1, i2, Int.toNat_natCast, at_toI, G_around, hsm, b1, b2, Bool.and_self, Option.bind_some, toI_from, hok.1, toI_set]
theorem closed_eq {t : Tt} (ht : timeB t = true) {c : Int} (h0 : 0 ≤ c) {z : Nat} (hz : z < t.1.1.toNat) :
    ∃ m : Nat, F_impl_net_closed 0 ((toI (netN t.1.1.toNat (openE t (c.tmod t.2.1))), ()), (z : Int), ()) = some ((m : Int), ()) ∧ isM t.1.1.toNat m (stepB t c z) := by
  obtain ⟨n1, n2, n3, n4, n5, n6, n7⟩ := time_facts (c := c) ht h0
  have hok := netN_ok (n := t.1.1.toNat) (by omega) n7
  have hp := pow_small (show z < 8 by omega)
  refine ⟨(netN t.1.1.toNat (openE t (c.tmod t.2.1))).getD z 0 ||| 2 ^ z, ?_, Nat.or_lt_two_pow (n := 8) (hok.2 z) hp, fun w => ?_⟩
  · unfold F_impl_net_closed
    have i1 : idxIn (z : Int) (netN t.1.1.toNat (openE t (c.tmod t.2.1))).length = true := idxIn_nat (by rw [hok.1]; exact hz)
    simp only [toI_len, i1, if_true, nonneg_dec, Int.toNat_natCast, at_toI, shl_one (show z < 8 by omega), bits_or (hok.2 z) hp]
  · rw [Nat.testBit_or, Nat.testBit_two_pow]
    have hb := netN_bit n3 n7 z w
    unfold hasN at hb
    rw [hb, isE_near _ n7]
    unfold stepB
    apply Bool.eq_iff_iff.2
    simp only [Bool.or_eq_true, Bool.and_eq_true, decide_eq_true_eq]
    constructor
    · rintro (h | h)
      · exact ⟨near_lt n7 h, .inl h⟩
      · subst h
        exact ⟨hz, .inr rfl⟩
    · rintro ⟨h1, h2 | h2⟩
      · exact .inl h2
      · exact .inr h2.symm
theorem isM_and {n m m' : Nat} {p q : Nat → Bool} (h1 : isM n m p) (h2 : isM n m' q) : isM n (m &&& m') (fun y => p y && q y) := by
  refine ⟨Nat.lt_of_le_of_lt Nat.and_le_left h1.1, fun y => ?_⟩
  rw [Nat.testBit_and, h1.2 y, h2.2 y]
  show _ = (decide (y < n) && (p y && q y))
  cases decide (y < n) <;> cases p y <;> cases q y <;> rfl
theorem implTrip_l2 (N : Nat) (t : Tt) (c : Int) (y a : Nat) (gs : List Nat) (ht : timeB t = true) (h0 : 0 ≤ c) (h1 : c ≤ 1000) (ha : a < 33) (hy : y < t.1.1.toNat) (hgl : gs.length = a + 1) (hgs : ∀ j, j ≤ a → isM t.1.1.toNat (gs.getD j 0) (goodP t c a y j)) : ∀ (k i z f : Nat) (out : List Int), i + k = a → k < f → out.length + k ≤ 100 → z < t.1.1.toNat → isA t (c + (i : Int)) z y k →
    impl_EarliestTrip_l2 N f ((z : Int), c, t, netsL t, toI gs, out, (a : Int), (i : Int), ()) = some (.inl (out ++ tripL t (y : Int) k (c + (i : Int)) z, ())) := by
  intro k
  induction k with
  | zero =>
    intro i z f out e1 e2 e3 hz hA
    obtain ⟨f, rfl⟩ : ∃ m, f = m + 1 := ⟨f - 1, by omega⟩
    have e : i = a := by omega
    subst e
    simp [impl_EarliestTrip_l2, impl_EarliestTrip_l2_r, tripL]
  | succ k ih =>
    intro i z f out e1 e2 e3 hz hA
    obtain ⟨f, rfl⟩ : ∃ m, f = m + 1 := ⟨f - 1, by omega⟩
    obtain ⟨n1, n2, n3, n4, n5, n6, n7⟩ := time_facts (c := c + (i : Int)) ht (by omega)
    obtain ⟨w1, w2⟩ := nextW_spec hz hy hA
    have hi : i < a := by omega
    have hw : IntKind.wrap .i64 ((i : Int) + 1) = ((i + 1 : Nat) : Int) := by
      rw [wrap_in _ (by omega) (by omega)]
      rfl
    have hw1 : IntKind.wrap .i64 (c + (i : Int)) = c + (i : Int) := wrap_in _ (by omega) (by omega)
    obtain ⟨m, c1, c2⟩ := closed_eq (c := c + (i : Int)) ht (by omega) hz
    have hg := hgs (i + 1) (by omega)
    have hM := isM_and c2 hg
    have i1 : idxIn ((i + 1 : Nat) : Int) gs.length = true := idxIn_nat (by omega)
    have b1 : decide (0 ≤ ((m &&& gs.getD (i + 1) 0 : Nat) : Int)) = true := nonneg_dec _
    have b2 : decide (((m &&& gs.getD (i + 1) 0 : Nat) : Int) < 256) = true := by
      have := hM.1
      simp only [decide_eq_true_eq]
      omega
    have hset : ∃ tl, setF (fun w => (m &&& gs.getD (i + 1) 0).testBit w) 8 0 = (nextW t (c + (i : Int)) z y k : Int) :: tl := by
      rw [setF_mask n3 hM]
      have ef : setF (fun w => stepB t (c + (i : Int)) z w && goodP t c a y (i + 1) w) t.1.1.toNat 0 = setF (fun w => stepB t (c + (i : Int)) z w && iterP t (c + (i : Int) + 1) (w : Int) k y) t.1.1.toNat 0 := by
        refine setF_congr fun w _ _ => ?_
        unfold goodP
        rw [show c + ((i + 1 : Nat) : Int) = c + (i : Int) + 1 by omega, show a - (i + 1) = k by omega]
      rw [ef]
      exact setF_first (isA_some hz hy hA)
    obtain ⟨tl, htl⟩ := hset
    have hle : ∀ v : Int, decide (List.length out + List.length [v] ≤ lim) = true := fun v => by
      unfold lim
      simp
      omega
    have hidx : ∀ v : Int, idxIn (0 : Int) (List.length (v :: tl)) = true := fun v => idxIn_nat (i := 0) (by simp)
    have hat : ∀ v : Int, at_ I (v :: tl) (0 : Int).toNat = v := fun v => (at_some (j := 0) (by simp)).1
    show impl_EarliestTrip_l2_r N (impl_EarliestTrip_l2 N f) ((z : Int), c, t, netsL t, toI gs, out, (a : Int), (i : Int), ()) = _
    unfold impl_EarliestTrip_l2_r
    simp only [lt_dec hi, if_true, n4, hw1, n5, n6, c1, Option.bind_some, hw, toI_len, i1, Int.toNat_natCast, at_toI, bits_and c2.1 hg.1, G_setOf, b1, b2, Bool.and_self, htl, hidx, hle, hat]
    have := ih (i + 1) (nextW t (c + (i : Int)) z y k) f (out ++ [(nextW t (c + (i : Int)) z y k : Int)]) (by omega) (by omega) (by simp; omega) w1 (by
      rw [show c + ((i + 1 : Nat) : Int) = c + (i : Int) + 1 by omega]
      exact w2)
    rw [show c + ((i + 1 : Nat) : Int) = c + (i : Int) + 1 by omega] at this
    rw [tripL_succ]
    refine this.trans ?_
    simp
theorem implTrip_lim (d) (r) (h : G_earliestTrip d = some r) : ∃ N, F_impl_EarliestTrip N d = some r := by
  obtain ⟨t, x, y, c, _⟩ := d
  unfold G_earliestTrip at h
  split at h
  · rename_i ho
    have ho : okT t = true := ho
    have h := Option.some.inj h
    subst h
    refine ⟨100, ?_⟩
    unfold F_impl_EarliestTrip tripB
    simp only [ends_impl t x y c _ ho, Option.bind_some]
    cases he : endsB t x y with
    | false => rfl
    | true =>
      cases hc : inB 0 1000 c with
      | false => rfl
      | true =>
        have hc' := inB_iff.1 hc
        obtain ⟨ht, ex, ey, hx, hy⟩ := ends_parts he
        obtain ⟨n1, n2, n3, n4, n5, n6, n7⟩ := time_facts ht (Int.le_refl 0)
        simp only [Bool.and_self, Bool.not_true, Bool.false_eq_true, if_false, G_earliestArrival, ho, he, hc, if_true, Option.bind_some, Bool.true_and, eaB]
        by_cases e : arrI t c x y < 0
        · have a1 : decide (0 ≤ arrI t c x y) = false := by simp; omega
          simp only [a1, e, if_true, Bool.not_false, Bool.false_eq_true, if_false]
        · have a1 : decide (0 ≤ arrI t c x y) = true := by simp; omega
          simp only [a1, e, if_true, Bool.not_true, Bool.false_eq_true, if_false, openNets_some ht ho, Option.bind_some]
          have hA : arrI t c ((x.toNat : Nat) : Int) ((y.toNat : Nat) : Int) = ((arrI t c x y).toNat : Int) := by
            rw [← ex, ← ey]
            omega
          obtain ⟨k1, k2⟩ := arr_isA hA
          have ea : arrI t c x y = ((arrI t c x y).toNat : Int) := by omega
          rw [ea]
          simp only [Int.toNat_natCast]
          generalize (arrI t c x y).toNat = a at k1 k2
          have hw : IntKind.wrap .i64 ((a : Int) + 1) = ((a + 1 : Nat) : Int) := by
            rw [wrap_in _ (by omega) (by omega)]
            rfl
          have hw3 : IntKind.wrap .i64 ((a : Int) - 1) = (a : Int) - 1 := wrap_in _ (by omega) (by omega)
          have hlim : decide (((a + 1 : Nat) : Int) ≤ (lim : Int)) = true := by
            unfold lim
            simp only [decide_eq_true_eq]
            omega
          have hle : decide (((a + 1 : Nat) : Int) ≤ ((a + 1 : Nat) : Int)) = true := decide_eq_true (Int.le_refl _)
          have hy0 : decide (0 ≤ y) = true := by simp; omega
          have hidx : idxIn (a : Int) (List.replicate (a + 1) 0).length = true := idxIn_nat (by simp)
          have hsh : shl .i64 1 y = ((2 ^ y.toNat : Nat) : Int) := (one_mask (c := c) ht ey hy).1
          have hone : isM t.1.1.toNat (2 ^ y.toNat) (goodP t c a y.toNat a) := by
            refine isM_congr (fun z hz => ?_) (one_isM n3 hy)
            unfold goodP
            rw [Nat.sub_self]
            show decide ((z : Int) = (y.toNat : Int)) = decide ((y.toNat : Int) = (z : Int))
            exact decide_eq_decide.2 eq_comm
          obtain ⟨gs, g1, g2, g3⟩ := implTrip_l0 100 t c x a y.toNat ht hc'.1 hc'.2 k1 hy a 100 ((List.replicate (a + 1) 0).set a (2 ^ y.toNat)) (Nat.le_refl _) (by omega) (by simp) (fun j hj1 hj2 => by
            have : j = a := by omega
            subst this
            rw [getD_set_eq (by simp)]
            exact hone)
          have h2 := implTrip_l2 100 t c y.toNat a gs ht hc'.1 hc'.2 k1 hy g2 g3 a 0 x.toNat 100 [x] (by omega) (by omega) (by simp; omega) hx (by simpa using k2)
          simp only [Int.natCast_zero, Int.add_zero] at h2
          rw [← ex, ← ey] at h2
          simp only [hw, hw3, nonneg_dec, hle, hlim, Bool.and_self, if_true, Int.toNat_natCast, hy0, hidx, hsh, toI_zero, toI_len, toI_set, List.length_replicate, idxIn_nat (show a < a + 1 by omega), g1, Option.bind_some, h2, List.singleton_append]
  · cases h

/-! ### the law -/
theorem tripL_len (t : Tt) (y : Int) : ∀ (k : Nat) (c : Int) (z : Nat), (tripL t y k c z).length = k := by
  intro k
  induction k with
  | zero => intro c z; rfl
  | succ k ih => intro c z; simp [tripL, ih]
theorem tripB_len (t : Tt) (x y c : Int) : (tripB t x y c).1.length ≤ 34 := by
  unfold tripB
  split
  · have : arrI t c x y < 33 := by
      rcases findF_cases (fun i => iterP t c x i y.toNat) 33 0 with ⟨k1, k2⟩ | ⟨j, k1, k2, k3, k4, k5⟩
      · have e : arrI t c x y = -1 := k1
        omega
      · have e : arrI t c x y = (j : Int) := k1
        omega
    simp only [List.length_cons, tripL_len]
    omega
  · simp
theorem law12 : ∀ d, WfD (Kd.tuple ([(K_PPiSPiiqqiSSiq, false), (I, false), (I, false), (I, false)].map (·.1))) d → ∃ out, F_laws_FnExactEarliestTrip 0 d = some out ∧ (splitT [.bool] [] out).1.1 = true := by
  rintro ⟨⟨⟨n, es, v⟩, p, l, u⟩, x, y, c, w⟩ ⟨⟨⟨_, he, _⟩, _, hl, _⟩, _⟩
  have he : es.length ≤ maxLen := he.1
  have hl1 : l.length ≤ maxLen := hl.1
  have hl2 : ∀ x ∈ l, x.length ≤ maxLen := fun x hx => (hl.2 x hx).1
  refine ⟨(true, ()), ?_, rfl⟩
  unfold F_laws_FnExactEarliestTrip
  obtain ⟨r, h1, h2⟩ := szTimetable_neg n es v p l u () he hl1 hl2
  simp only [h1, Option.bind_some]
  rcases h2 with h2 | ⟨h2, h3, h4⟩
  · simp only [h2, decide_true, if_true]
  · have g1 := okL_of h2
    have g2 := okLL_small h3 h4
    have g3 : okT ((n, es, v), p, l, ()) = true := by simp only [okT, g1, g2, Bool.and_self]
    have hs := sumL_le l h4
    have hs0 := sumL_nonneg l
    have hmt := markTimetable_eq n es v p l () () 1 g1 g2 (by decide) (okK_small (by omega) (by omega)) (okK_small (by omega) (by omega))
    have hk1 : decide ((1 : Int) + 2 * (es.length : Int) + sumL l < 0) = false := by simp; omega
    have hlen := tripB_len ((n, es, v), p, l, ()) x y c
    have ho : okL (tripB ((n, es, v), p, l, ()) x y c).1 = true := okL_of (by omega)
    have hk : okK 1 = true := by decide
    have hk2 : decide ((1 : Int) + ((tripB ((n, es, v), p, l, ()) x y c).1.length : Int) < 0) = false := by simp; omega
    simp only [toTimetable_eq n es v p l u _ g1 g2, G_earliestTrip, g3, if_true, Option.bind_some, G_eqIntS, ho, decide_true, eqTimetable_self n es v p l () _ g1 g2, hmt, hk1, G_markIntS, G_heldIntS, hk, Bool.and_self, markL_ok ho, held_markL, hk2, beq_self_eq_true, bne_self_eq_false, Bool.not_true, Bool.false_eq_true, if_false]
    split <;> rfl
end Go.V.W
