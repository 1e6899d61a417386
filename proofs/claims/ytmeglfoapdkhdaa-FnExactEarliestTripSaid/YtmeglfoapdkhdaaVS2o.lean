/- Arriving, told plainly; the law FnExactEarliestArrival on plain data. -/
import Derived.Test.YtmeglfoapdkhdaaVS2n
import Derived.Test.YtmeglfoapdkhdaaVN3
set_option linter.unusedVariables false
set_option linter.unusedSimpArgs false
namespace Go.V.W
open Go.Proofs

theorem ends_spec (t : Tt) (x y c : Int) (w : Unit) (ho : okT t = true) : F_spec_l11Ends 0 (t, x, y, c, w) = some (endsB t x y && inB 0 1000 c, ()) := by
  unfold F_spec_l11Ends G_l11Good endsB
  simp only [ho, if_true, Option.bind_some, clock_spec]
  cases ht : timeB t with
  | false => rfl
  | true =>
    obtain ⟨n1, n2, n3, n4, n5, n6, n7⟩ := time_facts ht (Int.le_refl 0)
    simp only [node_spec t.1 x () (by omega) (by omega), node_spec t.1 y () (by omega) (by omega)]
    cases inB 0 (t.1.1 - 1) x <;> cases inB 0 (t.1.1 - 1) y <;> rfl
theorem ends_impl (t : Tt) (x y c : Int) (w : Unit) (ho : okT t = true) : F_impl_isTimed 0 (t, c, [x, y], w) = some (endsB t x y && inB 0 1000 c, ()) := by
  unfold F_impl_isTimed endsB
  simp only [implT t _ ho, Option.bind_some, clock_impl]
  cases ht : timeB t with
  | false => rfl
  | true =>
    obtain ⟨n1, n2, n3, n4, n5, n6, n7⟩ := time_facts ht (Int.le_refl 0)
    have hw : IntKind.wrap .i64 (t.1.1 - 1) = t.1.1 - 1 := wrap_in _ (by omega) (by omega)
    have : okL [x, y] = true := okL_of (by simp)
    cases hc : inB 0 1000 c with
    | false => cases inB 0 (t.1.1 - 1) x <;> cases inB 0 (t.1.1 - 1) y <;> rfl
    | true => simp only [hw, G_allWithin, this, if_true, Option.bind_some, List.all_cons, List.all_nil, Bool.and_true, Bool.true_and]
theorem ends_parts {t : Tt} {x y : Int} (h : endsB t x y = true) : timeB t = true ∧ x = (x.toNat : Int) ∧ y = (y.toNat : Int) ∧ x.toNat < t.1.1.toNat ∧ y.toNat < t.1.1.toNat := by
  unfold endsB at h
  simp only [Bool.and_eq_true] at h
  obtain ⟨⟨h1, h2⟩, h3⟩ := h
  obtain ⟨n1, n2, n3, n4, n5, n6, n7⟩ := time_facts h1 (Int.le_refl 0)
  have h2 := inB_iff.1 h2
  have h3 := inB_iff.1 h3
  exact ⟨h1, by omega, by omega, by omega, by omega⟩
theorem reached_step {t : Tt} {c x : Int} (ht : timeB t = true) (ho : okT t = true) (h0 : 0 ≤ c) (i : Nat) (h1 : c + (i : Int) ≤ 5000) :
    G_l11Reached (t, setF (iterP t c x i) t.1.1.toNat 0, c + (i : Int), ()) = some (setF (iterP t c x (i + 1)) t.1.1.toNat 0, ()) := by
  obtain ⟨n1, n2, n3, n4, n5, n6, n7⟩ := time_facts ht h0
  have hset : okSet t.1.1 (setF (iterP t c x i) t.1.1.toNat 0) = true := by
    unfold okSet
    have := setF_len (p := iterP t c x i) (k := t.1.1.toNat) (x := 0)
    simp only [Bool.and_eq_true, decide_eq_true_eq, List.all_eq_true]
    refine ⟨by omega, fun z hz => ?_⟩
    obtain ⟨y, hy, rfl⟩ := setF_nat z hz
    exact inB_iff.2 (by omega)
  have a1 : decide (0 ≤ c + (i : Int)) = true := by simp; omega
  have a2 : decide (c + (i : Int) ≤ 5000) = true := by simp; omega
  simp only [G_l11Reached, ht, ho, a1, a2, hset, Bool.and_self, if_true, reachL_set]
  rfl
theorem has_setF {p : Nat → Bool} {n y : Nat} (hn : n ≤ 8) (hy : y < n) : G_l1Has (setF p n 0, (y : Int), ()) = some (p y, ()) := by
  have := setF_len (p := p) (k := n) (x := 0)
  have ho : okL (setF p n 0) = true := okL_of (by omega)
  simp only [G_l1Has, ho, if_true, any_setF hy]
theorem l11Arrive_l0 (N : Nat) (t : Tt) (c x : Int) (y p : Nat) (ht : timeB t = true) (ho : okT t = true) (h0 : 0 ≤ c) (h1 : c ≤ 2000) (hy : y < t.1.1.toNat) (hp : t.2.1 = (p : Int)) (hp4 : p ≤ 4) : ∀ (k i f : Nat), i + k = t.1.1.toNat * p + 1 → k < f →
    spec_l11Arrive_l0 N f ((y : Int), c, t, setF (iterP t c x i) t.1.1.toNat 0, (i : Int), ()) = if findF (fun i => iterP t c x i y) k i < 0 then some (.inr (.inl ())) else some (.inl (findF (fun i => iterP t c x i y) k i, ())) := by
  obtain ⟨n1, n2, n3, n4, n5, n6, n7⟩ := time_facts ht h0
  have hnp : t.1.1.toNat * p ≤ 8 * 4 := Nat.mul_le_mul n3 hp4
  have hm : IntKind.wrap .i64 (t.1.1 * t.2.1) = ((t.1.1.toNat * p : Nat) : Int) := by
    rw [hp, n1, Int.toNat_natCast, ← Int.natCast_mul]
    exact wrap_in _ (by omega) (by omega)
  intro k
  induction k with
  | zero =>
    intro i f e1 e2
    obtain ⟨f, rfl⟩ : ∃ m, f = m + 1 := ⟨f - 1, by omega⟩
    show spec_l11Arrive_l0_r N (spec_l11Arrive_l0 N f) ((y : Int), c, t, setF (iterP t c x i) t.1.1.toNat 0, (i : Int), ()) = _
    unfold spec_l11Arrive_l0_r
    have : decide ((i : Int) ≤ ((t.1.1.toNat * p : Nat) : Int)) = false := by simp only [decide_eq_false_iff_not]; omega
    simp only [hm, this, Bool.false_eq_true, if_false, findF]
    rfl
  | succ k ih =>
    intro i f e1 e2
    obtain ⟨f, rfl⟩ : ∃ m, f = m + 1 := ⟨f - 1, by omega⟩
    show spec_l11Arrive_l0_r N (spec_l11Arrive_l0 N f) ((y : Int), c, t, setF (iterP t c x i) t.1.1.toNat 0, (i : Int), ()) = _
    unfold spec_l11Arrive_l0_r
    have hle : decide ((i : Int) ≤ ((t.1.1.toNat * p : Nat) : Int)) = true := by simp only [decide_eq_true_eq]; omega
    have hw : IntKind.wrap .i64 ((i : Int) + 1) = ((i + 1 : Nat) : Int) := by
      rw [wrap_in _ (by omega) (by omega)]
      rfl
    have hw2 : IntKind.wrap .i64 (c + (i : Int)) = c + (i : Int) := wrap_in _ (by omega) (by omega)
    simp only [hm, hle, if_true, has_setF n3 hy, Option.bind_some, hw, hw2, reached_step ht ho h0 i (by omega), findF]
    by_cases hh : iterP t c x i y = true
    · have : ¬ (i : Int) < 0 := by omega
      simp only [hh, if_true, this, if_false]
    · simp only [hh, if_false]
      exact ih (i + 1) f (by omega) (by omega)
theorem one_set {t : Tt} {c x : Int} (hx : x = (x.toNat : Int)) (hxn : x.toNat < t.1.1.toNat) : setF (iterP t c x 0) t.1.1.toNat 0 = [x] := by
  have := setF_one (n := t.1.1.toNat) (x := x.toNat) hxn
  rw [← hx] at this
  exact this
theorem l11Arrive_lim (d) (r) (h : G_l11Arrive d = some r) : ∃ N, F_spec_l11Arrive N d = some r := by
  obtain ⟨t, x, y, c, _⟩ := d
  unfold G_l11Arrive at h
  split at h
  · rename_i hc
    simp only [Bool.and_eq_true] at hc
    obtain ⟨⟨ho, he⟩, hc⟩ := hc
    have hc := inB_iff.1 hc
    obtain ⟨ht, ex, ey, hx, hy⟩ := ends_parts he
    have h := Option.some.inj h
    subst h
    obtain ⟨g1, g2, g3, g4⟩ := timeB_parts ht
    have g3 := inB_iff.1 g3
    obtain ⟨n1, n2, n3, n4, n5, n6, n7⟩ := time_facts ht (Int.le_refl 0)
    have hp : t.2.1 = (t.2.1.toNat : Int) := by omega
    have hnp : t.1.1.toNat * t.2.1.toNat ≤ 8 * 4 := Nat.mul_le_mul n3 (by omega)
    refine ⟨100, ?_⟩
    unfold F_spec_l11Arrive
    have := l11Arrive_l0 100 t c x y.toNat t.2.1.toNat ht ho hc.1 hc.2 hy hp (by omega) (t.1.1.toNat * t.2.1.toNat + 1) 0 100 (by omega) (by omega)
    rw [one_set ex hx, ← ey, arr_cap hc.1 rfl hp (by omega) n3 (by omega) (by omega) hx hy] at this
    simp only [Int.natCast_zero] at this
    simp only [this]
    show Option.bind (if arrI t c x y < 0 then _ else _) _ = some (arrI t c x y, ())
    rcases findF_cases (fun i => iterP t c x i y.toNat) 33 0 with ⟨k1, k2⟩ | ⟨j, k1, k2, k3, k4, k5⟩
    · have e : arrI t c x y = -1 := k1
      rw [e]
      rfl
    · have e : arrI t c x y = (j : Int) := k1
      have : ¬ (j : Int) < 0 := by omega
      rw [e, if_neg this]
      simp only [Option.bind_some]
      exact congrArg (fun z : Int => some (z, ())) k1
  · cases h
theorem earliestArrival_l0 (N : Nat) (t : Tt) (c x : Int) (y : Nat) (ht : timeB t = true) (h0 : 0 ≤ c) (h1 : c ≤ 1000) (hy : y < t.1.1.toNat) : ∀ (k i f m : Nat), i + k = 33 → k < f → isM t.1.1.toNat m (iterP t c x i) →
    impl_earliestArrival_l0 N f ((y : Int), c, t, netsL t, (m : Int), (i : Int), ()) = if findF (fun i => iterP t c x i y) k i < 0 then some (.inr (.inl ())) else some (.inl (findF (fun i => iterP t c x i y) k i, true, ())) := by
  intro k
  induction k with
  | zero =>
    intro i f m e1 e2 hm
    obtain ⟨f, rfl⟩ : ∃ m, f = m + 1 := ⟨f - 1, by omega⟩
    have e : i = 33 := by omega
    subst e
    rfl
  | succ k ih =>
    intro i f m e1 e2 hm
    obtain ⟨f, rfl⟩ : ∃ m, f = m + 1 := ⟨f - 1, by omega⟩
    obtain ⟨n1, n2, n3, n4, n5, n6, n7⟩ := time_facts (c := c + (i : Int)) ht (by omega)
    show impl_earliestArrival_l0_r N (impl_earliestArrival_l0 N f) ((y : Int), c, t, netsL t, (m : Int), (i : Int), ()) = _
    unfold impl_earliestArrival_l0_r
    have hlt : decide ((i : Int) < 33) = true := by simp only [decide_eq_true_eq]; omega
    have hw : IntKind.wrap .i64 ((i : Int) + 1) = ((i + 1 : Nat) : Int) := by
      rw [wrap_in _ (by omega) (by omega)]
      rfl
    have hw2 : IntKind.wrap .i64 (c + (i : Int)) = c + (i : Int) := wrap_in _ (by omega) (by omega)
    have hok := netN_ok (n := t.1.1.toNat) (by omega) n7
    have hsm := small_toI hok n3
    have b1 : decide (0 ≤ (m : Int)) = true := nonneg_dec m
    have b2 : decide ((m : Int) < 256) = true := by
      have := hm.1
      simp
      omega
    have hbit : m.testBit y = iterP t c x i y := by
      rw [hm.2 y]
      simp [hy]
    simp only [hlt, if_true, nonneg_dec, shr_bit hm.1 (show y < 8 by omega), hbit, n4, hw2, n5, n6, G_around, hsm, b1, b2, Bool.and_self, Option.bind_some, hw, toI_from, toI_len, hok.1, Int.toNat_natCast, findF]
    by_cases hh : iterP t c x i y = true
    · have : ¬ (i : Int) < 0 := by omega
      simp only [hh, if_true, this, if_false]
    · simp only [hh, if_false]
      exact ih (i + 1) f _ (by omega) (by omega) (around_isM n3 n7 hm)
theorem one_mask {t : Tt} {c x : Int} (ht : timeB t = true) (hx : x = (x.toNat : Int)) (hxn : x.toNat < t.1.1.toNat) : shl .i64 1 x = ((2 ^ x.toNat : Nat) : Int) ∧ isM t.1.1.toNat (2 ^ x.toNat) (iterP t c x 0) := by
  obtain ⟨n1, n2, n3, n4, n5, n6, n7⟩ := time_facts ht (Int.le_refl 0)
  constructor
  · rw [hx]
    exact shl_one (by omega)
  · have one := one_isM (n := t.1.1.toNat) (x := x.toNat) n3 hxn
    rw [← hx] at one
    exact one
theorem openNets_some {t : Tt} (ht : timeB t = true) (ho : okT t = true) : G_openNets (t, ()) = some (netsL t, ()) := by
  unfold G_openNets
  rw [if_pos (by rw [ht, ho]; rfl)]
theorem earliestArrival_lim (d) (r) (h : G_earliestArrival d = some r) : ∃ N, F_impl_earliestArrival N d = some r := by
  obtain ⟨t, x, y, c, _⟩ := d
  unfold G_earliestArrival at h
  split at h
  · rename_i hc
    simp only [Bool.and_eq_true] at hc
    obtain ⟨⟨ho, he⟩, hc⟩ := hc
    have hc := inB_iff.1 hc
    obtain ⟨ht, ex, ey, hx, hy⟩ := ends_parts he
    have h := Option.some.inj h
    subst h
    obtain ⟨hsh, one⟩ := one_mask (c := c) ht ex hx
    refine ⟨100, ?_⟩
    unfold F_impl_earliestArrival
    have := earliestArrival_l0 100 t c x y.toNat ht hc.1 hc.2 hy 33 0 100 _ (by omega) (by omega) one
    rw [← ey, ← hsh] at this
    simp only [Int.natCast_zero] at this
    have hx0 : decide (0 ≤ x) = true := by simp; omega
    simp only [openNets_some ht ho, Option.bind_some, hx0, if_true, this]
    show Option.bind (if arrI t c x y < 0 then _ else _) _ = some (if arrI t c x y < 0 then _ else _)
    by_cases e : arrI t c x y < 0
    · rw [if_pos e, if_pos e]
      rfl
    · rw [if_neg e, if_neg e]
      rfl
  · cases h

/-! ### the law -/
def earB (t : Tt) (x y c : Int) : Int × Bool × Unit := if (endsB t x y && inB 0 1000 c) = true then eaB t x y c else (0, false, ())
theorem specEA (t : Tt) (x y c : Int) (w : Unit) (ho : okT t = true) : F_spec_EarliestArrival 0 (t, x, y, c, w) = some (earB t x y c) := by
  unfold F_spec_EarliestArrival earB
  simp only [ends_spec t x y c _ ho, Option.bind_some]
  cases he : endsB t x y with
  | false => rfl
  | true =>
    cases hc : inB 0 1000 c with
    | false => rfl
    | true =>
      have hc' := inB_iff.1 hc
      have h2 : inB 0 2000 c = true := inB_iff.2 (by omega)
      simp only [Bool.and_self, Bool.not_true, Bool.false_eq_true, if_false, if_true, G_l11Arrive, ho, he, h2, Option.bind_some, eaB]
      by_cases e : arrI t c x y < 0
      · have : decide (arrI t c x y ≥ 0) = false := by simp; omega
        rw [if_pos e, this]
        rfl
      · have : decide (arrI t c x y ≥ 0) = true := by simp; omega
        rw [if_neg e, this]
        rfl
theorem implEA (t : Tt) (x y c : Int) (w : Unit) (ho : okT t = true) : F_impl_EarliestArrival 0 (t, x, y, c, w) = some (earB t x y c) := by
  unfold F_impl_EarliestArrival earB
  simp only [ends_impl t x y c _ ho, Option.bind_some]
  cases he : endsB t x y with
  | false => rfl
  | true =>
    cases hc : inB 0 1000 c with
    | false => rfl
    | true => simp only [Bool.and_self, Bool.not_true, Bool.false_eq_true, if_false, if_true, G_earliestArrival, ho, he, hc, Option.bind_some]
theorem law9 : ∀ d, WfD (Kd.tuple ([(K_PPiSPiiqqiSSiq, false), (I, false), (I, false), (I, false)].map (·.1))) d → ∃ out, F_laws_FnExactEarliestArrival 0 d = some out ∧ (splitT [.bool] [] out).1.1 = true := by
  rintro ⟨⟨⟨n, es, v⟩, p, l, u⟩, x, y, c, w⟩ ⟨⟨⟨_, he, _⟩, _, hl, _⟩, _⟩
  have he : es.length ≤ maxLen := he.1
  have hl1 : l.length ≤ maxLen := hl.1
  have hl2 : ∀ x ∈ l, x.length ≤ maxLen := fun x hx => (hl.2 x hx).1
  refine ⟨(true, ()), ?_, rfl⟩
  unfold F_laws_FnExactEarliestArrival
  obtain ⟨r, h1, h2⟩ := szTimetable_neg n es v p l u () he hl1 hl2
  simp only [h1, Option.bind_some]
  rcases h2 with h2 | ⟨h2, h3, h4⟩
  · simp only [h2, decide_true, if_true]
  · have g1 := okL_of h2
    have g2 := okLL_small h3 h4
    have g3 : okT ((n, es, v), p, l, ()) = true := by simp only [okT, g1, g2, Bool.and_self]
    simp only [toTimetable_eq n es v p l u _ g1 g2, specEA _ _ _ _ _ g3, implEA _ _ _ _ _ g3, eqTimetable_self n es v p l () _ g1 g2, Option.bind_some, beq_self_eq_true, bne_self_eq_false, Bool.not_true, Bool.false_eq_true, if_false]
    split <;> rfl
end Go.V.W
