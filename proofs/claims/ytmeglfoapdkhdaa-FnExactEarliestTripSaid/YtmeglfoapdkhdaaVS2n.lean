/- The law FnExactReachedBy on plain data. -/
import Derived.Test.YtmeglfoapdkhdaaVS2m
set_option linter.unusedVariables false
set_option linter.unusedSimpArgs false
namespace Go.V.W
open Go.Proofs

theorem small_toI {n : Nat} {ms : List Nat} (hok : okN n ms) (hn : n ≤ 8) : smallN (toI ms) = true := by
  unfold smallN
  simp only [toI_len, hok.1, Bool.and_eq_true, decide_eq_true_eq, List.all_eq_true]
  refine ⟨hn, fun m hm => ?_⟩
  unfold toI at hm
  obtain ⟨x, hx, rfl⟩ := List.mem_map.1 hm
  obtain ⟨i, hi, rfl⟩ := List.getElem_of_mem hx
  have := hok.2 i
  simp only [List.getD_eq_getElem?_getD, List.getElem?_eq_getElem hi, Option.getD_some] at this
  omega
/-- What a timetable gives at a time. -/
theorem time_facts {t : Tt} (ht : timeB t = true) {c : Int} (hc : 0 ≤ c) :
    t.1.1 = (t.1.1.toNat : Int) ∧ 0 < t.1.1.toNat ∧ t.1.1.toNat ≤ 8 ∧ (t.2.1 != 0) = true ∧ idxIn (c.tmod t.2.1) (netsL t).length = true ∧
    at_ K_PSiq (netsL t) (c.tmod t.2.1).toNat = (toI (netN t.1.1.toNat (openE t (c.tmod t.2.1))), ()) ∧ (openE t (c.tmod t.2.1)).all (edgeB (t.1.1.toNat : Int)) = true := by
  obtain ⟨g1, g2, g3, g4⟩ := timeB_parts ht
  have g3 := inB_iff.1 g3
  have hn := graphB_n (n := t.1.1) (l := t.1.2.1) (u := t.1.2.2) g1
  obtain ⟨hE, hR⟩ := graphB_edges (n := t.1.1) (l := t.1.2.1) (u := t.1.2.2) g1
  have hN : t.1.1 = (t.1.1.toNat : Int) := by omega
  rw [hN] at hE
  obtain ⟨m1, m2⟩ := tmod_lt (c := c) (p := t.2.1) (by omega) (by omega)
  obtain ⟨o1, o2⟩ := openE_ok hE hR (c.tmod t.2.1)
  have hp : (t.2.1 != 0) = true := by simp; omega
  have hlen : (netsL t).length = t.2.1.toNat := by simp [netsL]
  refine ⟨hN, by omega, by omega, hp, ?_, ?_, o1⟩
  · rw [hlen]
    unfold idxIn
    simp
    omega
  · have hlt : (c.tmod t.2.1).toNat < (netsL t).length := by rw [hlen]; omega
    rw [at_get (e := K_PSiq) hlt]
    simp only [netsL, List.get_eq_getElem, List.getElem_map, List.getElem_range]
    rw [show (((c.tmod t.2.1).toNat : Nat) : Int) = c.tmod t.2.1 by omega]
theorem specRB_l0 (N : Nat) (t : Tt) (c x : Int) (s : Nat) (ht : timeB t = true) (ho : okT t = true) (h0 : 0 ≤ c) (h1 : c ≤ 1000) (hs : s ≤ 1000) : ∀ (k i f : Nat), i + k = s → k < f →
    spec_ReachedBy_l0 N f (c, (s : Int), t, setF (iterP t c x i) t.1.1.toNat 0, (i : Int), ()) = some (.inl (setF (iterP t c x s) t.1.1.toNat 0, ())) := by
  intro k
  induction k with
  | zero =>
    intro i f e1 e2
    obtain ⟨f, rfl⟩ : ∃ m, f = m + 1 := ⟨f - 1, by omega⟩
    have e : i = s := by omega
    subst e
    simp [spec_ReachedBy_l0, spec_ReachedBy_l0_r]
  | succ k ih =>
    intro i f e1 e2
    obtain ⟨f, rfl⟩ : ∃ m, f = m + 1 := ⟨f - 1, by omega⟩
    have hi : i < s := by omega
    obtain ⟨n1, n2, n3, n4, n5, n6, n7⟩ := time_facts ht h0
    show spec_ReachedBy_l0_r N (spec_ReachedBy_l0 N f) (c, (s : Int), t, setF (iterP t c x i) t.1.1.toNat 0, (i : Int), ()) = _
    unfold spec_ReachedBy_l0_r
    have hw : IntKind.wrap .i64 ((i : Int) + 1) = ((i + 1 : Nat) : Int) := by
      rw [wrap_in _ (by omega) (by omega)]
      rfl
    have hw2 : IntKind.wrap .i64 (c + (i : Int)) = c + (i : Int) := wrap_in _ (by omega) (by omega)
    have hset : okSet t.1.1 (setF (iterP t c x i) t.1.1.toNat 0) = true := by
      unfold okSet
      have := setF_len (p := iterP t c x i) (k := t.1.1.toNat) (x := 0)
      simp only [Bool.and_eq_true, decide_eq_true_eq, List.all_eq_true]
      refine ⟨by omega, fun z hz => ?_⟩
      obtain ⟨y, hy, rfl⟩ := setF_nat z hz
      exact inB_iff.2 (by omega)
    have a1 : decide (0 ≤ c + (i : Int)) = true := by simp; omega
    have a2 : decide (c + (i : Int) ≤ 5000) = true := by simp; omega
    simp only [lt_dec hi, if_true, hw, hw2, G_l11Reached, ht, ho, a1, a2, hset, Bool.and_self, Option.bind_some, reachL_set]
    exact ih (i + 1) f (by omega) (by omega)
theorem node_spec (g : Gr) (x : Int) (u : Unit) (hg : 0 < g.1) (h8 : g.1 ≤ 8) : g_spec_l2Node (g, x, u) = (inB 0 (g.1 - 1) x, ()) := by
  unfold g_spec_l2Node
  have hw : IntKind.wrap .i64 (g.1 - 1) = g.1 - 1 := wrap_in _ (by omega) (by omega)
  simp only [hw, l1In_eq]
theorem specRB_lim (d) (r) (h : G_reachedBy d = some r) : ∃ N, F_spec_ReachedBy N d = some r := by
  obtain ⟨t, x, c, s, _⟩ := d
  unfold G_reachedBy at h
  split at h
  · rename_i ho
    have ho : okT t = true := ho
    have h := Option.some.inj h
    subst h
    refine ⟨2000, ?_⟩
    unfold F_spec_ReachedBy G_l11Good rbB
    simp only [ho, if_true, Option.bind_some, clock_spec]
    cases ht : timeB t with
    | false => rfl
    | true =>
      obtain ⟨n1, n2, n3, n4, n5, n6, n7⟩ := time_facts ht (Int.le_refl 0)
      simp only [node_spec t.1 x () (by omega) (by omega)]
      cases hx : inB 0 (t.1.1 - 1) x with
      | false => rfl
      | true =>
        cases hc : inB 0 1000 c with
        | false => rfl
        | true =>
          cases hs : inB 0 1000 s with
          | false => rfl
          | true =>
            have hc' := inB_iff.1 hc
            have hs' := inB_iff.1 hs
            have hx' := inB_iff.1 hx
            have hx1 : x = (x.toNat : Int) := by omega
            have hs1 : s = (s.toNat : Int) := by omega
            have := specRB_l0 2000 t c x s.toNat ht ho hc'.1 hc'.2 (by omega) s.toNat 0 2000 (by omega) (by omega)
            have e0 : setF (iterP t c x 0) t.1.1.toNat 0 = [x] := by
              have := setF_one (n := t.1.1.toNat) (x := x.toNat) (by omega)
              rw [← hx1] at this
              exact this
            rw [e0, ← hs1] at this
            simp only [Int.natCast_zero] at this
            simp only [Bool.not_true, Bool.false_eq_true, if_false, Bool.and_self, if_true, this, Option.bind_some]
  · cases h

/-! ### impl -/
theorem implRB_l0 (N : Nat) (t : Tt) (c x : Int) (s : Nat) (ht : timeB t = true) (h0 : 0 ≤ c) (h1 : c ≤ 1000) (hs : s ≤ 1000) : ∀ (k i f m : Nat), i + k = s → k < f → isM t.1.1.toNat m (iterP t c x i) →
    ∃ m', impl_ReachedBy_l0 N f (c, t, netsL t, (m : Int), (s : Int), (i : Int), ()) = some (.inl ((m' : Nat), ())) ∧ isM t.1.1.toNat m' (iterP t c x s) := by
  intro k
  induction k with
  | zero =>
    intro i f m e1 e2 hm
    obtain ⟨f, rfl⟩ : ∃ m, f = m + 1 := ⟨f - 1, by omega⟩
    have e : i = s := by omega
    subst e
    exact ⟨m, by simp [impl_ReachedBy_l0, impl_ReachedBy_l0_r], hm⟩
  | succ k ih =>
    intro i f m e1 e2 hm
    obtain ⟨f, rfl⟩ : ∃ m, f = m + 1 := ⟨f - 1, by omega⟩
    have hi : i < s := by omega
    obtain ⟨n1, n2, n3, n4, n5, n6, n7⟩ := time_facts (c := c + (i : Int)) ht (by omega)
    have hw : IntKind.wrap .i64 ((i : Int) + 1) = ((i + 1 : Nat) : Int) := by
      rw [wrap_in _ (by omega) (by omega)]
      rfl
    have hw2 : IntKind.wrap .i64 (c + (i : Int)) = c + (i : Int) := wrap_in _ (by omega) (by omega)
    have hok := netN_ok (n := t.1.1.toNat) (by omega) n7
    have hsm := small_toI hok n3
    have b1 : decide (0 ≤ (m : Int)) = true := nonneg_dec m
    have b2 : decide ((m : Int) < 256) = true := by
      have := hm.1
      simp
      omega
    obtain ⟨m', k1, k2⟩ := ih (i + 1) f _ (by omega) (by omega) (around_isM n3 n7 hm)
    refine ⟨m', ?_, k2⟩
    rw [← k1]
    show impl_ReachedBy_l0_r N (impl_ReachedBy_l0 N f) (c, t, netsL t, (m : Int), (s : Int), (i : Int), ()) = _
    unfold impl_ReachedBy_l0_r
    simp only [lt_dec hi, if_true, n4, hw2, n5, n6, G_around, hsm, b1, b2, Bool.and_self, Option.bind_some, hw, toI_from, toI_len, hok.1, Int.toNat_natCast]
theorem timedB (t : Tt) (c x : Int) (w : Unit) (ho : okT t = true) : F_impl_isTimed 0 (t, c, [x], w) = some (timeB t && inB 0 1000 c && inB 0 (t.1.1 - 1) x, ()) := by
  unfold F_impl_isTimed
  simp only [implT t _ ho, Option.bind_some, clock_impl]
  cases ht : timeB t with
  | false => rfl
  | true =>
    obtain ⟨n1, n2, n3, n4, n5, n6, n7⟩ := time_facts ht (Int.le_refl 0)
    cases hc : inB 0 1000 c with
    | false => rfl
    | true =>
      have hw : IntKind.wrap .i64 (t.1.1 - 1) = t.1.1 - 1 := wrap_in _ (by omega) (by omega)
      have : okL [x] = true := okL_of (by simp)
      simp only [hw, G_allWithin, this, if_true, Option.bind_some, List.all_cons, List.all_nil, Bool.and_true, Bool.true_and]
theorem implRB_lim (d) (r) (h : G_reachedBy d = some r) : ∃ N, F_impl_ReachedBy N d = some r := by
  obtain ⟨t, x, c, s, _⟩ := d
  unfold G_reachedBy at h
  split at h
  · rename_i ho
    have ho : okT t = true := ho
    have h := Option.some.inj h
    subst h
    refine ⟨2000, ?_⟩
    unfold F_impl_ReachedBy rbB
    simp only [timedB t c x _ ho, Option.bind_some, clock_impl]
    cases ht : timeB t with
    | false => rfl
    | true =>
      obtain ⟨n1, n2, n3, n4, n5, n6, n7⟩ := time_facts ht (Int.le_refl 0)
      cases hx : inB 0 (t.1.1 - 1) x with
      | false => cases inB 0 1000 c <;> rfl
      | true =>
        cases hc : inB 0 1000 c with
        | false => rfl
        | true =>
          cases hs : inB 0 1000 s with
          | false => rfl
          | true =>
            have hc' := inB_iff.1 hc
            have hs' := inB_iff.1 hs
            have hx' := inB_iff.1 hx
            have hx1 : x = (x.toNat : Int) := by omega
            have hs1 : s = (s.toNat : Int) := by omega
            have hO : G_openNets (t, ()) = some (netsL t, ()) := by
              unfold G_openNets
              rw [if_pos (by rw [ht, ho]; rfl)]
            have hsh : shl .i64 1 x = ((2 ^ x.toNat : Nat) : Int) := by
              rw [hx1]
              exact shl_one (by omega)
            have one := one_isM (n := t.1.1.toNat) (x := x.toNat) n3 (by omega)
            rw [← hx1] at one
            obtain ⟨m', k1, k2⟩ := implRB_l0 2000 t c x s.toNat ht hc'.1 hc'.2 (by omega) s.toNat 0 2000 (2 ^ x.toNat) (by omega) (by omega) one
            rw [← hs1] at k1
            simp only [Int.natCast_zero] at k1
            have hx0 : decide (0 ≤ x) = true := by simp; omega
            have b1 : decide (0 ≤ (m' : Int)) = true := nonneg_dec m'
            have b2 : decide ((m' : Int) < 256) = true := by
              have := k2.1
              simp
              omega
            simp only [Bool.not_true, Bool.false_eq_true, if_false, Bool.and_self, if_true, hO, hx0, hsh, k1, Option.bind_some, G_setOf, b1, b2, Int.toNat_natCast, setF_mask n3 k2]
  · cases h

/-! ### the law -/
theorem rbB_len (t : Tt) (x c s : Int) : (rbB t x c s).1.length ≤ 8 := by
  unfold rbB
  split
  · rename_i h
    simp only [Bool.and_eq_true] at h
    obtain ⟨n1, n2, n3, n4, n5, n6, n7⟩ := time_facts h.1.1.1 (Int.le_refl 0)
    exact Nat.le_trans setF_len n3
  · simp
theorem law10 : ∀ d, WfD (Kd.tuple ([(K_PPiSPiiqqiSSiq, false), (I, false), (I, false), (I, false)].map (·.1))) d → ∃ out, F_laws_FnExactReachedBy 0 d = some out ∧ (splitT [.bool] [] out).1.1 = true := by
  rintro ⟨⟨⟨n, es, v⟩, p, l, u⟩, x, c, s, w⟩ ⟨⟨⟨_, he, _⟩, _, hl, _⟩, _⟩
  have he : es.length ≤ maxLen := he.1
  have hl1 : l.length ≤ maxLen := hl.1
  have hl2 : ∀ x ∈ l, x.length ≤ maxLen := fun x hx => (hl.2 x hx).1
  refine ⟨(true, ()), ?_, rfl⟩
  unfold F_laws_FnExactReachedBy
  obtain ⟨r, h1, h2⟩ := szTimetable_neg n es v p l u () he hl1 hl2
  simp only [h1, Option.bind_some]
  rcases h2 with h2 | ⟨h2, h3, h4⟩
  · simp only [h2, decide_true, if_true]
  · have g1 := okL_of h2
    have g2 := okLL_small h3 h4
    have g3 : okT ((n, es, v), p, l, ()) = true := by simp only [okT, g1, g2, Bool.and_self]
    have hs := sumL_le l h4
    have hs0 := sumL_nonneg l
    have hmt := markTimetable_eq n es v p l () () 1 g1 g2 (by decide) (okK_small (by omega) (by omega)) (okK_small (by omega) (by omega))
    have hk1 : decide ((1 : Int) + 2 * (es.length : Int) + sumL l < 0) = false := by simp; omega
    have hlen := rbB_len ((n, es, v), p, l, ()) x c s
    have ho : okL (rbB ((n, es, v), p, l, ()) x c s).1 = true := okL_of (by omega)
    have hk : okK 1 = true := by decide
    have hk2 : decide ((1 : Int) + ((rbB ((n, es, v), p, l, ()) x c s).1.length : Int) < 0) = false := by simp; omega
    simp only [toTimetable_eq n es v p l u _ g1 g2, G_reachedBy, g3, if_true, Option.bind_some, G_eqIntS, ho, decide_true, eqTimetable_self n es v p l () _ g1 g2, hmt, hk1, G_markIntS, G_heldIntS, hk, Bool.and_self, markL_ok ho, held_markL, hk2, beq_self_eq_true, bne_self_eq_false, Bool.not_true, Bool.false_eq_true, if_false]
    split <;> rfl
end Go.V.W
