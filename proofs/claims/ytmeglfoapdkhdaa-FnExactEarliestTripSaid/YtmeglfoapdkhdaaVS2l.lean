/- The law FnExactOpenGraph on plain data. -/
import Derived.Test.YtmeglfoapdkhdaaVS2k
set_option linter.unusedVariables false
set_option linter.unusedSimpArgs false
namespace Go.V.W
open Go.Proofs

theorem smallN_nat {l : List Int} (h : smallN l = true) : l = toI (fromI l) ∧ okN l.length (fromI l) ∧ l.length ≤ 8 := by
  unfold smallN at h
  simp only [Bool.and_eq_true, decide_eq_true_eq, List.all_eq_true] at h
  refine ⟨?_, ⟨by simp [fromI], fun x => ?_⟩, h.1⟩
  · unfold toI fromI
    rw [List.map_map]
    have : ∀ m ∈ l, ((fun m : Nat => (m : Int)) ∘ Int.toNat) m = m := fun m hm => by
      have := h.2 m hm
      simp only [Function.comp]
      omega
    exact (List.map_congr_left this).trans (List.map_id' l) |>.symm
  · unfold fromI
    simp only [List.getD_eq_getElem?_getD, List.getElem?_map]
    cases hx : l[x]? with
    | none => simp
    | some m =>
      have := h.2 m (List.mem_of_getElem? hx)
      simp only [Option.map_some, Option.getD_some]
      omega
theorem hasV (ms : List Nat) (n : Nat) (hm : okN n ms) (hn : n ≤ 8) (u v w z : Unit) (x y : Nat) (hx : x < n) (hy : y < n) : FV_impl_net_has ((x : Int), (y : Int), (((toI ms, u), v), w), z) = some (hasN ms x y, ()) := by
  unfold FV_impl_net_has F_impl_net_has
  have i1 : idxIn (x : Int) ms.length = true := idxIn_nat (by rw [hm.1]; exact hx)
  simp only [toI_len, i1, if_true, nonneg_dec, Int.toNat_natCast, at_toI, has_bit (hm.2 x) (show y < 8 by omega)]
  rfl
theorem rowE_len {p : Nat → Nat → Bool} {x : Nat} : ∀ {m y : Nat}, (rowE p x m y).length ≤ m := by
  intro m
  induction m with
  | zero => intro y; simp [rowE]
  | succ m ih =>
    intro y
    unfold rowE
    split
    · have := ih (y := y + 1); simp; omega
    · have := ih (y := y + 1); omega
theorem graphBy_l2 (N : Nat) (ms : List Nat) (n : Nat) (hm : okN n ms) (hn : n ≤ 8) (u v w : Unit) (z : Gr) (n' : Int) (x : Nat) (hx : x < n) (s10 s11 : Int) : ∀ k y f (A : List E), y + k = n → k < f → A.length + k ≤ 1000 →
    impl_graphBy_f135_l2 N f ((n : Int), (((toI ms, u), v), w), z, (n', A, ()), (x : Int), (y : Int), s10, s11, ()) = some (.inl ((n : Int), (((toI ms, u), v), w), z, (n', A ++ rowE (hasN ms) x k y, ()), s10, s11, ())) := by
  intro k
  induction k with
  | zero =>
    intro y f A h1 h2 h3
    obtain ⟨f, rfl⟩ : ∃ m, f = m + 1 := ⟨f - 1, by omega⟩
    have e : y = n := by omega
    subst e
    simp [impl_graphBy_f135_l2, impl_graphBy_f135_l2_r, rowE]
  | succ k ih =>
    intro y f A h1 h2 h3
    obtain ⟨f, rfl⟩ : ∃ m, f = m + 1 := ⟨f - 1, by omega⟩
    have hy : y < n := by omega
    show impl_graphBy_f135_l2_r N (impl_graphBy_f135_l2 N f) ((n : Int), (((toI ms, u), v), w), z, (n', A, ()), (x : Int), (y : Int), s10, s11, ()) = _
    unfold impl_graphBy_f135_l2_r
    have hw : IntKind.wrap .i64 ((y : Int) + 1) = ((y + 1 : Nat) : Int) := by
      rw [wrap_in _ (by omega) (by omega)]
      rfl
    have hle : decide (A.length + List.length [(((x : Int), (y : Int), ()) : E)] ≤ lim) = true := by
      unfold lim
      simp
      omega
    simp only [lt_dec hy, if_true, hasV ms n hm hn u v w () x y hx hy, Option.bind_some, hle, hw]
    unfold rowE
    by_cases hh : hasN ms x y = true
    · rw [if_pos hh, if_pos hh, ih (y + 1) f _ (by omega) (by omega) (by simp; omega)]
      simp
    · rw [if_neg hh, if_neg hh]
      exact ih (y + 1) f A (by omega) (by omega) (by omega)
theorem graphBy_l0 (N : Nat) (hN : 9 ≤ N) (ms : List Nat) (n : Nat) (hm : okN n ms) (hn : n ≤ 8) (u v w : Unit) (z : Gr) (n' : Int) : ∀ k x f (A : List E), x + k = n → k < f → A.length + 10 * k ≤ 900 →
    impl_graphBy_f135_l0 N f ((n : Int), (((toI ms, u), v), w), z, (n', A, ()), (n : Int), (x : Int), ()) = some (.inl (z, (n', A ++ allE (hasN ms) n k x, ()), ())) := by
  intro k
  induction k with
  | zero =>
    intro x f A h1 h2 h3
    obtain ⟨f, rfl⟩ : ∃ m, f = m + 1 := ⟨f - 1, by omega⟩
    have e : x = n := by omega
    subst e
    simp [impl_graphBy_f135_l0, impl_graphBy_f135_l0_r, allE]
  | succ k ih =>
    intro x f A h1 h2 h3
    obtain ⟨f, rfl⟩ : ∃ m, f = m + 1 := ⟨f - 1, by omega⟩
    have hx : x < n := by omega
    show impl_graphBy_f135_l0_r N (impl_graphBy_f135_l0 N f) ((n : Int), (((toI ms, u), v), w), z, (n', A, ()), (n : Int), (x : Int), ()) = _
    unfold impl_graphBy_f135_l0_r
    have hw : IntKind.wrap .i64 ((x : Int) + 1) = ((x + 1 : Nat) : Int) := by
      rw [wrap_in _ (by omega) (by omega)]
      rfl
    have hin := graphBy_l2 N ms n hm hn u v w z n' x hx (n : Int) (x : Int) (n - (x + 1)) (x + 1) N A (by omega) (by omega) (by omega)
    simp only [lt_dec hx, if_true, hw, hin, Option.bind_some]
    have := rowE_len (p := hasN ms) (x := x) (m := n - (x + 1)) (y := x + 1)
    rw [ih (x + 1) f _ (by omega) (by omega) (by simp; omega)]
    simp [allE]
theorem graphBy135_lim (d) (r) (h : G_graphBy135 d = some r) : ∃ N, F_impl_graphBy_f135 N d = some r := by
  obtain ⟨n', ⟨⟨⟨l, u⟩, v⟩, w⟩, q⟩ := d
  unfold G_graphBy135 at h
  split at h
  · rename_i hc
    simp only [Bool.and_eq_true, decide_eq_true_eq] at hc
    obtain ⟨h1, h2⟩ := hc
    obtain ⟨e, hm, h8⟩ := smallN_nat h1
    have h := Option.some.inj h
    subst h
    have h2 : n' = (l.length : Int) := h2
    subst h2
    refine ⟨20, ?_⟩
    unfold F_impl_graphBy_f135
    have := graphBy_l0 20 (by omega) (fromI l) l.length hm h8 u v w (0, [], ()) (l.length : Int) l.length 0 20 [] (by omega) (by omega) (by simp; omega)
    rw [← e] at this
    simp only [Int.natCast_zero, List.nil_append] at this
    simp only [this, Option.bind_some, Int.toNat_natCast]
  · cases h

/-! ### the law -/
def ogB (t : Tt) (c : Int) : Gr × Bool × Unit := if (timeB t && inB 0 1000 c) = true then ((t.1.1, openE t (c.tmod t.2.1), ()), true, ()) else ((0, [], ()), false, ())
theorem clock_spec (c : Int) (u : Unit) : g_spec_l11Clock (c, u) = (inB 0 1000 c, ()) := by
  unfold g_spec_l11Clock
  simp only [l1In_eq]
theorem clock_impl (c : Int) (u : Unit) : g_impl_isClock (c, u) = (inB 0 1000 c, ()) := by
  unfold g_impl_isClock
  simp only [within_eq]
theorem specOG (t : Tt) (c : Int) (w : Unit) (h : okT t = true) : F_spec_OpenGraph 0 (t, c, w) = some (ogB t c) := by
  unfold F_spec_OpenGraph G_l11Good ogB
  simp only [h, if_true, Option.bind_some, clock_spec]
  cases ht : timeB t with
  | false => rfl
  | true =>
    cases hc : inB 0 1000 c with
    | false => rfl
    | true =>
      have := inB_iff.1 hc
      have e1 : decide (0 ≤ c) = true := by simp; omega
      have e2 : decide (c ≤ 5000) = true := by simp; omega
      simp only [G_l11Open, ht, h, e1, e2, Bool.and_self, Bool.not_true, Bool.false_eq_true, if_false, if_true, Option.bind_some]
theorem openE_ok {t : Tt} {n : Nat} (h1 : t.1.2.1.all (edgeB (n : Int)) = true) (h2 : risingE t.1.2.1 = true) (r : Int) : (openE t r).all (edgeB (n : Int)) = true ∧ ((openE t r).Pairwise fun a b => lessE a b = true) := by
  have hs := selE_sub t.1.2.1 t.2.2.1 r
  refine ⟨List.all_eq_true.2 fun e he => List.all_eq_true.1 h1 e (hs.mem he), (rising_pair h2).sublist hs⟩
theorem tmod_lt {c p : Int} (hc : 0 ≤ c) (hp : 0 < p) : 0 ≤ c.tmod p ∧ c.tmod p < p := by
  rw [Int.tmod_eq_emod_of_nonneg hc]
  exact ⟨Int.emod_nonneg _ (by omega), Int.emod_lt_of_pos _ hp⟩
theorem implOG (t : Tt) (c : Int) (w : Unit) (h : okT t = true) : F_impl_OpenGraph 0 (t, c, w) = some (ogB t c) := by
  unfold F_impl_OpenGraph ogB
  simp only [implT t _ h, Option.bind_some, clock_impl]
  cases ht : timeB t with
  | false => rfl
  | true =>
    cases hc : inB 0 1000 c with
    | false => rfl
    | true =>
      obtain ⟨g1, g2, g3, g4⟩ := timeB_parts ht
      have g3 := inB_iff.1 g3
      have hcc := inB_iff.1 hc
      have hn := graphB_n (n := t.1.1) (l := t.1.2.1) (u := t.1.2.2) g1
      obtain ⟨hE, hR⟩ := graphB_edges (n := t.1.1) (l := t.1.2.1) (u := t.1.2.2) g1
      have hN : t.1.1 = (t.1.1.toNat : Int) := by omega
      rw [hN] at hE
      obtain ⟨m1, m2⟩ := tmod_lt (c := c) (p := t.2.1) (by omega) (by omega)
      obtain ⟨o1, o2⟩ := openE_ok hE hR (c.tmod t.2.1)
      have hp : (t.2.1 != 0) = true := by simp; omega
      have hlen : (netsL t).length = t.2.1.toNat := by simp [netsL]
      have hi : idxIn (c.tmod t.2.1) (netsL t).length = true := by
        rw [hlen]
        unfold idxIn
        simp
        omega
      have hat : at_ K_PSiq (netsL t) (c.tmod t.2.1).toNat = (toI (netN t.1.1.toNat (openE t (c.tmod t.2.1))), ()) := by
        have hlt : (c.tmod t.2.1).toNat < (netsL t).length := by rw [hlen]; omega
        rw [at_get (e := K_PSiq) hlt]
        simp only [netsL, List.get_eq_getElem, List.getElem_map, List.getElem_range]
        rw [show (((c.tmod t.2.1).toNat : Nat) : Int) = c.tmod t.2.1 by omega]
      have hok := netN_ok (n := t.1.1.toNat) (by omega) o1
      have hG : F_impl_net_graph 0 ((toI (netN t.1.1.toNat (openE t (c.tmod t.2.1))), ()), ()) = some ((t.1.1, openE t (c.tmod t.2.1), ()), ()) := by
        unfold F_impl_net_graph g_impl_net_size G_graphBy135
        have hs : smallN (toI (netN t.1.1.toNat (openE t (c.tmod t.2.1)))) = true := by
          unfold smallN
          simp only [toI_len, hok.1, Bool.and_eq_true, decide_eq_true_eq, List.all_eq_true]
          refine ⟨by omega, fun m hm => ?_⟩
          unfold toI at hm
          obtain ⟨x, hx, rfl⟩ := List.mem_map.1 hm
          obtain ⟨i, hi, rfl⟩ := List.getElem_of_mem hx
          have := hok.2 i
          simp only [List.getD_eq_getElem?_getD, List.getElem?_eq_getElem hi, Option.getD_some] at this
          omega
        simp only [hs, decide_true, Bool.and_self, if_true, Option.bind_some, toI_len, hok.1, toI_from, Int.toNat_natCast, allE_net (show t.1.1.toNat ≤ 8 by omega) o1 o2]
        rw [← hN]
      have hO : G_openNets (t, ()) = some (netsL t, ()) := by
        unfold G_openNets
        rw [if_pos (by rw [ht, h]; rfl)]
      simp only [hO, hp, hi, hat, hG, Bool.not_true, Bool.false_eq_true, if_false, if_true, Option.bind_some, Bool.and_self]
theorem sumL_le : ∀ (l : List (List Int)), l.all (fun x => decide (x.length ≤ 1048576)) = true → sumL l ≤ 1048576 * l.length := by
  intro l
  induction l with
  | nil => intro _; simp [sumL]
  | cons x l ih =>
    intro h
    simp only [List.all_cons, Bool.and_eq_true, decide_eq_true_eq] at h
    have := ih h.2
    simp only [sumL, List.length_cons]
    omega
theorem selE_len (es : List E) (ts : List (List Int)) (r : Int) : (selE es ts r).length ≤ es.length := (selE_sub es ts r).length_le
theorem heldGraph_marked (n : Int) (l : List E) (v w : Unit) (k : Int) (hl : okL l = true) (hk : okK k = true) (hk2 : okK (k + 2 * (l.length : Int)) = true) : F_laws_heldGraph 0 ((n, markA k l, v), k, w) = some (k + 2 * (l.length : Int), ()) := by
  have h1 := okK_of hk2
  unfold F_laws_heldGraph G_heldIntA2S
  have c1 : decide (k + 2 * (l.length : Int) < 0) = false := by simp; omega
  simp only [markA_ok hl, hk, Bool.and_self, if_true, Option.bind_some, held_markA, c1, Bool.false_eq_true, if_false]
theorem law7 : ∀ d, WfD (Kd.tuple ([(K_PPiSPiiqqiSSiq, false), (I, false)].map (·.1))) d → ∃ out, F_laws_FnExactOpenGraph 0 d = some out ∧ (splitT [.bool] [] out).1.1 = true := by
  rintro ⟨⟨⟨n, es, v⟩, p, l, u⟩, c, w⟩ ⟨⟨⟨_, he, _⟩, _, hl, _⟩, _⟩
  have he : es.length ≤ maxLen := he.1
  have hl1 : l.length ≤ maxLen := hl.1
  have hl2 : ∀ x ∈ l, x.length ≤ maxLen := fun x hx => (hl.2 x hx).1
  refine ⟨(true, ()), ?_, rfl⟩
  unfold F_laws_FnExactOpenGraph
  obtain ⟨r, h1, h2⟩ := szTimetable_neg n es v p l u () he hl1 hl2
  simp only [h1, Option.bind_some]
  rcases h2 with h2 | ⟨h2, h3, h4⟩
  · simp only [h2, decide_true, if_true]
  · have g1 := okL_of h2
    have g2 := okLL_small h3 h4
    have g3 : okT ((n, es, v), p, l, ()) = true := by simp only [okT, g1, g2, Bool.and_self]
    have hs := sumL_le l h4
    have hs0 := sumL_nonneg l
    have hmt := markTimetable_eq n es v p l () () 1 g1 g2 (by decide) (okK_small (by omega) (by omega)) (okK_small (by omega) (by omega))
    have hk1 : decide ((1 : Int) + 2 * (es.length : Int) + sumL l < 0) = false := by simp; omega
    -- the result
    have hR : ∃ (n' : Int) (es' : List E), (ogB ((n, es, v), p, l, ()) c).1 = (n', es', ()) ∧ es'.length ≤ 1048576 := by
      unfold ogB
      split
      · exact ⟨_, _, rfl, Nat.le_trans (selE_len _ _ _) h2⟩
      · exact ⟨_, _, rfl, by simp⟩
    obtain ⟨n', es', e1, e2⟩ := hR
    have ho := okL_of e2
    have hk2 : decide ((1 : Int) + 2 * (es'.length : Int) < 0) = false := by simp; omega
    have hh := heldGraph_marked n' es' () () 1 ho (by decide) (okK_small (by omega) (by omega))
    simp only [toTimetable_eq n es v p l u _ g1 g2, specOG _ _ _ g3, implOG _ _ _ g3, e1, eqGraph_self n' es' () () _ ho, eqTimetable_self n es v p l () _ g1 g2, hmt, hk1, markGraph_eq n' es' () _ 1 ho (by decide), hh, hk2, Option.bind_some, beq_self_eq_true, bne_self_eq_false, Bool.not_true, Bool.false_eq_true, if_false]
    split <;> rfl
end Go.V.W
