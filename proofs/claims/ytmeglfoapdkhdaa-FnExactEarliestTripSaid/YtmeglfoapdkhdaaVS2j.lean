/- Static timetables and their marks, told plainly; the law FnExactStaticTimetable on plain data. -/
import Derived.Test.YtmeglfoapdkhdaaVS2i
set_option linter.unusedVariables false
set_option linter.unusedSimpArgs false
namespace Go.V.W
open Go.Proofs

theorem rep_snoc (m : Nat) : List.replicate m ([0] : List Int) ++ [[0]] = List.replicate (m + 1) [0] := by
  rw [List.replicate_succ']
theorem specStatic_l0 (N : Nat) (g : Gr) (x : Tt) (y : Gr) (p : Int) (hl : g.2.1.length ≤ lim) : ∀ n i, g.2.1.length ≤ i + n → i ≤ g.2.1.length →
    spec_StaticTimetable_l0 N (n + 1) (g, x, (y, p, List.replicate i [0], ()), (i : Int), ()) = some (.inl (x, (y, p, List.replicate g.2.1.length [0], ()), ())) := by
  intro n
  induction n with
  | zero =>
    intro i h1 h2
    have e : i = g.2.1.length := by omega
    subst e
    simp [spec_StaticTimetable_l0, spec_StaticTimetable_l0_r]
  | succ n ih =>
    intro i h1 h2
    by_cases hi : i < g.2.1.length
    · show spec_StaticTimetable_l0_r N (spec_StaticTimetable_l0 N (n + 1)) (g, x, (y, p, List.replicate i [0], ()), (i : Int), ()) = _
      unfold spec_StaticTimetable_l0_r
      have hle : decide ((List.replicate i ([0] : List Int)).length + List.length [[(0 : Int)]] ≤ lim) = true := by simp; omega
      simp only [lt_dec hi, if_true, hle, wrap_up hi (lim_max hl), rep_snoc]
      exact ih (i + 1) (by omega) (by omega)
    · have e : i = g.2.1.length := by omega
      subst e
      simp [spec_StaticTimetable_l0, spec_StaticTimetable_l0_r]
theorem implStatic_l0 (N : Nat) (m : Nat) (x : Tt) (y : Gr) (p : Int) (hl : m ≤ lim) : ∀ n i, m ≤ i + n → i ≤ m →
    impl_StaticTimetable_l0 N (n + 1) (x, (y, p, List.replicate i [0], ()), (m : Int), (i : Int), ()) = some (.inl (x, (y, p, List.replicate m [0], ()), ())) := by
  intro n
  induction n with
  | zero =>
    intro i h1 h2
    have e : i = m := by omega
    subst e
    simp [impl_StaticTimetable_l0, impl_StaticTimetable_l0_r]
  | succ n ih =>
    intro i h1 h2
    by_cases hi : i < m
    · show impl_StaticTimetable_l0_r N (impl_StaticTimetable_l0 N (n + 1)) (x, (y, p, List.replicate i [0], ()), (m : Int), (i : Int), ()) = _
      unfold impl_StaticTimetable_l0_r
      have hle : decide ((List.replicate i ([0] : List Int)).length + List.length [[(0 : Int)]] ≤ lim) = true := by simp; omega
      simp only [lt_dec hi, if_true, hle, wrap_up hi (lim_max hl), rep_snoc]
      exact ih (i + 1) (by omega) (by omega)
    · have e : i = m := by omega
      subst e
      simp [impl_StaticTimetable_l0, impl_StaticTimetable_l0_r]
theorem specStatic_lim (d) (r) (h : G_static d = some r) : ∃ N, F_spec_StaticTimetable N d = some r := by
  obtain ⟨⟨n, l, u⟩, w⟩ := d
  unfold G_static at h
  split at h
  · rename_i ho
    have hl : l.length ≤ lim := okL_lim ho
    have h := Option.some.inj h
    subst h
    refine ⟨l.length + 1, ?_⟩
    unfold F_spec_StaticTimetable staticT
    have hlim : decide (List.length ([] : List E) + l.length ≤ lim) = true := by simp [hl]
    have := specStatic_l0 (l.length + 1) (n, l, u) ((0, [], ()), 0, [], ()) (n, l, ()) 1 hl l.length 0 (by simp) (by omega)
    simp only [Int.natCast_zero, List.replicate_zero] at this
    simp only [l4Field_eq (n, l, u) _ ho, Option.bind_some, hlim, if_true, List.nil_append, this]
    cases (graphB (n, l, u) && decide (n > 0)) <;> rfl
  · cases h
theorem implStatic_lim (d) (r) (h : G_static d = some r) : ∃ N, F_impl_StaticTimetable N d = some r := by
  obtain ⟨⟨n, l, u⟩, w⟩ := d
  unfold G_static at h
  split at h
  · rename_i ho
    have ho : okL l = true := ho
    have hl : l.length ≤ lim := okL_lim ho
    have h := Option.some.inj h
    subst h
    refine ⟨l.length + 1, ?_⟩
    unfold F_impl_StaticTimetable staticT G_graph G_toIntA2S
    have := implStatic_l0 (l.length + 1) l.length ((0, [], ()), 0, [], ()) (n, l, ()) 1 hl l.length 0 (by simp) (by omega)
    simp only [Int.natCast_zero, List.replicate_zero] at this
    simp only [ho, if_true, Option.bind_some, this]
    cases hg : graphB (n, l, u) with
    | false => rfl
    | true =>
      have := graphB_n hg
      by_cases c : n = 0
      · have c' : ¬ n > 0 := by omega
        have c2 : (n == (0 : Int)) = true := by simp [c]
        simp only [c2, c', Bool.not_true, Bool.false_eq_true, if_false, if_true, decide_false, Bool.and_false]
      · have c' : n > 0 := by omega
        have c2 : (n == (0 : Int)) = false := by simp [c]
        simp only [c2, c', Bool.not_true, Bool.false_eq_true, if_false, if_true, decide_true, Bool.and_true]
  · cases h

/-! ### marks -/
theorem sumL_nonneg : ∀ l, 0 ≤ sumL l := by
  intro l
  induction l with
  | nil => simp [sumL]
  | cons x l ih => simp only [sumL]; omega
theorem markIntSS_l0 (N : Nat) : ∀ (rest pre : List (List Int)) (k : Int) (n : Nat), pre.length + rest.length ≤ lim → rest.all okL = true → rest.length ≤ n → 0 ≤ k → k + sumL rest ≤ 4398046511104 →
    laws_markIntSS_l0 N (n + 1) (pre ++ rest, k, (pre.length : Int), ()) = some (.inl (pre ++ markLL k rest, k + sumL rest, ())) := by
  intro rest
  induction rest with
  | nil =>
    intro pre k n h1 h2 h3 h4 h5
    simp [laws_markIntSS_l0, laws_markIntSS_l0_r, markLL, sumL]
  | cons x rest ih =>
    intro pre k n h1 h2 h3 h4 h5
    simp only [List.length_cons, sumL, List.all_cons, Bool.and_eq_true] at h1 h2 h3 h5
    have hs := sumL_nonneg rest
    have hlt := mid_lt pre x rest
    have hmx : (pre ++ x :: rest).length ≤ maxLen := by
      have := lim_max h1
      simpa using this
    obtain ⟨n, rfl⟩ : ∃ m, n = m + 1 := ⟨n - 1, by omega⟩
    show laws_markIntSS_l0_r N (laws_markIntSS_l0 N (n + 1)) (pre ++ x :: rest, k, (pre.length : Int), ()) = _
    unfold laws_markIntSS_l0_r
    have hk : okK k = true := okK_small h4 (by omega)
    simp only [lt_dec hlt, if_true, idxIn_nat hlt, Int.toNat_natCast, wrap_up hlt hmx, at_mid (e := K_Si), G_markIntS, h2.1, hk, Bool.and_self, Option.bind_some, set_mid]
    have := ih (pre ++ [markL k x]) (k + x.length) n (by simp; omega) h2.2 (by omega) (by omega) (by omega)
    rw [show (pre ++ [markL k x]).length = pre.length + 1 by simp] at this
    rw [this]
    simp [markLL, sumL]
    omega
theorem markIntSS_lim (d) (r) (h : G_markIntSS d = some r) : ∃ N, F_laws_markIntSS N d = some r := by
  obtain ⟨l, k, _⟩ := d
  unfold G_markIntSS at h
  split at h
  · rename_i hc
    simp only [Bool.and_eq_true] at hc
    obtain ⟨⟨hll, hk⟩, hk2⟩ := hc
    obtain ⟨h1, h2⟩ := okLL_of hll
    have h := Option.some.inj h
    subst h
    refine ⟨l.length + 1, ?_⟩
    unfold F_laws_markIntSS
    have := markIntSS_l0 (l.length + 1) l [] k l.length (by simpa using okL_lim h1) h2 (Nat.le_refl _) (okK_of hk).1 (okK_of hk2).2
    simp only [List.nil_append, List.length_nil, Int.natCast_zero] at this
    simp only [this, Option.bind_some]
  · cases h
theorem heldL_cases : ∀ (l : List Int) (k : Int), heldL k l = k + l.length ∨ heldL k l = -1 := by
  intro l
  induction l with
  | nil => intro k; left; simp [heldL]
  | cons x l ih =>
    intro k
    simp only [heldL]
    by_cases h : x = k
    · simp only [h, if_true, List.length_cons]
      rcases ih (k + 1) with h | h
      · left; omega
      · right; exact h
    · simp [h]
theorem heldIntSS_l0 (N : Nat) : ∀ (rest pre : List (List Int)) (k : Int) (n : Nat), pre.length + rest.length ≤ lim → rest.all okL = true → rest.length ≤ n → 0 ≤ k → k + sumL rest ≤ 4398046511104 →
    laws_heldIntSS_l0 N (n + 1) (pre ++ rest, k, (pre.length : Int), ()) = some (.inl (heldLL k rest, ())) ∨ laws_heldIntSS_l0 N (n + 1) (pre ++ rest, k, (pre.length : Int), ()) = some (.inr (.inl (heldLL k rest, ()))) := by
  intro rest
  induction rest with
  | nil =>
    intro pre k n h1 h2 h3 h4 h5
    right
    simp [laws_heldIntSS_l0, laws_heldIntSS_l0_r, heldLL]
  | cons x rest ih =>
    intro pre k n h1 h2 h3 h4 h5
    simp only [List.length_cons, sumL, List.all_cons, Bool.and_eq_true] at h1 h2 h3 h5
    have hs := sumL_nonneg rest
    have hlt := mid_lt pre x rest
    have hmx : (pre ++ x :: rest).length ≤ maxLen := by
      have := lim_max h1
      simpa using this
    obtain ⟨n, rfl⟩ : ∃ m, n = m + 1 := ⟨n - 1, by omega⟩
    have hk : okK k = true := okK_small h4 (by omega)
    have hstep : laws_heldIntSS_l0 N (n + 1 + 1) (pre ++ x :: rest, k, (pre.length : Int), ()) = if heldL k x < 0 then some (.inl (-1, ())) else laws_heldIntSS_l0 N (n + 1) (pre ++ x :: rest, heldL k x, ((pre.length + 1 : Nat) : Int), ()) := by
      show laws_heldIntSS_l0_r N (laws_heldIntSS_l0 N (n + 1)) (pre ++ x :: rest, k, (pre.length : Int), ()) = _
      unfold laws_heldIntSS_l0_r
      simp only [lt_dec hlt, if_true, idxIn_nat hlt, Int.toNat_natCast, wrap_up hlt hmx, at_mid (e := K_Si), G_heldIntS, h2.1, hk, Bool.and_self, Option.bind_some]
      by_cases c : heldL k x < 0
      · simp only [c, decide_true, if_true]
      · simp only [c, decide_false, if_false, Bool.false_eq_true]
    rw [hstep]
    simp only [heldLL]
    by_cases c : heldL k x < 0
    · left; simp only [c, if_true]
    · simp only [c, if_false]
      rcases heldL_cases x k with e | e
      · have := ih (pre ++ [x]) (heldL k x) n (by simp; omega) h2.2 (by omega) (by omega) (by omega)
        rw [show (pre ++ [x]).length = pre.length + 1 by simp, List.append_assoc] at this
        exact this
      · rw [e] at c; exact absurd (by decide) c
theorem heldIntSS_lim (d) (r) (h : G_heldIntSS d = some r) : ∃ N, F_laws_heldIntSS N d = some r := by
  obtain ⟨l, k, _⟩ := d
  unfold G_heldIntSS at h
  split at h
  · rename_i hc
    simp only [Bool.and_eq_true] at hc
    obtain ⟨⟨hll, hk⟩, hk2⟩ := hc
    obtain ⟨h1, h2⟩ := okLL_of hll
    have h := Option.some.inj h
    subst h
    refine ⟨l.length + 1, ?_⟩
    unfold F_laws_heldIntSS
    have := heldIntSS_l0 (l.length + 1) l [] k l.length (by simpa using okL_lim h1) h2 (Nat.le_refl _) (okK_of hk).1 (okK_of hk2).2
    simp only [List.nil_append, List.length_nil, Int.natCast_zero] at this
    rcases this with this | this <;> simp only [this, Option.bind_some]
  · cases h
theorem markLL_sum : ∀ (l : List (List Int)) (k : Int), sumL (markLL k l) = sumL l := by
  intro l
  induction l with
  | nil => intro k; rfl
  | cons x l ih => intro k; simp only [markLL, sumL, markL_len, ih]
theorem markLL_ok : ∀ (l : List (List Int)) (k : Int), okLL l = true → okLL (markLL k l) = true := by
  have hlen : ∀ (l : List (List Int)) (k : Int), (markLL k l).length = l.length := by
    intro l
    induction l with
    | nil => intro k; rfl
    | cons x l ih => intro k; simp [markLL, ih]
  have hall : ∀ (l : List (List Int)) (k : Int), l.all okL = true → (markLL k l).all okL = true := by
    intro l
    induction l with
    | nil => intro k _; rfl
    | cons x l ih =>
      intro k h
      simp only [List.all_cons, Bool.and_eq_true] at h
      simp only [markLL, List.all_cons, Bool.and_eq_true]
      exact ⟨markL_ok h.1, ih _ h.2⟩
  intro l k h
  obtain ⟨h1, h2⟩ := okLL_of h
  unfold okLL
  rw [Bool.and_eq_true]
  refine ⟨?_, hall l k h2⟩
  unfold okL at h1 ⊢
  rwa [hlen]
theorem held_markLL : ∀ (l : List (List Int)) (k : Int), 0 ≤ k → heldLL k (markLL k l) = k + sumL l := by
  intro l
  induction l with
  | nil => intro k _; simp [markLL, heldLL, sumL]
  | cons x l ih =>
    intro k hk
    have : ¬ k + (x.length : Int) < 0 := by omega
    simp only [markLL, heldLL, held_markL, sumL, this, if_false, ih _ (show 0 ≤ k + (x.length : Int) by omega)]
    omega
theorem markTimetable_eq (n : Int) (es : List E) (v : Unit) (p : Int) (l : List (List Int)) (u w : Unit) (k : Int) (he : okL es = true) (hl : okLL l = true) (hk : okK k = true) (hk2 : okK (k + 2 * (es.length : Int)) = true) (hk3 : okK (k + 2 * (es.length : Int) + sumL l) = true) :
    F_laws_markTimetable 0 (((n, es, v), p, l, u), k, w) = some (k + 2 * (es.length : Int) + sumL l, ((n, markA k es, v), p, markLL (k + 2 * (es.length : Int)) l, u), ()) := by
  unfold F_laws_markTimetable G_markIntSS
  simp only [markGraph_eq n es v _ k he hk, hl, hk2, hk3, Bool.and_self, if_true, Option.bind_some]
theorem heldTimetable_marked (n : Int) (es : List E) (v : Unit) (p : Int) (l : List (List Int)) (u w : Unit) (k : Int) (he : okL es = true) (hl : okLL l = true) (hk : okK k = true) (hk2 : okK (k + 2 * (es.length : Int)) = true) (hk3 : okK (k + 2 * (es.length : Int) + sumL l) = true) :
    F_laws_heldTimetable 0 (((n, markA k es, v), p, markLL (k + 2 * (es.length : Int)) l, u), k, w) = some (k + 2 * (es.length : Int) + sumL l, ()) := by
  have h0 := okK_of hk
  have h1 := okK_of hk2
  have h2 := okK_of hk3
  unfold F_laws_heldTimetable F_laws_heldGraph G_heldIntA2S G_heldIntSS
  have c1 : decide (k + 2 * (es.length : Int) < 0) = false := by simp; omega
  have c2 : decide (k + 2 * (es.length : Int) + sumL l < 0) = false := by simp; omega
  simp only [markA_ok he, markLL_ok l _ hl, hk, hk2, markLL_sum, hk3, Bool.and_self, if_true, Option.bind_some, held_markA, held_markLL l _ h1.1, c1, c2, Bool.false_eq_true, if_false]
theorem eqGraph_self' (g : Gr) (w : Unit) (hl : okL g.2.1 = true) : F_laws_eqGraph 0 (g, g, w) = some (true, ()) := by
  obtain ⟨n, l, u⟩ := g
  exact eqGraph_self n l u u w hl
theorem sum_ones (m : Nat) : sumL (List.replicate m [0]) = m := by
  induction m with
  | zero => rfl
  | succ m ih => rw [List.replicate_succ]; simp only [sumL, ih, List.length_singleton]; omega
theorem okLL_ones {m : Nat} (h : m ≤ 1048576) : okLL (List.replicate m [0]) = true := by
  refine okLL_small (by simpa using h) ?_
  simp [List.all_replicate]
theorem static_eq (n : Int) (l : List E) (v w : Unit) (h : l.length ≤ 1048576) : F_laws_eqTimetable 0 ((staticT (n, l, v)).1, (staticT (n, l, v)).1, w) = some (true, ()) := by
  unfold staticT
  split
  · exact eqTimetable_self n l () 1 _ () _ (okL_of h) (okLL_ones h)
  · exact eqTimetable_self 0 [] () 0 [] () _ okL_nil (by decide)
theorem static_marks (n : Int) (l : List E) (v : Unit) (h1 : l.length ≤ 1048576) : ∃ k W, F_laws_markTimetable 0 ((staticT (n, l, v)).1, 1, ()) = some (k, W, ()) ∧ F_laws_heldTimetable 0 (W, 1, ()) = some (k, ()) ∧ 0 ≤ k := by
  have hl := okL_of h1
  unfold staticT
  split
  · exact ⟨_, _, markTimetable_eq n l () 1 _ () () 1 hl (okLL_ones h1) (by decide) (okK_small (by omega) (by omega)) (by rw [sum_ones]; show okK (1 + 2 * (l.length : Int) + (l.length : Int)) = true; exact okK_small (by omega) (by omega)),
      heldTimetable_marked n l () 1 _ () () 1 hl (okLL_ones h1) (by decide) (okK_small (by omega) (by omega)) (by rw [sum_ones]; show okK (1 + 2 * (l.length : Int) + (l.length : Int)) = true; exact okK_small (by omega) (by omega)), by rw [sum_ones]; omega⟩
  · exact ⟨_, _, markTimetable_eq 0 [] () 0 [] () () 1 okL_nil (by decide) (by decide) (by decide) (by decide), heldTimetable_marked 0 [] () 0 [] () () 1 okL_nil (by decide) (by decide) (by decide) (by decide), by decide⟩
theorem law5 : ∀ d, WfD (Kd.tuple ([(K_PiSPiiqq, false)].map (·.1))) d → ∃ out, F_laws_FnExactStaticTimetable 0 d = some out ∧ (splitT [.bool] [] out).1.1 = true := by
  rintro ⟨⟨n, l, v⟩, w⟩ ⟨⟨_, hl, _⟩, _⟩
  have hl : l.length ≤ maxLen := hl.1
  refine ⟨(true, ()), ?_, rfl⟩
  unfold F_laws_FnExactStaticTimetable
  simp only [szGraph_eq n l v 1048576 () (by omega) (by omega) hl]
  by_cases h : szStep 1048576 l.length < 0
  · simp only [h, decide_true, if_true]
  · have h1 := (szStep_le h).1
    have h1 : l.length ≤ 1048576 := by omega
    have ho := okL_of h1
    have hk : decide ((1 : Int) + 2 * (l.length : Int) < 0) = false := by simp; omega
    obtain ⟨k, W, hm, hh, hp⟩ := static_marks n l v h1
    have hk2 : decide (k < 0) = false := by simp; omega
    have hG : G_static ((n, l, v), ()) = some (staticT (n, l, v)) := by unfold G_static; rw [if_pos ho]
    simp only [h, decide_false, Bool.false_eq_true, if_false, toGraph_eq n l v _ ho, hG, static_eq n l v _ h1, eqGraph_self n l v v _ ho, markGraph_eq n l v _ 1 ho (by decide), hk, hm, hh, hk2, Option.bind_some, beq_self_eq_true, bne_self_eq_false, Bool.not_true]
end Go.V.W
