/- Lists of lists and timetables, told plainly; the law FnExactIsTimetable on plain data. -/
import Derived.Test.YtmeglfoapdkhdaaVS2h
set_option linter.unusedVariables false
set_option linter.unusedSimpArgs false
namespace Go.V.W
open Go.Proofs

theorem all_at_of {e : Kd} {l : List e.den} {q : e.den → Bool} (h : l.all q = true) {i : Nat} (hi : i < l.length) : q (at_ e l i) = true := by
  rw [at_get hi]
  exact List.all_eq_true.1 h _ (List.get_mem l ⟨i, hi⟩)
theorem loop_idx {H O : Type} {L : Nat → H → Option O} {r : (H → Option O) → H → Option O} (hL : ∀ k d, L (k + 1) d = r (L k) d) {e : Kd} (l : List e.den) {mk : Nat → H} {q : e.den → Bool} {o : Nat → O} {f : O}
    (hr : ∀ back i, i < l.length → r back (mk i) = if q (at_ e l i) = true then some (o i) else back (mk (i + 1))) (hf : ∀ back, r back (mk l.length) = some f) :
    ∀ k i, i ≤ l.length → l.length ≤ i + k → L (k + 1) (mk i) = some (match idxN q (l.drop i) i with | some j => o j | none => f) := by
  intro k
  induction k with
  | zero =>
    intro i h1 h2
    have e : i = l.length := by omega
    subst e
    rw [hL, hf, List.drop_of_length_le (Nat.le_refl _)]
    rfl
  | succ k ih =>
    intro i h1 h2
    by_cases h : i < l.length
    · rw [hL, hr _ i h, List.drop_eq_getElem_cons h]
      simp only [idxN]
      have e : at_ e l i = l[i] := at_get h
      rw [e]
      by_cases hq : q l[i] = true
      · simp only [hq, if_true]
      · simp only [hq, if_false]
        exact ih (i + 1) (by omega) (by omega)
    · have e : i = l.length := by omega
      subst e
      rw [hL, hf, List.drop_of_length_le (Nat.le_refl _)]
      rfl
theorem idxI_ge {α : Type} (q : α → Bool) : ∀ (l : List α) (i : Nat), decide (idxI (idxN q l i) ≥ 0) = l.any q := by
  intro l
  induction l with
  | nil => intro i; rfl
  | cons x l ih =>
    intro i
    simp only [idxN, List.any_cons]
    by_cases h : q x = true
    · simp [h, idxI]
    · have h' : q x = false := by simpa using h
      simp only [h, if_false, h', Bool.false_or, ih]
      exact ih (i + 1)

/-! ### sizes -/
theorem szIntSS_l0 (N : Nat) (l : List (List Int)) (hl : l.length ≤ maxLen) (ha : l.all (fun x => okMx x.length) = true) : ∀ n i (a : Int), l.length ≤ i + n → i ≤ l.length → 0 ≤ a → a ≤ 1048576 →
    laws_szIntSS_l0 N (n + 1) (l, a, (i : Int), ()) = some (.inl (szFold a (l.drop i), ())) ∨ laws_szIntSS_l0 N (n + 1) (l, a, (i : Int), ()) = some (.inr (.inl (szFold a (l.drop i), ()))) := by
  intro n
  induction n with
  | zero =>
    intro i a h1 h2 h3 h4
    have e : i = l.length := by omega
    subst e
    right
    rw [List.drop_of_length_le (Nat.le_refl _)]
    simp [laws_szIntSS_l0, laws_szIntSS_l0_r, szFold]
  | succ n ih =>
    intro i a h1 h2 h3 h4
    by_cases hi : i < l.length
    · have hx : (at_ K_Si l i).length ≤ maxLen := of_decide_eq_true (all_at_of (e := K_Si) ha hi)
      have hstep : laws_szIntSS_l0 N (n + 1 + 1) (l, a, (i : Int), ()) = if szStep a (at_ K_Si l i).length < 0 then some (.inl (-1, ())) else laws_szIntSS_l0 N (n + 1) (l, szStep a (at_ K_Si l i).length, ((i + 1 : Nat) : Int), ()) := by
        show laws_szIntSS_l0_r N (laws_szIntSS_l0 N (n + 1)) (l, a, (i : Int), ()) = _
        unfold laws_szIntSS_l0_r
        simp only [lt_dec hi, if_true, idxIn_nat hi, Int.toNat_natCast, wrap_up hi hl, szS_eq (at_ K_Si l i) a () h3 h4 hx]
        by_cases h : szStep a (at_ K_Si l i).length < 0
        · simp only [h, decide_true, if_true]
        · simp only [h, decide_false, if_false, Bool.false_eq_true]
      rw [hstep, List.drop_eq_getElem_cons hi]
      have e : at_ K_Si l i = l[i] := at_get (e := K_Si) hi
      rw [e]
      simp only [szFold]
      by_cases h : szStep a l[i].length < 0
      · left; simp only [h, if_true]
      · simp only [h, if_false]
        have := szStep_le h
        exact ih (i + 1) _ (by omega) (by omega) (by omega) (by omega)
    · have e : i = l.length := by omega
      subst e
      right
      rw [List.drop_of_length_le (Nat.le_refl _)]
      simp [laws_szIntSS_l0, laws_szIntSS_l0_r, szFold]
theorem szIntSS_lim (d) (r) (h : G_szIntSS d = some r) : ∃ N, F_laws_szIntSS N d = some r := by
  obtain ⟨l, a, _⟩ := d
  unfold G_szIntSS at h
  split at h
  · rename_i hc
    simp only [Bool.and_eq_true, decide_eq_true_eq] at hc
    obtain ⟨⟨⟨h1, h2⟩, h3⟩, h4⟩ := hc
    have hl : l.length ≤ maxLen := of_decide_eq_true h1
    have h := Option.some.inj h
    subst h
    refine ⟨l.length + 1, ?_⟩
    unfold F_laws_szIntSS
    simp only [sz_wrap h3 h4 hl]
    by_cases c : szStep a l.length < 0
    · have : a - (l.length : Int) < 0 := by
        unfold szStep at c
        split at c
        · assumption
        · assumption
      simp only [this, c, decide_true, if_true]
    · have c2 := szStep_le c
      have : ¬ a - (l.length : Int) < 0 := by omega
      simp only [this, c, decide_false, if_false, Bool.false_eq_true]
      have := szIntSS_l0 (l.length + 1) l hl h2 l.length 0 (a - (l.length : Int)) (by omega) (by omega) (by omega) (by omega)
      simp only [Int.natCast_zero, List.drop_zero] at this
      rw [c2.2]
      rcases this with this | this <;> simp only [this, Option.bind_some]
  · cases h
theorem szFold_le : ∀ (l : List (List Int)) (a : Int), 0 ≤ a → a ≤ 1048576 → ¬ szFold a l < 0 → l.all (fun x => decide (x.length ≤ 1048576)) = true := by
  intro l
  induction l with
  | nil => intro a _ _ _; rfl
  | cons x l ih =>
    intro a h0 h1 h
    simp only [szFold] at h
    by_cases c : szStep a x.length < 0
    · simp only [c, if_true] at h; omega
    · simp only [c, if_false] at h
      have := szStep_le c
      simp only [List.all_cons, Bool.and_eq_true, decide_eq_true_eq]
      exact ⟨by omega, ih _ (by omega) (by omega) h⟩

/-! ### copies, equality -/
theorem okLL_of {l : List (List Int)} (h : okLL l = true) : okL l = true ∧ l.all okL = true := by
  unfold okLL at h
  simpa only [Bool.and_eq_true] using h
theorem toIntSS_l0 (N : Nat) (l : List (List Int)) (hl : l.length ≤ lim) (ha : l.all okL = true) : ∀ k, l.length ≤ k → laws_toIntSS_l0 N (k + 1) (l, List.replicate l.length ([] : List Int), (0 : Int), ()) = some (.inl (l, ())) := by
  intro k hk
  have hmx := lim_max hl
  have key : ∀ n i (m : List (List Int)), l.length ≤ i + n → i ≤ l.length → m.length = l.length → m.take i = l.take i → laws_toIntSS_l0 N (n + 1) (l, m, (i : Int), ()) = some (.inl (l, ())) := by
    intro n
    induction n with
    | zero =>
      intro i m h1 h2 h3 h4
      have e : i = l.length := by omega
      subst e
      rw [List.take_of_length_le (by omega), List.take_of_length_le (by omega)] at h4
      subst h4
      simp [laws_toIntSS_l0, laws_toIntSS_l0_r]
    | succ n ih =>
      intro i m h1 h2 h3 h4
      by_cases hi : i < l.length
      · show laws_toIntSS_l0_r N (laws_toIntSS_l0 N (n + 1)) (l, m, (i : Int), ()) = _
        unfold laws_toIntSS_l0_r
        have hx : okL (at_ K_Si l i) = true := all_at_of (e := K_Si) ha hi
        simp only [lt_dec hi, if_true, idxIn_nat hi, idxIn_nat (show i < m.length by omega), Int.toNat_natCast, wrap_up hi hmx, G_toIntS, hx, Option.bind_some]
        refine ih (i + 1) _ (by omega) (by omega) (by simp [h3]) ?_
        exact set_copy l m i _ hi (by rw [at_get (e := K_Si) hi]; rfl) h3 h4
      · have e : i = l.length := by omega
        subst e
        rw [List.take_of_length_le (by omega), List.take_of_length_le (by omega)] at h4
        subst h4
        simp [laws_toIntSS_l0, laws_toIntSS_l0_r]
  simpa using key k 0 (List.replicate l.length ([] : List Int)) (by omega) (by omega) (by simp) (by simp)
theorem toIntSS_lim (d) (r) (h : G_toIntSS d = some r) : ∃ N, F_laws_toIntSS N d = some r := by
  obtain ⟨l, _⟩ := d
  unfold G_toIntSS at h
  split at h
  · rename_i hl
    obtain ⟨h1, h2⟩ := okLL_of hl
    have hl : l.length ≤ lim := okL_lim h1
    have h := Option.some.inj h
    subst h
    refine ⟨l.length + 1, ?_⟩
    unfold F_laws_toIntSS
    have hc : (decide (0 ≤ (List.length l : Int)) && decide ((List.length l : Int) ≤ (List.length l : Int)) && decide ((List.length l : Int) ≤ (lim : Int))) = true := by simp; omega
    have := toIntSS_l0 (l.length + 1) l hl h2 l.length (Nat.le_refl _)
    simp only [hc, if_true, Int.toNat_natCast]
    rw [this]
    rfl
  · cases h
theorem eqIntSS_lim (d) (r) (h : G_eqIntSS d = some r) : ∃ N, F_laws_eqIntSS N d = some r := by
  obtain ⟨l, m, _⟩ := d
  unfold G_eqIntSS at h
  split at h
  · rename_i hll
    obtain ⟨hl1, ha⟩ := okLL_of hll
    have hl : l.length ≤ lim := okL_lim hl1
    have hmx := lim_max hl
    have h := Option.some.inj h
    subst h
    refine ⟨l.length + 1, ?_⟩
    unfold F_laws_eqIntSS
    by_cases hm : l.length = m.length
    · have := loop_all (L := laws_eqIntSS_l0 (l.length + 1)) (r := laws_eqIntSS_l0_r (l.length + 1)) (fun _ _ => rfl) (n := l.length) (mk := fun i => (l, m, (i : Int), ())) (p := fun i => decide (at_ K_Si l i = at_ K_Si m i)) (o := .inl (false, ())) (f := .inr (.inl ()))
        (by
          intro back i hi
          have hi' : i < m.length := by omega
          have hx : okL (at_ K_Si l i) = true := all_at_of (e := K_Si) ha hi
          unfold laws_eqIntSS_l0_r
          simp only [lt_dec hi, if_true, idxIn_nat hi, idxIn_nat hi', Int.toNat_natCast, wrap_up hi hmx, G_eqIntS, hx, Option.bind_some]
          by_cases he : at_ K_Si l i = at_ K_Si m i
          · simp only [he, decide_true, Bool.not_true, Bool.false_eq_true, if_false, if_true]
          · simp only [he, decide_false, Bool.not_false, Bool.false_eq_true, if_false, if_true])
        (by intro back; unfold laws_eqIntSS_l0_r; simp only [lt_not, Bool.false_eq_true, if_false]) l.length 0 (by omega) (by omega)
      simp only [Int.natCast_zero] at this
      have hne : ((List.length l : Int) != (List.length m : Int)) = false := by simp [hm]
      simp only [hne, Bool.false_eq_true, if_false, this, Nat.sub_zero]
      by_cases he : l = m
      · have : allB (fun i => decide (at_ K_Si l i = at_ K_Si m i)) l.length 0 = true := allB_iff.2 (fun j _ _ => by simp [he])
        simp only [this, if_true, Option.bind_some]
        simp only [he, decide_true]
      · have : allB (fun i => decide (at_ K_Si l i = at_ K_Si m i)) l.length 0 = false := by
          apply Bool.eq_false_iff.2
          intro ha
          apply he
          rw [allB_iff] at ha
          apply List.ext_getElem hm
          intro i h1 h2
          have := of_decide_eq_true (ha i (by omega) (by omega))
          rw [at_get (e := K_Si) h1, at_get (e := K_Si) h2] at this
          exact this
        simp only [this, he, Bool.false_eq_true, if_false, Option.bind_some, decide_false]
    · have hne : ((List.length l : Int) != (List.length m : Int)) = true := by simp; omega
      have he : ¬ l = m := fun e => hm (by rw [e])
      simp [hne, he]
  · cases h

/-! ### timetables -/
theorem index84_lim (d) (r) (h : G_index84 d = some r) : ∃ N, F_slices_IndexFunc_SSint_Sint_f84 N d = some r := by
  obtain ⟨l, ⟨u, t, v⟩, w⟩ := d
  unfold G_index84 at h
  split at h
  · rename_i hll
    obtain ⟨hl1, ha⟩ := okLL_of hll
    have hl : l.length ≤ lim := okL_lim hl1
    have hmx := lim_max hl
    have h := Option.some.inj h
    subst h
    refine ⟨l.length + 1, ?_⟩
    unfold F_slices_IndexFunc_SSint_Sint_f84
    have := loop_idx (L := slices_IndexFunc_SSint_Sint_f84_l0 (l.length + 1)) (r := slices_IndexFunc_SSint_Sint_f84_l0_r (l.length + 1)) (fun _ _ => rfl) (e := K_Si) l (mk := fun i => (l, (u, t, v), (l.length : Int), (i : Int), ())) (q := badT t) (o := fun i => .inl ((i : Int), ())) (f := .inr (.inl ()))
      (by
        intro back i hi
        have hx : okL (at_ K_Si l i) = true := all_at_of (e := K_Si) ha hi
        unfold slices_IndexFunc_SSint_Sint_f84_l0_r FV_impl_IsTimetable_1 F_impl_IsTimetable_1
        simp only [lt_dec hi, if_true, idxIn_nat hi, Int.toNat_natCast, wrap_up hi hmx, G_increasing, G_allWithin, hx, Option.bind_some, badT]
        rcases Bool.eq_false_or_eq_true (risingB (at_ K_Si l i)) with hr | hr <;> rcases Bool.eq_false_or_eq_true (List.all (at_ K_Si l i) (inB 0 (IntKind.wrap .i64 (t.2.1 - 1)))) with hq | hq <;> simp [hr, hq])
      (by intro back; unfold slices_IndexFunc_SSint_Sint_f84_l0_r; simp only [lt_not, Bool.false_eq_true, if_false]) l.length 0 (by omega) (by omega)
    simp only [Int.natCast_zero, List.drop_zero] at this
    simp only [this, Option.bind_some]
    cases idxN (badT t) l 0 <;> rfl
  · cases h
theorem contains84 (l : List (List Int)) (u : Unit) (t : Tt) (v w : Unit) (h : okLL l = true) : F_slices_ContainsFunc_SSint_Sint_f84 0 (l, (u, t, v), w) = some (l.any (badT t), ()) := by
  unfold F_slices_ContainsFunc_SSint_Sint_f84
  have e : F_slices_IndexFunc_SSint_Sint_f84 = F_slices_IndexFunc_SSint_Sint_f84 := rfl
  simp only [G_index84, h, if_true, Option.bind_some, idxI_ge]
theorem l4Field_eq (g : Gr) (u : Unit) (h : okL g.2.1 = true) : F_spec_l4Field 0 (g, 1, u) = some (graphB g && decide (g.1 > 0), ()) := by
  unfold F_spec_l4Field G_graph
  simp only [h, if_true, Option.bind_some, l1In_eq]
  cases graphB g with
  | false => rfl
  | true =>
    by_cases c : g.1 > 0
    · simp only [c, decide_true, if_true]
      rfl
    · simp only [c, decide_false, if_true, if_false, Bool.false_eq_true, Bool.and_false]
theorem l11Good_lim (d) (r) (h : G_l11Good d = some r) : ∃ N, F_spec_l11Good N d = some r := by
  obtain ⟨⟨g, p, l, u⟩, w⟩ := d
  unfold G_l11Good at h
  split at h
  · rename_i hc
    simp only [okT, Bool.and_eq_true] at hc
    obtain ⟨hg, hll⟩ := hc
    obtain ⟨hl1, ha⟩ := okLL_of hll
    have hl : l.length ≤ lim := okL_lim hl1
    have hmx := lim_max hl
    have h := Option.some.inj h
    subst h
    refine ⟨l.length + 1, ?_⟩
    unfold F_spec_l11Good
    have := loop_all (L := spec_l11Good_l0 (l.length + 1)) (r := spec_l11Good_l0_r (l.length + 1)) (fun _ _ => rfl) (n := l.length) (mk := fun i => ((g, p, l, u), (i : Int), ())) (p := fun i => !badT (g, p, l, u) (at_ K_Si l i)) (o := .inl (false, ())) (f := .inr (.inl ((g, p, l, u), ())))
      (by
        intro back i hi
        have hx : okL (at_ K_Si l i) = true := all_at_of (e := K_Si) ha hi
        unfold spec_l11Good_l0_r
        simp only [lt_dec hi, if_true, idxIn_nat hi, Int.toNat_natCast, wrap_up hi hmx, G_l1Rising, hx, Option.bind_some, badT]
        rcases Bool.eq_false_or_eq_true (risingB (at_ K_Si l i)) with hr | hr <;> rcases Bool.eq_false_or_eq_true (List.all (at_ K_Si l i) (inB 0 (IntKind.wrap .i64 (p - 1)))) with hq | hq <;> simp [hr, hq])
      (by intro back; unfold spec_l11Good_l0_r; simp only [lt_not, Bool.false_eq_true, if_false]) l.length 0 (by omega) (by omega)
    simp only [Int.natCast_zero] at this
    have e : allB (fun i => !badT (g, p, l, u) (at_ K_Si l i)) l.length 0 = !l.any (badT (g, p, l, u)) := by
      rw [all_at (e := K_Si) l (fun x => !badT (g, p, l, u) x)]
      simp only [List.all_eq_not_any_not, Bool.not_not]
    simp only [this, Nat.sub_zero, e, timeB]
    cases l.any (badT (g, p, l, u)) with
    | true => simp
    | false =>
      simp only [Bool.not_false, if_true, Option.bind_some, l4Field_eq g _ hg, l1In_eq, Bool.and_true]
      cases (graphB g && decide (g.1 > 0)) with
      | false => rfl
      | true =>
        cases inB 1 4 p with
        | false => rfl
        | true =>
          simp only [if_true, Bool.true_and, Option.some.injEq, Prod.mk.injEq, and_true]
          by_cases hc : l.length = g.2.1.length
          · simp [hc]
          · have : ¬ (l.length : Int) = (g.2.1.length : Int) := by omega
            simp [hc, this]
  · cases h
theorem specT (t : Tt) (w : Unit) (h : okT t = true) : F_spec_IsTimetable 0 (t, w) = some (timeB t, ()) := by
  unfold F_spec_IsTimetable G_l11Good
  simp only [h, if_true, Option.bind_some]
theorem implT (t : Tt) (w : Unit) (h : okT t = true) : F_impl_IsTimetable 0 (t, w) = some (timeB t, ()) := by
  obtain ⟨⟨n, es, v⟩, p, l, u⟩ := t
  simp only [okT, Bool.and_eq_true] at h
  unfold F_impl_IsTimetable G_graph
  simp only [h.1, if_true, Option.bind_some, within_eq, timeB]
  cases hg : graphB (n, es, v) with
  | false => rfl
  | true =>
    have := graphB_n hg
    by_cases c : n = 0
    · have c' : ¬ n > 0 := by omega
      have c2 : (n == (0 : Int)) = true := by simp [c]
      simp only [c2, c', Bool.not_true, Bool.false_eq_true, if_false, if_true, decide_false, Bool.and_false, Bool.false_and]
    · have c' : n > 0 := by omega
      have c2 : (n == (0 : Int)) = false := by simp [c]
      simp only [c2, c', Bool.not_true, Bool.false_eq_true, if_false, decide_true, Bool.true_and]
      cases inB 1 4 p with
      | false => rfl
      | true =>
        simp only [Bool.not_true, Bool.false_eq_true, if_false, Bool.true_and]
        by_cases hc : l.length = es.length
        · have : ((l.length : Int) != (es.length : Int)) = false := by simp [hc]
          simp only [this, Bool.false_eq_true, if_false, contains84 l () ((n, es, v), p, l, u) () () h.2, Option.bind_some, hc, decide_true, Bool.true_and, bne_self_eq_false]
        · have : ((l.length : Int) != (es.length : Int)) = true := by simp; omega
          simp only [this, if_true, hc, decide_false, Bool.false_and]
theorem toTimetable_eq (n : Int) (es : List E) (v : Unit) (p : Int) (l : List (List Int)) (u w : Unit) (hg : okL es = true) (hl : okLL l = true) : F_laws_toTimetable 0 (((n, es, v), p, l, u), w) = some (((n, es, v), p, l, ()), ()) := by
  unfold F_laws_toTimetable G_toIntSS
  simp only [toGraph_eq n es v _ hg, hl, if_true, Option.bind_some]
theorem eqTimetable_self (n : Int) (es : List E) (v : Unit) (p : Int) (l : List (List Int)) (u w : Unit) (hg : okL es = true) (hl : okLL l = true) : F_laws_eqTimetable 0 (((n, es, v), p, l, u), ((n, es, v), p, l, u), w) = some (true, ()) := by
  unfold F_laws_eqTimetable G_eqIntSS
  simp only [eqGraph_self n es v v _ hg, hl, bne_self_eq_false, Bool.false_eq_true, if_false, if_true, decide_true, Option.bind_some, Bool.not_true]
theorem szTimetable_neg (n : Int) (es : List E) (v : Unit) (p : Int) (l : List (List Int)) (u w : Unit) (he : es.length ≤ maxLen) (hl : l.length ≤ maxLen) (ha : ∀ x ∈ l, x.length ≤ maxLen) :
    ∃ r, F_laws_szTimetable 0 (((n, es, v), p, l, u), (1048576 : Int), w) = some (r, ()) ∧ (r < 0 ∨ (es.length ≤ 1048576 ∧ l.length ≤ 1048576 ∧ l.all (fun x => decide (x.length ≤ 1048576)) = true)) := by
  unfold F_laws_szTimetable
  simp only [szGraph_eq n es v 1048576 () (by omega) (by omega) he]
  by_cases h : szStep 1048576 es.length < 0
  · exact ⟨-1, by simp only [h, decide_true, if_true], .inl (by decide)⟩
  · have h1 := szStep_le h
    have o1 : okMx l.length = true := decide_eq_true hl
    have o2 : l.all (fun x => okMx x.length) = true := List.all_eq_true.2 fun x hx => decide_eq_true (ha x hx)
    have o3 : decide (0 ≤ szStep 1048576 es.length) = true := by simp; omega
    have o4 : decide (szStep 1048576 es.length ≤ 1048576) = true := by simp; omega
    simp only [h, decide_false, if_false, Bool.false_eq_true, G_szIntSS, o1, o2, o3, o4, Bool.and_self, if_true, Option.bind_some]
    by_cases h2 : szStep (szStep 1048576 es.length) l.length < 0
    · exact ⟨-1, by simp only [h2, if_true]; rfl, .inl (by decide)⟩
    · have h3 := szStep_le h2
      simp only [h2, if_false]
      by_cases h4 : szFold (szStep (szStep 1048576 es.length) l.length) l < 0
      · exact ⟨-1, by simp only [h4, decide_true, if_true], .inl (by decide)⟩
      · exact ⟨szFold (szStep (szStep 1048576 es.length) l.length) l, by simp only [h4, decide_false, if_false, Bool.false_eq_true], .inr ⟨by omega, by omega, szFold_le l _ (by omega) (by omega) h4⟩⟩
theorem okLL_small {l : List (List Int)} (h1 : l.length ≤ 1048576) (h2 : l.all (fun x => decide (x.length ≤ 1048576)) = true) : okLL l = true := by
  unfold okLL
  rw [Bool.and_eq_true]
  exact ⟨okL_of h1, List.all_eq_true.2 fun x hx => okL_of (of_decide_eq_true (List.all_eq_true.1 h2 x hx))⟩
theorem law4 : ∀ d, WfD (Kd.tuple ([(K_PPiSPiiqqiSSiq, false)].map (·.1))) d → ∃ out, F_laws_FnExactIsTimetable 0 d = some out ∧ (splitT [.bool] [] out).1.1 = true := by
  rintro ⟨⟨⟨n, es, v⟩, p, l, u⟩, w⟩ ⟨⟨⟨_, he, _⟩, _, hl, _⟩, _⟩
  have he : es.length ≤ maxLen := he.1
  have hl1 : l.length ≤ maxLen := hl.1
  have hl2 : ∀ x ∈ l, x.length ≤ maxLen := fun x hx => (hl.2 x hx).1
  refine ⟨(true, ()), ?_, rfl⟩
  unfold F_laws_FnExactIsTimetable
  obtain ⟨r, h1, h2⟩ := szTimetable_neg n es v p l u () he hl1 hl2
  simp only [h1, Option.bind_some]
  rcases h2 with h2 | ⟨h2, h3, h4⟩
  · simp only [h2, decide_true, if_true]
  · have g1 := okL_of h2
    have g2 := okLL_small h3 h4
    have g3 : okT ((n, es, v), p, l, ()) = true := by simp only [okT, g1, g2, Bool.and_self]
    simp only [toTimetable_eq n es v p l u _ g1 g2, specT _ _ g3, implT _ _ g3, eqTimetable_self n es v p l () _ g1 g2, Option.bind_some, beq_self_eq_true, Bool.not_true, Bool.false_eq_true, if_false]
    split <;> rfl
end Go.V.W
