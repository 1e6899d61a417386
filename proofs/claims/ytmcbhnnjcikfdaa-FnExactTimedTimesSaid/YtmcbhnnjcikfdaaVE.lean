/- What the law FnExactTimedTimes leans on, part 5: an interpreter of the model as plain data, its soundness, the functions as it tells them, and their laws. -/
import Derived.Test.YtmcbhnnjcikfdaaVD
set_option linter.unusedVariables false
set_option linter.unusedSimpArgs false
set_option maxRecDepth 100000
set_option linter.unusedVariables false
set_option linter.unusedSimpArgs false
namespace Go.V.W
open Go.Proofs
/-- All of m numbers from i on. -/
def allB (p : Nat → Bool) : Nat → Nat → Bool
  | 0, _ => true
  | m + 1, i => p i && allB p m (i + 1)
theorem allB_iff {p : Nat → Bool} : ∀ {m i : Nat}, allB p m i = true ↔ ∀ j, i ≤ j → j < i + m → p j = true := by
  intro m
  induction m with
  | zero => intro i; simp only [allB, true_iff]; intro j h1 h2; omega
  | succ m ih =>
    intro i
    simp only [allB, Bool.and_eq_true, ih]
    constructor
    · rintro ⟨h1, h2⟩ j h3 h4
      by_cases e : j = i
      · subst e; exact h1
      · exact h2 j (by omega) (by omega)
    · intro h
      exact ⟨h i (Nat.le_refl _) (by omega), fun j h1 h2 => h j (by omega) (by omega)⟩
theorem loop_all {H O : Type} {L : Nat → H → Option O} {r : (H → Option O) → H → Option O} (hL : ∀ k d, L (k + 1) d = r (L k) d) {n : Nat} {mk : Nat → H} {p : Nat → Bool} {o f : O}
    (hr : ∀ back i, i < n → r back (mk i) = if p i = true then back (mk (i + 1)) else some o) (hf : ∀ back, r back (mk n) = some f) :
    ∀ k i, i ≤ n → n ≤ i + k → L (k + 1) (mk i) = some (if allB p (n - i) i = true then f else o) := by
  intro k
  induction k with
  | zero =>
    intro i h1 h2
    have e : i = n := by omega
    subst e
    rw [hL, hf, Nat.sub_self]
    rfl
  | succ k ih =>
    intro i h1 h2
    by_cases h : i < n
    · rw [hL, hr _ i h, show n - i = (n - (i + 1)) + 1 by omega]
      simp only [allB]
      by_cases hp : p i = true
      · simp only [hp, if_true, Bool.true_and]
        exact ih (i + 1) (by omega) (by omega)
      · simp only [Bool.not_eq_true] at hp
        simp only [hp, Bool.false_eq_true, if_false, Bool.false_and]
    · have e : i = n := by omega
      subst e
      rw [hL, hf, Nat.sub_self]
      rfl
theorem wrap_down {i : Nat} (h : 0 < i) (hn : i ≤ maxLen) : IntKind.wrap .i64 ((i : Int) - 1) = ((i - 1 : Nat) : Int) := by
  unfold maxLen at hn
  rw [Go.IntWalk.i64_in _ (by omega)]
  omega
theorem lt_dec {i n : Nat} (h : i < n) : decide ((i : Int) < (n : Int)) = true := by simp; omega
theorem lt_not (n : Nat) : decide ((n : Int) < (n : Int)) = false := by simp
theorem pos_dec {i : Nat} : decide ((i : Int) > (0 : Int)) = decide (0 < i) := by simp
theorem bool_eq_iff {a b : Bool} (h : a = true ↔ b = true) : a = b := by cases a <;> cases b <;> simp_all
theorem all_at {e : Kd} (l : List e.den) (q : e.den → Bool) : allB (fun i => q (at_ e l i)) l.length 0 = l.all q := by
  apply bool_eq_iff
  rw [allB_iff, List.all_eq_true]
  constructor
  · intro h x hx
    obtain ⟨i, hi, rfl⟩ := List.getElem_of_mem hx
    have := h i (by omega) (by omega)
    rw [at_get hi] at this
    exact this
  · intro h j _ hj
    have hj : j < l.length := by omega
    rw [at_get hj]
    exact h _ (List.getElem_mem hj)
theorem risingB_iff : ∀ l : List Int, risingB l = true ↔ ∀ j, 0 < j → j < l.length → at_ I l (j - 1) < at_ I l j := by
  intro l
  induction l with
  | nil => simp only [risingB, true_iff]; intro j _ h; exact absurd h (by simp)
  | cons a l ih =>
    cases l with
    | nil => simp only [risingB, true_iff]; intro j h1 h2; simp only [List.length_cons, List.length_nil] at h2; omega
    | cons b l =>
      simp only [risingB, Bool.and_eq_true, ih, decide_eq_true_eq]
      constructor
      · rintro ⟨h1, h2⟩ j h3 h4
        by_cases e : j = 1
        · subst e; exact h1
        · have := h2 (j - 1) (by omega) (by simp only [List.length_cons] at h4 ⊢; omega)
          obtain ⟨k, rfl⟩ : ∃ k, j = k + 2 := ⟨j - 2, by omega⟩
          exact this
      · intro h
        refine ⟨h 1 (by omega) (by simp), fun j h1 h2 => ?_⟩
        have := h (j + 1) (by omega) (by simp only [List.length_cons] at h2 ⊢; omega)
        obtain ⟨k, rfl⟩ : ∃ k, j = k + 1 := ⟨j - 1, by omega⟩
        exact this
theorem risingE_iff : ∀ l : List E, risingE l = true ↔ ∀ j, 0 < j → j < l.length → lessE (at_ K_Piiq l (j - 1)) (at_ K_Piiq l j) = true := by
  intro l
  induction l with
  | nil => simp only [risingE, true_iff]; intro j _ h; exact absurd h (by simp)
  | cons a l ih =>
    cases l with
    | nil => simp only [risingE, true_iff]; intro j h1 h2; simp only [List.length_cons, List.length_nil] at h2; omega
    | cons b l =>
      simp only [risingE, Bool.and_eq_true, ih]
      constructor
      · rintro ⟨h1, h2⟩ j h3 h4
        by_cases e : j = 1
        · subst e; exact h1
        · have := h2 (j - 1) (by omega) (by simp only [List.length_cons] at h4 ⊢; omega)
          obtain ⟨k, rfl⟩ : ∃ k, j = k + 2 := ⟨j - 2, by omega⟩
          exact this
      · intro h
        refine ⟨h 1 (by omega) (by simp), fun j h1 h2 => ?_⟩
        have := h (j + 1) (by omega) (by simp only [List.length_cons] at h2 ⊢; omega)
        obtain ⟨k, rfl⟩ : ∃ k, j = k + 1 := ⟨j - 1, by omega⟩
        exact this
theorem l1In_eq (x lo hi : Int) (u : Unit) : g_spec_l1In (x, lo, hi, u) = (inB lo hi x, ()) := by
  unfold g_spec_l1In inB
  by_cases h : lo ≤ x <;> simp [h]
theorem within_eq (x lo hi : Int) (u : Unit) : g_impl_within (x, lo, hi, u) = (inB lo hi x, ()) := by
  unfold g_impl_within inB
  by_cases h : lo ≤ x <;> simp [h]
theorem l2Before_eq (a b : E) (u : Unit) : g_spec_l2Before (a, b, u) = (lessE a b, ()) := by
  obtain ⟨a1, a2, _⟩ := a
  obtain ⟨b1, b2, _⟩ := b
  unfold g_spec_l2Before lessE
  by_cases h : a1 < b1
  · simp [h]
  · by_cases h2 : a1 = b1 <;> simp [h, h2]
theorem cmpI_eq (a b : Int) (u : Unit) : g_cmp_Compare_int (a, b, u) = (if a < b then -1 else if b < a then 1 else 0, ()) := by
  unfold g_cmp_Compare_int g_cmp_isNaN_int
  by_cases h : a < b
  · simp [h]
  · by_cases h2 : b < a <;> simp [h, h2]
theorem eqIntA2S_lim (d) (r) (h : G_eqIntA2S d = some r) : ∃ N, F_laws_eqIntA2S N d = some r := by
  obtain ⟨l, m, _⟩ := d
  unfold G_eqIntA2S at h
  split at h
  · rename_i hl
    have hl : l.length ≤ lim := of_decide_eq_true hl
    have hmx := lim_max hl
    have h := Option.some.inj h
    subst h
    refine ⟨l.length + 1, ?_⟩
    unfold F_laws_eqIntA2S
    by_cases hm : l.length = m.length
    · have := loop_all (L := laws_eqIntA2S_l0 (l.length + 1)) (r := laws_eqIntA2S_l0_r (l.length + 1)) (fun _ _ => rfl) (n := l.length) (mk := fun i => (l, m, (i : Int), ())) (p := fun i => decide (at_ K_Piiq l i = at_ K_Piiq m i)) (o := .inl (false, ())) (f := .inr (.inl ()))
        (by
          intro back i hi
          have hi' : i < m.length := by omega
          unfold laws_eqIntA2S_l0_r
          simp only [lt_dec hi, if_true, idxIn_nat hi, idxIn_nat hi', Int.toNat_natCast, wrap_up hi hmx, G_eqIntA2, Option.bind_some]
          by_cases he : at_ K_Piiq l i = at_ K_Piiq m i
          · simp only [he, decide_true, Bool.not_true, Bool.false_eq_true, if_false, if_true]
          · simp only [he, decide_false, Bool.not_false, Bool.false_eq_true, if_false, if_true])
        (by intro back; unfold laws_eqIntA2S_l0_r; simp only [lt_not, Bool.false_eq_true, if_false]) l.length 0 (by omega) (by omega)
      simp only [Int.natCast_zero] at this
      have hne : ((List.length l : Int) != (List.length m : Int)) = false := by simp [hm]
      simp only [hne, Bool.false_eq_true, if_false, this, Nat.sub_zero]
      by_cases he : l = m
      · have : allB (fun i => decide (at_ K_Piiq l i = at_ K_Piiq m i)) l.length 0 = true := allB_iff.2 (fun j _ _ => by simp [he])
        simp only [this, if_true, Option.bind_some]
        simp only [he, decide_true]
      · have : allB (fun i => decide (at_ K_Piiq l i = at_ K_Piiq m i)) l.length 0 = false := by
          apply Bool.eq_false_iff.2
          intro ha
          apply he
          rw [allB_iff] at ha
          apply List.ext_getElem hm
          intro i h1 h2
          have := of_decide_eq_true (ha i (by omega) (by omega))
          rw [at_get (e := K_Piiq) h1, at_get (e := K_Piiq) h2] at this
          exact this
        simp only [this, he, Bool.false_eq_true, if_false, Option.bind_some, decide_false]
    · have hne : ((List.length l : Int) != (List.length m : Int)) = true := by simp; omega
      have he : ¬ l = m := fun e => hm (by rw [e])
      simp [hne, he]
  · cases h
theorem l1Rising_lim (d) (r) (h : G_l1Rising d = some r) : ∃ N, F_spec_l1Rising N d = some r := by
  obtain ⟨l, lo, hi, _⟩ := d
  unfold G_l1Rising at h
  split at h
  · rename_i hl
    have hl : l.length ≤ lim := of_decide_eq_true hl
    have hmx := lim_max hl
    have h := Option.some.inj h
    subst h
    refine ⟨l.length + 1, ?_⟩
    unfold F_spec_l1Rising
    have := loop_all (L := spec_l1Rising_l0 (l.length + 1)) (r := spec_l1Rising_l0_r (l.length + 1)) (fun _ _ => rfl) (n := l.length) (mk := fun i => (l, lo, hi, (i : Int), ())) (p := fun i => inB lo hi (at_ I l i) && (!decide (0 < i) || decide (at_ I l (i - 1) < at_ I l i))) (o := .inl (false, ())) (f := .inr (.inl ()))
      (by
        intro back i hi'
        unfold spec_l1Rising_l0_r
        simp only [lt_dec hi', if_true, idxIn_nat hi', Int.toNat_natCast, wrap_up hi' hmx, l1In_eq, pos_dec]
        cases hb : inB lo hi (at_ I l i) with
        | false => simp only [Bool.not_false, if_true, Bool.false_and, Bool.false_eq_true, if_false]
        | true =>
          simp only [Bool.not_true, Bool.false_eq_true, if_false, Bool.true_and]
          by_cases h0 : 0 < i
          · have h1 : i - 1 < l.length := by omega
            simp only [h0, decide_true, if_true, wrap_down h0 (show i ≤ maxLen by omega), idxIn_nat h1, Int.toNat_natCast, Bool.not_true, Bool.false_or]
            by_cases hc : at_ I l (i - 1) < at_ I l i
            · have hc' : ¬ (at_ I l (i - 1) ≥ at_ I l i) := Int.not_le.2 hc
              simp only [hc, hc', decide_true, decide_false, if_true, Bool.false_eq_true, if_false]
            · have hc' : (at_ I l (i - 1) ≥ at_ I l i) := Int.not_lt.1 hc
              simp only [hc, hc', decide_true, decide_false, if_true, Bool.false_eq_true, if_false]
          · simp only [h0, decide_false, Bool.false_eq_true, if_false, Bool.not_false, Bool.true_or, if_true])
      (by intro back; unfold spec_l1Rising_l0_r; simp only [lt_not, Bool.false_eq_true, if_false]) l.length 0 (by omega) (by omega)
    simp only [Int.natCast_zero] at this
    simp only [this, Nat.sub_zero]
    have e : allB (fun i => inB lo hi (at_ I l i) && (!decide (0 < i) || decide (at_ I l (i - 1) < at_ I l i))) l.length 0 = (l.all (inB lo hi) && risingB l) := by
      rw [← all_at (e := I) l (inB lo hi)]
      apply bool_eq_iff
      rw [Bool.and_eq_true, allB_iff, allB_iff, risingB_iff]
      simp only [Bool.and_eq_true, Bool.or_eq_true, Bool.not_eq_true', decide_eq_true_eq, decide_eq_false_iff_not]
      constructor
      · intro h
        exact ⟨fun j h1 h2 => (h j h1 h2).1, fun j h1 h2 => ((h j (by omega) (by omega)).2).resolve_left (by omega)⟩
      · rintro ⟨h1, h2⟩ j h3 h4
        refine ⟨h1 j h3 h4, ?_⟩
        by_cases h0 : 0 < j
        · exact .inr (h2 j h0 (by omega))
        · exact .inl h0
    simp only [e]
    cases (l.all (inB lo hi) && risingB l) <;> rfl
  · cases h
theorem increasing_lim (d) (r) (h : G_increasing d = some r) : ∃ N, F_impl_increasing N d = some r := by
  obtain ⟨l, _⟩ := d
  unfold G_increasing at h
  split at h
  · rename_i hl
    have hl : l.length ≤ lim := of_decide_eq_true hl
    have hmx := lim_max hl
    have h := Option.some.inj h
    subst h
    refine ⟨l.length + 1, ?_⟩
    unfold F_impl_increasing
    by_cases hz : l.length = 0
    · have : l = [] := List.length_eq_zero_iff.1 hz
      subst this
      rfl
    · have := loop_all (L := fun k d => impl_increasing_l0 (l.length + 1) k d) (r := impl_increasing_l0_r (l.length + 1)) (fun _ _ => rfl) (n := l.length - 1) (mk := fun i => (l, ((i + 1 : Nat) : Int), ())) (p := fun i => decide (at_ I l i < at_ I l (i + 1))) (o := .inl (false, ())) (f := .inr (.inl ()))
        (by
          intro back i hi
          have h1 : i + 1 < l.length := by omega
          have h2 : i < l.length := by omega
          unfold impl_increasing_l0_r
          simp only [lt_dec h1, if_true, wrap_down (show 0 < i + 1 by omega) (show i + 1 ≤ maxLen by omega), idxIn_nat h1, wrap_up h1 hmx, Nat.add_sub_cancel, idxIn_nat h2, Int.toNat_natCast]
          by_cases hc : at_ I l i < at_ I l (i + 1)
          · have hc' : ¬ (at_ I l i ≥ at_ I l (i + 1)) := Int.not_le.2 hc
            simp only [hc, hc', decide_true, decide_false, if_true, Bool.false_eq_true, if_false]
          · have hc' : (at_ I l i ≥ at_ I l (i + 1)) := Int.not_lt.1 hc
            simp only [hc, hc', decide_true, decide_false, if_true, Bool.false_eq_true, if_false])
        (by
          intro back
          unfold impl_increasing_l0_r
          have e : l.length - 1 + 1 = l.length := by omega
          simp only [e, lt_not, Bool.false_eq_true, if_false]) l.length 0 (by omega) (by omega)
      simp only [Nat.zero_add, Int.natCast_one] at this
      simp only [this, Nat.sub_zero]
      have e : allB (fun i => decide (at_ I l i < at_ I l (i + 1))) (l.length - 1) 0 = risingB l := by
        apply bool_eq_iff
        rw [allB_iff, risingB_iff]
        simp only [decide_eq_true_eq]
        constructor
        · intro h j h1 h2
          have := h (j - 1) (by omega) (by omega)
          rwa [Nat.sub_add_cancel h1] at this
        · intro h j h1 h2
          exact h (j + 1) (by omega) (by omega)
      simp only [e]
      cases risingB l <;> rfl
  · cases h
theorem allWithin_lim (d) (r) (h : G_allWithin d = some r) : ∃ N, F_impl_allWithin N d = some r := by
  obtain ⟨l, lo, hi, _⟩ := d
  unfold G_allWithin at h
  split at h
  · rename_i hl
    have hl : l.length ≤ lim := of_decide_eq_true hl
    have hmx := lim_max hl
    have h := Option.some.inj h
    subst h
    refine ⟨l.length + 1, ?_⟩
    unfold F_impl_allWithin
    have := loop_all (L := impl_allWithin_l0 (l.length + 1)) (r := impl_allWithin_l0_r (l.length + 1)) (fun _ _ => rfl) (n := l.length) (mk := fun i => (lo, hi, l, (l.length : Int), (i : Int), ())) (p := fun i => inB lo hi (at_ I l i)) (o := .inl (false, ())) (f := .inr (.inl ()))
      (by
        intro back i hi'
        unfold impl_allWithin_l0_r
        simp only [lt_dec hi', if_true, idxIn_nat hi', Int.toNat_natCast, wrap_up hi' hmx, within_eq]
        cases hb : inB lo hi (at_ I l i) <;> rfl)
      (by intro back; unfold impl_allWithin_l0_r; simp only [lt_not, Bool.false_eq_true, if_false]) l.length 0 (by omega) (by omega)
    simp only [Int.natCast_zero] at this
    simp only [this, Nat.sub_zero, all_at (e := I) l (inB lo hi)]
    cases (l.all (inB lo hi)) <;> rfl
  · cases h
/-- What the walk answers before the first list is over. -/
def cmpW : List Int → List Int → Option Int
  | [], _ => none
  | _ :: _, [] => some 1
  | a :: l, b :: m => if a < b then some (-1) else if b < a then some 1 else cmpW l m
theorem cmpL_W : ∀ l m : List Int, cmpL l m = match cmpW l m with
    | some r => r
    | none => if l.length < m.length then -1 else 0 := by
  intro l
  induction l with
  | nil => intro m; cases m <;> simp [cmpL, cmpW]
  | cons a l ih =>
    intro m
    cases m with
    | nil => simp [cmpL, cmpW]
    | cons b m =>
      simp only [cmpL, cmpW]
      by_cases ha : a < b
      · simp [ha]
      · by_cases hb : b < a
        · simp [ha, hb]
        · simp only [ha, hb, if_false, ih m, List.length_cons, Nat.add_lt_add_iff_right]
theorem compare_l0 (N : Nat) (l m : List Int) (hl : l.length ≤ lim) (hm : m.length ≤ lim) : ∀ n i, l.length ≤ i + n → i ≤ l.length → i ≤ m.length → slices_Compare_Sint_int_l0 N (n + 1) (l, m, l, (l.length : Int), (i : Int), ()) = 
    match cmpW (l.drop i) (m.drop i) with
    | some r => some (.inl (r, ()))
    | none => some (.inr (.inl (l, m, ()))) := by
  have hmx := lim_max hl
  intro n
  induction n with
  | zero =>
    intro i h1 h2 h3
    have e : i = l.length := by omega
    subst e
    rw [List.drop_of_length_le (Nat.le_refl l.length)]
    simp [slices_Compare_Sint_int_l0, slices_Compare_Sint_int_l0_r, cmpW]
  | succ n ih =>
    intro i h1 h2 h3
    by_cases hi : i < l.length
    · show slices_Compare_Sint_int_l0_r N (slices_Compare_Sint_int_l0 N (n + 1)) (l, m, l, (l.length : Int), (i : Int), ()) = _
      unfold slices_Compare_Sint_int_l0_r
      simp only [lt_dec hi, if_true, idxIn_nat hi, Int.toNat_natCast, wrap_up hi hmx]
      rw [List.drop_eq_getElem_cons hi]
      by_cases hi' : i < m.length
      · have hge : decide ((i : Int) ≥ (m.length : Int)) = false := by simp; omega
        rw [List.drop_eq_getElem_cons hi']
        simp only [hge, Bool.false_eq_true, if_false, idxIn_nat hi', if_true, cmpI_eq, at_get (e := I) hi, at_get (e := I) (l := m) hi', List.get_eq_getElem, cmpW]
        by_cases ha : l[i] < m[i]
        · simp [ha]
        · by_cases hb : m[i] < l[i]
          · simp [ha, hb]
          · simp only [ha, hb, if_false, bne_self_eq_false, Bool.false_eq_true]
            exact ih (i + 1) (by omega) (by omega) (by omega)
      · have hge : decide ((i : Int) ≥ (m.length : Int)) = true := by simp; omega
        rw [List.drop_of_length_le (Nat.le_of_not_lt hi')]
        simp only [hge, if_true, cmpW]
    · have e : i = l.length := by omega
      subst e
      rw [List.drop_of_length_le (Nat.le_refl l.length)]
      simp [slices_Compare_Sint_int_l0, slices_Compare_Sint_int_l0_r, cmpW]
theorem compare_lim (d) (r) (h : G_compare d = some r) : ∃ N, F_slices_Compare_Sint_int N d = some r := by
  obtain ⟨l, m, _⟩ := d
  unfold G_compare at h
  split at h
  · rename_i hl
    simp only [Bool.and_eq_true] at hl
    have hm : m.length ≤ lim := of_decide_eq_true hl.2
    have hl : l.length ≤ lim := of_decide_eq_true hl.1
    have h := Option.some.inj h
    subst h
    refine ⟨l.length + 1, ?_⟩
    unfold F_slices_Compare_Sint_int
    have := compare_l0 (l.length + 1) l m hl hm l.length 0 (by omega) (by omega) (by omega)
    simp only [Int.natCast_zero, List.drop_zero] at this
    simp only [this, cmpL_W]
    cases cmpW l m with
    | some r => rfl
    | none =>
      by_cases hlt : l.length < m.length
      · have : decide ((l.length : Int) < (m.length : Int)) = true := by simp; omega
        simp only [Option.bind_some, this, if_true, hlt]
      · have : decide ((l.length : Int) < (m.length : Int)) = false := by simp; omega
        simp only [Option.bind_some, this, Bool.false_eq_true, if_false, hlt]
  · cases h
theorem graph_allB (n : Int) (l : List E) : allB (fun i => edgeB n (at_ K_Piiq l i) && (!decide (0 < i) || lessE (at_ K_Piiq l (i - 1)) (at_ K_Piiq l i))) l.length 0 = (l.all (edgeB n) && risingE l) := by
  rw [← all_at (e := K_Piiq) l (edgeB n)]
  apply bool_eq_iff
  rw [Bool.and_eq_true, allB_iff, allB_iff, risingE_iff]
  simp only [Bool.and_eq_true, Bool.or_eq_true, Bool.not_eq_true', decide_eq_false_iff_not]
  constructor
  · intro h
    exact ⟨fun j h1 h2 => (h j h1 h2).1, fun j h1 h2 => ((h j (by omega) (by omega)).2).resolve_left (by omega)⟩
  · rintro ⟨h1, h2⟩ j h3 h4
    refine ⟨h1 j h3 h4, ?_⟩
    by_cases h0 : 0 < j
    · exact .inr (h2 j h0 (by omega))
    · exact .inl h0
theorem cmp2 (a b : E) : decide (cmpL [a.1, a.2.1] [b.1, b.2.1] ≥ 0) = !lessE a b := by
  obtain ⟨a1, a2, _⟩ := a
  obtain ⟨b1, b2, _⟩ := b
  simp only [cmpL, lessE]
  by_cases h1 : a1 < b1
  · simp [h1]
  · by_cases h2 : b1 < a1
    · have : ¬ a1 = b1 := by omega
      simp [h1, h2, this]
    · have e : a1 = b1 := by omega
      subst e
      by_cases h3 : a2 < b2
      · simp [h3]
      · by_cases h4 : b2 < a2 <;> simp [h3, h4]
theorem edge_eq (n a b : Int) : (inB 0 (n - 1) a && inB 0 (n - 1) b && decide (a < b)) = (decide (0 ≤ a) && decide (a < b) && decide (b < n)) := by
  apply bool_eq_iff
  simp only [inB, Bool.and_eq_true, decide_eq_true_eq]
  omega
theorem okL2 (a b : Int) : okL [a, b] = true := decide_eq_true (show 2 ≤ lim by unfold lim; omega)
theorem IsGraph_lim (d) (r) (h : G_graph d = some r) : ∃ N, F_impl_IsGraph N d = some r := by
  obtain ⟨⟨n, l, u⟩, _⟩ := d
  unfold G_graph at h
  split at h
  · rename_i hl
    have hl : l.length ≤ lim := of_decide_eq_true hl
    have hmx := lim_max hl
    have h := Option.some.inj h
    subst h
    refine ⟨l.length + 1, ?_⟩
    unfold F_impl_IsGraph
    simp only [within_eq, graphB]
    cases hn : inB 0 8 n with
    | false =>
      simp only [inB] at hn
      simp only [Bool.not_false, if_true, hn, Bool.false_and]
    | true =>
      have hn' := hn
      simp only [inB] at hn'
      simp only [Bool.not_true, Bool.false_eq_true, if_false, hn', Bool.true_and]
      have := loop_all (L := impl_IsGraph_l0 (l.length + 1)) (r := impl_IsGraph_l0_r (l.length + 1)) (fun _ _ => rfl) (n := l.length) (mk := fun i => ((n, l, u), l, (l.length : Int), (i : Int), ())) (p := fun i => edgeB n (at_ K_Piiq l i) && (!decide (0 < i) || lessE (at_ K_Piiq l (i - 1)) (at_ K_Piiq l i))) (o := .inl (false, ())) (f := .inr (.inl ()))
        (by
          intro back i hi
          unfold impl_IsGraph_l0_r
          simp only [lt_dec hi, if_true, idxIn_nat hi, Int.toNat_natCast, wrap_up hi hmx, pos_dec]
          by_cases c1 : (at_ K_Piiq l i).1 < 0
          · have c1' : ¬ (0 ≤ (at_ K_Piiq l i).1) := Int.not_le.2 c1
            simp only [c1, decide_true, if_true, edgeB, c1', decide_false, Bool.false_and, Bool.false_eq_true, if_false]
          · have c1' : (0 ≤ (at_ K_Piiq l i).1) := Int.not_lt.1 c1
            by_cases c2 : (at_ K_Piiq l i).1 < (at_ K_Piiq l i).2.1
            · have c2' : ¬ ((at_ K_Piiq l i).1 ≥ (at_ K_Piiq l i).2.1) := Int.not_le.2 c2
              by_cases c3 : (at_ K_Piiq l i).2.1 < n
              · have c3' : ¬ ((at_ K_Piiq l i).2.1 ≥ n) := Int.not_le.2 c3
                by_cases h0 : 0 < i
                · have h1 : i - 1 < l.length := by omega
                  simp only [c1, c1', c2, c2', c3, c3', edgeB, decide_true, decide_false, if_true, if_false, Bool.false_eq_true, Bool.true_and, h0, wrap_down h0 (show i ≤ maxLen by omega), idxIn_nat h1, Int.toNat_natCast, Bool.not_true, Bool.false_or, G_compare, okL2, Option.bind_some, cmp2]
                  cases lessE (at_ K_Piiq l (i - 1)) (at_ K_Piiq l i) <;> rfl
                · simp only [c1, c1', c2, c2', c3, c3', edgeB, decide_true, decide_false, if_true, if_false, Bool.false_eq_true, Bool.true_and, h0, Bool.not_false, Bool.true_or]
              · have c3' : ((at_ K_Piiq l i).2.1 ≥ n) := Int.not_lt.1 c3
                simp only [c1, c1', c2, c2', c3, c3', edgeB, decide_true, decide_false, if_true, if_false, Bool.false_eq_true, Bool.and_false, Bool.false_and]
            · have c2' : ((at_ K_Piiq l i).1 ≥ (at_ K_Piiq l i).2.1) := Int.not_lt.1 c2
              simp only [c1, c1', c2, c2', edgeB, decide_true, decide_false, if_true, if_false, Bool.false_eq_true, Bool.and_false, Bool.false_and])
        (by intro back; unfold impl_IsGraph_l0_r; simp only [lt_not, Bool.false_eq_true, if_false]) l.length 0 (by omega) (by omega)
      simp only [Int.natCast_zero] at this
      simp only [this, Nat.sub_zero, graph_allB]
      cases (l.all (edgeB n) && risingE l) <;> rfl
  · cases h
theorem l2Good_lim (d) (r) (h : G_graph d = some r) : ∃ N, F_spec_l2Good N d = some r := by
  obtain ⟨⟨n, l, u⟩, _⟩ := d
  unfold G_graph at h
  split at h
  · rename_i hl
    have hl : l.length ≤ lim := of_decide_eq_true hl
    have hmx := lim_max hl
    have h := Option.some.inj h
    subst h
    refine ⟨l.length + 1, ?_⟩
    unfold F_spec_l2Good
    have := loop_all (L := spec_l2Good_l0 (l.length + 1)) (r := spec_l2Good_l0_r (l.length + 1)) (fun _ _ => rfl) (n := l.length) (mk := fun i => ((n, l, u), (i : Int), ())) (p := fun i => (inB 0 (IntKind.wrap .i64 (n - 1)) (at_ K_Piiq l i).1 && inB 0 (IntKind.wrap .i64 (n - 1)) (at_ K_Piiq l i).2.1 && decide ((at_ K_Piiq l i).1 < (at_ K_Piiq l i).2.1)) && (!decide (0 < i) || lessE (at_ K_Piiq l (i - 1)) (at_ K_Piiq l i))) (o := .inl (false, ())) (f := .inr (.inl ((n, l, u), ())))
        (by
          intro back i hi
          unfold spec_l2Good_l0_r
          simp only [lt_dec hi, if_true, idxIn_nat hi, Int.toNat_natCast, wrap_up hi hmx, pos_dec, l1In_eq, l2Before_eq]
          cases c1 : inB 0 (IntKind.wrap .i64 (n - 1)) (at_ K_Piiq l i).1 with
          | false => rfl
          | true =>
            cases c2 : inB 0 (IntKind.wrap .i64 (n - 1)) (at_ K_Piiq l i).2.1 with
            | false => rfl
            | true =>
              by_cases c3 : (at_ K_Piiq l i).1 < (at_ K_Piiq l i).2.1
              · have c3' : ¬ ((at_ K_Piiq l i).1 ≥ (at_ K_Piiq l i).2.1) := Int.not_le.2 c3
                by_cases h0 : 0 < i
                · have h1 : i - 1 < l.length := by omega
                  simp only [c3, c3', decide_true, decide_false, if_true, if_false, Bool.false_eq_true, Bool.true_and, h0, wrap_down h0 (show i ≤ maxLen by omega), idxIn_nat h1, Int.toNat_natCast, Bool.not_true, Bool.false_or]
                  cases lessE (at_ K_Piiq l (i - 1)) (at_ K_Piiq l i) <;> rfl
                · simp only [c3, c3', decide_true, decide_false, if_true, if_false, Bool.false_eq_true, Bool.true_and, h0, Bool.not_false, Bool.true_or, Bool.not_true]
              · have c3' : ((at_ K_Piiq l i).1 ≥ (at_ K_Piiq l i).2.1) := Int.not_lt.1 c3
                simp only [c3, c3', decide_true, decide_false, if_true, if_false, Bool.false_eq_true, Bool.true_and, Bool.false_and, Bool.not_true])
        (by intro back; unfold spec_l2Good_l0_r; simp only [lt_not, Bool.false_eq_true, if_false]) l.length 0 (by omega) (by omega)
    simp only [Int.natCast_zero] at this
    simp only [this, Nat.sub_zero, graphB]
    cases hn : inB 0 8 n with
    | false =>
      have hn' := hn
      simp only [inB] at hn'
      simp only [hn', Bool.false_and]
      split <;> simp [l1In_eq, hn]
    | true =>
      have hn' := hn
      simp only [inB] at hn'
      simp only [hn', Bool.true_and]
      simp only [Bool.and_eq_true, decide_eq_true_eq] at hn'
      have hw : IntKind.wrap .i64 (n - 1) = n - 1 := wrap_in _ (by omega) (by omega)
      have hp : (fun i => (inB 0 (IntKind.wrap .i64 (n - 1)) (at_ K_Piiq l i).1 && inB 0 (IntKind.wrap .i64 (n - 1)) (at_ K_Piiq l i).2.1 && decide ((at_ K_Piiq l i).1 < (at_ K_Piiq l i).2.1)) && (!decide (0 < i) || lessE (at_ K_Piiq l (i - 1)) (at_ K_Piiq l i))) = (fun i => edgeB n (at_ K_Piiq l i) && (!decide (0 < i) || lessE (at_ K_Piiq l (i - 1)) (at_ K_Piiq l i))) := by
        funext i
        congr 1
        rw [hw]
        exact edge_eq n _ _
      simp only [hp, graph_allB]
      cases (l.all (edgeB n) && risingE l) <;> simp [l1In_eq, hn]
  · cases h
end Go.V.W
set_option linter.unusedVariables false
set_option linter.unusedSimpArgs false
namespace Go.V.W
open Go.Proofs
theorem sz_wrap {a : Int} {n : Nat} (h0 : 0 ≤ a) (h1 : a ≤ 1048576) (hn : n ≤ maxLen) : IntKind.wrap .i64 (a - (n : Int)) = a - (n : Int) := by
  unfold maxLen at hn
  exact Go.IntWalk.i64_in _ (by omega)
theorem szStep_le {a : Int} {n : Nat} (h : ¬ szStep a n < 0) : n ≤ a ∧ szStep a n = a - n := by
  unfold szStep at h ⊢
  split at h
  · omega
  · exact ⟨by omega, by rw [if_neg (by assumption)]⟩
theorem szStep_neg {a : Int} {n : Nat} (h : szStep a n < 0) : szStep a n = -1 := by
  unfold szStep at h ⊢
  split at h
  · rw [if_pos (by assumption)]
  · omega
theorem szA2S_eq (l : List E) (a : Int) (u : Unit) (h0 : 0 ≤ a) (h1 : a ≤ 1048576) (hl : l.length ≤ maxLen) : g_laws_szIntA2S (l, a, u) = (szStep a l.length, ()) := by
  unfold g_laws_szIntA2S szStep
  simp only [sz_wrap h0 h1 hl]
  by_cases h : a - (l.length : Int) < 0 <;> simp only [h, decide_true, decide_false, if_true, if_false, Bool.false_eq_true]
theorem szS_eq (l : List Int) (a : Int) (u : Unit) (h0 : 0 ≤ a) (h1 : a ≤ 1048576) (hl : l.length ≤ maxLen) : g_laws_szIntS (l, a, u) = (szStep a l.length, ()) := by
  unfold g_laws_szIntS szStep
  simp only [sz_wrap h0 h1 hl]
  by_cases h : a - (l.length : Int) < 0 <;> simp only [h, decide_true, decide_false, if_true, if_false, Bool.false_eq_true]
theorem szGraph_eq (n : Int) (l : List E) (v : Unit) (a : Int) (u : Unit) (h0 : 0 ≤ a) (h1 : a ≤ 1048576) (hl : l.length ≤ maxLen) : g_laws_szGraph ((n, l, v), a, u) = (szStep a l.length, ()) := by
  unfold g_laws_szGraph
  simp only [szA2S_eq l a () h0 h1 hl]
  by_cases h : szStep a l.length < 0
  · simp [szStep_neg h]
  · simp only [h, decide_false, if_false, Bool.false_eq_true]
theorem okL_of {α : Type} {l : List α} (h : l.length ≤ 1048576) : okL l = true := decide_eq_true (by unfold lim; omega)
theorem toGraph_eq (n : Int) (l : List E) (u : Unit) (v : Unit) (hl : okL l = true) : F_laws_toGraph 0 ((n, l, u), v) = some ((n, l, u), v) := by
  unfold F_laws_toGraph G_toIntA2S
  simp only [hl, if_true, Option.bind_some]
theorem eqGraph_self (n : Int) (l : List E) (u v w : Unit) (hl : okL l = true) : F_laws_eqGraph 0 ((n, l, u), (n, l, v), w) = some (true, ()) := by
  unfold F_laws_eqGraph G_eqIntA2S
  simp only [bne_self_eq_false, Bool.false_eq_true, if_false, hl, if_true, decide_true, Option.bind_some, Bool.not_true]
theorem graphB_n {n : Int} {l : List E} {u : Unit} (h : graphB (n, l, u) = true) : 0 ≤ n ∧ n ≤ 8 := by
  unfold graphB at h
  simp only [Bool.and_eq_true, decide_eq_true_eq] at h
  exact ⟨h.1.1.1, h.1.1.2⟩
end Go.V.W
set_option linter.unusedVariables false
set_option linter.unusedSimpArgs false
namespace Go.V.W
open Go.Proofs
theorem okK_of {k : Int} (h : okK k = true) : 0 ≤ k ∧ k ≤ 4398046511104 := by
  simp only [okK, Bool.and_eq_true, decide_eq_true_eq] at h
  exact h
theorem at_mid {e : Kd} (pre : List e.den) (x : e.den) (rest : List e.den) : at_ e (pre ++ x :: rest) pre.length = x := by
  rw [at_get (e := e) (by simp)]
  simp
theorem set_mid {α : Type} (pre : List α) (x y : α) (rest : List α) : List.set (pre ++ x :: rest) pre.length y = (pre ++ [y]) ++ rest := by
  simp
theorem mid_lt {α : Type} (pre : List α) (x : α) (rest : List α) : pre.length < (pre ++ x :: rest).length := by simp
theorem markIntS_l0 (N : Nat) : ∀ (rest pre : List Int) (k : Int) (n : Nat), pre.length + rest.length ≤ lim → rest.length ≤ n → 0 ≤ k → k + rest.length ≤ 9007199254740992 →
    laws_markIntS_l0 N (n + 1) (pre ++ rest, k, (pre.length : Int), ()) = some (.inl (pre ++ markL k rest, k + rest.length, ())) := by
  intro rest
  induction rest with
  | nil =>
    intro pre k n h1 h2 h3 h4
    simp [laws_markIntS_l0, laws_markIntS_l0_r, markL]
  | cons x rest ih =>
    intro pre k n h1 h2 h3 h4
    simp only [List.length_cons] at h1 h2 h4
    have hlt := mid_lt pre x rest
    have hmx : (pre ++ x :: rest).length ≤ maxLen := by
      have := lim_max h1
      simpa using this
    obtain ⟨n, rfl⟩ : ∃ m, n = m + 1 := ⟨n - 1, by omega⟩
    show laws_markIntS_l0_r N (laws_markIntS_l0 N (n + 1)) (pre ++ x :: rest, k, (pre.length : Int), ()) = _
    unfold laws_markIntS_l0_r
    have hw : IntKind.wrap .i64 (k + 1) = k + 1 := wrap_in _ (by omega) (by omega)
    simp only [lt_dec hlt, if_true, idxIn_nat hlt, Int.toNat_natCast, wrap_up hlt hmx, hw, set_mid]
    have := ih (pre ++ [k]) (k + 1) n (by simp; omega) (by omega) (by omega) (by omega)
    rw [show (pre ++ [k]).length = pre.length + 1 by simp] at this
    rw [this]
    simp [markL]
    omega
theorem markIntS_lim (d) (r) (h : G_markIntS d = some r) : ∃ N, F_laws_markIntS N d = some r := by
  obtain ⟨l, k, _⟩ := d
  unfold G_markIntS at h
  split at h
  · rename_i hl
    simp only [Bool.and_eq_true] at hl
    have hk := okK_of hl.2
    have hl : l.length ≤ lim := of_decide_eq_true hl.1
    have h := Option.some.inj h
    subst h
    refine ⟨l.length + 1, ?_⟩
    unfold F_laws_markIntS
    have := markIntS_l0 (l.length + 1) l [] k l.length (by simpa using hl) (Nat.le_refl _) hk.1 (by unfold lim at hl; omega)
    simp only [List.nil_append, List.length_nil, Int.natCast_zero] at this
    simp only [this, Option.bind_some]
  · cases h
theorem heldIntS_l0 (N : Nat) : ∀ (rest pre : List Int) (k : Int) (n : Nat), pre.length + rest.length ≤ lim → rest.length ≤ n → 0 ≤ k → k + rest.length ≤ 9007199254740992 →
    laws_heldIntS_l0 N (n + 1) (pre ++ rest, k, (pre.length : Int), ()) = some (.inl (heldL k rest, ())) ∨ laws_heldIntS_l0 N (n + 1) (pre ++ rest, k, (pre.length : Int), ()) = some (.inr (.inl (heldL k rest, ()))) := by
  intro rest
  induction rest with
  | nil =>
    intro pre k n h1 h2 h3 h4
    right
    simp [laws_heldIntS_l0, laws_heldIntS_l0_r, heldL]
  | cons x rest ih =>
    intro pre k n h1 h2 h3 h4
    simp only [List.length_cons] at h1 h2 h4
    have hlt := mid_lt pre x rest
    have hmx : (pre ++ x :: rest).length ≤ maxLen := by
      have := lim_max h1
      simpa using this
    obtain ⟨n, rfl⟩ : ∃ m, n = m + 1 := ⟨n - 1, by omega⟩
    have hw : IntKind.wrap .i64 (k + 1) = k + 1 := wrap_in _ (by omega) (by omega)
    have hstep : laws_heldIntS_l0 N (n + 1 + 1) (pre ++ x :: rest, k, (pre.length : Int), ()) = if x = k then laws_heldIntS_l0 N (n + 1) (pre ++ x :: rest, k + 1, ((pre.length + 1 : Nat) : Int), ()) else some (.inl (-1, ())) := by
      show laws_heldIntS_l0_r N (laws_heldIntS_l0 N (n + 1)) (pre ++ x :: rest, k, (pre.length : Int), ()) = _
      unfold laws_heldIntS_l0_r
      simp only [lt_dec hlt, if_true, idxIn_nat hlt, Int.toNat_natCast, wrap_up hlt hmx, hw, at_mid (e := I)]
      by_cases he : x = k
      · simp [he]
      · have : (x != k) = true := by simpa using he
        simp only [this, if_true, he, if_false]
    rw [hstep]
    simp only [heldL]
    by_cases he : x = k
    · simp only [he, if_true]
      have := ih (pre ++ [k]) (k + 1) n (by simp; omega) (by omega) (by omega) (by omega)
      rw [show (pre ++ [k]).length = pre.length + 1 by simp, List.append_assoc] at this
      exact this
    · simp [he]
theorem heldIntS_lim (d) (r) (h : G_heldIntS d = some r) : ∃ N, F_laws_heldIntS N d = some r := by
  obtain ⟨l, k, _⟩ := d
  unfold G_heldIntS at h
  split at h
  · rename_i hl
    simp only [Bool.and_eq_true] at hl
    have hk := okK_of hl.2
    have hl : l.length ≤ lim := of_decide_eq_true hl.1
    have h := Option.some.inj h
    subst h
    refine ⟨l.length + 1, ?_⟩
    unfold F_laws_heldIntS
    have := heldIntS_l0 (l.length + 1) l [] k l.length (by simpa using hl) (Nat.le_refl _) hk.1 (by unfold lim at hl; omega)
    simp only [List.nil_append, List.length_nil, Int.natCast_zero] at this
    rcases this with this | this <;> simp only [this, Option.bind_some]
  · cases h
theorem markIntA2S_l0 (N : Nat) : ∀ (rest pre : List E) (k : Int) (n : Nat), pre.length + rest.length ≤ lim → rest.length ≤ n → 0 ≤ k → k + 2 * rest.length ≤ 9007199254740992 →
    laws_markIntA2S_l0 (N + 3) (n + 1) (pre ++ rest, k, (pre.length : Int), ()) = some (.inl (pre ++ markA k rest, k + 2 * rest.length, ())) := by
  intro rest
  induction rest with
  | nil =>
    intro pre k n h1 h2 h3 h4
    simp [laws_markIntA2S_l0, laws_markIntA2S_l0_r, markA]
  | cons x rest ih =>
    intro pre k n h1 h2 h3 h4
    simp only [List.length_cons] at h1 h2 h4
    have hlt := mid_lt pre x rest
    have hmx : (pre ++ x :: rest).length ≤ maxLen := by
      have := lim_max h1
      simpa using this
    obtain ⟨n, rfl⟩ : ∃ m, n = m + 1 := ⟨n - 1, by omega⟩
    have hw : IntKind.wrap .i64 (k + 1) = k + 1 := wrap_in _ (by omega) (by omega)
    have hw2 : IntKind.wrap .i64 (k + 1 + 1) = k + 1 + 1 := wrap_in _ (by omega) (by omega)
    have hin : laws_markIntA2S_l2 (N + 3) (N + 3) (pre ++ x :: rest, k, (pre.length : Int), (0 : Int), ()) = some (.inl (pre ++ (k, k + 1, ()) :: rest, k + 1 + 1, (pre.length : Int), ())) := by
      have i1 : idxIn (pre.length : Int) (pre.length + (rest.length + 1)) = true := idxIn_nat (by omega)
      have w0 : IntKind.wrap .i64 1 = 1 := wrap_in _ (by omega) (by omega)
      have w1 : IntKind.wrap .i64 2 = 2 := wrap_in _ (by omega) (by omega)
      have a1 := at_mid (e := K_Piiq) pre x rest
      have a2 := at_mid (e := K_Piiq) pre (k, x.2) rest
      simp [laws_markIntA2S_l2, laws_markIntA2S_l2_r, i1, hw, hw2, w0, w1, a1, a2]
    show laws_markIntA2S_l0_r (N + 3) (laws_markIntA2S_l0 (N + 3) (n + 1)) (pre ++ x :: rest, k, (pre.length : Int), ()) = _
    unfold laws_markIntA2S_l0_r
    simp only [lt_dec hlt, if_true, hin, Option.bind_some, wrap_up hlt hmx]
    have := ih (pre ++ [(k, k + 1, ())]) (k + 1 + 1) n (by simp; omega) (by omega) (by omega) (by omega)
    rw [show (pre ++ [((k, k + 1, ()) : E)]).length = pre.length + 1 by simp, List.append_assoc] at this
    simp only [List.singleton_append] at this
    rw [this]
    simp [markA, show k + 1 + 1 = k + 2 by omega]
    omega
theorem markIntA2S_lim (d) (r) (h : G_markIntA2S d = some r) : ∃ N, F_laws_markIntA2S N d = some r := by
  obtain ⟨l, k, _⟩ := d
  unfold G_markIntA2S at h
  split at h
  · rename_i hl
    simp only [Bool.and_eq_true] at hl
    have hk := okK_of hl.2
    have hl : l.length ≤ lim := of_decide_eq_true hl.1
    have h := Option.some.inj h
    subst h
    refine ⟨l.length + 3, ?_⟩
    unfold F_laws_markIntA2S
    have := markIntA2S_l0 l.length l [] k (l.length + 2) (by simpa using hl) (by omega) hk.1 (by unfold lim at hl; omega)
    simp only [List.nil_append, List.length_nil, Int.natCast_zero] at this
    simp only [this, Option.bind_some]
  · cases h
theorem held_markL : ∀ (l : List Int) (k : Int), heldL k (markL k l) = k + l.length := by
  intro l
  induction l with
  | nil => intro k; simp [markL, heldL]
  | cons x l ih => intro k; simp only [markL, heldL, if_true, ih, List.length_cons]; omega
theorem markL_len : ∀ (l : List Int) (k : Int), (markL k l).length = l.length := by
  intro l
  induction l with
  | nil => intro k; rfl
  | cons x l ih => intro k; simp [markL, ih]
end Go.V.W
set_option linter.unusedVariables false
set_option linter.unusedSimpArgs false
namespace Go.V.W
open Go.Proofs
theorem okL_nil {α : Type} : okL ([] : List α) = true := decide_eq_true (by simp)
theorem okL_lim {α : Type} {l : List α} (h : okL l = true) : l.length ≤ lim := of_decide_eq_true h
theorem markGraph_eq (n : Int) (l : List E) (v w : Unit) (k : Int) (hl : okL l = true) (hk : okK k = true) : F_laws_markGraph 0 ((n, l, v), k, w) = some (k + 2 * (l.length : Int), (n, markA k l, v), ()) := by
  unfold F_laws_markGraph G_markIntA2S
  simp only [hl, hk, Bool.and_self, if_true, Option.bind_some]
theorem okK_small {k : Int} (h : 0 ≤ k) (h2 : k ≤ 4398046511104) : okK k = true := by unfold okK; simp [h, h2]
theorem markL_ok {k : Int} {l : List Int} (h : okL l = true) : okL (markL k l) = true := by unfold okL at h ⊢; rwa [markL_len]
end Go.V.W
set_option linter.unusedVariables false
set_option linter.unusedSimpArgs false
namespace Go.V.W
open Go.Proofs
theorem all_at_of {e : Kd} {l : List e.den} {q : e.den → Bool} (h : l.all q = true) {i : Nat} (hi : i < l.length) : q (at_ e l i) = true := by
  rw [at_get hi]
  exact List.all_eq_true.1 h _ (List.get_mem l ⟨i, hi⟩)
theorem loop_idx {H O : Type} {L : Nat → H → Option O} {r : (H → Option O) → H → Option O} (hL : ∀ k d, L (k + 1) d = r (L k) d) {e : Kd} (l : List e.den) {mk : Nat → H} {q : e.den → Bool} {o : Nat → O} {f : O}
    (hr : ∀ back i, i < l.length → r back (mk i) = if q (at_ e l i) = true then some (o i) else back (mk (i + 1))) (hf : ∀ back, r back (mk l.length) = some f) :
    ∀ k i, i ≤ l.length → l.length ≤ i + k → L (k + 1) (mk i) = some (match idxN q (l.drop i) i with | some j => o j | none => f) := by
  intro k
  induction k with
  | zero =>
    intro i h1 h2
    have e : i = l.length := by omega
    subst e
    rw [hL, hf, List.drop_of_length_le (Nat.le_refl _)]
    rfl
  | succ k ih =>
    intro i h1 h2
    by_cases h : i < l.length
    · rw [hL, hr _ i h, List.drop_eq_getElem_cons h]
      simp only [idxN]
      have e : at_ e l i = l[i] := at_get h
      rw [e]
      by_cases hq : q l[i] = true
      · simp only [hq, if_true]
      · simp only [hq, if_false]
        exact ih (i + 1) (by omega) (by omega)
    · have e : i = l.length := by omega
      subst e
      rw [hL, hf, List.drop_of_length_le (Nat.le_refl _)]
      rfl
theorem idxI_ge {α : Type} (q : α → Bool) : ∀ (l : List α) (i : Nat), decide (idxI (idxN q l i) ≥ 0) = l.any q := by
  intro l
  induction l with
  | nil => intro i; rfl
  | cons x l ih =>
    intro i
    simp only [idxN, List.any_cons]
    by_cases h : q x = true
    · simp [h, idxI]
    · have h' : q x = false := by simpa using h
      simp only [h, if_false, h', Bool.false_or, ih]
      exact ih (i + 1)
theorem szIntSS_l0 (N : Nat) (l : List (List Int)) (hl : l.length ≤ maxLen) (ha : l.all (fun x => okMx x.length) = true) : ∀ n i (a : Int), l.length ≤ i + n → i ≤ l.length → 0 ≤ a → a ≤ 1048576 →
    laws_szIntSS_l0 N (n + 1) (l, a, (i : Int), ()) = some (.inl (szFold a (l.drop i), ())) ∨ laws_szIntSS_l0 N (n + 1) (l, a, (i : Int), ()) = some (.inr (.inl (szFold a (l.drop i), ()))) := by
  intro n
  induction n with
  | zero =>
    intro i a h1 h2 h3 h4
    have e : i = l.length := by omega
    subst e
    right
    rw [List.drop_of_length_le (Nat.le_refl _)]
    simp [laws_szIntSS_l0, laws_szIntSS_l0_r, szFold]
  | succ n ih =>
    intro i a h1 h2 h3 h4
    by_cases hi : i < l.length
    · have hx : (at_ K_Si l i).length ≤ maxLen := of_decide_eq_true (all_at_of (e := K_Si) ha hi)
      have hstep : laws_szIntSS_l0 N (n + 1 + 1) (l, a, (i : Int), ()) = if szStep a (at_ K_Si l i).length < 0 then some (.inl (-1, ())) else laws_szIntSS_l0 N (n + 1) (l, szStep a (at_ K_Si l i).length, ((i + 1 : Nat) : Int), ()) := by
        show laws_szIntSS_l0_r N (laws_szIntSS_l0 N (n + 1)) (l, a, (i : Int), ()) = _
        unfold laws_szIntSS_l0_r
        simp only [lt_dec hi, if_true, idxIn_nat hi, Int.toNat_natCast, wrap_up hi hl, szS_eq (at_ K_Si l i) a () h3 h4 hx]
        by_cases h : szStep a (at_ K_Si l i).length < 0
        · simp only [h, decide_true, if_true]
        · simp only [h, decide_false, if_false, Bool.false_eq_true]
      rw [hstep, List.drop_eq_getElem_cons hi]
      have e : at_ K_Si l i = l[i] := at_get (e := K_Si) hi
      rw [e]
      simp only [szFold]
      by_cases h : szStep a l[i].length < 0
      · left; simp only [h, if_true]
      · simp only [h, if_false]
        have := szStep_le h
        exact ih (i + 1) _ (by omega) (by omega) (by omega) (by omega)
    · have e : i = l.length := by omega
      subst e
      right
      rw [List.drop_of_length_le (Nat.le_refl _)]
      simp [laws_szIntSS_l0, laws_szIntSS_l0_r, szFold]
theorem szIntSS_lim (d) (r) (h : G_szIntSS d = some r) : ∃ N, F_laws_szIntSS N d = some r := by
  obtain ⟨l, a, _⟩ := d
  unfold G_szIntSS at h
  split at h
  · rename_i hc
    simp only [Bool.and_eq_true, decide_eq_true_eq] at hc
    obtain ⟨⟨⟨h1, h2⟩, h3⟩, h4⟩ := hc
    have hl : l.length ≤ maxLen := of_decide_eq_true h1
    have h := Option.some.inj h
    subst h
    refine ⟨l.length + 1, ?_⟩
    unfold F_laws_szIntSS
    simp only [sz_wrap h3 h4 hl]
    by_cases c : szStep a l.length < 0
    · have : a - (l.length : Int) < 0 := by
        unfold szStep at c
        split at c
        · assumption
        · assumption
      simp only [this, c, decide_true, if_true]
    · have c2 := szStep_le c
      have : ¬ a - (l.length : Int) < 0 := by omega
      simp only [this, c, decide_false, if_false, Bool.false_eq_true]
      have := szIntSS_l0 (l.length + 1) l hl h2 l.length 0 (a - (l.length : Int)) (by omega) (by omega) (by omega) (by omega)
      simp only [Int.natCast_zero, List.drop_zero] at this
      rw [c2.2]
      rcases this with this | this <;> simp only [this, Option.bind_some]
  · cases h
theorem szFold_le : ∀ (l : List (List Int)) (a : Int), 0 ≤ a → a ≤ 1048576 → ¬ szFold a l < 0 → l.all (fun x => decide (x.length ≤ 1048576)) = true := by
  intro l
  induction l with
  | nil => intro a _ _ _; rfl
  | cons x l ih =>
    intro a h0 h1 h
    simp only [szFold] at h
    by_cases c : szStep a x.length < 0
    · simp only [c, if_true] at h; omega
    · simp only [c, if_false] at h
      have := szStep_le c
      simp only [List.all_cons, Bool.and_eq_true, decide_eq_true_eq]
      exact ⟨by omega, ih _ (by omega) (by omega) h⟩
theorem okLL_of {l : List (List Int)} (h : okLL l = true) : okL l = true ∧ l.all okL = true := by
  unfold okLL at h
  simpa only [Bool.and_eq_true] using h
theorem toIntSS_l0 (N : Nat) (l : List (List Int)) (hl : l.length ≤ lim) (ha : l.all okL = true) : ∀ k, l.length ≤ k → laws_toIntSS_l0 N (k + 1) (l, List.replicate l.length ([] : List Int), (0 : Int), ()) = some (.inl (l, ())) := by
  intro k hk
  have hmx := lim_max hl
  have key : ∀ n i (m : List (List Int)), l.length ≤ i + n → i ≤ l.length → m.length = l.length → m.take i = l.take i → laws_toIntSS_l0 N (n + 1) (l, m, (i : Int), ()) = some (.inl (l, ())) := by
    intro n
    induction n with
    | zero =>
      intro i m h1 h2 h3 h4
      have e : i = l.length := by omega
      subst e
      rw [List.take_of_length_le (by omega), List.take_of_length_le (by omega)] at h4
      subst h4
      simp [laws_toIntSS_l0, laws_toIntSS_l0_r]
    | succ n ih =>
      intro i m h1 h2 h3 h4
      by_cases hi : i < l.length
      · show laws_toIntSS_l0_r N (laws_toIntSS_l0 N (n + 1)) (l, m, (i : Int), ()) = _
        unfold laws_toIntSS_l0_r
        have hx : okL (at_ K_Si l i) = true := all_at_of (e := K_Si) ha hi
        simp only [lt_dec hi, if_true, idxIn_nat hi, idxIn_nat (show i < m.length by omega), Int.toNat_natCast, wrap_up hi hmx, G_toIntS, hx, Option.bind_some]
        refine ih (i + 1) _ (by omega) (by omega) (by simp [h3]) ?_
        exact set_copy l m i _ hi (by rw [at_get (e := K_Si) hi]; rfl) h3 h4
      · have e : i = l.length := by omega
        subst e
        rw [List.take_of_length_le (by omega), List.take_of_length_le (by omega)] at h4
        subst h4
        simp [laws_toIntSS_l0, laws_toIntSS_l0_r]
  simpa using key k 0 (List.replicate l.length ([] : List Int)) (by omega) (by omega) (by simp) (by simp)
theorem toIntSS_lim (d) (r) (h : G_toIntSS d = some r) : ∃ N, F_laws_toIntSS N d = some r := by
  obtain ⟨l, _⟩ := d
  unfold G_toIntSS at h
  split at h
  · rename_i hl
    obtain ⟨h1, h2⟩ := okLL_of hl
    have hl : l.length ≤ lim := okL_lim h1
    have h := Option.some.inj h
    subst h
    refine ⟨l.length + 1, ?_⟩
    unfold F_laws_toIntSS
    have hc : (decide (0 ≤ (List.length l : Int)) && decide ((List.length l : Int) ≤ (List.length l : Int)) && decide ((List.length l : Int) ≤ (lim : Int))) = true := by simp; omega
    have := toIntSS_l0 (l.length + 1) l hl h2 l.length (Nat.le_refl _)
    simp only [hc, if_true, Int.toNat_natCast]
    rw [this]
    rfl
  · cases h
theorem eqIntSS_lim (d) (r) (h : G_eqIntSS d = some r) : ∃ N, F_laws_eqIntSS N d = some r := by
  obtain ⟨l, m, _⟩ := d
  unfold G_eqIntSS at h
  split at h
  · rename_i hll
    obtain ⟨hl1, ha⟩ := okLL_of hll
    have hl : l.length ≤ lim := okL_lim hl1
    have hmx := lim_max hl
    have h := Option.some.inj h
    subst h
    refine ⟨l.length + 1, ?_⟩
    unfold F_laws_eqIntSS
    by_cases hm : l.length = m.length
    · have := loop_all (L := laws_eqIntSS_l0 (l.length + 1)) (r := laws_eqIntSS_l0_r (l.length + 1)) (fun _ _ => rfl) (n := l.length) (mk := fun i => (l, m, (i : Int), ())) (p := fun i => decide (at_ K_Si l i = at_ K_Si m i)) (o := .inl (false, ())) (f := .inr (.inl ()))
        (by
          intro back i hi
          have hi' : i < m.length := by omega
          have hx : okL (at_ K_Si l i) = true := all_at_of (e := K_Si) ha hi
          unfold laws_eqIntSS_l0_r
          simp only [lt_dec hi, if_true, idxIn_nat hi, idxIn_nat hi', Int.toNat_natCast, wrap_up hi hmx, G_eqIntS, hx, Option.bind_some]
          by_cases he : at_ K_Si l i = at_ K_Si m i
          · simp only [he, decide_true, Bool.not_true, Bool.false_eq_true, if_false, if_true]
          · simp only [he, decide_false, Bool.not_false, Bool.false_eq_true, if_false, if_true])
        (by intro back; unfold laws_eqIntSS_l0_r; simp only [lt_not, Bool.false_eq_true, if_false]) l.length 0 (by omega) (by omega)
      simp only [Int.natCast_zero] at this
      have hne : ((List.length l : Int) != (List.length m : Int)) = false := by simp [hm]
      simp only [hne, Bool.false_eq_true, if_false, this, Nat.sub_zero]
      by_cases he : l = m
      · have : allB (fun i => decide (at_ K_Si l i = at_ K_Si m i)) l.length 0 = true := allB_iff.2 (fun j _ _ => by simp [he])
        simp only [this, if_true, Option.bind_some]
        simp only [he, decide_true]
      · have : allB (fun i => decide (at_ K_Si l i = at_ K_Si m i)) l.length 0 = false := by
          apply Bool.eq_false_iff.2
          intro ha
          apply he
          rw [allB_iff] at ha
          apply List.ext_getElem hm
          intro i h1 h2
          have := of_decide_eq_true (ha i (by omega) (by omega))
          rw [at_get (e := K_Si) h1, at_get (e := K_Si) h2] at this
          exact this
        simp only [this, he, Bool.false_eq_true, if_false, Option.bind_some, decide_false]
    · have hne : ((List.length l : Int) != (List.length m : Int)) = true := by simp; omega
      have he : ¬ l = m := fun e => hm (by rw [e])
      simp [hne, he]
  · cases h
theorem index84_lim (d) (r) (h : G_index84 d = some r) : ∃ N, F_slices_IndexFunc_SSint_Sint_by_impl_IsTimetable_1 N d = some r := by
  obtain ⟨l, ⟨u, t, v⟩, w⟩ := d
  unfold G_index84 at h
  split at h
  · rename_i hll
    obtain ⟨hl1, ha⟩ := okLL_of hll
    have hl : l.length ≤ lim := okL_lim hl1
    have hmx := lim_max hl
    have h := Option.some.inj h
    subst h
    refine ⟨l.length + 1, ?_⟩
    unfold F_slices_IndexFunc_SSint_Sint_by_impl_IsTimetable_1
    have := loop_idx (L := slices_IndexFunc_SSint_Sint_by_impl_IsTimetable_1_l0 (l.length + 1)) (r := slices_IndexFunc_SSint_Sint_by_impl_IsTimetable_1_l0_r (l.length + 1)) (fun _ _ => rfl) (e := K_Si) l (mk := fun i => (l, (u, t, v), (l.length : Int), (i : Int), ())) (q := badT t) (o := fun i => .inl ((i : Int), ())) (f := .inr (.inl ()))
      (by
        intro back i hi
        have hx : okL (at_ K_Si l i) = true := all_at_of (e := K_Si) ha hi
        unfold slices_IndexFunc_SSint_Sint_by_impl_IsTimetable_1_l0_r FV_impl_IsTimetable_1 F_impl_IsTimetable_1
        simp only [lt_dec hi, if_true, idxIn_nat hi, Int.toNat_natCast, wrap_up hi hmx, G_increasing, G_allWithin, hx, Option.bind_some, badT]
        rcases Bool.eq_false_or_eq_true (risingB (at_ K_Si l i)) with hr | hr <;> rcases Bool.eq_false_or_eq_true (List.all (at_ K_Si l i) (inB 0 (IntKind.wrap .i64 (t.2.1 - 1)))) with hq | hq <;> simp [hr, hq])
      (by intro back; unfold slices_IndexFunc_SSint_Sint_by_impl_IsTimetable_1_l0_r; simp only [lt_not, Bool.false_eq_true, if_false]) l.length 0 (by omega) (by omega)
    simp only [Int.natCast_zero, List.drop_zero] at this
    simp only [this, Option.bind_some]
    cases idxN (badT t) l 0 <;> rfl
  · cases h
theorem contains84 (l : List (List Int)) (u : Unit) (t : Tt) (v w : Unit) (h : okLL l = true) : F_slices_ContainsFunc_SSint_Sint_by_impl_IsTimetable_1 0 (l, (u, t, v), w) = some (l.any (badT t), ()) := by
  unfold F_slices_ContainsFunc_SSint_Sint_by_impl_IsTimetable_1
  have e : F_slices_IndexFunc_SSint_Sint_by_impl_IsTimetable_1 = F_slices_IndexFunc_SSint_Sint_by_impl_IsTimetable_1 := rfl
  simp only [G_index84, h, if_true, Option.bind_some, idxI_ge]
theorem l4Field_eq (g : Gr) (u : Unit) (h : okL g.2.1 = true) : F_spec_l4Field 0 (g, 1, u) = some (graphB g && decide (g.1 > 0), ()) := by
  unfold F_spec_l4Field G_graph
  simp only [h, if_true, Option.bind_some, l1In_eq]
  cases graphB g with
  | false => rfl
  | true =>
    by_cases c : g.1 > 0
    · simp only [c, decide_true, if_true]
      rfl
    · simp only [c, decide_false, if_true, if_false, Bool.false_eq_true, Bool.and_false]
theorem l11Good_lim (d) (r) (h : G_l11Good d = some r) : ∃ N, F_spec_l11Good N d = some r := by
  obtain ⟨⟨g, p, l, u⟩, w⟩ := d
  unfold G_l11Good at h
  split at h
  · rename_i hc
    simp only [okT, Bool.and_eq_true] at hc
    obtain ⟨hg, hll⟩ := hc
    obtain ⟨hl1, ha⟩ := okLL_of hll
    have hl : l.length ≤ lim := okL_lim hl1
    have hmx := lim_max hl
    have h := Option.some.inj h
    subst h
    refine ⟨l.length + 1, ?_⟩
    unfold F_spec_l11Good
    have := loop_all (L := spec_l11Good_l0 (l.length + 1)) (r := spec_l11Good_l0_r (l.length + 1)) (fun _ _ => rfl) (n := l.length) (mk := fun i => ((g, p, l, u), (i : Int), ())) (p := fun i => !badT (g, p, l, u) (at_ K_Si l i)) (o := .inl (false, ())) (f := .inr (.inl ((g, p, l, u), ())))
      (by
        intro back i hi
        have hx : okL (at_ K_Si l i) = true := all_at_of (e := K_Si) ha hi
        unfold spec_l11Good_l0_r
        simp only [lt_dec hi, if_true, idxIn_nat hi, Int.toNat_natCast, wrap_up hi hmx, G_l1Rising, hx, Option.bind_some, badT]
        rcases Bool.eq_false_or_eq_true (risingB (at_ K_Si l i)) with hr | hr <;> rcases Bool.eq_false_or_eq_true (List.all (at_ K_Si l i) (inB 0 (IntKind.wrap .i64 (p - 1)))) with hq | hq <;> simp [hr, hq])
      (by intro back; unfold spec_l11Good_l0_r; simp only [lt_not, Bool.false_eq_true, if_false]) l.length 0 (by omega) (by omega)
    simp only [Int.natCast_zero] at this
    have e : allB (fun i => !badT (g, p, l, u) (at_ K_Si l i)) l.length 0 = !l.any (badT (g, p, l, u)) := by
      rw [all_at (e := K_Si) l (fun x => !badT (g, p, l, u) x)]
      simp only [List.all_eq_not_any_not, Bool.not_not]
    simp only [this, Nat.sub_zero, e, timeB]
    cases l.any (badT (g, p, l, u)) with
    | true => simp
    | false =>
      simp only [Bool.not_false, if_true, Option.bind_some, l4Field_eq g _ hg, l1In_eq, Bool.and_true]
      cases (graphB g && decide (g.1 > 0)) with
      | false => rfl
      | true =>
        cases inB 1 4 p with
        | false => rfl
        | true =>
          simp only [if_true, Bool.true_and, Option.some.injEq, Prod.mk.injEq, and_true]
          by_cases hc : l.length = g.2.1.length
          · simp [hc]
          · have : ¬ (l.length : Int) = (g.2.1.length : Int) := by omega
            simp [hc, this]
  · cases h
theorem implT (t : Tt) (w : Unit) (h : okT t = true) : F_impl_IsTimetable 0 (t, w) = some (timeB t, ()) := by
  obtain ⟨⟨n, es, v⟩, p, l, u⟩ := t
  simp only [okT, Bool.and_eq_true] at h
  unfold F_impl_IsTimetable G_graph
  simp only [h.1, if_true, Option.bind_some, within_eq, timeB]
  cases hg : graphB (n, es, v) with
  | false => rfl
  | true =>
    have := graphB_n hg
    by_cases c : n = 0
    · have c' : ¬ n > 0 := by omega
      have c2 : (n == (0 : Int)) = true := by simp [c]
      simp only [c2, c', Bool.not_true, Bool.false_eq_true, if_false, if_true, decide_false, Bool.and_false, Bool.false_and]
    · have c' : n > 0 := by omega
      have c2 : (n == (0 : Int)) = false := by simp [c]
      simp only [c2, c', Bool.not_true, Bool.false_eq_true, if_false, decide_true, Bool.true_and]
      cases inB 1 4 p with
      | false => rfl
      | true =>
        simp only [Bool.not_true, Bool.false_eq_true, if_false, Bool.true_and]
        by_cases hc : l.length = es.length
        · have : ((l.length : Int) != (es.length : Int)) = false := by simp [hc]
          simp only [this, Bool.false_eq_true, if_false, contains84 l () ((n, es, v), p, l, u) () () h.2, Option.bind_some, hc, decide_true, Bool.true_and, bne_self_eq_false]
        · have : ((l.length : Int) != (es.length : Int)) = true := by simp; omega
          simp only [this, if_true, hc, decide_false, Bool.false_and]
theorem toTimetable_eq (n : Int) (es : List E) (v : Unit) (p : Int) (l : List (List Int)) (u w : Unit) (hg : okL es = true) (hl : okLL l = true) : F_laws_toTimetable 0 (((n, es, v), p, l, u), w) = some (((n, es, v), p, l, ()), ()) := by
  unfold F_laws_toTimetable G_toIntSS
  simp only [toGraph_eq n es v _ hg, hl, if_true, Option.bind_some]
theorem eqTimetable_self (n : Int) (es : List E) (v : Unit) (p : Int) (l : List (List Int)) (u w : Unit) (hg : okL es = true) (hl : okLL l = true) : F_laws_eqTimetable 0 (((n, es, v), p, l, u), ((n, es, v), p, l, u), w) = some (true, ()) := by
  unfold F_laws_eqTimetable G_eqIntSS
  simp only [eqGraph_self n es v v _ hg, hl, bne_self_eq_false, Bool.false_eq_true, if_false, if_true, decide_true, Option.bind_some, Bool.not_true]
theorem szTimetable_neg (n : Int) (es : List E) (v : Unit) (p : Int) (l : List (List Int)) (u w : Unit) (he : es.length ≤ maxLen) (hl : l.length ≤ maxLen) (ha : ∀ x ∈ l, x.length ≤ maxLen) :
    ∃ r, F_laws_szTimetable 0 (((n, es, v), p, l, u), (1048576 : Int), w) = some (r, ()) ∧ (r < 0 ∨ (es.length ≤ 1048576 ∧ l.length ≤ 1048576 ∧ l.all (fun x => decide (x.length ≤ 1048576)) = true)) := by
  unfold F_laws_szTimetable
  simp only [szGraph_eq n es v 1048576 () (by omega) (by omega) he]
  by_cases h : szStep 1048576 es.length < 0
  · exact ⟨-1, by simp only [h, decide_true, if_true], .inl (by decide)⟩
  · have h1 := szStep_le h
    have o1 : okMx l.length = true := decide_eq_true hl
    have o2 : l.all (fun x => okMx x.length) = true := List.all_eq_true.2 fun x hx => decide_eq_true (ha x hx)
    have o3 : decide (0 ≤ szStep 1048576 es.length) = true := by simp; omega
    have o4 : decide (szStep 1048576 es.length ≤ 1048576) = true := by simp; omega
    simp only [h, decide_false, if_false, Bool.false_eq_true, G_szIntSS, o1, o2, o3, o4, Bool.and_self, if_true, Option.bind_some]
    by_cases h2 : szStep (szStep 1048576 es.length) l.length < 0
    · exact ⟨-1, by simp only [h2, if_true]; rfl, .inl (by decide)⟩
    · have h3 := szStep_le h2
      simp only [h2, if_false]
      by_cases h4 : szFold (szStep (szStep 1048576 es.length) l.length) l < 0
      · exact ⟨-1, by simp only [h4, decide_true, if_true], .inl (by decide)⟩
      · exact ⟨szFold (szStep (szStep 1048576 es.length) l.length) l, by simp only [h4, decide_false, if_false, Bool.false_eq_true], .inr ⟨by omega, by omega, szFold_le l _ (by omega) (by omega) h4⟩⟩
theorem okLL_small {l : List (List Int)} (h1 : l.length ≤ 1048576) (h2 : l.all (fun x => decide (x.length ≤ 1048576)) = true) : okLL l = true := by
  unfold okLL
  rw [Bool.and_eq_true]
  exact ⟨okL_of h1, List.all_eq_true.2 fun x hx => okL_of (of_decide_eq_true (List.all_eq_true.1 h2 x hx))⟩
end Go.V.W
set_option linter.unusedVariables false
set_option linter.unusedSimpArgs false
namespace Go.V.W
open Go.Proofs
theorem sumL_nonneg : ∀ l, 0 ≤ sumL l := by
  intro l
  induction l with
  | nil => simp [sumL]
  | cons x l ih => simp only [sumL]; omega
theorem markIntSS_l0 (N : Nat) : ∀ (rest pre : List (List Int)) (k : Int) (n : Nat), pre.length + rest.length ≤ lim → rest.all okL = true → rest.length ≤ n → 0 ≤ k → k + sumL rest ≤ 4398046511104 →
    laws_markIntSS_l0 N (n + 1) (pre ++ rest, k, (pre.length : Int), ()) = some (.inl (pre ++ markLL k rest, k + sumL rest, ())) := by
  intro rest
  induction rest with
  | nil =>
    intro pre k n h1 h2 h3 h4 h5
    simp [laws_markIntSS_l0, laws_markIntSS_l0_r, markLL, sumL]
  | cons x rest ih =>
    intro pre k n h1 h2 h3 h4 h5
    simp only [List.length_cons, sumL, List.all_cons, Bool.and_eq_true] at h1 h2 h3 h5
    have hs := sumL_nonneg rest
    have hlt := mid_lt pre x rest
    have hmx : (pre ++ x :: rest).length ≤ maxLen := by
      have := lim_max h1
      simpa using this
    obtain ⟨n, rfl⟩ : ∃ m, n = m + 1 := ⟨n - 1, by omega⟩
    show laws_markIntSS_l0_r N (laws_markIntSS_l0 N (n + 1)) (pre ++ x :: rest, k, (pre.length : Int), ()) = _
    unfold laws_markIntSS_l0_r
    have hk : okK k = true := okK_small h4 (by omega)
    simp only [lt_dec hlt, if_true, idxIn_nat hlt, Int.toNat_natCast, wrap_up hlt hmx, at_mid (e := K_Si), G_markIntS, h2.1, hk, Bool.and_self, Option.bind_some, set_mid]
    have := ih (pre ++ [markL k x]) (k + x.length) n (by simp; omega) h2.2 (by omega) (by omega) (by omega)
    rw [show (pre ++ [markL k x]).length = pre.length + 1 by simp] at this
    rw [this]
    simp [markLL, sumL]
    omega
theorem markIntSS_lim (d) (r) (h : G_markIntSS d = some r) : ∃ N, F_laws_markIntSS N d = some r := by
  obtain ⟨l, k, _⟩ := d
  unfold G_markIntSS at h
  split at h
  · rename_i hc
    simp only [Bool.and_eq_true] at hc
    obtain ⟨⟨hll, hk⟩, hk2⟩ := hc
    obtain ⟨h1, h2⟩ := okLL_of hll
    have h := Option.some.inj h
    subst h
    refine ⟨l.length + 1, ?_⟩
    unfold F_laws_markIntSS
    have := markIntSS_l0 (l.length + 1) l [] k l.length (by simpa using okL_lim h1) h2 (Nat.le_refl _) (okK_of hk).1 (okK_of hk2).2
    simp only [List.nil_append, List.length_nil, Int.natCast_zero] at this
    simp only [this, Option.bind_some]
  · cases h
theorem heldL_cases : ∀ (l : List Int) (k : Int), heldL k l = k + l.length ∨ heldL k l = -1 := by
  intro l
  induction l with
  | nil => intro k; left; simp [heldL]
  | cons x l ih =>
    intro k
    simp only [heldL]
    by_cases h : x = k
    · simp only [h, if_true, List.length_cons]
      rcases ih (k + 1) with h | h
      · left; omega
      · right; exact h
    · simp [h]
theorem heldIntSS_l0 (N : Nat) : ∀ (rest pre : List (List Int)) (k : Int) (n : Nat), pre.length + rest.length ≤ lim → rest.all okL = true → rest.length ≤ n → 0 ≤ k → k + sumL rest ≤ 4398046511104 →
    laws_heldIntSS_l0 N (n + 1) (pre ++ rest, k, (pre.length : Int), ()) = some (.inl (heldLL k rest, ())) ∨ laws_heldIntSS_l0 N (n + 1) (pre ++ rest, k, (pre.length : Int), ()) = some (.inr (.inl (heldLL k rest, ()))) := by
  intro rest
  induction rest with
  | nil =>
    intro pre k n h1 h2 h3 h4 h5
    right
    simp [laws_heldIntSS_l0, laws_heldIntSS_l0_r, heldLL]
  | cons x rest ih =>
    intro pre k n h1 h2 h3 h4 h5
    simp only [List.length_cons, sumL, List.all_cons, Bool.and_eq_true] at h1 h2 h3 h5
    have hs := sumL_nonneg rest
    have hlt := mid_lt pre x rest
    have hmx : (pre ++ x :: rest).length ≤ maxLen := by
      have := lim_max h1
      simpa using this
    obtain ⟨n, rfl⟩ : ∃ m, n = m + 1 := ⟨n - 1, by omega⟩
    have hk : okK k = true := okK_small h4 (by omega)
    have hstep : laws_heldIntSS_l0 N (n + 1 + 1) (pre ++ x :: rest, k, (pre.length : Int), ()) = if heldL k x < 0 then some (.inl (-1, ())) else laws_heldIntSS_l0 N (n + 1) (pre ++ x :: rest, heldL k x, ((pre.length + 1 : Nat) : Int), ()) := by
      show laws_heldIntSS_l0_r N (laws_heldIntSS_l0 N (n + 1)) (pre ++ x :: rest, k, (pre.length : Int), ()) = _
      unfold laws_heldIntSS_l0_r
      simp only [lt_dec hlt, if_true, idxIn_nat hlt, Int.toNat_natCast, wrap_up hlt hmx, at_mid (e := K_Si), G_heldIntS, h2.1, hk, Bool.and_self, Option.bind_some]
      by_cases c : heldL k x < 0
      · simp only [c, decide_true, if_true]
      · simp only [c, decide_false, if_false, Bool.false_eq_true]
    rw [hstep]
    simp only [heldLL]
    by_cases c : heldL k x < 0
    · left; simp only [c, if_true]
    · simp only [c, if_false]
      rcases heldL_cases x k with e | e
      · have := ih (pre ++ [x]) (heldL k x) n (by simp; omega) h2.2 (by omega) (by omega) (by omega)
        rw [show (pre ++ [x]).length = pre.length + 1 by simp, List.append_assoc] at this
        exact this
      · rw [e] at c; exact absurd (by decide) c
theorem heldIntSS_lim (d) (r) (h : G_heldIntSS d = some r) : ∃ N, F_laws_heldIntSS N d = some r := by
  obtain ⟨l, k, _⟩ := d
  unfold G_heldIntSS at h
  split at h
  · rename_i hc
    simp only [Bool.and_eq_true] at hc
    obtain ⟨⟨hll, hk⟩, hk2⟩ := hc
    obtain ⟨h1, h2⟩ := okLL_of hll
    have h := Option.some.inj h
    subst h
    refine ⟨l.length + 1, ?_⟩
    unfold F_laws_heldIntSS
    have := heldIntSS_l0 (l.length + 1) l [] k l.length (by simpa using okL_lim h1) h2 (Nat.le_refl _) (okK_of hk).1 (okK_of hk2).2
    simp only [List.nil_append, List.length_nil, Int.natCast_zero] at this
    rcases this with this | this <;> simp only [this, Option.bind_some]
  · cases h
theorem markLL_sum : ∀ (l : List (List Int)) (k : Int), sumL (markLL k l) = sumL l := by
  intro l
  induction l with
  | nil => intro k; rfl
  | cons x l ih => intro k; simp only [markLL, sumL, markL_len, ih]
theorem markLL_ok : ∀ (l : List (List Int)) (k : Int), okLL l = true → okLL (markLL k l) = true := by
  have hlen : ∀ (l : List (List Int)) (k : Int), (markLL k l).length = l.length := by
    intro l
    induction l with
    | nil => intro k; rfl
    | cons x l ih => intro k; simp [markLL, ih]
  have hall : ∀ (l : List (List Int)) (k : Int), l.all okL = true → (markLL k l).all okL = true := by
    intro l
    induction l with
    | nil => intro k _; rfl
    | cons x l ih =>
      intro k h
      simp only [List.all_cons, Bool.and_eq_true] at h
      simp only [markLL, List.all_cons, Bool.and_eq_true]
      exact ⟨markL_ok h.1, ih _ h.2⟩
  intro l k h
  obtain ⟨h1, h2⟩ := okLL_of h
  unfold okLL
  rw [Bool.and_eq_true]
  refine ⟨?_, hall l k h2⟩
  unfold okL at h1 ⊢
  rwa [hlen]
theorem held_markLL : ∀ (l : List (List Int)) (k : Int), 0 ≤ k → heldLL k (markLL k l) = k + sumL l := by
  intro l
  induction l with
  | nil => intro k _; simp [markLL, heldLL, sumL]
  | cons x l ih =>
    intro k hk
    have : ¬ k + (x.length : Int) < 0 := by omega
    simp only [markLL, heldLL, held_markL, sumL, this, if_false, ih _ (show 0 ≤ k + (x.length : Int) by omega)]
    omega
theorem markTimetable_eq (n : Int) (es : List E) (v : Unit) (p : Int) (l : List (List Int)) (u w : Unit) (k : Int) (he : okL es = true) (hl : okLL l = true) (hk : okK k = true) (hk2 : okK (k + 2 * (es.length : Int)) = true) (hk3 : okK (k + 2 * (es.length : Int) + sumL l) = true) :
    F_laws_markTimetable 0 (((n, es, v), p, l, u), k, w) = some (k + 2 * (es.length : Int) + sumL l, ((n, markA k es, v), p, markLL (k + 2 * (es.length : Int)) l, u), ()) := by
  unfold F_laws_markTimetable G_markIntSS
  simp only [markGraph_eq n es v _ k he hk, hl, hk2, hk3, Bool.and_self, if_true, Option.bind_some]
end Go.V.W
set_option linter.unusedVariables false
set_option linter.unusedSimpArgs false
namespace Go.V.W
open Go.Proofs
theorem edge_nat {n : Nat} {e : E} (h : edgeB (n : Int) e = true) : ∃ a b : Nat, a < b ∧ b < n ∧ e = ((a : Int), (b : Int), ()) := by
  obtain ⟨h1, h2, h3, h4⟩ := edgeB_nat h
  exact ⟨_, _, h1, h2, by rw [← h3, ← h4]⟩
theorem toI_zero (n : Nat) : List.replicate n (0 : Int) = toI (List.replicate n 0) := by simp [toI]
theorem nonneg_dec (y : Nat) : decide (0 ≤ (y : Int)) = true := by simp
theorem netOf_l0 (N : Nat) (n : Nat) (hn : n ≤ 8) (z : Nt) (u : Unit) (es : List E) (hl : es.length ≤ lim) (he : es.all (edgeB (n : Int)) = true) : ∀ k j (ms : List Nat), okN n ms → es.length ≤ j + k → j ≤ es.length →
    impl_netOf_l0 N (k + 1) (z, (toI ms, u), es, (es.length : Int), (j : Int), ()) = some (.inl (z, (toI ((es.drop j).foldl addN ms), u), ())) := by
  intro k
  induction k with
  | zero =>
    intro j ms hm h1 h2
    have e : j = es.length := by omega
    subst e
    rw [List.drop_of_length_le (Nat.le_refl _)]
    simp [impl_netOf_l0, impl_netOf_l0_r]
  | succ k ih =>
    intro j ms hm h1 h2
    by_cases hj : j < es.length
    · have hee : edgeB (n : Int) (at_ K_Piiq es j) = true := all_at_of (e := K_Piiq) he hj
      have hat : at_ K_Piiq es j = es[j] := at_get (e := K_Piiq) hj
      obtain ⟨a, b, hab, hb, hx⟩ := edge_nat hee
      have k1 := addN_ok hn hm hee
      have ha8 : a < 8 := by omega
      have hb8 : b < 8 := by omega
      have o1 := orN_ok hm (show a < n by omega) hb8
      show impl_netOf_l0_r N (impl_netOf_l0 N (k + 1)) (z, (toI ms, u), es, (es.length : Int), (j : Int), ()) = _
      unfold impl_netOf_l0_r
      have i1 : idxIn (a : Int) ms.length = true := idxIn_nat (by rw [hm.1]; omega)
      have i2 : idxIn (b : Int) ms.length = true := idxIn_nat (by rw [hm.1]; omega)
      have p1 := pow_small hb8
      have p2 := pow_small ha8
      simp only [lt_dec hj, if_true, idxIn_nat hj, Int.toNat_natCast, wrap_up hj (lim_max hl), hx, toI_len, i1, i2, nonneg_dec, shl_one hb8, shl_one ha8, at_toI, bits_or (hm.2 a) p1, toI_set, List.length_set]
      have hb2 : (ms.set a (ms.getD a 0 ||| 2 ^ b)).getD b 0 < 256 := o1.2 b
      simp only [bits_or hb2 p2, toI_set]
      rw [List.drop_eq_getElem_cons hj, List.foldl_cons, ← hat, hx]
      have hadd : addN ms ((a : Int), (b : Int), ()) = (ms.set a (ms.getD a 0 ||| 2 ^ b)).set b ((ms.set a (ms.getD a 0 ||| 2 ^ b)).getD b 0 ||| 2 ^ a) := by
        simp only [addN, orN, Int.toNat_natCast]
      rw [hx] at k1
      rw [hadd] at k1 ⊢
      exact ih (j + 1) _ k1 (by omega) (by omega)
    · have e : j = es.length := by omega
      subst e
      rw [List.drop_of_length_le (Nat.le_refl _)]
      simp [impl_netOf_l0, impl_netOf_l0_r]
theorem netOf_lim (d) (r) (h : G_netOf d = some r) : ∃ N, F_impl_netOf N d = some r := by
  obtain ⟨⟨n, es, u⟩, w⟩ := d
  unfold G_netOf at h
  split at h
  · rename_i hc
    simp only [Bool.and_eq_true, decide_eq_true_eq] at hc
    obtain ⟨⟨⟨h0, h8⟩, hl⟩, he⟩ := hc
    have h := Option.some.inj h
    subst h
    obtain ⟨m, rfl⟩ : ∃ m : Nat, n = (m : Int) := ⟨n.toNat, by omega⟩
    have hm8 : m ≤ 8 := by omega
    refine ⟨es.length + 1, ?_⟩
    unfold F_impl_netOf
    have hc : (decide (0 ≤ (m : Int)) && decide ((m : Int) ≤ (m : Int)) && decide ((m : Int) ≤ (lim : Int))) = true := by
      have a1 : (m : Int) ≤ (lim : Int) := by unfold lim; omega
      simp only [a1, nonneg_dec, decide_true, Bool.and_self, Int.le_refl]
    have := netOf_l0 (es.length + 1) m hm8 (([] : List Int), ()) () es (okL_lim hl) he es.length 0 _ (okN_zero m) (by omega) (by omega)
    simp only [Int.natCast_zero, List.drop_zero] at this
    simp only [hc, if_true, Int.toNat_natCast, toI_zero, this, Option.bind_some]
    rfl
  · cases h
theorem l1Has_lim (d) (r) (h : G_l1Has d = some r) : ∃ N, F_spec_l1Has N d = some r := by
  obtain ⟨l, x, _⟩ := d
  unfold G_l1Has at h
  split at h
  · rename_i hl
    have hl : l.length ≤ lim := okL_lim hl
    have h := Option.some.inj h
    subst h
    refine ⟨l.length + 1, ?_⟩
    unfold F_spec_l1Has
    have := loop_idx (L := spec_l1Has_l0 (l.length + 1)) (r := spec_l1Has_l0_r (l.length + 1)) (fun _ _ => rfl) (e := I) l (mk := fun i => (l, x, (i : Int), ())) (q := fun y => y == x) (o := fun _ => .inl (true, ())) (f := .inr (.inl ()))
      (by
        intro back i hi
        unfold spec_l1Has_l0_r
        simp only [lt_dec hi, if_true, idxIn_nat hi, Int.toNat_natCast, wrap_up hi (lim_max hl)])
      (by intro back; unfold spec_l1Has_l0_r; simp only [lt_not, Bool.false_eq_true, if_false]) l.length 0 (by omega) (by omega)
    simp only [Int.natCast_zero, List.drop_zero] at this
    have hge := idxI_ge (fun y => y == x) l 0
    simp only [this, Option.bind_some, ← hge]
    cases idxN (fun y => y == x) l 0 with
    | none => rfl
    | some j => simp [idxI]
  · cases h
theorem index_lim (d) (r) (h : G_index d = some r) : ∃ N, F_slices_Index_Sint_int N d = some r := by
  obtain ⟨l, x, _⟩ := d
  unfold G_index at h
  split at h
  · rename_i hl
    have hl : l.length ≤ lim := okL_lim hl
    have h := Option.some.inj h
    subst h
    refine ⟨l.length + 1, ?_⟩
    unfold F_slices_Index_Sint_int
    have := loop_idx (L := slices_Index_Sint_int_l0 (l.length + 1)) (r := slices_Index_Sint_int_l0_r (l.length + 1)) (fun _ _ => rfl) (e := I) l (mk := fun i => (l, x, (l.length : Int), (i : Int), ())) (q := fun y => x == y) (o := fun i => .inl ((i : Int), ())) (f := .inr (.inl ()))
      (by
        intro back i hi
        unfold slices_Index_Sint_int_l0_r
        simp only [lt_dec hi, if_true, idxIn_nat hi, Int.toNat_natCast, wrap_up hi (lim_max hl)])
      (by intro back; unfold slices_Index_Sint_int_l0_r; simp only [lt_not, Bool.false_eq_true, if_false]) l.length 0 (by omega) (by omega)
    simp only [Int.natCast_zero, List.drop_zero] at this
    simp only [this, Option.bind_some]
    cases idxN (fun y => x == y) l 0 <;> rfl
  · cases h
theorem contains_eq (l : List Int) (x : Int) (u : Unit) (h : okL l = true) : F_slices_Contains_Sint_int 0 (l, x, u) = some (l.any (fun y => y == x), ()) := by
  unfold F_slices_Contains_Sint_int G_index
  simp only [h, if_true, Option.bind_some, idxI_ge]
  congr 3
  funext y
  exact bool_eq_iff (by rw [beq_iff_eq, beq_iff_eq]; exact eq_comm)
theorem timeB_parts {t : Tt} (h : timeB t = true) : graphB t.1 = true ∧ 0 < t.1.1 ∧ inB 1 4 t.2.1 = true ∧ t.2.2.1.length = t.1.2.1.length := by
  unfold timeB at h
  simp only [Bool.and_eq_true, decide_eq_true_eq] at h
  exact ⟨h.1.1.1.1, h.1.1.1.2, h.1.1.2, h.1.2⟩
theorem okT_parts {t : Tt} (h : okT t = true) : okL t.1.2.1 = true ∧ okL t.2.2.1 = true ∧ t.2.2.1.all okL = true := by
  unfold okT at h
  simp only [Bool.and_eq_true] at h
  exact ⟨h.1, okLL_of h.2⟩
theorem inB_iff {lo hi x : Int} : inB lo hi x = true ↔ lo ≤ x ∧ x ≤ hi := by simp [inB]
theorem sel_step {es : List E} {ts : List (List Int)} {r : Int} {i : Nat} (h1 : i < es.length) (h2 : i < ts.length) : selE (es.drop i) (ts.drop i) r = if (at_ K_Si ts i).any (fun y => y == r) = true then at_ K_Piiq es i :: selE (es.drop (i + 1)) (ts.drop (i + 1)) r else selE (es.drop (i + 1)) (ts.drop (i + 1)) r := by
  rw [List.drop_eq_getElem_cons h1, List.drop_eq_getElem_cons h2]
  simp only [selE]
  have e1 : at_ K_Si ts i = ts[i] := at_get (e := K_Si) h2
  have e2 : at_ K_Piiq es i = es[i] := at_get (e := K_Piiq) h1
  rw [e1, e2]
theorem l11Open_l0 (N : Nat) (t : Tt) (c : Int) (z : Gr) (n' : Int) (hL : t.1.2.1.length ≤ lim) (hT : t.2.2.1.length = t.1.2.1.length) (hA : t.2.2.1.all okL = true) (hp : t.2.1 ≠ 0) : ∀ k i (A : List E), A.length ≤ i → t.1.2.1.length ≤ i + k → i ≤ t.1.2.1.length →
    spec_l11Open_l0 N (k + 1) (c, t, z, (n', A, ()), (i : Int), ()) = some (.inl (z, (n', A ++ selE (t.1.2.1.drop i) (t.2.2.1.drop i) (c.tmod t.2.1), ()), ())) := by
  intro k
  induction k with
  | zero =>
    intro i A hA' h1 h2
    have e : i = t.1.2.1.length := by omega
    subst e
    rw [List.drop_of_length_le (Nat.le_refl _)]
    simp [spec_l11Open_l0, spec_l11Open_l0_r, selE]
  | succ k ih =>
    intro i A hA' h1 h2
    by_cases hi : i < t.1.2.1.length
    · have hi2 : i < t.2.2.1.length := by omega
      have hx : okL (at_ K_Si t.2.2.1 i) = true := all_at_of (e := K_Si) hA hi2
      have hp' : (t.2.1 != 0) = true := by simpa using hp
      show spec_l11Open_l0_r N (spec_l11Open_l0 N (k + 1)) (c, t, z, (n', A, ()), (i : Int), ()) = _
      unfold spec_l11Open_l0_r
      have hle : decide (A.length + List.length [at_ K_Piiq t.1.2.1 i] ≤ lim) = true := by simp; omega
      simp only [lt_dec hi, if_true, idxIn_nat hi, idxIn_nat hi2, Int.toNat_natCast, wrap_up hi (lim_max hL), hp', G_l1Has, hx, Option.bind_some, hle]
      rw [sel_step hi hi2]
      by_cases hh : (at_ K_Si t.2.2.1 i).any (fun y => y == c.tmod t.2.1) = true
      · rw [if_pos hh, if_pos hh, ih (i + 1) _ (by simp; omega) (by omega) (by omega)]
        simp
      · rw [if_neg hh, if_neg hh]
        exact ih (i + 1) A (by omega) (by omega) (by omega)
    · have e : i = t.1.2.1.length := by omega
      subst e
      rw [List.drop_of_length_le (Nat.le_refl _)]
      simp [spec_l11Open_l0, spec_l11Open_l0_r, selE]
theorem l11Open_lim (d) (r) (h : G_l11Open d = some r) : ∃ N, F_spec_l11Open N d = some r := by
  obtain ⟨t, c, _⟩ := d
  unfold G_l11Open at h
  split at h
  · rename_i hc
    simp only [Bool.and_eq_true, decide_eq_true_eq] at hc
    obtain ⟨⟨⟨h1, h2⟩, h3⟩, _⟩ := hc
    obtain ⟨g1, g2, g3, g4⟩ := timeB_parts h1
    obtain ⟨o1, o2, o3⟩ := okT_parts h2
    have g3 := inB_iff.1 g3
    have h := Option.some.inj h
    subst h
    refine ⟨t.1.2.1.length + 1, ?_⟩
    unfold F_spec_l11Open
    have := l11Open_l0 (t.1.2.1.length + 1) t c (0, [], ()) t.1.1 (okL_lim o1) g4 o3 (by omega) t.1.2.1.length 0 [] (by simp) (by omega) (by omega)
    simp only [Int.natCast_zero, List.drop_zero, List.nil_append] at this
    simp only [this, Option.bind_some]
    rfl
  · cases h
theorem at_midN (pre : List Nt) (x : Nt) (post : List Nt) : at_ K_PSiq (pre ++ x :: post) pre.length = x := by
  rw [at_get (e := K_PSiq) (by simp)]
  simp
theorem set_midN (pre : List Nt) (x y : Nt) (post : List Nt) : List.set (pre ++ x :: post) pre.length y = pre ++ y :: post := by simp
theorem openNets_l2 (N : Nat) (t : Tt) (n : Nat) (hn : n ≤ 8) (pre post : List Nt) (u : Unit) (s11 s12 : Int) (hl : t.1.2.1.length ≤ lim) (hT : t.2.2.1.length = t.1.2.1.length) (hA : t.2.2.1.all okL = true) (he : t.1.2.1.all (edgeB (n : Int)) = true) : ∀ k j (ms : List Nat), okN n ms → t.1.2.1.length ≤ j + k → j ≤ t.1.2.1.length →
    impl_openNets_l2 N (k + 1) (t, pre ++ (toI ms, u) :: post, (pre.length : Int), s11, s12, t.1.2.1, (t.1.2.1.length : Int), (j : Int), ()) =
      some (.inl (t, pre ++ (toI ((selE (t.1.2.1.drop j) (t.2.2.1.drop j) (pre.length : Int)).foldl addN ms), u) :: post, s11, s12, ())) := by
  intro k
  induction k with
  | zero =>
    intro j ms hm h1 h2
    have e : j = t.1.2.1.length := by omega
    subst e
    rw [List.drop_of_length_le (Nat.le_refl _)]
    simp [impl_openNets_l2, impl_openNets_l2_r, selE]
  | succ k ih =>
    intro j ms hm h1 h2
    by_cases hj : j < t.1.2.1.length
    · have hj2 : j < t.2.2.1.length := by omega
      have hx : okL (at_ K_Si t.2.2.1 j) = true := all_at_of (e := K_Si) hA hj2
      have hee : edgeB (n : Int) (at_ K_Piiq t.1.2.1 j) = true := all_at_of (e := K_Piiq) he hj
      obtain ⟨a, b, hab, hb, hxe⟩ := edge_nat hee
      have k1 := addN_ok hn hm hee
      have ha8 : a < 8 := by omega
      have hb8 : b < 8 := by omega
      have o1 := orN_ok hm (show a < n by omega) hb8
      rw [sel_step hj hj2]
      show impl_openNets_l2_r N (impl_openNets_l2 N (k + 1)) (t, pre ++ (toI ms, u) :: post, (pre.length : Int), s11, s12, t.1.2.1, (t.1.2.1.length : Int), (j : Int), ()) = _
      unfold impl_openNets_l2_r
      simp only [lt_dec hj, if_true, idxIn_nat hj, idxIn_nat hj2, Int.toNat_natCast, wrap_up hj (lim_max hl), contains_eq _ _ _ hx, Option.bind_some]
      by_cases hh : (at_ K_Si t.2.2.1 j).any (fun y => y == (pre.length : Int)) = true
      · rw [if_pos hh, if_pos hh]
        have i0 : ∀ x : Nt, idxIn (pre.length : Int) (pre ++ x :: post).length = true := fun x => idxIn_nat (by simp)
        have i1 : idxIn (a : Int) ms.length = true := idxIn_nat (by rw [hm.1]; omega)
        have i2 : idxIn (b : Int) ms.length = true := idxIn_nat (by rw [hm.1]; omega)
        have p1 := pow_small hb8
        have p2 := pow_small ha8
        simp only [hxe, i0, if_true, Int.toNat_natCast, at_midN, set_midN, toI_len, i1, i2, nonneg_dec, shl_one hb8, shl_one ha8, at_toI, bits_or (hm.2 a) p1, toI_set, List.length_set]
        have hb2 : (ms.set a (ms.getD a 0 ||| 2 ^ b)).getD b 0 < 256 := o1.2 b
        simp only [bits_or hb2 p2, toI_set]
        rw [List.foldl_cons]
        have hadd : addN ms ((a : Int), (b : Int), ()) = (ms.set a (ms.getD a 0 ||| 2 ^ b)).set b ((ms.set a (ms.getD a 0 ||| 2 ^ b)).getD b 0 ||| 2 ^ a) := by
          simp only [addN, orN, Int.toNat_natCast]
        rw [hxe] at k1
        rw [hadd] at k1 ⊢
        exact ih (j + 1) _ k1 (by omega) (by omega)
      · rw [if_neg hh, if_neg hh]
        exact ih (j + 1) ms hm (by omega) (by omega)
    · have e : j = t.1.2.1.length := by omega
      subst e
      rw [List.drop_of_length_le (Nat.le_refl _)]
      simp [impl_openNets_l2, impl_openNets_l2_r, selE]
theorem graphB_edges {n : Int} {l : List E} {u : Unit} (h : graphB (n, l, u) = true) : l.all (edgeB n) = true ∧ risingE l = true := by
  unfold graphB at h
  simp only [Bool.and_eq_true] at h
  exact ⟨h.1.2, h.2⟩
theorem openNets_l0 (M : Nat) (t : Tt) (n : Nat) (hn : n ≤ 8) (hN : t.1.1 = (n : Int)) (hl : t.1.2.1.length ≤ lim) (hT : t.2.2.1.length = t.1.2.1.length) (hA : t.2.2.1.all okL = true) (he : t.1.2.1.all (edgeB (n : Int)) = true) (p : Nat) (hp : p ≤ 4) : ∀ k (pre : List Nt) (f : Nat), pre.length + k = p → k < f →
    impl_openNets_l0 (t.1.2.1.length + 1 + M) f (t, pre ++ List.replicate k ([], ()), (p : Int), (pre.length : Int), ()) = some (.inl (pre ++ (List.range' pre.length k).map (fun r : Nat => ((toI (netN n (openE t (r : Int))), ()) : Nt)), ())) := by
  intro k
  induction k with
  | zero =>
    intro pre f h hf
    have e : p = pre.length := by omega
    subst e
    obtain ⟨f, rfl⟩ : ∃ m, f = m + 1 := ⟨f - 1, by omega⟩
    simp [impl_openNets_l0, impl_openNets_l0_r]
  | succ k ih =>
    intro pre f h hf
    have hlt : pre.length < p := by omega
    obtain ⟨f, rfl⟩ : ∃ m, f = m + 1 := ⟨f - 1, by omega⟩
    show impl_openNets_l0_r (t.1.2.1.length + 1 + M) (impl_openNets_l0 (t.1.2.1.length + 1 + M) f) (t, pre ++ List.replicate (k + 1) ([], ()), (p : Int), (pre.length : Int), ()) = _
    unfold impl_openNets_l0_r
    have hg : G_netOf ((t.1.1, ([] : List E), ()), ()) = some ((toI (List.replicate n 0), ()), ()) := by
      unfold G_netOf
      have : (decide (0 ≤ t.1.1) && decide (t.1.1 ≤ 8) && okL ([] : List E) && List.all ([] : List E) (edgeB t.1.1)) = true := by
        rw [okL_nil, hN]
        simp
        omega
      rw [if_pos this, hN]
      rfl
    have i0 : idxIn (pre.length : Int) (pre ++ ([], ()) :: List.replicate k (([], ()) : Nt)).length = true := idxIn_nat (by simp)
    have hw : IntKind.wrap .i64 ((pre.length : Int) + 1) = ((pre.length + 1 : Nat) : Int) := by
      rw [wrap_in _ (by omega) (by omega)]
      rfl
    have hin := openNets_l2 (t.1.2.1.length + 1 + M) t n hn pre (List.replicate k ([], ())) () (p : Int) (pre.length : Int) hl hT hA he (t.1.2.1.length + M) 0 _ (okN_zero n) (by omega) (by omega)
    have hf : t.1.2.1.length + M + 1 = t.1.2.1.length + 1 + M := by omega
    rw [hf] at hin
    simp only [Int.natCast_zero, List.drop_zero] at hin
    have hd : decide ((pre.length : Int) < (p : Int)) = true := by simp; omega
    simp only [List.replicate_succ, hd, if_true, hg, Option.bind_some, i0, Int.toNat_natCast, set_midN, hin, hw]
    have := ih (pre ++ [((toI (netN n (openE t (pre.length : Int))), ()) : Nt)]) f (by simp; omega) (by omega)
    simp only [List.length_append, List.length_singleton, List.append_assoc, List.singleton_append] at this
    rw [List.range'_succ, List.map_cons]
    exact this
theorem openNets_lim (d) (r) (h : G_openNets d = some r) : ∃ N, F_impl_openNets N d = some r := by
  obtain ⟨t, _⟩ := d
  unfold G_openNets at h
  split at h
  · rename_i hc
    simp only [Bool.and_eq_true] at hc
    obtain ⟨h1, h2⟩ := hc
    obtain ⟨g1, g2, g3, g4⟩ := timeB_parts h1
    obtain ⟨o1, o2, o3⟩ := okT_parts h2
    have g3 := inB_iff.1 g3
    have hn := graphB_n (n := t.1.1) (l := t.1.2.1) (u := t.1.2.2) g1
    have hE := (graphB_edges (n := t.1.1) (l := t.1.2.1) (u := t.1.2.2) g1).1
    have h := Option.some.inj h
    subst h
    have hN : t.1.1 = (t.1.1.toNat : Int) := by omega
    have hP : t.2.1 = (t.2.1.toNat : Int) := by omega
    refine ⟨t.1.2.1.length + 1 + (t.2.1.toNat + 1), ?_⟩
    unfold F_impl_openNets
    have hcc : (decide (0 ≤ t.2.1) && decide (t.2.1 ≤ t.2.1) && decide (t.2.1 ≤ (lim : Int))) = true := by
      have a1 : t.2.1 ≤ (lim : Int) := by unfold lim; omega
      have a2 : 0 ≤ t.2.1 := by omega
      simp only [a1, a2, decide_true, Bool.and_self, Int.le_refl]
    rw [hN] at hE
    have key := openNets_l0 (t.2.1.toNat + 1) t t.1.1.toNat (by omega) hN (okL_lim o1) g4 o3 hE t.2.1.toNat (by omega) t.2.1.toNat [] (t.1.2.1.length + 1 + (t.2.1.toNat + 1)) (by simp) (by omega)
    simp only [List.nil_append, List.length_nil, Int.natCast_zero] at key
    have hlen : (List.replicate t.2.1.toNat (([] : List Int), ())).length = t.2.1.toNat := by simp
    simp only [hcc, if_true, hlen, key, Option.bind_some, netsL, List.range_eq_range']
  · cases h
end Go.V.W
set_option linter.unusedVariables false
set_option linter.unusedSimpArgs false
namespace Go.V.W
open Go.Proofs
theorem smallN_nat {l : List Int} (h : smallN l = true) : l = toI (fromI l) ∧ okN l.length (fromI l) ∧ l.length ≤ 8 := by
  unfold smallN at h
  simp only [Bool.and_eq_true, decide_eq_true_eq, List.all_eq_true] at h
  refine ⟨?_, ⟨by simp [fromI], fun x => ?_⟩, h.1⟩
  · unfold toI fromI
    rw [List.map_map]
    have : ∀ m ∈ l, ((fun m : Nat => (m : Int)) ∘ Int.toNat) m = m := fun m hm => by
      have := h.2 m hm
      simp only [Function.comp]
      omega
    exact (List.map_congr_left this).trans (List.map_id' l) |>.symm
  · unfold fromI
    simp only [List.getD_eq_getElem?_getD, List.getElem?_map]
    cases hx : l[x]? with
    | none => simp
    | some m =>
      have := h.2 m (List.mem_of_getElem? hx)
      simp only [Option.map_some, Option.getD_some]
      omega
theorem openE_ok {t : Tt} {n : Nat} (h1 : t.1.2.1.all (edgeB (n : Int)) = true) (h2 : risingE t.1.2.1 = true) (r : Int) : (openE t r).all (edgeB (n : Int)) = true ∧ ((openE t r).Pairwise fun a b => lessE a b = true) := by
  have hs := selE_sub t.1.2.1 t.2.2.1 r
  refine ⟨List.all_eq_true.2 fun e he => List.all_eq_true.1 h1 e (hs.mem he), (rising_pair h2).sublist hs⟩
theorem sumL_le : ∀ (l : List (List Int)), l.all (fun x => decide (x.length ≤ 1048576)) = true → sumL l ≤ 1048576 * l.length := by
  intro l
  induction l with
  | nil => intro _; simp [sumL]
  | cons x l ih =>
    intro h
    simp only [List.all_cons, Bool.and_eq_true, decide_eq_true_eq] at h
    have := ih h.2
    simp only [sumL, List.length_cons]
    omega
theorem selE_len (es : List E) (ts : List (List Int)) (r : Int) : (selE es ts r).length ≤ es.length := (selE_sub es ts r).length_le
end Go.V.W
set_option linter.unusedVariables false
set_option linter.unusedSimpArgs false
namespace Go.V.W
theorem setF_congr {p q : Nat → Bool} : ∀ {k x : Nat}, (∀ y, x ≤ y → y < x + k → p y = q y) → setF p k x = setF q k x := by
  intro k
  induction k with
  | zero => intro x _; rfl
  | succ k ih =>
    intro x h
    simp only [setF, h x (Nat.le_refl _) (by omega), ih (x := x + 1) fun y h1 h2 => h y (by omega) (by omega)]
theorem setF_mem {p : Nat → Bool} : ∀ {k x : Nat} {z : Int}, z ∈ setF p k x ↔ ∃ y : Nat, x ≤ y ∧ y < x + k ∧ p y = true ∧ z = (y : Int) := by
  intro k
  induction k with
  | zero => intro x z; simp only [setF, List.not_mem_nil, false_iff]; rintro ⟨y, h1, h2, _⟩; omega
  | succ k ih =>
    intro x z
    unfold setF
    by_cases h : p x = true
    · rw [if_pos h, List.mem_cons, ih]
      constructor
      · rintro (rfl | ⟨y, h1, h2, h3, h4⟩)
        · exact ⟨x, Nat.le_refl _, by omega, h, rfl⟩
        · exact ⟨y, by omega, by omega, h3, h4⟩
      · rintro ⟨y, h1, h2, h3, h4⟩
        by_cases e : y = x
        · subst e; exact .inl h4
        · exact .inr ⟨y, by omega, by omega, h3, h4⟩
    · rw [if_neg h, ih]
      constructor
      · rintro ⟨y, h1, h2, h3, h4⟩
        exact ⟨y, by omega, by omega, h3, h4⟩
      · rintro ⟨y, h1, h2, h3, h4⟩
        by_cases e : y = x
        · subst e; exact absurd h3 h
        · exact ⟨y, by omega, by omega, h3, h4⟩
theorem setF_len {p : Nat → Bool} : ∀ {k x : Nat}, (setF p k x).length ≤ k := by
  intro k
  induction k with
  | zero => intro x; simp [setF]
  | succ k ih =>
    intro x
    unfold setF
    split
    · have := ih (x := x + 1); simp; omega
    · have := ih (x := x + 1); omega
theorem putL_low {p : Nat → Bool} {z : Nat} : ∀ {k y : Nat}, z < y → putL (z : Int) (setF p k y) = (z : Int) :: setF p k y := by
  intro k
  induction k with
  | zero => intro y _; rfl
  | succ k ih =>
    intro y h
    unfold setF
    split
    · have h1 : ¬ (y : Int) < (z : Int) := by omega
      have h2 : ¬ (y : Int) = (z : Int) := by omega
      simp only [putL, h1, h2, if_false]
    · exact ih (by omega)
theorem putL_set {p : Nat → Bool} {z : Nat} : ∀ {k x : Nat}, x ≤ z → z < x + k → putL (z : Int) (setF p k x) = setF (fun y => p y || decide (y = z)) k x := by
  intro k
  induction k with
  | zero => intro x h1 h2; omega
  | succ k ih =>
    intro x h1 h2
    by_cases e : x = z
    · subst e
      have hc : setF (fun y => p y || decide (y = x)) k (x + 1) = setF p k (x + 1) := setF_congr fun y h1 h2 => by
        have : ¬ y = x := by omega
        simp [this]
      by_cases hp : p x = true
      · simp only [setF, hp, if_true, decide_true, Bool.or_self, hc, putL]
        have : ¬ (x : Int) < (x : Int) := by omega
        simp only [this, if_false, if_true]
      · have hp' : p x = false := by simpa using hp
        simp only [setF, hp', Bool.false_eq_true, if_false, decide_true, Bool.or_true, if_true, hc]
        exact putL_low (by omega)
    · have hd : decide (x = z) = false := by simp [e]
      have hlt : (x : Int) < (z : Int) := by omega
      by_cases hp : p x = true
      · simp only [setF, hp, if_true, hd, Bool.or_false, putL, hlt, ih (x := x + 1) (by omega) (by omega)]
      · have hp' : p x = false := by simpa using hp
        simp only [setF, hp', hd, Bool.or_false, Bool.false_eq_true, if_false, ih (x := x + 1) (by omega) (by omega)]
theorem ballL_set {n : Nat} {es : List E} {x : Nat} (hx : x < n) : ballL n es (x : Int) = setF (fun y => nearI es (x : Int) (y : Int) || decide (y = x)) n 0 := by
  unfold ballL
  exact putL_set (Nat.zero_le _) (by omega)
theorem setF_nat {p : Nat → Bool} {n : Nat} : ∀ z ∈ setF p n 0, ∃ y : Nat, y < n ∧ z = (y : Int) := by
  intro z hz
  obtain ⟨y, _, h2, _, h4⟩ := setF_mem.1 hz
  exact ⟨y, by omega, h4⟩
theorem setF_empty {n x : Nat} : setF (fun _ => false) n x = [] := by
  induction n generalizing x with
  | zero => rfl
  | succ n ih => simp [setF, ih]
/-- Bits that stand for a set of nodes. -/
def isM (n : Nat) (m : Nat) (p : Nat → Bool) : Prop := m < 256 ∧ ∀ y, m.testBit y = (decide (y < n) && p y)
theorem isE_near (es : List E) {n : Nat} (h : es.all (edgeB (n : Int)) = true) (x y : Nat) : es.any (fun e => isE e x y) = nearI es (x : Int) (y : Int) := by
  unfold nearI
  apply Bool.eq_iff_iff.2
  simp only [List.any_eq_true, isE, Bool.or_eq_true, Bool.and_eq_true, decide_eq_true_eq, beq_iff_eq]
  constructor
  · rintro ⟨e, he, h1⟩
    obtain ⟨k1, k2, k3, k4⟩ := edgeB_nat (List.all_eq_true.1 h e he)
    exact ⟨e, he, by omega⟩
  · rintro ⟨e, he, h1⟩
    obtain ⟨k1, k2, k3, k4⟩ := edgeB_nat (List.all_eq_true.1 h e he)
    exact ⟨e, he, by omega⟩
theorem near_lt {es : List E} {n : Nat} (h : es.all (edgeB (n : Int)) = true) {x y : Nat} (hn : nearI es (x : Int) (y : Int) = true) : y < n := by
  unfold nearI at hn
  simp only [List.any_eq_true, Bool.or_eq_true, Bool.and_eq_true, beq_iff_eq] at hn
  obtain ⟨e, he, h1⟩ := hn
  obtain ⟨k1, k2, k3, k4⟩ := edgeB_nat (List.all_eq_true.1 h e he)
  omega
theorem setF_split {p : Nat → Bool} : ∀ (a b x : Nat), setF p (a + b) x = setF p a x ++ setF p b (x + a) := by
  intro a
  induction a with
  | zero => intro b x; simp [setF]
  | succ a ih =>
    intro b x
    rw [show a + 1 + b = (a + b) + 1 by omega]
    simp only [setF, ih, show x + 1 + a = x + (a + 1) by omega]
    split <;> simp
theorem setF_mask {n m : Nat} {p : Nat → Bool} (hn : n ≤ 8) (hm : isM n m p) : setF (fun y => m.testBit y) 8 0 = setF p n 0 := by
  rw [show 8 = n + (8 - n) by omega, setF_split]
  have h1 : setF (fun y => m.testBit y) n 0 = setF p n 0 := setF_congr fun y _ h => by
    rw [hm.2 y]
    have : y < n := by omega
    simp [this]
  have h2 : setF (fun y => m.testBit y) (8 - n) (0 + n) = [] := by
    rw [← setF_empty (n := 8 - n) (x := 0 + n)]
    exact setF_congr fun y h _ => by
      rw [hm.2 y]
      have : ¬ y < n := by omega
      simp [this]
  rw [h1, h2, List.append_nil]
end Go.V.W
set_option linter.unusedVariables false
set_option linter.unusedSimpArgs false
namespace Go.V.W
open Go.Proofs
theorem l2Near_lim (d) (r) (h : G_l2Near d = some r) : ∃ N, F_spec_l2Near N d = some r := by
  obtain ⟨g, a, b, _⟩ := d
  unfold G_l2Near at h
  split at h
  · rename_i hl
    have hl : g.2.1.length ≤ lim := okL_lim hl
    have h := Option.some.inj h
    subst h
    refine ⟨g.2.1.length + 1, ?_⟩
    unfold F_spec_l2Near
    have := loop_idx (L := spec_l2Near_l0 (g.2.1.length + 1)) (r := spec_l2Near_l0_r (g.2.1.length + 1)) (fun _ _ => rfl) (e := K_Piiq) g.2.1 (mk := fun i => (a, b, g, (i : Int), ())) (q := fun e => (e.1 == a && e.2.1 == b) || (e.1 == b && e.2.1 == a)) (o := fun _ => .inl (true, ())) (f := .inr (.inl ()))
      (by
        intro back i hi
        unfold spec_l2Near_l0_r
        simp only [lt_dec hi, if_true, idxIn_nat hi, Int.toNat_natCast, wrap_up hi (lim_max hl)]
        rcases Bool.eq_false_or_eq_true ((at_ K_Piiq g.2.1 i).1 == a) with c1 | c1 <;> rcases Bool.eq_false_or_eq_true ((at_ K_Piiq g.2.1 i).2.1 == b) with c2 | c2 <;> rcases Bool.eq_false_or_eq_true ((at_ K_Piiq g.2.1 i).1 == b) with c3 | c3 <;> rcases Bool.eq_false_or_eq_true ((at_ K_Piiq g.2.1 i).2.1 == a) with c4 | c4 <;>
          simp only [c1, c2, c3, c4, if_true, if_false, Bool.false_eq_true, Bool.and_true, Bool.and_false, Bool.or_true, Bool.or_false, Bool.true_or, Bool.or_self, Bool.and_self])
      (by intro back; unfold spec_l2Near_l0_r; simp only [lt_not, Bool.false_eq_true, if_false]) g.2.1.length 0 (by omega) (by omega)
    simp only [Int.natCast_zero, List.drop_zero] at this
    have hge := idxI_ge (fun e : E => (e.1 == a && e.2.1 == b) || (e.1 == b && e.2.1 == a)) g.2.1 0
    simp only [this, Option.bind_some, nearI, ← hge]
    cases idxN (fun e : E => (e.1 == a && e.2.1 == b) || (e.1 == b && e.2.1 == a)) g.2.1 0 with
    | none => rfl
    | some j => simp [idxI]
  · cases h
theorem l2Neighbors_l0 (N : Nat) (g : Gr) (x : Int) (n : Nat) (hN : g.1 = (n : Int)) (hn : n ≤ 8) (ho : okL g.2.1 = true) : ∀ (k y f : Nat) (A : List Int), y + k = n → k < f → A.length + k ≤ 1000 →
    spec_l2Neighbors_l0 N f (x, g, A, (y : Int), ()) = some (.inl (A ++ setF (fun y => nearI g.2.1 x (y : Int)) k y, ())) := by
  intro k
  induction k with
  | zero =>
    intro y f A h1 h2 h3
    obtain ⟨f, rfl⟩ : ∃ m, f = m + 1 := ⟨f - 1, by omega⟩
    have e : y = n := by omega
    subst e
    simp [spec_l2Neighbors_l0, spec_l2Neighbors_l0_r, setF, hN]
  | succ k ih =>
    intro y f A h1 h2 h3
    obtain ⟨f, rfl⟩ : ∃ m, f = m + 1 := ⟨f - 1, by omega⟩
    have hy : y < n := by omega
    show spec_l2Neighbors_l0_r N (spec_l2Neighbors_l0 N f) (x, g, A, (y : Int), ()) = _
    unfold spec_l2Neighbors_l0_r
    have hw : IntKind.wrap .i64 ((y : Int) + 1) = ((y + 1 : Nat) : Int) := by
      rw [wrap_in _ (by omega) (by omega)]
      rfl
    have hle : decide (A.length + List.length [(y : Int)] ≤ lim) = true := by
      unfold lim
      simp
      omega
    simp only [hN, lt_dec hy, if_true, G_l2Near, ho, Option.bind_some, hle, hw]
    unfold setF
    by_cases hh : nearI g.2.1 x (y : Int) = true
    · rw [if_pos hh, if_pos hh, ih (y + 1) f _ (by omega) (by omega) (by simp; omega)]
      simp
    · rw [if_neg hh, if_neg hh]
      exact ih (y + 1) f A (by omega) (by omega) (by omega)
theorem l2Neighbors_lim (d) (r) (h : G_l2Neighbors d = some r) : ∃ N, F_spec_l2Neighbors N d = some r := by
  obtain ⟨g, x, _⟩ := d
  unfold G_l2Neighbors at h
  split at h
  · rename_i hc
    simp only [Bool.and_eq_true, decide_eq_true_eq] at hc
    obtain ⟨⟨h1, h2⟩, h3⟩ := hc
    have h := Option.some.inj h
    subst h
    refine ⟨20, ?_⟩
    unfold F_spec_l2Neighbors
    have := l2Neighbors_l0 20 g x g.1.toNat (by omega) (by omega) h1 g.1.toNat 0 20 [] (by omega) (by omega) (by simp; omega)
    simp only [Int.natCast_zero, List.nil_append] at this
    simp only [this, Option.bind_some]
  · cases h
def lowN (x : Int) : List Int → Nat
  | [] => 0
  | a :: l => if a < x then lowN x l + 1 else 0
theorem lowN_le (x : Int) : ∀ l, lowN x l ≤ l.length := by
  intro l
  induction l with
  | nil => simp [lowN]
  | cons a l ih => simp only [lowN]; split <;> simp; omega
theorem l1Put_l0 (N : Nat) (l : List Int) (x : Int) (hl : l.length ≤ 1000) : ∀ (k i f : Nat), i + k = l.length → k < f → spec_l1Put_l0 N f (l, x, (i : Int), ()) = some (.inl (l, x, ((i + lowN x (l.drop i) : Nat) : Int), ())) := by
  have hmx : l.length ≤ maxLen := by unfold maxLen; omega
  intro k
  induction k with
  | zero =>
    intro i f h1 h2
    obtain ⟨f, rfl⟩ : ∃ m, f = m + 1 := ⟨f - 1, by omega⟩
    have e : i = l.length := by omega
    subst e
    rw [List.drop_of_length_le (Nat.le_refl _)]
    simp [spec_l1Put_l0, spec_l1Put_l0_r, lowN]
  | succ k ih =>
    intro i f h1 h2
    obtain ⟨f, rfl⟩ : ∃ m, f = m + 1 := ⟨f - 1, by omega⟩
    have hi : i < l.length := by omega
    show spec_l1Put_l0_r N (spec_l1Put_l0 N f) (l, x, (i : Int), ()) = _
    unfold spec_l1Put_l0_r
    have e : at_ I l i = l[i] := at_get (e := I) hi
    rw [List.drop_eq_getElem_cons hi]
    simp only [lt_dec hi, if_true, idxIn_nat hi, Int.toNat_natCast, wrap_up hi hmx, e, lowN]
    by_cases c : l[i] < x
    · simp only [c, decide_true, if_true]
      rw [ih (i + 1) f (by omega) (by omega)]
      congr 5
      omega
    · simp only [c, decide_false, Bool.false_eq_true, if_false, Nat.add_zero]
theorem putL_low' (x : Int) : ∀ l : List Int, putL x l = if h : lowN x l < l.length then (if l[lowN x l] = x then l else l.take (lowN x l) ++ [x] ++ l.drop (lowN x l)) else l ++ [x] := by
  intro l
  induction l with
  | nil => rfl
  | cons a l ih =>
    simp only [putL, lowN]
    by_cases c : a < x
    · simp only [c, if_true, ih, List.length_cons, Nat.add_lt_add_iff_right, List.getElem_cons_succ, List.take_succ_cons, List.drop_succ_cons]
      split
      · split <;> simp
      · simp
    · by_cases c2 : a = x
      · simp [c, c2]
      · simp [c, c2]
theorem l1Put_lim (d) (r) (h : G_l1Put d = some r) : ∃ N, F_spec_l1Put N d = some r := by
  obtain ⟨l, x, _⟩ := d
  unfold G_l1Put at h
  split at h
  · rename_i hl
    have hl : l.length ≤ 1000 := of_decide_eq_true hl
    have h := Option.some.inj h
    subst h
    refine ⟨l.length + 1, ?_⟩
    unfold F_spec_l1Put
    have := l1Put_l0 (l.length + 1) l x hl l.length 0 (l.length + 1) (by omega) (by omega)
    simp only [Int.natCast_zero, List.drop_zero, Nat.zero_add] at this
    have hk := lowN_le x l
    generalize hkk : lowN x l = k at this hk
    simp only [this, Option.bind_some, putL_low', hkk]
    have hL : (lim : Int) = 1099511627776 := rfl
    have c0 : (decide (0 ≤ (0 : Int)) && decide ((0 : Int) ≤ (k : Int)) && decide ((k : Int) ≤ (l.length : Int))) = true := by simp; omega
    have c1 : decide (List.length ([] : List Int) + List.length (sub_ l (0 : Int) (k : Int)) ≤ lim) = true := by unfold lim sub_; simp; omega
    have c2 : decide (List.length (([] : List Int) ++ sub_ l (0 : Int) (k : Int)) + List.length [x] ≤ lim) = true := by unfold lim sub_; simp; omega
    have c3 : (decide (0 ≤ (k : Int)) && decide ((k : Int) ≤ (l.length : Int)) && decide ((l.length : Int) ≤ (l.length : Int))) = true := by simp; omega
    have c4 : decide (List.length (([] : List Int) ++ sub_ l (0 : Int) (k : Int) ++ [x]) + List.length (sub_ l (k : Int) (l.length : Int)) ≤ lim) = true := by unfold lim sub_; simp; omega
    have e1 : sub_ l (0 : Int) (k : Int) = l.take k := by simp [sub_]
    have e2 : sub_ l (k : Int) (l.length : Int) = l.drop k := by simp [sub_]
    by_cases hlt : k < l.length
    · have e : at_ I l k = l[k] := at_get (e := I) hlt
      simp only [lt_dec hlt, if_true, idxIn_nat hlt, Int.toNat_natCast, e, hlt, dite_true, c0, c1, c2, c3, c4]
      by_cases c : l[k] = x
      · simp [c]
      · have c' : (l[k] == x) = false := by simpa using c
        simp only [c', c, Bool.false_eq_true, if_false, e1, e2, List.nil_append]
    · have hlt' : decide ((k : Int) < (l.length : Int)) = false := by simp; omega
      have ek : k = l.length := by omega
      simp only [hlt', Bool.false_eq_true, if_false, c0, c1, c2, c3, c4, if_true, hlt, dite_false, e1, e2, List.nil_append]
      subst ek
      simp
      unfold lim
      omega
  · cases h
theorem shr_bit {m y : Nat} (hm : m < 256) (h : y < 8) : (bits .and .i64 (shr .i64 (m : Int) (y : Int)) 1 == (1 : Int)) = m.testBit y := has_bit hm h
theorem setOf_l0 (N : Nat) (s : Nat) (hs : s < 256) : ∀ (k x f : Nat) (A : List Int), x + k = 8 → k < f → A.length + k ≤ 100 →
    impl_setOf_l0 N f ((s : Int), A, (x : Int), ()) = some (.inl (A ++ setF (fun y => s.testBit y) k x, ())) := by
  intro k
  induction k with
  | zero =>
    intro x f A h1 h2 h3
    obtain ⟨f, rfl⟩ : ∃ m, f = m + 1 := ⟨f - 1, by omega⟩
    have e : x = 8 := by omega
    subst e
    have : shr .i64 (s : Int) ((8 : Nat) : Int) = 0 := by
      unfold shr
      have e : min ((8 : Nat) : Int).toNat IntKind.i64.bits = 8 := by decide
      rw [e, Int.fdiv_eq_ediv_of_nonneg _ (by decide)]
      omega
    show impl_setOf_l0_r N (impl_setOf_l0 N f) ((s : Int), A, ((8 : Nat) : Int), ()) = _
    unfold impl_setOf_l0_r
    have h8 : decide (0 ≤ ((8 : Nat) : Int)) = true := by decide
    have hz : ((0 : Int) != 0) = false := by decide
    simp only [h8, if_true, this, hz, Bool.false_eq_true, if_false, setF, List.append_nil]
  | succ k ih =>
    intro x f A h1 h2 h3
    obtain ⟨f, rfl⟩ : ∃ m, f = m + 1 := ⟨f - 1, by omega⟩
    have hx : x < 8 := by omega
    show impl_setOf_l0_r N (impl_setOf_l0 N f) ((s : Int), A, (x : Int), ()) = _
    unfold impl_setOf_l0_r
    have hw : IntKind.wrap .i64 ((x : Int) + 1) = ((x + 1 : Nat) : Int) := by
      rw [wrap_in _ (by omega) (by omega)]
      rfl
    have hle : decide (A.length + List.length [(x : Int)] ≤ lim) = true := by
      unfold lim
      simp
      omega
    simp only [nonneg_dec, if_true, shr_bit hs hx, hle, hw]
    by_cases hz : s >>> x = 0
    · have e1 : (shr .i64 (s : Int) (x : Int) != (0 : Int)) = false := by rw [shr_nat hx, hz]; decide
      simp only [e1, Bool.false_eq_true, if_false]
      have e2 : setF (fun y => s.testBit y) (k + 1) x = [] := by
        rw [← setF_empty (n := k + 1) (x := x)]
        refine setF_congr fun y h _ => ?_
        have : s < 2 ^ x := by
          rw [Nat.shiftRight_eq_div_pow] at hz
          exact (Nat.div_eq_zero_iff_lt (Nat.two_pow_pos x)).1 hz
        exact Nat.testBit_lt_two_pow (Nat.lt_of_lt_of_le this (Nat.pow_le_pow_right (by omega) h))
      rw [e2, List.append_nil]
    · have e1 : (shr .i64 (s : Int) (x : Int) != (0 : Int)) = true := by
        rw [shr_nat hx]
        have : ((s >>> x : Nat) : Int) ≠ 0 := fun e => hz (by exact_mod_cast e)
        simpa using this
      simp only [e1, if_true]
      unfold setF
      by_cases hb : s.testBit x = true
      · rw [if_pos hb, if_pos hb, ih (x + 1) f _ (by omega) (by omega) (by simp; omega)]
        simp
      · rw [if_neg hb, if_neg hb]
        exact ih (x + 1) f A (by omega) (by omega) (by omega)
theorem setOf_lim (d) (r) (h : G_setOf d = some r) : ∃ N, F_impl_setOf N d = some r := by
  obtain ⟨s, _⟩ := d
  unfold G_setOf at h
  split at h
  · rename_i hc
    simp only [Bool.and_eq_true, decide_eq_true_eq] at hc
    have h := Option.some.inj h
    subst h
    refine ⟨20, ?_⟩
    unfold F_impl_setOf
    have := setOf_l0 20 s.toNat (by omega) 8 0 20 [] (by omega) (by omega) (by simp)
    rw [show ((s.toNat : Nat) : Int) = s by omega] at this
    simp only [Int.natCast_zero, List.nil_append] at this
    simp only [this, Option.bind_some]
  · cases h
end Go.V.W
set_option linter.unusedVariables false
set_option linter.unusedSimpArgs false
namespace Go.V.W
open Go.Proofs
theorem small_toI {n : Nat} {ms : List Nat} (hok : okN n ms) (hn : n ≤ 8) : smallN (toI ms) = true := by
  unfold smallN
  simp only [toI_len, hok.1, Bool.and_eq_true, decide_eq_true_eq, List.all_eq_true]
  refine ⟨hn, fun m hm => ?_⟩
  unfold toI at hm
  obtain ⟨x, hx, rfl⟩ := List.mem_map.1 hm
  obtain ⟨i, hi, rfl⟩ := List.getElem_of_mem hx
  have := hok.2 i
  simp only [List.getD_eq_getElem?_getD, List.getElem?_eq_getElem hi, Option.getD_some] at this
  omega
end Go.V.W
set_option linter.unusedVariables false
set_option linter.unusedSimpArgs false
namespace Go.V.W
open Go.Proofs
theorem openNets_some {t : Tt} (ht : timeB t = true) (ho : okT t = true) : G_openNets (t, ()) = some (netsL t, ()) := by
  unfold G_openNets
  rw [if_pos (by rw [ht, ho]; rfl)]
end Go.V.W
set_option linter.unusedVariables false
set_option linter.unusedSimpArgs false
namespace Go.V.W
open Go.Proofs
theorem ball_eq (g : Gr) (n : Nat) (hg : g.1 = (n : Int)) (hn : n ≤ 8) (ho : okL g.2.1 = true) (z : Int) : F_spec_l2Ball 0 (g, z, ()) = some (ballL n g.2.1 z, ()) := by
  unfold F_spec_l2Ball G_l2Neighbors G_l1Put
  have a2 : okS1 (setF (fun y => nearI g.2.1 z (y : Int)) n 0) = true := by
    have := setF_len (p := fun y => nearI g.2.1 z (y : Int)) (k := n) (x := 0)
    exact decide_eq_true (by omega)
  have a3 : (okL g.2.1 && decide (0 ≤ (n : Int)) && decide ((n : Int) ≤ 8)) = true := by
    rw [ho]
    simp
    omega
  simp only [hg, a3, if_true, Int.toNat_natCast, Option.bind_some, a2, ballL]
theorem open_some {t : Tt} (ht : timeB t = true) (ho : okT t = true) {c : Int} (h0 : 0 ≤ c) (h1 : c ≤ 5000) : G_l11Open (t, c, ()) = some ((t.1.1, openE t (c.tmod t.2.1), ()), ()) := by
  unfold G_l11Open
  have e1 : decide (0 ≤ c) = true := by simp; omega
  have e2 : decide (c ≤ 5000) = true := by simp; omega
  rw [if_pos (by simp only [ht, ho, e1, e2, Bool.and_self])]
theorem openE_okL {t : Tt} (ho : okT t = true) (r : Int) : okL (openE t r) = true := by
  have hlen := selE_len t.1.2.1 t.2.2.1 r
  have := okL_lim (okT_parts ho).1
  exact decide_eq_true (Nat.le_trans hlen this)
end Go.V.W
set_option linter.unusedVariables false
set_option linter.unusedSimpArgs false
namespace Go.V.W
theorem tabL_len (n : Nat) (f : Nat → Nat → Int) : (tabL n f).length = n := by simp [tabL]
theorem tabL_row {n c : Nat} (f : Nat → Nat → Int) (h : c < n) : (tabL n f)[c]? = some ((List.range n).map fun r => f c r) := by
  unfold tabL
  rw [List.getElem?_map, List.getElem?_range h]
  rfl
theorem rowR_get {n r : Nat} (g : Nat → Int) (h : r < n) : ((List.range n).map g)[r]? = some (g r) := by
  rw [List.getElem?_map, List.getElem?_range h]
  rfl
theorem tab2_tabL {n c r : Nat} (f : Nat → Nat → Int) (hc : c < n) (hr : r < n) : tab2 (tabL n f) (c : Int) (r : Int) = f c r := by
  unfold tab2
  simp only [Int.toNat_natCast, List.getD_eq_getElem?_getD, tabL_row f hc, Option.getD_some, rowR_get _ hr]
theorem tabL_congr {n : Nat} {f g : Nat → Nat → Int} (h : ∀ c r, c < n → r < n → f c r = g c r) : tabL n f = tabL n g := by
  unfold tabL
  refine List.map_congr_left fun c hc => List.map_congr_left fun r hr => h c r (List.mem_range.1 hc) (List.mem_range.1 hr)
theorem worst_congr {f g : Int → Int} : ∀ {l : List Int} {m : Int}, (∀ x ∈ l, f x = g x) → worstL f l m = worstL g l m := by
  intro l
  induction l with
  | nil => intro m _; rfl
  | cons b bs ih =>
    intro m h
    simp only [worstL, h b (by simp)]
    rw [ih fun x hx => h x (by simp [hx])]
/-- The greatest of all, or -1. -/
theorem worst_spec (f : Int → Int) : ∀ (l : List Int) (m : Int), (∃ x ∈ l, f x < 0) ∧ worstL f l m = -1 ∨ (∀ x ∈ l, 0 ≤ f x ∧ f x ≤ worstL f l m) ∧ m ≤ worstL f l m ∧ (worstL f l m = m ∨ ∃ x ∈ l, worstL f l m = f x) := by
  intro l
  induction l with
  | nil => intro m; exact .inr ⟨fun x hx => by simp at hx, Int.le_refl _, .inl rfl⟩
  | cons b bs ih =>
    intro m
    simp only [worstL]
    by_cases hb : f b < 0
    · rw [if_pos hb]
      exact .inl ⟨⟨b, by simp, hb⟩, rfl⟩
    · rw [if_neg hb]
      rcases ih (if m < f b then f b else m) with ⟨⟨x, hx, h1⟩, h2⟩ | ⟨h1, h2, h3⟩
      · exact .inl ⟨⟨x, by simp [hx], h1⟩, h2⟩
      · have hge : m ≤ (if m < f b then f b else m) ∧ f b ≤ (if m < f b then f b else m) := by split <;> omega
        refine .inr ⟨fun x hx => ?_, by omega, ?_⟩
        · rcases List.mem_cons.1 hx with rfl | hx
          · omega
          · exact h1 x hx
        · rcases h3 with h3 | ⟨x, hx, h3⟩
          · by_cases hm : m < f b
            · rw [if_pos hm] at h3 ⊢
              exact .inr ⟨b, by simp, h3⟩
            · rw [if_neg hm] at h3 ⊢
              exact .inl h3
          · exact .inr ⟨x, by simp [hx], h3⟩
/-- The balls hold nodes alone. -/
def okBall (n : Nat) (ball : Int → List Int) : Prop := ∀ x : Nat, x < n → ∀ z ∈ ball (x : Int), ∃ y : Nat, y < n ∧ z = (y : Int)
/-- What holds before the round t. -/
structure InvT (n : Nat) (ball : Int → List Int) (t : Nat) (f : Nat → Nat → Int) : Prop where
  pos : 1 ≤ t
  low : ∀ c r, c < n → r < n → -1 ≤ f c r
  high : ∀ c r, c < n → r < n → f c r < (t : Int)
  none : ∀ c r, c < n → r < n → f c r < 0 → ∀ b ∈ ball (c : Int), ¬ (0 ≤ afterT ball (tabL n f) b (r : Int) ∧ afterT ball (tabL n f) b (r : Int) < (t : Int) - 1)
theorem InvT.next {n : Nat} {ball : Int → List Int} (hb : okBall n ball) {t : Nat} {f : Nat → Nat → Int} (hI : InvT n ball t f) : InvT n ball (t + 1) (stepF n ball (t : Int) f) := by
  have hp := hI.pos
  refine ⟨by omega, fun c r hc hr => ?_, fun c r hc hr => ?_, fun c r hc hr hf b hbm => ?_⟩
  · unfold stepF
    split
    · omega
    · exact hI.low c r hc hr
  · unfold stepF
    split
    · omega
    · have := hI.high c r hc hr; omega
  · rintro ⟨h1, h2⟩
    have hst : stepF n ball (t : Int) f c r = f c r ∧ canF n ball f c r = false := by
      unfold stepF at hf ⊢
      by_cases hcan : canF n ball f c r = true
      · rw [if_pos hcan] at hf; omega
      · rw [if_neg hcan]
        exact ⟨rfl, by simpa using hcan⟩
    rw [hst.1] at hf
    have hno : ∀ b ∈ ball (c : Int), ¬ 0 ≤ afterT ball (tabL n f) b (r : Int) := by
      intro b hbm h
      have := hst.2
      unfold canF at this
      simp only [hf, decide_true, Bool.true_and] at this
      have ht : ((ball (c : Int)).any fun b => decide (0 ≤ afterT ball (tabL n f) b (r : Int))) = true := List.any_eq_true.2 ⟨b, hbm, decide_eq_true h⟩
      rw [ht] at this
      cases this
    refine hno b hbm ?_
    unfold afterT at h1 h2 ⊢
    by_cases hbr : b = (r : Int)
    · rw [if_pos hbr]
      exact Int.le_refl _
    · rw [if_neg hbr] at h1 h2 ⊢
      obtain ⟨b', hb1, rfl⟩ := hb c hc b hbm
      rcases worst_spec (tab2 (tabL n (stepF n ball (t : Int) f)) (b' : Int)) (ball (r : Int)) 0 with ⟨_, h⟩ | ⟨hall, _, _⟩
      · omega
      · have e : worstL (tab2 (tabL n f) (b' : Int)) (ball (r : Int)) 0 = worstL (tab2 (tabL n (stepF n ball (t : Int) f)) (b' : Int)) (ball (r : Int)) 0 := by
          refine worst_congr fun x hx => ?_
          obtain ⟨y, hy, rfl⟩ := hb r hr x hx
          have := hall (y : Int) hx
          rw [tab2_tabL _ hb1 hy] at this
          rw [tab2_tabL _ hb1 hy, tab2_tabL _ hb1 hy]
          by_cases hcan : canF n ball f b' y = true
          · have e : stepF n ball (t : Int) f b' y = (t : Int) := if_pos hcan
            rw [e] at this
            omega
          · exact (if_neg hcan).symm
        rw [e]
        exact h1
theorem InvT.start (n : Nat) (ball : Int → List Int) : InvT n ball 1 startF := by
  refine ⟨Nat.le_refl _, fun c r _ _ => ?_, fun c r _ _ => ?_, fun c r _ _ _ b _ h => ?_⟩
  · unfold startF; split <;> omega
  · unfold startF; split <;> omega
  · omega
def negs (n : Nat) (f : Nat → Nat → Int) : Nat := (List.range (n * n)).countP fun i => decide (f (i / n) (i % n) < 0)
theorem countP_lt {α : Type} {p q : α → Bool} : ∀ {l : List α}, (∀ x ∈ l, q x = true → p x = true) → l.countP q ≤ l.countP p ∧ ((∃ x ∈ l, p x = true ∧ q x = false) → l.countP q < l.countP p) := by
  intro l
  induction l with
  | nil => intro _; exact ⟨Nat.le_refl _, fun ⟨x, hx, _⟩ => by simp at hx⟩
  | cons a l ih =>
    intro h
    obtain ⟨h1, h2⟩ := ih fun x hx => h x (by simp [hx])
    have ha := h a (by simp)
    simp only [List.countP_cons]
    cases hq : q a with
    | true =>
      rw [ha hq]
      refine ⟨by simp; exact h1, fun ⟨x, hx, h3, h4⟩ => ?_⟩
      rcases List.mem_cons.1 hx with rfl | hx
      · rw [hq] at h4; cases h4
      · have := h2 ⟨x, hx, h3, h4⟩
        simp
        exact this
    | false =>
      cases hp : p a with
      | true => refine ⟨by simp; omega, fun _ => by simp; omega⟩
      | false =>
        refine ⟨by simpa using h1, fun ⟨x, hx, h3, h4⟩ => ?_⟩
        rcases List.mem_cons.1 hx with rfl | hx
        · rw [hp] at h3; cases h3
        · simpa using h2 ⟨x, hx, h3, h4⟩
theorem negs_le (n : Nat) (f : Nat → Nat → Int) : negs n f ≤ n * n := by
  unfold negs
  have := List.countP_le_length (p := fun i => decide (f (i / n) (i % n) < 0)) (l := List.range (n * n))
  simpa using this
end Go.V.W
set_option linter.unusedVariables false
set_option linter.unusedSimpArgs false
namespace Go.V.W
open Go.Proofs
theorem sqL_parts {n : Nat} {T : Tab} (h : sqL n T = true) : T.length = n ∧ ∀ c, c < n → (at_ K_Si T c).length = n := by
  unfold sqL at h
  simp only [Bool.and_eq_true, decide_eq_true_eq, List.all_eq_true] at h
  refine ⟨h.1, fun c hc => ?_⟩
  have hlt : c < T.length := by omega
  have e : at_ K_Si T c = T[c] := at_get (e := K_Si) hlt
  rw [e]
  exact h.2 _ (List.getElem_mem hlt)
theorem tabL_sq (n : Nat) (f : Nat → Nat → Int) : sqL n (tabL n f) = true := by
  unfold sqL tabL
  simp
theorem most_eq (m v : Int) : g_spec_l1Most (m, v, ()) = ((if m < v then v else m), ()) := by
  unfold g_spec_l1Most
  by_cases h : m > v
  · have h2 : ¬ m < v := by omega
    simp [h, h2]
  · simp only [h, decide_false, Bool.false_eq_true, if_false]
    by_cases h2 : m < v
    · rw [if_pos h2]
    · have e : m = v := by omega
      rw [if_neg h2, e]
theorem grB_parts {g : Gr} (h : grB g = true) : okL g.2.1 = true ∧ g.1 = (g.1.toNat : Int) ∧ g.1.toNat ≤ 8 ∧ g.2.1.all (edgeB (g.1.toNat : Int)) = true := by
  unfold grB at h
  simp only [Bool.and_eq_true, decide_eq_true_eq] at h
  obtain ⟨⟨⟨h1, h2⟩, h3⟩, h4⟩ := h
  have e : g.1 = (g.1.toNat : Int) := by omega
  exact ⟨h1, e, by omega, by rw [← e]; exact h4⟩
theorem ballF_ok (n : Nat) (es : List E) : okBall n (ballF n es) := fun x _ z hz => setF_nat z hz
theorem ballF_len (n : Nat) (es : List E) (x : Int) : (ballF n es x).length ≤ n := setF_len
theorem ball_some {g : Gr} (h : grB g = true) {x : Nat} (hx : x < g.1.toNat) : F_spec_l2Ball 0 (g, (x : Int), ()) = some (ballF g.1.toNat g.2.1 (x : Int), ()) := by
  obtain ⟨h1, h2, h3, h4⟩ := grB_parts h
  rw [ball_eq g g.1.toNat h2 h3 h1, ballL_set hx]
  show some (setF _ _ _, ()) = some (setF _ _ _, ())
  congr 2
  exact setF_congr fun y _ _ => by
    congr 1
    exact decide_eq_decide.2 (by omega)
theorem wrap8 {i n : Nat} (h : i < n) (hn : n ≤ 8) : IntKind.wrap .i64 ((i : Int) + 1) = ((i + 1 : Nat) : Int) := by
  rw [wrap_in _ (by omega) (by omega)]
  rfl
theorem map_set (n r : Nat) (g : Nat → Int) (v : Int) : ((List.range n).map g).set r v = (List.range n).map fun j => if j = r then v else g j := by
  apply List.ext_getElem
  · simp
  · intro i h1 h2
    simp only [List.length_set, List.length_map, List.length_range] at h1
    rw [List.getElem_set]
    by_cases e : r = i
    · subst e; simp
    · have e' : ¬ i = r := fun h => e h.symm
      simp [e, e']
end Go.V.W
set_option linter.unusedVariables false
set_option linter.unusedSimpArgs false
namespace Go.V.W
open Go.Proofs
theorem netB_parts {l : List Int} (h : netB l = true) : l = toI (fromI l) ∧ okN l.length (fromI l) ∧ l.length ≤ 8 ∧ ∀ x, x < l.length → (fromI l).getD x 0 < 2 ^ l.length := by
  unfold netB at h
  simp only [Bool.and_eq_true, List.all_eq_true, decide_eq_true_eq] at h
  obtain ⟨h1, h2⟩ := h
  obtain ⟨e, hm, h8⟩ := smallN_nat h1
  refine ⟨e, hm, h8, fun x hx => ?_⟩
  have hx' : x < (fromI l).length := by rw [hm.1]; exact hx
  have h3 := h2 l[x] (List.getElem_mem hx)
  simp only [List.getD_eq_getElem?_getD, List.getElem?_eq_getElem hx', Option.getD_some]
  have e2 : (fromI l)[x] = l[x].toNat := by simp [fromI]
  rw [e2]
  have : 0 < 2 ^ l.length := Nat.two_pow_pos _
  omega
theorem two_lt {x n : Nat} (h : x < n) : 2 ^ x < 2 ^ n := Nat.pow_lt_pow_right (by omega) h
theorem maskM {l : List Int} (h : netB l = true) {x : Nat} (hx : x < l.length) : (fromI l).getD x 0 ||| 2 ^ x < 256 ∧ (fromI l).getD x 0 ||| 2 ^ x < 2 ^ l.length := by
  obtain ⟨e, hm, h8, hb⟩ := netB_parts h
  exact ⟨Nat.or_lt_two_pow (n := 8) (hm.2 x) (pow_small (by omega)), Nat.or_lt_two_pow (hb x hx) (two_lt hx)⟩
theorem ballM_ok {l : List Int} (h : netB l = true) : okBall l.length (ballM l) := by
  intro x hx z hz
  unfold ballM at hz
  obtain ⟨y, _, _, h3, h4⟩ := setF_mem.1 hz
  refine ⟨y, ?_, h4⟩
  rcases Nat.lt_or_ge y l.length with h5 | h5
  · exact h5
  · rw [Int.toNat_natCast] at h3
    rw [Nat.testBit_lt_two_pow (Nat.lt_of_lt_of_le (maskM h hx).2 (Nat.pow_le_pow_right (by omega) h5))] at h3
    cases h3
theorem ballM_len (l : List Int) (x : Int) : (ballM l x).length ≤ 8 := setF_len
theorem closedM {l : List Int} (h : netB l = true) (u : Unit) {x : Nat} (hx : x < l.length) : F_impl_net_closed 0 ((l, u), (x : Int), ()) = some ((((fromI l).getD x 0 ||| 2 ^ x : Nat) : Int), ()) := by
  obtain ⟨e, hm, h8, hb⟩ := netB_parts h
  unfold F_impl_net_closed
  have i1 : idxIn (x : Int) l.length = true := idxIn_nat hx
  have e1 : at_ I l x = (((fromI l).getD x 0 : Nat) : Int) := by
    have := at_toI (fromI l) x
    rw [← e] at this
    exact this
  simp only [i1, if_true, nonneg_dec, Int.toNat_natCast, e1, shl_one (show x < 8 by omega), bits_or (hm.2 x) (pow_small (show x < 8 by omega))]
theorem setOfM {l : List Int} (h : netB l = true) {x : Nat} (hx : x < l.length) : G_setOf ((((fromI l).getD x 0 ||| 2 ^ x : Nat) : Int), ()) = some (ballM l (x : Int), ()) := by
  have hm := (maskM h hx).1
  unfold G_setOf
  have b2 : decide ((((fromI l).getD x 0 ||| 2 ^ x : Nat) : Int) < 256) = true := by
    simp only [decide_eq_true_eq]
    omega
  simp only [nonneg_dec, b2, Bool.and_self, if_true, Int.toNat_natCast]
  rfl
theorem inB_len {n : Nat} {x : Int} (h : inB 0 ((n : Int) - 1) x = true) : x = (x.toNat : Int) ∧ x.toNat < n := by
  have := inB_iff.1 h
  omega
theorem after_l0 (N n : Nat) (row : List Int) (hrow : row.length = n) (ball : List Int) (hb : ∀ z ∈ ball, ∃ y : Nat, y < n ∧ z = (y : Int)) (hl : ball.length ≤ 1000) : ∀ (k i f : Nat) (m : Int), i + k = ball.length → k < f →
    impl_net_timeAfter_l0 N f (row, m, ball, (ball.length : Int), (i : Int), ()) = some (.inl (worstL (fun z => row.getD z.toNat 0) (ball.drop i) m, ())) ∨ impl_net_timeAfter_l0 N f (row, m, ball, (ball.length : Int), (i : Int), ()) = some (.inr (.inl (worstL (fun z => row.getD z.toNat 0) (ball.drop i) m, ()))) := by
  have hmx : ball.length ≤ maxLen := by unfold maxLen; omega
  intro k
  induction k with
  | zero =>
    intro i f m h1 h2
    obtain ⟨f, rfl⟩ : ∃ m, f = m + 1 := ⟨f - 1, by omega⟩
    have e : i = ball.length := by omega
    subst e
    rw [List.drop_of_length_le (Nat.le_refl _)]
    right
    simp [impl_net_timeAfter_l0, impl_net_timeAfter_l0_r, worstL]
  | succ k ih =>
    intro i f m h1 h2
    obtain ⟨f, rfl⟩ : ∃ m, f = m + 1 := ⟨f - 1, by omega⟩
    have hi : i < ball.length := by omega
    obtain ⟨y, hy, ey⟩ := hb ball[i] (List.getElem_mem hi)
    have e : at_ I ball i = (y : Int) := (at_get (e := I) hi).trans ey
    have i2 : idxIn (y : Int) row.length = true := idxIn_nat (by omega)
    have hy' : y < row.length := by omega
    have hv : at_ I row y = row.getD y 0 := by
      rw [at_get (e := I) hy']
      simp [List.getD_eq_getElem?_getD, hy']
    have hd : ball.drop i = (y : Int) :: ball.drop (i + 1) := by rw [List.drop_eq_getElem_cons hi, ey]
    have step : impl_net_timeAfter_l0 N (f + 1) (row, m, ball, (ball.length : Int), (i : Int), ()) = if row.getD y 0 < 0 then some (.inl (-1, ())) else impl_net_timeAfter_l0 N f (row, (if m < row.getD y 0 then row.getD y 0 else m), ball, (ball.length : Int), ((i + 1 : Nat) : Int), ()) := by
      show impl_net_timeAfter_l0_r N (impl_net_timeAfter_l0 N f) (row, m, ball, (ball.length : Int), (i : Int), ()) = _
      unfold impl_net_timeAfter_l0_r
      simp only [lt_dec hi, if_true, idxIn_nat hi, Int.toNat_natCast, e, i2, hv, wrap_up hi hmx]
      by_cases h : row.getD y 0 < 0
      · simp only [h, decide_true, if_true]
      · simp only [h, decide_false, Bool.false_eq_true, if_false]
    rw [step, hd]
    simp only [worstL, Int.toNat_natCast]
    by_cases h : row.getD y 0 < 0
    · rw [if_pos h, if_pos h]
      exact .inl rfl
    · rw [if_neg h, if_neg h]
      exact ih (i + 1) f _ (by omega) (by omega)
theorem timeAfter_lim (d) (r) (h : G_timeAfter d = some r) : ∃ N, F_impl_net_timeAfter N d = some r := by
  obtain ⟨⟨l, u⟩, row, q, _⟩ := d
  unfold G_timeAfter at h
  split at h
  · rename_i hc
    simp only [Bool.and_eq_true, decide_eq_true_eq] at hc
    obtain ⟨⟨hn, hrow⟩, hq⟩ := hc
    obtain ⟨q1, q2⟩ := inB_len hq
    have h := Option.some.inj h
    subst h
    refine ⟨20, ?_⟩
    unfold F_impl_net_timeAfter
    have hbl := ballM_len l (q.toNat : Int)
    have hc := closedM hn u q2
    have hs := setOfM hn q2
    have := after_l0 20 l.length row hrow (ballM l (q.toNat : Int)) (ballM_ok hn q.toNat q2) (by omega) (ballM l (q.toNat : Int)).length 0 20 0 (by omega) (by omega)
    simp only [Int.natCast_zero, List.drop_zero] at this
    rw [← q1] at hc hs this
    simp only [hc, Option.bind_some, hs]
    rcases this with h | h
    · simp only [h, Option.bind_some]
    · simp only [h, Option.bind_some]
  · cases h
theorem row_start (n c : Nat) (hc : c < n) : (List.replicate n (-1 : Int)).set c 0 = (List.range n).map (startF c) := by
  apply List.ext_getElem
  · simp
  · intro i h1 h2
    rw [List.getElem_set]
    simp only [List.getElem_replicate, List.getElem_map, List.getElem_range, startF]
theorem tabL_set {n : Nat} {g : Nat → Nat → Int} {x z : Nat} (hx : x < n) (hz : z < n) (t : Int) : List.set (tabL n g) x (List.set (at_ K_Si (tabL n g) x) z t) = tabL n fun c r => if c = x ∧ r = z then t else g c r := by
  have hl : x < (tabL n g).length := by rw [tabL_len]; exact hx
  have e : at_ K_Si (tabL n g) x = (tabL n g)[x] := at_get (e := K_Si) hl
  have hrow := tabL_row g hx
  rw [List.getElem?_eq_getElem hl] at hrow
  rw [e, Option.some.inj hrow, map_set]
  apply List.ext_getElem
  · simp [tabL]
  · intro i h1 h2
    rw [List.getElem_set]
    by_cases ei : x = i
    · subst ei
      simp only [if_true, tabL, List.getElem_map, List.getElem_range, true_and]
    · have ei' : ¬ i = x := fun h => ei h.symm
      simp only [ei, if_false, tabL, List.getElem_map, List.getElem_range, ei', false_and]
theorem netB_net {n : Nat} (hn : n ≤ 8) {es : List E} (h : es.all (edgeB (n : Int)) = true) : netB (toI (netN n es)) = true ∧ (toI (netN n es)).length = n := by
  have hok := netN_ok hn h
  have hl : (toI (netN n es)).length = n := by rw [toI_len, hok.1]
  refine ⟨?_, hl⟩
  unfold netB
  rw [small_toI hok hn, Bool.true_and, List.all_eq_true, hl]
  intro m hm
  unfold toI at hm
  obtain ⟨a, ha, rfl⟩ := List.mem_map.1 hm
  obtain ⟨i, hi, rfl⟩ := List.getElem_of_mem ha
  have hlt : (netN n es)[i] < 2 ^ n := by
    refine Nat.lt_pow_two_of_testBit _ fun j hj => ?_
    have hb := netN_bit hn h i j
    unfold hasN at hb
    simp only [List.getD_eq_getElem?_getD, List.getElem?_eq_getElem hi, Option.getD_some] at hb
    rw [hb, isE_near es h]
    cases hnr : nearI es (i : Int) (j : Int) with
    | false => rfl
    | true => have := near_lt h hnr; omega
  simp only [decide_eq_true_eq]
  omega
theorem ball_same {n : Nat} (hn : n ≤ 8) {es : List E} (h : es.all (edgeB (n : Int)) = true) {x : Nat} (hx : x < n) : ballM (toI (netN n es)) (x : Int) = ballF n es (x : Int) := by
  unfold ballM ballF
  have hok := netN_ok hn h
  have hM : isM n ((netN n es).getD x 0 ||| 2 ^ x) (fun y => nearI es (x : Int) (y : Int) || decide ((y : Int) = (x : Int))) := by
    refine ⟨Nat.or_lt_two_pow (n := 8) (hok.2 x) (pow_small (by omega)), fun w => ?_⟩
    rw [Nat.testBit_or, Nat.testBit_two_pow]
    have hb := netN_bit hn h x w
    unfold hasN at hb
    rw [hb, isE_near es h]
    apply Bool.eq_iff_iff.2
    simp only [Bool.or_eq_true, Bool.and_eq_true, decide_eq_true_eq]
    constructor
    · rintro (h' | h')
      · exact ⟨near_lt h h', .inl h'⟩
      · subst h'
        exact ⟨hx, .inr rfl⟩
    · rintro ⟨h1, h2 | h2⟩
      · exact .inl h2
      · exact .inr (by omega)
  simp only [toI_from, Int.toNat_natCast]
  exact setF_mask hn hM
end Go.V.W
set_option linter.unusedVariables false
set_option linter.unusedSimpArgs false
namespace Go.V.W
open Go.Proofs
theorem at_l {e : Kd} {l : List e.den} {i : Nat} (h : i < l.length) : at_ e l i = l[i] := at_get h
theorem okL3_of {l : List Tab} (h : okL3 l = true) : okL l = true ∧ l.all okLL = true := by
  unfold okL3 at h
  simpa only [Bool.and_eq_true] using h
theorem eqL_all {α : Type} [DecidableEq α] : ∀ {l m : List α}, l.length = m.length → (decide (l = m)) = ((List.range l.length).all fun i => decide (l[i]? = m[i]?)) := by
  intro l m h
  apply bool_eq_iff
  rw [decide_eq_true_eq, List.all_eq_true]
  constructor
  · rintro rfl i _; simp
  · intro hi
    apply List.ext_getElem? 
    intro i
    by_cases h' : i < l.length
    · exact of_decide_eq_true (hi i (List.mem_range.2 h'))
    · rw [List.getElem?_eq_none (by omega), List.getElem?_eq_none (by omega)]
theorem eqIntSSS_lim (d) (r) (h : G_eqIntSSS d = some r) : ∃ N, F_laws_eqIntSSS N d = some r := by
  obtain ⟨l, m, _⟩ := d
  unfold G_eqIntSSS at h
  split at h
  · rename_i hll
    obtain ⟨hl1, ha⟩ := okL3_of hll
    have hl : l.length ≤ lim := okL_lim hl1
    have hmx := lim_max hl
    have h := Option.some.inj h
    subst h
    refine ⟨l.length + 1, ?_⟩
    unfold F_laws_eqIntSSS
    by_cases hm : l.length = m.length
    · have := loop_every (L := laws_eqIntSSS_l0 (l.length + 1)) (r := laws_eqIntSSS_l0_r (l.length + 1)) (fun _ _ => rfl) (List.range l.length) (mk := fun i => (l, m, (i : Int), ())) (q := fun i => decide (l[i]? = m[i]?)) (o := .inl (false, ())) (f := .inr (.inl ()))
        (by
          intro back i hi'
          have hi : i < l.length := by simpa using hi'
          have hi2 : i < m.length := by omega
          have hx : okLL l[i] = true := List.all_eq_true.1 ha _ (List.getElem_mem hi)
          unfold laws_eqIntSSS_l0_r
          simp only [lt_dec hi, if_true, idxIn_nat hi, idxIn_nat hi2, Int.toNat_natCast, wrap_up hi hmx, at_l (e := K_SSi) hi, at_l (e := K_SSi) hi2, G_eqIntSS, hx, Option.bind_some, List.getElem_range, List.getElem?_eq_getElem hi, List.getElem?_eq_getElem hi2, Option.some.injEq]
          by_cases he : l[i] = m[i]
          · simp only [he, decide_true, Bool.not_true, Bool.false_eq_true, if_false, if_true]
          · simp only [he, decide_false, Bool.not_false, Bool.false_eq_true, if_false, if_true])
        (by intro back; unfold laws_eqIntSSS_l0_r; simp only [List.length_range, lt_not, Bool.false_eq_true, if_false]) l.length 0 (by simp) (by simp)
      simp only [Int.natCast_zero, List.drop_zero, ← eqL_all hm] at this
      have hne : ((List.length l : Int) != (List.length m : Int)) = false := by simp [hm]
      simp only [hne, Bool.false_eq_true, if_false, this, Option.bind_some]
      by_cases he : l = m
      · simp only [he, decide_true, if_true]
      · simp only [he, decide_false, Bool.false_eq_true, if_false]
    · have hne : ((List.length l : Int) != (List.length m : Int)) = true := by simp; omega
      have he : ¬ l = m := fun e => hm (by rw [e])
      simp [hne, he]
  · cases h
end Go.V.W
set_option linter.unusedVariables false
set_option linter.unusedSimpArgs false
namespace Go.V.W
open Go.Proofs
theorem balls_l2 (N : Nat) (t : Tt) (out : List Tab) (r : Int) (g : Gr) (hg : grB g = true) : ∀ k, g.1.toNat ≤ k → spec_l11Balls_l2 N (k + 1) (t, out, r, g, [], (0 : Int), ()) = some (.inl (t, out, r, (List.range g.1.toNat).map (fun x : Nat => ballF g.1.toNat g.2.1 (x : Int)), ())) := by
  obtain ⟨g1, g2, g3, g4⟩ := grB_parts hg
  exact loop_map (L := spec_l11Balls_l2 N) (r := spec_l11Balls_l2_r N) (fun _ _ => rfl) (n := g.1.toNat) (mk := fun i m => (t, out, r, g, m, (i : Int), ())) (f := fun x : Nat => ballF g.1.toNat g.2.1 (x : Int)) (o := fun m => .inl (t, out, r, m, ()))
    (by
      intro back i m hi hm
      have hl : decide (List.length m + List.length [ballF g.1.toNat g.2.1 (i : Int)] ≤ lim) = true := by
        rw [hm]; unfold lim; simp; omega
      have c1 : decide ((i : Int) < g.1) = true := by simp; omega
      unfold spec_l11Balls_l2_r
      simp only [c1, ball_some hg hi, Option.bind_some, hl, if_true, wrap8 hi g3])
    (by
      intro back m _
      have c1 : decide ((g.1.toNat : Int) < g.1) = false := by simp; omega
      unfold spec_l11Balls_l2_r
      simp only [c1, Bool.false_eq_true, if_false])
theorem time_n {t : Tt} (h : timeB t = true) : t.1.1 = (t.1.1.toNat : Int) ∧ 0 < t.1.1.toNat ∧ t.1.1.toNat ≤ 8 ∧ t.2.1 = (t.2.1.toNat : Int) ∧ 1 ≤ t.2.1.toNat ∧ t.2.1.toNat ≤ 4 ∧ t.1.2.1.all (edgeB (t.1.1.toNat : Int)) = true ∧ risingE t.1.2.1 = true := by
  obtain ⟨g1, g2, g3, g4⟩ := timeB_parts h
  have g3 := inB_iff.1 g3
  have hn := graphB_n (n := t.1.1) (l := t.1.2.1) (u := t.1.2.2) g1
  obtain ⟨hE, hR⟩ := graphB_edges (n := t.1.1) (l := t.1.2.1) (u := t.1.2.2) g1
  have e : t.1.1 = (t.1.1.toNat : Int) := by omega
  refine ⟨e, by omega, by omega, by omega, by omega, by omega, by rw [← e]; exact hE, hR⟩
theorem open_grB {t : Tt} (h : timeB t = true) (ho : okT t = true) (r : Int) : grB (t.1.1, openE t r, ()) = true := by
  obtain ⟨e, h1, h2, _, _, _, h3, h4⟩ := time_n h
  have hk := openE_okL ho r
  unfold grB
  have e1 : decide (0 ≤ t.1.1) = true := by simp; omega
  have e2 : decide (t.1.1 ≤ 8) = true := by simp; omega
  have e3 : (openE t r).all (edgeB t.1.1) = true := by
    have := (openE_ok (t := t) (n := t.1.1.toNat) h3 h4 r).1
    rw [← e] at this
    exact this
  simp only [hk, e1, e2, e3, Bool.and_self]
theorem l11Balls_lim (d) (r) (h : G_l11Balls d = some r) : ∃ N, F_spec_l11Balls N d = some r := by
  obtain ⟨t, _⟩ := d
  unfold G_l11Balls at h
  split at h
  · rename_i hc
    simp only [Bool.and_eq_true] at hc
    obtain ⟨ht, ho⟩ := hc
    have h := Option.some.inj h
    subst h
    obtain ⟨n1, n2, n3, p1, p2, p3, _⟩ := time_n ht
    refine ⟨20, ?_⟩
    unfold F_spec_l11Balls
    have := loop_map (L := spec_l11Balls_l0 20) (r := spec_l11Balls_l0_r 20) (fun _ _ => rfl) (n := t.2.1.toNat) (mk := fun i m => (t, m, (i : Int), ())) (f := fun r : Nat => (List.range t.1.1.toNat).map fun x : Nat => ballF t.1.1.toNat (openE t (r : Int)) (x : Int)) (o := fun m => .inl (m, ()))
      (by
        intro back i m hi hm
        have c1 : decide ((i : Int) < t.2.1) = true := by simp; omega
        have hop := open_some ht ho (c := (i : Int)) (by omega) (by omega)
        have et : ((i : Int)).tmod t.2.1 = (i : Int) := by rw [Int.tmod_eq_of_lt (by omega) (by omega)]
        rw [et] at hop
        have hb := balls_l2 20 t m (i : Int) (t.1.1, openE t (i : Int), ()) (open_grB ht ho _) 19 (by show t.1.1.toNat ≤ 19; omega)
        have hl : decide (List.length m + List.length [(List.range t.1.1.toNat).map fun x : Nat => ballF t.1.1.toNat (openE t (i : Int)) (x : Int)] ≤ lim) = true := by
          rw [hm]; unfold lim; simp; omega
        unfold spec_l11Balls_l0_r
        simp only [c1, hop, hb, hl, if_true, Option.bind_some, wrap8 (show i < 8 by omega) (Nat.le_refl 8)])
      (by
        intro back m _
        have c1 : decide ((t.2.1.toNat : Int) < t.2.1) = false := by simp; omega
        unfold spec_l11Balls_l0_r
        simp only [c1, Bool.false_eq_true, if_false]) 19 (by omega)
    simp only [Int.natCast_zero] at this
    simp only [this, Option.bind_some]
    rfl
  · cases h
theorem okB_parts {n : Nat} {B : List Tab} (h : okB n B = true) : 1 ≤ B.length ∧ B.length ≤ 8 ∧ ∀ r (hr : r < B.length), B[r].length = n ∧ ∀ x (hx : x < B[r].length), B[r][x].length ≤ 8 ∧ ∀ z ∈ B[r][x], ∃ y : Nat, y < n ∧ z = (y : Int) := by
  unfold okB at h
  simp only [Bool.and_eq_true, decide_eq_true_eq, List.all_eq_true] at h
  obtain ⟨⟨h1, h2⟩, h3⟩ := h
  refine ⟨h1, h2, fun r hr => ?_⟩
  obtain ⟨h4, h5⟩ := h3 B[r] (List.getElem_mem hr)
  refine ⟨h4, fun x hx => ?_⟩
  obtain ⟨h6, h7⟩ := h5 B[r][x] (List.getElem_mem hx)
  refine ⟨h6, fun z hz => ?_⟩
  have := inB_iff.1 (h7 z hz)
  exact ⟨z.toNat, by omega, by omega⟩
theorem okT3_parts {n p : Nat} {T : List Tab} (h : okT3 n p T = true) : T.length = p ∧ ∀ r (hr : r < T.length), sqL n T[r] = true := by
  unfold okT3 at h
  simp only [Bool.and_eq_true, decide_eq_true_eq, List.all_eq_true] at h
  exact ⟨h.1, fun r hr => h.2 _ (List.getElem_mem hr)⟩
theorem getD_l {α : Type} {l : List α} {i : Nat} (h : i < l.length) (z : α) : l.getD i z = l[i] := by simp [List.getD_eq_getElem?_getD, h]
theorem l11After_l0 (N n : Nat) (B : List Tab) (hB : okB n B = true) (r q : Nat) (hr : r < B.length) (hq : q < n) (row : List Int) (hrow : row.length = n) : ∀ (k i f : Nat) (m : Int), i + k = (ballB B (r : Int) (q : Int)).length → k < f →
    spec_l11After_l0 N f (B, (r : Int), (q : Int), m, row, (i : Int), ()) = some (.inl (worstL (fun z => row.getD z.toNat 0) ((ballB B (r : Int) (q : Int)).drop i) m, ())) ∨ spec_l11After_l0 N f (B, (r : Int), (q : Int), m, row, (i : Int), ()) = some (.inr (.inl (worstL (fun z => row.getD z.toNat 0) ((ballB B (r : Int) (q : Int)).drop i) m, ()))) := by
  obtain ⟨_, _, hb⟩ := okB_parts hB
  obtain ⟨b1, b2⟩ := hb r hr
  have hq' : q < B[r].length := by omega
  obtain ⟨b3, b4⟩ := b2 q hq'
  have eb : ballB B (r : Int) (q : Int) = B[r][q] := by
    unfold ballB
    simp only [Int.toNat_natCast, getD_l hr, getD_l hq']
  rw [eb]
  have hmx : B[r][q].length ≤ maxLen := by unfold maxLen; omega
  intro k
  induction k with
  | zero =>
    intro i f m h1 h2
    obtain ⟨f, rfl⟩ : ∃ m, f = m + 1 := ⟨f - 1, by omega⟩
    have e : i = B[r][q].length := by omega
    subst e
    rw [List.drop_of_length_le (Nat.le_refl _)]
    right
    show spec_l11After_l0_r N (spec_l11After_l0 N f) _ = _
    unfold spec_l11After_l0_r
    simp only [idxIn_nat hr, idxIn_nat hq', Int.toNat_natCast, at_l (e := K_SSi) hr, at_l (e := K_Si) hq', lt_not, if_true, Bool.false_eq_true, if_false, worstL]
  | succ k ih =>
    intro i f m h1 h2
    obtain ⟨f, rfl⟩ : ∃ m, f = m + 1 := ⟨f - 1, by omega⟩
    have hi : i < B[r][q].length := by omega
    obtain ⟨y, hy, ey⟩ := b4 B[r][q][i] (List.getElem_mem hi)
    have hy' : y < row.length := by omega
    have hd : B[r][q].drop i = (y : Int) :: B[r][q].drop (i + 1) := by rw [List.drop_eq_getElem_cons hi, ey]
    have step : spec_l11After_l0 N (f + 1) (B, (r : Int), (q : Int), m, row, (i : Int), ()) = if row[y] < 0 then some (.inl (-1, ())) else spec_l11After_l0 N f (B, (r : Int), (q : Int), (if m < row[y] then row[y] else m), row, ((i + 1 : Nat) : Int), ()) := by
      show spec_l11After_l0_r N (spec_l11After_l0 N f) _ = _
      unfold spec_l11After_l0_r
      simp only [idxIn_nat hr, idxIn_nat hq', Int.toNat_natCast, at_l (e := K_SSi) hr, at_l (e := K_Si) hq', at_l (e := I) hi, idxIn_nat hi, lt_dec hi, if_true, ey, idxIn_nat hy', at_l (e := I) hy', most_eq, wrap_up hi hmx]
      by_cases h : row[y] < 0
      · simp only [h, decide_true, if_true]
      · simp only [h, decide_false, Bool.false_eq_true, if_false]
    rw [step, hd]
    simp only [worstL, Int.toNat_natCast, getD_l hy']
    by_cases h : row[y] < 0
    · rw [if_pos h, if_pos h]
      exact .inl rfl
    · rw [if_neg h, if_neg h]
      exact ih (i + 1) f _ (by omega) (by omega)
theorem next_mod {r p : Nat} (hr : r < p) (hp : p ≤ 8) : IntKind.wrap .i64 ((r : Int) + 1) = ((r + 1 : Nat) : Int) ∧ (((r : Int) + 1).tmod (p : Int)) = (((r + 1) % p : Nat) : Int) ∧ (r + 1) % p < p := by
  refine ⟨wrap8 hr hp, ?_, Nat.mod_lt _ (by omega)⟩
  have e : ((r : Int) + 1) = ((r + 1 : Nat) : Int) := rfl
  rw [e]
  exact (Int.ofNat_tmod _ _).symm
theorem nextT_l {p : Nat} {T : List Tab} (hT : T.length = p) (hp8 : p ≤ 8) {r : Nat} (hr : r < p) : ∃ h : (r + 1) % p < T.length, nextT p T (r : Int) = T[(r + 1) % p] := by
  obtain ⟨_, e2, e3⟩ := next_mod hr hp8
  have h : (r + 1) % p < T.length := by rw [hT]; exact e3
  refine ⟨h, ?_⟩
  unfold nextT
  rw [e2, Int.toNat_natCast, getD_l h]
theorem l11After_lim (d) (r) (h : G_l11After d = some r) : ∃ N, F_spec_l11After N d = some r := by
  obtain ⟨B, T, r0, c0, q0, _⟩ := d
  unfold G_l11After at h
  split at h
  · rename_i hc
    unfold okA at hc
    simp only [Bool.and_eq_true, decide_eq_true_eq] at hc
    obtain ⟨⟨⟨⟨⟨hB, h8⟩, hT⟩, hr0⟩, hc0⟩, hq0⟩ := hc
    have h := Option.some.inj h
    subst h
    obtain ⟨B1, B2, _⟩ := okB_parts hB
    obtain ⟨T1, T2⟩ := okT3_parts hT
    obtain ⟨er, hr⟩ := inB_len hr0
    obtain ⟨ec, hc⟩ := inB_len hc0
    obtain ⟨eq, hq⟩ := inB_len hq0
    generalize r0.toNat = r at er hr
    generalize c0.toNat = c at ec hc
    generalize q0.toNat = q at eq hq
    subst er ec eq
    refine ⟨20, ?_⟩
    unfold F_spec_l11After afterT
    by_cases e : (c : Int) = (q : Int)
    · simp only [e, beq_self_eq_true, if_true]
    · have e' : ((c : Int) == (q : Int)) = false := by simpa using e
      have e0 : ((List.length B : Int) != 0) = true := by rw [bne_iff_ne]; omega
      obtain ⟨w1, w2, w3⟩ := next_mod hr B2
      obtain ⟨hn, en⟩ := nextT_l (T := T) T1 B2 hr
      obtain ⟨s1, s2⟩ := sqL_parts (T2 _ hn)
      have hcn : c < T[(r + 1) % B.length].length := s1.symm ▸ hc
      have ec : at_ K_Si T[(r + 1) % B.length] c = T[(r + 1) % B.length][c] := at_l (e := K_Si) hcn
      have hrow : T[(r + 1) % B.length][c].length = nB B := by rw [← ec]; exact s2 c hc
      have w2' : (((r + 1 : Nat) : Int)).tmod (B.length : Int) = (((r + 1) % B.length : Nat) : Int) := w2
      have key := l11After_l0 20 (nB B) B hB r q hr hq T[(r + 1) % B.length][c] hrow (ballB B (r : Int) (q : Int)).length 0 20 0 (by omega) (by
        obtain ⟨_, _, hb⟩ := okB_parts hB
        obtain ⟨b1, b2⟩ := hb r hr
        have hq' : q < B[r].length := by omega
        have := (b2 q hq').1
        unfold ballB
        simp only [Int.toNat_natCast, getD_l hr, getD_l hq']
        omega)
      simp only [Int.natCast_zero, List.drop_zero] at key
      have hw : worstL (fun z => T[(r + 1) % B.length][c].getD z.toNat 0) (ballB B (r : Int) (q : Int)) 0 = worstL (tab2 (nextT B.length T (r : Int)) (c : Int)) (ballB B (r : Int) (q : Int)) 0 := worst_congr fun z hz => by
        unfold tab2
        rw [en, Int.toNat_natCast, getD_l hcn]
      rw [hw] at key
      simp only [e', e, Bool.false_eq_true, if_false, w1, e0, if_true, w2', idxIn_nat hn, Int.toNat_natCast, at_l (e := K_SSi) hn, idxIn_nat hcn, ec]
      rcases key with h | h <;> simp only [h, Option.bind_some]
  · cases h
end Go.V.W
set_option linter.unusedVariables false
set_option linter.unusedSimpArgs false
namespace Go.V.W
open Go.Proofs
theorem inB_of {n x : Nat} (h : x < n) : inB 0 ((n : Int) - 1) (x : Int) = true := inB_iff.2 (by omega)
theorem okA_of {B T : List Tab} {u : Unit} (hB : okB (nB B) B = true) (h8 : nB B ≤ 8) (hT : okT3 (nB B) B.length T = true) {r c q : Nat} (hr : r < B.length) (hc : c < nB B) (hq : q < nB B) : okA (B, T, (r : Int), (c : Int), (q : Int), u) = true := by
  unfold okA
  have e8 : decide (nB B ≤ 8) = true := decide_eq_true h8
  simp only [hB, e8, hT, inB_of hr, inB_of hc, inB_of hq, Bool.and_self]
theorem ballsT_ok {t : Tt} (ht : timeB t = true) : okB t.1.1.toNat (ballsT t) = true ∧ (ballsT t).length = t.2.1.toNat ∧ nB (ballsT t) = t.1.1.toNat ∧ ∀ r : Nat, r < t.2.1.toNat → ∀ x : Nat, x < t.1.1.toNat → ballB (ballsT t) (r : Int) (x : Int) = ballF t.1.1.toNat (openE t (r : Int)) (x : Int) := by
  obtain ⟨n1, n2, n3, p1, p2, p3, _⟩ := time_n ht
  have hl : (ballsT t).length = t.2.1.toNat := by unfold ballsT; simp
  have hg : ∀ r (hr : r < (ballsT t).length), (ballsT t)[r] = (List.range t.1.1.toNat).map fun x : Nat => ballF t.1.1.toNat (openE t (r : Int)) (x : Int) := fun r hr => by
    apply Option.some.inj
    rw [← List.getElem?_eq_getElem hr]
    unfold ballsT
    rw [List.getElem?_map, List.getElem?_range (by omega)]
    rfl
  refine ⟨?_, hl, ?_, fun r hr x hx => ?_⟩
  · unfold okB
    simp only [Bool.and_eq_true, decide_eq_true_eq, List.all_eq_true]
    refine ⟨⟨by omega, by omega⟩, fun b hb => ?_⟩
    obtain ⟨r, hr, rfl⟩ := List.getElem_of_mem hb
    rw [hg r hr]
    refine ⟨by simp, fun l hl' => ?_⟩
    obtain ⟨x, hx, rfl⟩ := List.mem_map.1 hl'
    have hx := List.mem_range.1 hx
    refine ⟨?_, fun z hz => ?_⟩
    · have := ballF_len t.1.1.toNat (openE t (r : Int)) (x : Int); omega
    · obtain ⟨y, hy, rfl⟩ := ballF_ok t.1.1.toNat (openE t (r : Int)) x hx z hz
      exact inB_of hy
  · unfold nB
    have h0 : 0 < (ballsT t).length := by omega
    have : ∀ (l : List Tab) (h : 0 < l.length), l.headD [] = l[0] := fun l h => by
      cases l with
      | nil => simp at h
      | cons a l => rfl
    rw [this _ h0, hg 0 h0]
    simp
  · have hr' : r < (ballsT t).length := by omega
    unfold ballB
    simp only [Int.toNat_natCast, getD_l hr', hg r hr', List.getD_eq_getElem?_getD]
    rw [List.getElem?_map, List.getElem?_range hx]
    rfl
theorem afterT_congr {b1 b2 : Int → List Int} {T : Tab} {b q : Int} (h : b1 q = b2 q) : afterT b1 T b q = afterT b2 T b q := by
  unfold afterT
  rw [h]
end Go.V.W
set_option linter.unusedVariables false
set_option linter.unusedSimpArgs false
namespace Go.V.W
open Go.Proofs
theorem netsB_parts {n : Nat} {nets : List Nt} (h : netsB n nets = true) : 1 ≤ nets.length ∧ nets.length ≤ 8 ∧ ∀ r (hr : r < nets.length), netB nets[r].1 = true ∧ nets[r].1.length = n := by
  unfold netsB at h
  simp only [Bool.and_eq_true, decide_eq_true_eq, List.all_eq_true] at h
  exact ⟨h.1.1, h.1.2, fun r hr => h.2 _ (List.getElem_mem hr)⟩
theorem nN_get {nets : List Nt} (h : 0 < nets.length) : nN nets = nets[0].1.length := by
  unfold nN
  cases nets with
  | nil => simp at h
  | cons a l => rfl
theorem netsL_ok {t : Tt} (ht : timeB t = true) : netsB t.1.1.toNat (netsL t) = true ∧ (netsL t).length = t.2.1.toNat ∧ nN (netsL t) = t.1.1.toNat ∧ ∀ r : Nat, r < t.2.1.toNat → ∀ x : Nat, x < t.1.1.toNat → ballN (netsL t) r (x : Int) = ballF t.1.1.toNat (openE t (r : Int)) (x : Int) := by
  obtain ⟨n1, n2, n3, p1, p2, p3, h4, h5⟩ := time_n ht
  have hl : (netsL t).length = t.2.1.toNat := by unfold netsL; simp
  have hg : ∀ r (hr : r < (netsL t).length), (netsL t)[r] = (toI (netN t.1.1.toNat (openE t (r : Int))), ()) := fun r hr => by
    apply Option.some.inj
    rw [← List.getElem?_eq_getElem hr]
    unfold netsL
    rw [List.getElem?_map, List.getElem?_range (by omega)]
    rfl
  have he : ∀ r : Int, (openE t r).all (edgeB (t.1.1.toNat : Int)) = true := fun r => (openE_ok (t := t) (n := t.1.1.toNat) h4 h5 r).1
  refine ⟨?_, hl, ?_, fun r hr x hx => ?_⟩
  · unfold netsB
    simp only [Bool.and_eq_true, decide_eq_true_eq, List.all_eq_true]
    refine ⟨⟨by omega, by omega⟩, fun w hw => ?_⟩
    obtain ⟨r, hr, rfl⟩ := List.getElem_of_mem hw
    rw [hg r hr]
    exact netB_net n3 (he _)
  · have h0 : 0 < (netsL t).length := by omega
    rw [nN_get h0, hg 0 h0]
    exact (netB_net n3 (he _)).2
  · have hr' : r < (netsL t).length := by omega
    unfold ballN
    rw [getD_l hr', hg r hr']
    exact ball_same n3 (he _) hx
theorem eqIntSSS_self (T : List Tab) (u : Unit) (h : okL3 T = true) : G_eqIntSSS (T, T, u) = some (true, ()) := by
  unfold G_eqIntSSS
  simp only [h, if_true, decide_true]
end Go.V.W
set_option linter.unusedVariables false
set_option linter.unusedSimpArgs false
namespace Go.V.W
theorem tab3_len (p n : Nat) (f : Nat → Nat → Nat → Int) : (tab3 p n f).length = p := by simp [tab3]
theorem tab3_get {p n r : Nat} (f : Nat → Nat → Nat → Int) (hr : r < p) (h : r < (tab3 p n f).length) : (tab3 p n f)[r] = tabL n (f r) := by
  apply Option.some.inj
  rw [← List.getElem?_eq_getElem h]
  unfold tab3
  rw [List.getElem?_map, List.getElem?_range hr]
  rfl
theorem tab3_at {p n r : Nat} (f : Nat → Nat → Nat → Int) (hr : r < p) : at_ K_SSi (tab3 p n f) r = tabL n (f r) := by
  have h : r < (tab3 p n f).length := by rw [tab3_len]; exact hr
  rw [at_l (e := K_SSi) h, tab3_get f hr h]
theorem tabL_at {n c : Nat} (f : Nat → Nat → Int) (hc : c < n) : at_ K_Si (tabL n f) c = (List.range n).map (f c) := by
  have h : c < (tabL n f).length := by rw [tabL_len]; exact hc
  rw [at_l (e := K_Si) h]
  apply Option.some.inj
  rw [← List.getElem?_eq_getElem h]
  exact tabL_row f hc
theorem row_at {n q : Nat} (g : Nat → Int) (hq : q < n) : at_ I ((List.range n).map g) q = g q := by
  have h : q < ((List.range n).map g).length := by simpa using hq
  rw [at_l (e := I) h]
  simp
theorem row_len (n : Nat) (g : Nat → Int) : ((List.range n).map g).length = n := by simp
theorem tab3_congr {p n : Nat} {f g : Nat → Nat → Nat → Int} (h : ∀ r c q, r < p → c < n → q < n → f r c q = g r c q) : tab3 p n f = tab3 p n g := by
  unfold tab3
  exact List.map_congr_left fun r hr => tabL_congr fun c q hc hq => h r c q (List.mem_range.1 hr) hc hq
/-- One number put anew. -/
def upd3 (f : Nat → Nat → Nat → Int) (r c q : Nat) (v : Int) : Nat → Nat → Nat → Int := fun a b d => if a = r ∧ b = c ∧ d = q then v else f a b d
theorem tab3_set {p n r c q : Nat} (f : Nat → Nat → Nat → Int) (hr : r < p) (hc : c < n) (hq : q < n) (v : Int) :
    List.set (tab3 p n f) r (List.set (tabL n (f r)) c (List.set ((List.range n).map (f r c)) q v)) = tab3 p n (upd3 f r c q v) := by
  have e1 : (List.range n).map (f r c) = at_ K_Si (tabL n (f r)) c := (tabL_at (f r) hc).symm
  rw [e1, tabL_set hc hq v]
  apply List.ext_getElem
  · simp [tab3_len]
  · intro i h1 h2
    have hi : i < p := by simpa [tab3_len] using h1
    rw [List.getElem_set]
    split
    · rename_i e
      subst e
      rw [tab3_get (upd3 f r c q v) hi]
      exact tabL_congr fun a b _ _ => by unfold upd3; simp
    · rename_i e
      rw [tab3_get f hi, tab3_get (upd3 f r c q v) hi]
      exact tabL_congr fun a b _ _ => by
        unfold upd3
        rw [if_neg (by rintro ⟨h, _⟩; exact e h.symm)]
theorem any3_spec {p n : Nat} {g : Nat → Nat → Nat → Bool} : any3 p n g = true ↔ ∃ r c q, r < p ∧ c < n ∧ q < n ∧ g r c q = true := by
  unfold any3
  simp only [List.any_eq_true, List.mem_range]
  constructor
  · rintro ⟨r, hr, c, hc, q, hq, h⟩
    exact ⟨r, c, q, hr, hc, hq, h⟩
  · rintro ⟨r, c, q, hr, hc, hq, h⟩
    exact ⟨r, hr, c, hc, q, hq, h⟩
theorem negs_sub {n : Nat} {f g : Nat → Nat → Int} (h : ∀ c q, g c q < 0 → f c q < 0) : negs n g ≤ negs n f ∧ ((∃ c q, c < n ∧ q < n ∧ f c q < 0 ∧ ¬ g c q < 0) → negs n g < negs n f) := by
  have hsub := countP_lt (p := fun i => decide (f (i / n) (i % n) < 0)) (q := fun i => decide (g (i / n) (i % n) < 0)) (l := List.range (n * n)) (fun i _ hi => decide_eq_true (h _ _ (of_decide_eq_true hi)))
  refine ⟨hsub.1, fun ⟨c, q, hc, hq, h1, h2⟩ => hsub.2 ⟨c * n + q, ?_, ?_, ?_⟩⟩
  · rw [List.mem_range]
    have : (c + 1) * n ≤ n * n := Nat.mul_le_mul_right _ hc
    rw [Nat.succ_mul] at this
    omega
  all_goals
    have e1 : (c * n + q) / n = c := by
      rw [Nat.mul_comm, Nat.mul_add_div (by omega), Nat.div_eq_of_lt hq]
      omega
    have e2 : (c * n + q) % n = q := by
      rw [Nat.mul_comm, Nat.mul_add_mod, Nat.mod_eq_of_lt hq]
    rw [e1, e2]
  · exact decide_eq_true h1
  · exact decide_eq_false h2
def negs3 (p n : Nat) (f : Nat → Nat → Nat → Int) : Nat := ((List.range p).map fun r => negs n (f r)).sum
theorem sum_lt {l : List Nat} {f g : Nat → Nat} : (∀ x ∈ l, g x ≤ f x) → ((l.map g).sum ≤ (l.map f).sum ∧ ((∃ x ∈ l, g x < f x) → (l.map g).sum < (l.map f).sum)) := by
  induction l with
  | nil => intro _; exact ⟨Nat.le_refl _, fun ⟨x, hx, _⟩ => by simp at hx⟩
  | cons a l ih =>
    intro h
    obtain ⟨h1, h2⟩ := ih fun x hx => h x (by simp [hx])
    have ha := h a (by simp)
    simp only [List.map_cons, List.sum_cons]
    refine ⟨by omega, fun ⟨x, hx, h3⟩ => ?_⟩
    rcases List.mem_cons.1 hx with rfl | hx
    · omega
    · have := h2 ⟨x, hx, h3⟩; omega
theorem negs3_step {p n : Nat} {ball : Nat → Int → List Int} {t : Int} (ht : 0 ≤ t) {f : Nat → Nat → Nat → Int} (h : any3 p n (can3 p n ball f) = true) : negs3 p n (step3 p n ball t f) < negs3 p n f := by
  obtain ⟨r, c, q, hr, hc, hq, hcan⟩ := any3_spec.1 h
  have hsub : ∀ r c q, step3 p n ball t f r c q < 0 → f r c q < 0 := fun r c q hi => by
    unfold step3 at hi
    split at hi
    · omega
    · exact hi
  refine (sum_lt fun r _ => (negs_sub (hsub r)).1).2 ⟨r, List.mem_range.2 hr, (negs_sub (hsub r)).2 ⟨c, q, hc, hq, ?_, ?_⟩⟩
  · unfold can3 at hcan
    simp only [Bool.and_eq_true] at hcan
    exact of_decide_eq_true hcan.1
  · unfold step3
    rw [if_pos hcan]
    omega
theorem negs3_le (p n : Nat) (f : Nat → Nat → Nat → Int) : negs3 p n f ≤ p * (n * n) := by
  unfold negs3
  have : ∀ l : List Nat, (l.map fun r => negs n (f r)).sum ≤ l.length * (n * n) := by
    intro l
    induction l with
    | nil => simp
    | cons a l ih =>
      have := negs_le n (f a)
      simp only [List.map_cons, List.sum_cons, List.length_cons, Nat.succ_mul]
      omega
  simpa using this (List.range p)
/-- What holds of the numbers before each round. -/
structure Inv3 (p n : Nat) (ball : Nat → Int → List Int) (f : Nat → Nat → Nat → Int) : Prop where
  low : ∀ r c q, -1 ≤ f r c q
  home : ∀ r c, f r c c = 0
  away : ∀ r c q, c ≠ q → f r c q ≠ 0
  why : ∀ r c q, r < p → c < n → q < n → 0 ≤ f r c q → c = q ∨ ∃ b ∈ ball r (c : Int), 0 ≤ afterT (ball r) (tabL n (f ((r + 1) % p))) b (q : Int)
theorem Inv3.start (p n : Nat) (ball : Nat → Int → List Int) : Inv3 p n ball start3 := by
  refine ⟨fun r c q => ?_, fun r c => ?_, fun r c q h => ?_, fun r c q _ _ _ h => ?_⟩
  · unfold start3 startF; split <;> omega
  · unfold start3 startF; simp
  · unfold start3 startF; rw [if_neg h]; omega
  · unfold start3 startF at h
    by_cases e : c = q
    · exact .inl e
    · rw [if_neg e] at h; omega
def okBalls (p n : Nat) (ball : Nat → Int → List Int) : Prop := ∀ r, r < p → okBall n (ball r)
/-- Numbers that are there stay. -/
theorem after_mono {n : Nat} {ball : Int → List Int} (hb : okBall n ball) {f g : Nat → Nat → Int} (h : ∀ c q, 0 ≤ f c q → 0 ≤ g c q) {b q : Nat} (hbn : b < n) (hq : q < n) (h0 : 0 ≤ afterT ball (tabL n f) (b : Int) (q : Int)) : 0 ≤ afterT ball (tabL n g) (b : Int) (q : Int) := by
  unfold afterT at h0 ⊢
  by_cases e : (b : Int) = (q : Int)
  · rw [if_pos e]; exact Int.le_refl _
  · rw [if_neg e] at h0 ⊢
    rcases worst_spec (tab2 (tabL n f) (b : Int)) (ball (q : Int)) 0 with ⟨_, h1⟩ | ⟨h1, _, _⟩
    · omega
    · rcases worst_spec (tab2 (tabL n g) (b : Int)) (ball (q : Int)) 0 with ⟨⟨x, hx, h2⟩, _⟩ | ⟨_, h2, _⟩
      · exfalso
        obtain ⟨y, hy, rfl⟩ := hb q hq x hx
        have := (h1 _ hx).1
        rw [tab2_tabL _ hbn hy] at this h2
        have := h _ _ this
        omega
      · exact h2
theorem Inv3.next {p n : Nat} {ball : Nat → Int → List Int} (hb : okBalls p n ball) {t : Int} (ht : 1 ≤ t) {f : Nat → Nat → Nat → Int} (hI : Inv3 p n ball f) : Inv3 p n ball (step3 p n ball t f) := by
  have hkeep : ∀ r c q, 0 ≤ f r c q → step3 p n ball t f r c q = f r c q := fun r c q h => by
    unfold step3 can3
    have : decide (f r c q < 0) = false := by simp; omega
    simp [this]
  have hge : ∀ r c q, 0 ≤ f r c q → 0 ≤ step3 p n ball t f r c q := fun r c q h => by rw [hkeep r c q h]; exact h
  refine ⟨fun r c q => ?_, fun r c => ?_, fun r c q h => ?_, fun r c q hr hc hq h => ?_⟩
  · unfold step3; split
    · omega
    · exact hI.low r c q
  · rw [hkeep r c c (by rw [hI.home]; exact Int.le_refl _)]; exact hI.home r c
  · unfold step3; split
    · omega
    · exact hI.away r c q h
  · have key : (∃ b ∈ ball r (c : Int), 0 ≤ afterT (ball r) (tabL n (f ((r + 1) % p))) b (q : Int)) → ∃ b ∈ ball r (c : Int), 0 ≤ afterT (ball r) (tabL n (step3 p n ball t f ((r + 1) % p))) b (q : Int) := by
      rintro ⟨b, hbm, h1⟩
      obtain ⟨y, hy, rfl⟩ := hb r hr c hc b hbm
      exact ⟨_, hbm, after_mono (hb r hr) (hge _) hy hq h1⟩
    by_cases hf : 0 ≤ f r c q
    · exact (hI.why r c q hr hc hq hf).imp _root_.id key
    · right
      have hcan : can3 p n ball f r c q = true := by
        cases hcan : can3 p n ball f r c q with
        | true => rfl
        | false => unfold step3 at h; rw [if_neg (by rw [hcan]; simp)] at h; exact absurd h hf
      unfold can3 at hcan
      simp only [Bool.and_eq_true, List.any_eq_true, decide_eq_true_eq] at hcan
      exact key hcan.2
theorem can3_congr {p n : Nat} {b1 b2 : Nat → Int → List Int} (hb : ∀ r, r < p → ∀ x : Nat, x < n → b1 r (x : Int) = b2 r (x : Int)) {f g : Nat → Nat → Nat → Int} (h : ∀ r c q, r < p → c < n → q < n → f r c q = g r c q) {r c q : Nat} (hr : r < p) (hc : c < n) (hq : q < n) : can3 p n b1 f r c q = can3 p n b2 g r c q := by
  have hm : (r + 1) % p < p := Nat.mod_lt _ (by omega)
  unfold can3 afterT
  rw [h r c q hr hc hq, tabL_congr (f := f ((r + 1) % p)) (g := g ((r + 1) % p)) (fun a b ha hb' => h _ a b hm ha hb'), hb r hr c hc, hb r hr q hq]
theorem times3_congr {p n : Nat} {b1 b2 : Nat → Int → List Int} (hb : ∀ r, r < p → ∀ x : Nat, x < n → b1 r (x : Int) = b2 r (x : Int)) : ∀ (k : Nat) (t : Int) (f g : Nat → Nat → Nat → Int), (∀ r c q, r < p → c < n → q < n → f r c q = g r c q) → ∀ r c q, r < p → c < n → q < n → times3 p n b1 k t f r c q = times3 p n b2 k t g r c q := by
  intro k
  induction k with
  | zero => intro t f g h; exact h
  | succ k ih =>
    intro t f g h r c q hr hc hq
    have ha : any3 p n (can3 p n b1 f) = any3 p n (can3 p n b2 g) := by
      apply Bool.eq_iff_iff.2
      rw [any3_spec, any3_spec]
      constructor
      · rintro ⟨r, c, q, hr, hc, hq, hh⟩
        exact ⟨r, c, q, hr, hc, hq, by rw [← can3_congr hb h hr hc hq]; exact hh⟩
      · rintro ⟨r, c, q, hr, hc, hq, hh⟩
        exact ⟨r, c, q, hr, hc, hq, by rw [can3_congr hb h hr hc hq]; exact hh⟩
    simp only [times3, ha]
    split
    · refine ih (t + 1) _ _ (fun r c q hr hc hq => ?_) r c q hr hc hq
      unfold step3
      rw [can3_congr hb h hr hc hq, h r c q hr hc hq]
    · exact h r c q hr hc hq
theorem timesT3_congr {p n : Nat} {b1 b2 : Nat → Int → List Int} (hb : ∀ r, r < p → ∀ x : Nat, x < n → b1 r (x : Int) = b2 r (x : Int)) : timesT3 p n b1 = timesT3 p n b2 :=
  tab3_congr (times3_congr hb 520 1 start3 start3 fun _ _ _ _ _ _ => rfl)
theorem tab3_ok (p n : Nat) (f : Nat → Nat → Nat → Int) : okT3 n p (tab3 p n f) = true := by
  unfold okT3
  rw [Bool.and_eq_true, List.all_eq_true]
  refine ⟨decide_eq_true (tab3_len p n f), fun x hx => ?_⟩
  obtain ⟨r, hr, rfl⟩ := List.getElem_of_mem hx
  rw [tab3_get f (by rw [tab3_len] at hr; exact hr)]
  exact tabL_sq n _
theorem tab3_next {p n r : Nat} (f : Nat → Nat → Nat → Int) (hr : r < p) (hp : p ≤ 8) : nextT p (tab3 p n f) (r : Int) = tabL n (f ((r + 1) % p)) := by
  obtain ⟨h, e⟩ := nextT_l (T := tab3 p n f) (tab3_len p n f) hp hr
  rw [e, tab3_get f (Nat.mod_lt _ (by omega))]
end Go.V.W
set_option linter.unusedVariables false
set_option linter.unusedSimpArgs false
namespace Go.V.W
open Go.Proofs
theorem lim_app {α : Type} {m : List α} {x : α} {k : Nat} (h : m.length ≤ k) (hk : k ≤ 100000) : decide (List.length m + List.length [x] ≤ lim) = true := by
  unfold lim
  simp
  omega
theorem start_l4 (N : Nat) (p n : Nat) (hn : n ≤ 8) (out : List Tab) (r : Int) (rows : Tab) (x : Nat) (k : Nat) (hk : n ≤ k) :
    spec_l11Start_l4 N (k + 1) ((p : Int), (n : Int), out, r, rows, (x : Int), [], (0 : Int), ()) = some (.inl ((p : Int), (n : Int), out, r, rows, (x : Int), (List.range n).map (startF x), ())) := by
  refine loop_map (L := spec_l11Start_l4 N) (r := spec_l11Start_l4_r N) (fun _ _ => rfl) (n := n) (mk := fun i m => ((p : Int), (n : Int), out, r, rows, (x : Int), m, (i : Int), ())) (f := startF x) (o := fun m => .inl ((p : Int), (n : Int), out, r, rows, (x : Int), m, ())) ?_ ?_ k hk
  · intro back i m hi hm
    have hml : m.length ≤ 8 := by rw [hm]; simp; omega
    unfold spec_l11Start_l4_r startF
    simp only [lt_dec hi, if_true, lim_app hml (by omega), wrap8 hi hn]
    by_cases e : x = i
    · subst e; simp only [beq_self_eq_true, if_true, lim_app hml (by omega)]
    · have e' : ((x : Int) == (i : Int)) = false := by simpa using fun h : (x : Int) = (i : Int) => e (by omega)
      simp only [e', e, Bool.false_eq_true, if_false, lim_app hml (by omega), if_true]
  · intro back m _
    unfold spec_l11Start_l4_r
    simp only [lt_not, Bool.false_eq_true, if_false]
theorem start_l2 (N : Nat) (hN : 10 ≤ N) (p n : Nat) (hn : n ≤ 8) (out : List Tab) (r : Int) (k : Nat) (hk : n ≤ k) :
    spec_l11Start_l2 N (k + 1) ((p : Int), (n : Int), out, r, [], (0 : Int), ()) = some (.inl ((p : Int), (n : Int), out, r, tabL n startF, ())) := by
  refine loop_map (L := spec_l11Start_l2 N) (r := spec_l11Start_l2_r N) (fun _ _ => rfl) (n := n) (mk := fun i m => ((p : Int), (n : Int), out, r, m, (i : Int), ())) (f := fun x => (List.range n).map (startF x)) (o := fun m => .inl ((p : Int), (n : Int), out, r, m, ())) ?_ ?_ k hk
  · intro back i m hi hm
    have hml : m.length ≤ 8 := by rw [hm]; simp; omega
    have h4 := start_l4 N p n hn out r m i (N - 1) (by omega)
    rw [show N - 1 + 1 = N by omega] at h4
    unfold spec_l11Start_l2_r
    simp only [lt_dec hi, if_true, h4, Option.bind_some, lim_app hml (by omega), wrap8 hi hn]
  · intro back m _
    unfold spec_l11Start_l2_r
    simp only [lt_not, Bool.false_eq_true, if_false]
theorem l11Start_lim (d) (r) (h : G_l11Start d = some r) : ∃ N, F_spec_l11Start N d = some r := by
  obtain ⟨p, n, _⟩ := d
  unfold G_l11Start at h
  split at h
  · rename_i hc
    simp only [Bool.and_eq_true] at hc
    have hp := inB_iff.1 hc.1
    have hn := inB_iff.1 hc.2
    have h := Option.some.inj h
    subst h
    have ep : p = (p.toNat : Int) := by omega
    have en : n = (n.toNat : Int) := by omega
    have hn8 : n.toNat ≤ 8 := by omega
    have hp8 : p.toNat ≤ 8 := by omega
    refine ⟨20, ?_⟩
    unfold F_spec_l11Start
    have := loop_map (L := spec_l11Start_l0 20) (r := spec_l11Start_l0_r 20) (fun _ _ => rfl) (n := p.toNat) (mk := fun i m => ((p.toNat : Int), (n.toNat : Int), m, (i : Int), ())) (f := fun _ => tabL n.toNat startF) (o := fun m => .inl (m, ()))
      (by
        intro back i m hi hm
        have hml : m.length ≤ 8 := by rw [hm]; simp; omega
        have h4 := start_l2 20 (by omega) p.toNat n.toNat hn8 m (i : Int) 19 (by omega)
        unfold spec_l11Start_l0_r
        simp only [lt_dec hi, if_true, h4, Option.bind_some, lim_app hml (by omega), wrap8 hi hp8])
      (by
        intro back m _
        unfold spec_l11Start_l0_r
        simp only [lt_not, Bool.false_eq_true, if_false]) 19 (by omega)
    simp only [Int.natCast_zero, ← ep, ← en] at this
    simp only [this, Option.bind_some]
    rfl
  · cases h
theorem l11Can_lim (d) (r) (h : G_l11Can d = some r) : ∃ N, F_spec_l11Can N d = some r := by
  obtain ⟨B, T, r0, c0, q0, _⟩ := d
  unfold G_l11Can at h
  split at h
  · rename_i hA
    have hc := hA
    unfold okA at hc
    simp only [Bool.and_eq_true, decide_eq_true_eq] at hc
    obtain ⟨⟨⟨⟨⟨hB, h8⟩, hT⟩, hr0⟩, hc0⟩, hq0⟩ := hc
    have h := Option.some.inj h
    subst h
    obtain ⟨B1, B2, B3⟩ := okB_parts hB
    obtain ⟨er, hr⟩ := inB_len hr0
    obtain ⟨ec, hc⟩ := inB_len hc0
    obtain ⟨eq, hq⟩ := inB_len hq0
    generalize r0.toNat = r at er hr
    generalize c0.toNat = c at ec hc
    generalize q0.toNat = q at eq hq
    subst er ec eq
    obtain ⟨b1, b2⟩ := B3 r hr
    have hcB : c < B[r].length := by omega
    obtain ⟨b3, b4⟩ := b2 c hcB
    have eb : ballB B (r : Int) (c : Int) = B[r][c] := by
      unfold ballB
      simp only [Int.toNat_natCast, getD_l hr, getD_l hcB]
    have hmx : B[r][c].length ≤ maxLen := by unfold maxLen; omega
    refine ⟨20, ?_⟩
    unfold F_spec_l11Can
    have key := loop_every (L := spec_l11Can_l0 20) (r := spec_l11Can_l0_r 20) (fun _ _ => rfl) B[r][c] (mk := fun i => (B, T, (r : Int), (c : Int), (q : Int), (i : Int), ())) (q := fun b => !decide (0 ≤ afterT (ballB B (r : Int)) (nextT B.length T (r : Int)) b (q : Int))) (o := .inl (true, ())) (f := .inr (.inl ()))
      (by
        intro back i hi
        obtain ⟨y, hy, ey⟩ := b4 B[r][c][i] (List.getElem_mem hi)
        have hA := okA_of (u := ()) hB h8 hT hr hy hq
        unfold spec_l11Can_l0_r
        simp only [idxIn_nat hr, idxIn_nat hcB, idxIn_nat hi, Int.toNat_natCast, at_l (e := K_SSi) hr, at_l (e := K_Si) hcB, at_l (e := I) hi, lt_dec hi, if_true, ey, G_l11After, hA, Option.bind_some, wrap_up hi hmx, ge_iff_le]
        cases decide (0 ≤ afterT (ballB B (r : Int)) (nextT B.length T (r : Int)) (y : Int) (q : Int)) <;> rfl)
      (by
        intro back
        unfold spec_l11Can_l0_r
        simp only [idxIn_nat hr, idxIn_nat hcB, Int.toNat_natCast, at_l (e := K_SSi) hr, at_l (e := K_Si) hcB, lt_not, if_true, Bool.false_eq_true, if_false]) 19 0 (by omega) (by omega)
    simp only [Int.natCast_zero, List.drop_zero] at key
    simp only [key, eb]
    have ea : ∀ (p : Int → Bool) (l : List Int), (l.all fun b => !p b) = !l.any p := fun p l => by simp [List.all_eq_not_any_not]
    rw [ea]
    cases (B[r][c].any fun b => decide (0 ≤ afterT (ballB B (r : Int)) (nextT B.length T (r : Int)) b (q : Int))) <;> rfl
  · cases h
/-- Numbers of one row, of some rows, put anew up to a place. -/
def fillQ (h g : Nat → Nat → Nat → Int) (r c i : Nat) : Nat → Nat → Nat → Int := fun a b d => if a = r ∧ b = c ∧ d < i then h a b d else g a b d
def fillC (h g : Nat → Nat → Nat → Int) (r i : Nat) : Nat → Nat → Nat → Int := fun a b d => if a = r ∧ b < i then h a b d else g a b d
def fillR (h g : Nat → Nat → Nat → Int) (i : Nat) : Nat → Nat → Nat → Int := fun a b d => if a < i then h a b d else g a b d
theorem can_some {t : Tt} (ht : timeB t = true) (f : Nat → Nat → Nat → Int) {r c q : Nat} (hr : r < t.2.1.toNat) (hc : c < t.1.1.toNat) (hq : q < t.1.1.toNat) (hf : f r c q < 0) :
    G_l11Can (ballsT t, tab3 t.2.1.toNat t.1.1.toNat f, (r : Int), (c : Int), (q : Int), ()) = some (can3 t.2.1.toNat t.1.1.toNat (ballO t) f r c q, ()) := by
  obtain ⟨b1, b2, b3, b4⟩ := ballsT_ok ht
  obtain ⟨n1, n2, n3, p1, p2, p3, _⟩ := time_n ht
  have hA : okA (ballsT t, tab3 t.2.1.toNat t.1.1.toNat f, (r : Int), (c : Int), (q : Int), ()) = true := okA_of (by rw [b3]; exact b1) (by omega) (by rw [b2, b3]; exact tab3_ok _ _ _) (by omega) (by omega) (by omega)
  unfold G_l11Can can3
  have hd : decide (f r c q < 0) = true := decide_eq_true hf
  simp only [hA, if_true, b2, tab3_next f hr (show t.2.1.toNat ≤ 8 by omega), hd, Bool.true_and]
  rw [b4 r hr c hc]
  congr 2
  apply congrArg
  funext b
  rw [afterT_congr (b1 := ballB (ballsT t) (r : Int)) (b2 := ballO t r) (b4 r hr q hq)]
theorem times_l6' (N : Nat) (t : Tt) (ht : timeB t = true) (f g : Nat → Nat → Nat → Int) (m : Int) (fl : Bool) (r c : Nat) (hr : r < t.2.1.toNat) (hc : c < t.1.1.toNat) (k : Nat) (hk : t.1.1.toNat ≤ k) :
    spec_l11Times_l6 N (k + 1) (t, ballsT t, tab3 t.2.1.toNat t.1.1.toNat f, m, tab3 t.2.1.toNat t.1.1.toNat g, fl, (r : Int), (c : Int), (0 : Int), ()) =
      some (.inl (t, ballsT t, tab3 t.2.1.toNat t.1.1.toNat f, m, tab3 t.2.1.toNat t.1.1.toNat (fillQ (step3 t.2.1.toNat t.1.1.toNat (ballO t) m f) g r c t.1.1.toNat), fl || (List.range t.1.1.toNat).any (can3 t.2.1.toNat t.1.1.toNat (ballO t) f r c), (r : Int), (c : Int), ())) := by
  obtain ⟨n1, n2, n3, p1, p2, p3, _⟩ := time_n ht
  have h0 : tab3 t.2.1.toNat t.1.1.toNat g = tab3 t.2.1.toNat t.1.1.toNat (fillQ (step3 t.2.1.toNat t.1.1.toNat (ballO t) m f) g r c 0) := tab3_congr fun a b d _ _ _ => by unfold fillQ; simp
  have := loop_iter (L := spec_l11Times_l6 N) (r := spec_l11Times_l6_r N) (fun _ _ => rfl) (n := t.1.1.toNat) (mk := fun i => (t, ballsT t, tab3 t.2.1.toNat t.1.1.toNat f, m, tab3 t.2.1.toNat t.1.1.toNat (fillQ (step3 t.2.1.toNat t.1.1.toNat (ballO t) m f) g r c i), fl || (List.range i).any (can3 t.2.1.toNat t.1.1.toNat (ballO t) f r c), (r : Int), (c : Int), (i : Int), ()))
    (o := .inl (t, ballsT t, tab3 t.2.1.toNat t.1.1.toNat f, m, tab3 t.2.1.toNat t.1.1.toNat (fillQ (step3 t.2.1.toNat t.1.1.toNat (ballO t) m f) g r c t.1.1.toNat), fl || (List.range t.1.1.toNat).any (can3 t.2.1.toNat t.1.1.toNat (ballO t) f r c), (r : Int), (c : Int), ()))
    (by
      intro back i hi
      generalize hh : step3 t.2.1.toNat t.1.1.toNat (ballO t) m f = h
      have e1 : ∀ v, h r c i = v → tab3 t.2.1.toNat t.1.1.toNat (upd3 (fillQ h g r c i) r c i v) = tab3 t.2.1.toNat t.1.1.toNat (fillQ h g r c (i + 1)) := fun v hv => tab3_congr fun a b d _ _ _ => by
        unfold upd3 fillQ
        by_cases h1 : a = r ∧ b = c ∧ d = i
        · obtain ⟨rfl, rfl, rfl⟩ := h1
          rw [if_pos ⟨rfl, rfl, rfl⟩, if_pos ⟨rfl, rfl, Nat.lt_succ_self _⟩, hv]
        · rw [if_neg h1]
          by_cases h2 : a = r ∧ b = c ∧ d < i
          · rw [if_pos h2, if_pos ⟨h2.1, h2.2.1, by omega⟩]
          · rw [if_neg h2, if_neg (fun h3 => h2 ⟨h3.1, h3.2.1, by
              have : d ≠ i := fun e => h1 ⟨h3.1, h3.2.1, e⟩
              omega⟩)]
      have e2 : ∀ v w, upd3 (upd3 (fillQ h g r c i) r c i v) r c i w = upd3 (fillQ h g r c i) r c i w := fun v w => by
        funext a b d
        unfold upd3
        split <;> rfl
      have ea : (List.range (i + 1)).any (can3 t.2.1.toNat t.1.1.toNat (ballO t) f r c) = ((List.range i).any (can3 t.2.1.toNat t.1.1.toNat (ballO t) f r c) || can3 t.2.1.toNat t.1.1.toNat (ballO t) f r c i) := by
        rw [List.range_succ, List.any_append]
        simp
      have hi' : decide ((i : Int) < t.1.1) = true := by simp; omega
      unfold spec_l11Times_l6_r
      have l3 : ∀ f, (tab3 t.2.1.toNat t.1.1.toNat f).length = t.2.1.toNat := tab3_len _ _
      simp only [hi', if_true, l3, idxIn_nat hr, Int.toNat_natCast, tab3_at _ hr, tabL_len, idxIn_nat hc, tabL_at _ hc, row_len, idxIn_nat hi, row_at _ hi, wrap8 hi n3]
      have es : List.set (tab3 t.2.1.toNat t.1.1.toNat (fillQ h g r c i)) r (List.set (tabL t.1.1.toNat (fillQ h g r c i r)) c (List.set ((List.range t.1.1.toNat).map (fillQ h g r c i r c)) i (f r c i))) = tab3 t.2.1.toNat t.1.1.toNat (upd3 (fillQ h g r c i) r c i (f r c i)) := tab3_set _ hr hc hi _
      rw [es]
      by_cases hf : f r c i < 0
      · simp only [hf, decide_true, if_true, can_some ht f hr hc hi hf, Option.bind_some]
        cases hcan : can3 t.2.1.toNat t.1.1.toNat (ballO t) f r c i with
        | true =>
          have hv : h r c i = m := by rw [← hh]; unfold step3; rw [if_pos hcan]
          simp only [if_true, l3, idxIn_nat hr, tab3_at _ hr, tabL_len, idxIn_nat hc, tabL_at _ hc, row_len, idxIn_nat hi, ea, hcan, Bool.or_true]
          rw [tab3_set _ hr hc hi, e2, e1 m hv]
        | false =>
          have hv : h r c i = f r c i := by rw [← hh]; unfold step3; rw [if_neg (by rw [hcan]; simp)]
          simp only [Bool.false_eq_true, if_false, ea, hcan, Bool.or_false]
          rw [e1 _ hv]
      · have hcan : can3 t.2.1.toNat t.1.1.toNat (ballO t) f r c i = false := by unfold can3; simp [hf]
        have hv : h r c i = f r c i := by rw [← hh]; unfold step3; rw [if_neg (by rw [hcan]; simp)]
        simp only [hf, decide_false, Bool.false_eq_true, if_false, ea, hcan, Bool.or_false]
        rw [e1 _ hv])
    (by
      intro back
      have hi' : decide ((t.1.1.toNat : Int) < t.1.1) = false := by simp; omega
      unfold spec_l11Times_l6_r
      simp only [hi', Bool.false_eq_true, if_false]) k hk
  simp only [List.range_zero, List.any_nil, Bool.or_false, Int.natCast_zero] at this
  rw [← h0] at this
  exact this
theorem times_l4' (N : Nat) (hN : 10 ≤ N) (t : Tt) (ht : timeB t = true) (f g : Nat → Nat → Nat → Int) (m : Int) (fl : Bool) (r : Nat) (hr : r < t.2.1.toNat) (k : Nat) (hk : t.1.1.toNat ≤ k) :
    spec_l11Times_l4 N (k + 1) (t, ballsT t, tab3 t.2.1.toNat t.1.1.toNat f, m, tab3 t.2.1.toNat t.1.1.toNat g, fl, (r : Int), (0 : Int), ()) =
      some (.inl (t, ballsT t, tab3 t.2.1.toNat t.1.1.toNat f, m, tab3 t.2.1.toNat t.1.1.toNat (fillC (step3 t.2.1.toNat t.1.1.toNat (ballO t) m f) g r t.1.1.toNat), fl || (List.range t.1.1.toNat).any (fun c => (List.range t.1.1.toNat).any (can3 t.2.1.toNat t.1.1.toNat (ballO t) f r c)), (r : Int), ())) := by
  obtain ⟨n1, n2, n3, p1, p2, p3, _⟩ := time_n ht
  have h0 : tab3 t.2.1.toNat t.1.1.toNat g = tab3 t.2.1.toNat t.1.1.toNat (fillC (step3 t.2.1.toNat t.1.1.toNat (ballO t) m f) g r 0) := tab3_congr fun a b d _ _ _ => by unfold fillC; simp
  have := loop_iter (L := spec_l11Times_l4 N) (r := spec_l11Times_l4_r N) (fun _ _ => rfl) (n := t.1.1.toNat) (mk := fun i => (t, ballsT t, tab3 t.2.1.toNat t.1.1.toNat f, m, tab3 t.2.1.toNat t.1.1.toNat (fillC (step3 t.2.1.toNat t.1.1.toNat (ballO t) m f) g r i), fl || (List.range i).any (fun c => (List.range t.1.1.toNat).any (can3 t.2.1.toNat t.1.1.toNat (ballO t) f r c)), (r : Int), (i : Int), ()))
    (o := .inl (t, ballsT t, tab3 t.2.1.toNat t.1.1.toNat f, m, tab3 t.2.1.toNat t.1.1.toNat (fillC (step3 t.2.1.toNat t.1.1.toNat (ballO t) m f) g r t.1.1.toNat), fl || (List.range t.1.1.toNat).any (fun c => (List.range t.1.1.toNat).any (can3 t.2.1.toNat t.1.1.toNat (ballO t) f r c)), (r : Int), ()))
    (by
      intro back i hi
      have hi' : decide ((i : Int) < t.1.1) = true := by simp; omega
      have h6 := times_l6' N t ht f (fillC (step3 t.2.1.toNat t.1.1.toNat (ballO t) m f) g r i) m (fl || (List.range i).any (fun c => (List.range t.1.1.toNat).any (can3 t.2.1.toNat t.1.1.toNat (ballO t) f r c))) r i hr hi (N - 1) (by omega)
      rw [show N - 1 + 1 = N by omega] at h6
      have e1 : tab3 t.2.1.toNat t.1.1.toNat (fillQ (step3 t.2.1.toNat t.1.1.toNat (ballO t) m f) (fillC (step3 t.2.1.toNat t.1.1.toNat (ballO t) m f) g r i) r i t.1.1.toNat) = tab3 t.2.1.toNat t.1.1.toNat (fillC (step3 t.2.1.toNat t.1.1.toNat (ballO t) m f) g r (i + 1)) := tab3_congr fun a b d _ _ hd => by
        unfold fillQ fillC
        by_cases h1 : a = r ∧ b = i
        · rw [if_pos ⟨h1.1, h1.2, hd⟩, if_pos ⟨h1.1, by omega⟩]
        · rw [if_neg (fun h => h1 ⟨h.1, h.2.1⟩)]
          by_cases h2 : a = r ∧ b < i
          · rw [if_pos h2, if_pos ⟨h2.1, by omega⟩]
          · rw [if_neg h2, if_neg (fun h3 => h2 ⟨h3.1, by
              have : b ≠ i := fun e => h1 ⟨h3.1, e⟩
              omega⟩)]
      have ea : (List.range (i + 1)).any (fun c => (List.range t.1.1.toNat).any (can3 t.2.1.toNat t.1.1.toNat (ballO t) f r c)) = ((List.range i).any (fun c => (List.range t.1.1.toNat).any (can3 t.2.1.toNat t.1.1.toNat (ballO t) f r c)) || (List.range t.1.1.toNat).any (can3 t.2.1.toNat t.1.1.toNat (ballO t) f r i)) := by
        rw [List.range_succ, List.any_append]
        simp
      unfold spec_l11Times_l4_r
      simp only [hi', if_true, h6, Option.bind_some, wrap8 hi n3, e1, ea, Bool.or_assoc])
    (by
      intro back
      have hi' : decide ((t.1.1.toNat : Int) < t.1.1) = false := by simp; omega
      unfold spec_l11Times_l4_r
      simp only [hi', Bool.false_eq_true, if_false]) k hk
  simp only [List.range_zero, List.any_nil, Bool.or_false, Int.natCast_zero] at this
  rw [← h0] at this
  exact this
theorem times_l2' (N : Nat) (hN : 10 ≤ N) (t : Tt) (ht : timeB t = true) (f g : Nat → Nat → Nat → Int) (m : Int) (k : Nat) (hk : t.2.1.toNat ≤ k) :
    spec_l11Times_l2 N (k + 1) (t, ballsT t, tab3 t.2.1.toNat t.1.1.toNat f, m, tab3 t.2.1.toNat t.1.1.toNat g, false, (0 : Int), ()) =
      some (.inl (t, ballsT t, m, tab3 t.2.1.toNat t.1.1.toNat (step3 t.2.1.toNat t.1.1.toNat (ballO t) m f), any3 t.2.1.toNat t.1.1.toNat (can3 t.2.1.toNat t.1.1.toNat (ballO t) f), ())) := by
  obtain ⟨n1, n2, n3, p1, p2, p3, _⟩ := time_n ht
  have h0 : tab3 t.2.1.toNat t.1.1.toNat g = tab3 t.2.1.toNat t.1.1.toNat (fillR (step3 t.2.1.toNat t.1.1.toNat (ballO t) m f) g 0) := tab3_congr fun a b d _ _ _ => by unfold fillR; simp
  have hz : tab3 t.2.1.toNat t.1.1.toNat (fillR (step3 t.2.1.toNat t.1.1.toNat (ballO t) m f) g t.2.1.toNat) = tab3 t.2.1.toNat t.1.1.toNat (step3 t.2.1.toNat t.1.1.toNat (ballO t) m f) := tab3_congr fun a b d ha _ _ => by unfold fillR; rw [if_pos ha]
  have := loop_iter (L := spec_l11Times_l2 N) (r := spec_l11Times_l2_r N) (fun _ _ => rfl) (n := t.2.1.toNat) (mk := fun i => (t, ballsT t, tab3 t.2.1.toNat t.1.1.toNat f, m, tab3 t.2.1.toNat t.1.1.toNat (fillR (step3 t.2.1.toNat t.1.1.toNat (ballO t) m f) g i), (List.range i).any (fun r => (List.range t.1.1.toNat).any (fun c => (List.range t.1.1.toNat).any (can3 t.2.1.toNat t.1.1.toNat (ballO t) f r c))), (i : Int), ()))
    (o := .inl (t, ballsT t, m, tab3 t.2.1.toNat t.1.1.toNat (fillR (step3 t.2.1.toNat t.1.1.toNat (ballO t) m f) g t.2.1.toNat), (List.range t.2.1.toNat).any (fun r => (List.range t.1.1.toNat).any (fun c => (List.range t.1.1.toNat).any (can3 t.2.1.toNat t.1.1.toNat (ballO t) f r c))), ()))
    (by
      intro back i hi
      have hi' : decide ((i : Int) < t.2.1) = true := by simp; omega
      have h4 := times_l4' N hN t ht f (fillR (step3 t.2.1.toNat t.1.1.toNat (ballO t) m f) g i) m ((List.range i).any (fun r => (List.range t.1.1.toNat).any (fun c => (List.range t.1.1.toNat).any (can3 t.2.1.toNat t.1.1.toNat (ballO t) f r c)))) i hi (N - 1) (by omega)
      rw [show N - 1 + 1 = N by omega] at h4
      have e1 : tab3 t.2.1.toNat t.1.1.toNat (fillC (step3 t.2.1.toNat t.1.1.toNat (ballO t) m f) (fillR (step3 t.2.1.toNat t.1.1.toNat (ballO t) m f) g i) i t.1.1.toNat) = tab3 t.2.1.toNat t.1.1.toNat (fillR (step3 t.2.1.toNat t.1.1.toNat (ballO t) m f) g (i + 1)) := tab3_congr fun a b d _ hb _ => by
        unfold fillC fillR
        by_cases h1 : a = i
        · rw [if_pos ⟨h1, hb⟩, if_pos (by omega)]
        · rw [if_neg (fun h => h1 h.1)]
          by_cases h2 : a < i
          · rw [if_pos h2, if_pos (by omega)]
          · rw [if_neg h2, if_neg (by omega)]
      have ea : (List.range (i + 1)).any (fun r => (List.range t.1.1.toNat).any (fun c => (List.range t.1.1.toNat).any (can3 t.2.1.toNat t.1.1.toNat (ballO t) f r c))) = ((List.range i).any (fun r => (List.range t.1.1.toNat).any (fun c => (List.range t.1.1.toNat).any (can3 t.2.1.toNat t.1.1.toNat (ballO t) f r c))) || (List.range t.1.1.toNat).any (fun c => (List.range t.1.1.toNat).any (can3 t.2.1.toNat t.1.1.toNat (ballO t) f i c))) := by
        rw [List.range_succ, List.any_append]
        simp
      unfold spec_l11Times_l2_r
      simp only [hi', if_true, h4, Option.bind_some, wrap8 (show i < 8 by omega) (Nat.le_refl 8), e1, ea])
    (by
      intro back
      have hi' : decide ((t.2.1.toNat : Int) < t.2.1) = false := by simp; omega
      unfold spec_l11Times_l2_r
      simp only [hi', Bool.false_eq_true, if_false]) k hk
  simp only [List.range_zero, List.any_nil, Int.natCast_zero] at this
  rw [← h0, hz] at this
  exact this
theorem l11Start_some {t : Tt} (ht : timeB t = true) : G_l11Start (t.2.1, t.1.1, ()) = some (tab3 t.2.1.toNat t.1.1.toNat start3, ()) := by
  obtain ⟨n1, n2, n3, p1, p2, p3, _⟩ := time_n ht
  unfold G_l11Start
  have e1 : inB 0 8 t.2.1 = true := inB_iff.2 (by omega)
  have e2 : inB 0 8 t.1.1 = true := inB_iff.2 (by omega)
  simp only [e1, e2, Bool.and_self, if_true]
theorem times_l0' (N : Nat) (hN : 20 ≤ N) (t : Tt) (ht : timeB t = true) : ∀ (k m : Nat) (f : Nat → Nat → Nat → Int), m + k ≤ 5000 → negs3 t.2.1.toNat t.1.1.toNat f < k → ∀ fu, k ≤ fu →
    spec_l11Times_l0 N fu (t, ballsT t, tab3 t.2.1.toNat t.1.1.toNat f, (m : Int), ()) = some (.inl (tab3 t.2.1.toNat t.1.1.toNat (times3 t.2.1.toNat t.1.1.toNat (ballO t) k (m : Int) f), ())) := by
  obtain ⟨n1, n2, n3, p1, p2, p3, _⟩ := time_n ht
  intro k
  induction k with
  | zero => intro m f _ h; omega
  | succ k ih =>
    intro m f hm hng fu hfu
    obtain ⟨fu, rfl⟩ : ∃ z, fu = z + 1 := ⟨fu - 1, by omega⟩
    have h2 := times_l2' N (by omega) t ht f start3 (m : Int) (N - 1) (by omega)
    rw [show N - 1 + 1 = N by omega] at h2
    have hw : IntKind.wrap .i64 ((m : Int) + 1) = ((m + 1 : Nat) : Int) := by
      rw [wrap_in _ (by omega) (by omega)]
      rfl
    show spec_l11Times_l0_r N (spec_l11Times_l0 N fu) _ = _
    unfold spec_l11Times_l0_r
    simp only [l11Start_some ht, Option.bind_some, h2, hw, times3]
    by_cases ha : any3 t.2.1.toNat t.1.1.toNat (can3 t.2.1.toNat t.1.1.toNat (ballO t) f) = true
    · rw [if_pos ha, ha]
      simp only [Bool.not_true, Bool.false_eq_true, if_false]
      have := negs3_step (t := (m : Int)) (by omega) ha
      exact ih (m + 1) _ (by omega) (by omega) fu (by omega)
    · have ha' : any3 t.2.1.toNat t.1.1.toNat (can3 t.2.1.toNat t.1.1.toNat (ballO t) f) = false := (Bool.not_eq_true _).mp ha
      rw [if_neg ha, ha']
      have e : tab3 t.2.1.toNat t.1.1.toNat (step3 t.2.1.toNat t.1.1.toNat (ballO t) (m : Int) f) = tab3 t.2.1.toNat t.1.1.toNat f := tab3_congr fun a b d h1 h2 h3 => by
        unfold step3
        refine if_neg fun h => ha ?_
        exact any3_spec.2 ⟨a, b, d, h1, h2, h3, h⟩
      rw [e]
      rfl
theorem negs_bound {t : Tt} (ht : timeB t = true) : negs3 t.2.1.toNat t.1.1.toNat start3 < 520 := by
  obtain ⟨n1, n2, n3, p1, p2, p3, _⟩ := time_n ht
  have h := negs3_le t.2.1.toNat t.1.1.toNat start3
  have h1 : t.1.1.toNat * t.1.1.toNat ≤ 8 * 8 := Nat.mul_le_mul n3 n3
  have h2 : t.2.1.toNat * (t.1.1.toNat * t.1.1.toNat) ≤ 4 * (8 * 8) := Nat.mul_le_mul p3 h1
  omega
theorem l11Times_lim (d) (r) (h : G_l11Times d = some r) : ∃ N, F_spec_l11Times N d = some r := by
  obtain ⟨t, _⟩ := d
  unfold G_l11Times at h
  split at h
  · rename_i hc
    simp only [Bool.and_eq_true] at hc
    obtain ⟨ht, ho⟩ := hc
    have h := Option.some.inj h
    subst h
    refine ⟨600, ?_⟩
    unfold F_spec_l11Times
    have key := times_l0' 600 (by omega) t ht 520 1 start3 (by omega) (negs_bound ht) 600 (by omega)
    simp only [Int.natCast_one] at key
    simp only [G_l11Balls, ht, ho, Bool.and_self, if_true, Option.bind_some, l11Start_some ht, key]
    rfl
  · cases h
end Go.V.W
set_option linter.unusedVariables false
set_option linter.unusedSimpArgs false
namespace Go.V.W
open Go.Proofs
theorem wantedTT_some {l : List Int} (hn : netB l = true) (u v w x : Unit) (fv : Unit × Unit) {T : Tab} (hT : sqL l.length T = true) {b q : Nat} (hb : b < l.length) (hq : q < l.length) :
    FV_impl_timedCan_1_by_impl_timedTimes_1 ((b : Int), (v, (q : Int), (l, u), T, fv, w), x) = some (decide (0 ≤ afterT (ballM l) T (b : Int) (q : Int)), ()) := by
  obtain ⟨t1, t2⟩ := sqL_parts hT
  unfold FV_impl_timedCan_1_by_impl_timedTimes_1 F_impl_timedCan_1_by_impl_timedTimes_1 FV_impl_timedTimes_1 g_impl_timedTimes_1 afterT
  by_cases e : (b : Int) = (q : Int)
  · simp [e]
  · have e' : ((b : Int) == (q : Int)) = false := by simpa using e
    have i1 : idxIn (b : Int) T.length = true := idxIn_nat (by omega)
    have hlen : decide ((at_ K_Si T b).length = l.length) = true := decide_eq_true (t2 b hb)
    have hw : worstL (fun z => (at_ K_Si T b).getD z.toNat 0) (ballM l (q : Int)) 0 = worstL (tab2 T (b : Int)) (ballM l (q : Int)) 0 := worst_congr fun z hz => by
      have hlt : b < T.length := by omega
      unfold tab2
      rw [at_l (e := K_Si) hlt, Int.toNat_natCast, getD_l hlt]
    simp only [e', e, Bool.false_eq_true, if_false, i1, if_true, Int.toNat_natCast, G_timeAfter, hn, hlen, inB_of hq, Bool.and_self, Option.bind_some, hw, ge_iff_le]
    cases decide (0 ≤ worstL (tab2 T (b : Int)) (ballM l (q : Int)) 0) <;> rfl
theorem indexTT_lim (d) (r) (h : G_indexTT d = some r) : ∃ N, F_slices_IndexFunc_Sint_int_by_impl_timedCan_1_impl_timedTimes_1 N d = some r := by
  obtain ⟨xs, ⟨v, q, ⟨l, u⟩, T, fv, w⟩, _⟩ := d
  unfold G_indexTT at h
  split at h
  · rename_i hc
    simp only [Bool.and_eq_true] at hc
    obtain ⟨⟨⟨⟨hn, hT⟩, hq⟩, hxs⟩, hlen⟩ := hc
    have hlen : xs.length ≤ 1000 := of_decide_eq_true hlen
    obtain ⟨q1, q2⟩ := inB_len hq
    have h := Option.some.inj h
    subst h
    have hmx : xs.length ≤ maxLen := by unfold maxLen; omega
    refine ⟨xs.length + 1, ?_⟩
    unfold F_slices_IndexFunc_Sint_int_by_impl_timedCan_1_impl_timedTimes_1
    have := loop_idx (L := slices_IndexFunc_Sint_int_by_impl_timedCan_1_impl_timedTimes_1_l0 (xs.length + 1)) (r := slices_IndexFunc_Sint_int_by_impl_timedCan_1_impl_timedTimes_1_l0_r (xs.length + 1)) (fun _ _ => rfl) (e := I) xs (mk := fun i => (xs, (v, q, (l, u), T, fv, w), (xs.length : Int), (i : Int), ())) (q := fun b => decide (0 ≤ afterT (ballM l) T b q)) (o := fun i => .inl ((i : Int), ())) (f := .inr (.inl ()))
      (by
        intro back i hi
        have hx : at_ I xs i = xs[i] := at_get (e := I) hi
        obtain ⟨b1, b2⟩ := inB_len (List.all_eq_true.1 hxs xs[i] (List.getElem_mem hi))
        have hcan := wantedTT_some hn u v w () fv hT b2 q2
        rw [← b1, ← q1] at hcan
        unfold slices_IndexFunc_Sint_int_by_impl_timedCan_1_impl_timedTimes_1_l0_r
        simp only [lt_dec hi, if_true, idxIn_nat hi, Int.toNat_natCast, wrap_up hi hmx, hx, hcan, Option.bind_some])
      (by intro back; unfold slices_IndexFunc_Sint_int_by_impl_timedCan_1_impl_timedTimes_1_l0_r; simp only [lt_not, Bool.false_eq_true, if_false]) xs.length 0 (by omega) (by omega)
    simp only [Int.natCast_zero, List.drop_zero] at this
    simp only [this, Option.bind_some]
    cases idxN (fun b => decide (0 ≤ afterT (ballM l) T b q)) xs 0 <;> rfl
  · cases h
theorem timedCanTT_some {l : List Int} (hn : netB l = true) (u x : Unit) (fv : Unit × Unit) {T : Tab} (hT : sqL l.length T = true) {c q : Nat} (hc : c < l.length) (hq : q < l.length) :
    F_impl_timedCan_by_impl_timedTimes_1 0 ((l, u), T, (c : Int), (q : Int), fv, x) = some ((ballM l (c : Int)).any (fun b => decide (0 ≤ afterT (ballM l) T b (q : Int))), ()) := by
  unfold F_impl_timedCan_by_impl_timedTimes_1 F_slices_ContainsFunc_Sint_int_by_impl_timedCan_1_impl_timedTimes_1
  have hall : (ballM l (c : Int)).all (inB 0 ((l.length : Int) - 1)) = true := List.all_eq_true.2 fun z hz => by
    obtain ⟨y, hy, rfl⟩ := ballM_ok hn c hc z hz
    exact inB_of hy
  have hbl := ballM_len l (c : Int)
  have hs1 : okS1 (ballM l (c : Int)) = true := decide_eq_true (by omega)
  simp only [closedM hn u hc, setOfM hn hc, Option.bind_some, G_indexTT, hn, hT, inB_of hq, hall, hs1, Bool.and_self, if_true, idxI_ge]
def initT (p n r i : Nat) : List Tab := (List.range p).map fun a => if a < r then tabL n startF else if a = r then (List.range i).map (fun c => (List.range n).map (startF c)) else []
theorem initT_len (p n r i : Nat) : (initT p n r i).length = p := by simp [initT]
theorem initT_get {p n r i j : Nat} (hj : j < p) (h : j < (initT p n r i).length) : (initT p n r i)[j] = if j < r then tabL n startF else if j = r then (List.range i).map (fun c => (List.range n).map (startF c)) else [] := by
  apply Option.some.inj
  rw [← List.getElem?_eq_getElem h]
  unfold initT
  rw [List.getElem?_map, List.getElem?_range hj]
  rfl
theorem initT_at {p n r i : Nat} (hr : r < p) : at_ K_SSi (initT p n r i) r = (List.range i).map (fun c => (List.range n).map (startF c)) := by
  have h : r < (initT p n r i).length := by rw [initT_len]; exact hr
  rw [at_l (e := K_SSi) h, initT_get hr h]
  simp
theorem initT_set {p n r i : Nat} (hr : r < p) : List.set (initT p n r i) r ((List.range i).map (fun c => (List.range n).map (startF c)) ++ [(List.range n).map (startF i)]) = initT p n r (i + 1) := by
  apply List.ext_getElem
  · simp [initT]
  · intro j h1 h2
    have hj : j < p := by rw [initT_len] at h2; exact h2
    rw [List.getElem_set, initT_get (i := i + 1) hj h2]
    by_cases e : r = j
    · subst e
      simp [List.range_succ]
    · rw [if_neg e, initT_get hj]
      have e' : ¬ j = r := fun h => e h.symm
      simp only [e', if_false]
theorem initT_next (p n r : Nat) : initT p n r n = initT p n (r + 1) 0 := by
  unfold initT
  refine List.map_congr_left fun a _ => ?_
  by_cases h1 : a < r
  · rw [if_pos h1, if_pos (by omega)]
  · by_cases h2 : a = r
    · subst h2
      rw [if_neg h1, if_pos rfl, if_pos (by omega)]
      rfl
    · rw [if_neg h1, if_neg h2, if_neg (by omega)]
      by_cases h3 : a = r + 1
      · rw [if_pos h3]; rfl
      · rw [if_neg h3]
theorem repeat_some {n : Nat} (h1 : 1 ≤ n) (h8 : n ≤ 8) : G_repeat ([-1], (n : Int), ()) = some (List.replicate n (-1), ()) := by
  unfold G_repeat
  have e1 : decide (1 ≤ (n : Int)) = true := by simp; omega
  have e2 : decide ((n : Int) ≤ 8) = true := by simp; omega
  simp only [List.length_singleton, decide_true, e1, e2, Bool.and_self, if_true, Int.toNat_natCast, List.headD_cons]
theorem tt_l2 (N : Nat) (nets : List Nt) (p n r : Nat) (hr : r < p) (hn : n ≤ 8) (s25 s26 : Int) (k : Nat) (hk : n ≤ k) :
    impl_timedTimes_l2 N (k + 1) (nets, (n : Int), initT p n r 0, (r : Int), s25, s26, (n : Int), (0 : Int), ()) = some (.inl (nets, (n : Int), initT p n (r + 1) 0, s25, s26, ())) := by
  rw [← initT_next]
  refine loop_iter (L := impl_timedTimes_l2 N) (r := impl_timedTimes_l2_r N) (fun _ _ => rfl) (n := n) (mk := fun i => (nets, (n : Int), initT p n r i, (r : Int), s25, s26, (n : Int), (i : Int), ())) ?_ ?_ k hk
  · intro back i hi
    have i3 : idxIn (i : Int) (List.replicate n (-1 : Int)).length = true := idxIn_nat (by simp; exact hi)
    have hml : (List.map (fun c => List.map (startF c) (List.range n)) (List.range i)).length ≤ 8 := by simp; omega
    have hb : (Nat.beq r r && true) = true := by simp
    unfold impl_timedTimes_l2_r
    simp only [lt_dec hi, if_true, repeat_some (show 1 ≤ n by omega) hn, Option.bind_some, i3, Int.toNat_natCast, initT_len, idxIn_nat hr, initT_at hr, row_start n i hi, lim_app hml (by omega), hb, initT_set hr, wrap8 hi hn]
  · intro back
    unfold impl_timedTimes_l2_r
    simp only [lt_not, Bool.false_eq_true, if_false]
theorem tt_l0 (N : Nat) (hN : 10 ≤ N) (nets : List Nt) (p n : Nat) (hn : n ≤ 8) (hp : p ≤ 8) (k : Nat) (hk : p ≤ k) :
    impl_timedTimes_l0 N (k + 1) (nets, (n : Int), List.replicate p [], (p : Int), (0 : Int), ()) = some (.inl (nets, (n : Int), tab3 p n start3, ())) := by
  have h0 : List.replicate p ([] : Tab) = initT p n 0 0 := by
    apply List.ext_getElem
    · simp [initT]
    · intro i h1 h2
      unfold initT
      simp
  have h1 : initT p n p 0 = tab3 p n start3 := by
    unfold initT tab3
    refine List.map_congr_left fun a ha => ?_
    rw [if_pos (List.mem_range.1 ha)]
    rfl
  rw [h0, ← h1]
  refine loop_iter (L := impl_timedTimes_l0 N) (r := impl_timedTimes_l0_r N) (fun _ _ => rfl) (n := p) (mk := fun i => (nets, (n : Int), initT p n i 0, (p : Int), (i : Int), ())) ?_ ?_ k hk
  · intro back i hi
    have h2 := tt_l2 N nets p n i hi hn (p : Int) (i : Int) (N - 1) (by omega)
    rw [show N - 1 + 1 = N by omega] at h2
    unfold impl_timedTimes_l0_r
    simp only [lt_dec hi, if_true, h2, Option.bind_some, wrap8 hi hp]
  · intro back
    unfold impl_timedTimes_l0_r
    simp only [lt_not, Bool.false_eq_true, if_false]
abbrev T4 := Int × Int × Int × Unit
def rowT (g : Nat → Nat → Nat → Bool) (r c i : Nat) : List T4 := ((List.range i).filter (g r c)).map fun q : Nat => ((r : Int), (c : Int), (q : Int), ())
def rowsT (g : Nat → Nat → Nat → Bool) (n r i : Nat) : List T4 := (List.range i).flatMap fun c => rowT g r c n
def allT (g : Nat → Nat → Nat → Bool) (n i : Nat) : List T4 := (List.range i).flatMap fun r => rowsT g n r n
theorem rowT_succ (g : Nat → Nat → Nat → Bool) (r c i : Nat) : rowT g r c (i + 1) = if g r c i = true then rowT g r c i ++ [((r : Int), (c : Int), (i : Int), ())] else rowT g r c i := by
  unfold rowT
  rw [List.range_succ, List.filter_append]
  by_cases h : g r c i = true
  · rw [if_pos h]; simp [h]
  · rw [if_neg h]; simp [h]
theorem rowT_len (g : Nat → Nat → Nat → Bool) (r c i : Nat) : (rowT g r c i).length ≤ i := by
  unfold rowT
  rw [List.length_map]
  have := List.length_filter_le (g r c) (List.range i)
  simpa using this
theorem rowsT_succ (g : Nat → Nat → Nat → Bool) (n r i : Nat) : rowsT g n r (i + 1) = rowsT g n r i ++ rowT g r i n := by
  unfold rowsT
  rw [List.range_succ, List.flatMap_append]
  simp
theorem allT_succ (g : Nat → Nat → Nat → Bool) (n i : Nat) : allT g n (i + 1) = allT g n i ++ rowsT g n i n := by
  unfold allT
  rw [List.range_succ, List.flatMap_append]
  simp
theorem rowsT_len (g : Nat → Nat → Nat → Bool) (n r : Nat) : ∀ i, (rowsT g n r i).length ≤ i * n := by
  intro i
  induction i with
  | zero => simp [rowsT]
  | succ i ih =>
    have := rowT_len g r i n
    rw [rowsT_succ, List.length_append, Nat.succ_mul]
    omega
theorem allT_len (g : Nat → Nat → Nat → Bool) (n : Nat) : ∀ i, (allT g n i).length ≤ i * (n * n) := by
  intro i
  induction i with
  | zero => simp [allT]
  | succ i ih =>
    have := rowsT_len g n i n
    rw [allT_succ, List.length_append, Nat.succ_mul]
    omega
theorem allT_mem {g : Nat → Nat → Nat → Bool} {n p : Nat} {e : T4} : e ∈ allT g n p ↔ ∃ r c q, r < p ∧ c < n ∧ q < n ∧ g r c q = true ∧ e = ((r : Int), (c : Int), (q : Int), ()) := by
  unfold allT rowsT rowT
  simp only [List.mem_flatMap, List.mem_range, List.mem_map, List.mem_filter]
  constructor
  · rintro ⟨r, hr, c, hc, q, ⟨hq, hg⟩, rfl⟩
    exact ⟨r, c, q, hr, hc, hq, hg, rfl⟩
  · rintro ⟨r, c, q, hr, hc, hq, hg, rfl⟩
    exact ⟨r, hr, c, hc, q, ⟨hq, hg⟩, rfl⟩
/-- The setting of a round. -/
structure TT (nets : List Nt) (p n : Nat) : Prop where
  ok : netsB n nets = true
  len : nets.length = p
  n8 : n ≤ 8
theorem tt_l10 (N : Nat) {nets : List Nt} {p n : Nat} (H : TT nets p n) (f : Nat → Nat → Nat → Int) (t : Int) (fd : Bool) (fresh : List T4) (hfl : fresh.length ≤ 5000) (r c : Nat) (hr : r < p) (hrn : r < nets.length) (hc : c < n) (s54 : List Nt) (s55 s56 s61 s62 : Int) (k : Nat) (hk : n ≤ k) :
    impl_timedTimes_l10 N (k + 1) (nets, (n : Int), tab3 p n f, t, fd, fresh, (r : Int), nets[r], (c : Int), s54, s55, s56, s61, s62, (n : Int), (0 : Int), ()) =
      some (.inl (nets, (n : Int), tab3 p n f, t, fd, fresh ++ rowT (can3 p n (ballN nets) f) r c n, (r : Int), nets[r], s54, s55, s56, s61, s62, ())) := by
  obtain ⟨N1, N2, N3⟩ := netsB_parts H.ok
  have hn8 := H.n8
  have hpl := H.len
  obtain ⟨nb, nl⟩ := N3 r hrn
  obtain ⟨w1, w2, w3⟩ := next_mod hr (show p ≤ 8 by omega)
  have w2' : (((r + 1 : Nat) : Int)).tmod (p : Int) = (((r + 1) % p : Nat) : Int) := w2
  have e0 : ((p : Int) != 0) = true := by rw [bne_iff_ne]; omega
  have h0 : fresh = fresh ++ rowT (can3 p n (ballN nets) f) r c 0 := by simp [rowT]
  have := loop_iter (L := impl_timedTimes_l10 N) (r := impl_timedTimes_l10_r N) (fun _ _ => rfl) (n := n) (mk := fun i => (nets, (n : Int), tab3 p n f, t, fd, fresh ++ rowT (can3 p n (ballN nets) f) r c i, (r : Int), nets[r], (c : Int), s54, s55, s56, s61, s62, (n : Int), (i : Int), ()))
    (o := .inl (nets, (n : Int), tab3 p n f, t, fd, fresh ++ rowT (can3 p n (ballN nets) f) r c n, (r : Int), nets[r], s54, s55, s56, s61, s62, ()))
    (by
      intro back i hi
      have hml : (fresh ++ rowT (can3 p n (ballN nets) f) r c i).length ≤ 5008 := by
        have := rowT_len (can3 p n (ballN nets) f) r c i
        rw [List.length_append]; omega
      unfold impl_timedTimes_l10_r
      simp only [lt_dec hi, if_true, tab3_len, idxIn_nat hr, Int.toNat_natCast, tab3_at _ hr, tabL_len, idxIn_nat hc, tabL_at _ hc, row_len, idxIn_nat hi, row_at _ hi, wrap8 hi hn8, rowT_succ, hpl, w1, e0, w2', idxIn_nat w3, tab3_at _ w3]
      have eb : ballN nets r = ballM nets[r].1 := by unfold ballN; rw [getD_l hrn]
      by_cases hf : f r c i < 0
      · have hcan := timedCanTT_some nb nets[r].2 () ((), ()) (T := tabL n (f ((r + 1) % p))) (by rw [nl]; exact tabL_sq _ _) (show c < nets[r].1.length by omega) (show i < nets[r].1.length by omega)
        have e : nets[r] = (nets[r].1, nets[r].2) := rfl
        rw [← e] at hcan
        have ec : (ballM nets[r].1 (c : Int)).any (fun b => decide (0 ≤ afterT (ballM nets[r].1) (tabL n (f ((r + 1) % p))) b (i : Int))) = can3 p n (ballN nets) f r c i := by
          unfold can3
          simp only [hf, decide_true, Bool.true_and, eb]
        rw [ec] at hcan
        simp only [hf, decide_true, if_true, hcan, Option.bind_some]
        cases hg : can3 p n (ballN nets) f r c i with
        | true => simp only [if_true, lim_app hml (by omega), List.append_assoc]
        | false => simp only [Bool.false_eq_true, if_false]
      · have hg : can3 p n (ballN nets) f r c i = false := by unfold can3; simp [hf]
        simp only [hf, decide_false, Bool.false_eq_true, if_false, hg])
    (by
      intro back
      unfold impl_timedTimes_l10_r
      simp only [lt_not, Bool.false_eq_true, if_false]) k hk
  simp only [Int.natCast_zero] at this
  rw [← h0] at this
  exact this
theorem tt_l8 (N : Nat) (hN : 10 ≤ N) {nets : List Nt} {p n : Nat} (H : TT nets p n) (f : Nat → Nat → Nat → Int) (t : Int) (fd : Bool) (fresh : List T4) (hfl : fresh.length ≤ 4000) (r : Nat) (hr : r < p) (hrn : r < nets.length) (s54 : List Nt) (s55 s56 : Int) (k : Nat) (hk : n ≤ k) :
    impl_timedTimes_l8 N (k + 1) (nets, (n : Int), tab3 p n f, t, fd, fresh, (r : Int), nets[r], s54, s55, s56, (n : Int), (0 : Int), ()) =
      some (.inl (nets, (n : Int), tab3 p n f, t, fd, fresh ++ rowsT (can3 p n (ballN nets) f) n r n, s54, s55, s56, ())) := by
  have hn8 := H.n8
  have h0 : fresh = fresh ++ rowsT (can3 p n (ballN nets) f) n r 0 := by simp [rowsT]
  have := loop_iter (L := impl_timedTimes_l8 N) (r := impl_timedTimes_l8_r N) (fun _ _ => rfl) (n := n) (mk := fun i => (nets, (n : Int), tab3 p n f, t, fd, fresh ++ rowsT (can3 p n (ballN nets) f) n r i, (r : Int), nets[r], s54, s55, s56, (n : Int), (i : Int), ()))
    (o := .inl (nets, (n : Int), tab3 p n f, t, fd, fresh ++ rowsT (can3 p n (ballN nets) f) n r n, s54, s55, s56, ()))
    (by
      intro back i hi
      have hml : (fresh ++ rowsT (can3 p n (ballN nets) f) n r i).length ≤ 5000 := by
        have := rowsT_len (can3 p n (ballN nets) f) n r i
        have : i * n ≤ 8 * 8 := Nat.mul_le_mul (by omega) hn8
        rw [List.length_append]; omega
      have h10 := tt_l10 N H f t fd (fresh ++ rowsT (can3 p n (ballN nets) f) n r i) hml r i hr hrn hi s54 s55 s56 (n : Int) (i : Int) (N - 1) (by omega)
      rw [show N - 1 + 1 = N by omega] at h10
      unfold impl_timedTimes_l8_r
      simp only [lt_dec hi, if_true, h10, Option.bind_some, wrap8 hi hn8, rowsT_succ, List.append_assoc])
    (by
      intro back
      unfold impl_timedTimes_l8_r
      simp only [lt_not, Bool.false_eq_true, if_false]) k hk
  simp only [Int.natCast_zero] at this
  rw [← h0] at this
  exact this
theorem tt_l6 (N : Nat) (hN : 10 ≤ N) {nets : List Nt} {p n : Nat} (H : TT nets p n) (f : Nat → Nat → Nat → Int) (t : Int) (fd : Bool) (k : Nat) (hk : p ≤ k) :
    impl_timedTimes_l6 N (k + 1) (nets, (n : Int), tab3 p n f, t, fd, [], nets, (p : Int), (0 : Int), ()) =
      some (.inl (nets, (n : Int), tab3 p n f, t, fd, allT (can3 p n (ballN nets) f) n p, ())) := by
  obtain ⟨N1, N2, N3⟩ := netsB_parts H.ok
  have hn8 := H.n8
  have hpl := H.len
  have h0 : ([] : List T4) = allT (can3 p n (ballN nets) f) n 0 := by simp [allT]
  have := loop_iter (L := impl_timedTimes_l6 N) (r := impl_timedTimes_l6_r N) (fun _ _ => rfl) (n := p) (mk := fun i => (nets, (n : Int), tab3 p n f, t, fd, allT (can3 p n (ballN nets) f) n i, nets, (p : Int), (i : Int), ()))
    (o := .inl (nets, (n : Int), tab3 p n f, t, fd, allT (can3 p n (ballN nets) f) n p, ()))
    (by
      intro back i hi
      have hin : i < nets.length := by omega
      have hml : (allT (can3 p n (ballN nets) f) n i).length ≤ 4000 := by
        have := allT_len (can3 p n (ballN nets) f) n i
        have h1 : n * n ≤ 8 * 8 := Nat.mul_le_mul hn8 hn8
        have : i * (n * n) ≤ 8 * (8 * 8) := Nat.mul_le_mul (by omega) h1
        omega
      have h8 := tt_l8 N hN H f t fd (allT (can3 p n (ballN nets) f) n i) hml i hi hin nets (p : Int) (i : Int) (N - 1) (by omega)
      rw [show N - 1 + 1 = N by omega] at h8
      unfold impl_timedTimes_l6_r
      simp only [lt_dec hi, if_true, idxIn_nat hin, Int.toNat_natCast, at_l (e := K_PSiq) hin, h8, Option.bind_some, wrap8 hi (show p ≤ 8 by omega), allT_succ])
    (by
      intro back
      unfold impl_timedTimes_l6_r
      simp only [lt_not, Bool.false_eq_true, if_false]) k hk
  simp only [Int.natCast_zero] at this
  rw [← h0] at this
  exact this
def isT (r c q : Nat) (e : T4) : Bool := e.1 == (r : Int) && e.2.1 == (c : Int) && e.2.2.1 == (q : Int)
theorem tt_l12 (N : Nat) (nets : List Nt) (p n : Nat) (f : Nat → Nat → Nat → Int) (t : Int) (F : List T4) (hF : ∀ e ∈ F, ∃ r c q : Nat, r < p ∧ c < n ∧ q < n ∧ e = ((r : Int), (c : Int), (q : Int), ())) (hl : F.length ≤ 5000) (k : Nat) (hk : F.length ≤ k) :
    impl_timedTimes_l12 N (k + 1) (nets, (n : Int), tab3 p n f, t, false, F, (F.length : Int), (0 : Int), ()) =
      some (.inl (nets, (n : Int), tab3 p n (fun a b d => if F.any (isT a b d) = true then t else f a b d), t, decide (0 < F.length), ())) := by
  have hmx : F.length ≤ maxLen := by unfold maxLen; omega
  have h0 : tab3 p n f = tab3 p n (fun a b d => if (F.take 0).any (isT a b d) = true then t else f a b d) := tab3_congr fun a b d _ _ _ => by simp
  have h1 : F.any = (F.take F.length).any := by rw [List.take_of_length_le (Nat.le_refl _)]
  have := loop_iter (L := impl_timedTimes_l12 N) (r := impl_timedTimes_l12_r N) (fun _ _ => rfl) (n := F.length) (mk := fun i => (nets, (n : Int), tab3 p n (fun a b d => if (F.take i).any (isT a b d) = true then t else f a b d), t, decide (0 < i), F, (F.length : Int), (i : Int), ()))
    (o := .inl (nets, (n : Int), tab3 p n (fun a b d => if (F.take F.length).any (isT a b d) = true then t else f a b d), t, decide (0 < F.length), ()))
    (by
      intro back i hi
      obtain ⟨r, c, q, hr, hc, hq, he⟩ := hF F[i] (List.getElem_mem hi)
      have e1 : tab3 p n (upd3 (fun a b d => if (F.take i).any (isT a b d) = true then t else f a b d) r c q t) = tab3 p n (fun a b d => if (F.take (i + 1)).any (isT a b d) = true then t else f a b d) := tab3_congr fun a b d _ _ _ => by
        unfold upd3
        rw [List.take_add_one, List.getElem?_eq_getElem hi, List.any_append, he]
        simp only [Option.toList_some, List.any_cons, List.any_nil, Bool.or_false, isT]
        by_cases h : a = r ∧ b = c ∧ d = q
        · obtain ⟨rfl, rfl, rfl⟩ := h
          simp
        · rw [if_neg h]
          have : ((r : Int) == (a : Int) && (c : Int) == (b : Int) && (q : Int) == (d : Int)) = false := by
            apply Bool.eq_false_iff.2
            intro hh
            simp only [Bool.and_eq_true, beq_iff_eq] at hh
            exact h ⟨by omega, by omega, by omega⟩
          rw [this, Bool.or_false]
      have e2 : decide (0 < i + 1) = true := by simp
      unfold impl_timedTimes_l12_r
      simp only [lt_dec hi, if_true, idxIn_nat hi, Int.toNat_natCast, at_l (e := K_Piiiq) hi, he, tab3_len, idxIn_nat hr, tab3_at _ hr, tabL_len, idxIn_nat hc, tabL_at _ hc, row_len, idxIn_nat hq, wrap_up hi hmx, e2]
      rw [tab3_set _ hr hc hq, e1])
    (by
      intro back
      unfold impl_timedTimes_l12_r
      simp only [lt_not, Bool.false_eq_true, if_false]) k hk
  simp only [Int.natCast_zero, Nat.lt_irrefl, decide_false] at this
  rw [← h0] at this
  rw [h1]
  exact this
theorem allT_any {g : Nat → Nat → Nat → Bool} {n p a b d : Nat} (ha : a < p) (hb : b < n) (hd : d < n) : (allT g n p).any (isT a b d) = g a b d := by
  apply Bool.eq_iff_iff.2
  rw [List.any_eq_true]
  constructor
  · rintro ⟨e, he, h⟩
    obtain ⟨r, c, q, h1, h2, h3, h4, rfl⟩ := allT_mem.1 he
    unfold isT at h
    simp only [Bool.and_eq_true, beq_iff_eq] at h
    have e1 : r = a := by omega
    have e2 : c = b := by omega
    have e3 : q = d := by omega
    subst e1 e2 e3
    exact h4
  · intro h
    exact ⟨_, allT_mem.2 ⟨a, b, d, ha, hb, hd, h, rfl⟩, by unfold isT; simp⟩
theorem allT_pos {g : Nat → Nat → Nat → Bool} {n p : Nat} : decide (0 < (allT g n p).length) = any3 p n g := by
  apply Bool.eq_iff_iff.2
  rw [decide_eq_true_eq, any3_spec]
  constructor
  · intro h
    obtain ⟨r, c, q, h1, h2, h3, h4, _⟩ := allT_mem.1 (List.getElem_mem h)
    exact ⟨r, c, q, h1, h2, h3, h4⟩
  · rintro ⟨r, c, q, hr, hc, hq, h⟩
    exact List.length_pos_of_mem (allT_mem.2 ⟨r, c, q, hr, hc, hq, h, rfl⟩)
theorem tt_l4 (N : Nat) (hN : 600 ≤ N) {nets : List Nt} {p n : Nat} (H : TT nets p n) : ∀ (k m : Nat) (f : Nat → Nat → Nat → Int), m + k ≤ 5000 → negs3 p n f < k → ∀ fu, k + 1 ≤ fu →
    impl_timedTimes_l4 N fu (nets, (n : Int), tab3 p n f, (m : Int), true, ()) = some (.inl (tab3 p n (times3 p n (ballN nets) k (m : Int) f), ())) := by
  obtain ⟨N1, N2, N3⟩ := netsB_parts H.ok
  have hn8 := H.n8
  have hpl := H.len
  intro k
  induction k with
  | zero => intro m f _ h; omega
  | succ k ih =>
    intro m f hm hng fu hfu
    obtain ⟨fu, rfl⟩ : ∃ z, fu = z + 1 := ⟨fu - 1, by omega⟩
    have h6 := tt_l6 N (by omega) H f (m : Int) false (N - 1) (by omega)
    rw [show N - 1 + 1 = N by omega] at h6
    have hlen : (allT (can3 p n (ballN nets) f) n p).length ≤ 520 := by
      have := allT_len (can3 p n (ballN nets) f) n p
      have h1 : n * n ≤ 8 * 8 := Nat.mul_le_mul hn8 hn8
      have : p * (n * n) ≤ 8 * (8 * 8) := Nat.mul_le_mul (by omega) h1
      omega
    have h12 := tt_l12 N nets p n f (m : Int) (allT (can3 p n (ballN nets) f) n p) (fun e he => by
      obtain ⟨r, c, q, h1, h2, h3, _, h5⟩ := allT_mem.1 he
      exact ⟨r, c, q, h1, h2, h3, h5⟩) (by omega) (N - 1) (by omega)
    rw [show N - 1 + 1 = N by omega, allT_pos] at h12
    have et : tab3 p n (fun a b d => if (allT (can3 p n (ballN nets) f) n p).any (isT a b d) = true then (m : Int) else f a b d) = tab3 p n (step3 p n (ballN nets) (m : Int) f) := tab3_congr fun a b d ha hb hd => by
      rw [allT_any ha hb hd]
      rfl
    rw [et] at h12
    have hw : IntKind.wrap .i64 ((m : Int) + 1) = ((m + 1 : Nat) : Int) := by
      rw [wrap_in _ (by omega) (by omega)]
      rfl
    show impl_timedTimes_l4_r N (impl_timedTimes_l4 N fu) _ = _
    unfold impl_timedTimes_l4_r
    simp only [if_true, hpl, h6, Option.bind_some, h12, hw, times3]
    by_cases ha : any3 p n (can3 p n (ballN nets) f) = true
    · rw [if_pos ha, ha]
      have := negs3_step (t := (m : Int)) (by omega) ha
      exact ih (m + 1) _ (by omega) (by omega) fu (by omega)
    · have ha' : any3 p n (can3 p n (ballN nets) f) = false := (Bool.not_eq_true _).mp ha
      rw [if_neg ha, ha']
      obtain ⟨fu, rfl⟩ : ∃ z, fu = z + 1 := ⟨fu - 1, by omega⟩
      have e : tab3 p n (step3 p n (ballN nets) (m : Int) f) = tab3 p n f := tab3_congr fun a b d h1 h2 h3 => by
        unfold step3
        refine if_neg fun h => ha ?_
        exact any3_spec.2 ⟨a, b, d, h1, h2, h3, h⟩
      rw [e]
      rfl
theorem timedTimes_lim (d) (r) (h : G_timedTimes d = some r) : ∃ N, F_impl_timedTimes N d = some r := by
  obtain ⟨nets, _⟩ := d
  unfold G_timedTimes at h
  split at h
  · rename_i hN
    have hN : netsB (nN nets) nets = true := hN
    obtain ⟨N1, N2, N3⟩ := netsB_parts hN
    have h := Option.some.inj h
    subst h
    have h0 : 0 < nets.length := by omega
    have en := nN_get h0
    obtain ⟨nb, nl⟩ := N3 0 h0
    have hn8 : nN nets ≤ 8 := by
      have := (netB_parts nb).2.2.1
      omega
    have H : TT nets nets.length (nN nets) := ⟨hN, rfl, hn8⟩
    refine ⟨600, ?_⟩
    unfold F_impl_timedTimes g_impl_net_size
    have i0 : idxIn (0 : Int) nets.length = true := idxIn_nat h0
    have z0 : (0 : Int).toNat = 0 := rfl
    have a0 : at_ K_PSiq nets 0 = nets[0] := at_l (e := K_PSiq) h0
    have hc : (decide (0 ≤ (nets.length : Int)) && decide ((nets.length : Int) ≤ (nets.length : Int)) && decide ((nets.length : Int) ≤ (lim : Int))) = true := by
      have a1 : (nets.length : Int) ≤ (lim : Int) := by unfold lim; omega
      simp only [a1, nonneg_dec, decide_true, Bool.and_self, Int.le_refl]
    have k0 := tt_l0 600 (by omega) nets nets.length (nN nets) hn8 N2 599 (by omega)
    have hng : negs3 nets.length (nN nets) start3 < 520 := by
      have h := negs3_le nets.length (nN nets) start3
      have h1 : nN nets * nN nets ≤ 8 * 8 := Nat.mul_le_mul hn8 hn8
      have h2 : nets.length * (nN nets * nN nets) ≤ 8 * (8 * 8) := Nat.mul_le_mul N2 h1
      omega
    have k4 := tt_l4 600 (by omega) H 520 1 start3 (by omega) hng 600 (by omega)
    simp only [Int.natCast_one] at k4
    simp only [i0, if_true, z0, a0, ← en, hc, Int.toNat_natCast, List.length_replicate, k0, Option.bind_some, k4]
    rfl
  · cases h
theorem timedTimes_some {t : Tt} (ht : timeB t = true) (u : Unit) : G_timedTimes (netsL t, u) = some (timesO t, ()) := by
  obtain ⟨b1, b2, b3, b4⟩ := netsL_ok ht
  have e1 : netsB (nN (netsL t)) (netsL t) = true := by rw [b3]; exact b1
  unfold G_timedTimes
  simp only [e1, if_true]
  rw [b2, b3]
  unfold timesO
  rw [timesT3_congr (b1 := ballN (netsL t)) (b2 := ballO t) b4]
end Go.V.W
set_option linter.unusedVariables false
set_option linter.unusedSimpArgs false
namespace Go.V.W
open Go.Proofs
theorem sum3_nonneg : ∀ l, 0 ≤ sum3 l := by
  intro l
  induction l with
  | nil => simp [sum3]
  | cons x l ih => simp only [sum3]; have := sumL_nonneg x; omega
theorem markIntSSS_l0 (N : Nat) : ∀ (rest pre : List Tab) (k : Int) (n : Nat), pre.length + rest.length ≤ lim → rest.all okLL = true → rest.length ≤ n → 0 ≤ k → k + sum3 rest ≤ 4398046511104 →
    laws_markIntSSS_l0 N (n + 1) (pre ++ rest, k, (pre.length : Int), ()) = some (.inl (pre ++ mark3 k rest, k + sum3 rest, ())) := by
  intro rest
  induction rest with
  | nil =>
    intro pre k n h1 h2 h3 h4 h5
    simp [laws_markIntSSS_l0, laws_markIntSSS_l0_r, mark3, sum3]
  | cons x rest ih =>
    intro pre k n h1 h2 h3 h4 h5
    simp only [List.length_cons, sum3, List.all_cons, Bool.and_eq_true] at h1 h2 h3 h5
    have hs := sum3_nonneg rest
    have hsx := sumL_nonneg x
    have hlt := mid_lt pre x rest
    have hmx : (pre ++ x :: rest).length ≤ maxLen := by
      have := lim_max h1
      simpa using this
    obtain ⟨n, rfl⟩ : ∃ m, n = m + 1 := ⟨n - 1, by omega⟩
    show laws_markIntSSS_l0_r N (laws_markIntSSS_l0 N (n + 1)) (pre ++ x :: rest, k, (pre.length : Int), ()) = _
    unfold laws_markIntSSS_l0_r
    have hk : okK k = true := okK_small h4 (by omega)
    have hk2 : okK (k + sumL x) = true := okK_small (by omega) (by omega)
    simp only [lt_dec hlt, if_true, idxIn_nat hlt, Int.toNat_natCast, wrap_up hlt hmx, at_mid (e := K_SSi), G_markIntSS, h2.1, hk, hk2, Bool.and_self, Option.bind_some, set_mid]
    have := ih (pre ++ [markLL k x]) (k + sumL x) n (by simp; omega) h2.2 (by omega) (by omega) (by omega)
    rw [show (pre ++ [markLL k x]).length = pre.length + 1 by simp] at this
    rw [this]
    simp [mark3, sum3]
    omega
theorem markIntSSS_lim (d) (r) (h : G_markIntSSS d = some r) : ∃ N, F_laws_markIntSSS N d = some r := by
  obtain ⟨l, k, _⟩ := d
  unfold G_markIntSSS at h
  split at h
  · rename_i hc
    simp only [Bool.and_eq_true] at hc
    obtain ⟨⟨hll, hk⟩, hk2⟩ := hc
    obtain ⟨h1, h2⟩ := okL3_of hll
    have h := Option.some.inj h
    subst h
    refine ⟨l.length + 1, ?_⟩
    unfold F_laws_markIntSSS
    have := markIntSSS_l0 (l.length + 1) l [] k l.length (by simpa using okL_lim h1) h2 (Nat.le_refl _) (okK_of hk).1 (okK_of hk2).2
    simp only [List.nil_append, List.length_nil, Int.natCast_zero] at this
    simp only [this, Option.bind_some]
  · cases h
theorem heldLL_cases : ∀ (l : Tab) (k : Int), 0 ≤ k → heldLL k l = k + sumL l ∨ heldLL k l = -1 := by
  intro l
  induction l with
  | nil => intro k _; left; simp [heldLL, sumL]
  | cons x l ih =>
    intro k hk
    simp only [heldLL, sumL]
    by_cases h : heldL k x < 0
    · right; simp [h]
    · simp only [h, if_false]
      rcases heldL_cases x k with e | e
      · rcases ih (heldL k x) (by omega) with h1 | h1
        · left; omega
        · right; exact h1
      · rw [e] at h; exact absurd (by decide) h
theorem heldIntSSS_l0 (N : Nat) : ∀ (rest pre : List Tab) (k : Int) (n : Nat), pre.length + rest.length ≤ lim → rest.all okLL = true → rest.length ≤ n → 0 ≤ k → k + sum3 rest ≤ 4398046511104 →
    laws_heldIntSSS_l0 N (n + 1) (pre ++ rest, k, (pre.length : Int), ()) = some (.inl (held3 k rest, ())) ∨ laws_heldIntSSS_l0 N (n + 1) (pre ++ rest, k, (pre.length : Int), ()) = some (.inr (.inl (held3 k rest, ()))) := by
  intro rest
  induction rest with
  | nil =>
    intro pre k n h1 h2 h3 h4 h5
    right
    simp [laws_heldIntSSS_l0, laws_heldIntSSS_l0_r, held3]
  | cons x rest ih =>
    intro pre k n h1 h2 h3 h4 h5
    simp only [List.length_cons, sum3, List.all_cons, Bool.and_eq_true] at h1 h2 h3 h5
    have hs := sum3_nonneg rest
    have hsx := sumL_nonneg x
    have hlt := mid_lt pre x rest
    have hmx : (pre ++ x :: rest).length ≤ maxLen := by
      have := lim_max h1
      simpa using this
    obtain ⟨n, rfl⟩ : ∃ m, n = m + 1 := ⟨n - 1, by omega⟩
    have hk : okK k = true := okK_small h4 (by omega)
    have hk2 : okK (k + sumL x) = true := okK_small (by omega) (by omega)
    have hstep : laws_heldIntSSS_l0 N (n + 1 + 1) (pre ++ x :: rest, k, (pre.length : Int), ()) = if heldLL k x < 0 then some (.inl (-1, ())) else laws_heldIntSSS_l0 N (n + 1) (pre ++ x :: rest, heldLL k x, ((pre.length + 1 : Nat) : Int), ()) := by
      show laws_heldIntSSS_l0_r N (laws_heldIntSSS_l0 N (n + 1)) (pre ++ x :: rest, k, (pre.length : Int), ()) = _
      unfold laws_heldIntSSS_l0_r
      simp only [lt_dec hlt, if_true, idxIn_nat hlt, Int.toNat_natCast, wrap_up hlt hmx, at_mid (e := K_SSi), G_heldIntSS, h2.1, hk, hk2, Bool.and_self, Option.bind_some]
      by_cases c : heldLL k x < 0
      · simp only [c, decide_true, if_true]
      · simp only [c, decide_false, if_false, Bool.false_eq_true]
    rw [hstep]
    simp only [held3]
    by_cases c : heldLL k x < 0
    · left; simp only [c, if_true]
    · simp only [c, if_false]
      rcases heldLL_cases x k h4 with e | e
      · have := ih (pre ++ [x]) (heldLL k x) n (by simp; omega) h2.2 (by omega) (by omega) (by omega)
        rw [show (pre ++ [x]).length = pre.length + 1 by simp, List.append_assoc] at this
        exact this
      · rw [e] at c; exact absurd (by decide) c
theorem heldIntSSS_lim (d) (r) (h : G_heldIntSSS d = some r) : ∃ N, F_laws_heldIntSSS N d = some r := by
  obtain ⟨l, k, _⟩ := d
  unfold G_heldIntSSS at h
  split at h
  · rename_i hc
    simp only [Bool.and_eq_true] at hc
    obtain ⟨⟨hll, hk⟩, hk2⟩ := hc
    obtain ⟨h1, h2⟩ := okL3_of hll
    have h := Option.some.inj h
    subst h
    refine ⟨l.length + 1, ?_⟩
    unfold F_laws_heldIntSSS
    have := heldIntSSS_l0 (l.length + 1) l [] k l.length (by simpa using okL_lim h1) h2 (Nat.le_refl _) (okK_of hk).1 (okK_of hk2).2
    simp only [List.nil_append, List.length_nil, Int.natCast_zero] at this
    rcases this with this | this <;> simp only [this, Option.bind_some]
  · cases h
theorem mark3_sum : ∀ (l : List Tab) (k : Int), sum3 (mark3 k l) = sum3 l := by
  intro l
  induction l with
  | nil => intro k; rfl
  | cons x l ih => intro k; simp only [mark3, sum3, markLL_sum, ih]
theorem mark3_ok : ∀ (l : List Tab) (k : Int), okL3 l = true → okL3 (mark3 k l) = true := by
  have hlen : ∀ (l : List Tab) (k : Int), (mark3 k l).length = l.length := by
    intro l
    induction l with
    | nil => intro k; rfl
    | cons x l ih => intro k; simp [mark3, ih]
  have hall : ∀ (l : List Tab) (k : Int), l.all okLL = true → (mark3 k l).all okLL = true := by
    intro l
    induction l with
    | nil => intro k _; rfl
    | cons x l ih =>
      intro k h
      simp only [List.all_cons, Bool.and_eq_true] at h
      simp only [mark3, List.all_cons, Bool.and_eq_true]
      exact ⟨markLL_ok _ _ h.1, ih _ h.2⟩
  intro l k h
  obtain ⟨h1, h2⟩ := okL3_of h
  unfold okL3
  rw [Bool.and_eq_true]
  refine ⟨?_, hall l k h2⟩
  unfold okL at h1 ⊢
  rwa [hlen]
theorem held_mark3 : ∀ (l : List Tab) (k : Int), 0 ≤ k → held3 k (mark3 k l) = k + sum3 l := by
  intro l
  induction l with
  | nil => intro k _; simp [mark3, held3, sum3]
  | cons x l ih =>
    intro k hk
    have hs := sumL_nonneg x
    have : ¬ k + sumL x < 0 := by omega
    simp only [mark3, held3, held_markLL x k hk, sum3, this, if_false, ih _ (show 0 ≤ k + sumL x by omega)]
    omega
theorem sq_ok {n : Nat} (hn : n ≤ 8) {rows : Tab} (h : sqL n rows = true) : okLL rows = true ∧ sumL rows ≤ 64 := by
  unfold sqL at h
  simp only [Bool.and_eq_true, decide_eq_true_eq, List.all_eq_true] at h
  have key : ∀ (l : Tab), (∀ x ∈ l, x.length = n) → sumL l ≤ 8 * l.length := by
    intro l
    induction l with
    | nil => intro _; simp [sumL]
    | cons x l ih =>
      intro hl
      have h1 := hl x (by simp)
      have h2 := ih fun y hy => hl y (by simp [hy])
      simp only [sumL, List.length_cons]
      omega
  refine ⟨okLL_small (by omega) (List.all_eq_true.2 fun x hx => decide_eq_true (by rw [h.2 x hx]; omega)), ?_⟩
  have := key rows h.2
  omega
theorem okT3_ok {n p : Nat} (hn : n ≤ 8) (hp : p ≤ 8) {T : List Tab} (h : okT3 n p T = true) : okL3 T = true ∧ sum3 T ≤ 512 := by
  unfold okT3 at h
  simp only [Bool.and_eq_true, decide_eq_true_eq, List.all_eq_true] at h
  have key : ∀ (l : List Tab), (∀ x ∈ l, sqL n x = true) → sum3 l ≤ 64 * l.length := by
    intro l
    induction l with
    | nil => intro _; simp [sum3]
    | cons x l ih =>
      intro hl
      have h1 := (sq_ok hn (hl x (by simp))).2
      have h2 := ih fun y hy => hl y (by simp [hy])
      simp only [sum3, List.length_cons]
      omega
  refine ⟨?_, ?_⟩
  · unfold okL3
    rw [Bool.and_eq_true]
    exact ⟨okL_of (by omega), List.all_eq_true.2 fun x hx => (sq_ok hn (h.2 x hx)).1⟩
  · have := key T h.2
    omega
def ttB (t : Tt) : List Tab × Bool × Unit := if timeB t = true then (timesO t, true, ()) else ([], false, ())
theorem timesO_ok {t : Tt} (ht : timeB t = true) : okT3 t.1.1.toNat t.2.1.toNat (timesO t) = true := tab3_ok _ _ _
theorem ttB_ok (t : Tt) : okL3 (ttB t).1 = true ∧ sum3 (ttB t).1 ≤ 512 := by
  unfold ttB
  split
  · rename_i ht
    obtain ⟨n1, n2, n3, p1, p2, p3, _⟩ := time_n ht
    exact okT3_ok n3 (by omega) (timesO_ok ht)
  · exact ⟨rfl, by decide⟩
theorem specTT (t : Tt) (w : Unit) (ho : okT t = true) : F_spec_TimedTimes 0 (t, w) = some (ttB t) := by
  unfold F_spec_TimedTimes ttB G_l11Good
  simp only [ho, if_true, Option.bind_some]
  cases ht : timeB t with
  | false => rfl
  | true => simp only [Bool.not_true, Bool.false_eq_true, if_false, G_l11Times, ht, ho, Bool.and_self, if_true, Option.bind_some]
theorem implTT (t : Tt) (w : Unit) (ho : okT t = true) : F_impl_TimedTimes 0 (t, w) = some (ttB t) := by
  unfold F_impl_TimedTimes ttB
  simp only [implT t _ ho, Option.bind_some]
  cases ht : timeB t with
  | false => rfl
  | true => simp only [Bool.not_true, Bool.false_eq_true, if_false, openNets_some ht ho, timedTimes_some ht, if_true, Option.bind_some]
theorem law19 : ∀ d, WfD (Kd.tuple ([(K_PPiSPiiqqiSSiq, false)].map (·.1))) d → ∃ out, F_laws_FnExactTimedTimes 0 d = some out ∧ (splitT [.bool] [] out).1.1 = true := by
  rintro ⟨⟨⟨n, es, v⟩, p, l, u⟩, w⟩ ⟨⟨⟨_, he, _⟩, _, hl, _⟩, _⟩
  have he : es.length ≤ maxLen := he.1
  have hl1 : l.length ≤ maxLen := hl.1
  have hl2 : ∀ x ∈ l, x.length ≤ maxLen := fun x hx => (hl.2 x hx).1
  refine ⟨(true, ()), ?_, rfl⟩
  unfold F_laws_FnExactTimedTimes
  obtain ⟨r, h1, h2⟩ := szTimetable_neg n es v p l u () he hl1 hl2
  simp only [h1, Option.bind_some]
  rcases h2 with h2 | ⟨h2, h3, h4⟩
  · simp only [h2, decide_true, if_true]
  · have g1 := okL_of h2
    have g2 := okLL_small h3 h4
    have g3 : okT ((n, es, v), p, l, ()) = true := by simp only [okT, g1, g2, Bool.and_self]
    have hs := sumL_le l h4
    have hs0 := sumL_nonneg l
    have hmt := markTimetable_eq n es v p l () () 1 g1 g2 (by decide) (okK_small (by omega) (by omega)) (okK_small (by omega) (by omega))
    have hk1 : decide ((1 : Int) + 2 * (es.length : Int) + sumL l < 0) = false := by simp; omega
    obtain ⟨ho, hsm⟩ := ttB_ok ((n, es, v), p, l, ())
    have hs3 := sum3_nonneg (ttB ((n, es, v), p, l, ())).1
    have hk : okK 1 = true := by decide
    have hk3 : okK (1 + sum3 (ttB ((n, es, v), p, l, ())).1) = true := okK_small (by omega) (by omega)
    have hk2 : decide ((1 : Int) + sum3 (ttB ((n, es, v), p, l, ())).1 < 0) = false := by simp; omega
    simp only [toTimetable_eq n es v p l u _ g1 g2, specTT _ _ g3, implTT _ _ g3, if_true, Option.bind_some, eqIntSSS_self _ _ ho, eqTimetable_self n es v p l () _ g1 g2, hmt, hk1, G_markIntSSS, G_heldIntSSS, ho, hk, hk3, Bool.and_self, mark3_ok _ _ ho, mark3_sum, held_mark3 _ _ (show (0 : Int) ≤ 1 by decide), hk2, beq_self_eq_true, bne_self_eq_false, Bool.not_true, Bool.false_eq_true, if_false]
    split <;> rfl
end Go.V.W
namespace Go.V.W
open Go.Proofs Go.Shelf
theorem tab : TabOk Try.prog (assoc tks) (assoc ars) := tab_of (by kernel_rfl)
theorem mixed : Try.prog.follows .mixedOrders = true := by kernel_rfl
theorem C_laws_szIntA2S_raw (N : Nat) : Contract Try.prog 45 ⟨[(K_SPiiq, false), (I, false)], [I], true, F_laws_szIntA2S N⟩ :=
  have E : Env Try.prog Γ_laws_szIntA2S := env_of tab trivial
  con_of (Pc := []) E mixed Try.func45 (by kernel_rfl) (by kernel_rfl) (by kernel_rfl) (by kernel_rfl) (fun A hA => trivial) (F_laws_szIntA2S_ok N)
theorem C_laws_szIntA2S : Contract Try.prog 45 S_laws_szIntA2S := Contract.less (fun N : Nat => F_laws_szIntA2S N) C_laws_szIntA2S_raw (fun d r h => ⟨0, (F_laws_szIntA2S_tot 0 d).trans h⟩)
theorem C_laws_szGraph_raw (N : Nat) : Contract Try.prog 19 ⟨[(K_PiSPiiqq, false), (I, false)], [I], true, F_laws_szGraph N⟩ :=
  have E : Env Try.prog Γ_laws_szGraph := env_of tab ⟨C_laws_szIntA2S, trivial⟩
  con_of (Pc := []) E mixed Try.func19 (by kernel_rfl) (by kernel_rfl) (by kernel_rfl) (by kernel_rfl) (fun A hA => trivial) (F_laws_szGraph_ok N)
theorem C_laws_szGraph : Contract Try.prog 19 S_laws_szGraph := Contract.less (fun N : Nat => F_laws_szGraph N) C_laws_szGraph_raw (fun d r h => ⟨0, (F_laws_szGraph_tot 0 d).trans h⟩)
theorem C_laws_szIntS_raw (N : Nat) : Contract Try.prog 46 ⟨[(K_Si, false), (I, false)], [I], true, F_laws_szIntS N⟩ :=
  have E : Env Try.prog Γ_laws_szIntS := env_of tab trivial
  con_of (Pc := []) E mixed Try.func46 (by kernel_rfl) (by kernel_rfl) (by kernel_rfl) (by kernel_rfl) (fun A hA => trivial) (F_laws_szIntS_ok N)
theorem C_laws_szIntS : Contract Try.prog 46 S_laws_szIntS := Contract.less (fun N : Nat => F_laws_szIntS N) C_laws_szIntS_raw (fun d r h => ⟨0, (F_laws_szIntS_tot 0 d).trans h⟩)
theorem C_laws_szIntSS_raw (N : Nat) : Contract Try.prog 20 ⟨[(K_SSi, false), (I, false)], [I], true, F_laws_szIntSS N⟩ :=
  have E : Env Try.prog Γ_laws_szIntSS := env_of tab ⟨C_laws_szIntS, trivial⟩
  con_of (Pc := [(0, ⟨laws_szIntSS_l0_h, laws_szIntSS_l0_o, laws_szIntSS_l0 N N⟩)]) E mixed Try.func20 (by kernel_rfl) (by kernel_rfl) (by kernel_rfl) (by kernel_rfl) (fun A hA => ⟨pc_of (inner := []) E mixed hA (by kernel_rfl) (by kernel_rfl) (by kernel_rfl) trivial (fun _ => rfl) (fun m d => (laws_szIntSS_l0_ok N (laws_szIntSS_l0 N m) d).symm) N, trivial⟩) (F_laws_szIntSS_ok N)
theorem C_laws_szIntSS : Contract Try.prog 20 S_laws_szIntSS := Contract.less (fun N : Nat => F_laws_szIntSS N) C_laws_szIntSS_raw szIntSS_lim
theorem C_laws_szTimetable_raw (N : Nat) : Contract Try.prog 6 ⟨[(K_PPiSPiiqqiSSiq, false), (I, false)], [I], true, F_laws_szTimetable N⟩ :=
  have E : Env Try.prog Γ_laws_szTimetable := env_of tab ⟨C_laws_szGraph, ⟨C_laws_szIntSS, trivial⟩⟩
  con_of (Pc := []) E mixed Try.func6 (by kernel_rfl) (by kernel_rfl) (by kernel_rfl) (by kernel_rfl) (fun A hA => trivial) (F_laws_szTimetable_ok N)
theorem C_laws_szTimetable : Contract Try.prog 6 S_laws_szTimetable := C_laws_szTimetable_raw 0
theorem C_laws_toIntA2_raw (N : Nat) : Contract Try.prog 78 ⟨[(K_Piiq, false)], [K_Piiq], true, F_laws_toIntA2 N⟩ :=
  have E : Env Try.prog Γ_laws_toIntA2 := env_of tab trivial
  con_of (Pc := [(0, ⟨laws_toIntA2_l0_h, laws_toIntA2_l0_o, laws_toIntA2_l0 N N⟩)]) E mixed Try.func78 (by kernel_rfl) (by kernel_rfl) (by kernel_rfl) (by kernel_rfl) (fun A hA => ⟨pc_of (inner := []) E mixed hA (by kernel_rfl) (by kernel_rfl) (by kernel_rfl) trivial (fun _ => rfl) (fun m d => (laws_toIntA2_l0_ok N (laws_toIntA2_l0 N m) d).symm) N, trivial⟩) (F_laws_toIntA2_ok N)
theorem C_laws_toIntA2 : Contract Try.prog 78 S_laws_toIntA2 := Contract.less (fun N : Nat => F_laws_toIntA2 N) C_laws_toIntA2_raw toIntA2_lim
theorem C_laws_toIntA2S_raw (N : Nat) : Contract Try.prog 55 ⟨[(K_SPiiq, false)], [K_SPiiq], true, F_laws_toIntA2S N⟩ :=
  have E : Env Try.prog Γ_laws_toIntA2S := env_of tab ⟨C_laws_toIntA2, trivial⟩
  con_of (Pc := [(0, ⟨laws_toIntA2S_l0_h, laws_toIntA2S_l0_o, laws_toIntA2S_l0 N N⟩)]) E mixed Try.func55 (by kernel_rfl) (by kernel_rfl) (by kernel_rfl) (by kernel_rfl) (fun A hA => ⟨pc_of (inner := []) E mixed hA (by kernel_rfl) (by kernel_rfl) (by kernel_rfl) trivial (fun _ => rfl) (fun m d => (laws_toIntA2S_l0_ok N (laws_toIntA2S_l0 N m) d).symm) N, trivial⟩) (F_laws_toIntA2S_ok N)
theorem C_laws_toIntA2S : Contract Try.prog 55 S_laws_toIntA2S := Contract.less (fun N : Nat => F_laws_toIntA2S N) C_laws_toIntA2S_raw toIntA2S_lim
theorem C_laws_toGraph_raw (N : Nat) : Contract Try.prog 27 ⟨[(K_PiSPiiqq, false)], [K_PiSPiiqq], true, F_laws_toGraph N⟩ :=
  have E : Env Try.prog Γ_laws_toGraph := env_of tab ⟨C_laws_toIntA2S, trivial⟩
  con_of (Pc := []) E mixed Try.func27 (by kernel_rfl) (by kernel_rfl) (by kernel_rfl) (by kernel_rfl) (fun A hA => trivial) (F_laws_toGraph_ok N)
theorem C_laws_toGraph : Contract Try.prog 27 S_laws_toGraph := C_laws_toGraph_raw 0
theorem C_laws_toIntS_raw (N : Nat) : Contract Try.prog 56 ⟨[(K_Si, false)], [K_Si], true, F_laws_toIntS N⟩ :=
  have E : Env Try.prog Γ_laws_toIntS := env_of tab trivial
  con_of (Pc := [(0, ⟨laws_toIntS_l0_h, laws_toIntS_l0_o, laws_toIntS_l0 N N⟩)]) E mixed Try.func56 (by kernel_rfl) (by kernel_rfl) (by kernel_rfl) (by kernel_rfl) (fun A hA => ⟨pc_of (inner := []) E mixed hA (by kernel_rfl) (by kernel_rfl) (by kernel_rfl) trivial (fun _ => rfl) (fun m d => (laws_toIntS_l0_ok N (laws_toIntS_l0 N m) d).symm) N, trivial⟩) (F_laws_toIntS_ok N)
theorem C_laws_toIntS : Contract Try.prog 56 S_laws_toIntS := Contract.less (fun N : Nat => F_laws_toIntS N) C_laws_toIntS_raw toIntS_lim
theorem C_laws_toIntSS_raw (N : Nat) : Contract Try.prog 28 ⟨[(K_SSi, false)], [K_SSi], true, F_laws_toIntSS N⟩ :=
  have E : Env Try.prog Γ_laws_toIntSS := env_of tab ⟨C_laws_toIntS, trivial⟩
  con_of (Pc := [(0, ⟨laws_toIntSS_l0_h, laws_toIntSS_l0_o, laws_toIntSS_l0 N N⟩)]) E mixed Try.func28 (by kernel_rfl) (by kernel_rfl) (by kernel_rfl) (by kernel_rfl) (fun A hA => ⟨pc_of (inner := []) E mixed hA (by kernel_rfl) (by kernel_rfl) (by kernel_rfl) trivial (fun _ => rfl) (fun m d => (laws_toIntSS_l0_ok N (laws_toIntSS_l0 N m) d).symm) N, trivial⟩) (F_laws_toIntSS_ok N)
theorem C_laws_toIntSS : Contract Try.prog 28 S_laws_toIntSS := Contract.less (fun N : Nat => F_laws_toIntSS N) C_laws_toIntSS_raw toIntSS_lim
theorem C_laws_toTimetable_raw (N : Nat) : Contract Try.prog 8 ⟨[(K_PPiSPiiqqiSSiq, false)], [K_PPiSPiiqqiSSiq], true, F_laws_toTimetable N⟩ :=
  have E : Env Try.prog Γ_laws_toTimetable := env_of tab ⟨C_laws_toGraph, ⟨C_laws_toIntSS, trivial⟩⟩
  con_of (Pc := []) E mixed Try.func8 (by kernel_rfl) (by kernel_rfl) (by kernel_rfl) (by kernel_rfl) (fun A hA => trivial) (F_laws_toTimetable_ok N)
theorem C_laws_toTimetable : Contract Try.prog 8 S_laws_toTimetable := C_laws_toTimetable_raw 0
theorem C_spec_l1In_raw (N : Nat) : Contract Try.prog 49 ⟨[(I, false), (I, false), (I, false)], [.bool], true, F_spec_l1In N⟩ :=
  have E : Env Try.prog Γ_spec_l1In := env_of tab trivial
  con_of (Pc := []) E mixed Try.func49 (by kernel_rfl) (by kernel_rfl) (by kernel_rfl) (by kernel_rfl) (fun A hA => trivial) (F_spec_l1In_ok N)
theorem C_spec_l1In : Contract Try.prog 49 S_spec_l1In := Contract.less (fun N : Nat => F_spec_l1In N) C_spec_l1In_raw (fun d r h => ⟨0, (F_spec_l1In_tot 0 d).trans h⟩)
theorem C_spec_l1Rising_raw (N : Nat) : Contract Try.prog 47 ⟨[(K_Si, false), (I, false), (I, false)], [.bool], true, F_spec_l1Rising N⟩ :=
  have E : Env Try.prog Γ_spec_l1Rising := env_of tab ⟨C_spec_l1In, trivial⟩
  con_of (Pc := [(0, ⟨spec_l1Rising_l0_h, spec_l1Rising_l0_o, spec_l1Rising_l0 N N⟩)]) E mixed Try.func47 (by kernel_rfl) (by kernel_rfl) (by kernel_rfl) (by kernel_rfl) (fun A hA => ⟨pc_of (inner := []) E mixed hA (by kernel_rfl) (by kernel_rfl) (by kernel_rfl) trivial (fun _ => rfl) (fun m d => (spec_l1Rising_l0_ok N (spec_l1Rising_l0 N m) d).symm) N, trivial⟩) (F_spec_l1Rising_ok N)
theorem C_spec_l1Rising : Contract Try.prog 47 S_spec_l1Rising := Contract.less (fun N : Nat => F_spec_l1Rising N) C_spec_l1Rising_raw l1Rising_lim
theorem C_spec_l2Before_raw (N : Nat) : Contract Try.prog 85 ⟨[(K_Piiq, false), (K_Piiq, false)], [.bool], true, F_spec_l2Before N⟩ :=
  have E : Env Try.prog Γ_spec_l2Before := env_of tab trivial
  con_of (Pc := []) E mixed Try.func85 (by kernel_rfl) (by kernel_rfl) (by kernel_rfl) (by kernel_rfl) (fun A hA => trivial) (F_spec_l2Before_ok N)
theorem C_spec_l2Before : Contract Try.prog 85 S_spec_l2Before := Contract.less (fun N : Nat => F_spec_l2Before N) C_spec_l2Before_raw (fun d r h => ⟨0, (F_spec_l2Before_tot 0 d).trans h⟩)
theorem C_spec_l2Good_raw (N : Nat) : Contract Try.prog 74 ⟨[(K_PiSPiiqq, false)], [.bool], true, F_spec_l2Good N⟩ :=
  have E : Env Try.prog Γ_spec_l2Good := env_of tab ⟨C_spec_l1In, ⟨C_spec_l2Before, trivial⟩⟩
  con_of (Pc := [(0, ⟨spec_l2Good_l0_h, spec_l2Good_l0_o, spec_l2Good_l0 N N⟩)]) E mixed Try.func74 (by kernel_rfl) (by kernel_rfl) (by kernel_rfl) (by kernel_rfl) (fun A hA => ⟨pc_of (inner := []) E mixed hA (by kernel_rfl) (by kernel_rfl) (by kernel_rfl) trivial (fun _ => rfl) (fun m d => (spec_l2Good_l0_ok N (spec_l2Good_l0 N m) d).symm) N, trivial⟩) (F_spec_l2Good_ok N)
theorem C_spec_l2Good : Contract Try.prog 74 S_spec_l2Good := Contract.less (fun N : Nat => F_spec_l2Good N) C_spec_l2Good_raw l2Good_lim
theorem C_spec_l4Field_raw (N : Nat) : Contract Try.prog 48 ⟨[(K_PiSPiiqq, false), (I, false)], [.bool], true, F_spec_l4Field N⟩ :=
  have E : Env Try.prog Γ_spec_l4Field := env_of tab ⟨C_spec_l1In, ⟨C_spec_l2Good, trivial⟩⟩
  con_of (Pc := []) E mixed Try.func48 (by kernel_rfl) (by kernel_rfl) (by kernel_rfl) (by kernel_rfl) (fun A hA => trivial) (F_spec_l4Field_ok N)
theorem C_spec_l4Field : Contract Try.prog 48 S_spec_l4Field := C_spec_l4Field_raw 0
theorem C_spec_l11Good_raw (N : Nat) : Contract Try.prog 21 ⟨[(K_PPiSPiiqqiSSiq, false)], [.bool], true, F_spec_l11Good N⟩ :=
  have E : Env Try.prog Γ_spec_l11Good := env_of tab ⟨C_spec_l1Rising, ⟨C_spec_l4Field, ⟨C_spec_l1In, trivial⟩⟩⟩
  con_of (Pc := [(0, ⟨spec_l11Good_l0_h, spec_l11Good_l0_o, spec_l11Good_l0 N N⟩)]) E mixed Try.func21 (by kernel_rfl) (by kernel_rfl) (by kernel_rfl) (by kernel_rfl) (fun A hA => ⟨pc_of (inner := []) E mixed hA (by kernel_rfl) (by kernel_rfl) (by kernel_rfl) trivial (fun _ => rfl) (fun m d => (spec_l11Good_l0_ok N (spec_l11Good_l0 N m) d).symm) N, trivial⟩) (F_spec_l11Good_ok N)
theorem C_spec_l11Good : Contract Try.prog 21 S_spec_l11Good := Contract.less (fun N : Nat => F_spec_l11Good N) C_spec_l11Good_raw l11Good_lim
theorem C_spec_l1Has_raw (N : Nat) : Contract Try.prog 75 ⟨[(K_Si, false), (I, false)], [.bool], true, F_spec_l1Has N⟩ :=
  have E : Env Try.prog Γ_spec_l1Has := env_of tab trivial
  con_of (Pc := [(0, ⟨spec_l1Has_l0_h, spec_l1Has_l0_o, spec_l1Has_l0 N N⟩)]) E mixed Try.func75 (by kernel_rfl) (by kernel_rfl) (by kernel_rfl) (by kernel_rfl) (fun A hA => ⟨pc_of (inner := []) E mixed hA (by kernel_rfl) (by kernel_rfl) (by kernel_rfl) trivial (fun _ => rfl) (fun m d => (spec_l1Has_l0_ok N (spec_l1Has_l0 N m) d).symm) N, trivial⟩) (F_spec_l1Has_ok N)
theorem C_spec_l1Has : Contract Try.prog 75 S_spec_l1Has := Contract.less (fun N : Nat => F_spec_l1Has N) C_spec_l1Has_raw l1Has_lim
theorem C_spec_l11Open_raw (N : Nat) : Contract Try.prog 50 ⟨[(K_PPiSPiiqqiSSiq, false), (I, false)], [K_PiSPiiqq], true, F_spec_l11Open N⟩ :=
  have E : Env Try.prog Γ_spec_l11Open := env_of tab ⟨C_spec_l1Has, trivial⟩
  con_of (Pc := [(0, ⟨spec_l11Open_l0_h, spec_l11Open_l0_o, spec_l11Open_l0 N N⟩)]) E mixed Try.func50 (by kernel_rfl) (by kernel_rfl) (by kernel_rfl) (by kernel_rfl) (fun A hA => ⟨pc_of (inner := []) E mixed hA (by kernel_rfl) (by kernel_rfl) (by kernel_rfl) trivial (fun _ => rfl) (fun m d => (spec_l11Open_l0_ok N (spec_l11Open_l0 N m) d).symm) N, trivial⟩) (F_spec_l11Open_ok N)
theorem C_spec_l11Open : Contract Try.prog 50 S_spec_l11Open := Contract.less (fun N : Nat => F_spec_l11Open N) C_spec_l11Open_raw l11Open_lim
theorem C_spec_l2Near_raw (N : Nat) : Contract Try.prog 86 ⟨[(K_PiSPiiqq, false), (I, false), (I, false)], [.bool], true, F_spec_l2Near N⟩ :=
  have E : Env Try.prog Γ_spec_l2Near := env_of tab trivial
  con_of (Pc := [(0, ⟨spec_l2Near_l0_h, spec_l2Near_l0_o, spec_l2Near_l0 N N⟩)]) E mixed Try.func86 (by kernel_rfl) (by kernel_rfl) (by kernel_rfl) (by kernel_rfl) (fun A hA => ⟨pc_of (inner := []) E mixed hA (by kernel_rfl) (by kernel_rfl) (by kernel_rfl) trivial (fun _ => rfl) (fun m d => (spec_l2Near_l0_ok N (spec_l2Near_l0 N m) d).symm) N, trivial⟩) (F_spec_l2Near_ok N)
theorem C_spec_l2Near : Contract Try.prog 86 S_spec_l2Near := Contract.less (fun N : Nat => F_spec_l2Near N) C_spec_l2Near_raw l2Near_lim
theorem C_spec_l2Neighbors_raw (N : Nat) : Contract Try.prog 77 ⟨[(K_PiSPiiqq, false), (I, false)], [K_Si], true, F_spec_l2Neighbors N⟩ :=
  have E : Env Try.prog Γ_spec_l2Neighbors := env_of tab ⟨C_spec_l2Near, trivial⟩
  con_of (Pc := [(0, ⟨spec_l2Neighbors_l0_h, spec_l2Neighbors_l0_o, spec_l2Neighbors_l0 N N⟩)]) E mixed Try.func77 (by kernel_rfl) (by kernel_rfl) (by kernel_rfl) (by kernel_rfl) (fun A hA => ⟨pc_of (inner := []) E mixed hA (by kernel_rfl) (by kernel_rfl) (by kernel_rfl) trivial (fun _ => rfl) (fun m d => (spec_l2Neighbors_l0_ok N (spec_l2Neighbors_l0 N m) d).symm) N, trivial⟩) (F_spec_l2Neighbors_ok N)
theorem C_spec_l2Neighbors : Contract Try.prog 77 S_spec_l2Neighbors := Contract.less (fun N : Nat => F_spec_l2Neighbors N) C_spec_l2Neighbors_raw l2Neighbors_lim
theorem C_spec_l1Put_raw (N : Nat) : Contract Try.prog 76 ⟨[(K_Si, false), (I, false)], [K_Si], false, F_spec_l1Put N⟩ :=
  have E : Env Try.prog Γ_spec_l1Put := env_of tab trivial
  con_of (Pc := [(0, ⟨spec_l1Put_l0_h, spec_l1Put_l0_o, spec_l1Put_l0 N N⟩)]) E mixed Try.func76 (by kernel_rfl) (by kernel_rfl) (by kernel_rfl) (by kernel_rfl) (fun A hA => ⟨pc_of (inner := []) E mixed hA (by kernel_rfl) (by kernel_rfl) (by kernel_rfl) trivial (fun _ => rfl) (fun m d => (spec_l1Put_l0_ok N (spec_l1Put_l0 N m) d).symm) N, trivial⟩) (F_spec_l1Put_ok N)
theorem C_spec_l1Put : Contract Try.prog 76 S_spec_l1Put := Contract.less (fun N : Nat => F_spec_l1Put N) C_spec_l1Put_raw l1Put_lim
theorem C_spec_l2Ball_raw (N : Nat) : Contract Try.prog 51 ⟨[(K_PiSPiiqq, false), (I, false)], [K_Si], false, F_spec_l2Ball N⟩ :=
  have E : Env Try.prog Γ_spec_l2Ball := env_of tab ⟨C_spec_l1Put, ⟨C_spec_l2Neighbors, trivial⟩⟩
  con_of (Pc := []) E mixed Try.func51 (by kernel_rfl) (by kernel_rfl) (by kernel_rfl) (by kernel_rfl) (fun A hA => trivial) (F_spec_l2Ball_ok N)
theorem C_spec_l2Ball : Contract Try.prog 51 S_spec_l2Ball := C_spec_l2Ball_raw 0
theorem C_spec_l11Balls_raw (N : Nat) : Contract Try.prog 24 ⟨[(K_PPiSPiiqqiSSiq, false)], [K_SSSi], false, F_spec_l11Balls N⟩ :=
  have E : Env Try.prog Γ_spec_l11Balls := env_of tab ⟨C_spec_l11Open, ⟨C_spec_l2Ball, trivial⟩⟩
  con_of (Pc := [(0, ⟨spec_l11Balls_l0_h, spec_l11Balls_l0_o, spec_l11Balls_l0 N N⟩)]) E mixed Try.func24 (by kernel_rfl) (by kernel_rfl) (by kernel_rfl) (by kernel_rfl) (fun A hA => ⟨pc_of (inner := [(2, ⟨spec_l11Balls_l2_h, spec_l11Balls_l2_o, spec_l11Balls_l2 N N⟩)]) E mixed hA (by kernel_rfl) (by kernel_rfl) (by kernel_rfl) ⟨pc_of (inner := []) E mixed hA (by kernel_rfl) (by kernel_rfl) (by kernel_rfl) trivial (fun _ => rfl) (fun m d => (spec_l11Balls_l2_ok N (spec_l11Balls_l2 N m) d).symm) N, trivial⟩ (fun _ => rfl) (fun m d => (spec_l11Balls_l0_ok N (spec_l11Balls_l0 N m) d).symm) N, trivial⟩) (F_spec_l11Balls_ok N)
theorem C_spec_l11Balls : Contract Try.prog 24 S_spec_l11Balls := Contract.less (fun N : Nat => F_spec_l11Balls N) C_spec_l11Balls_raw l11Balls_lim
theorem C_spec_l11Start_raw (N : Nat) : Contract Try.prog 52 ⟨[(I, false), (I, false)], [K_SSSi], true, F_spec_l11Start N⟩ :=
  have E : Env Try.prog Γ_spec_l11Start := env_of tab trivial
  con_of (Pc := [(0, ⟨spec_l11Start_l0_h, spec_l11Start_l0_o, spec_l11Start_l0 N N⟩)]) E mixed Try.func52 (by kernel_rfl) (by kernel_rfl) (by kernel_rfl) (by kernel_rfl) (fun A hA => ⟨pc_of (inner := [(2, ⟨spec_l11Start_l2_h, spec_l11Start_l2_o, spec_l11Start_l2 N N⟩)]) E mixed hA (by kernel_rfl) (by kernel_rfl) (by kernel_rfl) ⟨pc_of (inner := [(4, ⟨spec_l11Start_l4_h, spec_l11Start_l4_o, spec_l11Start_l4 N N⟩)]) E mixed hA (by kernel_rfl) (by kernel_rfl) (by kernel_rfl) ⟨pc_of (inner := []) E mixed hA (by kernel_rfl) (by kernel_rfl) (by kernel_rfl) trivial (fun _ => rfl) (fun m d => (spec_l11Start_l4_ok N (spec_l11Start_l4 N m) d).symm) N, trivial⟩ (fun _ => rfl) (fun m d => (spec_l11Start_l2_ok N (spec_l11Start_l2 N m) d).symm) N, trivial⟩ (fun _ => rfl) (fun m d => (spec_l11Start_l0_ok N (spec_l11Start_l0 N m) d).symm) N, trivial⟩) (F_spec_l11Start_ok N)
theorem C_spec_l11Start : Contract Try.prog 52 S_spec_l11Start := Contract.less (fun N : Nat => F_spec_l11Start N) C_spec_l11Start_raw l11Start_lim
theorem C_spec_l1Most_raw (N : Nat) : Contract Try.prog 54 ⟨[(I, false), (I, false)], [I], true, F_spec_l1Most N⟩ :=
  have E : Env Try.prog Γ_spec_l1Most := env_of tab trivial
  con_of (Pc := []) E mixed Try.func54 (by kernel_rfl) (by kernel_rfl) (by kernel_rfl) (by kernel_rfl) (fun A hA => trivial) (F_spec_l1Most_ok N)
theorem C_spec_l1Most : Contract Try.prog 54 S_spec_l1Most := Contract.less (fun N : Nat => F_spec_l1Most N) C_spec_l1Most_raw (fun d r h => ⟨0, (F_spec_l1Most_tot 0 d).trans h⟩)
theorem C_spec_l11After_raw (N : Nat) : Contract Try.prog 26 ⟨[(K_SSSi, false), (K_SSSi, false), (I, false), (I, false), (I, false)], [I], true, F_spec_l11After N⟩ :=
  have E : Env Try.prog Γ_spec_l11After := env_of tab ⟨C_spec_l1Most, trivial⟩
  con_of (Pc := [(0, ⟨spec_l11After_l0_h, spec_l11After_l0_o, spec_l11After_l0 N N⟩)]) E mixed Try.func26 (by kernel_rfl) (by kernel_rfl) (by kernel_rfl) (by kernel_rfl) (fun A hA => ⟨pc_of (inner := []) E mixed hA (by kernel_rfl) (by kernel_rfl) (by kernel_rfl) trivial (fun _ => rfl) (fun m d => (spec_l11After_l0_ok N (spec_l11After_l0 N m) d).symm) N, trivial⟩) (F_spec_l11After_ok N)
theorem C_spec_l11After : Contract Try.prog 26 S_spec_l11After := Contract.less (fun N : Nat => F_spec_l11After N) C_spec_l11After_raw l11After_lim
theorem C_spec_l11Can_raw (N : Nat) : Contract Try.prog 53 ⟨[(K_SSSi, false), (K_SSSi, false), (I, false), (I, false), (I, false)], [.bool], true, F_spec_l11Can N⟩ :=
  have E : Env Try.prog Γ_spec_l11Can := env_of tab ⟨C_spec_l11After, trivial⟩
  con_of (Pc := [(0, ⟨spec_l11Can_l0_h, spec_l11Can_l0_o, spec_l11Can_l0 N N⟩)]) E mixed Try.func53 (by kernel_rfl) (by kernel_rfl) (by kernel_rfl) (by kernel_rfl) (fun A hA => ⟨pc_of (inner := []) E mixed hA (by kernel_rfl) (by kernel_rfl) (by kernel_rfl) trivial (fun _ => rfl) (fun m d => (spec_l11Can_l0_ok N (spec_l11Can_l0 N m) d).symm) N, trivial⟩) (F_spec_l11Can_ok N)
theorem C_spec_l11Can : Contract Try.prog 53 S_spec_l11Can := Contract.less (fun N : Nat => F_spec_l11Can N) C_spec_l11Can_raw l11Can_lim
theorem C_spec_l11Times_raw (N : Nat) : Contract Try.prog 25 ⟨[(K_PPiSPiiqqiSSiq, false)], [K_SSSi], true, F_spec_l11Times N⟩ :=
  have E : Env Try.prog Γ_spec_l11Times := env_of tab ⟨C_spec_l11Balls, ⟨C_spec_l11Start, ⟨C_spec_l11Can, trivial⟩⟩⟩
  con_of (Pc := [(0, ⟨spec_l11Times_l0_h, spec_l11Times_l0_o, spec_l11Times_l0 N N⟩)]) E mixed Try.func25 (by kernel_rfl) (by kernel_rfl) (by kernel_rfl) (by kernel_rfl) (fun A hA => ⟨pc_of (inner := [(2, ⟨spec_l11Times_l2_h, spec_l11Times_l2_o, spec_l11Times_l2 N N⟩)]) E mixed hA (by kernel_rfl) (by kernel_rfl) (by kernel_rfl) ⟨pc_of (inner := [(4, ⟨spec_l11Times_l4_h, spec_l11Times_l4_o, spec_l11Times_l4 N N⟩)]) E mixed hA (by kernel_rfl) (by kernel_rfl) (by kernel_rfl) ⟨pc_of (inner := [(6, ⟨spec_l11Times_l6_h, spec_l11Times_l6_o, spec_l11Times_l6 N N⟩)]) E mixed hA (by kernel_rfl) (by kernel_rfl) (by kernel_rfl) ⟨pc_of (inner := []) E mixed hA (by kernel_rfl) (by kernel_rfl) (by kernel_rfl) trivial (fun _ => rfl) (fun m d => (spec_l11Times_l6_ok N (spec_l11Times_l6 N m) d).symm) N, trivial⟩ (fun _ => rfl) (fun m d => (spec_l11Times_l4_ok N (spec_l11Times_l4 N m) d).symm) N, trivial⟩ (fun _ => rfl) (fun m d => (spec_l11Times_l2_ok N (spec_l11Times_l2 N m) d).symm) N, trivial⟩ (fun _ => rfl) (fun m d => (spec_l11Times_l0_ok N (spec_l11Times_l0 N m) d).symm) N, trivial⟩) (F_spec_l11Times_ok N)
theorem C_spec_l11Times : Contract Try.prog 25 S_spec_l11Times := Contract.less (fun N : Nat => F_spec_l11Times N) C_spec_l11Times_raw l11Times_lim
theorem C_spec_TimedTimes_raw (N : Nat) : Contract Try.prog 13 ⟨[(K_PPiSPiiqqiSSiq, false)], [K_SSSi, .bool], true, F_spec_TimedTimes N⟩ :=
  have E : Env Try.prog Γ_spec_TimedTimes := env_of tab ⟨C_spec_l11Good, ⟨C_spec_l11Times, trivial⟩⟩
  con_of (Pc := []) E mixed Try.func13 (by kernel_rfl) (by kernel_rfl) (by kernel_rfl) (by kernel_rfl) (fun A hA => trivial) (F_spec_TimedTimes_ok N)
theorem C_spec_TimedTimes : Contract Try.prog 13 S_spec_TimedTimes := C_spec_TimedTimes_raw 0
theorem C_impl_within_raw (N : Nat) : Contract Try.prog 66 ⟨[(I, false), (I, false), (I, false)], [.bool], true, F_impl_within N⟩ :=
  have E : Env Try.prog Γ_impl_within := env_of tab trivial
  con_of (Pc := []) E mixed Try.func66 (by kernel_rfl) (by kernel_rfl) (by kernel_rfl) (by kernel_rfl) (fun A hA => trivial) (F_impl_within_ok N)
theorem C_impl_within : Contract Try.prog 66 S_impl_within := Contract.less (fun N : Nat => F_impl_within N) C_impl_within_raw (fun d r h => ⟨0, (F_impl_within_tot 0 d).trans h⟩)
theorem C_cmp_isNaN_int_raw (N : Nat) : Contract Try.prog 91 ⟨[(I, false)], [.bool], true, F_cmp_isNaN_int N⟩ :=
  have E : Env Try.prog Γ_cmp_isNaN_int := env_of tab trivial
  con_of (Pc := []) E mixed Try.func91 (by kernel_rfl) (by kernel_rfl) (by kernel_rfl) (by kernel_rfl) (fun A hA => trivial) (F_cmp_isNaN_int_ok N)
theorem C_cmp_isNaN_int : Contract Try.prog 91 S_cmp_isNaN_int := Contract.less (fun N : Nat => F_cmp_isNaN_int N) C_cmp_isNaN_int_raw (fun d r h => ⟨0, (F_cmp_isNaN_int_tot 0 d).trans h⟩)
theorem C_cmp_Compare_int_raw (N : Nat) : Contract Try.prog 90 ⟨[(I, false), (I, false)], [I], true, F_cmp_Compare_int N⟩ :=
  have E : Env Try.prog Γ_cmp_Compare_int := env_of tab ⟨C_cmp_isNaN_int, trivial⟩
  con_of (Pc := []) E mixed Try.func90 (by kernel_rfl) (by kernel_rfl) (by kernel_rfl) (by kernel_rfl) (fun A hA => trivial) (F_cmp_Compare_int_ok N)
theorem C_cmp_Compare_int : Contract Try.prog 90 S_cmp_Compare_int := Contract.less (fun N : Nat => F_cmp_Compare_int N) C_cmp_Compare_int_raw (fun d r h => ⟨0, (F_cmp_Compare_int_tot 0 d).trans h⟩)
theorem C_slices_Compare_Sint_int_raw (N : Nat) : Contract Try.prog 83 ⟨[(K_Si, false), (K_Si, false)], [I], true, F_slices_Compare_Sint_int N⟩ :=
  have E : Env Try.prog Γ_slices_Compare_Sint_int := env_of tab ⟨C_cmp_Compare_int, trivial⟩
  con_of (Pc := [(0, ⟨slices_Compare_Sint_int_l0_h, slices_Compare_Sint_int_l0_o, slices_Compare_Sint_int_l0 N N⟩)]) E mixed Try.func83 (by kernel_rfl) (by kernel_rfl) (by kernel_rfl) (by kernel_rfl) (fun A hA => ⟨pc_of (inner := []) E mixed hA (by kernel_rfl) (by kernel_rfl) (by kernel_rfl) trivial (fun _ => rfl) (fun m d => (slices_Compare_Sint_int_l0_ok N (slices_Compare_Sint_int_l0 N m) d).symm) N, trivial⟩) (F_slices_Compare_Sint_int_ok N)
theorem C_slices_Compare_Sint_int : Contract Try.prog 83 S_slices_Compare_Sint_int := Contract.less (fun N : Nat => F_slices_Compare_Sint_int N) C_slices_Compare_Sint_int_raw compare_lim
theorem C_impl_IsGraph_raw (N : Nat) : Contract Try.prog 65 ⟨[(K_PiSPiiqq, false)], [.bool], true, F_impl_IsGraph N⟩ :=
  have E : Env Try.prog Γ_impl_IsGraph := env_of tab ⟨C_impl_within, ⟨C_slices_Compare_Sint_int, trivial⟩⟩
  con_of (Pc := [(0, ⟨impl_IsGraph_l0_h, impl_IsGraph_l0_o, impl_IsGraph_l0 N N⟩)]) E mixed Try.func65 (by kernel_rfl) (by kernel_rfl) (by kernel_rfl) (by kernel_rfl) (fun A hA => ⟨pc_of (inner := []) E mixed hA (by kernel_rfl) (by kernel_rfl) (by kernel_rfl) trivial (fun _ => rfl) (fun m d => (impl_IsGraph_l0_ok N (impl_IsGraph_l0 N m) d).symm) N, trivial⟩) (F_impl_IsGraph_ok N)
theorem C_impl_IsGraph : Contract Try.prog 65 S_impl_IsGraph := Contract.less (fun N : Nat => F_impl_IsGraph N) C_impl_IsGraph_raw IsGraph_lim
theorem C_impl_increasing_raw (N : Nat) : Contract Try.prog 69 ⟨[(K_Si, false)], [.bool], true, F_impl_increasing N⟩ :=
  have E : Env Try.prog Γ_impl_increasing := env_of tab trivial
  con_of (Pc := [(0, ⟨impl_increasing_l0_h, impl_increasing_l0_o, impl_increasing_l0 N N⟩)]) E mixed Try.func69 (by kernel_rfl) (by kernel_rfl) (by kernel_rfl) (by kernel_rfl) (fun A hA => ⟨pc_of (inner := []) E mixed hA (by kernel_rfl) (by kernel_rfl) (by kernel_rfl) trivial (fun _ => rfl) (fun m d => (impl_increasing_l0_ok N (impl_increasing_l0 N m) d).symm) N, trivial⟩) (F_impl_increasing_ok N)
theorem C_impl_increasing : Contract Try.prog 69 S_impl_increasing := Contract.less (fun N : Nat => F_impl_increasing N) C_impl_increasing_raw increasing_lim
theorem C_impl_allWithin_raw (N : Nat) : Contract Try.prog 57 ⟨[(K_Si, false), (I, false), (I, false)], [.bool], true, F_impl_allWithin N⟩ :=
  have E : Env Try.prog Γ_impl_allWithin := env_of tab ⟨C_impl_within, trivial⟩
  con_of (Pc := [(0, ⟨impl_allWithin_l0_h, impl_allWithin_l0_o, impl_allWithin_l0 N N⟩)]) E mixed Try.func57 (by kernel_rfl) (by kernel_rfl) (by kernel_rfl) (by kernel_rfl) (fun A hA => ⟨pc_of (inner := []) E mixed hA (by kernel_rfl) (by kernel_rfl) (by kernel_rfl) trivial (fun _ => rfl) (fun m d => (impl_allWithin_l0_ok N (impl_allWithin_l0 N m) d).symm) N, trivial⟩) (F_impl_allWithin_ok N)
theorem C_impl_allWithin : Contract Try.prog 57 S_impl_allWithin := Contract.less (fun N : Nat => F_impl_allWithin N) C_impl_allWithin_raw allWithin_lim
theorem C_impl_IsTimetable_1_raw (N : Nat) : Contract Try.prog 68 ⟨[(K_Si, false), (K_BPPiSPiiqqiSSiq, false)], [.bool], true, F_impl_IsTimetable_1 N⟩ :=
  have E : Env Try.prog Γ_impl_IsTimetable_1 := env_of tab ⟨C_impl_allWithin, ⟨C_impl_increasing, trivial⟩⟩
  con_of (Pc := []) E mixed Try.func68 (by kernel_rfl) (by kernel_rfl) (by kernel_rfl) (by kernel_rfl) (fun A hA => trivial) (F_impl_IsTimetable_1_ok N)
theorem C_impl_IsTimetable_1 : Contract Try.prog 68 S_impl_IsTimetable_1 := C_impl_IsTimetable_1_raw 0
theorem CV_impl_IsTimetable_1 : ContractV Try.prog SV_impl_IsTimetable_1 := conV_0_1_1 C_impl_IsTimetable_1
theorem C_slices_IndexFunc_SSint_Sint_by_impl_IsTimetable_1_raw (N : Nat) : Contract Try.prog 84 ⟨[(K_SSi, false), (K_F_impl_IsTimetable_1_qPBPPiSPiiqqiSSiqq, false)], [I], true, F_slices_IndexFunc_SSint_Sint_by_impl_IsTimetable_1 N⟩ :=
  have E : Env Try.prog Γ_slices_IndexFunc_SSint_Sint_by_impl_IsTimetable_1 := env_ofV tab trivial ⟨CV_impl_IsTimetable_1, trivial⟩ (fun _ h => by cases h)
  con_of (Pc := [(0, ⟨slices_IndexFunc_SSint_Sint_by_impl_IsTimetable_1_l0_h, slices_IndexFunc_SSint_Sint_by_impl_IsTimetable_1_l0_o, slices_IndexFunc_SSint_Sint_by_impl_IsTimetable_1_l0 N N⟩)]) E mixed Try.func84 (by kernel_rfl) (by kernel_rfl) (by kernel_rfl) (by kernel_rfl) (fun A hA => ⟨pc_of (inner := []) E mixed hA (by kernel_rfl) (by kernel_rfl) (by kernel_rfl) trivial (fun _ => rfl) (fun m d => (slices_IndexFunc_SSint_Sint_by_impl_IsTimetable_1_l0_ok N (slices_IndexFunc_SSint_Sint_by_impl_IsTimetable_1_l0 N m) d).symm) N, trivial⟩) (F_slices_IndexFunc_SSint_Sint_by_impl_IsTimetable_1_ok N)
theorem C_slices_IndexFunc_SSint_Sint_by_impl_IsTimetable_1 : Contract Try.prog 84 S_slices_IndexFunc_SSint_Sint_by_impl_IsTimetable_1 := Contract.less (fun N : Nat => F_slices_IndexFunc_SSint_Sint_by_impl_IsTimetable_1 N) C_slices_IndexFunc_SSint_Sint_by_impl_IsTimetable_1_raw index84_lim
theorem C_slices_ContainsFunc_SSint_Sint_by_impl_IsTimetable_1_raw (N : Nat) : Contract Try.prog 67 ⟨[(K_SSi, false), (K_F_impl_IsTimetable_1_qPBPPiSPiiqqiSSiqq, false)], [.bool], true, F_slices_ContainsFunc_SSint_Sint_by_impl_IsTimetable_1 N⟩ :=
  have E : Env Try.prog Γ_slices_ContainsFunc_SSint_Sint_by_impl_IsTimetable_1 := env_of tab ⟨C_slices_IndexFunc_SSint_Sint_by_impl_IsTimetable_1, trivial⟩
  con_of (Pc := []) E mixed Try.func67 (by kernel_rfl) (by kernel_rfl) (by kernel_rfl) (by kernel_rfl) (fun A hA => trivial) (F_slices_ContainsFunc_SSint_Sint_by_impl_IsTimetable_1_ok N)
theorem C_slices_ContainsFunc_SSint_Sint_by_impl_IsTimetable_1 : Contract Try.prog 67 S_slices_ContainsFunc_SSint_Sint_by_impl_IsTimetable_1 := C_slices_ContainsFunc_SSint_Sint_by_impl_IsTimetable_1_raw 0
theorem C_impl_IsTimetable_raw (N : Nat) : Contract Try.prog 38 ⟨[(K_PPiSPiiqqiSSiq, false)], [.bool], true, F_impl_IsTimetable N⟩ :=
  have E : Env Try.prog Γ_impl_IsTimetable := env_ofV tab ⟨C_impl_IsGraph, ⟨C_impl_within, ⟨C_slices_ContainsFunc_SSint_Sint_by_impl_IsTimetable_1, trivial⟩⟩⟩ trivial (fun _ h => by cases h)
  con_of (Pc := []) E mixed Try.func38 (by kernel_rfl) (by kernel_rfl) (by kernel_rfl) (by kernel_rfl) (fun A hA => trivial) (F_impl_IsTimetable_ok N)
theorem C_impl_IsTimetable : Contract Try.prog 38 S_impl_IsTimetable := C_impl_IsTimetable_raw 0
theorem C_impl_netOf_raw (N : Nat) : Contract Try.prog 58 ⟨[(K_PiSPiiqq, false)], [K_PSiq], true, F_impl_netOf N⟩ :=
  have E : Env Try.prog Γ_impl_netOf := env_of tab trivial
  con_of (Pc := [(0, ⟨impl_netOf_l0_h, impl_netOf_l0_o, impl_netOf_l0 N N⟩)]) E mixed Try.func58 (by kernel_rfl) (by kernel_rfl) (by kernel_rfl) (by kernel_rfl) (fun A hA => ⟨pc_of (inner := []) E mixed hA (by kernel_rfl) (by kernel_rfl) (by kernel_rfl) trivial (fun _ => rfl) (fun m d => (impl_netOf_l0_ok N (impl_netOf_l0 N m) d).symm) N, trivial⟩) (F_impl_netOf_ok N)
theorem C_impl_netOf : Contract Try.prog 58 S_impl_netOf := Contract.less (fun N : Nat => F_impl_netOf N) C_impl_netOf_raw netOf_lim
theorem C_slices_Index_Sint_int_raw (N : Nat) : Contract Try.prog 70 ⟨[(K_Si, false), (I, false)], [I], true, F_slices_Index_Sint_int N⟩ :=
  have E : Env Try.prog Γ_slices_Index_Sint_int := env_of tab trivial
  con_of (Pc := [(0, ⟨slices_Index_Sint_int_l0_h, slices_Index_Sint_int_l0_o, slices_Index_Sint_int_l0 N N⟩)]) E mixed Try.func70 (by kernel_rfl) (by kernel_rfl) (by kernel_rfl) (by kernel_rfl) (fun A hA => ⟨pc_of (inner := []) E mixed hA (by kernel_rfl) (by kernel_rfl) (by kernel_rfl) trivial (fun _ => rfl) (fun m d => (slices_Index_Sint_int_l0_ok N (slices_Index_Sint_int_l0 N m) d).symm) N, trivial⟩) (F_slices_Index_Sint_int_ok N)
theorem C_slices_Index_Sint_int : Contract Try.prog 70 S_slices_Index_Sint_int := Contract.less (fun N : Nat => F_slices_Index_Sint_int N) C_slices_Index_Sint_int_raw index_lim
theorem C_slices_Contains_Sint_int_raw (N : Nat) : Contract Try.prog 40 ⟨[(K_Si, false), (I, false)], [.bool], true, F_slices_Contains_Sint_int N⟩ :=
  have E : Env Try.prog Γ_slices_Contains_Sint_int := env_of tab ⟨C_slices_Index_Sint_int, trivial⟩
  con_of (Pc := []) E mixed Try.func40 (by kernel_rfl) (by kernel_rfl) (by kernel_rfl) (by kernel_rfl) (fun A hA => trivial) (F_slices_Contains_Sint_int_ok N)
theorem C_slices_Contains_Sint_int : Contract Try.prog 40 S_slices_Contains_Sint_int := C_slices_Contains_Sint_int_raw 0
theorem C_impl_openNets_raw (N : Nat) : Contract Try.prog 30 ⟨[(K_PPiSPiiqqiSSiq, false)], [K_SPSiq], true, F_impl_openNets N⟩ :=
  have E : Env Try.prog Γ_impl_openNets := env_of tab ⟨C_slices_Contains_Sint_int, ⟨C_impl_netOf, trivial⟩⟩
  con_of (Pc := [(0, ⟨impl_openNets_l0_h, impl_openNets_l0_o, impl_openNets_l0 N N⟩)]) E mixed Try.func30 (by kernel_rfl) (by kernel_rfl) (by kernel_rfl) (by kernel_rfl) (fun A hA => ⟨pc_of (inner := [(2, ⟨impl_openNets_l2_h, impl_openNets_l2_o, impl_openNets_l2 N N⟩)]) E mixed hA (by kernel_rfl) (by kernel_rfl) (by kernel_rfl) ⟨pc_of (inner := []) E mixed hA (by kernel_rfl) (by kernel_rfl) (by kernel_rfl) trivial (fun _ => rfl) (fun m d => (impl_openNets_l2_ok N (impl_openNets_l2 N m) d).symm) N, trivial⟩ (fun _ => rfl) (fun m d => (impl_openNets_l0_ok N (impl_openNets_l0 N m) d).symm) N, trivial⟩) (F_impl_openNets_ok N)
theorem C_impl_openNets : Contract Try.prog 30 S_impl_openNets := Contract.less (fun N : Nat => F_impl_openNets N) C_impl_openNets_raw openNets_lim
theorem C_impl_net_size_raw (N : Nat) : Contract Try.prog 59 ⟨[(K_PSiq, false)], [I], true, F_impl_net_size N⟩ :=
  have E : Env Try.prog Γ_impl_net_size := env_of tab trivial
  con_of (Pc := []) E mixed Try.func59 (by kernel_rfl) (by kernel_rfl) (by kernel_rfl) (by kernel_rfl) (fun A hA => trivial) (F_impl_net_size_ok N)
theorem C_impl_net_size : Contract Try.prog 59 S_impl_net_size := Contract.less (fun N : Nat => F_impl_net_size N) C_impl_net_size_raw (fun d r h => ⟨0, (F_impl_net_size_tot 0 d).trans h⟩)
theorem C_impl_net_closed_raw (N : Nat) : Contract Try.prog 33 ⟨[(K_PSiq, false), (I, false)], [I], true, F_impl_net_closed N⟩ :=
  have E : Env Try.prog Γ_impl_net_closed := env_of tab trivial
  con_of (Pc := []) E mixed Try.func33 (by kernel_rfl) (by kernel_rfl) (by kernel_rfl) (by kernel_rfl) (fun A hA => trivial) (F_impl_net_closed_ok N)
theorem C_impl_net_closed : Contract Try.prog 33 S_impl_net_closed := C_impl_net_closed_raw 0
theorem C_impl_setOf_raw (N : Nat) : Contract Try.prog 32 ⟨[(I, false)], [K_Si], true, F_impl_setOf N⟩ :=
  have E : Env Try.prog Γ_impl_setOf := env_of tab trivial
  con_of (Pc := [(0, ⟨impl_setOf_l0_h, impl_setOf_l0_o, impl_setOf_l0 N N⟩)]) E mixed Try.func32 (by kernel_rfl) (by kernel_rfl) (by kernel_rfl) (by kernel_rfl) (fun A hA => ⟨pc_of (inner := []) E mixed hA (by kernel_rfl) (by kernel_rfl) (by kernel_rfl) trivial (fun _ => rfl) (fun m d => (impl_setOf_l0_ok N (impl_setOf_l0 N m) d).symm) N, trivial⟩) (F_impl_setOf_ok N)
theorem C_impl_setOf : Contract Try.prog 32 S_impl_setOf := Contract.less (fun N : Nat => F_impl_setOf N) C_impl_setOf_raw setOf_lim
theorem C_impl_net_timeAfter_raw (N : Nat) : Contract Try.prog 34 ⟨[(K_PSiq, false), (K_Si, false), (I, false)], [I], true, F_impl_net_timeAfter N⟩ :=
  have E : Env Try.prog Γ_impl_net_timeAfter := env_of tab ⟨C_impl_setOf, ⟨C_impl_net_closed, trivial⟩⟩
  con_of (Pc := [(0, ⟨impl_net_timeAfter_l0_h, impl_net_timeAfter_l0_o, impl_net_timeAfter_l0 N N⟩)]) E mixed Try.func34 (by kernel_rfl) (by kernel_rfl) (by kernel_rfl) (by kernel_rfl) (fun A hA => ⟨pc_of (inner := []) E mixed hA (by kernel_rfl) (by kernel_rfl) (by kernel_rfl) trivial (fun _ => rfl) (fun m d => (impl_net_timeAfter_l0_ok N (impl_net_timeAfter_l0 N m) d).symm) N, trivial⟩) (F_impl_net_timeAfter_ok N)
theorem C_impl_net_timeAfter : Contract Try.prog 34 S_impl_net_timeAfter := Contract.less (fun N : Nat => F_impl_net_timeAfter N) C_impl_net_timeAfter_raw timeAfter_lim
theorem C_impl_timedTimes_1_raw (N : Nat) : Contract Try.prog 62 ⟨[(I, false)], [.bool], true, F_impl_timedTimes_1 N⟩ :=
  have E : Env Try.prog Γ_impl_timedTimes_1 := env_of tab trivial
  con_of (Pc := []) E mixed Try.func62 (by kernel_rfl) (by kernel_rfl) (by kernel_rfl) (by kernel_rfl) (fun A hA => trivial) (F_impl_timedTimes_1_ok N)
theorem C_impl_timedTimes_1 : Contract Try.prog 62 S_impl_timedTimes_1 := Contract.less (fun N : Nat => F_impl_timedTimes_1 N) C_impl_timedTimes_1_raw (fun d r h => ⟨0, (F_impl_timedTimes_1_tot 0 d).trans h⟩)
theorem CV_impl_timedTimes_1 : ContractV Try.prog SV_impl_timedTimes_1 := conV_0_1_0 C_impl_timedTimes_1
theorem C_impl_timedCan_1_by_impl_timedTimes_1_raw (N : Nat) : Contract Try.prog 81 ⟨[(I, false), (K_Bi, false), (K_BPSiq, false), (K_BSSi, false), (K_BF_impl_timedTimes_1_qq, false)], [.bool], true, F_impl_timedCan_1_by_impl_timedTimes_1 N⟩ :=
  have E : Env Try.prog Γ_impl_timedCan_1_by_impl_timedTimes_1 := env_ofV tab ⟨C_impl_net_timeAfter, trivial⟩ ⟨CV_impl_timedTimes_1, trivial⟩ (w1_of (by kernel_rfl))
  con_of (Pc := []) E mixed Try.func81 (by kernel_rfl) (by kernel_rfl) (by kernel_rfl) (by kernel_rfl) (fun A hA => trivial) (F_impl_timedCan_1_by_impl_timedTimes_1_ok N)
theorem C_impl_timedCan_1_by_impl_timedTimes_1 : Contract Try.prog 81 S_impl_timedCan_1_by_impl_timedTimes_1 := C_impl_timedCan_1_by_impl_timedTimes_1_raw 0
theorem CV_impl_timedCan_1_by_impl_timedTimes_1 : ContractV Try.prog SV_impl_timedCan_1_by_impl_timedTimes_1 := conV_0_1_4 C_impl_timedCan_1_by_impl_timedTimes_1
theorem C_slices_IndexFunc_Sint_int_by_impl_timedCan_1_impl_timedTimes_1_raw (N : Nat) : Contract Try.prog 89 ⟨[(K_Si, false), (K_F_impl_timedCan_1_qPBiBPSiqBSSiBF_impl_timedTimes_1_qqq, false)], [I], true, F_slices_IndexFunc_Sint_int_by_impl_timedCan_1_impl_timedTimes_1 N⟩ :=
  have E : Env Try.prog Γ_slices_IndexFunc_Sint_int_by_impl_timedCan_1_impl_timedTimes_1 := env_ofV tab trivial ⟨CV_impl_timedCan_1_by_impl_timedTimes_1, trivial⟩ (fun _ h => by cases h)
  con_of (Pc := [(0, ⟨slices_IndexFunc_Sint_int_by_impl_timedCan_1_impl_timedTimes_1_l0_h, slices_IndexFunc_Sint_int_by_impl_timedCan_1_impl_timedTimes_1_l0_o, slices_IndexFunc_Sint_int_by_impl_timedCan_1_impl_timedTimes_1_l0 N N⟩)]) E mixed Try.func89 (by kernel_rfl) (by kernel_rfl) (by kernel_rfl) (by kernel_rfl) (fun A hA => ⟨pc_of (inner := []) E mixed hA (by kernel_rfl) (by kernel_rfl) (by kernel_rfl) trivial (fun _ => rfl) (fun m d => (slices_IndexFunc_Sint_int_by_impl_timedCan_1_impl_timedTimes_1_l0_ok N (slices_IndexFunc_Sint_int_by_impl_timedCan_1_impl_timedTimes_1_l0 N m) d).symm) N, trivial⟩) (F_slices_IndexFunc_Sint_int_by_impl_timedCan_1_impl_timedTimes_1_ok N)
theorem C_slices_IndexFunc_Sint_int_by_impl_timedCan_1_impl_timedTimes_1 : Contract Try.prog 89 S_slices_IndexFunc_Sint_int_by_impl_timedCan_1_impl_timedTimes_1 := Contract.less (fun N : Nat => F_slices_IndexFunc_Sint_int_by_impl_timedCan_1_impl_timedTimes_1 N) C_slices_IndexFunc_Sint_int_by_impl_timedCan_1_impl_timedTimes_1_raw indexTT_lim
theorem C_slices_ContainsFunc_Sint_int_by_impl_timedCan_1_impl_timedTimes_1_raw (N : Nat) : Contract Try.prog 80 ⟨[(K_Si, false), (K_F_impl_timedCan_1_qPBiBPSiqBSSiBF_impl_timedTimes_1_qqq, false)], [.bool], true, F_slices_ContainsFunc_Sint_int_by_impl_timedCan_1_impl_timedTimes_1 N⟩ :=
  have E : Env Try.prog Γ_slices_ContainsFunc_Sint_int_by_impl_timedCan_1_impl_timedTimes_1 := env_of tab ⟨C_slices_IndexFunc_Sint_int_by_impl_timedCan_1_impl_timedTimes_1, trivial⟩
  con_of (Pc := []) E mixed Try.func80 (by kernel_rfl) (by kernel_rfl) (by kernel_rfl) (by kernel_rfl) (fun A hA => trivial) (F_slices_ContainsFunc_Sint_int_by_impl_timedCan_1_impl_timedTimes_1_ok N)
theorem C_slices_ContainsFunc_Sint_int_by_impl_timedCan_1_impl_timedTimes_1 : Contract Try.prog 80 S_slices_ContainsFunc_Sint_int_by_impl_timedCan_1_impl_timedTimes_1 := C_slices_ContainsFunc_Sint_int_by_impl_timedCan_1_impl_timedTimes_1_raw 0
theorem C_impl_timedCan_by_impl_timedTimes_1_raw (N : Nat) : Contract Try.prog 61 ⟨[(K_PSiq, false), (K_SSi, false), (I, false), (I, false), (K_F_impl_timedTimes_1_qq, false)], [.bool], true, F_impl_timedCan_by_impl_timedTimes_1 N⟩ :=
  have E : Env Try.prog Γ_impl_timedCan_by_impl_timedTimes_1 := env_ofV tab ⟨C_impl_setOf, ⟨C_impl_net_closed, ⟨C_slices_ContainsFunc_Sint_int_by_impl_timedCan_1_impl_timedTimes_1, trivial⟩⟩⟩ trivial (fun _ h => by cases h)
  con_of (Pc := []) E mixed Try.func61 (by kernel_rfl) (by kernel_rfl) (by kernel_rfl) (by kernel_rfl) (fun A hA => trivial) (F_impl_timedCan_by_impl_timedTimes_1_ok N)
theorem C_impl_timedCan_by_impl_timedTimes_1 : Contract Try.prog 61 S_impl_timedCan_by_impl_timedTimes_1 := C_impl_timedCan_by_impl_timedTimes_1_raw 0
theorem C_impl_timedTimes_raw (N : Nat) : Contract Try.prog 31 ⟨[(K_SPSiq, false)], [K_SSSi], true, F_impl_timedTimes N⟩ :=
  have E : Env Try.prog Γ_impl_timedTimes := env_of tab ⟨C_impl_net_size, ⟨C_slices_Repeat_Sint_int, ⟨C_impl_timedCan_by_impl_timedTimes_1, trivial⟩⟩⟩
  con_of (Pc := [(0, ⟨impl_timedTimes_l0_h, impl_timedTimes_l0_o, impl_timedTimes_l0 N N⟩), (4, ⟨impl_timedTimes_l4_h, impl_timedTimes_l4_o, impl_timedTimes_l4 N N⟩)]) E mixed Try.func31 (by kernel_rfl) (by kernel_rfl) (by kernel_rfl) (by kernel_rfl) (fun A hA => ⟨pc_of (inner := [(2, ⟨impl_timedTimes_l2_h, impl_timedTimes_l2_o, impl_timedTimes_l2 N N⟩)]) E mixed hA (by kernel_rfl) (by kernel_rfl) (by kernel_rfl) ⟨pc_of (inner := []) E mixed hA (by kernel_rfl) (by kernel_rfl) (by kernel_rfl) trivial (fun _ => rfl) (fun m d => (impl_timedTimes_l2_ok N (impl_timedTimes_l2 N m) d).symm) N, trivial⟩ (fun _ => rfl) (fun m d => (impl_timedTimes_l0_ok N (impl_timedTimes_l0 N m) d).symm) N, ⟨pc_of (inner := [(6, ⟨impl_timedTimes_l6_h, impl_timedTimes_l6_o, impl_timedTimes_l6 N N⟩), (12, ⟨impl_timedTimes_l12_h, impl_timedTimes_l12_o, impl_timedTimes_l12 N N⟩)]) E mixed hA (by kernel_rfl) (by kernel_rfl) (by kernel_rfl) ⟨pc_of (inner := [(8, ⟨impl_timedTimes_l8_h, impl_timedTimes_l8_o, impl_timedTimes_l8 N N⟩)]) E mixed hA (by kernel_rfl) (by kernel_rfl) (by kernel_rfl) ⟨pc_of (inner := [(10, ⟨impl_timedTimes_l10_h, impl_timedTimes_l10_o, impl_timedTimes_l10 N N⟩)]) E mixed hA (by kernel_rfl) (by kernel_rfl) (by kernel_rfl) ⟨pc_of (inner := []) E mixed hA (by kernel_rfl) (by kernel_rfl) (by kernel_rfl) trivial (fun _ => rfl) (fun m d => (impl_timedTimes_l10_ok N (impl_timedTimes_l10 N m) d).symm) N, trivial⟩ (fun _ => rfl) (fun m d => (impl_timedTimes_l8_ok N (impl_timedTimes_l8 N m) d).symm) N, trivial⟩ (fun _ => rfl) (fun m d => (impl_timedTimes_l6_ok N (impl_timedTimes_l6 N m) d).symm) N, ⟨pc_of (inner := []) E mixed hA (by kernel_rfl) (by kernel_rfl) (by kernel_rfl) trivial (fun _ => rfl) (fun m d => (impl_timedTimes_l12_ok N (impl_timedTimes_l12 N m) d).symm) N, trivial⟩⟩ (fun _ => rfl) (fun m d => (impl_timedTimes_l4_ok N (impl_timedTimes_l4 N m) d).symm) N, trivial⟩⟩) (F_impl_timedTimes_ok N)
theorem C_impl_timedTimes : Contract Try.prog 31 S_impl_timedTimes := Contract.less (fun N : Nat => F_impl_timedTimes N) C_impl_timedTimes_raw timedTimes_lim
theorem C_impl_TimedTimes_raw (N : Nat) : Contract Try.prog 14 ⟨[(K_PPiSPiiqqiSSiq, false)], [K_SSSi, .bool], true, F_impl_TimedTimes N⟩ :=
  have E : Env Try.prog Γ_impl_TimedTimes := env_of tab ⟨C_impl_openNets, ⟨C_impl_timedTimes, ⟨C_impl_IsTimetable, trivial⟩⟩⟩
  con_of (Pc := []) E mixed Try.func14 (by kernel_rfl) (by kernel_rfl) (by kernel_rfl) (by kernel_rfl) (fun A hA => trivial) (F_impl_TimedTimes_ok N)
theorem C_impl_TimedTimes : Contract Try.prog 14 S_impl_TimedTimes := C_impl_TimedTimes_raw 0
theorem C_laws_eqIntS_raw (N : Nat) : Contract Try.prog 64 ⟨[(K_Si, false), (K_Si, false)], [.bool], true, F_laws_eqIntS N⟩ :=
  have E : Env Try.prog Γ_laws_eqIntS := env_of tab trivial
  con_of (Pc := [(0, ⟨laws_eqIntS_l0_h, laws_eqIntS_l0_o, laws_eqIntS_l0 N N⟩)]) E mixed Try.func64 (by kernel_rfl) (by kernel_rfl) (by kernel_rfl) (by kernel_rfl) (fun A hA => ⟨pc_of (inner := []) E mixed hA (by kernel_rfl) (by kernel_rfl) (by kernel_rfl) trivial (fun _ => rfl) (fun m d => (laws_eqIntS_l0_ok N (laws_eqIntS_l0 N m) d).symm) N, trivial⟩) (F_laws_eqIntS_ok N)
theorem C_laws_eqIntS : Contract Try.prog 64 S_laws_eqIntS := Contract.less (fun N : Nat => F_laws_eqIntS N) C_laws_eqIntS_raw eqIntS_lim
theorem C_laws_eqIntSS_raw (N : Nat) : Contract Try.prog 36 ⟨[(K_SSi, false), (K_SSi, false)], [.bool], true, F_laws_eqIntSS N⟩ :=
  have E : Env Try.prog Γ_laws_eqIntSS := env_of tab ⟨C_laws_eqIntS, trivial⟩
  con_of (Pc := [(0, ⟨laws_eqIntSS_l0_h, laws_eqIntSS_l0_o, laws_eqIntSS_l0 N N⟩)]) E mixed Try.func36 (by kernel_rfl) (by kernel_rfl) (by kernel_rfl) (by kernel_rfl) (fun A hA => ⟨pc_of (inner := []) E mixed hA (by kernel_rfl) (by kernel_rfl) (by kernel_rfl) trivial (fun _ => rfl) (fun m d => (laws_eqIntSS_l0_ok N (laws_eqIntSS_l0 N m) d).symm) N, trivial⟩) (F_laws_eqIntSS_ok N)
theorem C_laws_eqIntSS : Contract Try.prog 36 S_laws_eqIntSS := Contract.less (fun N : Nat => F_laws_eqIntSS N) C_laws_eqIntSS_raw eqIntSS_lim
theorem C_laws_eqIntSSS_raw (N : Nat) : Contract Try.prog 15 ⟨[(K_SSSi, false), (K_SSSi, false)], [.bool], true, F_laws_eqIntSSS N⟩ :=
  have E : Env Try.prog Γ_laws_eqIntSSS := env_of tab ⟨C_laws_eqIntSS, trivial⟩
  con_of (Pc := [(0, ⟨laws_eqIntSSS_l0_h, laws_eqIntSSS_l0_o, laws_eqIntSSS_l0 N N⟩)]) E mixed Try.func15 (by kernel_rfl) (by kernel_rfl) (by kernel_rfl) (by kernel_rfl) (fun A hA => ⟨pc_of (inner := []) E mixed hA (by kernel_rfl) (by kernel_rfl) (by kernel_rfl) trivial (fun _ => rfl) (fun m d => (laws_eqIntSSS_l0_ok N (laws_eqIntSSS_l0 N m) d).symm) N, trivial⟩) (F_laws_eqIntSSS_ok N)
theorem C_laws_eqIntSSS : Contract Try.prog 15 S_laws_eqIntSSS := Contract.less (fun N : Nat => F_laws_eqIntSSS N) C_laws_eqIntSSS_raw eqIntSSS_lim
theorem C_laws_eqIntA2_raw (N : Nat) : Contract Try.prog 82 ⟨[(K_Piiq, false), (K_Piiq, false)], [.bool], true, F_laws_eqIntA2 N⟩ :=
  have E : Env Try.prog Γ_laws_eqIntA2 := env_of tab trivial
  con_of (Pc := [(0, ⟨laws_eqIntA2_l0_h, laws_eqIntA2_l0_o, laws_eqIntA2_l0 N N⟩)]) E mixed Try.func82 (by kernel_rfl) (by kernel_rfl) (by kernel_rfl) (by kernel_rfl) (fun A hA => ⟨pc_of (inner := []) E mixed hA (by kernel_rfl) (by kernel_rfl) (by kernel_rfl) trivial (fun _ => rfl) (fun m d => (laws_eqIntA2_l0_ok N (laws_eqIntA2_l0 N m) d).symm) N, trivial⟩) (F_laws_eqIntA2_ok N)
theorem C_laws_eqIntA2 : Contract Try.prog 82 S_laws_eqIntA2 := Contract.less (fun N : Nat => F_laws_eqIntA2 N) C_laws_eqIntA2_raw eqIntA2_lim
theorem C_laws_eqIntA2S_raw (N : Nat) : Contract Try.prog 63 ⟨[(K_SPiiq, false), (K_SPiiq, false)], [.bool], true, F_laws_eqIntA2S N⟩ :=
  have E : Env Try.prog Γ_laws_eqIntA2S := env_of tab ⟨C_laws_eqIntA2, trivial⟩
  con_of (Pc := [(0, ⟨laws_eqIntA2S_l0_h, laws_eqIntA2S_l0_o, laws_eqIntA2S_l0 N N⟩)]) E mixed Try.func63 (by kernel_rfl) (by kernel_rfl) (by kernel_rfl) (by kernel_rfl) (fun A hA => ⟨pc_of (inner := []) E mixed hA (by kernel_rfl) (by kernel_rfl) (by kernel_rfl) trivial (fun _ => rfl) (fun m d => (laws_eqIntA2S_l0_ok N (laws_eqIntA2S_l0 N m) d).symm) N, trivial⟩) (F_laws_eqIntA2S_ok N)
theorem C_laws_eqIntA2S : Contract Try.prog 63 S_laws_eqIntA2S := Contract.less (fun N : Nat => F_laws_eqIntA2S N) C_laws_eqIntA2S_raw eqIntA2S_lim
theorem C_laws_eqGraph_raw (N : Nat) : Contract Try.prog 35 ⟨[(K_PiSPiiqq, false), (K_PiSPiiqq, false)], [.bool], true, F_laws_eqGraph N⟩ :=
  have E : Env Try.prog Γ_laws_eqGraph := env_of tab ⟨C_laws_eqIntA2S, trivial⟩
  con_of (Pc := []) E mixed Try.func35 (by kernel_rfl) (by kernel_rfl) (by kernel_rfl) (by kernel_rfl) (fun A hA => trivial) (F_laws_eqGraph_ok N)
theorem C_laws_eqGraph : Contract Try.prog 35 S_laws_eqGraph := C_laws_eqGraph_raw 0
theorem C_laws_eqTimetable_raw (N : Nat) : Contract Try.prog 10 ⟨[(K_PPiSPiiqqiSSiq, false), (K_PPiSPiiqqiSSiq, false)], [.bool], true, F_laws_eqTimetable N⟩ :=
  have E : Env Try.prog Γ_laws_eqTimetable := env_of tab ⟨C_laws_eqGraph, ⟨C_laws_eqIntSS, trivial⟩⟩
  con_of (Pc := []) E mixed Try.func10 (by kernel_rfl) (by kernel_rfl) (by kernel_rfl) (by kernel_rfl) (fun A hA => trivial) (F_laws_eqTimetable_ok N)
theorem C_laws_eqTimetable : Contract Try.prog 10 S_laws_eqTimetable := C_laws_eqTimetable_raw 0
theorem C_laws_markIntA2S_raw (N : Nat) : Contract Try.prog 71 ⟨[(K_SPiiq, true), (I, false)], [I], true, F_laws_markIntA2S N⟩ :=
  have E : Env Try.prog Γ_laws_markIntA2S := env_of tab trivial
  con_of (Pc := [(0, ⟨laws_markIntA2S_l0_h, laws_markIntA2S_l0_o, laws_markIntA2S_l0 N N⟩)]) E mixed Try.func71 (by kernel_rfl) (by kernel_rfl) (by kernel_rfl) (by kernel_rfl) (fun A hA => ⟨pc_of (inner := [(2, ⟨laws_markIntA2S_l2_h, laws_markIntA2S_l2_o, laws_markIntA2S_l2 N N⟩)]) E mixed hA (by kernel_rfl) (by kernel_rfl) (by kernel_rfl) ⟨pc_of (inner := []) E mixed hA (by kernel_rfl) (by kernel_rfl) (by kernel_rfl) trivial (fun _ => rfl) (fun m d => (laws_markIntA2S_l2_ok N (laws_markIntA2S_l2 N m) d).symm) N, trivial⟩ (fun _ => rfl) (fun m d => (laws_markIntA2S_l0_ok N (laws_markIntA2S_l0 N m) d).symm) N, trivial⟩) (F_laws_markIntA2S_ok N)
theorem C_laws_markIntA2S : Contract Try.prog 71 S_laws_markIntA2S := Contract.less (fun N : Nat => F_laws_markIntA2S N) C_laws_markIntA2S_raw markIntA2S_lim
theorem C_laws_markGraph_raw (N : Nat) : Contract Try.prog 42 ⟨[(K_PiSPiiqq, true), (I, false)], [I], true, F_laws_markGraph N⟩ :=
  have E : Env Try.prog Γ_laws_markGraph := env_of tab ⟨C_laws_markIntA2S, trivial⟩
  con_of (Pc := []) E mixed Try.func42 (by kernel_rfl) (by kernel_rfl) (by kernel_rfl) (by kernel_rfl) (fun A hA => trivial) (F_laws_markGraph_ok N)
theorem C_laws_markGraph : Contract Try.prog 42 S_laws_markGraph := C_laws_markGraph_raw 0
theorem C_laws_markIntS_raw (N : Nat) : Contract Try.prog 72 ⟨[(K_Si, true), (I, false)], [I], true, F_laws_markIntS N⟩ :=
  have E : Env Try.prog Γ_laws_markIntS := env_of tab trivial
  con_of (Pc := [(0, ⟨laws_markIntS_l0_h, laws_markIntS_l0_o, laws_markIntS_l0 N N⟩)]) E mixed Try.func72 (by kernel_rfl) (by kernel_rfl) (by kernel_rfl) (by kernel_rfl) (fun A hA => ⟨pc_of (inner := []) E mixed hA (by kernel_rfl) (by kernel_rfl) (by kernel_rfl) trivial (fun _ => rfl) (fun m d => (laws_markIntS_l0_ok N (laws_markIntS_l0 N m) d).symm) N, trivial⟩) (F_laws_markIntS_ok N)
theorem C_laws_markIntS : Contract Try.prog 72 S_laws_markIntS := Contract.less (fun N : Nat => F_laws_markIntS N) C_laws_markIntS_raw markIntS_lim
theorem C_laws_markIntSS_raw (N : Nat) : Contract Try.prog 43 ⟨[(K_SSi, true), (I, false)], [I], true, F_laws_markIntSS N⟩ :=
  have E : Env Try.prog Γ_laws_markIntSS := env_of tab ⟨C_laws_markIntS, trivial⟩
  con_of (Pc := [(0, ⟨laws_markIntSS_l0_h, laws_markIntSS_l0_o, laws_markIntSS_l0 N N⟩)]) E mixed Try.func43 (by kernel_rfl) (by kernel_rfl) (by kernel_rfl) (by kernel_rfl) (fun A hA => ⟨pc_of (inner := []) E mixed hA (by kernel_rfl) (by kernel_rfl) (by kernel_rfl) trivial (fun _ => rfl) (fun m d => (laws_markIntSS_l0_ok N (laws_markIntSS_l0 N m) d).symm) N, trivial⟩) (F_laws_markIntSS_ok N)
theorem C_laws_markIntSS : Contract Try.prog 43 S_laws_markIntSS := Contract.less (fun N : Nat => F_laws_markIntSS N) C_laws_markIntSS_raw markIntSS_lim
theorem C_laws_markTimetable_raw (N : Nat) : Contract Try.prog 16 ⟨[(K_PPiSPiiqqiSSiq, true), (I, false)], [I], true, F_laws_markTimetable N⟩ :=
  have E : Env Try.prog Γ_laws_markTimetable := env_of tab ⟨C_laws_markGraph, ⟨C_laws_markIntSS, trivial⟩⟩
  con_of (Pc := []) E mixed Try.func16 (by kernel_rfl) (by kernel_rfl) (by kernel_rfl) (by kernel_rfl) (fun A hA => trivial) (F_laws_markTimetable_ok N)
theorem C_laws_markTimetable : Contract Try.prog 16 S_laws_markTimetable := C_laws_markTimetable_raw 0
theorem C_laws_markIntSSS_raw (N : Nat) : Contract Try.prog 17 ⟨[(K_SSSi, true), (I, false)], [I], true, F_laws_markIntSSS N⟩ :=
  have E : Env Try.prog Γ_laws_markIntSSS := env_of tab ⟨C_laws_markIntSS, trivial⟩
  con_of (Pc := [(0, ⟨laws_markIntSSS_l0_h, laws_markIntSSS_l0_o, laws_markIntSSS_l0 N N⟩)]) E mixed Try.func17 (by kernel_rfl) (by kernel_rfl) (by kernel_rfl) (by kernel_rfl) (fun A hA => ⟨pc_of (inner := []) E mixed hA (by kernel_rfl) (by kernel_rfl) (by kernel_rfl) trivial (fun _ => rfl) (fun m d => (laws_markIntSSS_l0_ok N (laws_markIntSSS_l0 N m) d).symm) N, trivial⟩) (F_laws_markIntSSS_ok N)
theorem C_laws_markIntSSS : Contract Try.prog 17 S_laws_markIntSSS := Contract.less (fun N : Nat => F_laws_markIntSSS N) C_laws_markIntSSS_raw markIntSSS_lim
theorem C_laws_heldIntS_raw (N : Nat) : Contract Try.prog 73 ⟨[(K_Si, false), (I, false)], [I], true, F_laws_heldIntS N⟩ :=
  have E : Env Try.prog Γ_laws_heldIntS := env_of tab trivial
  con_of (Pc := [(0, ⟨laws_heldIntS_l0_h, laws_heldIntS_l0_o, laws_heldIntS_l0 N N⟩)]) E mixed Try.func73 (by kernel_rfl) (by kernel_rfl) (by kernel_rfl) (by kernel_rfl) (fun A hA => ⟨pc_of (inner := []) E mixed hA (by kernel_rfl) (by kernel_rfl) (by kernel_rfl) trivial (fun _ => rfl) (fun m d => (laws_heldIntS_l0_ok N (laws_heldIntS_l0 N m) d).symm) N, trivial⟩) (F_laws_heldIntS_ok N)
theorem C_laws_heldIntS : Contract Try.prog 73 S_laws_heldIntS := Contract.less (fun N : Nat => F_laws_heldIntS N) C_laws_heldIntS_raw heldIntS_lim
theorem C_laws_heldIntSS_raw (N : Nat) : Contract Try.prog 44 ⟨[(K_SSi, false), (I, false)], [I], true, F_laws_heldIntSS N⟩ :=
  have E : Env Try.prog Γ_laws_heldIntSS := env_of tab ⟨C_laws_heldIntS, trivial⟩
  con_of (Pc := [(0, ⟨laws_heldIntSS_l0_h, laws_heldIntSS_l0_o, laws_heldIntSS_l0 N N⟩)]) E mixed Try.func44 (by kernel_rfl) (by kernel_rfl) (by kernel_rfl) (by kernel_rfl) (fun A hA => ⟨pc_of (inner := []) E mixed hA (by kernel_rfl) (by kernel_rfl) (by kernel_rfl) trivial (fun _ => rfl) (fun m d => (laws_heldIntSS_l0_ok N (laws_heldIntSS_l0 N m) d).symm) N, trivial⟩) (F_laws_heldIntSS_ok N)
theorem C_laws_heldIntSS : Contract Try.prog 44 S_laws_heldIntSS := Contract.less (fun N : Nat => F_laws_heldIntSS N) C_laws_heldIntSS_raw heldIntSS_lim
theorem C_laws_heldIntSSS_raw (N : Nat) : Contract Try.prog 18 ⟨[(K_SSSi, false), (I, false)], [I], true, F_laws_heldIntSSS N⟩ :=
  have E : Env Try.prog Γ_laws_heldIntSSS := env_of tab ⟨C_laws_heldIntSS, trivial⟩
  con_of (Pc := [(0, ⟨laws_heldIntSSS_l0_h, laws_heldIntSSS_l0_o, laws_heldIntSSS_l0 N N⟩)]) E mixed Try.func18 (by kernel_rfl) (by kernel_rfl) (by kernel_rfl) (by kernel_rfl) (fun A hA => ⟨pc_of (inner := []) E mixed hA (by kernel_rfl) (by kernel_rfl) (by kernel_rfl) trivial (fun _ => rfl) (fun m d => (laws_heldIntSSS_l0_ok N (laws_heldIntSSS_l0 N m) d).symm) N, trivial⟩) (F_laws_heldIntSSS_ok N)
theorem C_laws_heldIntSSS : Contract Try.prog 18 S_laws_heldIntSSS := Contract.less (fun N : Nat => F_laws_heldIntSSS N) C_laws_heldIntSSS_raw heldIntSSS_lim
theorem C_laws_FnExactTimedTimes_raw (N : Nat) : Contract Try.prog 5 ⟨[(K_PPiSPiiqqiSSiq, false)], [.bool], true, F_laws_FnExactTimedTimes N⟩ :=
  have E : Env Try.prog Γ_laws_FnExactTimedTimes := env_of tab ⟨C_laws_szTimetable, ⟨C_laws_toTimetable, ⟨C_laws_eqTimetable, ⟨C_spec_TimedTimes, ⟨C_impl_TimedTimes, ⟨C_laws_eqIntSSS, ⟨C_laws_markTimetable, ⟨C_laws_markIntSSS, ⟨C_laws_heldIntSSS, trivial⟩⟩⟩⟩⟩⟩⟩⟩⟩
  con_of (Pc := []) E mixed Try.func5 (by kernel_rfl) (by kernel_rfl) (by kernel_rfl) (by kernel_rfl) (fun A hA => trivial) (F_laws_FnExactTimedTimes_ok N)
theorem C_laws_FnExactTimedTimes : Contract Try.prog 5 S_laws_FnExactTimedTimes := C_laws_FnExactTimedTimes_raw 0
end Go.V.W
