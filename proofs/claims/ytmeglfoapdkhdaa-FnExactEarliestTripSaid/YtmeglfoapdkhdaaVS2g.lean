/- Marks that are set and asked for, told plainly; copies of the library. -/
import Derived.Test.YtmeglfoapdkhdaaVS2e
set_option linter.unusedVariables false
set_option linter.unusedSimpArgs false
namespace Go.V.W
open Go.Proofs

theorem cloneA2_lim (d) (r) (h : G_toIntA2S d = some r) : ∃ N, F_slices_Clone_S_2_int_2_int N d = some r := by
  obtain ⟨l, _⟩ := d
  unfold G_toIntA2S at h
  split at h
  · rename_i hl
    have hl : l.length ≤ lim := of_decide_eq_true hl
    have h := Option.some.inj h
    subst h
    refine ⟨0, ?_⟩
    unfold F_slices_Clone_S_2_int_2_int
    have h1 : decide (List.length ([] : List E) + l.length ≤ lim) = true := by simp [hl]
    simp only [h1, if_true, List.nil_append]
    split
    · rename_i h0
      have : l = [] := List.length_eq_zero_iff.1 (of_decide_eq_true h0)
      subst this
      simp [both]
    · rfl
  · cases h
theorem okK_of {k : Int} (h : okK k = true) : 0 ≤ k ∧ k ≤ 4398046511104 := by
  simp only [okK, Bool.and_eq_true, decide_eq_true_eq] at h
  exact h
theorem at_mid {e : Kd} (pre : List e.den) (x : e.den) (rest : List e.den) : at_ e (pre ++ x :: rest) pre.length = x := by
  rw [at_get (e := e) (by simp)]
  simp
theorem set_mid {α : Type} (pre : List α) (x y : α) (rest : List α) : List.set (pre ++ x :: rest) pre.length y = (pre ++ [y]) ++ rest := by
  simp
theorem mid_lt {α : Type} (pre : List α) (x : α) (rest : List α) : pre.length < (pre ++ x :: rest).length := by simp
theorem markIntS_l0 (N : Nat) : ∀ (rest pre : List Int) (k : Int) (n : Nat), pre.length + rest.length ≤ lim → rest.length ≤ n → 0 ≤ k → k + rest.length ≤ 9007199254740992 →
    laws_markIntS_l0 N (n + 1) (pre ++ rest, k, (pre.length : Int), ()) = some (.inl (pre ++ markL k rest, k + rest.length, ())) := by
  intro rest
  induction rest with
  | nil =>
    intro pre k n h1 h2 h3 h4
    simp [laws_markIntS_l0, laws_markIntS_l0_r, markL]
  | cons x rest ih =>
    intro pre k n h1 h2 h3 h4
    simp only [List.length_cons] at h1 h2 h4
    have hlt := mid_lt pre x rest
    have hmx : (pre ++ x :: rest).length ≤ maxLen := by
      have := lim_max h1
      simpa using this
    obtain ⟨n, rfl⟩ : ∃ m, n = m + 1 := ⟨n - 1, by omega⟩
    show laws_markIntS_l0_r N (laws_markIntS_l0 N (n + 1)) (pre ++ x :: rest, k, (pre.length : Int), ()) = _
    unfold laws_markIntS_l0_r
    have hw : IntKind.wrap .i64 (k + 1) = k + 1 := wrap_in _ (by omega) (by omega)
    simp only [lt_dec hlt, if_true, idxIn_nat hlt, Int.toNat_natCast, wrap_up hlt hmx, hw, set_mid]
    have := ih (pre ++ [k]) (k + 1) n (by simp; omega) (by omega) (by omega) (by omega)
    rw [show (pre ++ [k]).length = pre.length + 1 by simp] at this
    rw [this]
    simp [markL]
    omega
theorem markIntS_lim (d) (r) (h : G_markIntS d = some r) : ∃ N, F_laws_markIntS N d = some r := by
  obtain ⟨l, k, _⟩ := d
  unfold G_markIntS at h
  split at h
  · rename_i hl
    simp only [Bool.and_eq_true] at hl
    have hk := okK_of hl.2
    have hl : l.length ≤ lim := of_decide_eq_true hl.1
    have h := Option.some.inj h
    subst h
    refine ⟨l.length + 1, ?_⟩
    unfold F_laws_markIntS
    have := markIntS_l0 (l.length + 1) l [] k l.length (by simpa using hl) (Nat.le_refl _) hk.1 (by unfold lim at hl; omega)
    simp only [List.nil_append, List.length_nil, Int.natCast_zero] at this
    simp only [this, Option.bind_some]
  · cases h
theorem heldIntS_l0 (N : Nat) : ∀ (rest pre : List Int) (k : Int) (n : Nat), pre.length + rest.length ≤ lim → rest.length ≤ n → 0 ≤ k → k + rest.length ≤ 9007199254740992 →
    laws_heldIntS_l0 N (n + 1) (pre ++ rest, k, (pre.length : Int), ()) = some (.inl (heldL k rest, ())) ∨ laws_heldIntS_l0 N (n + 1) (pre ++ rest, k, (pre.length : Int), ()) = some (.inr (.inl (heldL k rest, ()))) := by
  intro rest
  induction rest with
  | nil =>
    intro pre k n h1 h2 h3 h4
    right
    simp [laws_heldIntS_l0, laws_heldIntS_l0_r, heldL]
  | cons x rest ih =>
    intro pre k n h1 h2 h3 h4
    simp only [List.length_cons] at h1 h2 h4
    have hlt := mid_lt pre x rest
    have hmx : (pre ++ x :: rest).length ≤ maxLen := by
      have := lim_max h1
      simpa using this
    obtain ⟨n, rfl⟩ : ∃ m, n = m + 1 := ⟨n - 1, by omega⟩
    have hw : IntKind.wrap .i64 (k + 1) = k + 1 := wrap_in _ (by omega) (by omega)
    have hstep : laws_heldIntS_l0 N (n + 1 + 1) (pre ++ x :: rest, k, (pre.length : Int), ()) = if x = k then laws_heldIntS_l0 N (n + 1) (pre ++ x :: rest, k + 1, ((pre.length + 1 : Nat) : Int), ()) else some (.inl (-1, ())) := by
      show laws_heldIntS_l0_r N (laws_heldIntS_l0 N (n + 1)) (pre ++ x :: rest, k, (pre.length : Int), ()) = _
      unfold laws_heldIntS_l0_r
      simp only [lt_dec hlt, if_true, idxIn_nat hlt, Int.toNat_natCast, wrap_up hlt hmx, hw, at_mid (e := I)]
      by_cases he : x = k
      · simp [he]
      · have : (x != k) = true := by simpa using he
        simp only [this, if_true, he, if_false]
    rw [hstep]
    simp only [heldL]
    by_cases he : x = k
    · simp only [he, if_true]
      have := ih (pre ++ [k]) (k + 1) n (by simp; omega) (by omega) (by omega) (by omega)
      rw [show (pre ++ [k]).length = pre.length + 1 by simp, List.append_assoc] at this
      exact this
    · simp [he]
theorem heldIntS_lim (d) (r) (h : G_heldIntS d = some r) : ∃ N, F_laws_heldIntS N d = some r := by
  obtain ⟨l, k, _⟩ := d
  unfold G_heldIntS at h
  split at h
  · rename_i hl
    simp only [Bool.and_eq_true] at hl
    have hk := okK_of hl.2
    have hl : l.length ≤ lim := of_decide_eq_true hl.1
    have h := Option.some.inj h
    subst h
    refine ⟨l.length + 1, ?_⟩
    unfold F_laws_heldIntS
    have := heldIntS_l0 (l.length + 1) l [] k l.length (by simpa using hl) (Nat.le_refl _) hk.1 (by unfold lim at hl; omega)
    simp only [List.nil_append, List.length_nil, Int.natCast_zero] at this
    rcases this with this | this <;> simp only [this, Option.bind_some]
  · cases h
/-! ### pairs -/
theorem markIntA2S_l0 (N : Nat) : ∀ (rest pre : List E) (k : Int) (n : Nat), pre.length + rest.length ≤ lim → rest.length ≤ n → 0 ≤ k → k + 2 * rest.length ≤ 9007199254740992 →
    laws_markIntA2S_l0 (N + 3) (n + 1) (pre ++ rest, k, (pre.length : Int), ()) = some (.inl (pre ++ markA k rest, k + 2 * rest.length, ())) := by
  intro rest
  induction rest with
  | nil =>
    intro pre k n h1 h2 h3 h4
    simp [laws_markIntA2S_l0, laws_markIntA2S_l0_r, markA]
  | cons x rest ih =>
    intro pre k n h1 h2 h3 h4
    simp only [List.length_cons] at h1 h2 h4
    have hlt := mid_lt pre x rest
    have hmx : (pre ++ x :: rest).length ≤ maxLen := by
      have := lim_max h1
      simpa using this
    obtain ⟨n, rfl⟩ : ∃ m, n = m + 1 := ⟨n - 1, by omega⟩
    have hw : IntKind.wrap .i64 (k + 1) = k + 1 := wrap_in _ (by omega) (by omega)
    have hw2 : IntKind.wrap .i64 (k + 1 + 1) = k + 1 + 1 := wrap_in _ (by omega) (by omega)
    have hin : laws_markIntA2S_l2 (N + 3) (N + 3) (pre ++ x :: rest, k, (pre.length : Int), (0 : Int), ()) = some (.inl (pre ++ (k, k + 1, ()) :: rest, k + 1 + 1, (pre.length : Int), ())) := by
      have i1 : idxIn (pre.length : Int) (pre.length + (rest.length + 1)) = true := idxIn_nat (by omega)
      have w0 : IntKind.wrap .i64 1 = 1 := wrap_in _ (by omega) (by omega)
      have w1 : IntKind.wrap .i64 2 = 2 := wrap_in _ (by omega) (by omega)
      have a1 := at_mid (e := K_Piiq) pre x rest
      have a2 := at_mid (e := K_Piiq) pre (k, x.2) rest
      simp [laws_markIntA2S_l2, laws_markIntA2S_l2_r, i1, hw, hw2, w0, w1, a1, a2]
    show laws_markIntA2S_l0_r (N + 3) (laws_markIntA2S_l0 (N + 3) (n + 1)) (pre ++ x :: rest, k, (pre.length : Int), ()) = _
    unfold laws_markIntA2S_l0_r
    simp only [lt_dec hlt, if_true, hin, Option.bind_some, wrap_up hlt hmx]
    have := ih (pre ++ [(k, k + 1, ())]) (k + 1 + 1) n (by simp; omega) (by omega) (by omega) (by omega)
    rw [show (pre ++ [((k, k + 1, ()) : E)]).length = pre.length + 1 by simp, List.append_assoc] at this
    simp only [List.singleton_append] at this
    rw [this]
    simp [markA, show k + 1 + 1 = k + 2 by omega]
    omega
theorem markIntA2S_lim (d) (r) (h : G_markIntA2S d = some r) : ∃ N, F_laws_markIntA2S N d = some r := by
  obtain ⟨l, k, _⟩ := d
  unfold G_markIntA2S at h
  split at h
  · rename_i hl
    simp only [Bool.and_eq_true] at hl
    have hk := okK_of hl.2
    have hl : l.length ≤ lim := of_decide_eq_true hl.1
    have h := Option.some.inj h
    subst h
    refine ⟨l.length + 3, ?_⟩
    unfold F_laws_markIntA2S
    have := markIntA2S_l0 l.length l [] k (l.length + 2) (by simpa using hl) (by omega) hk.1 (by unfold lim at hl; omega)
    simp only [List.nil_append, List.length_nil, Int.natCast_zero] at this
    simp only [this, Option.bind_some]
  · cases h
theorem heldIntA2S_l0 (N : Nat) : ∀ (rest pre : List E) (k : Int) (n : Nat), pre.length + rest.length ≤ lim → rest.length ≤ n → 0 ≤ k → k + 2 * rest.length ≤ 9007199254740992 →
    laws_heldIntA2S_l0 (N + 3) (n + 1) (pre ++ rest, k, (pre.length : Int), ()) = some (.inl (heldA k rest, ())) ∨ laws_heldIntA2S_l0 (N + 3) (n + 1) (pre ++ rest, k, (pre.length : Int), ()) = some (.inr (.inl (heldA k rest, ()))) := by
  intro rest
  induction rest with
  | nil =>
    intro pre k n h1 h2 h3 h4
    right
    simp [laws_heldIntA2S_l0, laws_heldIntA2S_l0_r, heldA]
  | cons x rest ih =>
    intro pre k n h1 h2 h3 h4
    simp only [List.length_cons] at h1 h2 h4
    have hlt := mid_lt pre x rest
    have hmx : (pre ++ x :: rest).length ≤ maxLen := by
      have := lim_max h1
      simpa using this
    obtain ⟨n, rfl⟩ : ∃ m, n = m + 1 := ⟨n - 1, by omega⟩
    have hw : IntKind.wrap .i64 (k + 1) = k + 1 := wrap_in _ (by omega) (by omega)
    have hw2 : IntKind.wrap .i64 (k + 1 + 1) = k + 1 + 1 := wrap_in _ (by omega) (by omega)
    have hin : laws_heldIntA2S_l2 (N + 3) (N + 3) (pre ++ x :: rest, k, (pre.length : Int), (0 : Int), ()) = if x.1 = k then (if x.2.1 = k + 1 then some (.inr (.inl (pre ++ x :: rest, k + 1 + 1, (pre.length : Int), ()))) else some (.inl (-1, ()))) else some (.inl (-1, ())) := by
      have i1 : idxIn (pre.length : Int) (pre.length + (rest.length + 1)) = true := idxIn_nat (by omega)
      have w0 : IntKind.wrap .i64 1 = 1 := wrap_in _ (by omega) (by omega)
      have w1 : IntKind.wrap .i64 2 = 2 := wrap_in _ (by omega) (by omega)
      have a1 := at_mid (e := K_Piiq) pre x rest
      by_cases c1 : x.1 = k
      · by_cases c2 : x.2.1 = k + 1
        · simp [laws_heldIntA2S_l2, laws_heldIntA2S_l2_r, i1, hw, hw2, w0, w1, a1, c1, c2]
        · simp [laws_heldIntA2S_l2, laws_heldIntA2S_l2_r, i1, hw, hw2, w0, w1, a1, c1, c2]
      · simp [laws_heldIntA2S_l2, laws_heldIntA2S_l2_r, i1, hw, hw2, w0, w1, a1, c1]
    have hstep : laws_heldIntA2S_l0 (N + 3) (n + 1 + 1) (pre ++ x :: rest, k, (pre.length : Int), ()) = if x.1 = k then (if x.2.1 = k + 1 then laws_heldIntA2S_l0 (N + 3) (n + 1) (pre ++ x :: rest, k + 1 + 1, ((pre.length + 1 : Nat) : Int), ()) else some (.inl (-1, ()))) else some (.inl (-1, ())) := by
      show laws_heldIntA2S_l0_r (N + 3) (laws_heldIntA2S_l0 (N + 3) (n + 1)) (pre ++ x :: rest, k, (pre.length : Int), ()) = _
      unfold laws_heldIntA2S_l0_r
      simp only [lt_dec hlt, if_true, hin, wrap_up hlt hmx]
      by_cases c1 : x.1 = k
      · by_cases c2 : x.2.1 = k + 1
        · simp only [c1, c2, if_true, Option.bind_some, wrap_up hlt hmx]
        · simp only [c1, c2, if_true, if_false, Option.bind_some]
      · simp only [c1, if_false, Option.bind_some]
    rw [hstep]
    simp only [heldA]
    by_cases c1 : x.1 = k
    · by_cases c2 : x.2.1 = k + 1
      · simp only [c1, c2, if_true]
        have := ih (pre ++ [x]) (k + 1 + 1) n (by simp; omega) (by omega) (by omega) (by omega)
        rw [show (pre ++ [x]).length = pre.length + 1 by simp, List.append_assoc, show k + 1 + 1 = k + 2 by omega] at this
        rw [show k + 1 + 1 = k + 2 by omega]
        exact this
      · simp [c1, c2]
    · simp [c1]
theorem heldIntA2S_lim (d) (r) (h : G_heldIntA2S d = some r) : ∃ N, F_laws_heldIntA2S N d = some r := by
  obtain ⟨l, k, _⟩ := d
  unfold G_heldIntA2S at h
  split at h
  · rename_i hl
    simp only [Bool.and_eq_true] at hl
    have hk := okK_of hl.2
    have hl : l.length ≤ lim := of_decide_eq_true hl.1
    have h := Option.some.inj h
    subst h
    refine ⟨l.length + 3, ?_⟩
    unfold F_laws_heldIntA2S
    have := heldIntA2S_l0 l.length l [] k (l.length + 2) (by simpa using hl) (by omega) hk.1 (by unfold lim at hl; omega)
    simp only [List.nil_append, List.length_nil, Int.natCast_zero] at this
    rcases this with this | this <;> simp only [this, Option.bind_some]
  · cases h

/-! ### What was marked is held -/
theorem held_markL : ∀ (l : List Int) (k : Int), heldL k (markL k l) = k + l.length := by
  intro l
  induction l with
  | nil => intro k; simp [markL, heldL]
  | cons x l ih => intro k; simp only [markL, heldL, if_true, ih, List.length_cons]; omega
theorem held_markA : ∀ (l : List E) (k : Int), heldA k (markA k l) = k + 2 * l.length := by
  intro l
  induction l with
  | nil => intro k; simp [markA, heldA]
  | cons x l ih => intro k; simp only [markA, heldA, if_true, ih, List.length_cons]; omega
theorem markL_len : ∀ (l : List Int) (k : Int), (markL k l).length = l.length := by
  intro l
  induction l with
  | nil => intro k; rfl
  | cons x l ih => intro k; simp [markL, ih]
theorem markA_len : ∀ (l : List E) (k : Int), (markA k l).length = l.length := by
  intro l
  induction l with
  | nil => intro k; rfl
  | cons x l ih => intro k; simp [markA, ih]
end Go.V.W
