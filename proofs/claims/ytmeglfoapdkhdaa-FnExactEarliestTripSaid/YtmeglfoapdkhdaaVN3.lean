/- When a node is reached first, and over which nodes: plain facts. -/
import Derived.Test.YtmeglfoapdkhdaaVN2
set_option linter.unusedVariables false
set_option linter.unusedSimpArgs false
namespace Go.V.W

/-! ### the first number -/
theorem findF_cases (q : Nat → Bool) : ∀ (k i : Nat), (findF q k i = -1 ∧ ∀ j, i ≤ j → j < i + k → q j = false) ∨ ∃ j : Nat, findF q k i = (j : Int) ∧ i ≤ j ∧ j < i + k ∧ q j = true ∧ ∀ m, i ≤ m → m < j → q m = false := by
  intro k
  induction k with
  | zero => intro i; exact .inl ⟨rfl, fun j h1 h2 => by omega⟩
  | succ k ih =>
    intro i
    unfold findF
    by_cases h : q i = true
    · rw [if_pos h]
      exact .inr ⟨i, rfl, Nat.le_refl _, by omega, h, fun m h1 h2 => by omega⟩
    · rw [if_neg h]
      have h' : q i = false := by simpa using h
      rcases ih (i + 1) with ⟨h1, h2⟩ | ⟨j, h1, h2, h3, h4, h5⟩
      · refine .inl ⟨h1, fun j h3 h4 => ?_⟩
        by_cases e : j = i
        · rw [e]; exact h'
        · exact h2 j (by omega) (by omega)
      · refine .inr ⟨j, h1, by omega, by omega, h4, fun m h6 h7 => ?_⟩
        by_cases e : m = i
        · rw [e]; exact h'
        · exact h5 m (by omega) h7
/-- What holds somewhere before `a` and holds no later than `b` is found by both. -/
theorem findF_cap (q : Nat → Bool) {a b : Nat} (hab : a ≤ b) (hq : ∀ j, j < b → q j = true → ∃ m, m < a ∧ q m = true) : findF q a 0 = findF q b 0 := by
  rcases findF_cases q a 0 with ⟨h1, h2⟩ | ⟨j, h1, h2, h3, h4, h5⟩ <;> rcases findF_cases q b 0 with ⟨k1, k2⟩ | ⟨m, k1, k2, k3, k4, k5⟩
  · rw [h1, k1]
  · obtain ⟨m', h6, h7⟩ := hq m (by omega) k4
    rw [h2 m' (by omega) (by omega)] at h7
    cases h7
  · rw [k2 j (by omega) (by omega)] at h4
    cases h4
  · rw [h1, k1]
    have : j = m := by
      rcases Nat.lt_trichotomy j m with h | h | h
      · rw [k5 j (by omega) h] at h4
        cases h4
      · exact h
      · rw [h5 m (by omega) h] at k4
        cases k4
    rw [this]
theorem findF_eq (q : Nat → Bool) {k j : Nat} (h1 : j < k) (h2 : q j = true) (h3 : ∀ m, m < j → q m = false) : findF q k 0 = (j : Int) := by
  rcases findF_cases q k 0 with ⟨k1, k2⟩ | ⟨m, k1, k2, k3, k4, k5⟩
  · rw [k2 j (by omega) (by omega)] at h2
    cases h2
  · rw [k1]
    rcases Nat.lt_trichotomy j m with h | h | h
    · rw [k5 j (by omega) h] at h2
      cases h2
    · rw [h]
    · rw [h3 m h] at k4
      cases k4

/-! ### sets grow -/
theorem iter_mono {t : Tt} {c x : Int} {i y : Nat} (h : iterP t c x i y = true) : iterP t c x (i + 1) y = true := by
  show stepP _ _ _ y = true
  unfold stepP
  rw [h, Bool.true_or]
theorem iter_le {t : Tt} {c x : Int} {i j y : Nat} (hij : i ≤ j) (h : iterP t c x i y = true) : iterP t c x j y = true := by
  induction hij with
  | refl => exact h
  | step _ ih => exact iter_mono ih
theorem setF_sub {p q : Nat → Bool} : ∀ {k x : Nat}, (∀ y, x ≤ y → y < x + k → p y = true → q y = true) → (setF p k x).length ≤ (setF q k x).length ∧ ((setF p k x).length = (setF q k x).length → ∀ y, x ≤ y → y < x + k → p y = q y) := by
  intro k
  induction k with
  | zero => intro x _; exact ⟨Nat.le_refl _, fun _ y h1 h2 => by omega⟩
  | succ k ih =>
    intro x h
    obtain ⟨i1, i2⟩ := ih (x := x + 1) fun y h1 h2 => h y (by omega) (by omega)
    have hx := h x (Nat.le_refl _) (by omega)
    unfold setF
    by_cases hp : p x = true
    · have hq := hx hp
      rw [if_pos hp, if_pos hq]
      refine ⟨by simp; omega, fun e y h1 h2 => ?_⟩
      by_cases ey : y = x
      · rw [ey, hp, hq]
      · exact i2 (by simpa using e) y (by omega) (by omega)
    · have hp' : p x = false := by simpa using hp
      rw [if_neg hp]
      by_cases hq : q x = true
      · rw [if_pos hq]
        refine ⟨by simp; omega, fun e y h1 h2 => ?_⟩
        simp only [List.length_cons] at e
        omega
      · have hq' : q x = false := by simpa using hq
        rw [if_neg hq]
        refine ⟨i1, fun e y h1 h2 => ?_⟩
        by_cases ey : y = x
        · rw [ey, hp', hq']
        · exact i2 e y (by omega) (by omega)
theorem step_congr {es : List E} {n : Nat} {p q : Nat → Bool} (h : ∀ y, y < n → p y = q y) {y : Nat} (hy : y < n) : stepP es n p y = stepP es n q y := by
  unfold stepP
  rw [h y hy]
  congr 1
  apply Bool.eq_iff_iff.2
  simp only [List.any_eq_true, List.mem_range]
  constructor
  · rintro ⟨x, hx, h2⟩
    exact ⟨x, hx, by rw [← h x hx]; exact h2⟩
  · rintro ⟨x, hx, h2⟩
    exact ⟨x, hx, by rw [h x hx]; exact h2⟩
theorem tmod_add {c p : Int} (hc : 0 ≤ c) (hp : 0 ≤ p) : (c + p).tmod p = c.tmod p := by
  rw [Int.tmod_eq_emod_of_nonneg (by omega), Int.tmod_eq_emod_of_nonneg hc, Int.add_emod_right]
/-- A set that is the same a period later stays. -/
theorem iter_stay {t : Tt} {c x : Int} (hc : 0 ≤ c) {n p : Nat} (hn : n = t.1.1.toNat) (hp : t.2.1 = (p : Int)) (hp0 : 0 < p) {i : Nat} (h : ∀ y, y < n → iterP t c x (i + p) y = iterP t c x i y) : ∀ j y, y < n → iterP t c x (i + j) y = iterP t c x i y := by
  intro j
  induction j using Nat.strongRecOn with
  | ind j ih =>
    intro y hy
    by_cases hj : j ≤ p
    · apply Bool.eq_iff_iff.2
      constructor
      · intro h1
        rw [← h y hy]
        exact iter_le (by omega) h1
      · exact iter_le (by omega)
    · obtain ⟨m, rfl⟩ : ∃ m, j = m + p + 1 := ⟨j - p - 1, by omega⟩
      have e1 := ih (m + p) (by omega)
      have e2 := ih m (by omega)
      have e3 := ih (m + 1) (by omega) y hy
      rw [← e3]
      show stepP (openE t ((c + ((i + (m + p) : Nat) : Int)).tmod t.2.1)) t.1.1.toNat (iterP t c x (i + (m + p))) y = stepP (openE t ((c + ((i + m : Nat) : Int)).tmod t.2.1)) t.1.1.toNat (iterP t c x (i + m)) y
      have ec : (c + ((i + (m + p) : Nat) : Int)).tmod t.2.1 = (c + ((i + m : Nat) : Int)).tmod t.2.1 := by
        rw [show c + ((i + (m + p) : Nat) : Int) = (c + ((i + m : Nat) : Int)) + t.2.1 by rw [hp]; omega]
        exact tmod_add (by omega) (by omega)
      rw [ec]
      refine step_congr (fun y hy => ?_) (by omega)
      rw [e1 y (by omega), e2 y (by omega)]
/-- What is reached is reached within so many steps. -/
theorem iter_cap {t : Tt} {c x : Int} (hc : 0 ≤ c) {n p : Nat} (hn : n = t.1.1.toNat) (hp : t.2.1 = (p : Int)) (hp0 : 0 < p) (hx : 0 ≤ x) (hxn : x.toNat < n) {j y : Nat} (hy : y < n) (h : iterP t c x j y = true) : iterP t c x (n * p) y = true := by
  have key : ∀ k, (∀ j y, y < n → iterP t c x (k * p + j) y = iterP t c x (k * p) y) ∨ k + 1 ≤ (setF (iterP t c x (k * p)) n 0).length := by
    intro k
    induction k with
    | zero =>
      refine .inr ?_
      have h1 := setF_one (n := n) (x := x.toNat) hxn
      have h2 : setF (iterP t c x (0 * p)) n 0 = [((x.toNat : Nat) : Int)] := by
        rw [← h1]
        refine setF_congr fun y _ _ => ?_
        rw [Nat.zero_mul]
        show decide ((y : Int) = x) = _
        rw [show ((x.toNat : Nat) : Int) = x by omega]
      rw [h2]
      simp
    | succ k ih =>
      have e : (k + 1) * p = k * p + p := Nat.succ_mul k p
      rcases ih with ih | ih
      · refine .inl fun j y hy => ?_
        rw [e, Nat.add_assoc, ih _ y hy, ih _ y hy]
      · have hs := setF_sub (p := iterP t c x (k * p)) (q := iterP t c x ((k + 1) * p)) (k := n) (x := 0) fun y _ _ => iter_le (by omega)
        by_cases hl : (setF (iterP t c x (k * p)) n 0).length = (setF (iterP t c x ((k + 1) * p)) n 0).length
        · have hst := iter_stay (t := t) (c := c) (x := x) hc hn hp hp0 (i := k * p) fun y hy => by
            rw [← e]
            exact (hs.2 hl y (by omega) (by omega)).symm
          refine .inl fun j y hy => ?_
          rw [e, Nat.add_assoc, hst _ y hy, hst _ y hy]
        · exact .inr (by omega)
  rcases key n with hk | hk
  · by_cases hj : j ≤ n * p
    · exact iter_le hj h
    · have := hk (j - n * p) y hy
      rw [show n * p + (j - n * p) = j by omega] at this
      rw [← this]
      exact h
  · have := setF_len (p := iterP t c x (n * p)) (k := n) (x := 0)
    omega
/-- The greatest number of rounds that counts. -/
theorem arr_cap {t : Tt} {c x : Int} (hc : 0 ≤ c) {n p : Nat} (hn : n = t.1.1.toNat) (hp : t.2.1 = (p : Int)) (hp0 : 0 < p) (hn8 : n ≤ 8) (hp4 : p ≤ 4) (hx : 0 ≤ x) (hxn : x.toNat < n) {y : Nat} (hy : y < n) : findF (fun i => iterP t c x i y) (n * p + 1) 0 = findF (fun i => iterP t c x i y) 33 0 := by
  have : n * p ≤ 8 * 4 := Nat.mul_le_mul hn8 hp4
  exact findF_cap _ (by omega) fun j _ h => ⟨n * p, by omega, iter_cap hc hn hp hp0 hx hxn hy h⟩

/-! ### one step ahead -/
/-- From the first step on. -/
theorem iter_front {t : Tt} {n : Nat} (hn : n = t.1.1.toNat) : ∀ (k : Nat) (c : Int) (x y : Nat), x < n → y < n →
    (iterP t c (x : Int) (k + 1) y = true ↔ ∃ w : Nat, w < n ∧ (nearI (openE t (c.tmod t.2.1)) (x : Int) (w : Int) || decide (w = x)) = true ∧ iterP t (c + 1) (w : Int) k y = true) := by
  intro k
  induction k with
  | zero =>
    intro c x y hx hy
    show stepP (openE t ((c + ((0 : Nat) : Int)).tmod t.2.1)) t.1.1.toNat (fun y : Nat => decide ((y : Int) = (x : Int))) y = true ↔ _
    rw [show c + ((0 : Nat) : Int) = c by omega]
    unfold stepP
    simp only [Bool.or_eq_true, List.any_eq_true, List.mem_range, Bool.and_eq_true, decide_eq_true_eq]
    constructor
    · rintro (h | ⟨u, h1, h2, h3⟩)
      · exact ⟨y, hy, .inr (by omega), decide_eq_true rfl⟩
      · rw [h2] at h3
        exact ⟨y, hy, .inl h3, decide_eq_true rfl⟩
    · rintro ⟨w, h1, h2, h3⟩
      have e : w = y := by
        have : (y : Int) = (w : Int) := of_decide_eq_true h3
        omega
      subst e
      rcases h2 with h2 | h2
      · exact .inr ⟨x, by omega, rfl, h2⟩
      · exact .inl (by omega)
  | succ k ih =>
    intro c x y hx hy
    have ec : c + ((k + 1 : Nat) : Int) = c + 1 + (k : Int) := by omega
    have e1 : iterP t c (x : Int) (k + 1 + 1) y = stepP (openE t ((c + 1 + (k : Int)).tmod t.2.1)) t.1.1.toNat (iterP t c (x : Int) (k + 1)) y := by
      rw [← ec]
      rfl
    have e2 : ∀ w : Nat, iterP t (c + 1) (w : Int) (k + 1) y = stepP (openE t ((c + 1 + (k : Int)).tmod t.2.1)) t.1.1.toNat (iterP t (c + 1) (w : Int) k) y := fun w => rfl
    rw [e1]
    unfold stepP
    simp only [e2]
    unfold stepP
    simp only [Bool.or_eq_true, List.any_eq_true, List.mem_range, Bool.and_eq_true]
    constructor
    · rintro (h | ⟨u, h1, h2, h3⟩)
      · obtain ⟨w, k1, k2, k3⟩ := (ih c x y hx hy).1 h
        exact ⟨w, k1, by simpa using k2, .inl k3⟩
      · obtain ⟨w, k1, k2, k3⟩ := (ih c x u hx (by omega)).1 h2
        exact ⟨w, k1, by simpa using k2, .inr ⟨u, h1, k3, h3⟩⟩
    · rintro ⟨w, h1, h2, h3 | ⟨u, h3, h4, h5⟩⟩
      · exact .inl ((ih c x y hx hy).2 ⟨w, h1, by simpa using h2, h3⟩)
      · exact .inr ⟨u, h3, (ih c x u hx (by omega)).2 ⟨w, h1, by simpa using h2, h4⟩, h5⟩
theorem near_symm (es : List E) (a b : Int) : nearI es a b = nearI es b a := by
  unfold nearI
  congr 1
  funext e
  cases (e.1 == a && e.2.1 == b) <;> cases (e.1 == b && e.2.1 == a) <;> rfl
/-- The set from which a node is reached in so many steps, one step further back. -/
theorem back_step {t : Tt} {n : Nat} (hn : n = t.1.1.toNat) (c : Int) (k : Nat) {y : Nat} (hy : y < n) {z : Nat} (hz : z < n) :
    stepP (openE t (c.tmod t.2.1)) n (fun w => iterP t (c + 1) (w : Int) k y) z = iterP t c (z : Int) (k + 1) y := by
  apply Bool.eq_iff_iff.2
  rw [iter_front hn k c z y hz hy]
  unfold stepP
  simp only [Bool.or_eq_true, List.any_eq_true, List.mem_range, Bool.and_eq_true, decide_eq_true_eq]
  constructor
  · rintro (h | ⟨u, h1, h2, h3⟩)
    · exact ⟨z, hz, .inr rfl, h⟩
    · exact ⟨u, h1, .inl (by rw [near_symm]; exact h3), h2⟩
  · rintro ⟨w, h1, h2 | h2, h3⟩
    · exact .inr ⟨w, h1, h3, by rw [near_symm]; exact h2⟩
    · subst h2
      exact .inl h3
theorem isM_congr {n m : Nat} {p q : Nat → Bool} (h : ∀ y, y < n → p y = q y) (hm : isM n m p) : isM n m q := by
  refine ⟨hm.1, fun y => ?_⟩
  rw [hm.2 y]
  by_cases hy : y < n
  · rw [h y hy]
  · simp [hy]

/-! ### the first of a set -/
theorem firstF_spec {p : Nat → Bool} : ∀ {k x : Nat}, (∃ y, x ≤ y ∧ y < x + k ∧ p y = true) → x ≤ firstF p k x ∧ firstF p k x < x + k ∧ p (firstF p k x) = true := by
  intro k
  induction k with
  | zero => rintro x ⟨y, h1, h2, _⟩; omega
  | succ k ih =>
    rintro x ⟨y, h1, h2, h3⟩
    unfold firstF
    by_cases h : p x = true
    · rw [if_pos h]
      exact ⟨Nat.le_refl _, by omega, h⟩
    · rw [if_neg h]
      have : y ≠ x := fun e => h (e ▸ h3)
      obtain ⟨k1, k2, k3⟩ := ih (x := x + 1) ⟨y, by omega, by omega, h3⟩
      exact ⟨by omega, by omega, k3⟩
theorem firstF_congr {p q : Nat → Bool} : ∀ {k x : Nat}, (∀ y, x ≤ y → y < x + k → p y = q y) → firstF p k x = firstF q k x := by
  intro k
  induction k with
  | zero => intro x _; rfl
  | succ k ih =>
    intro x h
    unfold firstF
    rw [h x (Nat.le_refl _) (by omega), ih (x := x + 1) fun y h1 h2 => h y (by omega) (by omega)]
theorem setF_first {p : Nat → Bool} : ∀ {k x : Nat}, (∃ y, x ≤ y ∧ y < x + k ∧ p y = true) → ∃ tl, setF p k x = (firstF p k x : Int) :: tl := by
  intro k
  induction k with
  | zero => rintro x ⟨y, h1, h2, _⟩; omega
  | succ k ih =>
    rintro x ⟨y, h1, h2, h3⟩
    unfold firstF setF
    by_cases h : p x = true
    · rw [if_pos h, if_pos h]
      exact ⟨_, rfl⟩
    · rw [if_neg h, if_neg h]
      have : y ≠ x := fun e => h (e ▸ h3)
      exact ih (x := x + 1) ⟨y, by omega, by omega, h3⟩
/-- The first of a set's list with a property. -/
theorem setF_find {p q : Nat → Bool} : ∀ {k x : Nat}, (∃ y, x ≤ y ∧ y < x + k ∧ (p y && q y) = true) →
    ∃ j, j < (setF p k x).length ∧ (setF p k x)[j]? = some (firstF (fun y => p y && q y) k x : Int) ∧ ∀ m, m < j → ∃ w : Nat, x ≤ w ∧ w < x + k ∧ (setF p k x)[m]? = some (w : Int) ∧ p w = true ∧ q w = false := by
  intro k
  induction k with
  | zero => rintro x ⟨y, h1, h2, _⟩; omega
  | succ k ih =>
    rintro x ⟨y, h1, h2, h3⟩
    unfold firstF setF
    by_cases h : (p x && q x) = true
    · have hp : p x = true := (Bool.and_eq_true _ _ ▸ h).1
      rw [if_pos h, if_pos hp]
      exact ⟨0, by simp, by simp, fun m hm => by omega⟩
    · rw [if_neg h]
      have : y ≠ x := fun e => h (e ▸ h3)
      obtain ⟨j, k1, k2, k3⟩ := ih (x := x + 1) ⟨y, by omega, by omega, h3⟩
      by_cases hp : p x = true
      · rw [if_pos hp]
        have hq : q x = false := by
          cases hq : q x with
          | false => rfl
          | true => rw [hp, hq] at h; exact absurd rfl h
        refine ⟨j + 1, by simp; omega, by simpa using k2, fun m hm => ?_⟩
        cases m with
        | zero => exact ⟨x, Nat.le_refl _, by omega, by simp, hp, hq⟩
        | succ m =>
          obtain ⟨w, w1, w2, w3, w4, w5⟩ := k3 m (by omega)
          exact ⟨w, by omega, by omega, by simpa using w3, w4, w5⟩
      · rw [if_neg hp]
        refine ⟨j, k1, k2, fun m hm => ?_⟩
        obtain ⟨w, w1, w2, w3, w4, w5⟩ := k3 m hm
        exact ⟨w, by omega, by omega, w3, w4, w5⟩
end Go.V.W
