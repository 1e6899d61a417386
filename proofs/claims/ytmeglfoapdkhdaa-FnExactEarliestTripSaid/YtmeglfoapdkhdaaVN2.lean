/- Sets of nodes as lists and as bits: plain facts. -/
import Derived.Test.YtmeglfoapdkhdaaVN1
set_option linter.unusedVariables false
set_option linter.unusedSimpArgs false
namespace Go.V.W

theorem setF_congr {p q : Nat → Bool} : ∀ {k x : Nat}, (∀ y, x ≤ y → y < x + k → p y = q y) → setF p k x = setF q k x := by
  intro k
  induction k with
  | zero => intro x _; rfl
  | succ k ih =>
    intro x h
    simp only [setF, h x (Nat.le_refl _) (by omega), ih (x := x + 1) fun y h1 h2 => h y (by omega) (by omega)]
theorem setF_mem {p : Nat → Bool} : ∀ {k x : Nat} {z : Int}, z ∈ setF p k x ↔ ∃ y : Nat, x ≤ y ∧ y < x + k ∧ p y = true ∧ z = (y : Int) := by
  intro k
  induction k with
  | zero => intro x z; simp only [setF, List.not_mem_nil, false_iff]; rintro ⟨y, h1, h2, _⟩; omega
  | succ k ih =>
    intro x z
    unfold setF
    by_cases h : p x = true
    · rw [if_pos h, List.mem_cons, ih]
      constructor
      · rintro (rfl | ⟨y, h1, h2, h3, h4⟩)
        · exact ⟨x, Nat.le_refl _, by omega, h, rfl⟩
        · exact ⟨y, by omega, by omega, h3, h4⟩
      · rintro ⟨y, h1, h2, h3, h4⟩
        by_cases e : y = x
        · subst e; exact .inl h4
        · exact .inr ⟨y, by omega, by omega, h3, h4⟩
    · rw [if_neg h, ih]
      constructor
      · rintro ⟨y, h1, h2, h3, h4⟩
        exact ⟨y, by omega, by omega, h3, h4⟩
      · rintro ⟨y, h1, h2, h3, h4⟩
        by_cases e : y = x
        · subst e; exact absurd h3 h
        · exact ⟨y, by omega, by omega, h3, h4⟩
theorem setF_len {p : Nat → Bool} : ∀ {k x : Nat}, (setF p k x).length ≤ k := by
  intro k
  induction k with
  | zero => intro x; simp [setF]
  | succ k ih =>
    intro x
    unfold setF
    split
    · have := ih (x := x + 1); simp; omega
    · have := ih (x := x + 1); omega
theorem putL_low {p : Nat → Bool} {z : Nat} : ∀ {k y : Nat}, z < y → putL (z : Int) (setF p k y) = (z : Int) :: setF p k y := by
  intro k
  induction k with
  | zero => intro y _; rfl
  | succ k ih =>
    intro y h
    unfold setF
    split
    · have h1 : ¬ (y : Int) < (z : Int) := by omega
      have h2 : ¬ (y : Int) = (z : Int) := by omega
      simp only [putL, h1, h2, if_false]
    · exact ih (by omega)
theorem putL_set {p : Nat → Bool} {z : Nat} : ∀ {k x : Nat}, x ≤ z → z < x + k → putL (z : Int) (setF p k x) = setF (fun y => p y || decide (y = z)) k x := by
  intro k
  induction k with
  | zero => intro x h1 h2; omega
  | succ k ih =>
    intro x h1 h2
    by_cases e : x = z
    · subst e
      have hc : setF (fun y => p y || decide (y = x)) k (x + 1) = setF p k (x + 1) := setF_congr fun y h1 h2 => by
        have : ¬ y = x := by omega
        simp [this]
      by_cases hp : p x = true
      · simp only [setF, hp, if_true, decide_true, Bool.or_self, hc, putL]
        have : ¬ (x : Int) < (x : Int) := by omega
        simp only [this, if_false, if_true]
      · have hp' : p x = false := by simpa using hp
        simp only [setF, hp', Bool.false_eq_true, if_false, decide_true, Bool.or_true, if_true, hc]
        exact putL_low (by omega)
    · have hd : decide (x = z) = false := by simp [e]
      have hlt : (x : Int) < (z : Int) := by omega
      by_cases hp : p x = true
      · simp only [setF, hp, if_true, hd, Bool.or_false, putL, hlt, ih (x := x + 1) (by omega) (by omega)]
      · have hp' : p x = false := by simpa using hp
        simp only [setF, hp', hd, Bool.or_false, Bool.false_eq_true, if_false, ih (x := x + 1) (by omega) (by omega)]
theorem putAll_set {n : Nat} : ∀ (bs : List Int) (p : Nat → Bool), (∀ z ∈ bs, ∃ y : Nat, y < n ∧ z = (y : Int)) → putAll (setF p n 0) bs = setF (fun y => p y || bs.any (fun z => z == (y : Int))) n 0 := by
  intro bs
  induction bs with
  | nil => intro p _; exact setF_congr fun y _ _ => by simp
  | cons z bs ih =>
    intro p h
    obtain ⟨y0, h1, rfl⟩ := h z (by simp)
    show putAll (putL (y0 : Int) (setF p n 0)) bs = _
    rw [putL_set (Nat.zero_le _) (by omega), ih _ fun z hz => h z (by simp [hz])]
    refine setF_congr fun y _ _ => ?_
    simp only [List.any_cons, Bool.or_assoc]
    congr 2
    by_cases e : y = y0
    · simp [e]
    · have : ¬ (y0 : Int) = (y : Int) := by omega
      simp [e, this]
theorem any_setF {p : Nat → Bool} {n y : Nat} (hy : y < n) : (setF p n 0).any (fun z => z == (y : Int)) = p y := by
  apply Bool.eq_iff_iff.2
  rw [List.any_eq_true]
  constructor
  · rintro ⟨z, hz, h⟩
    obtain ⟨u, _, h2, h3, rfl⟩ := setF_mem.1 hz
    have : (u : Int) = (y : Int) := by simpa using h
    have : u = y := by omega
    subst this
    exact h3
  · intro h
    exact ⟨(y : Int), setF_mem.2 ⟨y, Nat.zero_le _, by omega, h, rfl⟩, by simp⟩
theorem ballL_set {n : Nat} {es : List E} {x : Nat} (hx : x < n) : ballL n es (x : Int) = setF (fun y => nearI es (x : Int) (y : Int) || decide (y = x)) n 0 := by
  unfold ballL
  exact putL_set (Nat.zero_le _) (by omega)
theorem setF_nat {p : Nat → Bool} {n : Nat} : ∀ z ∈ setF p n 0, ∃ y : Nat, y < n ∧ z = (y : Int) := by
  intro z hz
  obtain ⟨y, _, h2, _, h4⟩ := setF_mem.1 hz
  exact ⟨y, by omega, h4⟩
theorem reach_fold {n : Nat} {es : List E} : ∀ (set : List Int) (q : Nat → Bool), (∀ z ∈ set, ∃ y : Nat, y < n ∧ z = (y : Int)) →
    set.foldl (fun o x => putAll o (ballL n es x)) (setF q n 0) = setF (fun y => q y || set.any (fun z => nearI es z (y : Int) || z == (y : Int))) n 0 := by
  intro set
  induction set with
  | nil => intro q _; exact setF_congr fun y _ _ => by simp
  | cons z set ih =>
    intro q h
    obtain ⟨x, hx, rfl⟩ := h z (by simp)
    rw [List.foldl_cons, ballL_set hx, putAll_set _ _ setF_nat, ih _ fun z hz => h z (by simp [hz])]
    refine setF_congr fun y _ hy => ?_
    rw [any_setF (by omega)]
    simp only [List.any_cons, Bool.or_assoc]
    congr 2
    by_cases e : y = x
    · simp [e]
    · have : ¬ (x : Int) = (y : Int) := by omega
      simp [e, this]
theorem setF_empty {n x : Nat} : setF (fun _ => false) n x = [] := by
  induction n generalizing x with
  | zero => rfl
  | succ n ih => simp [setF, ih]
theorem reachL_set {n : Nat} {es : List E} (p : Nat → Bool) : reachL n es (setF p n 0) = setF (stepP es n p) n 0 := by
  unfold reachL
  have := reach_fold (n := n) (es := es) (setF p n 0) (fun _ => false) setF_nat
  rw [setF_empty] at this
  rw [this]
  refine setF_congr fun y _ hy => ?_
  unfold stepP
  apply Bool.eq_iff_iff.2
  simp only [Bool.false_or, List.any_eq_true, Bool.or_eq_true, Bool.and_eq_true, List.mem_range, beq_iff_eq]
  constructor
  · rintro ⟨z, hz, h⟩
    obtain ⟨u, _, h2, h3, rfl⟩ := setF_mem.1 hz
    rcases h with h | h
    · exact .inr ⟨u, by omega, h3, h⟩
    · have : u = y := by omega
      subst this
      exact .inl h3
  · rintro (h | ⟨u, h1, h2, h3⟩)
    · exact ⟨(y : Int), setF_mem.2 ⟨y, Nat.zero_le _, by omega, h, rfl⟩, .inr rfl⟩
    · exact ⟨(u : Int), setF_mem.2 ⟨u, Nat.zero_le _, by omega, h2, rfl⟩, .inl h3⟩
theorem setF_one {n x : Nat} (hx : x < n) : setF (fun y => decide ((y : Int) = (x : Int))) n 0 = [(x : Int)] := by
  have h := putL_set (p := fun _ => false) (z := x) (k := n) (x := 0) (Nat.zero_le _) (by omega)
  rw [setF_empty] at h
  rw [show putL (x : Int) [] = [(x : Int)] from rfl] at h
  rw [h]
  exact setF_congr fun y _ _ => by
    apply Bool.eq_iff_iff.2
    simp only [Bool.false_or, decide_eq_true_eq]
    omega

/-! ### bits -/
/-- Bits that stand for a set of nodes. -/
def isM (n : Nat) (m : Nat) (p : Nat → Bool) : Prop := m < 256 ∧ ∀ y, m.testBit y = (decide (y < n) && p y)
theorem arN_bit {n : Nat} {ms : List Nat} (hm : okN n ms) (s : Nat) : ∀ k x o, o < 256 → arN ms s k x o < 256 ∧ ∀ y, (arN ms s k x o).testBit y = (o.testBit y || (List.range' x k).any fun u => s.testBit u && (ms.getD u 0).testBit y) := by
  intro k
  induction k with
  | zero => intro x o h; exact ⟨h, fun y => by simp [arN]⟩
  | succ k ih =>
    intro x o h
    have ho : (if s.testBit x = true then o ||| ms.getD x 0 else o) < 256 := by
      split
      · exact Nat.or_lt_two_pow (n := 8) h (hm.2 x)
      · exact h
    obtain ⟨k1, k2⟩ := ih (x + 1) _ ho
    refine ⟨k1, fun y => ?_⟩
    show (arN ms s k (x + 1) (if s.testBit x = true then o ||| ms.getD x 0 else o)).testBit y = _
    rw [k2 y, List.range'_succ, List.any_cons, ← Bool.or_assoc]
    congr 1
    by_cases hs : s.testBit x = true
    · simp [hs]
    · simp [hs]
theorem isE_near (es : List E) {n : Nat} (h : es.all (edgeB (n : Int)) = true) (x y : Nat) : es.any (fun e => isE e x y) = nearI es (x : Int) (y : Int) := by
  unfold nearI
  apply Bool.eq_iff_iff.2
  simp only [List.any_eq_true, isE, Bool.or_eq_true, Bool.and_eq_true, decide_eq_true_eq, beq_iff_eq]
  constructor
  · rintro ⟨e, he, h1⟩
    obtain ⟨k1, k2, k3, k4⟩ := edgeB_nat (List.all_eq_true.1 h e he)
    exact ⟨e, he, by omega⟩
  · rintro ⟨e, he, h1⟩
    obtain ⟨k1, k2, k3, k4⟩ := edgeB_nat (List.all_eq_true.1 h e he)
    exact ⟨e, he, by omega⟩
theorem near_lt {es : List E} {n : Nat} (h : es.all (edgeB (n : Int)) = true) {x y : Nat} (hn : nearI es (x : Int) (y : Int) = true) : y < n := by
  unfold nearI at hn
  simp only [List.any_eq_true, Bool.or_eq_true, Bool.and_eq_true, beq_iff_eq] at hn
  obtain ⟨e, he, h1⟩ := hn
  obtain ⟨k1, k2, k3, k4⟩ := edgeB_nat (List.all_eq_true.1 h e he)
  omega
theorem around_isM {n : Nat} (hn : n ≤ 8) {es : List E} (h : es.all (edgeB (n : Int)) = true) {m : Nat} {p : Nat → Bool} (hm : isM n m p) : isM n (arN (netN n es) m n 0 m) (stepP es n p) := by
  obtain ⟨k1, k2⟩ := arN_bit (netN_ok hn h) m n 0 m hm.1
  refine ⟨k1, fun y => ?_⟩
  rw [k2 y, hm.2 y]
  unfold stepP
  rw [← List.range_eq_range']
  apply Bool.eq_iff_iff.2
  simp only [Bool.or_eq_true, Bool.and_eq_true, List.any_eq_true, List.mem_range, decide_eq_true_eq]
  have hb : ∀ u, ((netN n es).getD u 0).testBit y = nearI es (u : Int) (y : Int) := fun u => by
    have := netN_bit hn h u y
    unfold hasN at this
    rw [this, isE_near es h]
  constructor
  · rintro (⟨h1, h2⟩ | ⟨u, h1, h2, h3⟩)
    · exact ⟨h1, .inl h2⟩
    · rw [hb] at h3
      rw [hm.2 u] at h2
      simp only [Bool.and_eq_true, decide_eq_true_eq] at h2
      exact ⟨near_lt h h3, .inr ⟨u, h1, h2.2, h3⟩⟩
  · rintro ⟨h1, h2 | ⟨u, h2, h3, h4⟩⟩
    · exact .inl ⟨h1, h2⟩
    · refine .inr ⟨u, h2, ?_, by rw [hb]; exact h4⟩
      rw [hm.2 u]
      simp [h2, h3]
theorem one_isM {n x : Nat} (hn : n ≤ 8) (hx : x < n) : isM n (2 ^ x) (fun y => decide ((y : Int) = (x : Int))) := by
  refine ⟨pow_small (by omega), fun y => ?_⟩
  rw [Nat.testBit_two_pow]
  apply Bool.eq_iff_iff.2
  simp only [Bool.and_eq_true, decide_eq_true_eq]
  omega
theorem setF_split {p : Nat → Bool} : ∀ (a b x : Nat), setF p (a + b) x = setF p a x ++ setF p b (x + a) := by
  intro a
  induction a with
  | zero => intro b x; simp [setF]
  | succ a ih =>
    intro b x
    rw [show a + 1 + b = (a + b) + 1 by omega]
    simp only [setF, ih, show x + 1 + a = x + (a + 1) by omega]
    split <;> simp
theorem setF_mask {n m : Nat} {p : Nat → Bool} (hn : n ≤ 8) (hm : isM n m p) : setF (fun y => m.testBit y) 8 0 = setF p n 0 := by
  rw [show 8 = n + (8 - n) by omega, setF_split]
  have h1 : setF (fun y => m.testBit y) n 0 = setF p n 0 := setF_congr fun y _ h => by
    rw [hm.2 y]
    have : y < n := by omega
    simp [this]
  have h2 : setF (fun y => m.testBit y) (8 - n) (0 + n) = [] := by
    rw [← setF_empty (n := 8 - n) (x := 0 + n)]
    exact setF_congr fun y h _ => by
      rw [hm.2 y]
      have : ¬ y < n := by omega
      simp [this]
  rw [h1, h2, List.append_nil]
end Go.V.W
