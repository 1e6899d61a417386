/- What the law FnExactNewConsole leans on, part 4: an interpreter of the model as plain data, its soundness, the functions as it tells them, and their laws. -/
import Derived.Shelf.Lays
import Derived.Shelf.Strings.IndexAnyAll
import Derived.Test.YtmeglfoapdkhdaaVC
set_option linter.unusedVariables false
set_option linter.unusedSimpArgs false
set_option maxRecDepth 100000
set_option linter.unusedVariables false
set_option linter.unusedSimpArgs false
namespace Go.V.W
open Go.Proofs
theorem cloneA2_lim (d) (r) (h : G_toIntA2S d = some r) : ∃ N, F_slices_Clone_S_2_int_2_int N d = some r := by
  obtain ⟨l, _⟩ := d
  unfold G_toIntA2S at h
  split at h
  · rename_i hl
    have hl : l.length ≤ lim := of_decide_eq_true hl
    have h := Option.some.inj h
    subst h
    refine ⟨0, ?_⟩
    unfold F_slices_Clone_S_2_int_2_int
    have h1 : decide (List.length ([] : List E) + l.length ≤ lim) = true := by simp [hl]
    simp only [h1, if_true, List.nil_append]
    split
    · rename_i h0
      have : l = [] := List.length_eq_zero_iff.1 (of_decide_eq_true h0)
      subst this
      simp [both]
    · rfl
  · cases h
theorem okK_of {k : Int} (h : okK k = true) : 0 ≤ k ∧ k ≤ 4398046511104 := by
  simp only [okK, Bool.and_eq_true, decide_eq_true_eq] at h
  exact h
theorem at_mid {e : Kd} (pre : List e.den) (x : e.den) (rest : List e.den) : at_ e (pre ++ x :: rest) pre.length = x := by
  rw [at_get (e := e) (by simp)]
  simp
theorem set_mid {α : Type} (pre : List α) (x y : α) (rest : List α) : List.set (pre ++ x :: rest) pre.length y = (pre ++ [y]) ++ rest := by
  simp
theorem mid_lt {α : Type} (pre : List α) (x : α) (rest : List α) : pre.length < (pre ++ x :: rest).length := by simp
theorem markIntS_l0 (N : Nat) : ∀ (rest pre : List Int) (k : Int) (n : Nat), pre.length + rest.length ≤ lim → rest.length ≤ n → 0 ≤ k → k + rest.length ≤ 9007199254740992 →
    laws_markIntS_l0 N (n + 1) (pre ++ rest, k, (pre.length : Int), ()) = some (.inl (pre ++ markL k rest, k + rest.length, ())) := by
  intro rest
  induction rest with
  | nil =>
    intro pre k n h1 h2 h3 h4
    simp [laws_markIntS_l0, laws_markIntS_l0_r, markL]
  | cons x rest ih =>
    intro pre k n h1 h2 h3 h4
    simp only [List.length_cons] at h1 h2 h4
    have hlt := mid_lt pre x rest
    have hmx : (pre ++ x :: rest).length ≤ maxLen := by
      have := lim_max h1
      simpa using this
    obtain ⟨n, rfl⟩ : ∃ m, n = m + 1 := ⟨n - 1, by omega⟩
    show laws_markIntS_l0_r N (laws_markIntS_l0 N (n + 1)) (pre ++ x :: rest, k, (pre.length : Int), ()) = _
    unfold laws_markIntS_l0_r
    have hw : IntKind.wrap .i64 (k + 1) = k + 1 := wrap_in _ (by omega) (by omega)
    simp only [lt_dec hlt, if_true, idxIn_nat hlt, Int.toNat_natCast, wrap_up hlt hmx, hw, set_mid]
    have := ih (pre ++ [k]) (k + 1) n (by simp; omega) (by omega) (by omega) (by omega)
    rw [show (pre ++ [k]).length = pre.length + 1 by simp] at this
    rw [this]
    simp [markL]
    omega
theorem markIntS_lim (d) (r) (h : G_markIntS d = some r) : ∃ N, F_laws_markIntS N d = some r := by
  obtain ⟨l, k, _⟩ := d
  unfold G_markIntS at h
  split at h
  · rename_i hl
    simp only [Bool.and_eq_true] at hl
    have hk := okK_of hl.2
    have hl : l.length ≤ lim := of_decide_eq_true hl.1
    have h := Option.some.inj h
    subst h
    refine ⟨l.length + 1, ?_⟩
    unfold F_laws_markIntS
    have := markIntS_l0 (l.length + 1) l [] k l.length (by simpa using hl) (Nat.le_refl _) hk.1 (by unfold lim at hl; omega)
    simp only [List.nil_append, List.length_nil, Int.natCast_zero] at this
    simp only [this, Option.bind_some]
  · cases h
theorem heldIntS_l0 (N : Nat) : ∀ (rest pre : List Int) (k : Int) (n : Nat), pre.length + rest.length ≤ lim → rest.length ≤ n → 0 ≤ k → k + rest.length ≤ 9007199254740992 →
    laws_heldIntS_l0 N (n + 1) (pre ++ rest, k, (pre.length : Int), ()) = some (.inl (heldL k rest, ())) ∨ laws_heldIntS_l0 N (n + 1) (pre ++ rest, k, (pre.length : Int), ()) = some (.inr (.inl (heldL k rest, ()))) := by
  intro rest
  induction rest with
  | nil =>
    intro pre k n h1 h2 h3 h4
    right
    simp [laws_heldIntS_l0, laws_heldIntS_l0_r, heldL]
  | cons x rest ih =>
    intro pre k n h1 h2 h3 h4
    simp only [List.length_cons] at h1 h2 h4
    have hlt := mid_lt pre x rest
    have hmx : (pre ++ x :: rest).length ≤ maxLen := by
      have := lim_max h1
      simpa using this
    obtain ⟨n, rfl⟩ : ∃ m, n = m + 1 := ⟨n - 1, by omega⟩
    have hw : IntKind.wrap .i64 (k + 1) = k + 1 := wrap_in _ (by omega) (by omega)
    have hstep : laws_heldIntS_l0 N (n + 1 + 1) (pre ++ x :: rest, k, (pre.length : Int), ()) = if x = k then laws_heldIntS_l0 N (n + 1) (pre ++ x :: rest, k + 1, ((pre.length + 1 : Nat) : Int), ()) else some (.inl (-1, ())) := by
      show laws_heldIntS_l0_r N (laws_heldIntS_l0 N (n + 1)) (pre ++ x :: rest, k, (pre.length : Int), ()) = _
      unfold laws_heldIntS_l0_r
      simp only [lt_dec hlt, if_true, idxIn_nat hlt, Int.toNat_natCast, wrap_up hlt hmx, hw, at_mid (e := I)]
      by_cases he : x = k
      · simp [he]
      · have : (x != k) = true := by simpa using he
        simp only [this, if_true, he, if_false]
    rw [hstep]
    simp only [heldL]
    by_cases he : x = k
    · simp only [he, if_true]
      have := ih (pre ++ [k]) (k + 1) n (by simp; omega) (by omega) (by omega) (by omega)
      rw [show (pre ++ [k]).length = pre.length + 1 by simp, List.append_assoc] at this
      exact this
    · simp [he]
theorem heldIntS_lim (d) (r) (h : G_heldIntS d = some r) : ∃ N, F_laws_heldIntS N d = some r := by
  obtain ⟨l, k, _⟩ := d
  unfold G_heldIntS at h
  split at h
  · rename_i hl
    simp only [Bool.and_eq_true] at hl
    have hk := okK_of hl.2
    have hl : l.length ≤ lim := of_decide_eq_true hl.1
    have h := Option.some.inj h
    subst h
    refine ⟨l.length + 1, ?_⟩
    unfold F_laws_heldIntS
    have := heldIntS_l0 (l.length + 1) l [] k l.length (by simpa using hl) (Nat.le_refl _) hk.1 (by unfold lim at hl; omega)
    simp only [List.nil_append, List.length_nil, Int.natCast_zero] at this
    rcases this with this | this <;> simp only [this, Option.bind_some]
  · cases h
theorem markIntA2S_l0 (N : Nat) : ∀ (rest pre : List E) (k : Int) (n : Nat), pre.length + rest.length ≤ lim → rest.length ≤ n → 0 ≤ k → k + 2 * rest.length ≤ 9007199254740992 →
    laws_markIntA2S_l0 (N + 3) (n + 1) (pre ++ rest, k, (pre.length : Int), ()) = some (.inl (pre ++ markA k rest, k + 2 * rest.length, ())) := by
  intro rest
  induction rest with
  | nil =>
    intro pre k n h1 h2 h3 h4
    simp [laws_markIntA2S_l0, laws_markIntA2S_l0_r, markA]
  | cons x rest ih =>
    intro pre k n h1 h2 h3 h4
    simp only [List.length_cons] at h1 h2 h4
    have hlt := mid_lt pre x rest
    have hmx : (pre ++ x :: rest).length ≤ maxLen := by
      have := lim_max h1
      simpa using this
    obtain ⟨n, rfl⟩ : ∃ m, n = m + 1 := ⟨n - 1, by omega⟩
    have hw : IntKind.wrap .i64 (k + 1) = k + 1 := wrap_in _ (by omega) (by omega)
    have hw2 : IntKind.wrap .i64 (k + 1 + 1) = k + 1 + 1 := wrap_in _ (by omega) (by omega)
    have hin : laws_markIntA2S_l2 (N + 3) (N + 3) (pre ++ x :: rest, k, (pre.length : Int), (0 : Int), ()) = some (.inl (pre ++ (k, k + 1, ()) :: rest, k + 1 + 1, (pre.length : Int), ())) := by
      have i1 : idxIn (pre.length : Int) (pre.length + (rest.length + 1)) = true := idxIn_nat (by omega)
      have w0 : IntKind.wrap .i64 1 = 1 := wrap_in _ (by omega) (by omega)
      have w1 : IntKind.wrap .i64 2 = 2 := wrap_in _ (by omega) (by omega)
      have a1 := at_mid (e := K_Piiq) pre x rest
      have a2 := at_mid (e := K_Piiq) pre (k, x.2) rest
      simp [laws_markIntA2S_l2, laws_markIntA2S_l2_r, i1, hw, hw2, w0, w1, a1, a2]
    show laws_markIntA2S_l0_r (N + 3) (laws_markIntA2S_l0 (N + 3) (n + 1)) (pre ++ x :: rest, k, (pre.length : Int), ()) = _
    unfold laws_markIntA2S_l0_r
    simp only [lt_dec hlt, if_true, hin, Option.bind_some, wrap_up hlt hmx]
    have := ih (pre ++ [(k, k + 1, ())]) (k + 1 + 1) n (by simp; omega) (by omega) (by omega) (by omega)
    rw [show (pre ++ [((k, k + 1, ()) : E)]).length = pre.length + 1 by simp, List.append_assoc] at this
    simp only [List.singleton_append] at this
    rw [this]
    simp [markA, show k + 1 + 1 = k + 2 by omega]
    omega
theorem markIntA2S_lim (d) (r) (h : G_markIntA2S d = some r) : ∃ N, F_laws_markIntA2S N d = some r := by
  obtain ⟨l, k, _⟩ := d
  unfold G_markIntA2S at h
  split at h
  · rename_i hl
    simp only [Bool.and_eq_true] at hl
    have hk := okK_of hl.2
    have hl : l.length ≤ lim := of_decide_eq_true hl.1
    have h := Option.some.inj h
    subst h
    refine ⟨l.length + 3, ?_⟩
    unfold F_laws_markIntA2S
    have := markIntA2S_l0 l.length l [] k (l.length + 2) (by simpa using hl) (by omega) hk.1 (by unfold lim at hl; omega)
    simp only [List.nil_append, List.length_nil, Int.natCast_zero] at this
    simp only [this, Option.bind_some]
  · cases h
theorem heldIntA2S_l0 (N : Nat) : ∀ (rest pre : List E) (k : Int) (n : Nat), pre.length + rest.length ≤ lim → rest.length ≤ n → 0 ≤ k → k + 2 * rest.length ≤ 9007199254740992 →
    laws_heldIntA2S_l0 (N + 3) (n + 1) (pre ++ rest, k, (pre.length : Int), ()) = some (.inl (heldA k rest, ())) ∨ laws_heldIntA2S_l0 (N + 3) (n + 1) (pre ++ rest, k, (pre.length : Int), ()) = some (.inr (.inl (heldA k rest, ()))) := by
  intro rest
  induction rest with
  | nil =>
    intro pre k n h1 h2 h3 h4
    right
    simp [laws_heldIntA2S_l0, laws_heldIntA2S_l0_r, heldA]
  | cons x rest ih =>
    intro pre k n h1 h2 h3 h4
    simp only [List.length_cons] at h1 h2 h4
    have hlt := mid_lt pre x rest
    have hmx : (pre ++ x :: rest).length ≤ maxLen := by
      have := lim_max h1
      simpa using this
    obtain ⟨n, rfl⟩ : ∃ m, n = m + 1 := ⟨n - 1, by omega⟩
    have hw : IntKind.wrap .i64 (k + 1) = k + 1 := wrap_in _ (by omega) (by omega)
    have hw2 : IntKind.wrap .i64 (k + 1 + 1) = k + 1 + 1 := wrap_in _ (by omega) (by omega)
    have hin : laws_heldIntA2S_l2 (N + 3) (N + 3) (pre ++ x :: rest, k, (pre.length : Int), (0 : Int), ()) = if x.1 = k then (if x.2.1 = k + 1 then some (.inr (.inl (pre ++ x :: rest, k + 1 + 1, (pre.length : Int), ()))) else some (.inl (-1, ()))) else some (.inl (-1, ())) := by
      have i1 : idxIn (pre.length : Int) (pre.length + (rest.length + 1)) = true := idxIn_nat (by omega)
      have w0 : IntKind.wrap .i64 1 = 1 := wrap_in _ (by omega) (by omega)
      have w1 : IntKind.wrap .i64 2 = 2 := wrap_in _ (by omega) (by omega)
      have a1 := at_mid (e := K_Piiq) pre x rest
      by_cases c1 : x.1 = k
      · by_cases c2 : x.2.1 = k + 1
        · simp [laws_heldIntA2S_l2, laws_heldIntA2S_l2_r, i1, hw, hw2, w0, w1, a1, c1, c2]
        · simp [laws_heldIntA2S_l2, laws_heldIntA2S_l2_r, i1, hw, hw2, w0, w1, a1, c1, c2]
      · simp [laws_heldIntA2S_l2, laws_heldIntA2S_l2_r, i1, hw, hw2, w0, w1, a1, c1]
    have hstep : laws_heldIntA2S_l0 (N + 3) (n + 1 + 1) (pre ++ x :: rest, k, (pre.length : Int), ()) = if x.1 = k then (if x.2.1 = k + 1 then laws_heldIntA2S_l0 (N + 3) (n + 1) (pre ++ x :: rest, k + 1 + 1, ((pre.length + 1 : Nat) : Int), ()) else some (.inl (-1, ()))) else some (.inl (-1, ())) := by
      show laws_heldIntA2S_l0_r (N + 3) (laws_heldIntA2S_l0 (N + 3) (n + 1)) (pre ++ x :: rest, k, (pre.length : Int), ()) = _
      unfold laws_heldIntA2S_l0_r
      simp only [lt_dec hlt, if_true, hin, wrap_up hlt hmx]
      by_cases c1 : x.1 = k
      · by_cases c2 : x.2.1 = k + 1
        · simp only [c1, c2, if_true, Option.bind_some, wrap_up hlt hmx]
        · simp only [c1, c2, if_true, if_false, Option.bind_some]
      · simp only [c1, if_false, Option.bind_some]
    rw [hstep]
    simp only [heldA]
    by_cases c1 : x.1 = k
    · by_cases c2 : x.2.1 = k + 1
      · simp only [c1, c2, if_true]
        have := ih (pre ++ [x]) (k + 1 + 1) n (by simp; omega) (by omega) (by omega) (by omega)
        rw [show (pre ++ [x]).length = pre.length + 1 by simp, List.append_assoc, show k + 1 + 1 = k + 2 by omega] at this
        rw [show k + 1 + 1 = k + 2 by omega]
        exact this
      · simp [c1, c2]
    · simp [c1]
theorem heldIntA2S_lim (d) (r) (h : G_heldIntA2S d = some r) : ∃ N, F_laws_heldIntA2S N d = some r := by
  obtain ⟨l, k, _⟩ := d
  unfold G_heldIntA2S at h
  split at h
  · rename_i hl
    simp only [Bool.and_eq_true] at hl
    have hk := okK_of hl.2
    have hl : l.length ≤ lim := of_decide_eq_true hl.1
    have h := Option.some.inj h
    subst h
    refine ⟨l.length + 3, ?_⟩
    unfold F_laws_heldIntA2S
    have := heldIntA2S_l0 l.length l [] k (l.length + 2) (by simpa using hl) (by omega) hk.1 (by unfold lim at hl; omega)
    simp only [List.nil_append, List.length_nil, Int.natCast_zero] at this
    rcases this with this | this <;> simp only [this, Option.bind_some]
  · cases h
theorem held_markL : ∀ (l : List Int) (k : Int), heldL k (markL k l) = k + l.length := by
  intro l
  induction l with
  | nil => intro k; simp [markL, heldL]
  | cons x l ih => intro k; simp only [markL, heldL, if_true, ih, List.length_cons]; omega
theorem held_markA : ∀ (l : List E) (k : Int), heldA k (markA k l) = k + 2 * l.length := by
  intro l
  induction l with
  | nil => intro k; simp [markA, heldA]
  | cons x l ih => intro k; simp only [markA, heldA, if_true, ih, List.length_cons]; omega
theorem markL_len : ∀ (l : List Int) (k : Int), (markL k l).length = l.length := by
  intro l
  induction l with
  | nil => intro k; rfl
  | cons x l ih => intro k; simp [markL, ih]
theorem markA_len : ∀ (l : List E) (k : Int), (markA k l).length = l.length := by
  intro l
  induction l with
  | nil => intro k; rfl
  | cons x l ih => intro k; simp [markA, ih]
end Go.V.W
set_option linter.unusedVariables false
set_option linter.unusedSimpArgs false
namespace Go.V.W
open Go.Proofs
theorem okL_nil {α : Type} : okL ([] : List α) = true := decide_eq_true (by simp)
theorem markGraph_eq (n : Int) (l : List E) (v w : Unit) (k : Int) (hl : okL l = true) (hk : okK k = true) : F_laws_markGraph 0 ((n, l, v), k, w) = some (k + 2 * (l.length : Int), (n, markA k l, v), ()) := by
  unfold F_laws_markGraph G_markIntA2S
  simp only [hl, hk, Bool.and_self, if_true, Option.bind_some]
theorem markWorkshop_eq (n : Int) (l : List E) (v : Unit) (p q : Int) (m : List Int) (t : Int) (u w : Unit) (k : Int) (hl : okL l = true) (hm : okL m = true) (hk : okK k = true) (hk2 : okK (k + 2 * (l.length : Int)) = true) :
    F_laws_markWorkshop 0 (((n, l, v), p, q, m, t, u), k, w) = some (k + 2 * (l.length : Int) + (m.length : Int), ((n, markA k l, v), p, q, markL (k + 2 * (l.length : Int)) m, t, u), ()) := by
  unfold F_laws_markWorkshop G_markIntS
  simp only [markGraph_eq n l v _ k hl hk, hm, hk2, Bool.and_self, if_true, Option.bind_some]
theorem okK_small {k : Int} (h : 0 ≤ k) (h2 : k ≤ 4398046511104) : okK k = true := by unfold okK; simp [h, h2]
theorem markA_ok {k : Int} {l : List E} (h : okL l = true) : okL (markA k l) = true := by unfold okL at h ⊢; rwa [markA_len]
theorem markL_ok {k : Int} {l : List Int} (h : okL l = true) : okL (markL k l) = true := by unfold okL at h ⊢; rwa [markL_len]
theorem heldWorkshop_marked (n : Int) (l : List E) (v : Unit) (p q : Int) (m : List Int) (t : Int) (u w : Unit) (k : Int) (hl : okL l = true) (hm : okL m = true) (hk : okK k = true) (hk2 : okK (k + 2 * (l.length : Int)) = true) :
    F_laws_heldWorkshop 0 (((n, markA k l, v), p, q, markL (k + 2 * (l.length : Int)) m, t, u), k, w) = some (k + 2 * (l.length : Int) + (m.length : Int), ()) := by
  have h0 := okK_of hk
  have h1 := okK_of hk2
  unfold F_laws_heldWorkshop F_laws_heldGraph G_heldIntA2S G_heldIntS
  have c1 : decide (k + 2 * (l.length : Int) < 0) = false := by simp; omega
  have c2 : decide (k + 2 * (l.length : Int) + (m.length : Int) < 0) = false := by simp; omega
  simp only [markA_ok hl, markL_ok hm, hk, hk2, Bool.and_self, if_true, Option.bind_some, held_markA, held_markL, c1, c2, Bool.false_eq_true, if_false]
end Go.V.W
set_option linter.unusedVariables false
set_option linter.unusedSimpArgs false
namespace Go.V.W
theorem tabL_row {n c : Nat} (f : Nat → Nat → Int) (h : c < n) : (tabL n f)[c]? = some ((List.range n).map fun r => f c r) := by
  unfold tabL
  rw [List.getElem?_map, List.getElem?_range h]
  rfl
theorem rowR_get {n r : Nat} (g : Nat → Int) (h : r < n) : ((List.range n).map g)[r]? = some (g r) := by
  rw [List.getElem?_map, List.getElem?_range h]
  rfl
theorem tab2_tabL {n c r : Nat} (f : Nat → Nat → Int) (hc : c < n) (hr : r < n) : tab2 (tabL n f) (c : Int) (r : Int) = f c r := by
  unfold tab2
  simp only [Int.toNat_natCast, List.getD_eq_getElem?_getD, tabL_row f hc, Option.getD_some, rowR_get _ hr]
theorem worst_congr {f g : Int → Int} : ∀ {l : List Int} {m : Int}, (∀ x ∈ l, f x = g x) → worstL f l m = worstL g l m := by
  intro l
  induction l with
  | nil => intro m _; rfl
  | cons b bs ih =>
    intro m h
    simp only [worstL, h b (by simp)]
    rw [ih fun x hx => h x (by simp [hx])]
/-- The greatest of all, or -1. -/
theorem worst_spec (f : Int → Int) : ∀ (l : List Int) (m : Int), (∃ x ∈ l, f x < 0) ∧ worstL f l m = -1 ∨ (∀ x ∈ l, 0 ≤ f x ∧ f x ≤ worstL f l m) ∧ m ≤ worstL f l m ∧ (worstL f l m = m ∨ ∃ x ∈ l, worstL f l m = f x) := by
  intro l
  induction l with
  | nil => intro m; exact .inr ⟨fun x hx => by simp at hx, Int.le_refl _, .inl rfl⟩
  | cons b bs ih =>
    intro m
    simp only [worstL]
    by_cases hb : f b < 0
    · rw [if_pos hb]
      exact .inl ⟨⟨b, by simp, hb⟩, rfl⟩
    · rw [if_neg hb]
      rcases ih (if m < f b then f b else m) with ⟨⟨x, hx, h1⟩, h2⟩ | ⟨h1, h2, h3⟩
      · exact .inl ⟨⟨x, by simp [hx], h1⟩, h2⟩
      · have hge : m ≤ (if m < f b then f b else m) ∧ f b ≤ (if m < f b then f b else m) := by split <;> omega
        refine .inr ⟨fun x hx => ?_, by omega, ?_⟩
        · rcases List.mem_cons.1 hx with rfl | hx
          · omega
          · exact h1 x hx
        · rcases h3 with h3 | ⟨x, hx, h3⟩
          · by_cases hm : m < f b
            · rw [if_pos hm] at h3 ⊢
              exact .inr ⟨b, by simp, h3⟩
            · rw [if_neg hm] at h3 ⊢
              exact .inl h3
          · exact .inr ⟨x, by simp [hx], h3⟩
/-- The balls hold nodes alone. -/
def okBall (n : Nat) (ball : Int → List Int) : Prop := ∀ x : Nat, x < n → ∀ z ∈ ball (x : Int), ∃ y : Nat, y < n ∧ z = (y : Int)
/-- What holds before the round t. -/
structure InvT (n : Nat) (ball : Int → List Int) (t : Nat) (f : Nat → Nat → Int) : Prop where
  pos : 1 ≤ t
  low : ∀ c r, c < n → r < n → -1 ≤ f c r
  high : ∀ c r, c < n → r < n → f c r < (t : Int)
  none : ∀ c r, c < n → r < n → f c r < 0 → ∀ b ∈ ball (c : Int), ¬ (0 ≤ afterT ball (tabL n f) b (r : Int) ∧ afterT ball (tabL n f) b (r : Int) < (t : Int) - 1)
theorem InvT.next {n : Nat} {ball : Int → List Int} (hb : okBall n ball) {t : Nat} {f : Nat → Nat → Int} (hI : InvT n ball t f) : InvT n ball (t + 1) (stepF n ball (t : Int) f) := by
  have hp := hI.pos
  refine ⟨by omega, fun c r hc hr => ?_, fun c r hc hr => ?_, fun c r hc hr hf b hbm => ?_⟩
  · unfold stepF
    split
    · omega
    · exact hI.low c r hc hr
  · unfold stepF
    split
    · omega
    · have := hI.high c r hc hr; omega
  · rintro ⟨h1, h2⟩
    have hst : stepF n ball (t : Int) f c r = f c r ∧ canF n ball f c r = false := by
      unfold stepF at hf ⊢
      by_cases hcan : canF n ball f c r = true
      · rw [if_pos hcan] at hf; omega
      · rw [if_neg hcan]
        exact ⟨rfl, by simpa using hcan⟩
    rw [hst.1] at hf
    have hno : ∀ b ∈ ball (c : Int), ¬ 0 ≤ afterT ball (tabL n f) b (r : Int) := by
      intro b hbm h
      have := hst.2
      unfold canF at this
      simp only [hf, decide_true, Bool.true_and] at this
      have ht : ((ball (c : Int)).any fun b => decide (0 ≤ afterT ball (tabL n f) b (r : Int))) = true := List.any_eq_true.2 ⟨b, hbm, decide_eq_true h⟩
      rw [ht] at this
      cases this
    refine hno b hbm ?_
    unfold afterT at h1 h2 ⊢
    by_cases hbr : b = (r : Int)
    · rw [if_pos hbr]
      exact Int.le_refl _
    · rw [if_neg hbr] at h1 h2 ⊢
      obtain ⟨b', hb1, rfl⟩ := hb c hc b hbm
      rcases worst_spec (tab2 (tabL n (stepF n ball (t : Int) f)) (b' : Int)) (ball (r : Int)) 0 with ⟨_, h⟩ | ⟨hall, _, _⟩
      · omega
      · have e : worstL (tab2 (tabL n f) (b' : Int)) (ball (r : Int)) 0 = worstL (tab2 (tabL n (stepF n ball (t : Int) f)) (b' : Int)) (ball (r : Int)) 0 := by
          refine worst_congr fun x hx => ?_
          obtain ⟨y, hy, rfl⟩ := hb r hr x hx
          have := hall (y : Int) hx
          rw [tab2_tabL _ hb1 hy] at this
          rw [tab2_tabL _ hb1 hy, tab2_tabL _ hb1 hy]
          by_cases hcan : canF n ball f b' y = true
          · have e : stepF n ball (t : Int) f b' y = (t : Int) := if_pos hcan
            rw [e] at this
            omega
          · exact (if_neg hcan).symm
        rw [e]
        exact h1
theorem InvT.start (n : Nat) (ball : Int → List Int) : InvT n ball 1 startF := by
  refine ⟨Nat.le_refl _, fun c r _ _ => ?_, fun c r _ _ => ?_, fun c r _ _ _ b _ h => ?_⟩
  · unfold startF; split <;> omega
  · unfold startF; split <;> omega
  · omega
end Go.V.W
set_option linter.unusedVariables false
set_option linter.unusedSimpArgs false
namespace Go.V.W
/-- What holds of the numbers before each round. -/
structure Inv3 (p n : Nat) (ball : Nat → Int → List Int) (f : Nat → Nat → Nat → Int) : Prop where
  low : ∀ r c q, -1 ≤ f r c q
  home : ∀ r c, f r c c = 0
  away : ∀ r c q, c ≠ q → f r c q ≠ 0
  why : ∀ r c q, r < p → c < n → q < n → 0 ≤ f r c q → c = q ∨ ∃ b ∈ ball r (c : Int), 0 ≤ afterT (ball r) (tabL n (f ((r + 1) % p))) b (q : Int)
theorem Inv3.start (p n : Nat) (ball : Nat → Int → List Int) : Inv3 p n ball start3 := by
  refine ⟨fun r c q => ?_, fun r c => ?_, fun r c q h => ?_, fun r c q _ _ _ h => ?_⟩
  · unfold start3 startF; split <;> omega
  · unfold start3 startF; simp
  · unfold start3 startF; rw [if_neg h]; omega
  · unfold start3 startF at h
    by_cases e : c = q
    · exact .inl e
    · rw [if_neg e] at h; omega
def okBalls (p n : Nat) (ball : Nat → Int → List Int) : Prop := ∀ r, r < p → okBall n (ball r)
/-- Numbers that are there stay. -/
theorem after_mono {n : Nat} {ball : Int → List Int} (hb : okBall n ball) {f g : Nat → Nat → Int} (h : ∀ c q, 0 ≤ f c q → 0 ≤ g c q) {b q : Nat} (hbn : b < n) (hq : q < n) (h0 : 0 ≤ afterT ball (tabL n f) (b : Int) (q : Int)) : 0 ≤ afterT ball (tabL n g) (b : Int) (q : Int) := by
  unfold afterT at h0 ⊢
  by_cases e : (b : Int) = (q : Int)
  · rw [if_pos e]; exact Int.le_refl _
  · rw [if_neg e] at h0 ⊢
    rcases worst_spec (tab2 (tabL n f) (b : Int)) (ball (q : Int)) 0 with ⟨_, h1⟩ | ⟨h1, _, _⟩
    · omega
    · rcases worst_spec (tab2 (tabL n g) (b : Int)) (ball (q : Int)) 0 with ⟨⟨x, hx, h2⟩, _⟩ | ⟨_, h2, _⟩
      · exfalso
        obtain ⟨y, hy, rfl⟩ := hb q hq x hx
        have := (h1 _ hx).1
        rw [tab2_tabL _ hbn hy] at this h2
        have := h _ _ this
        omega
      · exact h2
theorem Inv3.next {p n : Nat} {ball : Nat → Int → List Int} (hb : okBalls p n ball) {t : Int} (ht : 1 ≤ t) {f : Nat → Nat → Nat → Int} (hI : Inv3 p n ball f) : Inv3 p n ball (step3 p n ball t f) := by
  have hkeep : ∀ r c q, 0 ≤ f r c q → step3 p n ball t f r c q = f r c q := fun r c q h => by
    unfold step3 can3
    have : decide (f r c q < 0) = false := by simp; omega
    simp [this]
  have hge : ∀ r c q, 0 ≤ f r c q → 0 ≤ step3 p n ball t f r c q := fun r c q h => by rw [hkeep r c q h]; exact h
  refine ⟨fun r c q => ?_, fun r c => ?_, fun r c q h => ?_, fun r c q hr hc hq h => ?_⟩
  · unfold step3; split
    · omega
    · exact hI.low r c q
  · rw [hkeep r c c (by rw [hI.home]; exact Int.le_refl _)]; exact hI.home r c
  · unfold step3; split
    · omega
    · exact hI.away r c q h
  · have key : (∃ b ∈ ball r (c : Int), 0 ≤ afterT (ball r) (tabL n (f ((r + 1) % p))) b (q : Int)) → ∃ b ∈ ball r (c : Int), 0 ≤ afterT (ball r) (tabL n (step3 p n ball t f ((r + 1) % p))) b (q : Int) := by
      rintro ⟨b, hbm, h1⟩
      obtain ⟨y, hy, rfl⟩ := hb r hr c hc b hbm
      exact ⟨_, hbm, after_mono (hb r hr) (hge _) hy hq h1⟩
    by_cases hf : 0 ≤ f r c q
    · exact (hI.why r c q hr hc hq hf).imp _root_.id key
    · right
      have hcan : can3 p n ball f r c q = true := by
        cases hcan : can3 p n ball f r c q with
        | true => rfl
        | false => unfold step3 at h; rw [if_neg (by rw [hcan]; simp)] at h; exact absurd h hf
      unfold can3 at hcan
      simp only [Bool.and_eq_true, List.any_eq_true, decide_eq_true_eq] at hcan
      exact key hcan.2
end Go.V.W
set_option linter.unusedVariables false
set_option linter.unusedSimpArgs false
namespace Go.V.W
open Go.Proofs
/-- The setting of a round. -/
structure TT (nets : List Nt) (p n : Nat) : Prop where
  ok : netsB n nets = true
  len : nets.length = p
  n8 : n ≤ 8
end Go.V.W
set_option linter.unusedVariables false
set_option linter.unusedSimpArgs false
namespace Go.V.W
open Go.Proofs
/-- A list of numbers copied. -/
theorem cloneI_lim (d) (r) (h : G_toIntS d = some r) : ∃ N, F_slices_Clone_Sint_int N d = some r := by
  obtain ⟨l, _⟩ := d
  unfold G_toIntS at h
  split at h
  · rename_i hl
    have hl : l.length ≤ lim := of_decide_eq_true hl
    have h := Option.some.inj h
    subst h
    refine ⟨0, ?_⟩
    unfold F_slices_Clone_Sint_int
    have h1 : decide (List.length ([] : List Int) + l.length ≤ lim) = true := by simp [hl]
    simp only [h1, if_true, List.nil_append]
    split
    · rename_i h0
      have : l = [] := List.length_eq_zero_iff.1 (of_decide_eq_true h0)
      subst this
      simp [both]
    · rfl
  · cases h
abbrev Cn := Wk × (ByteArray × ByteArray × Int × Unit) × Unit
def newC (w : Wk) : Cn × Bool × Unit := if workB w = true then ((w, (ByteArray.empty, ByteArray.empty, 0, ()), ()), true, ()) else ((((0, [], ()), 0, 0, [], 0, ()), (ByteArray.empty, ByteArray.empty, 0, ()), ()), false, ())
theorem goodW (n : Int) (l : List E) (v : Unit) (p q : Int) (m : List Int) (t : Int) (u w : Unit) (hl : okL l = true) (hm : okL m = true) : F_spec_l12Good 0 (((n, l, v), p, q, m, t, u), w) = some (workB ((n, l, v), p, q, m, t, u), ()) := by
  unfold F_spec_l12Good workB F_spec_l2Set G_l1Rising G_graph g_spec_l12Spot
  simp only [hl, hm, if_true, Option.bind_some, l1In_eq]
  cases hg : graphB (n, l, v) with
  | false => rfl
  | true =>
    have := graphB_n hg
    have hw : IntKind.wrap .i64 (n - 1) = n - 1 := wrap_in _ (by omega) (by omega)
    simp only [hw, if_true, Bool.true_and]
    cases inB (-1) (n - 1) p <;> cases inB (-1) (n - 1) q <;> cases (m.all (inB 0 (n - 1)) && risingB m) <;> simp
theorem specC (n : Int) (l : List E) (v : Unit) (p q : Int) (m : List Int) (t : Int) (u w : Unit) (hl : okL l = true) (hm : okL m = true) : F_spec_NewConsole 0 (((n, l, v), p, q, m, t, u), w) = some (newC ((n, l, v), p, q, m, t, u)) := by
  have e1 : decide (0 + l.length ≤ lim) = true := by rw [Nat.zero_add]; exact hl
  have e2 : decide (0 + m.length ≤ lim) = true := by rw [Nat.zero_add]; exact hm
  unfold F_spec_NewConsole F_spec_l12Own F_spec_l1Own newC
  simp only [goodW n l v p q m t u () hl hm, Option.bind_some, List.length_nil, e1, e2, if_true, List.nil_append]
  cases workB ((n, l, v), p, q, m, t, u) <;> rfl
theorem implC (n : Int) (l : List E) (v : Unit) (p q : Int) (m : List Int) (t : Int) (u w : Unit) (hl : okL l = true) (hm : okL m = true) : F_impl_NewConsole 0 (((n, l, v), p, q, m, t, u), w) = some (newC ((n, l, v), p, q, m, t, u)) := by
  unfold F_impl_NewConsole G_cloneWs newC
  simp only [implW n l v p q m t u () hl hm, Option.bind_some, hl, hm, Bool.and_self, if_true]
  cases workB ((n, l, v), p, q, m, t, u) <;> rfl
theorem seqE (s : ByteArray) : seq_ s s = true := by unfold seq_; simp
theorem eqC (w : Wk) (h1 : okL w.1.2.1 = true) (h2 : okL w.2.2.2.1 = true) : F_laws_eqConsole 0 ((newC w).1, (newC w).1, ()) = some (true, ()) := by
  obtain ⟨⟨n, l, v⟩, p, q, m, t, u⟩ := w
  have g : g_laws_eqLog ((ByteArray.empty, ByteArray.empty, 0, ()), (ByteArray.empty, ByteArray.empty, 0, ()), ()) = (true, ()) := by
    unfold g_laws_eqLog
    simp only [seqE, Bool.not_true, Bool.false_eq_true, if_false, bne_self_eq_false]
  unfold newC F_laws_eqConsole
  split
  · simp only [eqWorkshop_self n l v p q m t u () h1 h2, Option.bind_some, g, Bool.not_true, Bool.false_eq_true, if_false]
  · simp only [eqWorkshop_self 0 [] () 0 0 [] 0 () () okL_nil okL_nil, Option.bind_some, g, Bool.not_true, Bool.false_eq_true, if_false]
theorem newC_marks (n : Int) (l : List E) (v : Unit) (p q : Int) (m : List Int) (t : Int) (u : Unit) (h1 : l.length ≤ 1048576) (h2 : m.length ≤ 1048576) : ∃ k W, F_laws_markConsole 0 ((newC ((n, l, v), p, q, m, t, u)).1, 1, ()) = some (k, W, ()) ∧ F_laws_heldConsole 0 (W, 1, ()) = some (k, ()) ∧ 0 ≤ k := by
  have hl := okL_of h1
  have hm := okL_of h2
  have hk2 : okK (1 + 2 * (l.length : Int)) = true := okK_small (by omega) (by omega)
  unfold newC F_laws_markConsole F_laws_heldConsole
  split
  · have hc : decide (1 + 2 * (l.length : Int) + (m.length : Int) < 0) = false := decide_eq_false (by omega)
    simp only [markWorkshop_eq n l v p q m t u () 1 hl hm (by decide) hk2, Option.bind_some]
    exact ⟨_, _, rfl, by simp only [heldWorkshop_marked n l v p q m t u () 1 hl hm (by decide) hk2, Option.bind_some, hc, Bool.false_eq_true, if_false], by omega⟩
  · simp only [markWorkshop_eq 0 [] () 0 0 [] 0 () () 1 okL_nil okL_nil (by decide) (by decide), Option.bind_some]
    have hc : decide ((1 : Int) + 2 * (([] : List E).length : Int) + (([] : List Int).length : Int) < 0) = false := by decide
    exact ⟨_, _, rfl, by simp only [heldWorkshop_marked 0 [] () 0 0 [] 0 () () 1 okL_nil okL_nil (by decide) (by decide), Option.bind_some, hc, Bool.false_eq_true, if_false], by simp⟩
theorem law6 : ∀ d, WfD (Kd.tuple ([(K_PPiSPiiqqiiSiiq, false)].map (·.1))) d → ∃ out, F_laws_FnExactNewConsole 0 d = some out ∧ (splitT [.bool] [] out).1.1 = true := by
  rintro ⟨⟨⟨n, l, v⟩, p, q, m, t, u⟩, w⟩ ⟨⟨⟨_, hl, _⟩, _, _, hm, _⟩, _⟩
  have hl : l.length ≤ maxLen := hl.1
  have hm : m.length ≤ maxLen := hm.1
  refine ⟨(true, ()), ?_, rfl⟩
  unfold F_laws_FnExactNewConsole
  rcases szWorkshop_neg n l v p q m t u hl hm with h | ⟨h1, h2⟩
  · simp only [h, decide_true, if_true]
  · have o1 := okL_of h1
    have o2 := okL_of h2
    have hk2 : okK (1 + 2 * (l.length : Int)) = true := okK_small (by omega) (by omega)
    have hc : decide (1 + 2 * (l.length : Int) + (m.length : Int) < 0) = false := decide_eq_false (by omega)
    obtain ⟨k, W, e1, e2, e3⟩ := newC_marks n l v p q m t u h1 h2
    have hk : decide (k < 0) = false := decide_eq_false (by omega)
    simp only [toWorkshop_eq n l v p q m t u _ o1 o2, specC n l v p q m t u _ o1 o2, implC n l v p q m t u _ o1 o2, eqC ((n, l, v), p, q, m, t, u) o1 o2, eqWorkshop_self n l v p q m t u _ o1 o2, markWorkshop_eq n l v p q m t u () 1 o1 o2 (by decide) hk2, hc, e1, e2, hk, Option.bind_some, beq_self_eq_true, bne_self_eq_false, Bool.not_true, Bool.false_eq_true, if_false]
    split <;> rfl
end Go.V.W
namespace Go.V.W
open Go.Proofs Go.Shelf Go.RowKit
-- import Derived.Shelf.Lays
-- import Derived.Shelf.Strings.IndexAnyAll
theorem tab : TabOk Try.prog (assoc tks) (assoc ars) := tab_of (by kernel_rfl)
theorem mixed : Try.prog.follows .mixedOrders = true := by kernel_rfl
theorem C_laws_szIntA2S_raw (N : Nat) : Contract Try.prog 73 ⟨[(K_SPiiq, false), (I, false)], [I], true, F_laws_szIntA2S N⟩ :=
  have E : Env Try.prog Γ_laws_szIntA2S := env_of tab trivial
  con_of (Pc := []) E mixed Try.func73 (by kernel_rfl) (by kernel_rfl) (by kernel_rfl) (by kernel_rfl) (fun A hA => trivial) (F_laws_szIntA2S_ok N)
theorem C_laws_szIntA2S : Contract Try.prog 73 S_laws_szIntA2S := Contract.less (fun N : Nat => F_laws_szIntA2S N) C_laws_szIntA2S_raw (fun d r h => ⟨0, (F_laws_szIntA2S_tot 0 d).trans h⟩)
theorem C_laws_szGraph_raw (N : Nat) : Contract Try.prog 24 ⟨[(K_PiSPiiqq, false), (I, false)], [I], true, F_laws_szGraph N⟩ :=
  have E : Env Try.prog Γ_laws_szGraph := env_of tab ⟨C_laws_szIntA2S, trivial⟩
  con_of (Pc := []) E mixed Try.func24 (by kernel_rfl) (by kernel_rfl) (by kernel_rfl) (by kernel_rfl) (fun A hA => trivial) (F_laws_szGraph_ok N)
theorem C_laws_szGraph : Contract Try.prog 24 S_laws_szGraph := Contract.less (fun N : Nat => F_laws_szGraph N) C_laws_szGraph_raw (fun d r h => ⟨0, (F_laws_szGraph_tot 0 d).trans h⟩)
theorem C_laws_szIntS_raw (N : Nat) : Contract Try.prog 68 ⟨[(K_Si, false), (I, false)], [I], true, F_laws_szIntS N⟩ :=
  have E : Env Try.prog Γ_laws_szIntS := env_of tab trivial
  con_of (Pc := []) E mixed Try.func68 (by kernel_rfl) (by kernel_rfl) (by kernel_rfl) (by kernel_rfl) (fun A hA => trivial) (F_laws_szIntS_ok N)
theorem C_laws_szIntS : Contract Try.prog 68 S_laws_szIntS := Contract.less (fun N : Nat => F_laws_szIntS N) C_laws_szIntS_raw (fun d r h => ⟨0, (F_laws_szIntS_tot 0 d).trans h⟩)
theorem C_laws_szWorkshop_raw (N : Nat) : Contract Try.prog 19 ⟨[(K_PPiSPiiqqiiSiiq, false), (I, false)], [I], true, F_laws_szWorkshop N⟩ :=
  have E : Env Try.prog Γ_laws_szWorkshop := env_of tab ⟨C_laws_szGraph, ⟨C_laws_szIntS, trivial⟩⟩
  con_of (Pc := []) E mixed Try.func19 (by kernel_rfl) (by kernel_rfl) (by kernel_rfl) (by kernel_rfl) (fun A hA => trivial) (F_laws_szWorkshop_ok N)
theorem C_laws_szWorkshop : Contract Try.prog 19 S_laws_szWorkshop := Contract.less (fun N : Nat => F_laws_szWorkshop N) C_laws_szWorkshop_raw (fun d r h => ⟨0, (F_laws_szWorkshop_tot 0 d).trans h⟩)
theorem C_laws_toIntA2_raw (N : Nat) : Contract Try.prog 125 ⟨[(K_Piiq, false)], [K_Piiq], true, F_laws_toIntA2 N⟩ :=
  have E : Env Try.prog Γ_laws_toIntA2 := env_of tab trivial
  con_of (Pc := [(0, ⟨laws_toIntA2_l0_h, laws_toIntA2_l0_o, laws_toIntA2_l0 N N⟩)]) E mixed Try.func125 (by kernel_rfl) (by kernel_rfl) (by kernel_rfl) (by kernel_rfl) (fun A hA => ⟨pc_of (inner := []) E mixed hA (by kernel_rfl) (by kernel_rfl) (by kernel_rfl) trivial (fun _ => rfl) (fun m d => (laws_toIntA2_l0_ok N (laws_toIntA2_l0 N m) d).symm) N, trivial⟩) (F_laws_toIntA2_ok N)
theorem C_laws_toIntA2 : Contract Try.prog 125 S_laws_toIntA2 := Contract.less (fun N : Nat => F_laws_toIntA2 N) C_laws_toIntA2_raw toIntA2_lim
theorem C_laws_toIntA2S_raw (N : Nat) : Contract Try.prog 75 ⟨[(K_SPiiq, false)], [K_SPiiq], true, F_laws_toIntA2S N⟩ :=
  have E : Env Try.prog Γ_laws_toIntA2S := env_of tab ⟨C_laws_toIntA2, trivial⟩
  con_of (Pc := [(0, ⟨laws_toIntA2S_l0_h, laws_toIntA2S_l0_o, laws_toIntA2S_l0 N N⟩)]) E mixed Try.func75 (by kernel_rfl) (by kernel_rfl) (by kernel_rfl) (by kernel_rfl) (fun A hA => ⟨pc_of (inner := []) E mixed hA (by kernel_rfl) (by kernel_rfl) (by kernel_rfl) trivial (fun _ => rfl) (fun m d => (laws_toIntA2S_l0_ok N (laws_toIntA2S_l0 N m) d).symm) N, trivial⟩) (F_laws_toIntA2S_ok N)
theorem C_laws_toIntA2S : Contract Try.prog 75 S_laws_toIntA2S := Contract.less (fun N : Nat => F_laws_toIntA2S N) C_laws_toIntA2S_raw toIntA2S_lim
theorem C_laws_toGraph_raw (N : Nat) : Contract Try.prog 26 ⟨[(K_PiSPiiqq, false)], [K_PiSPiiqq], true, F_laws_toGraph N⟩ :=
  have E : Env Try.prog Γ_laws_toGraph := env_of tab ⟨C_laws_toIntA2S, trivial⟩
  con_of (Pc := []) E mixed Try.func26 (by kernel_rfl) (by kernel_rfl) (by kernel_rfl) (by kernel_rfl) (fun A hA => trivial) (F_laws_toGraph_ok N)
theorem C_laws_toGraph : Contract Try.prog 26 S_laws_toGraph := C_laws_toGraph_raw 0
theorem C_laws_toIntS_raw (N : Nat) : Contract Try.prog 70 ⟨[(K_Si, false)], [K_Si], true, F_laws_toIntS N⟩ :=
  have E : Env Try.prog Γ_laws_toIntS := env_of tab trivial
  con_of (Pc := [(0, ⟨laws_toIntS_l0_h, laws_toIntS_l0_o, laws_toIntS_l0 N N⟩)]) E mixed Try.func70 (by kernel_rfl) (by kernel_rfl) (by kernel_rfl) (by kernel_rfl) (fun A hA => ⟨pc_of (inner := []) E mixed hA (by kernel_rfl) (by kernel_rfl) (by kernel_rfl) trivial (fun _ => rfl) (fun m d => (laws_toIntS_l0_ok N (laws_toIntS_l0 N m) d).symm) N, trivial⟩) (F_laws_toIntS_ok N)
theorem C_laws_toIntS : Contract Try.prog 70 S_laws_toIntS := Contract.less (fun N : Nat => F_laws_toIntS N) C_laws_toIntS_raw toIntS_lim
theorem C_laws_toWorkshop_raw (N : Nat) : Contract Try.prog 21 ⟨[(K_PPiSPiiqqiiSiiq, false)], [K_PPiSPiiqqiiSiiq], true, F_laws_toWorkshop N⟩ :=
  have E : Env Try.prog Γ_laws_toWorkshop := env_of tab ⟨C_laws_toGraph, ⟨C_laws_toIntS, trivial⟩⟩
  con_of (Pc := []) E mixed Try.func21 (by kernel_rfl) (by kernel_rfl) (by kernel_rfl) (by kernel_rfl) (fun A hA => trivial) (F_laws_toWorkshop_ok N)
theorem C_laws_toWorkshop : Contract Try.prog 21 S_laws_toWorkshop := C_laws_toWorkshop_raw 0
theorem C_spec_l1In_raw (N : Nat) : Contract Try.prog 122 ⟨[(I, false), (I, false), (I, false)], [.bool], true, F_spec_l1In N⟩ :=
  have E : Env Try.prog Γ_spec_l1In := env_of tab trivial
  con_of (Pc := []) E mixed Try.func122 (by kernel_rfl) (by kernel_rfl) (by kernel_rfl) (by kernel_rfl) (fun A hA => trivial) (F_spec_l1In_ok N)
theorem C_spec_l1In : Contract Try.prog 122 S_spec_l1In := Contract.less (fun N : Nat => F_spec_l1In N) C_spec_l1In_raw (fun d r h => ⟨0, (F_spec_l1In_tot 0 d).trans h⟩)
theorem C_spec_l2Before_raw (N : Nat) : Contract Try.prog 148 ⟨[(K_Piiq, false), (K_Piiq, false)], [.bool], true, F_spec_l2Before N⟩ :=
  have E : Env Try.prog Γ_spec_l2Before := env_of tab trivial
  con_of (Pc := []) E mixed Try.func148 (by kernel_rfl) (by kernel_rfl) (by kernel_rfl) (by kernel_rfl) (fun A hA => trivial) (F_spec_l2Before_ok N)
theorem C_spec_l2Before : Contract Try.prog 148 S_spec_l2Before := Contract.less (fun N : Nat => F_spec_l2Before N) C_spec_l2Before_raw (fun d r h => ⟨0, (F_spec_l2Before_tot 0 d).trans h⟩)
theorem C_spec_l2Good_raw (N : Nat) : Contract Try.prog 119 ⟨[(K_PiSPiiqq, false)], [.bool], true, F_spec_l2Good N⟩ :=
  have E : Env Try.prog Γ_spec_l2Good := env_of tab ⟨C_spec_l1In, ⟨C_spec_l2Before, trivial⟩⟩
  con_of (Pc := [(0, ⟨spec_l2Good_l0_h, spec_l2Good_l0_o, spec_l2Good_l0 N N⟩)]) E mixed Try.func119 (by kernel_rfl) (by kernel_rfl) (by kernel_rfl) (by kernel_rfl) (fun A hA => ⟨pc_of (inner := []) E mixed hA (by kernel_rfl) (by kernel_rfl) (by kernel_rfl) trivial (fun _ => rfl) (fun m d => (spec_l2Good_l0_ok N (spec_l2Good_l0 N m) d).symm) N, trivial⟩) (F_spec_l2Good_ok N)
theorem C_spec_l2Good : Contract Try.prog 119 S_spec_l2Good := Contract.less (fun N : Nat => F_spec_l2Good N) C_spec_l2Good_raw l2Good_lim
theorem C_spec_l12Spot_raw (N : Nat) : Contract Try.prog 120 ⟨[(K_PiSPiiqq, false), (I, false)], [.bool], true, F_spec_l12Spot N⟩ :=
  have E : Env Try.prog Γ_spec_l12Spot := env_of tab ⟨C_spec_l1In, trivial⟩
  con_of (Pc := []) E mixed Try.func120 (by kernel_rfl) (by kernel_rfl) (by kernel_rfl) (by kernel_rfl) (fun A hA => trivial) (F_spec_l12Spot_ok N)
theorem C_spec_l12Spot : Contract Try.prog 120 S_spec_l12Spot := Contract.less (fun N : Nat => F_spec_l12Spot N) C_spec_l12Spot_raw (fun d r h => ⟨0, (F_spec_l12Spot_tot 0 d).trans h⟩)
theorem C_spec_l1Rising_raw (N : Nat) : Contract Try.prog 128 ⟨[(K_Si, false), (I, false), (I, false)], [.bool], true, F_spec_l1Rising N⟩ :=
  have E : Env Try.prog Γ_spec_l1Rising := env_of tab ⟨C_spec_l1In, trivial⟩
  con_of (Pc := [(0, ⟨spec_l1Rising_l0_h, spec_l1Rising_l0_o, spec_l1Rising_l0 N N⟩)]) E mixed Try.func128 (by kernel_rfl) (by kernel_rfl) (by kernel_rfl) (by kernel_rfl) (fun A hA => ⟨pc_of (inner := []) E mixed hA (by kernel_rfl) (by kernel_rfl) (by kernel_rfl) trivial (fun _ => rfl) (fun m d => (spec_l1Rising_l0_ok N (spec_l1Rising_l0 N m) d).symm) N, trivial⟩) (F_spec_l1Rising_ok N)
theorem C_spec_l1Rising : Contract Try.prog 128 S_spec_l1Rising := Contract.less (fun N : Nat => F_spec_l1Rising N) C_spec_l1Rising_raw l1Rising_lim
theorem C_spec_l2Set_raw (N : Nat) : Contract Try.prog 121 ⟨[(K_PiSPiiqq, false), (K_Si, false)], [.bool], true, F_spec_l2Set N⟩ :=
  have E : Env Try.prog Γ_spec_l2Set := env_of tab ⟨C_spec_l1Rising, trivial⟩
  con_of (Pc := []) E mixed Try.func121 (by kernel_rfl) (by kernel_rfl) (by kernel_rfl) (by kernel_rfl) (fun A hA => trivial) (F_spec_l2Set_ok N)
theorem C_spec_l2Set : Contract Try.prog 121 S_spec_l2Set := C_spec_l2Set_raw 0
theorem C_spec_l12Good_raw (N : Nat) : Contract Try.prog 69 ⟨[(K_PPiSPiiqqiiSiiq, false)], [.bool], true, F_spec_l12Good N⟩ :=
  have E : Env Try.prog Γ_spec_l12Good := env_of tab ⟨C_spec_l2Good, ⟨C_spec_l12Spot, ⟨C_spec_l2Set, ⟨C_spec_l1In, trivial⟩⟩⟩⟩
  con_of (Pc := []) E mixed Try.func69 (by kernel_rfl) (by kernel_rfl) (by kernel_rfl) (by kernel_rfl) (fun A hA => trivial) (F_spec_l12Good_ok N)
theorem C_spec_l12Good : Contract Try.prog 69 S_spec_l12Good := C_spec_l12Good_raw 0
theorem C_spec_l1Own_raw (N : Nat) : Contract Try.prog 124 ⟨[(K_Si, false)], [K_Si], true, F_spec_l1Own N⟩ :=
  have E : Env Try.prog Γ_spec_l1Own := env_of tab trivial
  con_of (Pc := []) E mixed Try.func124 (by kernel_rfl) (by kernel_rfl) (by kernel_rfl) (by kernel_rfl) (fun A hA => trivial) (F_spec_l1Own_ok N)
theorem C_spec_l1Own : Contract Try.prog 124 S_spec_l1Own := C_spec_l1Own_raw 0
theorem C_spec_l12Own_raw (N : Nat) : Contract Try.prog 74 ⟨[(K_PPiSPiiqqiiSiiq, false)], [K_PPiSPiiqqiiSiiq], true, F_spec_l12Own N⟩ :=
  have E : Env Try.prog Γ_spec_l12Own := env_of tab ⟨C_spec_l1Own, trivial⟩
  con_of (Pc := []) E mixed Try.func74 (by kernel_rfl) (by kernel_rfl) (by kernel_rfl) (by kernel_rfl) (fun A hA => trivial) (F_spec_l12Own_ok N)
theorem C_spec_l12Own : Contract Try.prog 74 S_spec_l12Own := C_spec_l12Own_raw 0
theorem C_spec_NewConsole_raw (N : Nat) : Contract Try.prog 41 ⟨[(K_PPiSPiiqqiiSiiq, false)], [K_PPPiSPiiqqiiSiiqPssiqq, .bool], true, F_spec_NewConsole N⟩ :=
  have E : Env Try.prog Γ_spec_NewConsole := env_of tab ⟨C_spec_l12Good, ⟨C_spec_l12Own, trivial⟩⟩
  con_of (Pc := []) E mixed Try.func41 (by kernel_rfl) (by kernel_rfl) (by kernel_rfl) (by kernel_rfl) (fun A hA => trivial) (F_spec_NewConsole_ok N)
theorem C_spec_NewConsole : Contract Try.prog 41 S_spec_NewConsole := C_spec_NewConsole_raw 0
theorem C_impl_within_raw (N : Nat) : Contract Try.prog 72 ⟨[(I, false), (I, false), (I, false)], [.bool], true, F_impl_within N⟩ :=
  have E : Env Try.prog Γ_impl_within := env_of tab trivial
  con_of (Pc := []) E mixed Try.func72 (by kernel_rfl) (by kernel_rfl) (by kernel_rfl) (by kernel_rfl) (fun A hA => trivial) (F_impl_within_ok N)
theorem C_impl_within : Contract Try.prog 72 S_impl_within := Contract.less (fun N : Nat => F_impl_within N) C_impl_within_raw (fun d r h => ⟨0, (F_impl_within_tot 0 d).trans h⟩)
theorem C_cmp_isNaN_int_raw (N : Nat) : Contract Try.prog 164 ⟨[(I, false)], [.bool], true, F_cmp_isNaN_int N⟩ :=
  have E : Env Try.prog Γ_cmp_isNaN_int := env_of tab trivial
  con_of (Pc := []) E mixed Try.func164 (by kernel_rfl) (by kernel_rfl) (by kernel_rfl) (by kernel_rfl) (fun A hA => trivial) (F_cmp_isNaN_int_ok N)
theorem C_cmp_isNaN_int : Contract Try.prog 164 S_cmp_isNaN_int := Contract.less (fun N : Nat => F_cmp_isNaN_int N) C_cmp_isNaN_int_raw (fun d r h => ⟨0, (F_cmp_isNaN_int_tot 0 d).trans h⟩)
theorem C_cmp_Compare_int_raw (N : Nat) : Contract Try.prog 149 ⟨[(I, false), (I, false)], [I], true, F_cmp_Compare_int N⟩ :=
  have E : Env Try.prog Γ_cmp_Compare_int := env_of tab ⟨C_cmp_isNaN_int, trivial⟩
  con_of (Pc := []) E mixed Try.func149 (by kernel_rfl) (by kernel_rfl) (by kernel_rfl) (by kernel_rfl) (fun A hA => trivial) (F_cmp_Compare_int_ok N)
theorem C_cmp_Compare_int : Contract Try.prog 149 S_cmp_Compare_int := Contract.less (fun N : Nat => F_cmp_Compare_int N) C_cmp_Compare_int_raw (fun d r h => ⟨0, (F_cmp_Compare_int_tot 0 d).trans h⟩)
theorem C_slices_Compare_Sint_int_raw (N : Nat) : Contract Try.prog 126 ⟨[(K_Si, false), (K_Si, false)], [I], true, F_slices_Compare_Sint_int N⟩ :=
  have E : Env Try.prog Γ_slices_Compare_Sint_int := env_of tab ⟨C_cmp_Compare_int, trivial⟩
  con_of (Pc := [(0, ⟨slices_Compare_Sint_int_l0_h, slices_Compare_Sint_int_l0_o, slices_Compare_Sint_int_l0 N N⟩)]) E mixed Try.func126 (by kernel_rfl) (by kernel_rfl) (by kernel_rfl) (by kernel_rfl) (fun A hA => ⟨pc_of (inner := []) E mixed hA (by kernel_rfl) (by kernel_rfl) (by kernel_rfl) trivial (fun _ => rfl) (fun m d => (slices_Compare_Sint_int_l0_ok N (slices_Compare_Sint_int_l0 N m) d).symm) N, trivial⟩) (F_slices_Compare_Sint_int_ok N)
theorem C_slices_Compare_Sint_int : Contract Try.prog 126 S_slices_Compare_Sint_int := Contract.less (fun N : Nat => F_slices_Compare_Sint_int N) C_slices_Compare_Sint_int_raw compare_lim
theorem C_impl_IsGraph_raw (N : Nat) : Contract Try.prog 76 ⟨[(K_PiSPiiqq, false)], [.bool], true, F_impl_IsGraph N⟩ :=
  have E : Env Try.prog Γ_impl_IsGraph := env_of tab ⟨C_impl_within, ⟨C_slices_Compare_Sint_int, trivial⟩⟩
  con_of (Pc := [(0, ⟨impl_IsGraph_l0_h, impl_IsGraph_l0_o, impl_IsGraph_l0 N N⟩)]) E mixed Try.func76 (by kernel_rfl) (by kernel_rfl) (by kernel_rfl) (by kernel_rfl) (fun A hA => ⟨pc_of (inner := []) E mixed hA (by kernel_rfl) (by kernel_rfl) (by kernel_rfl) trivial (fun _ => rfl) (fun m d => (impl_IsGraph_l0_ok N (impl_IsGraph_l0 N m) d).symm) N, trivial⟩) (F_impl_IsGraph_ok N)
theorem C_impl_IsGraph : Contract Try.prog 76 S_impl_IsGraph := Contract.less (fun N : Nat => F_impl_IsGraph N) C_impl_IsGraph_raw IsGraph_lim
theorem C_impl_allWithin_raw (N : Nat) : Contract Try.prog 86 ⟨[(K_Si, false), (I, false), (I, false)], [.bool], true, F_impl_allWithin N⟩ :=
  have E : Env Try.prog Γ_impl_allWithin := env_of tab ⟨C_impl_within, trivial⟩
  con_of (Pc := [(0, ⟨impl_allWithin_l0_h, impl_allWithin_l0_o, impl_allWithin_l0 N N⟩)]) E mixed Try.func86 (by kernel_rfl) (by kernel_rfl) (by kernel_rfl) (by kernel_rfl) (fun A hA => ⟨pc_of (inner := []) E mixed hA (by kernel_rfl) (by kernel_rfl) (by kernel_rfl) trivial (fun _ => rfl) (fun m d => (impl_allWithin_l0_ok N (impl_allWithin_l0 N m) d).symm) N, trivial⟩) (F_impl_allWithin_ok N)
theorem C_impl_allWithin : Contract Try.prog 86 S_impl_allWithin := Contract.less (fun N : Nat => F_impl_allWithin N) C_impl_allWithin_raw allWithin_lim
theorem C_impl_hasNodes_raw (N : Nat) : Contract Try.prog 123 ⟨[(K_PiSPiiqq, false), (K_Si, false)], [.bool], true, F_impl_hasNodes N⟩ :=
  have E : Env Try.prog Γ_impl_hasNodes := env_of tab ⟨C_impl_IsGraph, ⟨C_impl_allWithin, trivial⟩⟩
  con_of (Pc := []) E mixed Try.func123 (by kernel_rfl) (by kernel_rfl) (by kernel_rfl) (by kernel_rfl) (fun A hA => trivial) (F_impl_hasNodes_ok N)
theorem C_impl_hasNodes : Contract Try.prog 123 S_impl_hasNodes := C_impl_hasNodes_raw 0
theorem C_impl_increasing_raw (N : Nat) : Contract Try.prog 85 ⟨[(K_Si, false)], [.bool], true, F_impl_increasing N⟩ :=
  have E : Env Try.prog Γ_impl_increasing := env_of tab trivial
  con_of (Pc := [(0, ⟨impl_increasing_l0_h, impl_increasing_l0_o, impl_increasing_l0 N N⟩)]) E mixed Try.func85 (by kernel_rfl) (by kernel_rfl) (by kernel_rfl) (by kernel_rfl) (fun A hA => ⟨pc_of (inner := []) E mixed hA (by kernel_rfl) (by kernel_rfl) (by kernel_rfl) trivial (fun _ => rfl) (fun m d => (impl_increasing_l0_ok N (impl_increasing_l0 N m) d).symm) N, trivial⟩) (F_impl_increasing_ok N)
theorem C_impl_increasing : Contract Try.prog 85 S_impl_increasing := Contract.less (fun N : Nat => F_impl_increasing N) C_impl_increasing_raw increasing_lim
theorem C_impl_isSet_raw (N : Nat) : Contract Try.prog 71 ⟨[(K_PiSPiiqq, false), (K_Si, false)], [.bool], true, F_impl_isSet N⟩ :=
  have E : Env Try.prog Γ_impl_isSet := env_of tab ⟨C_impl_increasing, ⟨C_impl_hasNodes, trivial⟩⟩
  con_of (Pc := []) E mixed Try.func71 (by kernel_rfl) (by kernel_rfl) (by kernel_rfl) (by kernel_rfl) (fun A hA => trivial) (F_impl_isSet_ok N)
theorem C_impl_isSet : Contract Try.prog 71 S_impl_isSet := C_impl_isSet_raw 0
theorem C_impl_IsWorkshop_raw (N : Nat) : Contract Try.prog 22 ⟨[(K_PPiSPiiqqiiSiiq, false)], [.bool], true, F_impl_IsWorkshop N⟩ :=
  have E : Env Try.prog Γ_impl_IsWorkshop := env_of tab ⟨C_impl_isSet, ⟨C_impl_within, trivial⟩⟩
  con_of (Pc := []) E mixed Try.func22 (by kernel_rfl) (by kernel_rfl) (by kernel_rfl) (by kernel_rfl) (fun A hA => trivial) (F_impl_IsWorkshop_ok N)
theorem C_impl_IsWorkshop : Contract Try.prog 22 S_impl_IsWorkshop := C_impl_IsWorkshop_raw 0
theorem C_slices_Clone_S_2_int_2_int_raw (N : Nat) : Contract Try.prog 77 ⟨[(K_SPiiq, false)], [K_SPiiq], true, F_slices_Clone_S_2_int_2_int N⟩ :=
  have E : Env Try.prog Γ_slices_Clone_S_2_int_2_int := env_of tab trivial
  con_of (Pc := []) E mixed Try.func77 (by kernel_rfl) (by kernel_rfl) (by kernel_rfl) (by kernel_rfl) (fun A hA => trivial) (F_slices_Clone_S_2_int_2_int_ok N)
theorem C_slices_Clone_S_2_int_2_int : Contract Try.prog 77 S_slices_Clone_S_2_int_2_int := Contract.less (fun N : Nat => F_slices_Clone_S_2_int_2_int N) C_slices_Clone_S_2_int_2_int_raw cloneA2_lim
theorem C_slices_Clone_Sint_int_raw (N : Nat) : Contract Try.prog 130 ⟨[(K_Si, false)], [K_Si], true, F_slices_Clone_Sint_int N⟩ :=
  have E : Env Try.prog Γ_slices_Clone_Sint_int := env_of tab trivial
  con_of (Pc := []) E mixed Try.func130 (by kernel_rfl) (by kernel_rfl) (by kernel_rfl) (by kernel_rfl) (fun A hA => trivial) (F_slices_Clone_Sint_int_ok N)
theorem C_slices_Clone_Sint_int : Contract Try.prog 130 S_slices_Clone_Sint_int := Contract.less (fun N : Nat => F_slices_Clone_Sint_int N) C_slices_Clone_Sint_int_raw cloneI_lim
theorem C_impl_cloneWorkshop : Contract Try.prog 91 S_impl_cloneWorkshop := con_cloneWs C_slices_Clone_S_2_int_2_int C_slices_Clone_Sint_int
theorem C_impl_NewConsole_raw (N : Nat) : Contract Try.prog 42 ⟨[(K_PPiSPiiqqiiSiiq, false)], [K_PPPiSPiiqqiiSiiqPssiqq, .bool], true, F_impl_NewConsole N⟩ :=
  have E : Env Try.prog Γ_impl_NewConsole := env_of tab ⟨C_impl_IsWorkshop, ⟨C_impl_cloneWorkshop, trivial⟩⟩
  con_of (Pc := []) E mixed Try.func42 (by kernel_rfl) (by kernel_rfl) (by kernel_rfl) (by kernel_rfl) (fun A hA => trivial) (F_impl_NewConsole_ok N)
theorem C_impl_NewConsole : Contract Try.prog 42 S_impl_NewConsole := C_impl_NewConsole_raw 0
theorem C_laws_eqIntA2_raw (N : Nat) : Contract Try.prog 127 ⟨[(K_Piiq, false), (K_Piiq, false)], [.bool], true, F_laws_eqIntA2 N⟩ :=
  have E : Env Try.prog Γ_laws_eqIntA2 := env_of tab trivial
  con_of (Pc := [(0, ⟨laws_eqIntA2_l0_h, laws_eqIntA2_l0_o, laws_eqIntA2_l0 N N⟩)]) E mixed Try.func127 (by kernel_rfl) (by kernel_rfl) (by kernel_rfl) (by kernel_rfl) (fun A hA => ⟨pc_of (inner := []) E mixed hA (by kernel_rfl) (by kernel_rfl) (by kernel_rfl) trivial (fun _ => rfl) (fun m d => (laws_eqIntA2_l0_ok N (laws_eqIntA2_l0 N m) d).symm) N, trivial⟩) (F_laws_eqIntA2_ok N)
theorem C_laws_eqIntA2 : Contract Try.prog 127 S_laws_eqIntA2 := Contract.less (fun N : Nat => F_laws_eqIntA2 N) C_laws_eqIntA2_raw eqIntA2_lim
theorem C_laws_eqIntA2S_raw (N : Nat) : Contract Try.prog 78 ⟨[(K_SPiiq, false), (K_SPiiq, false)], [.bool], true, F_laws_eqIntA2S N⟩ :=
  have E : Env Try.prog Γ_laws_eqIntA2S := env_of tab ⟨C_laws_eqIntA2, trivial⟩
  con_of (Pc := [(0, ⟨laws_eqIntA2S_l0_h, laws_eqIntA2S_l0_o, laws_eqIntA2S_l0 N N⟩)]) E mixed Try.func78 (by kernel_rfl) (by kernel_rfl) (by kernel_rfl) (by kernel_rfl) (fun A hA => ⟨pc_of (inner := []) E mixed hA (by kernel_rfl) (by kernel_rfl) (by kernel_rfl) trivial (fun _ => rfl) (fun m d => (laws_eqIntA2S_l0_ok N (laws_eqIntA2S_l0 N m) d).symm) N, trivial⟩) (F_laws_eqIntA2S_ok N)
theorem C_laws_eqIntA2S : Contract Try.prog 78 S_laws_eqIntA2S := Contract.less (fun N : Nat => F_laws_eqIntA2S N) C_laws_eqIntA2S_raw eqIntA2S_lim
theorem C_laws_eqGraph_raw (N : Nat) : Contract Try.prog 28 ⟨[(K_PiSPiiqq, false), (K_PiSPiiqq, false)], [.bool], true, F_laws_eqGraph N⟩ :=
  have E : Env Try.prog Γ_laws_eqGraph := env_of tab ⟨C_laws_eqIntA2S, trivial⟩
  con_of (Pc := []) E mixed Try.func28 (by kernel_rfl) (by kernel_rfl) (by kernel_rfl) (by kernel_rfl) (fun A hA => trivial) (F_laws_eqGraph_ok N)
theorem C_laws_eqGraph : Contract Try.prog 28 S_laws_eqGraph := C_laws_eqGraph_raw 0
theorem C_laws_eqIntS_raw (N : Nat) : Contract Try.prog 53 ⟨[(K_Si, false), (K_Si, false)], [.bool], true, F_laws_eqIntS N⟩ :=
  have E : Env Try.prog Γ_laws_eqIntS := env_of tab trivial
  con_of (Pc := [(0, ⟨laws_eqIntS_l0_h, laws_eqIntS_l0_o, laws_eqIntS_l0 N N⟩)]) E mixed Try.func53 (by kernel_rfl) (by kernel_rfl) (by kernel_rfl) (by kernel_rfl) (fun A hA => ⟨pc_of (inner := []) E mixed hA (by kernel_rfl) (by kernel_rfl) (by kernel_rfl) trivial (fun _ => rfl) (fun m d => (laws_eqIntS_l0_ok N (laws_eqIntS_l0 N m) d).symm) N, trivial⟩) (F_laws_eqIntS_ok N)
theorem C_laws_eqIntS : Contract Try.prog 53 S_laws_eqIntS := Contract.less (fun N : Nat => F_laws_eqIntS N) C_laws_eqIntS_raw eqIntS_lim
theorem C_laws_eqWorkshop_raw (N : Nat) : Contract Try.prog 23 ⟨[(K_PPiSPiiqqiiSiiq, false), (K_PPiSPiiqqiiSiiq, false)], [.bool], true, F_laws_eqWorkshop N⟩ :=
  have E : Env Try.prog Γ_laws_eqWorkshop := env_of tab ⟨C_laws_eqGraph, ⟨C_laws_eqIntS, trivial⟩⟩
  con_of (Pc := []) E mixed Try.func23 (by kernel_rfl) (by kernel_rfl) (by kernel_rfl) (by kernel_rfl) (fun A hA => trivial) (F_laws_eqWorkshop_ok N)
theorem C_laws_eqWorkshop : Contract Try.prog 23 S_laws_eqWorkshop := C_laws_eqWorkshop_raw 0
theorem C_laws_eqLog_raw (N : Nat) : Contract Try.prog 92 ⟨[(K_Pssiq, false), (K_Pssiq, false)], [.bool], true, F_laws_eqLog N⟩ :=
  have E : Env Try.prog Γ_laws_eqLog := env_of tab trivial
  con_of (Pc := []) E mixed Try.func92 (by kernel_rfl) (by kernel_rfl) (by kernel_rfl) (by kernel_rfl) (fun A hA => trivial) (F_laws_eqLog_ok N)
theorem C_laws_eqLog : Contract Try.prog 92 S_laws_eqLog := Contract.less (fun N : Nat => F_laws_eqLog N) C_laws_eqLog_raw (fun d r h => ⟨0, (F_laws_eqLog_tot 0 d).trans h⟩)
theorem C_laws_eqConsole_raw (N : Nat) : Contract Try.prog 43 ⟨[(K_PPPiSPiiqqiiSiiqPssiqq, false), (K_PPPiSPiiqqiiSiiqPssiqq, false)], [.bool], true, F_laws_eqConsole N⟩ :=
  have E : Env Try.prog Γ_laws_eqConsole := env_of tab ⟨C_laws_eqWorkshop, ⟨C_laws_eqLog, trivial⟩⟩
  con_of (Pc := []) E mixed Try.func43 (by kernel_rfl) (by kernel_rfl) (by kernel_rfl) (by kernel_rfl) (fun A hA => trivial) (F_laws_eqConsole_ok N)
theorem C_laws_eqConsole : Contract Try.prog 43 S_laws_eqConsole := C_laws_eqConsole_raw 0
theorem C_laws_markIntA2S_raw (N : Nat) : Contract Try.prog 79 ⟨[(K_SPiiq, true), (I, false)], [I], true, F_laws_markIntA2S N⟩ :=
  have E : Env Try.prog Γ_laws_markIntA2S := env_of tab trivial
  con_of (Pc := [(0, ⟨laws_markIntA2S_l0_h, laws_markIntA2S_l0_o, laws_markIntA2S_l0 N N⟩)]) E mixed Try.func79 (by kernel_rfl) (by kernel_rfl) (by kernel_rfl) (by kernel_rfl) (fun A hA => ⟨pc_of (inner := [(2, ⟨laws_markIntA2S_l2_h, laws_markIntA2S_l2_o, laws_markIntA2S_l2 N N⟩)]) E mixed hA (by kernel_rfl) (by kernel_rfl) (by kernel_rfl) ⟨pc_of (inner := []) E mixed hA (by kernel_rfl) (by kernel_rfl) (by kernel_rfl) trivial (fun _ => rfl) (fun m d => (laws_markIntA2S_l2_ok N (laws_markIntA2S_l2 N m) d).symm) N, trivial⟩ (fun _ => rfl) (fun m d => (laws_markIntA2S_l0_ok N (laws_markIntA2S_l0 N m) d).symm) N, trivial⟩) (F_laws_markIntA2S_ok N)
theorem C_laws_markIntA2S : Contract Try.prog 79 S_laws_markIntA2S := Contract.less (fun N : Nat => F_laws_markIntA2S N) C_laws_markIntA2S_raw markIntA2S_lim
theorem C_laws_markGraph_raw (N : Nat) : Contract Try.prog 29 ⟨[(K_PiSPiiqq, true), (I, false)], [I], true, F_laws_markGraph N⟩ :=
  have E : Env Try.prog Γ_laws_markGraph := env_of tab ⟨C_laws_markIntA2S, trivial⟩
  con_of (Pc := []) E mixed Try.func29 (by kernel_rfl) (by kernel_rfl) (by kernel_rfl) (by kernel_rfl) (fun A hA => trivial) (F_laws_markGraph_ok N)
theorem C_laws_markGraph : Contract Try.prog 29 S_laws_markGraph := C_laws_markGraph_raw 0
theorem C_laws_markIntS_raw (N : Nat) : Contract Try.prog 54 ⟨[(K_Si, true), (I, false)], [I], true, F_laws_markIntS N⟩ :=
  have E : Env Try.prog Γ_laws_markIntS := env_of tab trivial
  con_of (Pc := [(0, ⟨laws_markIntS_l0_h, laws_markIntS_l0_o, laws_markIntS_l0 N N⟩)]) E mixed Try.func54 (by kernel_rfl) (by kernel_rfl) (by kernel_rfl) (by kernel_rfl) (fun A hA => ⟨pc_of (inner := []) E mixed hA (by kernel_rfl) (by kernel_rfl) (by kernel_rfl) trivial (fun _ => rfl) (fun m d => (laws_markIntS_l0_ok N (laws_markIntS_l0 N m) d).symm) N, trivial⟩) (F_laws_markIntS_ok N)
theorem C_laws_markIntS : Contract Try.prog 54 S_laws_markIntS := Contract.less (fun N : Nat => F_laws_markIntS N) C_laws_markIntS_raw markIntS_lim
theorem C_laws_markWorkshop_raw (N : Nat) : Contract Try.prog 30 ⟨[(K_PPiSPiiqqiiSiiq, true), (I, false)], [I], true, F_laws_markWorkshop N⟩ :=
  have E : Env Try.prog Γ_laws_markWorkshop := env_of tab ⟨C_laws_markGraph, ⟨C_laws_markIntS, trivial⟩⟩
  con_of (Pc := []) E mixed Try.func30 (by kernel_rfl) (by kernel_rfl) (by kernel_rfl) (by kernel_rfl) (fun A hA => trivial) (F_laws_markWorkshop_ok N)
theorem C_laws_markWorkshop : Contract Try.prog 30 S_laws_markWorkshop := C_laws_markWorkshop_raw 0
theorem C_laws_markConsole_raw (N : Nat) : Contract Try.prog 44 ⟨[(K_PPPiSPiiqqiiSiiqPssiqq, true), (I, false)], [I], true, F_laws_markConsole N⟩ :=
  have E : Env Try.prog Γ_laws_markConsole := env_of tab ⟨C_laws_markWorkshop, trivial⟩
  con_of (Pc := []) E mixed Try.func44 (by kernel_rfl) (by kernel_rfl) (by kernel_rfl) (by kernel_rfl) (fun A hA => trivial) (F_laws_markConsole_ok N)
theorem C_laws_markConsole : Contract Try.prog 44 S_laws_markConsole := C_laws_markConsole_raw 0
theorem C_laws_heldIntA2S_raw (N : Nat) : Contract Try.prog 98 ⟨[(K_SPiiq, false), (I, false)], [I], true, F_laws_heldIntA2S N⟩ :=
  have E : Env Try.prog Γ_laws_heldIntA2S := env_of tab trivial
  con_of (Pc := [(0, ⟨laws_heldIntA2S_l0_h, laws_heldIntA2S_l0_o, laws_heldIntA2S_l0 N N⟩)]) E mixed Try.func98 (by kernel_rfl) (by kernel_rfl) (by kernel_rfl) (by kernel_rfl) (fun A hA => ⟨pc_of (inner := [(2, ⟨laws_heldIntA2S_l2_h, laws_heldIntA2S_l2_o, laws_heldIntA2S_l2 N N⟩)]) E mixed hA (by kernel_rfl) (by kernel_rfl) (by kernel_rfl) ⟨pc_of (inner := []) E mixed hA (by kernel_rfl) (by kernel_rfl) (by kernel_rfl) trivial (fun _ => rfl) (fun m d => (laws_heldIntA2S_l2_ok N (laws_heldIntA2S_l2 N m) d).symm) N, trivial⟩ (fun _ => rfl) (fun m d => (laws_heldIntA2S_l0_ok N (laws_heldIntA2S_l0 N m) d).symm) N, trivial⟩) (F_laws_heldIntA2S_ok N)
theorem C_laws_heldIntA2S : Contract Try.prog 98 S_laws_heldIntA2S := Contract.less (fun N : Nat => F_laws_heldIntA2S N) C_laws_heldIntA2S_raw heldIntA2S_lim
theorem C_laws_heldGraph_raw (N : Nat) : Contract Try.prog 48 ⟨[(K_PiSPiiqq, false), (I, false)], [I], true, F_laws_heldGraph N⟩ :=
  have E : Env Try.prog Γ_laws_heldGraph := env_of tab ⟨C_laws_heldIntA2S, trivial⟩
  con_of (Pc := []) E mixed Try.func48 (by kernel_rfl) (by kernel_rfl) (by kernel_rfl) (by kernel_rfl) (fun A hA => trivial) (F_laws_heldGraph_ok N)
theorem C_laws_heldGraph : Contract Try.prog 48 S_laws_heldGraph := C_laws_heldGraph_raw 0
theorem C_laws_heldIntS_raw (N : Nat) : Contract Try.prog 55 ⟨[(K_Si, false), (I, false)], [I], true, F_laws_heldIntS N⟩ :=
  have E : Env Try.prog Γ_laws_heldIntS := env_of tab trivial
  con_of (Pc := [(0, ⟨laws_heldIntS_l0_h, laws_heldIntS_l0_o, laws_heldIntS_l0 N N⟩)]) E mixed Try.func55 (by kernel_rfl) (by kernel_rfl) (by kernel_rfl) (by kernel_rfl) (fun A hA => ⟨pc_of (inner := []) E mixed hA (by kernel_rfl) (by kernel_rfl) (by kernel_rfl) trivial (fun _ => rfl) (fun m d => (laws_heldIntS_l0_ok N (laws_heldIntS_l0 N m) d).symm) N, trivial⟩) (F_laws_heldIntS_ok N)
theorem C_laws_heldIntS : Contract Try.prog 55 S_laws_heldIntS := Contract.less (fun N : Nat => F_laws_heldIntS N) C_laws_heldIntS_raw heldIntS_lim
theorem C_laws_heldWorkshop_raw (N : Nat) : Contract Try.prog 31 ⟨[(K_PPiSPiiqqiiSiiq, false), (I, false)], [I], true, F_laws_heldWorkshop N⟩ :=
  have E : Env Try.prog Γ_laws_heldWorkshop := env_of tab ⟨C_laws_heldGraph, ⟨C_laws_heldIntS, trivial⟩⟩
  con_of (Pc := []) E mixed Try.func31 (by kernel_rfl) (by kernel_rfl) (by kernel_rfl) (by kernel_rfl) (fun A hA => trivial) (F_laws_heldWorkshop_ok N)
theorem C_laws_heldWorkshop : Contract Try.prog 31 S_laws_heldWorkshop := C_laws_heldWorkshop_raw 0
theorem C_laws_heldConsole_raw (N : Nat) : Contract Try.prog 45 ⟨[(K_PPPiSPiiqqiiSiiqPssiqq, false), (I, false)], [I], true, F_laws_heldConsole N⟩ :=
  have E : Env Try.prog Γ_laws_heldConsole := env_of tab ⟨C_laws_heldWorkshop, trivial⟩
  con_of (Pc := []) E mixed Try.func45 (by kernel_rfl) (by kernel_rfl) (by kernel_rfl) (by kernel_rfl) (fun A hA => trivial) (F_laws_heldConsole_ok N)
theorem C_laws_heldConsole : Contract Try.prog 45 S_laws_heldConsole := C_laws_heldConsole_raw 0
theorem C_laws_FnExactNewConsole_raw (N : Nat) : Contract Try.prog 8 ⟨[(K_PPiSPiiqqiiSiiq, false)], [.bool], true, F_laws_FnExactNewConsole N⟩ :=
  have E : Env Try.prog Γ_laws_FnExactNewConsole := env_of tab ⟨C_laws_szWorkshop, ⟨C_laws_toWorkshop, ⟨C_laws_eqWorkshop, ⟨C_laws_markWorkshop, ⟨C_spec_NewConsole, ⟨C_impl_NewConsole, ⟨C_laws_eqConsole, ⟨C_laws_markConsole, ⟨C_laws_heldConsole, trivial⟩⟩⟩⟩⟩⟩⟩⟩⟩
  con_of (Pc := []) E mixed Try.func8 (by kernel_rfl) (by kernel_rfl) (by kernel_rfl) (by kernel_rfl) (fun A hA => trivial) (F_laws_FnExactNewConsole_ok N)
theorem C_laws_FnExactNewConsole : Contract Try.prog 8 S_laws_FnExactNewConsole := C_laws_FnExactNewConsole_raw 0
end Go.V.W
