/- Loops that count up, told plainly. -/
import Derived.Test.YtmeglfoapdkhdaaVGen
import Derived.IntWalk
set_option linter.unusedVariables false
namespace Go.V

/-- A counted walk: m rounds from i on. -/
def go {α β : Type} (step : Nat → α → β ⊕ α) (fin : α → β) : Nat → Nat → α → β
  | 0, _, a => fin a
  | m + 1, i, a => match step i a with
    | .inl o => o
    | .inr a' => go step fin m (i + 1) a'
/-- The same, along a list. -/
def goL {α β γ : Type} (step : γ → α → β ⊕ α) (fin : α → β) : List γ → α → β
  | [], a => fin a
  | x :: l, a => match step x a with
    | .inl o => o
    | .inr a' => goL step fin l a'

/-- A loop whose round counts up. -/
theorem loop_go {H O α : Type} {L : Nat → H → Option O} {r : (H → Option O) → H → Option O} (hL : ∀ k d, L (k + 1) d = r (L k) d) {n : Nat} {mk : Nat → α → H} {Inv : Nat → α → Prop} {step : Nat → α → O ⊕ α} {fin : α → O}
    (hr : ∀ back i a, i < n → Inv i a → r back (mk i a) = match step i a with
      | .inl o => some o
      | .inr a' => back (mk (i + 1) a'))
    (hi : ∀ i a a', i < n → Inv i a → step i a = .inr a' → Inv (i + 1) a') (hf : ∀ back a, Inv n a → r back (mk n a) = some (fin a)) :
    ∀ k i a, i ≤ n → n ≤ i + k → Inv i a → L (k + 1) (mk i a) = some (go step fin (n - i) i a) := by
  intro k
  induction k with
  | zero =>
    intro i a h1 h2 hI
    have e : i = n := by omega
    subst e
    rw [hL, hf _ _ hI, Nat.sub_self]
    rfl
  | succ k ih =>
    intro i a h1 h2 hI
    by_cases h : i < n
    · rw [hL, hr _ i a h hI, show n - i = (n - (i + 1)) + 1 by omega]
      unfold go
      cases hs : step i a with
      | inl o => rfl
      | inr a' => exact ih (i + 1) a' (by omega) (by omega) (hi i a a' h hI hs)
    · have e : i = n := by omega
      subst e
      rw [hL, hf _ _ hI, Nat.sub_self]
      rfl
theorem go_list {α β γ : Type} {step : Nat → α → β ⊕ α} {stepL : γ → α → β ⊕ α} {fin : α → β} (l : List γ) (h : ∀ i (hi : i < l.length) a, step i a = stepL (l.get ⟨i, hi⟩) a) : ∀ m i a, i + m = l.length → go step fin m i a = goL stepL fin (l.drop i) a := by
  intro m
  induction m with
  | zero => intro i a hm; rw [List.drop_of_length_le (by omega)]; rfl
  | succ m ih =>
    intro i a hm
    have hi : i < l.length := by omega
    rw [List.drop_eq_getElem_cons hi]
    unfold go goL
    rw [h i hi a]
    have : l.get ⟨i, hi⟩ = l[i] := rfl
    rw [this]
    cases stepL l[i] a with
    | inl o => rfl
    | inr a' => exact ih (i + 1) a' (by omega)
theorem idxIn_nat {i n : Nat} (h : i < n) : idxIn (i : Int) n = true := by simp [idxIn]; omega
theorem wrap_up {i n : Nat} (h : i < n) (hn : n ≤ maxLen) : IntKind.wrap .i64 ((i : Int) + 1) = ((i + 1 : Nat) : Int) := by
  unfold maxLen at hn
  rw [Go.IntWalk.i64_in _ (by omega)]
  rfl
theorem wrap_in (n : Int) (h0 : -9223372036854775808 ≤ n) (h1 : n ≤ 9223372036854775807) : IntKind.wrap .i64 n = n := Go.IntWalk.i64_in n ⟨h0, h1⟩
theorem at_get {e : Kd} {l : List e.den} {i : Nat} (h : i < l.length) : at_ e l i = l.get ⟨i, h⟩ := at_eq h
end Go.V
