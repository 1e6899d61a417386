/- The scanning loops, told plainly. -/
import Derived.Test.YtmeglfoapdkhdaaVS1
import Derived.IntWalk
set_option linter.unusedVariables false
set_option linter.unusedSimpArgs false
namespace Go.V.W
open Go.Proofs

theorem bytes_drop (s : ByteArray) (i : Nat) (h : i < s.size) : ∃ b : UInt8, byteAt s i = b.toNat ∧ s.data.toList.drop i = b :: s.data.toList.drop (i + 1) := by
  have h' : i < s.data.toList.length := by simpa using h
  have h2 : i < s.data.size := h
  refine ⟨s.data[i], ?_, ?_⟩
  · unfold byteAt Array.getD
    rw [dif_pos h2]
    rfl
  · rw [List.drop_eq_getElem_cons h']
    rfl
theorem drop_size (s : ByteArray) : s.data.toList.drop s.size = [] := List.drop_of_length_le (by simp)
theorem wrap_small (n : Int) (h0 : 0 ≤ n) (h1 : n ≤ 9223372036854775807) : IntKind.wrap .i64 n = n := Go.IntWalk.i64_in n (by omega)

theorem isPrinted_l0 (N : Nat) (s w : ByteArray) (hs : s.size ≤ maxLen) : ∀ (n i : Nat), s.size ≤ i + n → i ≤ s.size → impl_isPrinted_l0 N (n + 1) (s, w, (i : Int), ()) =
    if (s.data.toList.drop i).all printed1 = true then some (.inr (.inl (s, w, ()))) else some (.inl (false, ())) := by
  intro n
  induction n with
  | zero =>
    intro i h1 h2
    have : i = s.size := by omega
    subst this
    rw [drop_size]
    simp [impl_isPrinted_l0, impl_isPrinted_l0_r]
  | succ n ih =>
    intro i h1 h2
    by_cases hi : i < s.size
    · have hix : idxIn (i : Int) s.size = true := by simp [idxIn]; omega
      have hw : IntKind.wrap .i64 ((i : Int) + 1) = ((i + 1 : Nat) : Int) := by rw [wrap_small _ (by omega) (by unfold maxLen at hs; omega)]; rfl
      have ih' := ih (i + 1) (by omega) (by omega)
      obtain ⟨b, hb, hd⟩ := bytes_drop s i hi
      rw [hd]
      show impl_isPrinted_l0_r N (impl_isPrinted_l0 N (n + 1)) (s, w, (i : Int), ()) = _
      unfold impl_isPrinted_l0_r
      have hlt : decide ((i : Int) < (s.size : Int)) = true := by simp; omega
      simp only [Int.toNat_natCast, hix, if_true, hw, ih', List.all_cons, printed1, hlt, hb]
      by_cases c1 : (b.toNat : Int) < 32
      · have : ¬ 32 ≤ b.toNat := by omega
        simp [c1, this]
      · by_cases c2 : (b.toNat : Int) > 126
        · have : ¬ b.toNat ≤ 126 := by omega
          simp [c1, c2, this]
        · have e1 : 32 ≤ b.toNat := by omega
          have e2 : b.toNat ≤ 126 := by omega
          simp [c1, c2, e1, e2]
    · have : i = s.size := by omega
      subst this
      rw [drop_size]
      simp [impl_isPrinted_l0, impl_isPrinted_l0_r]

theorem l12Bytes_l0 (N : Nat) (s : ByteArray) (m : Int) (hs : s.size ≤ maxLen) : ∀ (n i : Nat), s.size ≤ i + n → i ≤ s.size → spec_l12Bytes_l0 N (n + 1) (s, m, (i : Int), ()) =
    if (s.data.toList.drop i).all (fun b => printed1 b && !(b.toNat == 35)) = true then some (.inr (.inl (s, m, ()))) else some (.inl (false, ())) := by
  intro n
  induction n with
  | zero =>
    intro i h1 h2
    have : i = s.size := by omega
    subst this
    rw [drop_size]
    simp [spec_l12Bytes_l0, spec_l12Bytes_l0_r]
  | succ n ih =>
    intro i h1 h2
    by_cases hi : i < s.size
    · have hix : idxIn (i : Int) s.size = true := by simp [idxIn]; omega
      have hw : IntKind.wrap .i64 ((i : Int) + 1) = ((i + 1 : Nat) : Int) := by rw [wrap_small _ (by omega) (by unfold maxLen at hs; omega)]; rfl
      have ih' := ih (i + 1) (by omega) (by omega)
      obtain ⟨b, hb, hd⟩ := bytes_drop s i hi
      have hwb : IntKind.wrap .i64 (b.toNat : Int) = (b.toNat : Int) := wrap_small _ (by omega) (by have := b.toNat_lt; omega)
      rw [hd]
      show spec_l12Bytes_l0_r N (spec_l12Bytes_l0 N (n + 1)) (s, m, (i : Int), ()) = _
      unfold spec_l12Bytes_l0_r g_spec_l1In
      have hlt : decide ((i : Int) < (s.size : Int)) = true := by simp; omega
      simp only [Int.toNat_natCast, hix, if_true, hw, ih', List.all_cons, printed1, hlt, hb, hwb]
      by_cases c1 : 32 ≤ b.toNat
      · by_cases c2 : b.toNat ≤ 126
        · have e1 : (32 : Int) ≤ (b.toNat : Int) := by omega
          have e2 : (b.toNat : Int) ≤ 126 := by omega
          by_cases c3 : b.toNat = 35
          · simp [c3]
          · have c3' : ¬ (b.toNat : Int) = 35 := by omega
            simp [c1, c2, c3, e1, e2, c3']
        · have e1 : (32 : Int) ≤ (b.toNat : Int) := by omega
          have e2 : ¬ (b.toNat : Int) ≤ 126 := by omega
          simp [c2, e1, e2]
      · have e1 : ¬ (32 : Int) ≤ (b.toNat : Int) := by omega
        simp [c1, e1]
    · have : i = s.size := by omega
      subst this
      rw [drop_size]
      simp [spec_l12Bytes_l0, spec_l12Bytes_l0_r]

theorem l1Stands_l0 (N : Nat) (s : ByteArray) (m : Int) (hs : s.size ≤ maxLen) : ∀ (n i : Nat), s.size ≤ i + n → i ≤ s.size → spec_l1Stands_l0 N (n + 1) (s, m, (i : Int), ()) =
    if (s.data.toList.drop i).any (fun b => ((b.toNat : Int) == m)) = true then some (.inl (true, ())) else some (.inr (.inl ())) := by
  intro n
  induction n with
  | zero =>
    intro i h1 h2
    have : i = s.size := by omega
    subst this
    rw [drop_size]
    simp [spec_l1Stands_l0, spec_l1Stands_l0_r]
  | succ n ih =>
    intro i h1 h2
    by_cases hi : i < s.size
    · have hix : idxIn (i : Int) s.size = true := by simp [idxIn]; omega
      have hw : IntKind.wrap .i64 ((i : Int) + 1) = ((i + 1 : Nat) : Int) := by rw [wrap_small _ (by omega) (by unfold maxLen at hs; omega)]; rfl
      have ih' := ih (i + 1) (by omega) (by omega)
      obtain ⟨b, hb, hd⟩ := bytes_drop s i hi
      rw [hd]
      show spec_l1Stands_l0_r N (spec_l1Stands_l0 N (n + 1)) (s, m, (i : Int), ()) = _
      unfold spec_l1Stands_l0_r
      have hlt : decide ((i : Int) < (s.size : Int)) = true := by simp; omega
      simp only [Int.toNat_natCast, hix, if_true, hw, ih', List.any_cons, hlt, hb]
      by_cases c1 : (b.toNat : Int) = m
      · simp [c1]
      · have c1' : ((b.toNat : Int) == m) = false := by simpa using c1
        simp [c1']
    · have : i = s.size := by omega
      subst this
      rw [drop_size]
      simp [spec_l1Stands_l0, spec_l1Stands_l0_r]

theorem l12Bytes_lim (d) (r) (h : G_l12Bytes d = some r) : ∃ N, F_spec_l12Bytes N d = some r := by
  obtain ⟨s, m, u⟩ := d
  unfold G_l12Bytes at h
  split at h
  · rename_i hs
    have hs : s.size ≤ maxLen := of_decide_eq_true hs
    have h := Option.some.inj h
    refine ⟨s.size + 1, ?_⟩
    have := l12Bytes_l0 (s.size + 1) s m hs s.size 0 (by omega) (by omega)
    unfold F_spec_l12Bytes
    simp only [Int.natCast_zero, List.drop_zero] at this
    simp only
    rw [this, ← h]
    by_cases hc : s.data.toList.all (fun b => printed1 b && !(b.toNat == 35)) = true
    · simp [hc]
    · simp only [Bool.not_eq_true] at hc
      simp [hc]
  · cases h
theorem l1Stands_lim (d) (r) (h : G_l1Stands d = some r) : ∃ N, F_spec_l1Stands N d = some r := by
  obtain ⟨s, m, u⟩ := d
  unfold G_l1Stands at h
  split at h
  · rename_i hs
    have hs : s.size ≤ maxLen := of_decide_eq_true hs
    have h := Option.some.inj h
    refine ⟨s.size + 1, ?_⟩
    have := l1Stands_l0 (s.size + 1) s m hs s.size 0 (by omega) (by omega)
    unfold F_spec_l1Stands
    simp only [Int.natCast_zero, List.drop_zero] at this
    simp only
    rw [this, ← h]
    by_cases hc : s.data.toList.any (fun b => ((b.toNat : Int) == m)) = true
    · simp [hc]
    · simp only [Bool.not_eq_true] at hc
      simp [hc]
  · cases h
theorem ascii_of_printed {s : ByteArray} (h : printedB s = true) : asciiB s = true := by
  unfold printedB at h
  unfold asciiB
  rw [List.all_eq_true] at h ⊢
  intro b hb
  have := h b hb
  simp only [printed1, Bool.and_eq_true, decide_eq_true_eq] at this ⊢
  omega
theorem isPrinted_lim (d) (r) (h : G_isPrinted d = some r) : ∃ N, F_impl_isPrinted N d = some r := by
  obtain ⟨s, w, u⟩ := d
  unfold G_isPrinted at h
  split at h
  · rename_i hc
    simp only [Bool.and_eq_true] at hc
    obtain ⟨⟨h1, h2⟩, h3⟩ := hc
    have hs : s.size ≤ maxLen := by have := of_decide_eq_true h2; unfold maxLen; omega
    have h := Option.some.inj h
    refine ⟨s.size + 1, ?_⟩
    have := isPrinted_l0 (s.size + 1) s w hs s.size 0 (by omega) (by omega)
    unfold F_impl_isPrinted
    simp only [Int.natCast_zero, List.drop_zero] at this
    simp only
    rw [this, ← h]
    by_cases hp : s.data.toList.all printed1 = true
    · have ha := ascii_of_printed (s := s) hp
      have hp' : printedB s = true := hp
      simp [hp, hp', G_containsAny, ha, h1, h2, h3]
    · have hp' : printedB s = false := by simpa [printedB] using hp
      simp only [Bool.not_eq_true] at hp
      simp [hp, hp']
  · cases h
theorem containsAny_any (c : List UInt8) : ∀ l : List UInt8, Lib.containsAny l c = l.any fun b => c.contains b := by
  intro l
  induction l with
  | nil => simp [Lib.containsAny, Lib.indexAny]
  | cons b l ih =>
    unfold Lib.containsAny at ih ⊢
    unfold Lib.indexAny
    rw [List.any_cons, ← ih]
    by_cases hb : c.contains b = true
    · have hb' : b ∈ c := by simpa using hb
      simp [hb']
    · simp only [Bool.not_eq_true] at hb
      rw [hb]
      simp only [Bool.false_eq_true, if_false, Bool.false_or]
      have := Lib.indexAny_ge c l
      by_cases he : Lib.indexAny l c = -1
      · simp [he]
      · have e1 : (Lib.indexAny l c == -1) = false := by simpa using he
        rw [e1]
        simp only [Bool.false_eq_true, if_false]
        have e2 : (0 ≤ Lib.indexAny l c) := by omega
        have e3 : (0 ≤ Lib.indexAny l c + 1) := by omega
        simp [e2, e3]

theorem sz_neg (a b : ByteArray) (ha : a.size ≤ maxLen) (hb : b.size ≤ maxLen) : (g_laws_szLogRecord ((a, b, ()), (1048576 : Int), ())).1 < 0 ∨ (a.size ≤ 1048576 ∧ b.size ≤ 1048576) := by
  unfold maxLen at ha hb
  unfold g_laws_szLogRecord
  have w1 : IntKind.wrap .i64 ((1048576 : Int) - (a.size : Int)) = (1048576 : Int) - (a.size : Int) := Go.IntWalk.i64_in _ (by omega)
  simp only [w1]
  by_cases c1 : (1048576 : Int) - (a.size : Int) < 0
  · left; simp [c1]
  · have w2 : IntKind.wrap .i64 ((1048576 : Int) - (a.size : Int) - (b.size : Int)) = (1048576 : Int) - (a.size : Int) - (b.size : Int) := Go.IntWalk.i64_in _ (by omega)
    simp only [w2, c1, decide_false, Bool.false_eq_true, if_false]
    by_cases c2 : (1048576 : Int) - (a.size : Int) - (b.size : Int) < 0
    · left; simp [c2]
    · right; omega
end Go.V.W
