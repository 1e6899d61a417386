/- The printed functions told plainly: one text out of several. -/
import Derived.Test.YtmeglfoapdkhdaaVS1
import Derived.IntWalk
import Derived.Test.YtmeglfoapdkhdaaVRow
import Derived.Lib.Builder
/- The scanning loops, told plainly. -/
set_option linter.unusedVariables false
set_option linter.unusedSimpArgs false
namespace Go.V.W
open Go.Proofs

theorem bytes_drop (s : ByteArray) (i : Nat) (h : i < s.size) : ∃ b : UInt8, byteAt s i = b.toNat ∧ s.data.toList.drop i = b :: s.data.toList.drop (i + 1) := by
  have h' : i < s.data.toList.length := by simpa using h
  have h2 : i < s.data.size := h
  refine ⟨s.data[i], ?_, ?_⟩
  · unfold byteAt Array.getD
    rw [dif_pos h2]
    rfl
  · rw [List.drop_eq_getElem_cons h']
    rfl
theorem drop_size (s : ByteArray) : s.data.toList.drop s.size = [] := List.drop_of_length_le (by simp)
theorem wrap_small (n : Int) (h0 : 0 ≤ n) (h1 : n ≤ 9223372036854775807) : IntKind.wrap .i64 n = n := Go.IntWalk.i64_in n (by omega)

theorem isPrinted_l0 (N : Nat) (s w : ByteArray) (hs : s.size ≤ maxLen) : ∀ (n i : Nat), s.size ≤ i + n → i ≤ s.size → impl_isPrinted_l0 N (n + 1) (s, w, (i : Int), ()) =
    if (s.data.toList.drop i).all printed1 = true then some (.inr (.inl (s, w, ()))) else some (.inl (false, ())) := by
  intro n
  induction n with
  | zero =>
    intro i h1 h2
    have : i = s.size := by omega
    subst this
    rw [drop_size]
    simp [impl_isPrinted_l0, impl_isPrinted_l0_r]
  | succ n ih =>
    intro i h1 h2
    by_cases hi : i < s.size
    · have hix : idxIn (i : Int) s.size = true := by simp [idxIn]; omega
      have hw : IntKind.wrap .i64 ((i : Int) + 1) = ((i + 1 : Nat) : Int) := by rw [wrap_small _ (by omega) (by unfold maxLen at hs; omega)]; rfl
      have ih' := ih (i + 1) (by omega) (by omega)
      obtain ⟨b, hb, hd⟩ := bytes_drop s i hi
      rw [hd]
      show impl_isPrinted_l0_r N (impl_isPrinted_l0 N (n + 1)) (s, w, (i : Int), ()) = _
      unfold impl_isPrinted_l0_r
      have hlt : decide ((i : Int) < (s.size : Int)) = true := by simp; omega
      simp only [Int.toNat_natCast, hix, if_true, hw, ih', List.all_cons, printed1, hlt, hb]
      by_cases c1 : (b.toNat : Int) < 32
      · have : ¬ 32 ≤ b.toNat := by omega
        simp [c1, this]
      · by_cases c2 : (b.toNat : Int) > 126
        · have : ¬ b.toNat ≤ 126 := by omega
          simp [c1, c2, this]
        · have e1 : 32 ≤ b.toNat := by omega
          have e2 : b.toNat ≤ 126 := by omega
          simp [c1, c2, e1, e2]
    · have : i = s.size := by omega
      subst this
      rw [drop_size]
      simp [impl_isPrinted_l0, impl_isPrinted_l0_r]

theorem l12Bytes_l0 (N : Nat) (s : ByteArray) (m : Int) (hs : s.size ≤ maxLen) : ∀ (n i : Nat), s.size ≤ i + n → i ≤ s.size → spec_l12Bytes_l0 N (n + 1) (s, m, (i : Int), ()) =
    if (s.data.toList.drop i).all (fun b => printed1 b && !(b.toNat == 35)) = true then some (.inr (.inl (s, m, ()))) else some (.inl (false, ())) := by
  intro n
  induction n with
  | zero =>
    intro i h1 h2
    have : i = s.size := by omega
    subst this
    rw [drop_size]
    simp [spec_l12Bytes_l0, spec_l12Bytes_l0_r]
  | succ n ih =>
    intro i h1 h2
    by_cases hi : i < s.size
    · have hix : idxIn (i : Int) s.size = true := by simp [idxIn]; omega
      have hw : IntKind.wrap .i64 ((i : Int) + 1) = ((i + 1 : Nat) : Int) := by rw [wrap_small _ (by omega) (by unfold maxLen at hs; omega)]; rfl
      have ih' := ih (i + 1) (by omega) (by omega)
      obtain ⟨b, hb, hd⟩ := bytes_drop s i hi
      have hwb : IntKind.wrap .i64 (b.toNat : Int) = (b.toNat : Int) := wrap_small _ (by omega) (by have := b.toNat_lt; omega)
      rw [hd]
      show spec_l12Bytes_l0_r N (spec_l12Bytes_l0 N (n + 1)) (s, m, (i : Int), ()) = _
      unfold spec_l12Bytes_l0_r g_spec_l1In
      have hlt : decide ((i : Int) < (s.size : Int)) = true := by simp; omega
      simp only [Int.toNat_natCast, hix, if_true, hw, ih', List.all_cons, printed1, hlt, hb, hwb]
      by_cases c1 : 32 ≤ b.toNat
      · by_cases c2 : b.toNat ≤ 126
        · have e1 : (32 : Int) ≤ (b.toNat : Int) := by omega
          have e2 : (b.toNat : Int) ≤ 126 := by omega
          by_cases c3 : b.toNat = 35
          · simp [c3]
          · have c3' : ¬ (b.toNat : Int) = 35 := by omega
            simp [c1, c2, c3, e1, e2, c3']
        · have e1 : (32 : Int) ≤ (b.toNat : Int) := by omega
          have e2 : ¬ (b.toNat : Int) ≤ 126 := by omega
          simp [c2, e1, e2]
      · have e1 : ¬ (32 : Int) ≤ (b.toNat : Int) := by omega
        simp [c1, e1]
    · have : i = s.size := by omega
      subst this
      rw [drop_size]
      simp [spec_l12Bytes_l0, spec_l12Bytes_l0_r]

theorem l1Stands_l0 (N : Nat) (s : ByteArray) (m : Int) (hs : s.size ≤ maxLen) : ∀ (n i : Nat), s.size ≤ i + n → i ≤ s.size → spec_l1Stands_l0 N (n + 1) (s, m, (i : Int), ()) =
    if (s.data.toList.drop i).any (fun b => ((b.toNat : Int) == m)) = true then some (.inl (true, ())) else some (.inr (.inl ())) := by
  intro n
  induction n with
  | zero =>
    intro i h1 h2
    have : i = s.size := by omega
    subst this
    rw [drop_size]
    simp [spec_l1Stands_l0, spec_l1Stands_l0_r]
  | succ n ih =>
    intro i h1 h2
    by_cases hi : i < s.size
    · have hix : idxIn (i : Int) s.size = true := by simp [idxIn]; omega
      have hw : IntKind.wrap .i64 ((i : Int) + 1) = ((i + 1 : Nat) : Int) := by rw [wrap_small _ (by omega) (by unfold maxLen at hs; omega)]; rfl
      have ih' := ih (i + 1) (by omega) (by omega)
      obtain ⟨b, hb, hd⟩ := bytes_drop s i hi
      rw [hd]
      show spec_l1Stands_l0_r N (spec_l1Stands_l0 N (n + 1)) (s, m, (i : Int), ()) = _
      unfold spec_l1Stands_l0_r
      have hlt : decide ((i : Int) < (s.size : Int)) = true := by simp; omega
      simp only [Int.toNat_natCast, hix, if_true, hw, ih', List.any_cons, hlt, hb]
      by_cases c1 : (b.toNat : Int) = m
      · simp [c1]
      · have c1' : ((b.toNat : Int) == m) = false := by simpa using c1
        simp [c1']
    · have : i = s.size := by omega
      subst this
      rw [drop_size]
      simp [spec_l1Stands_l0, spec_l1Stands_l0_r]

theorem l12Bytes_lim (d) (r) (h : G_l12Bytes d = some r) : ∃ N, F_spec_l12Bytes N d = some r := by
  obtain ⟨s, m, u⟩ := d
  unfold G_l12Bytes at h
  split at h
  · rename_i hs
    have hs : s.size ≤ maxLen := of_decide_eq_true hs
    have h := Option.some.inj h
    refine ⟨s.size + 1, ?_⟩
    have := l12Bytes_l0 (s.size + 1) s m hs s.size 0 (by omega) (by omega)
    unfold F_spec_l12Bytes
    simp only [Int.natCast_zero, List.drop_zero] at this
    simp only
    rw [this, ← h]
    by_cases hc : s.data.toList.all (fun b => printed1 b && !(b.toNat == 35)) = true
    · simp [hc]
    · simp only [Bool.not_eq_true] at hc
      simp [hc]
  · cases h
theorem l1Stands_lim (d) (r) (h : G_l1Stands d = some r) : ∃ N, F_spec_l1Stands N d = some r := by
  obtain ⟨s, m, u⟩ := d
  unfold G_l1Stands at h
  split at h
  · rename_i hs
    have hs : s.size ≤ maxLen := of_decide_eq_true hs
    have h := Option.some.inj h
    refine ⟨s.size + 1, ?_⟩
    have := l1Stands_l0 (s.size + 1) s m hs s.size 0 (by omega) (by omega)
    unfold F_spec_l1Stands
    simp only [Int.natCast_zero, List.drop_zero] at this
    simp only
    rw [this, ← h]
    by_cases hc : s.data.toList.any (fun b => ((b.toNat : Int) == m)) = true
    · simp [hc]
    · simp only [Bool.not_eq_true] at hc
      simp [hc]
  · cases h
theorem ascii_of_printed {s : ByteArray} (h : printedB s = true) : asciiB s = true := by
  unfold printedB at h
  unfold asciiB
  rw [List.all_eq_true] at h ⊢
  intro b hb
  have := h b hb
  simp only [printed1, Bool.and_eq_true, decide_eq_true_eq] at this ⊢
  omega
theorem isPrinted_lim (d) (r) (h : G_isPrinted d = some r) : ∃ N, F_impl_isPrinted N d = some r := by
  obtain ⟨s, w, u⟩ := d
  unfold G_isPrinted at h
  split at h
  · rename_i hc
    simp only [Bool.and_eq_true] at hc
    obtain ⟨⟨h1, h2⟩, h3⟩ := hc
    have hs : s.size ≤ maxLen := by have := of_decide_eq_true h2; unfold maxLen; omega
    have h := Option.some.inj h
    refine ⟨s.size + 1, ?_⟩
    have := isPrinted_l0 (s.size + 1) s w hs s.size 0 (by omega) (by omega)
    unfold F_impl_isPrinted
    simp only [Int.natCast_zero, List.drop_zero] at this
    simp only
    rw [this, ← h]
    by_cases hp : s.data.toList.all printed1 = true
    · have ha := ascii_of_printed (s := s) hp
      have hp' : printedB s = true := hp
      simp [hp, hp', G_containsAny, ha, h1, h2, h3]
    · have hp' : printedB s = false := by simpa [printedB] using hp
      simp only [Bool.not_eq_true] at hp
      simp [hp, hp']
  · cases h
theorem containsAny_any (c : List UInt8) : ∀ l : List UInt8, Lib.containsAny l c = l.any fun b => c.contains b := by
  intro l
  induction l with
  | nil => simp [Lib.containsAny, Lib.indexAny]
  | cons b l ih =>
    unfold Lib.containsAny at ih ⊢
    unfold Lib.indexAny
    rw [List.any_cons, ← ih]
    by_cases hb : c.contains b = true
    · have hb' : b ∈ c := by simpa using hb
      simp [hb']
    · simp only [Bool.not_eq_true] at hb
      rw [hb]
      simp only [Bool.false_eq_true, if_false, Bool.false_or]
      have := Lib.indexAny_ge c l
      by_cases he : Lib.indexAny l c = -1
      · simp [he]
      · have e1 : (Lib.indexAny l c == -1) = false := by simpa using he
        rw [e1]
        simp only [Bool.false_eq_true, if_false]
        have e2 : (0 ≤ Lib.indexAny l c) := by omega
        have e3 : (0 ≤ Lib.indexAny l c + 1) := by omega
        simp [e2, e3]

theorem sz_neg (a b : ByteArray) (ha : a.size ≤ maxLen) (hb : b.size ≤ maxLen) : (g_laws_szLogRecord ((a, b, ()), (1048576 : Int), ())).1 < 0 ∨ (a.size ≤ 1048576 ∧ b.size ≤ 1048576) := by
  unfold maxLen at ha hb
  unfold g_laws_szLogRecord
  have w1 : IntKind.wrap .i64 ((1048576 : Int) - (a.size : Int)) = (1048576 : Int) - (a.size : Int) := Go.IntWalk.i64_in _ (by omega)
  simp only [w1]
  by_cases c1 : (1048576 : Int) - (a.size : Int) < 0
  · left; simp [c1]
  · have w2 : IntKind.wrap .i64 ((1048576 : Int) - (a.size : Int) - (b.size : Int)) = (1048576 : Int) - (a.size : Int) - (b.size : Int) := Go.IntWalk.i64_in _ (by omega)
    simp only [w2, c1, decide_false, Bool.false_eq_true, if_false]
    by_cases c2 : (1048576 : Int) - (a.size : Int) - (b.size : Int) < 0
    · left; simp [c2]
    · right; omega
end Go.V.W

/- The law FnExactIsValidRecord, on plain data. -/
set_option linter.unusedVariables false
set_option linter.unusedSimpArgs false
namespace Go.V.W
open Go.Proofs

def specB (a b : ByteArray) : Bool := !seq_ a (⟨#[]⟩ : ByteArray) && ((a.data.toList.all (fun b => printed1 b && !(b.toNat == 35)) && decide ((a.size : Int) ≤ 160)) && (!(a.data.toList.any (fun b => ((b.toNat : Int) == 64))) && (b.data.toList.all (fun b => printed1 b && !(b.toNat == 35)) && decide ((b.size : Int) ≤ 200))))
def implB (a b : ByteArray) : Bool := ((decide ((a.size : Int) ≥ 1) && decide ((a.size : Int) ≤ 160)) && (printedB a && !Lib.containsAny a.data.toList [35, 64])) && (decide ((b.size : Int) ≤ 200) && (printedB b && !Lib.containsAny b.data.toList [35]))

theorem spec_eq (a b : ByteArray) (ha : a.size ≤ maxLen) (hb : b.size ≤ maxLen) : F_spec_IsValidRecord 0 ((a, b, ()), ()) = some (specB a b, ()) := by
  have oa : okS a = true := decide_eq_true ha
  have ob : okS b = true := decide_eq_true hb
  unfold F_spec_IsValidRecord F_spec_l12Record specB
  simp only [G_l12Bytes, G_l1Stands, oa, ob, if_true, Option.bind_some]
  cases seq_ a (⟨#[]⟩ : ByteArray) <;> simp only [Bool.not_true, Bool.not_false, Bool.false_eq_true, if_false, if_true, Option.bind_some, Bool.false_and, Bool.true_and]
  cases (a.data.toList.all (fun b => printed1 b && !(b.toNat == 35)) && decide ((a.size : Int) ≤ 160)) <;> simp only [Bool.false_eq_true, if_false, if_true, Option.bind_some, Bool.false_and, Bool.true_and]
  cases (a.data.toList.any (fun b => ((b.toNat : Int) == 64))) <;> simp only [Bool.not_true, Bool.not_false, Bool.false_eq_true, if_false, if_true, Option.bind_some, Bool.false_and, Bool.true_and]
theorem impl_eq (a b : ByteArray) (ha : a.size ≤ 1048576) (hb : b.size ≤ 1048576) : F_impl_IsValidRecord 0 ((a, b, ()), ()) = some (implB a b, ()) := by
  have oa : smallB a = true := by unfold smallB; simp; omega
  have ob : smallB b = true := by unfold smallB; simp; omega
  have k1 : asciiB (⟨#[35, 64]⟩ : ByteArray) = true := by decide
  have k2 : smallB (⟨#[35, 64]⟩ : ByteArray) = true := by decide
  have k3 : asciiB (⟨#[35]⟩ : ByteArray) = true := by decide
  have k4 : smallB (⟨#[35]⟩ : ByteArray) = true := by decide
  unfold F_impl_IsValidRecord F_impl_isCommand g_impl_within implB
  simp only [G_isPrinted, oa, ob, k1, k2, k3, k4, Bool.and_self, if_true, Option.bind_some]
  cases decide ((a.size : Int) ≥ 1) <;> simp only [Bool.false_eq_true, if_false, if_true, Option.bind_some, Bool.false_and, Bool.true_and]
  cases decide ((a.size : Int) ≤ 160) <;> simp only [Bool.false_eq_true, if_false, if_true, Option.bind_some, Bool.false_and, Bool.true_and]
  cases (printedB a && !Lib.containsAny a.data.toList [35, 64]) <;> simp only [Bool.false_eq_true, if_false, if_true, Option.bind_some, Bool.false_and, Bool.true_and]
  cases decide ((b.size : Int) ≤ 200) <;> simp only [Bool.false_eq_true, if_false, if_true, Option.bind_some, Bool.false_and, Bool.true_and]
theorem all_not (l : List UInt8) (p q : UInt8 → Bool) : l.all (fun b => p b && !q b) = (l.all p && !l.any q) := by
  induction l with
  | nil => rfl
  | cons b l ih =>
    simp only [List.all_cons, List.any_cons, ih]
    cases p b <;> cases q b <;> cases l.all p <;> cases l.any q <;> rfl
theorem any_or (l : List UInt8) (p q : UInt8 → Bool) : l.any (fun b => p b || q b) = (l.any p || l.any q) := by
  induction l with
  | nil => rfl
  | cons b l ih =>
    simp only [List.any_cons, ih]
    cases p b <;> cases q b <;> cases l.any p <;> cases l.any q <;> rfl
theorem has35 (l : List UInt8) : Lib.containsAny l [35] = l.any (fun b => b.toNat == 35) := by
  rw [containsAny_any]
  congr 1
  funext b
  simp only [List.contains_cons, List.contains_nil, Bool.or_false]
  rw [Bool.eq_iff_iff]
  simp only [beq_iff_eq]
  exact ⟨fun h => by rw [h]; rfl, fun h => UInt8.toNat_inj.1 h⟩
theorem has3564 (l : List UInt8) : Lib.containsAny l [35, 64] = (l.any (fun b => b.toNat == 35) || l.any (fun b => ((b.toNat : Int) == 64))) := by
  rw [containsAny_any, ← any_or]
  congr 1
  funext b
  simp only [List.contains_cons, List.contains_nil, Bool.or_false]
  rw [Bool.eq_iff_iff]
  simp only [Bool.or_eq_true, beq_iff_eq]
  constructor
  · rintro (h | h)
    · left; rw [h]; rfl
    · right; rw [h]; rfl
  · rintro (h | h)
    · left; exact UInt8.toNat_inj.1 h
    · right; exact UInt8.toNat_inj.1 (by have : b.toNat = 64 := by omega
                                         rw [this]; rfl)
theorem empty_size (a : ByteArray) : seq_ a (⟨#[]⟩ : ByteArray) = !decide ((a.size : Int) ≥ 1) := by
  unfold seq_
  have h1 : a.toList = a.data.toList := Lib.toList_data a
  have h2 : (⟨#[]⟩ : ByteArray).toList = [] := Lib.toList_data _
  have h3 : a.data.toList.length = a.size := by simp
  rw [h1, h2]
  cases hl : a.data.toList with
  | nil =>
    rw [hl] at h3
    simp only [List.length_nil] at h3
    simp [← h3]
  | cons x l =>
    rw [hl] at h3
    simp only [List.length_cons] at h3
    have : decide ((a.size : Int) ≥ 1) = true := by simp; omega
    rw [this]
    rfl
theorem same (a b : ByteArray) : specB a b = implB a b := by
  unfold specB implB
  rw [empty_size, all_not, all_not, has35, has3564]
  unfold printedB
  cases decide ((a.size : Int) ≥ 1) <;> cases a.data.toList.all printed1 <;> cases a.data.toList.any (fun b => b.toNat == 35) <;> cases a.data.toList.any (fun b => ((b.toNat : Int) == 64)) <;> cases decide ((a.size : Int) ≤ 160) <;> cases decide ((b.size : Int) ≤ 200) <;> cases b.data.toList.all printed1 <;> cases b.data.toList.any (fun b => b.toNat == 35) <;> rfl
theorem law1 : ∀ d, WfD (Kd.tuple ([(K_Pssq, false)].map (·.1))) d → ∃ out, F_laws_FnExactIsValidRecord 0 d = some out ∧ (splitT [.bool] [] out).1.1 = true := by
  rintro ⟨⟨a, b, _⟩, _⟩ ⟨⟨ha, hb, _⟩, _⟩
  have ha : a.size ≤ maxLen := ha
  have hb : b.size ≤ maxLen := hb
  rcases sz_neg a b ha hb with h | ⟨h1, h2⟩
  · refine ⟨(true, ()), ?_, rfl⟩
    unfold F_laws_FnExactIsValidRecord
    simp only [h, decide_true, if_true]
  · refine ⟨(true, ()), ?_, rfl⟩
    have e1 := spec_eq a b ha hb
    have e2 := impl_eq a b h1 h2
    have t : g_laws_toLogRecord ((a, b, ()), ()) = ((a, b, ()), ()) := rfl
    unfold F_laws_FnExactIsValidRecord
    simp only [t, e1, e2, Option.bind_some, same, beq_self_eq_true, Bool.not_true, Bool.false_eq_true, if_false]
    split <;> rfl
end Go.V.W

/- The loops over lists and graphs, told plainly. -/
set_option linter.unusedVariables false
set_option linter.unusedSimpArgs false
namespace Go.V.W
open Go.Proofs

theorem lim_max {n : Nat} (h : n ≤ lim) : n ≤ maxLen := by unfold lim at h; unfold maxLen; omega
theorem goL_find {γ β : Type} (p : γ → Bool) (o f : β) : ∀ l : List γ, goL (α := Unit) (fun x _ => if p x = true then .inl o else .inr ()) (fun _ => f) l () = if l.any p = true then o else f := by
  intro l
  induction l with
  | nil => rfl
  | cons x l ih =>
    unfold goL
    by_cases h : p x = true
    · simp [h]
    · simp only [Bool.not_eq_true] at h
      simp only [h, Bool.false_eq_true, if_false, List.any_cons, Bool.false_or]
      exact ih

/-! ### copies -/
theorem toIntA2_lim (d) (r) (h : G_toIntA2 d = some r) : ∃ N, F_laws_toIntA2 N d = some r := by
  obtain ⟨⟨a, b, _⟩, _⟩ := d
  have h := Option.some.inj h
  subst h
  exact ⟨3, rfl⟩

theorem set_copy {α : Type} (l m : List α) (i : Nat) (x : α) (hi : i < l.length) (hx : l[i] = x) (hm : m.length = l.length) (h : m.take i = l.take i) : (m.set i x).take (i + 1) = l.take (i + 1) := by
  apply List.ext_getElem?
  intro j
  simp only [List.getElem?_take]
  split
  · rename_i hj
    by_cases hji : j = i
    · subst hji
      rw [List.getElem?_set_self (by omega), List.getElem?_eq_getElem hi, hx]
    · rw [List.getElem?_set_ne (fun e => hji e.symm)]
      have := congrArg (fun z => z[j]?) h
      simp only [List.getElem?_take] at this
      rw [if_pos (by omega), if_pos (by omega)] at this
      exact this
  · rfl
theorem toIntS_l0 (N : Nat) (l : List Int) (hl : l.length ≤ lim) : ∀ k, l.length ≤ k → laws_toIntS_l0 N (k + 1) (l, List.replicate l.length (0 : Int), (0 : Int), ()) = some (.inl (l, ())) := by
  intro k hk
  have hmx := lim_max hl
  have key : ∀ n i (m : List Int), l.length ≤ i + n → i ≤ l.length → m.length = l.length → m.take i = l.take i → laws_toIntS_l0 N (n + 1) (l, m, (i : Int), ()) = some (.inl (l, ())) := by
    intro n
    induction n with
    | zero =>
      intro i m h1 h2 h3 h4
      have e : i = l.length := by omega
      subst e
      rw [List.take_of_length_le (by omega), List.take_of_length_le (by omega)] at h4
      subst h4
      simp [laws_toIntS_l0, laws_toIntS_l0_r]
    | succ n ih =>
      intro i m h1 h2 h3 h4
      by_cases hi : i < l.length
      · show laws_toIntS_l0_r N (laws_toIntS_l0 N (n + 1)) (l, m, (i : Int), ()) = _
        unfold laws_toIntS_l0_r
        have hlt : decide ((i : Int) < (List.length l : Int)) = true := by simp; omega
        simp only [hlt, if_true, idxIn_nat hi, idxIn_nat (show i < m.length by omega), Int.toNat_natCast, wrap_up hi hmx]
        refine ih (i + 1) _ (by omega) (by omega) (by simp [h3]) ?_
        exact set_copy l m i _ hi (by rw [at_get (e := I) hi]; rfl) h3 h4
      · have e : i = l.length := by omega
        subst e
        rw [List.take_of_length_le (by omega), List.take_of_length_le (by omega)] at h4
        subst h4
        simp [laws_toIntS_l0, laws_toIntS_l0_r]
  simpa using key k 0 (List.replicate l.length 0) (by omega) (by omega) (by simp) (by simp)
theorem toIntS_lim (d) (r) (h : G_toIntS d = some r) : ∃ N, F_laws_toIntS N d = some r := by
  obtain ⟨l, _⟩ := d
  unfold G_toIntS at h
  split at h
  · rename_i hl
    have hl : l.length ≤ lim := of_decide_eq_true hl
    have h := Option.some.inj h
    subst h
    refine ⟨l.length + 1, ?_⟩
    unfold F_laws_toIntS
    have hc : (decide (0 ≤ (List.length l : Int)) && decide ((List.length l : Int) ≤ (List.length l : Int)) && decide ((List.length l : Int) ≤ (lim : Int))) = true := by simp; omega
    have := toIntS_l0 (l.length + 1) l hl l.length (Nat.le_refl _)
    simp only [hc, if_true, Int.toNat_natCast]
    rw [this]
    rfl
  · cases h
theorem toIntA2S_l0 (N : Nat) (l : List E) (hl : l.length ≤ lim) : ∀ k, l.length ≤ k → laws_toIntA2S_l0 N (k + 1) (l, List.replicate l.length ((0 : Int), (0 : Int), ()), (0 : Int), ()) = some (.inl (l, ())) := by
  intro k hk
  have hmx := lim_max hl
  have key : ∀ n i (m : List E), l.length ≤ i + n → i ≤ l.length → m.length = l.length → m.take i = l.take i → laws_toIntA2S_l0 N (n + 1) (l, m, (i : Int), ()) = some (.inl (l, ())) := by
    intro n
    induction n with
    | zero =>
      intro i m h1 h2 h3 h4
      have e : i = l.length := by omega
      subst e
      rw [List.take_of_length_le (by omega), List.take_of_length_le (by omega)] at h4
      subst h4
      simp [laws_toIntA2S_l0, laws_toIntA2S_l0_r]
    | succ n ih =>
      intro i m h1 h2 h3 h4
      by_cases hi : i < l.length
      · show laws_toIntA2S_l0_r N (laws_toIntA2S_l0 N (n + 1)) (l, m, (i : Int), ()) = _
        unfold laws_toIntA2S_l0_r
        have hlt : decide ((i : Int) < (List.length l : Int)) = true := by simp; omega
        simp only [hlt, if_true, idxIn_nat hi, idxIn_nat (show i < m.length by omega), Int.toNat_natCast, wrap_up hi hmx, G_toIntA2, Option.bind_some]
        refine ih (i + 1) _ (by omega) (by omega) (by simp [h3]) ?_
        exact set_copy l m i _ hi (by rw [at_get (e := K_Piiq) hi]; rfl) h3 h4
      · have e : i = l.length := by omega
        subst e
        rw [List.take_of_length_le (by omega), List.take_of_length_le (by omega)] at h4
        subst h4
        simp [laws_toIntA2S_l0, laws_toIntA2S_l0_r]
  simpa using key k 0 (List.replicate l.length ((0 : Int), (0 : Int), ())) (by omega) (by omega) (by simp) (by simp)
theorem toIntA2S_lim (d) (r) (h : G_toIntA2S d = some r) : ∃ N, F_laws_toIntA2S N d = some r := by
  obtain ⟨l, _⟩ := d
  unfold G_toIntA2S at h
  split at h
  · rename_i hl
    have hl : l.length ≤ lim := of_decide_eq_true hl
    have h := Option.some.inj h
    subst h
    refine ⟨l.length + 1, ?_⟩
    unfold F_laws_toIntA2S
    have hc : (decide (0 ≤ (List.length l : Int)) && decide ((List.length l : Int) ≤ (List.length l : Int)) && decide ((List.length l : Int) ≤ (lim : Int))) = true := by simp; omega
    have := toIntA2S_l0 (l.length + 1) l hl l.length (Nat.le_refl _)
    simp only [hc, if_true, Int.toNat_natCast]
    rw [this]
    rfl
  · cases h
end Go.V.W

/- Equality and order of lists, told plainly. -/
set_option linter.unusedVariables false
set_option linter.unusedSimpArgs false
namespace Go.V.W
open Go.Proofs

theorem eqIntA2_lim (d) (r) (h : G_eqIntA2 d = some r) : ∃ N, F_laws_eqIntA2 N d = some r := by
  obtain ⟨⟨a, b, _⟩, ⟨c, e, _⟩, _⟩ := d
  have h := Option.some.inj h
  subst h
  refine ⟨3, ?_⟩
  by_cases h1 : a = c
  · by_cases h2 : b = e
    · subst h1 h2
      simp [F_laws_eqIntA2, laws_eqIntA2_l0, laws_eqIntA2_l0_r, wrap_in]
    · subst h1
      simp [F_laws_eqIntA2, laws_eqIntA2_l0, laws_eqIntA2_l0_r, wrap_in, h2]
  · simp [F_laws_eqIntA2, laws_eqIntA2_l0, laws_eqIntA2_l0_r, wrap_in, h1]

theorem eqIntS_l0 (N : Nat) (l m : List Int) (hl : l.length ≤ lim) (hm : l.length = m.length) : ∀ n i, l.length ≤ i + n → i ≤ l.length → laws_eqIntS_l0 N (n + 1) (l, m, (i : Int), ()) = if l.drop i = m.drop i then some (.inr (.inl ())) else some (.inl (false, ())) := by
  have hmx := lim_max hl
  intro n
  induction n with
  | zero =>
    intro i h1 h2
    have e : i = l.length := by omega
    subst e
    rw [List.drop_of_length_le (by omega), List.drop_of_length_le (by omega)]
    simp [laws_eqIntS_l0, laws_eqIntS_l0_r]
  | succ n ih =>
    intro i h1 h2
    by_cases hi : i < l.length
    · have hi' : i < m.length := by omega
      show laws_eqIntS_l0_r N (laws_eqIntS_l0 N (n + 1)) (l, m, (i : Int), ()) = _
      unfold laws_eqIntS_l0_r
      have hlt : decide ((i : Int) < (List.length l : Int)) = true := by simp; omega
      simp only [hlt, if_true, idxIn_nat hi, idxIn_nat hi', Int.toNat_natCast, wrap_up hi hmx, at_get (e := I) hi, at_get (e := I) (l := m) hi', ih (i + 1) (by omega) (by omega)]
      rw [List.drop_eq_getElem_cons hi, List.drop_eq_getElem_cons hi']
      simp only [List.cons.injEq, List.get_eq_getElem]
      by_cases he : l[i] = m[i]
      · simp only [he, bne_self_eq_false, Bool.false_eq_true, if_false, true_and]
      · have he' : (l[i] != m[i]) = true := by simpa using he
        simp only [he', he, if_true, false_and, if_false]
    · have e : i = l.length := by omega
      subst e
      rw [List.drop_of_length_le (by omega), List.drop_of_length_le (by omega)]
      simp [laws_eqIntS_l0, laws_eqIntS_l0_r]
theorem eqIntS_lim (d) (r) (h : G_eqIntS d = some r) : ∃ N, F_laws_eqIntS N d = some r := by
  obtain ⟨l, m, _⟩ := d
  unfold G_eqIntS at h
  split at h
  · rename_i hl
    have hl : l.length ≤ lim := of_decide_eq_true hl
    have h := Option.some.inj h
    subst h
    refine ⟨l.length + 1, ?_⟩
    unfold F_laws_eqIntS
    by_cases hm : l.length = m.length
    · have := eqIntS_l0 (l.length + 1) l m hl hm l.length 0 (by omega) (by omega)
      simp only [Int.natCast_zero, List.drop_zero] at this
      have hne : ((List.length l : Int) != (List.length m : Int)) = false := by simp [hm]
      simp only [hne, Bool.false_eq_true, if_false, this]
      by_cases he : l = m
      · simp [he]
      · simp [he]
    · have hne : ((List.length l : Int) != (List.length m : Int)) = true := by simp; omega
      have he : ¬ l = m := fun e => hm (by rw [e])
      simp [hne, he]
  · cases h
end Go.V.W

/- Checking loops: a counter goes up and each round either goes on or answers. -/
set_option linter.unusedVariables false
set_option linter.unusedSimpArgs false
namespace Go.V.W
open Go.Proofs

/-- All of m numbers from i on. -/
def allB (p : Nat → Bool) : Nat → Nat → Bool
  | 0, _ => true
  | m + 1, i => p i && allB p m (i + 1)
theorem allB_iff {p : Nat → Bool} : ∀ {m i : Nat}, allB p m i = true ↔ ∀ j, i ≤ j → j < i + m → p j = true := by
  intro m
  induction m with
  | zero => intro i; simp only [allB, true_iff]; intro j h1 h2; omega
  | succ m ih =>
    intro i
    simp only [allB, Bool.and_eq_true, ih]
    constructor
    · rintro ⟨h1, h2⟩ j h3 h4
      by_cases e : j = i
      · subst e; exact h1
      · exact h2 j (by omega) (by omega)
    · intro h
      exact ⟨h i (Nat.le_refl _) (by omega), fun j h1 h2 => h j (by omega) (by omega)⟩
theorem loop_all {H O : Type} {L : Nat → H → Option O} {r : (H → Option O) → H → Option O} (hL : ∀ k d, L (k + 1) d = r (L k) d) {n : Nat} {mk : Nat → H} {p : Nat → Bool} {o f : O}
    (hr : ∀ back i, i < n → r back (mk i) = if p i = true then back (mk (i + 1)) else some o) (hf : ∀ back, r back (mk n) = some f) :
    ∀ k i, i ≤ n → n ≤ i + k → L (k + 1) (mk i) = some (if allB p (n - i) i = true then f else o) := by
  intro k
  induction k with
  | zero =>
    intro i h1 h2
    have e : i = n := by omega
    subst e
    rw [hL, hf, Nat.sub_self]
    rfl
  | succ k ih =>
    intro i h1 h2
    by_cases h : i < n
    · rw [hL, hr _ i h, show n - i = (n - (i + 1)) + 1 by omega]
      simp only [allB]
      by_cases hp : p i = true
      · simp only [hp, if_true, Bool.true_and]
        exact ih (i + 1) (by omega) (by omega)
      · simp only [Bool.not_eq_true] at hp
        simp only [hp, Bool.false_eq_true, if_false, Bool.false_and]
    · have e : i = n := by omega
      subst e
      rw [hL, hf, Nat.sub_self]
      rfl
theorem wrap_down {i : Nat} (h : 0 < i) (hn : i ≤ maxLen) : IntKind.wrap .i64 ((i : Int) - 1) = ((i - 1 : Nat) : Int) := by
  unfold maxLen at hn
  rw [Go.IntWalk.i64_in _ (by omega)]
  omega
theorem lt_dec {i n : Nat} (h : i < n) : decide ((i : Int) < (n : Int)) = true := by simp; omega
theorem lt_not (n : Nat) : decide ((n : Int) < (n : Int)) = false := by simp
theorem pos_dec {i : Nat} : decide ((i : Int) > (0 : Int)) = decide (0 < i) := by simp
theorem bool_eq_iff {a b : Bool} (h : a = true ↔ b = true) : a = b := by cases a <;> cases b <;> simp_all
theorem all_at {e : Kd} (l : List e.den) (q : e.den → Bool) : allB (fun i => q (at_ e l i)) l.length 0 = l.all q := by
  apply bool_eq_iff
  rw [allB_iff, List.all_eq_true]
  constructor
  · intro h x hx
    obtain ⟨i, hi, rfl⟩ := List.getElem_of_mem hx
    have := h i (by omega) (by omega)
    rw [at_get hi] at this
    exact this
  · intro h j _ hj
    have hj : j < l.length := by omega
    rw [at_get hj]
    exact h _ (List.getElem_mem hj)
theorem risingB_iff : ∀ l : List Int, risingB l = true ↔ ∀ j, 0 < j → j < l.length → at_ I l (j - 1) < at_ I l j := by
  intro l
  induction l with
  | nil => simp only [risingB, true_iff]; intro j _ h; exact absurd h (by simp)
  | cons a l ih =>
    cases l with
    | nil => simp only [risingB, true_iff]; intro j h1 h2; simp only [List.length_cons, List.length_nil] at h2; omega
    | cons b l =>
      simp only [risingB, Bool.and_eq_true, ih, decide_eq_true_eq]
      constructor
      · rintro ⟨h1, h2⟩ j h3 h4
        by_cases e : j = 1
        · subst e; exact h1
        · have := h2 (j - 1) (by omega) (by simp only [List.length_cons] at h4 ⊢; omega)
          obtain ⟨k, rfl⟩ : ∃ k, j = k + 2 := ⟨j - 2, by omega⟩
          exact this
      · intro h
        refine ⟨h 1 (by omega) (by simp), fun j h1 h2 => ?_⟩
        have := h (j + 1) (by omega) (by simp only [List.length_cons] at h2 ⊢; omega)
        obtain ⟨k, rfl⟩ : ∃ k, j = k + 1 := ⟨j - 1, by omega⟩
        exact this
theorem risingE_iff : ∀ l : List E, risingE l = true ↔ ∀ j, 0 < j → j < l.length → lessE (at_ K_Piiq l (j - 1)) (at_ K_Piiq l j) = true := by
  intro l
  induction l with
  | nil => simp only [risingE, true_iff]; intro j _ h; exact absurd h (by simp)
  | cons a l ih =>
    cases l with
    | nil => simp only [risingE, true_iff]; intro j h1 h2; simp only [List.length_cons, List.length_nil] at h2; omega
    | cons b l =>
      simp only [risingE, Bool.and_eq_true, ih]
      constructor
      · rintro ⟨h1, h2⟩ j h3 h4
        by_cases e : j = 1
        · subst e; exact h1
        · have := h2 (j - 1) (by omega) (by simp only [List.length_cons] at h4 ⊢; omega)
          obtain ⟨k, rfl⟩ : ∃ k, j = k + 2 := ⟨j - 2, by omega⟩
          exact this
      · intro h
        refine ⟨h 1 (by omega) (by simp), fun j h1 h2 => ?_⟩
        have := h (j + 1) (by omega) (by simp only [List.length_cons] at h2 ⊢; omega)
        obtain ⟨k, rfl⟩ : ∃ k, j = k + 1 := ⟨j - 1, by omega⟩
        exact this

theorem l1In_eq (x lo hi : Int) (u : Unit) : g_spec_l1In (x, lo, hi, u) = (inB lo hi x, ()) := by
  unfold g_spec_l1In inB
  by_cases h : lo ≤ x <;> simp [h]
theorem within_eq (x lo hi : Int) (u : Unit) : g_impl_within (x, lo, hi, u) = (inB lo hi x, ()) := by
  unfold g_impl_within inB
  by_cases h : lo ≤ x <;> simp [h]
theorem l2Before_eq (a b : E) (u : Unit) : g_spec_l2Before (a, b, u) = (lessE a b, ()) := by
  obtain ⟨a1, a2, _⟩ := a
  obtain ⟨b1, b2, _⟩ := b
  unfold g_spec_l2Before lessE
  by_cases h : a1 < b1
  · simp [h]
  · by_cases h2 : a1 = b1 <;> simp [h, h2]
theorem cmpI_eq (a b : Int) (u : Unit) : g_cmp_Compare_int (a, b, u) = (if a < b then -1 else if b < a then 1 else 0, ()) := by
  unfold g_cmp_Compare_int g_cmp_isNaN_int
  by_cases h : a < b
  · simp [h]
  · by_cases h2 : b < a <;> simp [h, h2]

/-! ### eqIntA2S -/
theorem eqIntA2S_lim (d) (r) (h : G_eqIntA2S d = some r) : ∃ N, F_laws_eqIntA2S N d = some r := by
  obtain ⟨l, m, _⟩ := d
  unfold G_eqIntA2S at h
  split at h
  · rename_i hl
    have hl : l.length ≤ lim := of_decide_eq_true hl
    have hmx := lim_max hl
    have h := Option.some.inj h
    subst h
    refine ⟨l.length + 1, ?_⟩
    unfold F_laws_eqIntA2S
    by_cases hm : l.length = m.length
    · have := loop_all (L := laws_eqIntA2S_l0 (l.length + 1)) (r := laws_eqIntA2S_l0_r (l.length + 1)) (fun _ _ => rfl) (n := l.length) (mk := fun i => (l, m, (i : Int), ())) (p := fun i => decide (at_ K_Piiq l i = at_ K_Piiq m i)) (o := .inl (false, ())) (f := .inr (.inl ()))
        (by
          intro back i hi
          have hi' : i < m.length := by omega
          unfold laws_eqIntA2S_l0_r
          simp only [lt_dec hi, if_true, idxIn_nat hi, idxIn_nat hi', Int.toNat_natCast, wrap_up hi hmx, G_eqIntA2, Option.bind_some]
          by_cases he : at_ K_Piiq l i = at_ K_Piiq m i
          · simp only [he, decide_true, Bool.not_true, Bool.false_eq_true, if_false, if_true]
          · simp only [he, decide_false, Bool.not_false, Bool.false_eq_true, if_false, if_true])
        (by intro back; unfold laws_eqIntA2S_l0_r; simp only [lt_not, Bool.false_eq_true, if_false]) l.length 0 (by omega) (by omega)
      simp only [Int.natCast_zero] at this
      have hne : ((List.length l : Int) != (List.length m : Int)) = false := by simp [hm]
      simp only [hne, Bool.false_eq_true, if_false, this, Nat.sub_zero]
      by_cases he : l = m
      · have : allB (fun i => decide (at_ K_Piiq l i = at_ K_Piiq m i)) l.length 0 = true := allB_iff.2 (fun j _ _ => by simp [he])
        simp only [this, if_true, Option.bind_some]
        simp only [he, decide_true]
      · have : allB (fun i => decide (at_ K_Piiq l i = at_ K_Piiq m i)) l.length 0 = false := by
          apply Bool.eq_false_iff.2
          intro ha
          apply he
          rw [allB_iff] at ha
          apply List.ext_getElem hm
          intro i h1 h2
          have := of_decide_eq_true (ha i (by omega) (by omega))
          rw [at_get (e := K_Piiq) h1, at_get (e := K_Piiq) h2] at this
          exact this
        simp only [this, he, Bool.false_eq_true, if_false, Option.bind_some, decide_false]
    · have hne : ((List.length l : Int) != (List.length m : Int)) = true := by simp; omega
      have he : ¬ l = m := fun e => hm (by rw [e])
      simp [hne, he]
  · cases h

/-! ### l1Rising, increasing, allWithin -/
theorem l1Rising_lim (d) (r) (h : G_l1Rising d = some r) : ∃ N, F_spec_l1Rising N d = some r := by
  obtain ⟨l, lo, hi, _⟩ := d
  unfold G_l1Rising at h
  split at h
  · rename_i hl
    have hl : l.length ≤ lim := of_decide_eq_true hl
    have hmx := lim_max hl
    have h := Option.some.inj h
    subst h
    refine ⟨l.length + 1, ?_⟩
    unfold F_spec_l1Rising
    have := loop_all (L := spec_l1Rising_l0 (l.length + 1)) (r := spec_l1Rising_l0_r (l.length + 1)) (fun _ _ => rfl) (n := l.length) (mk := fun i => (l, lo, hi, (i : Int), ())) (p := fun i => inB lo hi (at_ I l i) && (!decide (0 < i) || decide (at_ I l (i - 1) < at_ I l i))) (o := .inl (false, ())) (f := .inr (.inl ()))
      (by
        intro back i hi'
        unfold spec_l1Rising_l0_r
        simp only [lt_dec hi', if_true, idxIn_nat hi', Int.toNat_natCast, wrap_up hi' hmx, l1In_eq, pos_dec]
        cases hb : inB lo hi (at_ I l i) with
        | false => simp only [Bool.not_false, if_true, Bool.false_and, Bool.false_eq_true, if_false]
        | true =>
          simp only [Bool.not_true, Bool.false_eq_true, if_false, Bool.true_and]
          by_cases h0 : 0 < i
          · have h1 : i - 1 < l.length := by omega
            simp only [h0, decide_true, if_true, wrap_down h0 (show i ≤ maxLen by omega), idxIn_nat h1, Int.toNat_natCast, Bool.not_true, Bool.false_or]
            by_cases hc : at_ I l (i - 1) < at_ I l i
            · have hc' : ¬ (at_ I l (i - 1) ≥ at_ I l i) := Int.not_le.2 hc
              simp only [hc, hc', decide_true, decide_false, if_true, Bool.false_eq_true, if_false]
            · have hc' : (at_ I l (i - 1) ≥ at_ I l i) := Int.not_lt.1 hc
              simp only [hc, hc', decide_true, decide_false, if_true, Bool.false_eq_true, if_false]
          · simp only [h0, decide_false, Bool.false_eq_true, if_false, Bool.not_false, Bool.true_or, if_true])
      (by intro back; unfold spec_l1Rising_l0_r; simp only [lt_not, Bool.false_eq_true, if_false]) l.length 0 (by omega) (by omega)
    simp only [Int.natCast_zero] at this
    simp only [this, Nat.sub_zero]
    have e : allB (fun i => inB lo hi (at_ I l i) && (!decide (0 < i) || decide (at_ I l (i - 1) < at_ I l i))) l.length 0 = (l.all (inB lo hi) && risingB l) := by
      rw [← all_at (e := I) l (inB lo hi)]
      apply bool_eq_iff
      rw [Bool.and_eq_true, allB_iff, allB_iff, risingB_iff]
      simp only [Bool.and_eq_true, Bool.or_eq_true, Bool.not_eq_true', decide_eq_true_eq, decide_eq_false_iff_not]
      constructor
      · intro h
        exact ⟨fun j h1 h2 => (h j h1 h2).1, fun j h1 h2 => ((h j (by omega) (by omega)).2).resolve_left (by omega)⟩
      · rintro ⟨h1, h2⟩ j h3 h4
        refine ⟨h1 j h3 h4, ?_⟩
        by_cases h0 : 0 < j
        · exact .inr (h2 j h0 (by omega))
        · exact .inl h0
    simp only [e]
    cases (l.all (inB lo hi) && risingB l) <;> rfl
  · cases h
theorem increasing_lim (d) (r) (h : G_increasing d = some r) : ∃ N, F_impl_increasing N d = some r := by
  obtain ⟨l, _⟩ := d
  unfold G_increasing at h
  split at h
  · rename_i hl
    have hl : l.length ≤ lim := of_decide_eq_true hl
    have hmx := lim_max hl
    have h := Option.some.inj h
    subst h
    refine ⟨l.length + 1, ?_⟩
    unfold F_impl_increasing
    by_cases hz : l.length = 0
    · have : l = [] := List.length_eq_zero_iff.1 hz
      subst this
      rfl
    · have := loop_all (L := fun k d => impl_increasing_l0 (l.length + 1) k d) (r := impl_increasing_l0_r (l.length + 1)) (fun _ _ => rfl) (n := l.length - 1) (mk := fun i => (l, ((i + 1 : Nat) : Int), ())) (p := fun i => decide (at_ I l i < at_ I l (i + 1))) (o := .inl (false, ())) (f := .inr (.inl ()))
        (by
          intro back i hi
          have h1 : i + 1 < l.length := by omega
          have h2 : i < l.length := by omega
          unfold impl_increasing_l0_r
          simp only [lt_dec h1, if_true, wrap_down (show 0 < i + 1 by omega) (show i + 1 ≤ maxLen by omega), idxIn_nat h1, wrap_up h1 hmx, Nat.add_sub_cancel, idxIn_nat h2, Int.toNat_natCast]
          by_cases hc : at_ I l i < at_ I l (i + 1)
          · have hc' : ¬ (at_ I l i ≥ at_ I l (i + 1)) := Int.not_le.2 hc
            simp only [hc, hc', decide_true, decide_false, if_true, Bool.false_eq_true, if_false]
          · have hc' : (at_ I l i ≥ at_ I l (i + 1)) := Int.not_lt.1 hc
            simp only [hc, hc', decide_true, decide_false, if_true, Bool.false_eq_true, if_false])
        (by
          intro back
          unfold impl_increasing_l0_r
          have e : l.length - 1 + 1 = l.length := by omega
          simp only [e, lt_not, Bool.false_eq_true, if_false]) l.length 0 (by omega) (by omega)
      simp only [Nat.zero_add, Int.natCast_one] at this
      simp only [this, Nat.sub_zero]
      have e : allB (fun i => decide (at_ I l i < at_ I l (i + 1))) (l.length - 1) 0 = risingB l := by
        apply bool_eq_iff
        rw [allB_iff, risingB_iff]
        simp only [decide_eq_true_eq]
        constructor
        · intro h j h1 h2
          have := h (j - 1) (by omega) (by omega)
          rwa [Nat.sub_add_cancel h1] at this
        · intro h j h1 h2
          exact h (j + 1) (by omega) (by omega)
      simp only [e]
      cases risingB l <;> rfl
  · cases h
theorem allWithin_lim (d) (r) (h : G_allWithin d = some r) : ∃ N, F_impl_allWithin N d = some r := by
  obtain ⟨l, lo, hi, _⟩ := d
  unfold G_allWithin at h
  split at h
  · rename_i hl
    have hl : l.length ≤ lim := of_decide_eq_true hl
    have hmx := lim_max hl
    have h := Option.some.inj h
    subst h
    refine ⟨l.length + 1, ?_⟩
    unfold F_impl_allWithin
    have := loop_all (L := impl_allWithin_l0 (l.length + 1)) (r := impl_allWithin_l0_r (l.length + 1)) (fun _ _ => rfl) (n := l.length) (mk := fun i => (lo, hi, l, (l.length : Int), (i : Int), ())) (p := fun i => inB lo hi (at_ I l i)) (o := .inl (false, ())) (f := .inr (.inl ()))
      (by
        intro back i hi'
        unfold impl_allWithin_l0_r
        simp only [lt_dec hi', if_true, idxIn_nat hi', Int.toNat_natCast, wrap_up hi' hmx, within_eq]
        cases hb : inB lo hi (at_ I l i) <;> rfl)
      (by intro back; unfold impl_allWithin_l0_r; simp only [lt_not, Bool.false_eq_true, if_false]) l.length 0 (by omega) (by omega)
    simp only [Int.natCast_zero] at this
    simp only [this, Nat.sub_zero, all_at (e := I) l (inB lo hi)]
    cases (l.all (inB lo hi)) <;> rfl
  · cases h

/-! ### slices.Compare -/
/-- What the walk answers before the first list is over. -/
def cmpW : List Int → List Int → Option Int
  | [], _ => none
  | _ :: _, [] => some 1
  | a :: l, b :: m => if a < b then some (-1) else if b < a then some 1 else cmpW l m
theorem cmpL_W : ∀ l m : List Int, cmpL l m = match cmpW l m with
    | some r => r
    | none => if l.length < m.length then -1 else 0 := by
  intro l
  induction l with
  | nil => intro m; cases m <;> simp [cmpL, cmpW]
  | cons a l ih =>
    intro m
    cases m with
    | nil => simp [cmpL, cmpW]
    | cons b m =>
      simp only [cmpL, cmpW]
      by_cases ha : a < b
      · simp [ha]
      · by_cases hb : b < a
        · simp [ha, hb]
        · simp only [ha, hb, if_false, ih m, List.length_cons, Nat.add_lt_add_iff_right]
theorem compare_l0 (N : Nat) (l m : List Int) (hl : l.length ≤ lim) (hm : m.length ≤ lim) : ∀ n i, l.length ≤ i + n → i ≤ l.length → i ≤ m.length → slices_Compare_Sint_int_l0 N (n + 1) (l, m, l, (l.length : Int), (i : Int), ()) = 
    match cmpW (l.drop i) (m.drop i) with
    | some r => some (.inl (r, ()))
    | none => some (.inr (.inl (l, m, ()))) := by
  have hmx := lim_max hl
  intro n
  induction n with
  | zero =>
    intro i h1 h2 h3
    have e : i = l.length := by omega
    subst e
    rw [List.drop_of_length_le (Nat.le_refl l.length)]
    simp [slices_Compare_Sint_int_l0, slices_Compare_Sint_int_l0_r, cmpW]
  | succ n ih =>
    intro i h1 h2 h3
    by_cases hi : i < l.length
    · show slices_Compare_Sint_int_l0_r N (slices_Compare_Sint_int_l0 N (n + 1)) (l, m, l, (l.length : Int), (i : Int), ()) = _
      unfold slices_Compare_Sint_int_l0_r
      simp only [lt_dec hi, if_true, idxIn_nat hi, Int.toNat_natCast, wrap_up hi hmx]
      rw [List.drop_eq_getElem_cons hi]
      by_cases hi' : i < m.length
      · have hge : decide ((i : Int) ≥ (m.length : Int)) = false := by simp; omega
        rw [List.drop_eq_getElem_cons hi']
        simp only [hge, Bool.false_eq_true, if_false, idxIn_nat hi', if_true, cmpI_eq, at_get (e := I) hi, at_get (e := I) (l := m) hi', List.get_eq_getElem, cmpW]
        by_cases ha : l[i] < m[i]
        · simp [ha]
        · by_cases hb : m[i] < l[i]
          · simp [ha, hb]
          · simp only [ha, hb, if_false, bne_self_eq_false, Bool.false_eq_true]
            exact ih (i + 1) (by omega) (by omega) (by omega)
      · have hge : decide ((i : Int) ≥ (m.length : Int)) = true := by simp; omega
        rw [List.drop_of_length_le (Nat.le_of_not_lt hi')]
        simp only [hge, if_true, cmpW]
    · have e : i = l.length := by omega
      subst e
      rw [List.drop_of_length_le (Nat.le_refl l.length)]
      simp [slices_Compare_Sint_int_l0, slices_Compare_Sint_int_l0_r, cmpW]
theorem compare_lim (d) (r) (h : G_compare d = some r) : ∃ N, F_slices_Compare_Sint_int N d = some r := by
  obtain ⟨l, m, _⟩ := d
  unfold G_compare at h
  split at h
  · rename_i hl
    simp only [Bool.and_eq_true] at hl
    have hm : m.length ≤ lim := of_decide_eq_true hl.2
    have hl : l.length ≤ lim := of_decide_eq_true hl.1
    have h := Option.some.inj h
    subst h
    refine ⟨l.length + 1, ?_⟩
    unfold F_slices_Compare_Sint_int
    have := compare_l0 (l.length + 1) l m hl hm l.length 0 (by omega) (by omega) (by omega)
    simp only [Int.natCast_zero, List.drop_zero] at this
    simp only [this, cmpL_W]
    cases cmpW l m with
    | some r => rfl
    | none =>
      by_cases hlt : l.length < m.length
      · have : decide ((l.length : Int) < (m.length : Int)) = true := by simp; omega
        simp only [Option.bind_some, this, if_true, hlt]
      · have : decide ((l.length : Int) < (m.length : Int)) = false := by simp; omega
        simp only [Option.bind_some, this, Bool.false_eq_true, if_false, hlt]
  · cases h

/-! ### graphs -/
theorem graph_allB (n : Int) (l : List E) : allB (fun i => edgeB n (at_ K_Piiq l i) && (!decide (0 < i) || lessE (at_ K_Piiq l (i - 1)) (at_ K_Piiq l i))) l.length 0 = (l.all (edgeB n) && risingE l) := by
  rw [← all_at (e := K_Piiq) l (edgeB n)]
  apply bool_eq_iff
  rw [Bool.and_eq_true, allB_iff, allB_iff, risingE_iff]
  simp only [Bool.and_eq_true, Bool.or_eq_true, Bool.not_eq_true', decide_eq_false_iff_not]
  constructor
  · intro h
    exact ⟨fun j h1 h2 => (h j h1 h2).1, fun j h1 h2 => ((h j (by omega) (by omega)).2).resolve_left (by omega)⟩
  · rintro ⟨h1, h2⟩ j h3 h4
    refine ⟨h1 j h3 h4, ?_⟩
    by_cases h0 : 0 < j
    · exact .inr (h2 j h0 (by omega))
    · exact .inl h0
theorem cmp2 (a b : E) : decide (cmpL [a.1, a.2.1] [b.1, b.2.1] ≥ 0) = !lessE a b := by
  obtain ⟨a1, a2, _⟩ := a
  obtain ⟨b1, b2, _⟩ := b
  simp only [cmpL, lessE]
  by_cases h1 : a1 < b1
  · simp [h1]
  · by_cases h2 : b1 < a1
    · have : ¬ a1 = b1 := by omega
      simp [h1, h2, this]
    · have e : a1 = b1 := by omega
      subst e
      by_cases h3 : a2 < b2
      · simp [h3]
      · by_cases h4 : b2 < a2 <;> simp [h3, h4]
theorem edge_eq (n a b : Int) : (inB 0 (n - 1) a && inB 0 (n - 1) b && decide (a < b)) = (decide (0 ≤ a) && decide (a < b) && decide (b < n)) := by
  apply bool_eq_iff
  simp only [inB, Bool.and_eq_true, decide_eq_true_eq]
  omega
theorem okL2 (a b : Int) : okL [a, b] = true := decide_eq_true (show 2 ≤ lim by unfold lim; omega)
theorem IsGraph_lim (d) (r) (h : G_graph d = some r) : ∃ N, F_impl_IsGraph N d = some r := by
  obtain ⟨⟨n, l, u⟩, _⟩ := d
  unfold G_graph at h
  split at h
  · rename_i hl
    have hl : l.length ≤ lim := of_decide_eq_true hl
    have hmx := lim_max hl
    have h := Option.some.inj h
    subst h
    refine ⟨l.length + 1, ?_⟩
    unfold F_impl_IsGraph
    simp only [within_eq, graphB]
    cases hn : inB 0 8 n with
    | false =>
      simp only [inB] at hn
      simp only [Bool.not_false, if_true, hn, Bool.false_and]
    | true =>
      have hn' := hn
      simp only [inB] at hn'
      simp only [Bool.not_true, Bool.false_eq_true, if_false, hn', Bool.true_and]
      have := loop_all (L := impl_IsGraph_l0 (l.length + 1)) (r := impl_IsGraph_l0_r (l.length + 1)) (fun _ _ => rfl) (n := l.length) (mk := fun i => ((n, l, u), l, (l.length : Int), (i : Int), ())) (p := fun i => edgeB n (at_ K_Piiq l i) && (!decide (0 < i) || lessE (at_ K_Piiq l (i - 1)) (at_ K_Piiq l i))) (o := .inl (false, ())) (f := .inr (.inl ()))
        (by
          intro back i hi
          unfold impl_IsGraph_l0_r
          simp only [lt_dec hi, if_true, idxIn_nat hi, Int.toNat_natCast, wrap_up hi hmx, pos_dec]
          by_cases c1 : (at_ K_Piiq l i).1 < 0
          · have c1' : ¬ (0 ≤ (at_ K_Piiq l i).1) := Int.not_le.2 c1
            simp only [c1, decide_true, if_true, edgeB, c1', decide_false, Bool.false_and, Bool.false_eq_true, if_false]
          · have c1' : (0 ≤ (at_ K_Piiq l i).1) := Int.not_lt.1 c1
            by_cases c2 : (at_ K_Piiq l i).1 < (at_ K_Piiq l i).2.1
            · have c2' : ¬ ((at_ K_Piiq l i).1 ≥ (at_ K_Piiq l i).2.1) := Int.not_le.2 c2
              by_cases c3 : (at_ K_Piiq l i).2.1 < n
              · have c3' : ¬ ((at_ K_Piiq l i).2.1 ≥ n) := Int.not_le.2 c3
                by_cases h0 : 0 < i
                · have h1 : i - 1 < l.length := by omega
                  simp only [c1, c1', c2, c2', c3, c3', edgeB, decide_true, decide_false, if_true, if_false, Bool.false_eq_true, Bool.true_and, h0, wrap_down h0 (show i ≤ maxLen by omega), idxIn_nat h1, Int.toNat_natCast, Bool.not_true, Bool.false_or, G_compare, okL2, Option.bind_some, cmp2]
                  cases lessE (at_ K_Piiq l (i - 1)) (at_ K_Piiq l i) <;> rfl
                · simp only [c1, c1', c2, c2', c3, c3', edgeB, decide_true, decide_false, if_true, if_false, Bool.false_eq_true, Bool.true_and, h0, Bool.not_false, Bool.true_or]
              · have c3' : ((at_ K_Piiq l i).2.1 ≥ n) := Int.not_lt.1 c3
                simp only [c1, c1', c2, c2', c3, c3', edgeB, decide_true, decide_false, if_true, if_false, Bool.false_eq_true, Bool.and_false, Bool.false_and]
            · have c2' : ((at_ K_Piiq l i).1 ≥ (at_ K_Piiq l i).2.1) := Int.not_lt.1 c2
              simp only [c1, c1', c2, c2', edgeB, decide_true, decide_false, if_true, if_false, Bool.false_eq_true, Bool.and_false, Bool.false_and])
        (by intro back; unfold impl_IsGraph_l0_r; simp only [lt_not, Bool.false_eq_true, if_false]) l.length 0 (by omega) (by omega)
      simp only [Int.natCast_zero] at this
      simp only [this, Nat.sub_zero, graph_allB]
      cases (l.all (edgeB n) && risingE l) <;> rfl
  · cases h
theorem l2Good_lim (d) (r) (h : G_graph d = some r) : ∃ N, F_spec_l2Good N d = some r := by
  obtain ⟨⟨n, l, u⟩, _⟩ := d
  unfold G_graph at h
  split at h
  · rename_i hl
    have hl : l.length ≤ lim := of_decide_eq_true hl
    have hmx := lim_max hl
    have h := Option.some.inj h
    subst h
    refine ⟨l.length + 1, ?_⟩
    unfold F_spec_l2Good
    have := loop_all (L := spec_l2Good_l0 (l.length + 1)) (r := spec_l2Good_l0_r (l.length + 1)) (fun _ _ => rfl) (n := l.length) (mk := fun i => ((n, l, u), (i : Int), ())) (p := fun i => (inB 0 (IntKind.wrap .i64 (n - 1)) (at_ K_Piiq l i).1 && inB 0 (IntKind.wrap .i64 (n - 1)) (at_ K_Piiq l i).2.1 && decide ((at_ K_Piiq l i).1 < (at_ K_Piiq l i).2.1)) && (!decide (0 < i) || lessE (at_ K_Piiq l (i - 1)) (at_ K_Piiq l i))) (o := .inl (false, ())) (f := .inr (.inl ((n, l, u), ())))
        (by
          intro back i hi
          unfold spec_l2Good_l0_r
          simp only [lt_dec hi, if_true, idxIn_nat hi, Int.toNat_natCast, wrap_up hi hmx, pos_dec, l1In_eq, l2Before_eq]
          cases c1 : inB 0 (IntKind.wrap .i64 (n - 1)) (at_ K_Piiq l i).1 with
          | false => rfl
          | true =>
            cases c2 : inB 0 (IntKind.wrap .i64 (n - 1)) (at_ K_Piiq l i).2.1 with
            | false => rfl
            | true =>
              by_cases c3 : (at_ K_Piiq l i).1 < (at_ K_Piiq l i).2.1
              · have c3' : ¬ ((at_ K_Piiq l i).1 ≥ (at_ K_Piiq l i).2.1) := Int.not_le.2 c3
                by_cases h0 : 0 < i
                · have h1 : i - 1 < l.length := by omega
                  simp only [c3, c3', decide_true, decide_false, if_true, if_false, Bool.false_eq_true, Bool.true_and, h0, wrap_down h0 (show i ≤ maxLen by omega), idxIn_nat h1, Int.toNat_natCast, Bool.not_true, Bool.false_or]
                  cases lessE (at_ K_Piiq l (i - 1)) (at_ K_Piiq l i) <;> rfl
                · simp only [c3, c3', decide_true, decide_false, if_true, if_false, Bool.false_eq_true, Bool.true_and, h0, Bool.not_false, Bool.true_or, Bool.not_true]
              · have c3' : ((at_ K_Piiq l i).1 ≥ (at_ K_Piiq l i).2.1) := Int.not_lt.1 c3
                simp only [c3, c3', decide_true, decide_false, if_true, if_false, Bool.false_eq_true, Bool.true_and, Bool.false_and, Bool.not_true])
        (by intro back; unfold spec_l2Good_l0_r; simp only [lt_not, Bool.false_eq_true, if_false]) l.length 0 (by omega) (by omega)
    simp only [Int.natCast_zero] at this
    simp only [this, Nat.sub_zero, graphB]
    cases hn : inB 0 8 n with
    | false =>
      have hn' := hn
      simp only [inB] at hn'
      simp only [hn', Bool.false_and]
      split <;> simp [l1In_eq, hn]
    | true =>
      have hn' := hn
      simp only [inB] at hn'
      simp only [hn', Bool.true_and]
      simp only [Bool.and_eq_true, decide_eq_true_eq] at hn'
      have hw : IntKind.wrap .i64 (n - 1) = n - 1 := wrap_in _ (by omega) (by omega)
      have hp : (fun i => (inB 0 (IntKind.wrap .i64 (n - 1)) (at_ K_Piiq l i).1 && inB 0 (IntKind.wrap .i64 (n - 1)) (at_ K_Piiq l i).2.1 && decide ((at_ K_Piiq l i).1 < (at_ K_Piiq l i).2.1)) && (!decide (0 < i) || lessE (at_ K_Piiq l (i - 1)) (at_ K_Piiq l i))) = (fun i => edgeB n (at_ K_Piiq l i) && (!decide (0 < i) || lessE (at_ K_Piiq l (i - 1)) (at_ K_Piiq l i))) := by
        funext i
        congr 1
        rw [hw]
        exact edge_eq n _ _
      simp only [hp, graph_allB]
      cases (l.all (edgeB n) && risingE l) <;> simp [l1In_eq, hn]
  · cases h
end Go.V.W

/- The law FnExactIsWorkshop, on plain data. -/
set_option linter.unusedVariables false
set_option linter.unusedSimpArgs false
namespace Go.V.W
open Go.Proofs

/-! ### sizes -/
theorem sz_wrap {a : Int} {n : Nat} (h0 : 0 ≤ a) (h1 : a ≤ 1048576) (hn : n ≤ maxLen) : IntKind.wrap .i64 (a - (n : Int)) = a - (n : Int) := by
  unfold maxLen at hn
  exact Go.IntWalk.i64_in _ (by omega)
theorem szStep_le {a : Int} {n : Nat} (h : ¬ szStep a n < 0) : n ≤ a ∧ szStep a n = a - n := by
  unfold szStep at h ⊢
  split at h
  · omega
  · exact ⟨by omega, by rw [if_neg (by assumption)]⟩
theorem szStep_neg {a : Int} {n : Nat} (h : szStep a n < 0) : szStep a n = -1 := by
  unfold szStep at h ⊢
  split at h
  · rw [if_pos (by assumption)]
  · omega
theorem szA2S_eq (l : List E) (a : Int) (u : Unit) (h0 : 0 ≤ a) (h1 : a ≤ 1048576) (hl : l.length ≤ maxLen) : g_laws_szIntA2S (l, a, u) = (szStep a l.length, ()) := by
  unfold g_laws_szIntA2S szStep
  simp only [sz_wrap h0 h1 hl]
  by_cases h : a - (l.length : Int) < 0 <;> simp only [h, decide_true, decide_false, if_true, if_false, Bool.false_eq_true]
theorem szS_eq (l : List Int) (a : Int) (u : Unit) (h0 : 0 ≤ a) (h1 : a ≤ 1048576) (hl : l.length ≤ maxLen) : g_laws_szIntS (l, a, u) = (szStep a l.length, ()) := by
  unfold g_laws_szIntS szStep
  simp only [sz_wrap h0 h1 hl]
  by_cases h : a - (l.length : Int) < 0 <;> simp only [h, decide_true, decide_false, if_true, if_false, Bool.false_eq_true]
theorem szGraph_eq (n : Int) (l : List E) (v : Unit) (a : Int) (u : Unit) (h0 : 0 ≤ a) (h1 : a ≤ 1048576) (hl : l.length ≤ maxLen) : g_laws_szGraph ((n, l, v), a, u) = (szStep a l.length, ()) := by
  unfold g_laws_szGraph
  simp only [szA2S_eq l a () h0 h1 hl]
  by_cases h : szStep a l.length < 0
  · simp [szStep_neg h]
  · simp only [h, decide_false, if_false, Bool.false_eq_true]
abbrev Wk := Gr × Int × Int × List Int × Int × Unit
theorem szWorkshop_neg (n : Int) (l : List E) (v : Unit) (p q : Int) (m : List Int) (t : Int) (u : Unit) (hl : l.length ≤ maxLen) (hm : m.length ≤ maxLen) : (g_laws_szWorkshop (((n, l, v), p, q, m, t, u), (1048576 : Int), ())).1 < 0 ∨ (l.length ≤ 1048576 ∧ m.length ≤ 1048576) := by
  unfold g_laws_szWorkshop
  simp only [szGraph_eq n l v 1048576 () (by omega) (by omega) hl]
  by_cases h : szStep 1048576 l.length < 0
  · left; simp only [h, decide_true, if_true]; decide
  · have := szStep_le h
    simp only [h, decide_false, if_false, Bool.false_eq_true, szS_eq m (szStep 1048576 l.length) () (by omega) (by omega) hm]
    by_cases h' : szStep (szStep 1048576 l.length) m.length < 0
    · left; simp only [h', decide_true, if_true]; decide
    · have := szStep_le h'
      right; omega

/-! ### copies, equality -/
theorem okL_of {α : Type} {l : List α} (h : l.length ≤ 1048576) : okL l = true := decide_eq_true (by unfold lim; omega)
theorem toGraph_eq (n : Int) (l : List E) (u : Unit) (v : Unit) (hl : okL l = true) : F_laws_toGraph 0 ((n, l, u), v) = some ((n, l, u), v) := by
  unfold F_laws_toGraph G_toIntA2S
  simp only [hl, if_true, Option.bind_some]
theorem toWorkshop_eq (n : Int) (l : List E) (v : Unit) (p q : Int) (m : List Int) (t : Int) (u w : Unit) (hl : okL l = true) (hm : okL m = true) : F_laws_toWorkshop 0 (((n, l, v), p, q, m, t, u), w) = some (((n, l, v), p, q, m, t, u), w) := by
  unfold F_laws_toWorkshop G_toIntS
  simp only [toGraph_eq n l v _ hl, hm, if_true, Option.bind_some]
theorem eqGraph_self (n : Int) (l : List E) (u v w : Unit) (hl : okL l = true) : F_laws_eqGraph 0 ((n, l, u), (n, l, v), w) = some (true, ()) := by
  unfold F_laws_eqGraph G_eqIntA2S
  simp only [bne_self_eq_false, Bool.false_eq_true, if_false, hl, if_true, decide_true, Option.bind_some, Bool.not_true]
theorem eqWorkshop_self (n : Int) (l : List E) (v : Unit) (p q : Int) (m : List Int) (t : Int) (u w : Unit) (hl : okL l = true) (hm : okL m = true) : F_laws_eqWorkshop 0 (((n, l, v), p, q, m, t, u), ((n, l, v), p, q, m, t, u), w) = some (true, ()) := by
  unfold F_laws_eqWorkshop G_eqIntS
  simp only [eqGraph_self n l v v _ hl, hm, bne_self_eq_false, Bool.false_eq_true, if_false, if_true, decide_true, Option.bind_some, Bool.not_true]

/-! ### the workshop -/
def workB (w : Wk) : Bool := graphB w.1 && inB (-1) (w.1.1 - 1) w.2.1 && inB (-1) (w.1.1 - 1) w.2.2.1 && (w.2.2.2.1.all (inB 0 (w.1.1 - 1)) && risingB w.2.2.2.1) && inB 0 1000 w.2.2.2.2.1
theorem graphB_n {n : Int} {l : List E} {u : Unit} (h : graphB (n, l, u) = true) : 0 ≤ n ∧ n ≤ 8 := by
  unfold graphB at h
  simp only [Bool.and_eq_true, decide_eq_true_eq] at h
  exact ⟨h.1.1.1, h.1.1.2⟩
theorem specW (n : Int) (l : List E) (v : Unit) (p q : Int) (m : List Int) (t : Int) (u w : Unit) (hl : okL l = true) (hm : okL m = true) : F_spec_IsWorkshop 0 (((n, l, v), p, q, m, t, u), w) = some (workB ((n, l, v), p, q, m, t, u), ()) := by
  unfold F_spec_IsWorkshop F_spec_l12Good workB F_spec_l2Set G_l1Rising G_graph g_spec_l12Spot
  simp only [hl, hm, if_true, Option.bind_some, l1In_eq]
  cases hg : graphB (n, l, v) with
  | false => rfl
  | true =>
    have := graphB_n hg
    have hw : IntKind.wrap .i64 (n - 1) = n - 1 := wrap_in _ (by omega) (by omega)
    simp only [hw, if_true, Bool.true_and]
    cases inB (-1) (n - 1) p <;> cases inB (-1) (n - 1) q <;> cases (m.all (inB 0 (n - 1)) && risingB m) <;> simp
theorem implW (n : Int) (l : List E) (v : Unit) (p q : Int) (m : List Int) (t : Int) (u w : Unit) (hl : okL l = true) (hm : okL m = true) : F_impl_IsWorkshop 0 (((n, l, v), p, q, m, t, u), w) = some (workB ((n, l, v), p, q, m, t, u), ()) := by
  unfold F_impl_IsWorkshop F_impl_isSet F_impl_hasNodes workB G_allWithin G_increasing G_graph
  simp only [hl, hm, if_true, Option.bind_some, within_eq]
  cases hg : graphB (n, l, v) with
  | false => rfl
  | true =>
    have := graphB_n hg
    have hw : IntKind.wrap .i64 (n - 1) = n - 1 := wrap_in _ (by omega) (by omega)
    simp only [hw, if_true, Bool.true_and, Option.bind_some]
    cases inB (-1) (n - 1) p <;> cases inB (-1) (n - 1) q <;> cases m.all (inB 0 (n - 1)) <;> cases risingB m <;> simp
theorem law2 : ∀ d, WfD (Kd.tuple ([(K_PPiSPiiqqiiSiiq, false)].map (·.1))) d → ∃ out, F_laws_FnExactIsWorkshop 0 d = some out ∧ (splitT [.bool] [] out).1.1 = true := by
  rintro ⟨⟨⟨n, l, v⟩, p, q, m, t, u⟩, w⟩ ⟨⟨⟨_, hl, _⟩, _, _, hm, _⟩, _⟩
  have hl : l.length ≤ maxLen := hl.1
  have hm : m.length ≤ maxLen := hm.1
  refine ⟨(true, ()), ?_, rfl⟩
  unfold F_laws_FnExactIsWorkshop
  rcases szWorkshop_neg n l v p q m t u hl hm with h | ⟨h1, h2⟩
  · simp only [h, decide_true, if_true]
  · have h1 := okL_of h1
    have h2 := okL_of h2
    simp only [toWorkshop_eq n l v p q m t u _ h1 h2, specW n l v p q m t u _ h1 h2, implW n l v p q m t u _ h1 h2, eqWorkshop_self n l v p q m t u _ h1 h2, Option.bind_some, beq_self_eq_true, Bool.not_true, Bool.false_eq_true, if_false]
    split <;> rfl
end Go.V.W

/- Marks that are set and asked for, told plainly; copies of the library. -/
set_option linter.unusedVariables false
set_option linter.unusedSimpArgs false
namespace Go.V.W
open Go.Proofs

theorem cloneA2_lim (d) (r) (h : G_toIntA2S d = some r) : ∃ N, F_slices_Clone_S_2_int_2_int N d = some r := by
  obtain ⟨l, _⟩ := d
  unfold G_toIntA2S at h
  split at h
  · rename_i hl
    have hl : l.length ≤ lim := of_decide_eq_true hl
    have h := Option.some.inj h
    subst h
    refine ⟨0, ?_⟩
    unfold F_slices_Clone_S_2_int_2_int
    have h1 : decide (List.length ([] : List E) + l.length ≤ lim) = true := by simp [hl]
    simp only [h1, if_true, List.nil_append]
    split
    · rename_i h0
      have : l = [] := List.length_eq_zero_iff.1 (of_decide_eq_true h0)
      subst this
      simp [both]
    · rfl
  · cases h
theorem okK_of {k : Int} (h : okK k = true) : 0 ≤ k ∧ k ≤ 4398046511104 := by
  simp only [okK, Bool.and_eq_true, decide_eq_true_eq] at h
  exact h
theorem at_mid {e : Kd} (pre : List e.den) (x : e.den) (rest : List e.den) : at_ e (pre ++ x :: rest) pre.length = x := by
  rw [at_get (e := e) (by simp)]
  simp
theorem set_mid {α : Type} (pre : List α) (x y : α) (rest : List α) : List.set (pre ++ x :: rest) pre.length y = (pre ++ [y]) ++ rest := by
  simp
theorem mid_lt {α : Type} (pre : List α) (x : α) (rest : List α) : pre.length < (pre ++ x :: rest).length := by simp
theorem markIntS_l0 (N : Nat) : ∀ (rest pre : List Int) (k : Int) (n : Nat), pre.length + rest.length ≤ lim → rest.length ≤ n → 0 ≤ k → k + rest.length ≤ 9007199254740992 →
    laws_markIntS_l0 N (n + 1) (pre ++ rest, k, (pre.length : Int), ()) = some (.inl (pre ++ markL k rest, k + rest.length, ())) := by
  intro rest
  induction rest with
  | nil =>
    intro pre k n h1 h2 h3 h4
    simp [laws_markIntS_l0, laws_markIntS_l0_r, markL]
  | cons x rest ih =>
    intro pre k n h1 h2 h3 h4
    simp only [List.length_cons] at h1 h2 h4
    have hlt := mid_lt pre x rest
    have hmx : (pre ++ x :: rest).length ≤ maxLen := by
      have := lim_max h1
      simpa using this
    obtain ⟨n, rfl⟩ : ∃ m, n = m + 1 := ⟨n - 1, by omega⟩
    show laws_markIntS_l0_r N (laws_markIntS_l0 N (n + 1)) (pre ++ x :: rest, k, (pre.length : Int), ()) = _
    unfold laws_markIntS_l0_r
    have hw : IntKind.wrap .i64 (k + 1) = k + 1 := wrap_in _ (by omega) (by omega)
    simp only [lt_dec hlt, if_true, idxIn_nat hlt, Int.toNat_natCast, wrap_up hlt hmx, hw, set_mid]
    have := ih (pre ++ [k]) (k + 1) n (by simp; omega) (by omega) (by omega) (by omega)
    rw [show (pre ++ [k]).length = pre.length + 1 by simp] at this
    rw [this]
    simp [markL]
    omega
theorem markIntS_lim (d) (r) (h : G_markIntS d = some r) : ∃ N, F_laws_markIntS N d = some r := by
  obtain ⟨l, k, _⟩ := d
  unfold G_markIntS at h
  split at h
  · rename_i hl
    simp only [Bool.and_eq_true] at hl
    have hk := okK_of hl.2
    have hl : l.length ≤ lim := of_decide_eq_true hl.1
    have h := Option.some.inj h
    subst h
    refine ⟨l.length + 1, ?_⟩
    unfold F_laws_markIntS
    have := markIntS_l0 (l.length + 1) l [] k l.length (by simpa using hl) (Nat.le_refl _) hk.1 (by unfold lim at hl; omega)
    simp only [List.nil_append, List.length_nil, Int.natCast_zero] at this
    simp only [this, Option.bind_some]
  · cases h
theorem heldIntS_l0 (N : Nat) : ∀ (rest pre : List Int) (k : Int) (n : Nat), pre.length + rest.length ≤ lim → rest.length ≤ n → 0 ≤ k → k + rest.length ≤ 9007199254740992 →
    laws_heldIntS_l0 N (n + 1) (pre ++ rest, k, (pre.length : Int), ()) = some (.inl (heldL k rest, ())) ∨ laws_heldIntS_l0 N (n + 1) (pre ++ rest, k, (pre.length : Int), ()) = some (.inr (.inl (heldL k rest, ()))) := by
  intro rest
  induction rest with
  | nil =>
    intro pre k n h1 h2 h3 h4
    right
    simp [laws_heldIntS_l0, laws_heldIntS_l0_r, heldL]
  | cons x rest ih =>
    intro pre k n h1 h2 h3 h4
    simp only [List.length_cons] at h1 h2 h4
    have hlt := mid_lt pre x rest
    have hmx : (pre ++ x :: rest).length ≤ maxLen := by
      have := lim_max h1
      simpa using this
    obtain ⟨n, rfl⟩ : ∃ m, n = m + 1 := ⟨n - 1, by omega⟩
    have hw : IntKind.wrap .i64 (k + 1) = k + 1 := wrap_in _ (by omega) (by omega)
    have hstep : laws_heldIntS_l0 N (n + 1 + 1) (pre ++ x :: rest, k, (pre.length : Int), ()) = if x = k then laws_heldIntS_l0 N (n + 1) (pre ++ x :: rest, k + 1, ((pre.length + 1 : Nat) : Int), ()) else some (.inl (-1, ())) := by
      show laws_heldIntS_l0_r N (laws_heldIntS_l0 N (n + 1)) (pre ++ x :: rest, k, (pre.length : Int), ()) = _
      unfold laws_heldIntS_l0_r
      simp only [lt_dec hlt, if_true, idxIn_nat hlt, Int.toNat_natCast, wrap_up hlt hmx, hw, at_mid (e := I)]
      by_cases he : x = k
      · simp [he]
      · have : (x != k) = true := by simpa using he
        simp only [this, if_true, he, if_false]
    rw [hstep]
    simp only [heldL]
    by_cases he : x = k
    · simp only [he, if_true]
      have := ih (pre ++ [k]) (k + 1) n (by simp; omega) (by omega) (by omega) (by omega)
      rw [show (pre ++ [k]).length = pre.length + 1 by simp, List.append_assoc] at this
      exact this
    · simp [he]
theorem heldIntS_lim (d) (r) (h : G_heldIntS d = some r) : ∃ N, F_laws_heldIntS N d = some r := by
  obtain ⟨l, k, _⟩ := d
  unfold G_heldIntS at h
  split at h
  · rename_i hl
    simp only [Bool.and_eq_true] at hl
    have hk := okK_of hl.2
    have hl : l.length ≤ lim := of_decide_eq_true hl.1
    have h := Option.some.inj h
    subst h
    refine ⟨l.length + 1, ?_⟩
    unfold F_laws_heldIntS
    have := heldIntS_l0 (l.length + 1) l [] k l.length (by simpa using hl) (Nat.le_refl _) hk.1 (by unfold lim at hl; omega)
    simp only [List.nil_append, List.length_nil, Int.natCast_zero] at this
    rcases this with this | this <;> simp only [this, Option.bind_some]
  · cases h
/-! ### pairs -/
theorem markIntA2S_l0 (N : Nat) : ∀ (rest pre : List E) (k : Int) (n : Nat), pre.length + rest.length ≤ lim → rest.length ≤ n → 0 ≤ k → k + 2 * rest.length ≤ 9007199254740992 →
    laws_markIntA2S_l0 (N + 3) (n + 1) (pre ++ rest, k, (pre.length : Int), ()) = some (.inl (pre ++ markA k rest, k + 2 * rest.length, ())) := by
  intro rest
  induction rest with
  | nil =>
    intro pre k n h1 h2 h3 h4
    simp [laws_markIntA2S_l0, laws_markIntA2S_l0_r, markA]
  | cons x rest ih =>
    intro pre k n h1 h2 h3 h4
    simp only [List.length_cons] at h1 h2 h4
    have hlt := mid_lt pre x rest
    have hmx : (pre ++ x :: rest).length ≤ maxLen := by
      have := lim_max h1
      simpa using this
    obtain ⟨n, rfl⟩ : ∃ m, n = m + 1 := ⟨n - 1, by omega⟩
    have hw : IntKind.wrap .i64 (k + 1) = k + 1 := wrap_in _ (by omega) (by omega)
    have hw2 : IntKind.wrap .i64 (k + 1 + 1) = k + 1 + 1 := wrap_in _ (by omega) (by omega)
    have hin : laws_markIntA2S_l2 (N + 3) (N + 3) (pre ++ x :: rest, k, (pre.length : Int), (0 : Int), ()) = some (.inl (pre ++ (k, k + 1, ()) :: rest, k + 1 + 1, (pre.length : Int), ())) := by
      have i1 : idxIn (pre.length : Int) (pre.length + (rest.length + 1)) = true := idxIn_nat (by omega)
      have w0 : IntKind.wrap .i64 1 = 1 := wrap_in _ (by omega) (by omega)
      have w1 : IntKind.wrap .i64 2 = 2 := wrap_in _ (by omega) (by omega)
      have a1 := at_mid (e := K_Piiq) pre x rest
      have a2 := at_mid (e := K_Piiq) pre (k, x.2) rest
      simp [laws_markIntA2S_l2, laws_markIntA2S_l2_r, i1, hw, hw2, w0, w1, a1, a2]
    show laws_markIntA2S_l0_r (N + 3) (laws_markIntA2S_l0 (N + 3) (n + 1)) (pre ++ x :: rest, k, (pre.length : Int), ()) = _
    unfold laws_markIntA2S_l0_r
    simp only [lt_dec hlt, if_true, hin, Option.bind_some, wrap_up hlt hmx]
    have := ih (pre ++ [(k, k + 1, ())]) (k + 1 + 1) n (by simp; omega) (by omega) (by omega) (by omega)
    rw [show (pre ++ [((k, k + 1, ()) : E)]).length = pre.length + 1 by simp, List.append_assoc] at this
    simp only [List.singleton_append] at this
    rw [this]
    simp [markA, show k + 1 + 1 = k + 2 by omega]
    omega
theorem markIntA2S_lim (d) (r) (h : G_markIntA2S d = some r) : ∃ N, F_laws_markIntA2S N d = some r := by
  obtain ⟨l, k, _⟩ := d
  unfold G_markIntA2S at h
  split at h
  · rename_i hl
    simp only [Bool.and_eq_true] at hl
    have hk := okK_of hl.2
    have hl : l.length ≤ lim := of_decide_eq_true hl.1
    have h := Option.some.inj h
    subst h
    refine ⟨l.length + 3, ?_⟩
    unfold F_laws_markIntA2S
    have := markIntA2S_l0 l.length l [] k (l.length + 2) (by simpa using hl) (by omega) hk.1 (by unfold lim at hl; omega)
    simp only [List.nil_append, List.length_nil, Int.natCast_zero] at this
    simp only [this, Option.bind_some]
  · cases h
theorem heldIntA2S_l0 (N : Nat) : ∀ (rest pre : List E) (k : Int) (n : Nat), pre.length + rest.length ≤ lim → rest.length ≤ n → 0 ≤ k → k + 2 * rest.length ≤ 9007199254740992 →
    laws_heldIntA2S_l0 (N + 3) (n + 1) (pre ++ rest, k, (pre.length : Int), ()) = some (.inl (heldA k rest, ())) ∨ laws_heldIntA2S_l0 (N + 3) (n + 1) (pre ++ rest, k, (pre.length : Int), ()) = some (.inr (.inl (heldA k rest, ()))) := by
  intro rest
  induction rest with
  | nil =>
    intro pre k n h1 h2 h3 h4
    right
    simp [laws_heldIntA2S_l0, laws_heldIntA2S_l0_r, heldA]
  | cons x rest ih =>
    intro pre k n h1 h2 h3 h4
    simp only [List.length_cons] at h1 h2 h4
    have hlt := mid_lt pre x rest
    have hmx : (pre ++ x :: rest).length ≤ maxLen := by
      have := lim_max h1
      simpa using this
    obtain ⟨n, rfl⟩ : ∃ m, n = m + 1 := ⟨n - 1, by omega⟩
    have hw : IntKind.wrap .i64 (k + 1) = k + 1 := wrap_in _ (by omega) (by omega)
    have hw2 : IntKind.wrap .i64 (k + 1 + 1) = k + 1 + 1 := wrap_in _ (by omega) (by omega)
    have hin : laws_heldIntA2S_l2 (N + 3) (N + 3) (pre ++ x :: rest, k, (pre.length : Int), (0 : Int), ()) = if x.1 = k then (if x.2.1 = k + 1 then some (.inr (.inl (pre ++ x :: rest, k + 1 + 1, (pre.length : Int), ()))) else some (.inl (-1, ()))) else some (.inl (-1, ())) := by
      have i1 : idxIn (pre.length : Int) (pre.length + (rest.length + 1)) = true := idxIn_nat (by omega)
      have w0 : IntKind.wrap .i64 1 = 1 := wrap_in _ (by omega) (by omega)
      have w1 : IntKind.wrap .i64 2 = 2 := wrap_in _ (by omega) (by omega)
      have a1 := at_mid (e := K_Piiq) pre x rest
      by_cases c1 : x.1 = k
      · by_cases c2 : x.2.1 = k + 1
        · simp [laws_heldIntA2S_l2, laws_heldIntA2S_l2_r, i1, hw, hw2, w0, w1, a1, c1, c2]
        · simp [laws_heldIntA2S_l2, laws_heldIntA2S_l2_r, i1, hw, hw2, w0, w1, a1, c1, c2]
      · simp [laws_heldIntA2S_l2, laws_heldIntA2S_l2_r, i1, hw, hw2, w0, w1, a1, c1]
    have hstep : laws_heldIntA2S_l0 (N + 3) (n + 1 + 1) (pre ++ x :: rest, k, (pre.length : Int), ()) = if x.1 = k then (if x.2.1 = k + 1 then laws_heldIntA2S_l0 (N + 3) (n + 1) (pre ++ x :: rest, k + 1 + 1, ((pre.length + 1 : Nat) : Int), ()) else some (.inl (-1, ()))) else some (.inl (-1, ())) := by
      show laws_heldIntA2S_l0_r (N + 3) (laws_heldIntA2S_l0 (N + 3) (n + 1)) (pre ++ x :: rest, k, (pre.length : Int), ()) = _
      unfold laws_heldIntA2S_l0_r
      simp only [lt_dec hlt, if_true, hin, wrap_up hlt hmx]
      by_cases c1 : x.1 = k
      · by_cases c2 : x.2.1 = k + 1
        · simp only [c1, c2, if_true, Option.bind_some, wrap_up hlt hmx]
        · simp only [c1, c2, if_true, if_false, Option.bind_some]
      · simp only [c1, if_false, Option.bind_some]
    rw [hstep]
    simp only [heldA]
    by_cases c1 : x.1 = k
    · by_cases c2 : x.2.1 = k + 1
      · simp only [c1, c2, if_true]
        have := ih (pre ++ [x]) (k + 1 + 1) n (by simp; omega) (by omega) (by omega) (by omega)
        rw [show (pre ++ [x]).length = pre.length + 1 by simp, List.append_assoc, show k + 1 + 1 = k + 2 by omega] at this
        rw [show k + 1 + 1 = k + 2 by omega]
        exact this
      · simp [c1, c2]
    · simp [c1]
theorem heldIntA2S_lim (d) (r) (h : G_heldIntA2S d = some r) : ∃ N, F_laws_heldIntA2S N d = some r := by
  obtain ⟨l, k, _⟩ := d
  unfold G_heldIntA2S at h
  split at h
  · rename_i hl
    simp only [Bool.and_eq_true] at hl
    have hk := okK_of hl.2
    have hl : l.length ≤ lim := of_decide_eq_true hl.1
    have h := Option.some.inj h
    subst h
    refine ⟨l.length + 3, ?_⟩
    unfold F_laws_heldIntA2S
    have := heldIntA2S_l0 l.length l [] k (l.length + 2) (by simpa using hl) (by omega) hk.1 (by unfold lim at hl; omega)
    simp only [List.nil_append, List.length_nil, Int.natCast_zero] at this
    rcases this with this | this <;> simp only [this, Option.bind_some]
  · cases h

/-! ### What was marked is held -/
theorem held_markL : ∀ (l : List Int) (k : Int), heldL k (markL k l) = k + l.length := by
  intro l
  induction l with
  | nil => intro k; simp [markL, heldL]
  | cons x l ih => intro k; simp only [markL, heldL, if_true, ih, List.length_cons]; omega
theorem held_markA : ∀ (l : List E) (k : Int), heldA k (markA k l) = k + 2 * l.length := by
  intro l
  induction l with
  | nil => intro k; simp [markA, heldA]
  | cons x l ih => intro k; simp only [markA, heldA, if_true, ih, List.length_cons]; omega
theorem markL_len : ∀ (l : List Int) (k : Int), (markL k l).length = l.length := by
  intro l
  induction l with
  | nil => intro k; rfl
  | cons x l ih => intro k; simp [markL, ih]
theorem markA_len : ∀ (l : List E) (k : Int), (markA k l).length = l.length := by
  intro l
  induction l with
  | nil => intro k; rfl
  | cons x l ih => intro k; simp [markA, ih]
end Go.V.W

/- The law FnExactNewWorkshop, on plain data. -/
set_option linter.unusedVariables false
set_option linter.unusedSimpArgs false
namespace Go.V.W
open Go.Proofs

def newW (n : Int) (l : List E) (v : Unit) : Wk × Bool × Unit := if graphB (n, l, v) = true then (((n, l, ()), -1, -1, [], 0, ()), true, ()) else (((0, [], ()), 0, 0, [], 0, ()), false, ())
theorem okL_nil {α : Type} : okL ([] : List α) = true := decide_eq_true (by simp)
theorem okL_lim {α : Type} {l : List α} (h : okL l = true) : l.length ≤ lim := of_decide_eq_true h
theorem specNew (n : Int) (l : List E) (v w : Unit) (hl : okL l = true) : F_spec_NewWorkshop 0 ((n, l, v), w) = some (newW n l v) := by
  unfold F_spec_NewWorkshop
  have h1 := specW n l v (-1) (-1) [] 0 () () hl okL_nil
  unfold F_spec_IsWorkshop at h1
  rw [Option.bind_eq_some_iff] at h1
  obtain ⟨⟨b, u⟩, h2, h3⟩ := h1
  simp only [Option.some.injEq, Prod.mk.injEq, and_true] at h3
  subst h3
  have hlim : decide (List.length ([] : List E) + l.length ≤ lim) = true := by have := okL_lim hl; simp [this]
  have hlim2 : decide (List.length ([] : List Int) + List.length ([] : List Int) ≤ lim) = true := by simp
  simp only [h2, Option.bind_some]
  have hb : workB ((n, l, v), -1, -1, [], 0, ()) = graphB (n, l, v) := by
    unfold workB
    cases hg : graphB (n, l, v) with
    | false => rfl
    | true =>
      have := graphB_n hg
      have e : inB (-1) (n - 1) (-1) = true := by unfold inB; simp; omega
      simp only [e, List.all_nil, risingB, Bool.and_self, Bool.true_and]
      decide
  rw [hb]
  unfold newW
  cases hg : graphB (n, l, v) with
  | false => rfl
  | true =>
    simp only [Bool.not_true, Bool.false_eq_true, if_false, if_true]
    unfold F_spec_l12Own F_spec_l1Own
    simp only [hlim, hlim2, if_true, Option.bind_some, List.nil_append]
theorem implNew (n : Int) (l : List E) (v w : Unit) (hl : okL l = true) : F_impl_NewWorkshop 0 ((n, l, v), w) = some (newW n l v) := by
  unfold F_impl_NewWorkshop G_graph G_toIntA2S newW
  simp only [hl, if_true, Option.bind_some]
  cases hg : graphB (n, l, v) <;> rfl
theorem eqNew (n : Int) (l : List E) (v : Unit) (hl : okL l = true) : F_laws_eqWorkshop 0 ((newW n l v).1, (newW n l v).1, ()) = some (true, ()) := by
  unfold newW
  split
  · exact eqWorkshop_self n l () (-1) (-1) [] 0 () () hl okL_nil
  · exact eqWorkshop_self 0 [] () 0 0 [] 0 () () okL_nil okL_nil
theorem markGraph_eq (n : Int) (l : List E) (v w : Unit) (k : Int) (hl : okL l = true) (hk : okK k = true) : F_laws_markGraph 0 ((n, l, v), k, w) = some (k + 2 * (l.length : Int), (n, markA k l, v), ()) := by
  unfold F_laws_markGraph G_markIntA2S
  simp only [hl, hk, Bool.and_self, if_true, Option.bind_some]
theorem markWorkshop_eq (n : Int) (l : List E) (v : Unit) (p q : Int) (m : List Int) (t : Int) (u w : Unit) (k : Int) (hl : okL l = true) (hm : okL m = true) (hk : okK k = true) (hk2 : okK (k + 2 * (l.length : Int)) = true) :
    F_laws_markWorkshop 0 (((n, l, v), p, q, m, t, u), k, w) = some (k + 2 * (l.length : Int) + (m.length : Int), ((n, markA k l, v), p, q, markL (k + 2 * (l.length : Int)) m, t, u), ()) := by
  unfold F_laws_markWorkshop G_markIntS
  simp only [markGraph_eq n l v _ k hl hk, hm, hk2, Bool.and_self, if_true, Option.bind_some]
theorem okK_small {k : Int} (h : 0 ≤ k) (h2 : k ≤ 4398046511104) : okK k = true := by unfold okK; simp [h, h2]
theorem markA_ok {k : Int} {l : List E} (h : okL l = true) : okL (markA k l) = true := by unfold okL at h ⊢; rwa [markA_len]
theorem markL_ok {k : Int} {l : List Int} (h : okL l = true) : okL (markL k l) = true := by unfold okL at h ⊢; rwa [markL_len]
theorem heldWorkshop_marked (n : Int) (l : List E) (v : Unit) (p q : Int) (m : List Int) (t : Int) (u w : Unit) (k : Int) (hl : okL l = true) (hm : okL m = true) (hk : okK k = true) (hk2 : okK (k + 2 * (l.length : Int)) = true) :
    F_laws_heldWorkshop 0 (((n, markA k l, v), p, q, markL (k + 2 * (l.length : Int)) m, t, u), k, w) = some (k + 2 * (l.length : Int) + (m.length : Int), ()) := by
  have h0 := okK_of hk
  have h1 := okK_of hk2
  unfold F_laws_heldWorkshop F_laws_heldGraph G_heldIntA2S G_heldIntS
  have c1 : decide (k + 2 * (l.length : Int) < 0) = false := by simp; omega
  have c2 : decide (k + 2 * (l.length : Int) + (m.length : Int) < 0) = false := by simp; omega
  simp only [markA_ok hl, markL_ok hm, hk, hk2, Bool.and_self, if_true, Option.bind_some, held_markA, held_markL, c1, c2, Bool.false_eq_true, if_false]
theorem newW_marks (n : Int) (l : List E) (v : Unit) (h1 : l.length ≤ 1048576) : ∃ k W, F_laws_markWorkshop 0 ((newW n l v).1, 1, ()) = some (k, W, ()) ∧ F_laws_heldWorkshop 0 (W, 1, ()) = some (k, ()) ∧ 0 ≤ k := by
  have hl := okL_of h1
  unfold newW
  split
  · refine ⟨_, _, markWorkshop_eq n l () (-1) (-1) [] 0 () () 1 hl okL_nil (by decide) (okK_small (by omega) (by omega)), heldWorkshop_marked n l () (-1) (-1) [] 0 () () 1 hl okL_nil (by decide) (okK_small (by omega) (by omega)), by simp; omega⟩
  · exact ⟨_, _, markWorkshop_eq 0 [] () 0 0 [] 0 () () 1 okL_nil okL_nil (by decide) (by decide), heldWorkshop_marked 0 [] () 0 0 [] 0 () () 1 okL_nil okL_nil (by decide) (by decide), by simp⟩
theorem law3 : ∀ d, WfD (Kd.tuple ([(K_PiSPiiqq, false)].map (·.1))) d → ∃ out, F_laws_FnExactNewWorkshop 0 d = some out ∧ (splitT [.bool] [] out).1.1 = true := by
  rintro ⟨⟨n, l, v⟩, w⟩ ⟨⟨_, hl, _⟩, _⟩
  have hl : l.length ≤ maxLen := hl.1
  refine ⟨(true, ()), ?_, rfl⟩
  unfold F_laws_FnExactNewWorkshop
  simp only [szGraph_eq n l v 1048576 () (by omega) (by omega) hl]
  by_cases h : szStep 1048576 l.length < 0
  · simp only [h, decide_true, if_true]
  · have h1 := (szStep_le h).1
    have h1 : l.length ≤ 1048576 := by omega
    have ho := okL_of h1
    have hk : decide ((1 : Int) + 2 * (l.length : Int) < 0) = false := by simp; omega
    obtain ⟨k, W, hm, hh, hp⟩ := newW_marks n l v h1
    have hk2 : decide (k < 0) = false := by simp; omega
    simp only [h, decide_false, Bool.false_eq_true, if_false, toGraph_eq n l v _ ho, specNew n l v _ ho, implNew n l v _ ho, eqNew n l v ho, eqGraph_self n l v v _ ho, markGraph_eq n l v _ 1 ho (by decide), hk, hm, hh, hk2, Option.bind_some, beq_self_eq_true, bne_self_eq_false, Bool.not_true]
end Go.V.W

/- Lists of lists and timetables, told plainly; the law FnExactIsTimetable on plain data. -/
set_option linter.unusedVariables false
set_option linter.unusedSimpArgs false
namespace Go.V.W
open Go.Proofs

theorem all_at_of {e : Kd} {l : List e.den} {q : e.den → Bool} (h : l.all q = true) {i : Nat} (hi : i < l.length) : q (at_ e l i) = true := by
  rw [at_get hi]
  exact List.all_eq_true.1 h _ (List.get_mem l ⟨i, hi⟩)
theorem loop_idx {H O : Type} {L : Nat → H → Option O} {r : (H → Option O) → H → Option O} (hL : ∀ k d, L (k + 1) d = r (L k) d) {e : Kd} (l : List e.den) {mk : Nat → H} {q : e.den → Bool} {o : Nat → O} {f : O}
    (hr : ∀ back i, i < l.length → r back (mk i) = if q (at_ e l i) = true then some (o i) else back (mk (i + 1))) (hf : ∀ back, r back (mk l.length) = some f) :
    ∀ k i, i ≤ l.length → l.length ≤ i + k → L (k + 1) (mk i) = some (match idxN q (l.drop i) i with | some j => o j | none => f) := by
  intro k
  induction k with
  | zero =>
    intro i h1 h2
    have e : i = l.length := by omega
    subst e
    rw [hL, hf, List.drop_of_length_le (Nat.le_refl _)]
    rfl
  | succ k ih =>
    intro i h1 h2
    by_cases h : i < l.length
    · rw [hL, hr _ i h, List.drop_eq_getElem_cons h]
      simp only [idxN]
      have e : at_ e l i = l[i] := at_get h
      rw [e]
      by_cases hq : q l[i] = true
      · simp only [hq, if_true]
      · simp only [hq, if_false]
        exact ih (i + 1) (by omega) (by omega)
    · have e : i = l.length := by omega
      subst e
      rw [hL, hf, List.drop_of_length_le (Nat.le_refl _)]
      rfl
theorem idxI_ge {α : Type} (q : α → Bool) : ∀ (l : List α) (i : Nat), decide (idxI (idxN q l i) ≥ 0) = l.any q := by
  intro l
  induction l with
  | nil => intro i; rfl
  | cons x l ih =>
    intro i
    simp only [idxN, List.any_cons]
    by_cases h : q x = true
    · simp [h, idxI]
    · have h' : q x = false := by simpa using h
      simp only [h, if_false, h', Bool.false_or, ih]
      exact ih (i + 1)

/-! ### sizes -/
theorem szIntSS_l0 (N : Nat) (l : List (List Int)) (hl : l.length ≤ maxLen) (ha : l.all (fun x => okMx x.length) = true) : ∀ n i (a : Int), l.length ≤ i + n → i ≤ l.length → 0 ≤ a → a ≤ 1048576 →
    laws_szIntSS_l0 N (n + 1) (l, a, (i : Int), ()) = some (.inl (szFold a (l.drop i), ())) ∨ laws_szIntSS_l0 N (n + 1) (l, a, (i : Int), ()) = some (.inr (.inl (szFold a (l.drop i), ()))) := by
  intro n
  induction n with
  | zero =>
    intro i a h1 h2 h3 h4
    have e : i = l.length := by omega
    subst e
    right
    rw [List.drop_of_length_le (Nat.le_refl _)]
    simp [laws_szIntSS_l0, laws_szIntSS_l0_r, szFold]
  | succ n ih =>
    intro i a h1 h2 h3 h4
    by_cases hi : i < l.length
    · have hx : (at_ K_Si l i).length ≤ maxLen := of_decide_eq_true (all_at_of (e := K_Si) ha hi)
      have hstep : laws_szIntSS_l0 N (n + 1 + 1) (l, a, (i : Int), ()) = if szStep a (at_ K_Si l i).length < 0 then some (.inl (-1, ())) else laws_szIntSS_l0 N (n + 1) (l, szStep a (at_ K_Si l i).length, ((i + 1 : Nat) : Int), ()) := by
        show laws_szIntSS_l0_r N (laws_szIntSS_l0 N (n + 1)) (l, a, (i : Int), ()) = _
        unfold laws_szIntSS_l0_r
        simp only [lt_dec hi, if_true, idxIn_nat hi, Int.toNat_natCast, wrap_up hi hl, szS_eq (at_ K_Si l i) a () h3 h4 hx]
        by_cases h : szStep a (at_ K_Si l i).length < 0
        · simp only [h, decide_true, if_true]
        · simp only [h, decide_false, if_false, Bool.false_eq_true]
      rw [hstep, List.drop_eq_getElem_cons hi]
      have e : at_ K_Si l i = l[i] := at_get (e := K_Si) hi
      rw [e]
      simp only [szFold]
      by_cases h : szStep a l[i].length < 0
      · left; simp only [h, if_true]
      · simp only [h, if_false]
        have := szStep_le h
        exact ih (i + 1) _ (by omega) (by omega) (by omega) (by omega)
    · have e : i = l.length := by omega
      subst e
      right
      rw [List.drop_of_length_le (Nat.le_refl _)]
      simp [laws_szIntSS_l0, laws_szIntSS_l0_r, szFold]
theorem szIntSS_lim (d) (r) (h : G_szIntSS d = some r) : ∃ N, F_laws_szIntSS N d = some r := by
  obtain ⟨l, a, _⟩ := d
  unfold G_szIntSS at h
  split at h
  · rename_i hc
    simp only [Bool.and_eq_true, decide_eq_true_eq] at hc
    obtain ⟨⟨⟨h1, h2⟩, h3⟩, h4⟩ := hc
    have hl : l.length ≤ maxLen := of_decide_eq_true h1
    have h := Option.some.inj h
    subst h
    refine ⟨l.length + 1, ?_⟩
    unfold F_laws_szIntSS
    simp only [sz_wrap h3 h4 hl]
    by_cases c : szStep a l.length < 0
    · have : a - (l.length : Int) < 0 := by
        unfold szStep at c
        split at c
        · assumption
        · assumption
      simp only [this, c, decide_true, if_true]
    · have c2 := szStep_le c
      have : ¬ a - (l.length : Int) < 0 := by omega
      simp only [this, c, decide_false, if_false, Bool.false_eq_true]
      have := szIntSS_l0 (l.length + 1) l hl h2 l.length 0 (a - (l.length : Int)) (by omega) (by omega) (by omega) (by omega)
      simp only [Int.natCast_zero, List.drop_zero] at this
      rw [c2.2]
      rcases this with this | this <;> simp only [this, Option.bind_some]
  · cases h
theorem szFold_le : ∀ (l : List (List Int)) (a : Int), 0 ≤ a → a ≤ 1048576 → ¬ szFold a l < 0 → l.all (fun x => decide (x.length ≤ 1048576)) = true := by
  intro l
  induction l with
  | nil => intro a _ _ _; rfl
  | cons x l ih =>
    intro a h0 h1 h
    simp only [szFold] at h
    by_cases c : szStep a x.length < 0
    · simp only [c, if_true] at h; omega
    · simp only [c, if_false] at h
      have := szStep_le c
      simp only [List.all_cons, Bool.and_eq_true, decide_eq_true_eq]
      exact ⟨by omega, ih _ (by omega) (by omega) h⟩

/-! ### copies, equality -/
theorem okLL_of {l : List (List Int)} (h : okLL l = true) : okL l = true ∧ l.all okL = true := by
  unfold okLL at h
  simpa only [Bool.and_eq_true] using h
theorem toIntSS_l0 (N : Nat) (l : List (List Int)) (hl : l.length ≤ lim) (ha : l.all okL = true) : ∀ k, l.length ≤ k → laws_toIntSS_l0 N (k + 1) (l, List.replicate l.length ([] : List Int), (0 : Int), ()) = some (.inl (l, ())) := by
  intro k hk
  have hmx := lim_max hl
  have key : ∀ n i (m : List (List Int)), l.length ≤ i + n → i ≤ l.length → m.length = l.length → m.take i = l.take i → laws_toIntSS_l0 N (n + 1) (l, m, (i : Int), ()) = some (.inl (l, ())) := by
    intro n
    induction n with
    | zero =>
      intro i m h1 h2 h3 h4
      have e : i = l.length := by omega
      subst e
      rw [List.take_of_length_le (by omega), List.take_of_length_le (by omega)] at h4
      subst h4
      simp [laws_toIntSS_l0, laws_toIntSS_l0_r]
    | succ n ih =>
      intro i m h1 h2 h3 h4
      by_cases hi : i < l.length
      · show laws_toIntSS_l0_r N (laws_toIntSS_l0 N (n + 1)) (l, m, (i : Int), ()) = _
        unfold laws_toIntSS_l0_r
        have hx : okL (at_ K_Si l i) = true := all_at_of (e := K_Si) ha hi
        simp only [lt_dec hi, if_true, idxIn_nat hi, idxIn_nat (show i < m.length by omega), Int.toNat_natCast, wrap_up hi hmx, G_toIntS, hx, Option.bind_some]
        refine ih (i + 1) _ (by omega) (by omega) (by simp [h3]) ?_
        exact set_copy l m i _ hi (by rw [at_get (e := K_Si) hi]; rfl) h3 h4
      · have e : i = l.length := by omega
        subst e
        rw [List.take_of_length_le (by omega), List.take_of_length_le (by omega)] at h4
        subst h4
        simp [laws_toIntSS_l0, laws_toIntSS_l0_r]
  simpa using key k 0 (List.replicate l.length ([] : List Int)) (by omega) (by omega) (by simp) (by simp)
theorem toIntSS_lim (d) (r) (h : G_toIntSS d = some r) : ∃ N, F_laws_toIntSS N d = some r := by
  obtain ⟨l, _⟩ := d
  unfold G_toIntSS at h
  split at h
  · rename_i hl
    obtain ⟨h1, h2⟩ := okLL_of hl
    have hl : l.length ≤ lim := okL_lim h1
    have h := Option.some.inj h
    subst h
    refine ⟨l.length + 1, ?_⟩
    unfold F_laws_toIntSS
    have hc : (decide (0 ≤ (List.length l : Int)) && decide ((List.length l : Int) ≤ (List.length l : Int)) && decide ((List.length l : Int) ≤ (lim : Int))) = true := by simp; omega
    have := toIntSS_l0 (l.length + 1) l hl h2 l.length (Nat.le_refl _)
    simp only [hc, if_true, Int.toNat_natCast]
    rw [this]
    rfl
  · cases h
theorem eqIntSS_lim (d) (r) (h : G_eqIntSS d = some r) : ∃ N, F_laws_eqIntSS N d = some r := by
  obtain ⟨l, m, _⟩ := d
  unfold G_eqIntSS at h
  split at h
  · rename_i hll
    obtain ⟨hl1, ha⟩ := okLL_of hll
    have hl : l.length ≤ lim := okL_lim hl1
    have hmx := lim_max hl
    have h := Option.some.inj h
    subst h
    refine ⟨l.length + 1, ?_⟩
    unfold F_laws_eqIntSS
    by_cases hm : l.length = m.length
    · have := loop_all (L := laws_eqIntSS_l0 (l.length + 1)) (r := laws_eqIntSS_l0_r (l.length + 1)) (fun _ _ => rfl) (n := l.length) (mk := fun i => (l, m, (i : Int), ())) (p := fun i => decide (at_ K_Si l i = at_ K_Si m i)) (o := .inl (false, ())) (f := .inr (.inl ()))
        (by
          intro back i hi
          have hi' : i < m.length := by omega
          have hx : okL (at_ K_Si l i) = true := all_at_of (e := K_Si) ha hi
          unfold laws_eqIntSS_l0_r
          simp only [lt_dec hi, if_true, idxIn_nat hi, idxIn_nat hi', Int.toNat_natCast, wrap_up hi hmx, G_eqIntS, hx, Option.bind_some]
          by_cases he : at_ K_Si l i = at_ K_Si m i
          · simp only [he, decide_true, Bool.not_true, Bool.false_eq_true, if_false, if_true]
          · simp only [he, decide_false, Bool.not_false, Bool.false_eq_true, if_false, if_true])
        (by intro back; unfold laws_eqIntSS_l0_r; simp only [lt_not, Bool.false_eq_true, if_false]) l.length 0 (by omega) (by omega)
      simp only [Int.natCast_zero] at this
      have hne : ((List.length l : Int) != (List.length m : Int)) = false := by simp [hm]
      simp only [hne, Bool.false_eq_true, if_false, this, Nat.sub_zero]
      by_cases he : l = m
      · have : allB (fun i => decide (at_ K_Si l i = at_ K_Si m i)) l.length 0 = true := allB_iff.2 (fun j _ _ => by simp [he])
        simp only [this, if_true, Option.bind_some]
        simp only [he, decide_true]
      · have : allB (fun i => decide (at_ K_Si l i = at_ K_Si m i)) l.length 0 = false := by
          apply Bool.eq_false_iff.2
          intro ha
          apply he
          rw [allB_iff] at ha
          apply List.ext_getElem hm
          intro i h1 h2
          have := of_decide_eq_true (ha i (by omega) (by omega))
          rw [at_get (e := K_Si) h1, at_get (e := K_Si) h2] at this
          exact this
        simp only [this, he, Bool.false_eq_true, if_false, Option.bind_some, decide_false]
    · have hne : ((List.length l : Int) != (List.length m : Int)) = true := by simp; omega
      have he : ¬ l = m := fun e => hm (by rw [e])
      simp [hne, he]
  · cases h

/-! ### timetables -/
theorem index84_lim (d) (r) (h : G_index84 d = some r) : ∃ N, F_slices_IndexFunc_SSint_Sint_f84 N d = some r := by
  obtain ⟨l, ⟨u, t, v⟩, w⟩ := d
  unfold G_index84 at h
  split at h
  · rename_i hll
    obtain ⟨hl1, ha⟩ := okLL_of hll
    have hl : l.length ≤ lim := okL_lim hl1
    have hmx := lim_max hl
    have h := Option.some.inj h
    subst h
    refine ⟨l.length + 1, ?_⟩
    unfold F_slices_IndexFunc_SSint_Sint_f84
    have := loop_idx (L := slices_IndexFunc_SSint_Sint_f84_l0 (l.length + 1)) (r := slices_IndexFunc_SSint_Sint_f84_l0_r (l.length + 1)) (fun _ _ => rfl) (e := K_Si) l (mk := fun i => (l, (u, t, v), (l.length : Int), (i : Int), ())) (q := badT t) (o := fun i => .inl ((i : Int), ())) (f := .inr (.inl ()))
      (by
        intro back i hi
        have hx : okL (at_ K_Si l i) = true := all_at_of (e := K_Si) ha hi
        unfold slices_IndexFunc_SSint_Sint_f84_l0_r FV_impl_IsTimetable_1 F_impl_IsTimetable_1
        simp only [lt_dec hi, if_true, idxIn_nat hi, Int.toNat_natCast, wrap_up hi hmx, G_increasing, G_allWithin, hx, Option.bind_some, badT]
        rcases Bool.eq_false_or_eq_true (risingB (at_ K_Si l i)) with hr | hr <;> rcases Bool.eq_false_or_eq_true (List.all (at_ K_Si l i) (inB 0 (IntKind.wrap .i64 (t.2.1 - 1)))) with hq | hq <;> simp [hr, hq])
      (by intro back; unfold slices_IndexFunc_SSint_Sint_f84_l0_r; simp only [lt_not, Bool.false_eq_true, if_false]) l.length 0 (by omega) (by omega)
    simp only [Int.natCast_zero, List.drop_zero] at this
    simp only [this, Option.bind_some]
    cases idxN (badT t) l 0 <;> rfl
  · cases h
theorem contains84 (l : List (List Int)) (u : Unit) (t : Tt) (v w : Unit) (h : okLL l = true) : F_slices_ContainsFunc_SSint_Sint_f84 0 (l, (u, t, v), w) = some (l.any (badT t), ()) := by
  unfold F_slices_ContainsFunc_SSint_Sint_f84
  have e : F_slices_IndexFunc_SSint_Sint_f84 = F_slices_IndexFunc_SSint_Sint_f84 := rfl
  simp only [G_index84, h, if_true, Option.bind_some, idxI_ge]
theorem l4Field_eq (g : Gr) (u : Unit) (h : okL g.2.1 = true) : F_spec_l4Field 0 (g, 1, u) = some (graphB g && decide (g.1 > 0), ()) := by
  unfold F_spec_l4Field G_graph
  simp only [h, if_true, Option.bind_some, l1In_eq]
  cases graphB g with
  | false => rfl
  | true =>
    by_cases c : g.1 > 0
    · simp only [c, decide_true, if_true]
      rfl
    · simp only [c, decide_false, if_true, if_false, Bool.false_eq_true, Bool.and_false]
theorem l11Good_lim (d) (r) (h : G_l11Good d = some r) : ∃ N, F_spec_l11Good N d = some r := by
  obtain ⟨⟨g, p, l, u⟩, w⟩ := d
  unfold G_l11Good at h
  split at h
  · rename_i hc
    simp only [okT, Bool.and_eq_true] at hc
    obtain ⟨hg, hll⟩ := hc
    obtain ⟨hl1, ha⟩ := okLL_of hll
    have hl : l.length ≤ lim := okL_lim hl1
    have hmx := lim_max hl
    have h := Option.some.inj h
    subst h
    refine ⟨l.length + 1, ?_⟩
    unfold F_spec_l11Good
    have := loop_all (L := spec_l11Good_l0 (l.length + 1)) (r := spec_l11Good_l0_r (l.length + 1)) (fun _ _ => rfl) (n := l.length) (mk := fun i => ((g, p, l, u), (i : Int), ())) (p := fun i => !badT (g, p, l, u) (at_ K_Si l i)) (o := .inl (false, ())) (f := .inr (.inl ((g, p, l, u), ())))
      (by
        intro back i hi
        have hx : okL (at_ K_Si l i) = true := all_at_of (e := K_Si) ha hi
        unfold spec_l11Good_l0_r
        simp only [lt_dec hi, if_true, idxIn_nat hi, Int.toNat_natCast, wrap_up hi hmx, G_l1Rising, hx, Option.bind_some, badT]
        rcases Bool.eq_false_or_eq_true (risingB (at_ K_Si l i)) with hr | hr <;> rcases Bool.eq_false_or_eq_true (List.all (at_ K_Si l i) (inB 0 (IntKind.wrap .i64 (p - 1)))) with hq | hq <;> simp [hr, hq])
      (by intro back; unfold spec_l11Good_l0_r; simp only [lt_not, Bool.false_eq_true, if_false]) l.length 0 (by omega) (by omega)
    simp only [Int.natCast_zero] at this
    have e : allB (fun i => !badT (g, p, l, u) (at_ K_Si l i)) l.length 0 = !l.any (badT (g, p, l, u)) := by
      rw [all_at (e := K_Si) l (fun x => !badT (g, p, l, u) x)]
      simp only [List.all_eq_not_any_not, Bool.not_not]
    simp only [this, Nat.sub_zero, e, timeB]
    cases l.any (badT (g, p, l, u)) with
    | true => simp
    | false =>
      simp only [Bool.not_false, if_true, Option.bind_some, l4Field_eq g _ hg, l1In_eq, Bool.and_true]
      cases (graphB g && decide (g.1 > 0)) with
      | false => rfl
      | true =>
        cases inB 1 4 p with
        | false => rfl
        | true =>
          simp only [if_true, Bool.true_and, Option.some.injEq, Prod.mk.injEq, and_true]
          by_cases hc : l.length = g.2.1.length
          · simp [hc]
          · have : ¬ (l.length : Int) = (g.2.1.length : Int) := by omega
            simp [hc, this]
  · cases h
theorem specT (t : Tt) (w : Unit) (h : okT t = true) : F_spec_IsTimetable 0 (t, w) = some (timeB t, ()) := by
  unfold F_spec_IsTimetable G_l11Good
  simp only [h, if_true, Option.bind_some]
theorem implT (t : Tt) (w : Unit) (h : okT t = true) : F_impl_IsTimetable 0 (t, w) = some (timeB t, ()) := by
  obtain ⟨⟨n, es, v⟩, p, l, u⟩ := t
  simp only [okT, Bool.and_eq_true] at h
  unfold F_impl_IsTimetable G_graph
  simp only [h.1, if_true, Option.bind_some, within_eq, timeB]
  cases hg : graphB (n, es, v) with
  | false => rfl
  | true =>
    have := graphB_n hg
    by_cases c : n = 0
    · have c' : ¬ n > 0 := by omega
      have c2 : (n == (0 : Int)) = true := by simp [c]
      simp only [c2, c', Bool.not_true, Bool.false_eq_true, if_false, if_true, decide_false, Bool.and_false, Bool.false_and]
    · have c' : n > 0 := by omega
      have c2 : (n == (0 : Int)) = false := by simp [c]
      simp only [c2, c', Bool.not_true, Bool.false_eq_true, if_false, decide_true, Bool.true_and]
      cases inB 1 4 p with
      | false => rfl
      | true =>
        simp only [Bool.not_true, Bool.false_eq_true, if_false, Bool.true_and]
        by_cases hc : l.length = es.length
        · have : ((l.length : Int) != (es.length : Int)) = false := by simp [hc]
          simp only [this, Bool.false_eq_true, if_false, contains84 l () ((n, es, v), p, l, u) () () h.2, Option.bind_some, hc, decide_true, Bool.true_and, bne_self_eq_false]
        · have : ((l.length : Int) != (es.length : Int)) = true := by simp; omega
          simp only [this, if_true, hc, decide_false, Bool.false_and]
theorem toTimetable_eq (n : Int) (es : List E) (v : Unit) (p : Int) (l : List (List Int)) (u w : Unit) (hg : okL es = true) (hl : okLL l = true) : F_laws_toTimetable 0 (((n, es, v), p, l, u), w) = some (((n, es, v), p, l, ()), ()) := by
  unfold F_laws_toTimetable G_toIntSS
  simp only [toGraph_eq n es v _ hg, hl, if_true, Option.bind_some]
theorem eqTimetable_self (n : Int) (es : List E) (v : Unit) (p : Int) (l : List (List Int)) (u w : Unit) (hg : okL es = true) (hl : okLL l = true) : F_laws_eqTimetable 0 (((n, es, v), p, l, u), ((n, es, v), p, l, u), w) = some (true, ()) := by
  unfold F_laws_eqTimetable G_eqIntSS
  simp only [eqGraph_self n es v v _ hg, hl, bne_self_eq_false, Bool.false_eq_true, if_false, if_true, decide_true, Option.bind_some, Bool.not_true]
theorem szTimetable_neg (n : Int) (es : List E) (v : Unit) (p : Int) (l : List (List Int)) (u w : Unit) (he : es.length ≤ maxLen) (hl : l.length ≤ maxLen) (ha : ∀ x ∈ l, x.length ≤ maxLen) :
    ∃ r, F_laws_szTimetable 0 (((n, es, v), p, l, u), (1048576 : Int), w) = some (r, ()) ∧ (r < 0 ∨ (es.length ≤ 1048576 ∧ l.length ≤ 1048576 ∧ l.all (fun x => decide (x.length ≤ 1048576)) = true)) := by
  unfold F_laws_szTimetable
  simp only [szGraph_eq n es v 1048576 () (by omega) (by omega) he]
  by_cases h : szStep 1048576 es.length < 0
  · exact ⟨-1, by simp only [h, decide_true, if_true], .inl (by decide)⟩
  · have h1 := szStep_le h
    have o1 : okMx l.length = true := decide_eq_true hl
    have o2 : l.all (fun x => okMx x.length) = true := List.all_eq_true.2 fun x hx => decide_eq_true (ha x hx)
    have o3 : decide (0 ≤ szStep 1048576 es.length) = true := by simp; omega
    have o4 : decide (szStep 1048576 es.length ≤ 1048576) = true := by simp; omega
    simp only [h, decide_false, if_false, Bool.false_eq_true, G_szIntSS, o1, o2, o3, o4, Bool.and_self, if_true, Option.bind_some]
    by_cases h2 : szStep (szStep 1048576 es.length) l.length < 0
    · exact ⟨-1, by simp only [h2, if_true]; rfl, .inl (by decide)⟩
    · have h3 := szStep_le h2
      simp only [h2, if_false]
      by_cases h4 : szFold (szStep (szStep 1048576 es.length) l.length) l < 0
      · exact ⟨-1, by simp only [h4, decide_true, if_true], .inl (by decide)⟩
      · exact ⟨szFold (szStep (szStep 1048576 es.length) l.length) l, by simp only [h4, decide_false, if_false, Bool.false_eq_true], .inr ⟨by omega, by omega, szFold_le l _ (by omega) (by omega) h4⟩⟩
theorem okLL_small {l : List (List Int)} (h1 : l.length ≤ 1048576) (h2 : l.all (fun x => decide (x.length ≤ 1048576)) = true) : okLL l = true := by
  unfold okLL
  rw [Bool.and_eq_true]
  exact ⟨okL_of h1, List.all_eq_true.2 fun x hx => okL_of (of_decide_eq_true (List.all_eq_true.1 h2 x hx))⟩
theorem law4 : ∀ d, WfD (Kd.tuple ([(K_PPiSPiiqqiSSiq, false)].map (·.1))) d → ∃ out, F_laws_FnExactIsTimetable 0 d = some out ∧ (splitT [.bool] [] out).1.1 = true := by
  rintro ⟨⟨⟨n, es, v⟩, p, l, u⟩, w⟩ ⟨⟨⟨_, he, _⟩, _, hl, _⟩, _⟩
  have he : es.length ≤ maxLen := he.1
  have hl1 : l.length ≤ maxLen := hl.1
  have hl2 : ∀ x ∈ l, x.length ≤ maxLen := fun x hx => (hl.2 x hx).1
  refine ⟨(true, ()), ?_, rfl⟩
  unfold F_laws_FnExactIsTimetable
  obtain ⟨r, h1, h2⟩ := szTimetable_neg n es v p l u () he hl1 hl2
  simp only [h1, Option.bind_some]
  rcases h2 with h2 | ⟨h2, h3, h4⟩
  · simp only [h2, decide_true, if_true]
  · have g1 := okL_of h2
    have g2 := okLL_small h3 h4
    have g3 : okT ((n, es, v), p, l, ()) = true := by simp only [okT, g1, g2, Bool.and_self]
    simp only [toTimetable_eq n es v p l u _ g1 g2, specT _ _ g3, implT _ _ g3, eqTimetable_self n es v p l () _ g1 g2, Option.bind_some, beq_self_eq_true, Bool.not_true, Bool.false_eq_true, if_false]
    split <;> rfl
end Go.V.W

/- Static timetables and their marks, told plainly; the law FnExactStaticTimetable on plain data. -/
set_option linter.unusedVariables false
set_option linter.unusedSimpArgs false
namespace Go.V.W
open Go.Proofs

theorem rep_snoc (m : Nat) : List.replicate m ([0] : List Int) ++ [[0]] = List.replicate (m + 1) [0] := by
  rw [List.replicate_succ']
theorem specStatic_l0 (N : Nat) (g : Gr) (x : Tt) (y : Gr) (p : Int) (hl : g.2.1.length ≤ lim) : ∀ n i, g.2.1.length ≤ i + n → i ≤ g.2.1.length →
    spec_StaticTimetable_l0 N (n + 1) (g, x, (y, p, List.replicate i [0], ()), (i : Int), ()) = some (.inl (x, (y, p, List.replicate g.2.1.length [0], ()), ())) := by
  intro n
  induction n with
  | zero =>
    intro i h1 h2
    have e : i = g.2.1.length := by omega
    subst e
    simp [spec_StaticTimetable_l0, spec_StaticTimetable_l0_r]
  | succ n ih =>
    intro i h1 h2
    by_cases hi : i < g.2.1.length
    · show spec_StaticTimetable_l0_r N (spec_StaticTimetable_l0 N (n + 1)) (g, x, (y, p, List.replicate i [0], ()), (i : Int), ()) = _
      unfold spec_StaticTimetable_l0_r
      have hle : decide ((List.replicate i ([0] : List Int)).length + List.length [[(0 : Int)]] ≤ lim) = true := by simp; omega
      simp only [lt_dec hi, if_true, hle, wrap_up hi (lim_max hl), rep_snoc]
      exact ih (i + 1) (by omega) (by omega)
    · have e : i = g.2.1.length := by omega
      subst e
      simp [spec_StaticTimetable_l0, spec_StaticTimetable_l0_r]
theorem implStatic_l0 (N : Nat) (m : Nat) (x : Tt) (y : Gr) (p : Int) (hl : m ≤ lim) : ∀ n i, m ≤ i + n → i ≤ m →
    impl_StaticTimetable_l0 N (n + 1) (x, (y, p, List.replicate i [0], ()), (m : Int), (i : Int), ()) = some (.inl (x, (y, p, List.replicate m [0], ()), ())) := by
  intro n
  induction n with
  | zero =>
    intro i h1 h2
    have e : i = m := by omega
    subst e
    simp [impl_StaticTimetable_l0, impl_StaticTimetable_l0_r]
  | succ n ih =>
    intro i h1 h2
    by_cases hi : i < m
    · show impl_StaticTimetable_l0_r N (impl_StaticTimetable_l0 N (n + 1)) (x, (y, p, List.replicate i [0], ()), (m : Int), (i : Int), ()) = _
      unfold impl_StaticTimetable_l0_r
      have hle : decide ((List.replicate i ([0] : List Int)).length + List.length [[(0 : Int)]] ≤ lim) = true := by simp; omega
      simp only [lt_dec hi, if_true, hle, wrap_up hi (lim_max hl), rep_snoc]
      exact ih (i + 1) (by omega) (by omega)
    · have e : i = m := by omega
      subst e
      simp [impl_StaticTimetable_l0, impl_StaticTimetable_l0_r]
theorem specStatic_lim (d) (r) (h : G_static d = some r) : ∃ N, F_spec_StaticTimetable N d = some r := by
  obtain ⟨⟨n, l, u⟩, w⟩ := d
  unfold G_static at h
  split at h
  · rename_i ho
    have hl : l.length ≤ lim := okL_lim ho
    have h := Option.some.inj h
    subst h
    refine ⟨l.length + 1, ?_⟩
    unfold F_spec_StaticTimetable staticT
    have hlim : decide (List.length ([] : List E) + l.length ≤ lim) = true := by simp [hl]
    have := specStatic_l0 (l.length + 1) (n, l, u) ((0, [], ()), 0, [], ()) (n, l, ()) 1 hl l.length 0 (by simp) (by omega)
    simp only [Int.natCast_zero, List.replicate_zero] at this
    simp only [l4Field_eq (n, l, u) _ ho, Option.bind_some, hlim, if_true, List.nil_append, this]
    cases (graphB (n, l, u) && decide (n > 0)) <;> rfl
  · cases h
theorem implStatic_lim (d) (r) (h : G_static d = some r) : ∃ N, F_impl_StaticTimetable N d = some r := by
  obtain ⟨⟨n, l, u⟩, w⟩ := d
  unfold G_static at h
  split at h
  · rename_i ho
    have ho : okL l = true := ho
    have hl : l.length ≤ lim := okL_lim ho
    have h := Option.some.inj h
    subst h
    refine ⟨l.length + 1, ?_⟩
    unfold F_impl_StaticTimetable staticT G_graph G_toIntA2S
    have := implStatic_l0 (l.length + 1) l.length ((0, [], ()), 0, [], ()) (n, l, ()) 1 hl l.length 0 (by simp) (by omega)
    simp only [Int.natCast_zero, List.replicate_zero] at this
    simp only [ho, if_true, Option.bind_some, this]
    cases hg : graphB (n, l, u) with
    | false => rfl
    | true =>
      have := graphB_n hg
      by_cases c : n = 0
      · have c' : ¬ n > 0 := by omega
        have c2 : (n == (0 : Int)) = true := by simp [c]
        simp only [c2, c', Bool.not_true, Bool.false_eq_true, if_false, if_true, decide_false, Bool.and_false]
      · have c' : n > 0 := by omega
        have c2 : (n == (0 : Int)) = false := by simp [c]
        simp only [c2, c', Bool.not_true, Bool.false_eq_true, if_false, if_true, decide_true, Bool.and_true]
  · cases h

/-! ### marks -/
theorem sumL_nonneg : ∀ l, 0 ≤ sumL l := by
  intro l
  induction l with
  | nil => simp [sumL]
  | cons x l ih => simp only [sumL]; omega
theorem markIntSS_l0 (N : Nat) : ∀ (rest pre : List (List Int)) (k : Int) (n : Nat), pre.length + rest.length ≤ lim → rest.all okL = true → rest.length ≤ n → 0 ≤ k → k + sumL rest ≤ 4398046511104 →
    laws_markIntSS_l0 N (n + 1) (pre ++ rest, k, (pre.length : Int), ()) = some (.inl (pre ++ markLL k rest, k + sumL rest, ())) := by
  intro rest
  induction rest with
  | nil =>
    intro pre k n h1 h2 h3 h4 h5
    simp [laws_markIntSS_l0, laws_markIntSS_l0_r, markLL, sumL]
  | cons x rest ih =>
    intro pre k n h1 h2 h3 h4 h5
    simp only [List.length_cons, sumL, List.all_cons, Bool.and_eq_true] at h1 h2 h3 h5
    have hs := sumL_nonneg rest
    have hlt := mid_lt pre x rest
    have hmx : (pre ++ x :: rest).length ≤ maxLen := by
      have := lim_max h1
      simpa using this
    obtain ⟨n, rfl⟩ : ∃ m, n = m + 1 := ⟨n - 1, by omega⟩
    show laws_markIntSS_l0_r N (laws_markIntSS_l0 N (n + 1)) (pre ++ x :: rest, k, (pre.length : Int), ()) = _
    unfold laws_markIntSS_l0_r
    have hk : okK k = true := okK_small h4 (by omega)
    simp only [lt_dec hlt, if_true, idxIn_nat hlt, Int.toNat_natCast, wrap_up hlt hmx, at_mid (e := K_Si), G_markIntS, h2.1, hk, Bool.and_self, Option.bind_some, set_mid]
    have := ih (pre ++ [markL k x]) (k + x.length) n (by simp; omega) h2.2 (by omega) (by omega) (by omega)
    rw [show (pre ++ [markL k x]).length = pre.length + 1 by simp] at this
    rw [this]
    simp [markLL, sumL]
    omega
theorem markIntSS_lim (d) (r) (h : G_markIntSS d = some r) : ∃ N, F_laws_markIntSS N d = some r := by
  obtain ⟨l, k, _⟩ := d
  unfold G_markIntSS at h
  split at h
  · rename_i hc
    simp only [Bool.and_eq_true] at hc
    obtain ⟨⟨hll, hk⟩, hk2⟩ := hc
    obtain ⟨h1, h2⟩ := okLL_of hll
    have h := Option.some.inj h
    subst h
    refine ⟨l.length + 1, ?_⟩
    unfold F_laws_markIntSS
    have := markIntSS_l0 (l.length + 1) l [] k l.length (by simpa using okL_lim h1) h2 (Nat.le_refl _) (okK_of hk).1 (okK_of hk2).2
    simp only [List.nil_append, List.length_nil, Int.natCast_zero] at this
    simp only [this, Option.bind_some]
  · cases h
theorem heldL_cases : ∀ (l : List Int) (k : Int), heldL k l = k + l.length ∨ heldL k l = -1 := by
  intro l
  induction l with
  | nil => intro k; left; simp [heldL]
  | cons x l ih =>
    intro k
    simp only [heldL]
    by_cases h : x = k
    · simp only [h, if_true, List.length_cons]
      rcases ih (k + 1) with h | h
      · left; omega
      · right; exact h
    · simp [h]
theorem heldIntSS_l0 (N : Nat) : ∀ (rest pre : List (List Int)) (k : Int) (n : Nat), pre.length + rest.length ≤ lim → rest.all okL = true → rest.length ≤ n → 0 ≤ k → k + sumL rest ≤ 4398046511104 →
    laws_heldIntSS_l0 N (n + 1) (pre ++ rest, k, (pre.length : Int), ()) = some (.inl (heldLL k rest, ())) ∨ laws_heldIntSS_l0 N (n + 1) (pre ++ rest, k, (pre.length : Int), ()) = some (.inr (.inl (heldLL k rest, ()))) := by
  intro rest
  induction rest with
  | nil =>
    intro pre k n h1 h2 h3 h4 h5
    right
    simp [laws_heldIntSS_l0, laws_heldIntSS_l0_r, heldLL]
  | cons x rest ih =>
    intro pre k n h1 h2 h3 h4 h5
    simp only [List.length_cons, sumL, List.all_cons, Bool.and_eq_true] at h1 h2 h3 h5
    have hs := sumL_nonneg rest
    have hlt := mid_lt pre x rest
    have hmx : (pre ++ x :: rest).length ≤ maxLen := by
      have := lim_max h1
      simpa using this
    obtain ⟨n, rfl⟩ : ∃ m, n = m + 1 := ⟨n - 1, by omega⟩
    have hk : okK k = true := okK_small h4 (by omega)
    have hstep : laws_heldIntSS_l0 N (n + 1 + 1) (pre ++ x :: rest, k, (pre.length : Int), ()) = if heldL k x < 0 then some (.inl (-1, ())) else laws_heldIntSS_l0 N (n + 1) (pre ++ x :: rest, heldL k x, ((pre.length + 1 : Nat) : Int), ()) := by
      show laws_heldIntSS_l0_r N (laws_heldIntSS_l0 N (n + 1)) (pre ++ x :: rest, k, (pre.length : Int), ()) = _
      unfold laws_heldIntSS_l0_r
      simp only [lt_dec hlt, if_true, idxIn_nat hlt, Int.toNat_natCast, wrap_up hlt hmx, at_mid (e := K_Si), G_heldIntS, h2.1, hk, Bool.and_self, Option.bind_some]
      by_cases c : heldL k x < 0
      · simp only [c, decide_true, if_true]
      · simp only [c, decide_false, if_false, Bool.false_eq_true]
    rw [hstep]
    simp only [heldLL]
    by_cases c : heldL k x < 0
    · left; simp only [c, if_true]
    · simp only [c, if_false]
      rcases heldL_cases x k with e | e
      · have := ih (pre ++ [x]) (heldL k x) n (by simp; omega) h2.2 (by omega) (by omega) (by omega)
        rw [show (pre ++ [x]).length = pre.length + 1 by simp, List.append_assoc] at this
        exact this
      · rw [e] at c; exact absurd (by decide) c
theorem heldIntSS_lim (d) (r) (h : G_heldIntSS d = some r) : ∃ N, F_laws_heldIntSS N d = some r := by
  obtain ⟨l, k, _⟩ := d
  unfold G_heldIntSS at h
  split at h
  · rename_i hc
    simp only [Bool.and_eq_true] at hc
    obtain ⟨⟨hll, hk⟩, hk2⟩ := hc
    obtain ⟨h1, h2⟩ := okLL_of hll
    have h := Option.some.inj h
    subst h
    refine ⟨l.length + 1, ?_⟩
    unfold F_laws_heldIntSS
    have := heldIntSS_l0 (l.length + 1) l [] k l.length (by simpa using okL_lim h1) h2 (Nat.le_refl _) (okK_of hk).1 (okK_of hk2).2
    simp only [List.nil_append, List.length_nil, Int.natCast_zero] at this
    rcases this with this | this <;> simp only [this, Option.bind_some]
  · cases h
theorem markLL_sum : ∀ (l : List (List Int)) (k : Int), sumL (markLL k l) = sumL l := by
  intro l
  induction l with
  | nil => intro k; rfl
  | cons x l ih => intro k; simp only [markLL, sumL, markL_len, ih]
theorem markLL_ok : ∀ (l : List (List Int)) (k : Int), okLL l = true → okLL (markLL k l) = true := by
  have hlen : ∀ (l : List (List Int)) (k : Int), (markLL k l).length = l.length := by
    intro l
    induction l with
    | nil => intro k; rfl
    | cons x l ih => intro k; simp [markLL, ih]
  have hall : ∀ (l : List (List Int)) (k : Int), l.all okL = true → (markLL k l).all okL = true := by
    intro l
    induction l with
    | nil => intro k _; rfl
    | cons x l ih =>
      intro k h
      simp only [List.all_cons, Bool.and_eq_true] at h
      simp only [markLL, List.all_cons, Bool.and_eq_true]
      exact ⟨markL_ok h.1, ih _ h.2⟩
  intro l k h
  obtain ⟨h1, h2⟩ := okLL_of h
  unfold okLL
  rw [Bool.and_eq_true]
  refine ⟨?_, hall l k h2⟩
  unfold okL at h1 ⊢
  rwa [hlen]
theorem held_markLL : ∀ (l : List (List Int)) (k : Int), 0 ≤ k → heldLL k (markLL k l) = k + sumL l := by
  intro l
  induction l with
  | nil => intro k _; simp [markLL, heldLL, sumL]
  | cons x l ih =>
    intro k hk
    have : ¬ k + (x.length : Int) < 0 := by omega
    simp only [markLL, heldLL, held_markL, sumL, this, if_false, ih _ (show 0 ≤ k + (x.length : Int) by omega)]
    omega
theorem markTimetable_eq (n : Int) (es : List E) (v : Unit) (p : Int) (l : List (List Int)) (u w : Unit) (k : Int) (he : okL es = true) (hl : okLL l = true) (hk : okK k = true) (hk2 : okK (k + 2 * (es.length : Int)) = true) (hk3 : okK (k + 2 * (es.length : Int) + sumL l) = true) :
    F_laws_markTimetable 0 (((n, es, v), p, l, u), k, w) = some (k + 2 * (es.length : Int) + sumL l, ((n, markA k es, v), p, markLL (k + 2 * (es.length : Int)) l, u), ()) := by
  unfold F_laws_markTimetable G_markIntSS
  simp only [markGraph_eq n es v _ k he hk, hl, hk2, hk3, Bool.and_self, if_true, Option.bind_some]
theorem heldTimetable_marked (n : Int) (es : List E) (v : Unit) (p : Int) (l : List (List Int)) (u w : Unit) (k : Int) (he : okL es = true) (hl : okLL l = true) (hk : okK k = true) (hk2 : okK (k + 2 * (es.length : Int)) = true) (hk3 : okK (k + 2 * (es.length : Int) + sumL l) = true) :
    F_laws_heldTimetable 0 (((n, markA k es, v), p, markLL (k + 2 * (es.length : Int)) l, u), k, w) = some (k + 2 * (es.length : Int) + sumL l, ()) := by
  have h0 := okK_of hk
  have h1 := okK_of hk2
  have h2 := okK_of hk3
  unfold F_laws_heldTimetable F_laws_heldGraph G_heldIntA2S G_heldIntSS
  have c1 : decide (k + 2 * (es.length : Int) < 0) = false := by simp; omega
  have c2 : decide (k + 2 * (es.length : Int) + sumL l < 0) = false := by simp; omega
  simp only [markA_ok he, markLL_ok l _ hl, hk, hk2, markLL_sum, hk3, Bool.and_self, if_true, Option.bind_some, held_markA, held_markLL l _ h1.1, c1, c2, Bool.false_eq_true, if_false]
theorem eqGraph_self' (g : Gr) (w : Unit) (hl : okL g.2.1 = true) : F_laws_eqGraph 0 (g, g, w) = some (true, ()) := by
  obtain ⟨n, l, u⟩ := g
  exact eqGraph_self n l u u w hl
theorem sum_ones (m : Nat) : sumL (List.replicate m [0]) = m := by
  induction m with
  | zero => rfl
  | succ m ih => rw [List.replicate_succ]; simp only [sumL, ih, List.length_singleton]; omega
theorem okLL_ones {m : Nat} (h : m ≤ 1048576) : okLL (List.replicate m [0]) = true := by
  refine okLL_small (by simpa using h) ?_
  simp [List.all_replicate]
theorem static_eq (n : Int) (l : List E) (v w : Unit) (h : l.length ≤ 1048576) : F_laws_eqTimetable 0 ((staticT (n, l, v)).1, (staticT (n, l, v)).1, w) = some (true, ()) := by
  unfold staticT
  split
  · exact eqTimetable_self n l () 1 _ () _ (okL_of h) (okLL_ones h)
  · exact eqTimetable_self 0 [] () 0 [] () _ okL_nil (by decide)
theorem static_marks (n : Int) (l : List E) (v : Unit) (h1 : l.length ≤ 1048576) : ∃ k W, F_laws_markTimetable 0 ((staticT (n, l, v)).1, 1, ()) = some (k, W, ()) ∧ F_laws_heldTimetable 0 (W, 1, ()) = some (k, ()) ∧ 0 ≤ k := by
  have hl := okL_of h1
  unfold staticT
  split
  · exact ⟨_, _, markTimetable_eq n l () 1 _ () () 1 hl (okLL_ones h1) (by decide) (okK_small (by omega) (by omega)) (by rw [sum_ones]; show okK (1 + 2 * (l.length : Int) + (l.length : Int)) = true; exact okK_small (by omega) (by omega)),
      heldTimetable_marked n l () 1 _ () () 1 hl (okLL_ones h1) (by decide) (okK_small (by omega) (by omega)) (by rw [sum_ones]; show okK (1 + 2 * (l.length : Int) + (l.length : Int)) = true; exact okK_small (by omega) (by omega)), by rw [sum_ones]; omega⟩
  · exact ⟨_, _, markTimetable_eq 0 [] () 0 [] () () 1 okL_nil (by decide) (by decide) (by decide) (by decide), heldTimetable_marked 0 [] () 0 [] () () 1 okL_nil (by decide) (by decide) (by decide) (by decide), by decide⟩
theorem law5 : ∀ d, WfD (Kd.tuple ([(K_PiSPiiqq, false)].map (·.1))) d → ∃ out, F_laws_FnExactStaticTimetable 0 d = some out ∧ (splitT [.bool] [] out).1.1 = true := by
  rintro ⟨⟨n, l, v⟩, w⟩ ⟨⟨_, hl, _⟩, _⟩
  have hl : l.length ≤ maxLen := hl.1
  refine ⟨(true, ()), ?_, rfl⟩
  unfold F_laws_FnExactStaticTimetable
  simp only [szGraph_eq n l v 1048576 () (by omega) (by omega) hl]
  by_cases h : szStep 1048576 l.length < 0
  · simp only [h, decide_true, if_true]
  · have h1 := (szStep_le h).1
    have h1 : l.length ≤ 1048576 := by omega
    have ho := okL_of h1
    have hk : decide ((1 : Int) + 2 * (l.length : Int) < 0) = false := by simp; omega
    obtain ⟨k, W, hm, hh, hp⟩ := static_marks n l v h1
    have hk2 : decide (k < 0) = false := by simp; omega
    have hG : G_static ((n, l, v), ()) = some (staticT (n, l, v)) := by unfold G_static; rw [if_pos ho]
    simp only [h, decide_false, Bool.false_eq_true, if_false, toGraph_eq n l v _ ho, hG, static_eq n l v _ h1, eqGraph_self n l v v _ ho, markGraph_eq n l v _ 1 ho (by decide), hk, hm, hh, hk2, Option.bind_some, beq_self_eq_true, bne_self_eq_false, Bool.not_true]
end Go.V.W
