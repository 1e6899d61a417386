/- The law FnExactIsValidRecord, on plain data. -/
import Derived.Test.YtmeglfoapdkhdaaVS2
import Derived.Test.YtmeglfoapdkhdaaVRow
import Derived.Lib.Builder
set_option linter.unusedVariables false
set_option linter.unusedSimpArgs false
namespace Go.V.W
open Go.Proofs

def specB (a b : ByteArray) : Bool := !seq_ a (⟨#[]⟩ : ByteArray) && ((a.data.toList.all (fun b => printed1 b && !(b.toNat == 35)) && decide ((a.size : Int) ≤ 160)) && (!(a.data.toList.any (fun b => ((b.toNat : Int) == 64))) && (b.data.toList.all (fun b => printed1 b && !(b.toNat == 35)) && decide ((b.size : Int) ≤ 200))))
def implB (a b : ByteArray) : Bool := ((decide ((a.size : Int) ≥ 1) && decide ((a.size : Int) ≤ 160)) && (printedB a && !Lib.containsAny a.data.toList [35, 64])) && (decide ((b.size : Int) ≤ 200) && (printedB b && !Lib.containsAny b.data.toList [35]))

theorem spec_eq (a b : ByteArray) (ha : a.size ≤ maxLen) (hb : b.size ≤ maxLen) : F_spec_IsValidRecord 0 ((a, b, ()), ()) = some (specB a b, ()) := by
  have oa : okS a = true := decide_eq_true ha
  have ob : okS b = true := decide_eq_true hb
  unfold F_spec_IsValidRecord F_spec_l12Record specB
  simp only [G_l12Bytes, G_l1Stands, oa, ob, if_true, Option.bind_some]
  cases seq_ a (⟨#[]⟩ : ByteArray) <;> simp only [Bool.not_true, Bool.not_false, Bool.false_eq_true, if_false, if_true, Option.bind_some, Bool.false_and, Bool.true_and]
  cases (a.data.toList.all (fun b => printed1 b && !(b.toNat == 35)) && decide ((a.size : Int) ≤ 160)) <;> simp only [Bool.false_eq_true, if_false, if_true, Option.bind_some, Bool.false_and, Bool.true_and]
  cases (a.data.toList.any (fun b => ((b.toNat : Int) == 64))) <;> simp only [Bool.not_true, Bool.not_false, Bool.false_eq_true, if_false, if_true, Option.bind_some, Bool.false_and, Bool.true_and]
theorem impl_eq (a b : ByteArray) (ha : a.size ≤ 1048576) (hb : b.size ≤ 1048576) : F_impl_IsValidRecord 0 ((a, b, ()), ()) = some (implB a b, ()) := by
  have oa : smallB a = true := by unfold smallB; simp; omega
  have ob : smallB b = true := by unfold smallB; simp; omega
  have k1 : asciiB (⟨#[35, 64]⟩ : ByteArray) = true := by decide
  have k2 : smallB (⟨#[35, 64]⟩ : ByteArray) = true := by decide
  have k3 : asciiB (⟨#[35]⟩ : ByteArray) = true := by decide
  have k4 : smallB (⟨#[35]⟩ : ByteArray) = true := by decide
  unfold F_impl_IsValidRecord F_impl_isCommand g_impl_within implB
  simp only [G_isPrinted, oa, ob, k1, k2, k3, k4, Bool.and_self, if_true, Option.bind_some]
  cases decide ((a.size : Int) ≥ 1) <;> simp only [Bool.false_eq_true, if_false, if_true, Option.bind_some, Bool.false_and, Bool.true_and]
  cases decide ((a.size : Int) ≤ 160) <;> simp only [Bool.false_eq_true, if_false, if_true, Option.bind_some, Bool.false_and, Bool.true_and]
  cases (printedB a && !Lib.containsAny a.data.toList [35, 64]) <;> simp only [Bool.false_eq_true, if_false, if_true, Option.bind_some, Bool.false_and, Bool.true_and]
  cases decide ((b.size : Int) ≤ 200) <;> simp only [Bool.false_eq_true, if_false, if_true, Option.bind_some, Bool.false_and, Bool.true_and]
theorem all_not (l : List UInt8) (p q : UInt8 → Bool) : l.all (fun b => p b && !q b) = (l.all p && !l.any q) := by
  induction l with
  | nil => rfl
  | cons b l ih =>
    simp only [List.all_cons, List.any_cons, ih]
    cases p b <;> cases q b <;> cases l.all p <;> cases l.any q <;> rfl
theorem any_or (l : List UInt8) (p q : UInt8 → Bool) : l.any (fun b => p b || q b) = (l.any p || l.any q) := by
  induction l with
  | nil => rfl
  | cons b l ih =>
    simp only [List.any_cons, ih]
    cases p b <;> cases q b <;> cases l.any p <;> cases l.any q <;> rfl
theorem has35 (l : List UInt8) : Lib.containsAny l [35] = l.any (fun b => b.toNat == 35) := by
  rw [containsAny_any]
  congr 1
  funext b
  simp only [List.contains_cons, List.contains_nil, Bool.or_false]
  rw [Bool.eq_iff_iff]
  simp only [beq_iff_eq]
  exact ⟨fun h => by rw [h]; rfl, fun h => UInt8.toNat_inj.1 h⟩
theorem has3564 (l : List UInt8) : Lib.containsAny l [35, 64] = (l.any (fun b => b.toNat == 35) || l.any (fun b => ((b.toNat : Int) == 64))) := by
  rw [containsAny_any, ← any_or]
  congr 1
  funext b
  simp only [List.contains_cons, List.contains_nil, Bool.or_false]
  rw [Bool.eq_iff_iff]
  simp only [Bool.or_eq_true, beq_iff_eq]
  constructor
  · rintro (h | h)
    · left; rw [h]; rfl
    · right; rw [h]; rfl
  · rintro (h | h)
    · left; exact UInt8.toNat_inj.1 h
    · right; exact UInt8.toNat_inj.1 (by have : b.toNat = 64 := by omega
                                         rw [this]; rfl)
theorem empty_size (a : ByteArray) : seq_ a (⟨#[]⟩ : ByteArray) = !decide ((a.size : Int) ≥ 1) := by
  unfold seq_
  have h1 : a.toList = a.data.toList := Lib.toList_data a
  have h2 : (⟨#[]⟩ : ByteArray).toList = [] := Lib.toList_data _
  have h3 : a.data.toList.length = a.size := by simp
  rw [h1, h2]
  cases hl : a.data.toList with
  | nil =>
    rw [hl] at h3
    simp only [List.length_nil] at h3
    simp [← h3]
  | cons x l =>
    rw [hl] at h3
    simp only [List.length_cons] at h3
    have : decide ((a.size : Int) ≥ 1) = true := by simp; omega
    rw [this]
    rfl
theorem same (a b : ByteArray) : specB a b = implB a b := by
  unfold specB implB
  rw [empty_size, all_not, all_not, has35, has3564]
  unfold printedB
  cases decide ((a.size : Int) ≥ 1) <;> cases a.data.toList.all printed1 <;> cases a.data.toList.any (fun b => b.toNat == 35) <;> cases a.data.toList.any (fun b => ((b.toNat : Int) == 64)) <;> cases decide ((a.size : Int) ≤ 160) <;> cases decide ((b.size : Int) ≤ 200) <;> cases b.data.toList.all printed1 <;> cases b.data.toList.any (fun b => b.toNat == 35) <;> rfl
theorem law1 : ∀ d, WfD (Kd.tuple ([(K_Pssq, false)].map (·.1))) d → ∃ out, F_laws_FnExactIsValidRecord 0 d = some out ∧ (splitT [.bool] [] out).1.1 = true := by
  rintro ⟨⟨a, b, _⟩, _⟩ ⟨⟨ha, hb, _⟩, _⟩
  have ha : a.size ≤ maxLen := ha
  have hb : b.size ≤ maxLen := hb
  rcases sz_neg a b ha hb with h | ⟨h1, h2⟩
  · refine ⟨(true, ()), ?_, rfl⟩
    unfold F_laws_FnExactIsValidRecord
    simp only [h, decide_true, if_true]
  · refine ⟨(true, ()), ?_, rfl⟩
    have e1 := spec_eq a b ha hb
    have e2 := impl_eq a b h1 h2
    have t : g_laws_toLogRecord ((a, b, ()), ()) = ((a, b, ()), ()) := rfl
    unfold F_laws_FnExactIsValidRecord
    simp only [t, e1, e2, Option.bind_some, same, beq_self_eq_true, Bool.not_true, Bool.false_eq_true, if_false]
    split <;> rfl
end Go.V.W
