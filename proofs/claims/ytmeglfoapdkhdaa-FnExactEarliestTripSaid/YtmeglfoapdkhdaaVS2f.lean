/- The law FnExactIsWorkshop, on plain data. -/
import Derived.Test.YtmeglfoapdkhdaaVS2e
import Derived.Test.YtmeglfoapdkhdaaVRow
set_option linter.unusedVariables false
set_option linter.unusedSimpArgs false
namespace Go.V.W
open Go.Proofs

/-! ### sizes -/
theorem sz_wrap {a : Int} {n : Nat} (h0 : 0 ≤ a) (h1 : a ≤ 1048576) (hn : n ≤ maxLen) : IntKind.wrap .i64 (a - (n : Int)) = a - (n : Int) := by
  unfold maxLen at hn
  exact Go.IntWalk.i64_in _ (by omega)
theorem szStep_le {a : Int} {n : Nat} (h : ¬ szStep a n < 0) : n ≤ a ∧ szStep a n = a - n := by
  unfold szStep at h ⊢
  split at h
  · omega
  · exact ⟨by omega, by rw [if_neg (by assumption)]⟩
theorem szStep_neg {a : Int} {n : Nat} (h : szStep a n < 0) : szStep a n = -1 := by
  unfold szStep at h ⊢
  split at h
  · rw [if_pos (by assumption)]
  · omega
theorem szA2S_eq (l : List E) (a : Int) (u : Unit) (h0 : 0 ≤ a) (h1 : a ≤ 1048576) (hl : l.length ≤ maxLen) : g_laws_szIntA2S (l, a, u) = (szStep a l.length, ()) := by
  unfold g_laws_szIntA2S szStep
  simp only [sz_wrap h0 h1 hl]
  by_cases h : a - (l.length : Int) < 0 <;> simp only [h, decide_true, decide_false, if_true, if_false, Bool.false_eq_true]
theorem szS_eq (l : List Int) (a : Int) (u : Unit) (h0 : 0 ≤ a) (h1 : a ≤ 1048576) (hl : l.length ≤ maxLen) : g_laws_szIntS (l, a, u) = (szStep a l.length, ()) := by
  unfold g_laws_szIntS szStep
  simp only [sz_wrap h0 h1 hl]
  by_cases h : a - (l.length : Int) < 0 <;> simp only [h, decide_true, decide_false, if_true, if_false, Bool.false_eq_true]
theorem szGraph_eq (n : Int) (l : List E) (v : Unit) (a : Int) (u : Unit) (h0 : 0 ≤ a) (h1 : a ≤ 1048576) (hl : l.length ≤ maxLen) : g_laws_szGraph ((n, l, v), a, u) = (szStep a l.length, ()) := by
  unfold g_laws_szGraph
  simp only [szA2S_eq l a () h0 h1 hl]
  by_cases h : szStep a l.length < 0
  · simp [szStep_neg h]
  · simp only [h, decide_false, if_false, Bool.false_eq_true]
abbrev Wk := Gr × Int × Int × List Int × Int × Unit
theorem szWorkshop_neg (n : Int) (l : List E) (v : Unit) (p q : Int) (m : List Int) (t : Int) (u : Unit) (hl : l.length ≤ maxLen) (hm : m.length ≤ maxLen) : (g_laws_szWorkshop (((n, l, v), p, q, m, t, u), (1048576 : Int), ())).1 < 0 ∨ (l.length ≤ 1048576 ∧ m.length ≤ 1048576) := by
  unfold g_laws_szWorkshop
  simp only [szGraph_eq n l v 1048576 () (by omega) (by omega) hl]
  by_cases h : szStep 1048576 l.length < 0
  · left; simp only [h, decide_true, if_true]; decide
  · have := szStep_le h
    simp only [h, decide_false, if_false, Bool.false_eq_true, szS_eq m (szStep 1048576 l.length) () (by omega) (by omega) hm]
    by_cases h' : szStep (szStep 1048576 l.length) m.length < 0
    · left; simp only [h', decide_true, if_true]; decide
    · have := szStep_le h'
      right; omega

/-! ### copies, equality -/
theorem okL_of {α : Type} {l : List α} (h : l.length ≤ 1048576) : okL l = true := decide_eq_true (by unfold lim; omega)
theorem toGraph_eq (n : Int) (l : List E) (u : Unit) (v : Unit) (hl : okL l = true) : F_laws_toGraph 0 ((n, l, u), v) = some ((n, l, u), v) := by
  unfold F_laws_toGraph G_toIntA2S
  simp only [hl, if_true, Option.bind_some]
theorem toWorkshop_eq (n : Int) (l : List E) (v : Unit) (p q : Int) (m : List Int) (t : Int) (u w : Unit) (hl : okL l = true) (hm : okL m = true) : F_laws_toWorkshop 0 (((n, l, v), p, q, m, t, u), w) = some (((n, l, v), p, q, m, t, u), w) := by
  unfold F_laws_toWorkshop G_toIntS
  simp only [toGraph_eq n l v _ hl, hm, if_true, Option.bind_some]
theorem eqGraph_self (n : Int) (l : List E) (u v w : Unit) (hl : okL l = true) : F_laws_eqGraph 0 ((n, l, u), (n, l, v), w) = some (true, ()) := by
  unfold F_laws_eqGraph G_eqIntA2S
  simp only [bne_self_eq_false, Bool.false_eq_true, if_false, hl, if_true, decide_true, Option.bind_some, Bool.not_true]
theorem eqWorkshop_self (n : Int) (l : List E) (v : Unit) (p q : Int) (m : List Int) (t : Int) (u w : Unit) (hl : okL l = true) (hm : okL m = true) : F_laws_eqWorkshop 0 (((n, l, v), p, q, m, t, u), ((n, l, v), p, q, m, t, u), w) = some (true, ()) := by
  unfold F_laws_eqWorkshop G_eqIntS
  simp only [eqGraph_self n l v v _ hl, hm, bne_self_eq_false, Bool.false_eq_true, if_false, if_true, decide_true, Option.bind_some, Bool.not_true]

/-! ### the workshop -/
def workB (w : Wk) : Bool := graphB w.1 && inB (-1) (w.1.1 - 1) w.2.1 && inB (-1) (w.1.1 - 1) w.2.2.1 && (w.2.2.2.1.all (inB 0 (w.1.1 - 1)) && risingB w.2.2.2.1) && inB 0 1000 w.2.2.2.2.1
theorem graphB_n {n : Int} {l : List E} {u : Unit} (h : graphB (n, l, u) = true) : 0 ≤ n ∧ n ≤ 8 := by
  unfold graphB at h
  simp only [Bool.and_eq_true, decide_eq_true_eq] at h
  exact ⟨h.1.1.1, h.1.1.2⟩
theorem specW (n : Int) (l : List E) (v : Unit) (p q : Int) (m : List Int) (t : Int) (u w : Unit) (hl : okL l = true) (hm : okL m = true) : F_spec_IsWorkshop 0 (((n, l, v), p, q, m, t, u), w) = some (workB ((n, l, v), p, q, m, t, u), ()) := by
  unfold F_spec_IsWorkshop F_spec_l12Good workB F_spec_l2Set G_l1Rising G_graph g_spec_l12Spot
  simp only [hl, hm, if_true, Option.bind_some, l1In_eq]
  cases hg : graphB (n, l, v) with
  | false => rfl
  | true =>
    have := graphB_n hg
    have hw : IntKind.wrap .i64 (n - 1) = n - 1 := wrap_in _ (by omega) (by omega)
    simp only [hw, if_true, Bool.true_and]
    cases inB (-1) (n - 1) p <;> cases inB (-1) (n - 1) q <;> cases (m.all (inB 0 (n - 1)) && risingB m) <;> simp
theorem implW (n : Int) (l : List E) (v : Unit) (p q : Int) (m : List Int) (t : Int) (u w : Unit) (hl : okL l = true) (hm : okL m = true) : F_impl_IsWorkshop 0 (((n, l, v), p, q, m, t, u), w) = some (workB ((n, l, v), p, q, m, t, u), ()) := by
  unfold F_impl_IsWorkshop F_impl_isSet F_impl_hasNodes workB G_allWithin G_increasing G_graph
  simp only [hl, hm, if_true, Option.bind_some, within_eq]
  cases hg : graphB (n, l, v) with
  | false => rfl
  | true =>
    have := graphB_n hg
    have hw : IntKind.wrap .i64 (n - 1) = n - 1 := wrap_in _ (by omega) (by omega)
    simp only [hw, if_true, Bool.true_and, Option.bind_some]
    cases inB (-1) (n - 1) p <;> cases inB (-1) (n - 1) q <;> cases m.all (inB 0 (n - 1)) <;> cases risingB m <;> simp
theorem law2 : ∀ d, WfD (Kd.tuple ([(K_PPiSPiiqqiiSiiq, false)].map (·.1))) d → ∃ out, F_laws_FnExactIsWorkshop 0 d = some out ∧ (splitT [.bool] [] out).1.1 = true := by
  rintro ⟨⟨⟨n, l, v⟩, p, q, m, t, u⟩, w⟩ ⟨⟨⟨_, hl, _⟩, _, _, hm, _⟩, _⟩
  have hl : l.length ≤ maxLen := hl.1
  have hm : m.length ≤ maxLen := hm.1
  refine ⟨(true, ()), ?_, rfl⟩
  unfold F_laws_FnExactIsWorkshop
  rcases szWorkshop_neg n l v p q m t u hl hm with h | ⟨h1, h2⟩
  · simp only [h, decide_true, if_true]
  · have h1 := okL_of h1
    have h2 := okL_of h2
    simp only [toWorkshop_eq n l v p q m t u _ h1 h2, specW n l v p q m t u _ h1 h2, implW n l v p q m t u _ h1 h2, eqWorkshop_self n l v p q m t u _ h1 h2, Option.bind_some, beq_self_eq_true, Bool.not_true, Bool.false_eq_true, if_false]
    split <;> rfl
end Go.V.W
