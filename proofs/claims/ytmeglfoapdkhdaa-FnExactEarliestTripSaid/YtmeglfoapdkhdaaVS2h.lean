/- The law FnExactNewWorkshop, on plain data. -/
import Derived.Test.YtmeglfoapdkhdaaVS2f
import Derived.Test.YtmeglfoapdkhdaaVS2g
set_option linter.unusedVariables false
set_option linter.unusedSimpArgs false
namespace Go.V.W
open Go.Proofs

def newW (n : Int) (l : List E) (v : Unit) : Wk × Bool × Unit := if graphB (n, l, v) = true then (((n, l, ()), -1, -1, [], 0, ()), true, ()) else (((0, [], ()), 0, 0, [], 0, ()), false, ())
theorem okL_nil {α : Type} : okL ([] : List α) = true := decide_eq_true (by simp)
theorem okL_lim {α : Type} {l : List α} (h : okL l = true) : l.length ≤ lim := of_decide_eq_true h
theorem specNew (n : Int) (l : List E) (v w : Unit) (hl : okL l = true) : F_spec_NewWorkshop 0 ((n, l, v), w) = some (newW n l v) := by
  unfold F_spec_NewWorkshop
  have h1 := specW n l v (-1) (-1) [] 0 () () hl okL_nil
  unfold F_spec_IsWorkshop at h1
  rw [Option.bind_eq_some_iff] at h1
  obtain ⟨⟨b, u⟩, h2, h3⟩ := h1
  simp only [Option.some.injEq, Prod.mk.injEq, and_true] at h3
  subst h3
  have hlim : decide (List.length ([] : List E) + l.length ≤ lim) = true := by have := okL_lim hl; simp [this]
  have hlim2 : decide (List.length ([] : List Int) + List.length ([] : List Int) ≤ lim) = true := by simp
  simp only [h2, Option.bind_some]
  have hb : workB ((n, l, v), -1, -1, [], 0, ()) = graphB (n, l, v) := by
    unfold workB
    cases hg : graphB (n, l, v) with
    | false => rfl
    | true =>
      have := graphB_n hg
      have e : inB (-1) (n - 1) (-1) = true := by unfold inB; simp; omega
      simp only [e, List.all_nil, risingB, Bool.and_self, Bool.true_and]
      decide
  rw [hb]
  unfold newW
  cases hg : graphB (n, l, v) with
  | false => rfl
  | true =>
    simp only [Bool.not_true, Bool.false_eq_true, if_false, if_true]
    unfold F_spec_l12Own F_spec_l1Own
    simp only [hlim, hlim2, if_true, Option.bind_some, List.nil_append]
theorem implNew (n : Int) (l : List E) (v w : Unit) (hl : okL l = true) : F_impl_NewWorkshop 0 ((n, l, v), w) = some (newW n l v) := by
  unfold F_impl_NewWorkshop G_graph G_toIntA2S newW
  simp only [hl, if_true, Option.bind_some]
  cases hg : graphB (n, l, v) <;> rfl
theorem eqNew (n : Int) (l : List E) (v : Unit) (hl : okL l = true) : F_laws_eqWorkshop 0 ((newW n l v).1, (newW n l v).1, ()) = some (true, ()) := by
  unfold newW
  split
  · exact eqWorkshop_self n l () (-1) (-1) [] 0 () () hl okL_nil
  · exact eqWorkshop_self 0 [] () 0 0 [] 0 () () okL_nil okL_nil
theorem markGraph_eq (n : Int) (l : List E) (v w : Unit) (k : Int) (hl : okL l = true) (hk : okK k = true) : F_laws_markGraph 0 ((n, l, v), k, w) = some (k + 2 * (l.length : Int), (n, markA k l, v), ()) := by
  unfold F_laws_markGraph G_markIntA2S
  simp only [hl, hk, Bool.and_self, if_true, Option.bind_some]
theorem markWorkshop_eq (n : Int) (l : List E) (v : Unit) (p q : Int) (m : List Int) (t : Int) (u w : Unit) (k : Int) (hl : okL l = true) (hm : okL m = true) (hk : okK k = true) (hk2 : okK (k + 2 * (l.length : Int)) = true) :
    F_laws_markWorkshop 0 (((n, l, v), p, q, m, t, u), k, w) = some (k + 2 * (l.length : Int) + (m.length : Int), ((n, markA k l, v), p, q, markL (k + 2 * (l.length : Int)) m, t, u), ()) := by
  unfold F_laws_markWorkshop G_markIntS
  simp only [markGraph_eq n l v _ k hl hk, hm, hk2, Bool.and_self, if_true, Option.bind_some]
theorem okK_small {k : Int} (h : 0 ≤ k) (h2 : k ≤ 4398046511104) : okK k = true := by unfold okK; simp [h, h2]
theorem markA_ok {k : Int} {l : List E} (h : okL l = true) : okL (markA k l) = true := by unfold okL at h ⊢; rwa [markA_len]
theorem markL_ok {k : Int} {l : List Int} (h : okL l = true) : okL (markL k l) = true := by unfold okL at h ⊢; rwa [markL_len]
theorem heldWorkshop_marked (n : Int) (l : List E) (v : Unit) (p q : Int) (m : List Int) (t : Int) (u w : Unit) (k : Int) (hl : okL l = true) (hm : okL m = true) (hk : okK k = true) (hk2 : okK (k + 2 * (l.length : Int)) = true) :
    F_laws_heldWorkshop 0 (((n, markA k l, v), p, q, markL (k + 2 * (l.length : Int)) m, t, u), k, w) = some (k + 2 * (l.length : Int) + (m.length : Int), ()) := by
  have h0 := okK_of hk
  have h1 := okK_of hk2
  unfold F_laws_heldWorkshop F_laws_heldGraph G_heldIntA2S G_heldIntS
  have c1 : decide (k + 2 * (l.length : Int) < 0) = false := by simp; omega
  have c2 : decide (k + 2 * (l.length : Int) + (m.length : Int) < 0) = false := by simp; omega
  simp only [markA_ok hl, markL_ok hm, hk, hk2, Bool.and_self, if_true, Option.bind_some, held_markA, held_markL, c1, c2, Bool.false_eq_true, if_false]
theorem newW_marks (n : Int) (l : List E) (v : Unit) (h1 : l.length ≤ 1048576) : ∃ k W, F_laws_markWorkshop 0 ((newW n l v).1, 1, ()) = some (k, W, ()) ∧ F_laws_heldWorkshop 0 (W, 1, ()) = some (k, ()) ∧ 0 ≤ k := by
  have hl := okL_of h1
  unfold newW
  split
  · refine ⟨_, _, markWorkshop_eq n l () (-1) (-1) [] 0 () () 1 hl okL_nil (by decide) (okK_small (by omega) (by omega)), heldWorkshop_marked n l () (-1) (-1) [] 0 () () 1 hl okL_nil (by decide) (okK_small (by omega) (by omega)), by simp; omega⟩
  · exact ⟨_, _, markWorkshop_eq 0 [] () 0 0 [] 0 () () 1 okL_nil okL_nil (by decide) (by decide), heldWorkshop_marked 0 [] () 0 0 [] 0 () () 1 okL_nil okL_nil (by decide) (by decide), by simp⟩
theorem law3 : ∀ d, WfD (Kd.tuple ([(K_PiSPiiqq, false)].map (·.1))) d → ∃ out, F_laws_FnExactNewWorkshop 0 d = some out ∧ (splitT [.bool] [] out).1.1 = true := by
  rintro ⟨⟨n, l, v⟩, w⟩ ⟨⟨_, hl, _⟩, _⟩
  have hl : l.length ≤ maxLen := hl.1
  refine ⟨(true, ()), ?_, rfl⟩
  unfold F_laws_FnExactNewWorkshop
  simp only [szGraph_eq n l v 1048576 () (by omega) (by omega) hl]
  by_cases h : szStep 1048576 l.length < 0
  · simp only [h, decide_true, if_true]
  · have h1 := (szStep_le h).1
    have h1 : l.length ≤ 1048576 := by omega
    have ho := okL_of h1
    have hk : decide ((1 : Int) + 2 * (l.length : Int) < 0) = false := by simp; omega
    obtain ⟨k, W, hm, hh, hp⟩ := newW_marks n l v h1
    have hk2 : decide (k < 0) = false := by simp; omega
    simp only [h, decide_false, Bool.false_eq_true, if_false, toGraph_eq n l v _ ho, specNew n l v _ ho, implNew n l v _ ho, eqNew n l v ho, eqGraph_self n l v v _ ho, markGraph_eq n l v _ 1 ho (by decide), hk, hm, hh, hk2, Option.bind_some, beq_self_eq_true, bne_self_eq_false, Bool.not_true]
end Go.V.W
