/- What the law FnExactDoWorks leans on, part 6: an interpreter of the model as plain data, its soundness, the functions as it tells them, and their laws. -/
import Derived.Shelf.Lays
import Derived.Shelf.LaysM
import Derived.Test.YtamdaldhbicnnaaGreatVE
set_option linter.unusedVariables false
set_option linter.unusedSimpArgs false
set_option maxRecDepth 100000
set_option linter.unusedVariables false
set_option linter.unusedSimpArgs false
namespace Go.V.W
open Go.Proofs
theorem eqB_e (x y : E) : eqB K_Piiq x y = decide (x = y) := by
 obtain ⟨a, b, _⟩ := x
 obtain ⟨c, d, _⟩ := y
 show ((a == c) && ((b == d) && true)) = _
 rw [Bool.eq_iff_iff]
 simp
theorem node_eq (n : Int) (l : List E) (v : Unit) (x : Int) (u : Unit) (h0 : 0 ≤ n) (h8 : n ≤ 8) : g_spec_l2Node ((n, l, v), x, u) = (inB 0 (n - 1) x, ()) := by
 unfold g_spec_l2Node
 have hw : IntKind.wrap .i64 (n - 1) = n - 1 := wrap_in _ (by omega) (by omega)
 simp only [hw, l1In_eq]
theorem least_eq (a b : Int) (u : Unit) : g_spec_l1Least (a, b, u) = ((if a < b then a else b), ()) := by
 unfold g_spec_l1Least
 by_cases h : a < b <;> simp [h]
theorem eE_eq {a b : Int} (h : ¬ a = b) (u v : Unit) : ((g_spec_l1Least (a, b, u)).1, (g_spec_l1Most (a, b, v)).1, ()) = eE a b := by
 rw [least_eq, most_eq]
 unfold eE
 by_cases h1 : a < b
 ·simp only [h1, if_true]
 ·simp only [h1, if_false]
theorem ToggleEdge_lim (d) (r) (h : G_ToggleEdge d = some r) : ∃ N, F_spec_ToggleEdge N d = some r := by
 obtain ⟨⟨n, es, u⟩, a, b, _⟩ := d
 unfold G_ToggleEdge at h
 split at h
 ·rename_i hc
  have hl : es.length ≤ 1000 := of_decide_eq_true hc
  have hl2 : es.length ≤ lim := by unfold lim; omega
  have h := Option.some.inj h
  subst h
  refine ⟨es.length + 1, ?_⟩
  unfold F_spec_ToggleEdge togB G_graph
  have ho : okL es = true := decide_eq_true hl2
  simp only [ho, if_true, Option.bind_some]
  cases hg : graphB (n, es, u) with
  | false => rfl
  | true =>
   obtain ⟨h0, h8⟩ := graphB_n hg
   simp only [node_eq n es u _ _ h0 h8, Bool.not_true, Bool.false_eq_true, if_false, Bool.true_and]
   cases ha : inB 0 (n - 1) a with
   | false => rfl
   | true =>
    cases hb : inB 0 (n - 1) b with
    | false => rfl
    | true =>
     cases hab : a == b with
     | true => rfl
     | false =>
      have hne : ¬ a = b := by simpa using hab
      have he := eE_eq hne () ()
      have := loop_keep (L := spec_ToggleEdge_l0 (es.length + 1)) (r := spec_ToggleEdge_l0_r (es.length + 1)) (fun _ _ => rfl) es (mk := fun i A => ((n, es, u), (0, [], ()), eE a b, (n, A, ()), (i : Int), ())) (f := fun x => if (!decide (x = eE a b)) = true then [x] else []) (o := fun A => .inl ((n, es, u), (0, [], ()), eE a b, (n, A, ()), ())) (fun x => one_len) (by
        intro back i hi A hA
        unfold spec_ToggleEdge_l0_r
        have hle : decide (A.length + List.length [es[i]] ≤ lim) = true := by unfold lim; simp; omega
        have e : at_ K_Piiq es i = es[i] := at_get (e := K_Piiq) hi
        simp only [lt_dec hi, if_true, idxIn_nat hi, Int.toNat_natCast, e, hle, wrap_up hi (lim_max hl2), eqB_e]
        by_cases hh : (!decide (es[i] = eE a b)) = true
        ·simp only [hh, if_true]
        ·simp only [hh, if_false, List.append_nil, Bool.false_eq_true])
       (by
        intro back A hA
        unfold spec_ToggleEdge_l0_r
        simp only [lt_not, Bool.false_eq_true, if_false]) es.length (Nat.le_refl _)
      rw [flat_filter] at this
      simp only [Int.natCast_zero] at this
      have hfl : (outE es (eE a b)).length ≤ es.length := List.length_filter_le _ _
      have hp : G_l2Put (outE es (eE a b), eE a b, ()) = some (insE (eE a b) (outE es (eE a b)), ()) := by
       unfold G_l2Put
       rw [if_pos (decide_eq_true (by show (outE es (eE a b)).length ≤ 1000; omega))]
      rw [← he] at this hp
      simp only [Bool.not_true, Bool.not_false, Bool.and_self, Bool.false_eq_true, if_false, if_true, this, Option.bind_some]
      show _ = some ((n, togE es (eE a b), ()), true, ())
      unfold togE
      by_cases hh : (outE es (eE a b)).length = es.length
      ·have hh2 : (((es.filter fun x => !decide (x = eE a b)).length : Int) == (es.length : Int)) = true := by
        have : (outE es (eE a b)).length = es.length := hh
        unfold outE at this
        simp [this]
       rw [← he] at hh2
       rw [if_pos hh]
       simp only [hh2, if_true]
       unfold outE at hp
       simp only [he] at hp ⊢
       simp only [hp, Option.bind_some]
       rfl
      ·have hh2 : (((es.filter fun x => !decide (x = eE a b)).length : Int) == (es.length : Int)) = false := by
        have : ¬ (outE es (eE a b)).length = es.length := hh
        unfold outE at this
        simp only [beq_eq_false_iff_ne, ne_eq]
        omega
       rw [← he] at hh2
       rw [if_neg hh]
       simp only [hh2, Bool.false_eq_true, if_false]
       simp only [he]
       rfl
 ·cases h
theorem filter_setF (p : Nat → Bool) (q : Int → Bool) : ∀ k x, (setF p k x).filter q = setF (fun y => p y && q (y : Int)) k x := by
 intro k
 induction k with
 | zero => intro x; rfl
 | succ k ih =>
  intro x
  show (if p x = true then (x : Int) :: setF p k (x + 1) else setF p k (x + 1)).filter q = if (p x && q (x : Int)) = true then (x : Int) :: setF (fun y => p y && q (y : Int)) k (x + 1) else setF (fun y => p y && q (y : Int)) k (x + 1)
  cases hp : p x with
  | false => simp [ih]
  | true =>
   simp only [if_true, List.filter_cons, ih, Bool.true_and]
theorem all_mask {n : Nat} (h : n ≤ 8) : IntKind.wrap .i64 (shl .i64 1 (n : Int) - 1) = ((2 ^ n - 1 : Nat) : Int) ∧ 2 ^ n - 1 ≤ 255 := by
 have : n = 0 ∨ n = 1 ∨ n = 2 ∨ n = 3 ∨ n = 4 ∨ n = 5 ∨ n = 6 ∨ n = 7 ∨ n = 8 := by omega
 rcases this with rfl | rfl | rfl | rfl | rfl | rfl | rfl | rfl | rfl <;> decide
theorem all_some {n : Nat} (hn : n ≤ 8) (es : List E) (u v : Unit) : F_spec_l2All 0 (((n : Int), es, u), v) = some (setF (fun _ => true) n 0, ()) := by
 unfold F_spec_l2All
 obtain ⟨m1, m2⟩ := all_mask hn
 have i1 : inB 0 8 (n : Int) = true := inB_iff.2 (by omega)
 have i2 : inB 0 255 ((2 ^ n - 1 : Nat) : Int) = true := inB_iff.2 (by omega)
 simp only [nonneg_dec, if_true, m1, G_l2Bits, i1, i2, Bool.and_self, Option.bind_some, Int.toNat_natCast]
 congr 2
 refine setF_congr fun y _ hy => ?_
 rw [Nat.testBit_two_pow_sub_one]
 exact decide_eq_true (by omega)
theorem own_ws (n : Int) (l : List E) (v : Unit) (p q : Int) (m : List Int) (t : Int) (u w : Unit) (hl : okL l = true) (hm : okL m = true) : F_spec_l12Own 0 (((n, l, v), p, q, m, t, u), w) = some (((n, l, ()), p, q, m, t, ()), ()) := by
 unfold F_spec_l12Own F_spec_l1Own
 have e1 : decide (List.length ([] : List E) + l.length ≤ lim) = true := by
  have := okL_lim hl
  simp; omega
 have e2 : decide (List.length ([] : List Int) + m.length ≤ lim) = true := by
  have := okL_lim hm
  simp; omega
 simp only [e1, e2, if_true, List.nil_append, Option.bind_some]
theorem less_eq (y x : Int) (u : Unit) (h0 : -1 ≤ y) (h1 : y ≤ 1000) : g_spec_l12Less (y, x, u) = (lessN y x, ()) := by
 unfold g_spec_l12Less lessN
 have hw : IntKind.wrap .i64 (y - 1) = y - 1 := wrap_in _ (by omega) (by omega)
 by_cases h : y > x <;> simp [h, hw]
theorem okW_parts {n : Int} {es : List E} {v : Unit} {p q : Int} {m : List Int} {t : Int} {u : Unit} (h : okW ((n, es, v), p, q, m, t, u) = true) :
  graphB (n, es, v) = true ∧ 0 ≤ n ∧ n ≤ 8 ∧ (-1 ≤ p ∧ p ≤ n - 1) ∧ (-1 ≤ q ∧ q ≤ n - 1) ∧ (∀ y ∈ m, 0 ≤ y ∧ y ≤ n - 1) ∧ risingB m = true ∧ (0 ≤ t ∧ t ≤ 1000) ∧ es.length ≤ 1000 ∧ m.length ≤ 1000 ∧ okL es = true ∧ okL m = true := by
 unfold okW workB at h
 simp only [Bool.and_eq_true, decide_eq_true_eq] at h
 obtain ⟨⟨⟨⟨⟨⟨h1, h2⟩, h3⟩, h4, h5⟩, h6⟩, h7⟩, h8⟩ := h
 obtain ⟨n0, n8⟩ := graphB_n h1
 refine ⟨h1, n0, n8, inB_iff.1 h2, inB_iff.1 h3, fun y hy => inB_iff.1 (List.all_eq_true.1 h4 y hy), h5, inB_iff.1 h6, h7, h8, decide_eq_true (by unfold lim; omega), decide_eq_true (by unfold lim; omega)⟩
theorem dropG_eq {n : Nat} (hn : n ≤ 8) (es : List E) (ho : okL es = true) (v : Unit) (x : Int) :
  G_l2Without (setF (fun _ => true) n 0, x, ()) = some (setF (fun y => !decide ((y : Int) = x)) n 0, ()) ∧ G_l2Induced (((n : Int), es, v), setF (fun y => !decide ((y : Int) = x)) n 0, ()) = some (dropG ((n : Int), es, v) x, ()) := by
 have l1 := setF_len (p := fun _ => true) (k := n) (x := 0)
 have l2 := setF_len (p := fun y => !decide ((y : Int) = x)) (k := n) (x := 0)
 refine ⟨?_, ?_⟩
 ·unfold G_l2Without
  rw [if_pos (show okL (setF (fun _ => true) n 0) = true from decide_eq_true (by unfold lim; omega)), filter_setF]
  rfl
 ·unfold G_l2Induced dropG
  have e : decide ((setF (fun y => !decide ((y : Int) = x)) n 0).length ≤ 8) = true := decide_eq_true (by omega)
  simp only [ho, e, Bool.and_self, if_true, Int.toNat_natCast]
theorem l12Drop_lim (d) (r) (h : G_l12Drop d = some r) : ∃ N, F_spec_l12Drop N d = some r := by
 obtain ⟨⟨⟨n, es, v⟩, p, q, m, t, u⟩, x, _⟩ := d
 unfold G_l12Drop at h
 split at h
 ·rename_i hc
  simp only [Bool.and_eq_true] at hc
  obtain ⟨hw, hx⟩ := hc
  obtain ⟨hg, n0, n8, hp, hq, hmm, hr, ht, le1, le2, ho, hm⟩ := okW_parts hw
  have hx : inB 0 (n - 1) x = true := hx
  have h := Option.some.inj h
  subst h
  refine ⟨m.length + 1, ?_⟩
  obtain ⟨a, rfl⟩ := nat_of n0
  unfold F_spec_l12Drop
  have ha : a ≤ 8 := by omega
  obtain ⟨d1, d2⟩ := dropG_eq ha es ho v x
  have hml : m.length ≤ lim := okL_lim hm
  have := loop_keep (L := spec_l12Drop_l0 (m.length + 1)) (r := spec_l12Drop_l0_r (m.length + 1)) (fun _ _ => rfl) m (mk := fun i A => (x, (((a : Int), es, v), p, q, m, t, u), W0, (dropG ((a : Int), es, v) x, lessN p x, lessN q x, A, t, ()), (i : Int), ())) (f := fun y => if (y != x) = true then [lessN y x] else []) (o := fun A => .inl (W0, (dropG ((a : Int), es, v) x, lessN p x, lessN q x, A, t, ()), ())) (fun x => one_len) (by
    intro back i hi A hA
    unfold spec_l12Drop_l0_r
    have hle : decide (A.length + List.length [lessN m[i] x] ≤ lim) = true := by simp; omega
    have e : at_ I m i = m[i] := at_get (e := I) hi
    have hb := hmm m[i] (List.getElem_mem hi)
    simp only [lt_dec hi, if_true, idxIn_nat hi, Int.toNat_natCast, e, less_eq m[i] x () (by omega) (by omega), hle, wrap_up hi (lim_max hml)]
    by_cases hh : (m[i] != x) = true
    ·simp only [hh, if_true]
    ·simp only [hh, if_false, List.append_nil, Bool.false_eq_true])
   (by
    intro back A hA
    unfold spec_l12Drop_l0_r
    simp only [lt_not, Bool.false_eq_true, if_false]) m.length (Nat.le_refl _)
  rw [flat_filterMap] at this
  simp only [Int.natCast_zero] at this
  unfold W0 at this
  simp only [own_ws (a : Int) es v p q m t u () ho hm, all_some ha, d1, d2, Option.bind_some, less_eq p x () (by omega) (by omega), less_eq q x () (by omega) (by omega), this]
  rfl
 ·cases h
theorem find_idx {α : Type} (p : α → Bool) : ∀ l : List α, l.any p = true → ∃ j, ∃ hj : j < l.length, p l[j] = true ∧ (∀ i (hi : i < l.length), i < j → p l[i] = false) ∧ l.find? p = some l[j] := by
 intro l
 induction l with
 | nil => intro h; cases h
 | cons a l ih =>
  intro h
  cases hp : p a with
  | true => exact ⟨0, by simp, hp, fun i hi hij => absurd hij (by omega), by simp [List.find?_cons, hp]⟩
  | false =>
   rw [List.any_cons, hp, Bool.false_or] at h
   obtain ⟨j, hj, h1, h2, h3⟩ := ih h
   refine ⟨j + 1, by simp; exact hj, h1, fun i hi hij => ?_, ?_⟩
   ·cases i with
    | zero => exact hp
    | succ i => exact h2 i (by simpa using hi) (by omega)
   ·rw [List.find?_cons, hp]
    exact h3
theorem sqB_bound {n : Nat} {T : Tab} (h : sqB n T = true) : sqL n T = true ∧ ∀ c r, c < n → r < n → -1 ≤ tab2 T (c : Int) (r : Int) ∧ tab2 T (c : Int) (r : Int) ≤ 1000 := by
 unfold sqB at h
 simp only [Bool.and_eq_true] at h
 obtain ⟨h1, h2⟩ := h
 refine ⟨h1, fun c r hc hr => ?_⟩
 obtain ⟨t1, t2⟩ := sqL_parts h1
 have hcl : c < T.length := by omega
 have e1 : at_ K_Si T c = T[c] := at_get (e := K_Si) hcl
 have t2' := t2 c hc
 rw [e1] at t2'
 have hrl : r < T[c].length := by omega
 have := List.all_eq_true.1 (List.all_eq_true.1 h2 T[c] (List.getElem_mem hcl)) T[c][r] (List.getElem_mem hrl)
 simp only [Bool.and_eq_true, decide_eq_true_eq] at this
 have e2 : tab2 T (c : Int) (r : Int) = T[c][r] := by
  unfold tab2
  simp [List.getD_eq_getElem?_getD, hcl, hrl]
 rw [e2]
 exact this
theorem two_parts {g : Gr} {c r : Int} (hg : grB g = true) (h : twoB g c r = true) : c = (c.toNat : Int) ∧ c.toNat < g.1.toNat ∧ r = (r.toNat : Int) ∧ r.toNat < g.1.toNat := by
 obtain ⟨_, g2, _, _⟩ := grB_parts hg
 unfold twoB at h
 simp only [Bool.and_eq_true] at h
 obtain ⟨a, b⟩ := inB_nat g2 h.1
 obtain ⟨c, d⟩ := inB_nat g2 h.2
 exact ⟨a, b, c, d⟩
theorem l3Chase_lim (d) (r) (h : G_l3Chase d = some r) : ∃ N, F_spec_l3Chase N d = some r := by
 obtain ⟨g, T, c, q, _⟩ := d
 unfold G_l3Chase at h
 split at h
 ·rename_i hc
  simp only [Bool.and_eq_true, decide_eq_true_eq] at hc
  obtain ⟨⟨⟨⟨hg, hT⟩, h2⟩, ht⟩, hany⟩ := hc
  have hT : sqB g.1.toNat T = true := hT
  obtain ⟨c1, c2, q1, q2⟩ := two_parts hg h2
  obtain ⟨hsq, hbd⟩ := sqB_bound hT
  obtain ⟨t1, t2⟩ := sqL_parts hsq
  have h := Option.some.inj h
  subst h
  refine ⟨20, ?_⟩
  unfold F_spec_l3Chase
  have hb := ball_some hg c2
  rw [← c1] at hb
  simp only [hb, Option.bind_some]
  obtain ⟨j, hj, p1, p2, p3⟩ := find_idx _ _ hany
  have hbl := ballF_len g.1.toNat g.2.1 c
  obtain ⟨_, _, g8, _⟩ := grB_parts hg
  have hok := ballF_ok g.1.toNat g.2.1 c.toNat c2
  rw [← c1] at hok
  have hj : j < (ballF g.1.toNat g.2.1 c).length := hj
  have p1 : chaseP (ballF g.1.toNat g.2.1) T c q (ballF g.1.toNat g.2.1 c)[j] = true := p1
  have p2 : ∀ i (hi : i < (ballF g.1.toNat g.2.1 c).length), i < j → chaseP (ballF g.1.toNat g.2.1) T c q (ballF g.1.toNat g.2.1 c)[i] = false := p2
  have p3 : (ballF g.1.toNat g.2.1 c).find? (chaseP (ballF g.1.toNat g.2.1) T c q) = some (ballF g.1.toNat g.2.1 c)[j] := p3
  have ht : 1 ≤ tab2 T c q := ht
  have hbd' := hbd c.toNat q.toNat c2 q2
  have hat := tab2_at hsq c2 q2
  rw [← c1, ← q1] at hbd' hat
  have i1 : idxIn c T.length = true := by rw [c1]; exact idxIn_nat (by omega)
  have i2 : idxIn q (at_ K_Si T c.toNat).length = true := by rw [q1]; exact idxIn_nat (by rw [t2 _ c2]; exact q2)
  have hw : IntKind.wrap .i64 (tab2 T c q - 1) = tab2 T c q - 1 := wrap_in _ (by omega) (by omega)
  have step : ∀ i (hi : i < (ballF g.1.toNat g.2.1 c).length) f, spec_l3Chase_l0 20 (f + 1) (T, c, q, g, ballF g.1.toNat g.2.1 c, (i : Int), ()) = if chaseP (ballF g.1.toNat g.2.1) T c q (ballF g.1.toNat g.2.1 c)[i] = true then some (.inl (ballF g.1.toNat g.2.1 c, (i : Int), ())) else spec_l3Chase_l0 20 f (T, c, q, g, ballF g.1.toNat g.2.1 c, ((i + 1 : Nat) : Int), ()) := by
   intro i hi f
   show spec_l3Chase_l0_r 20 (spec_l3Chase_l0 20 f) _ = _
   unfold spec_l3Chase_l0_r
   obtain ⟨y, hy, ey⟩ := hok _ (List.getElem_mem hi)
   have ea : at_ I (ballF g.1.toNat g.2.1 c) i = (y : Int) := (at_get (e := I) hi).trans ey
   have haf := after_some hg hT hy q2
   rw [← q1] at haf
   simp only [idxIn_nat hi, if_true, Int.toNat_natCast, ea, haf, Option.bind_some, i1, i2, hat, hw, wrap_up hi (show (ballF g.1.toNat g.2.1 c).length ≤ maxLen by unfold maxLen; omega), ey]
   unfold chaseP
   by_cases hh : afterT (ballF g.1.toNat g.2.1) T (y : Int) q = tab2 T c q - 1
   ·have a1 : decide (afterT (ballF g.1.toNat g.2.1) T (y : Int) q + 1 = tab2 T c q) = true := decide_eq_true (by omega)
    have a2 : decide (0 ≤ afterT (ballF g.1.toNat g.2.1) T (y : Int) q) = true := decide_eq_true (by omega)
    have a3 : (afterT (ballF g.1.toNat g.2.1) T (y : Int) q != tab2 T c q - 1) = false := by simpa using hh
    simp only [a1, a2, a3, Bool.and_self, Bool.false_eq_true, if_false, if_true]
   ·have a1 : decide (afterT (ballF g.1.toNat g.2.1) T (y : Int) q + 1 = tab2 T c q) = false := decide_eq_false (by omega)
    have a3 : (afterT (ballF g.1.toNat g.2.1) T (y : Int) q != tab2 T c q - 1) = true := by simpa using hh
    simp only [a1, a3, Bool.false_and, Bool.false_eq_true, if_false, if_true]
  have key : ∀ k i f, i + k = j → k < f → spec_l3Chase_l0 20 f (T, c, q, g, ballF g.1.toNat g.2.1 c, (i : Int), ()) = some (.inl (ballF g.1.toNat g.2.1 c, (j : Int), ())) := by
   intro k
   induction k with
   | zero =>
    intro i f e1 e2
    obtain ⟨f, rfl⟩ : ∃ m, f = m + 1 := ⟨f - 1, by omega⟩
    have e : i = j := by omega
    subst e
    rw [step i hj f, if_pos p1]
   | succ k ih =>
    intro i f e1 e2
    obtain ⟨f, rfl⟩ : ∃ m, f = m + 1 := ⟨f - 1, by omega⟩
    have hi : i < (ballF g.1.toNat g.2.1 c).length := by omega
    rw [step i hi f, if_neg (by rw [p2 i hi (by omega)]; simp)]
    exact ih (i + 1) f (by omega) (by omega)
  have := key j 0 20 (by omega) (by omega)
  simp only [Int.natCast_zero] at this
  have ea : at_ I (ballF g.1.toNat g.2.1 c) j = (ballF g.1.toNat g.2.1 c)[j] := at_get (e := I) hj
  simp only [this, Option.bind_some, idxIn_nat hj, if_true, Int.toNat_natCast, ea, firstL, p3, Option.getD_some]
 ·cases h
theorem ball_self {n : Nat} (es : List E) {x : Nat} (hx : x < n) : (x : Int) ∈ ballF n es (x : Int) := setF_mem.2 ⟨x, Nat.zero_le _, by omega, by simp, rfl⟩
theorem l3Flee_lim (d) (r) (h : G_l3Flee d = some r) : ∃ N, F_spec_l3Flee N d = some r := by
 obtain ⟨g, T, c, q, _⟩ := d
 unfold G_l3Flee at h
 split at h
 ·rename_i hc
  simp only [Bool.and_eq_true] at hc
  obtain ⟨⟨hg, hsq⟩, h2⟩ := hc
  have hsq : sqL g.1.toNat T = true := hsq
  obtain ⟨c1, c2, q1, q2⟩ := two_parts hg h2
  obtain ⟨t1, t2⟩ := sqL_parts hsq
  have h := Option.some.inj h
  subst h
  refine ⟨20, ?_⟩
  unfold F_spec_l3Flee
  have hb := ball_some hg q2
  have hbl := ballF_len g.1.toNat g.2.1 q
  have hok := ballF_ok g.1.toNat g.2.1 q.toNat q2
  have hself := ball_self g.2.1 q2
  rw [← q1] at hok hself hb
  obtain ⟨_, _, g8, _⟩ := grB_parts hg
  simp only [hb, Option.bind_some]
  show (if idxIn 0 (ballF g.1.toNat g.2.1 q).length = true then _ else none) = some (fleeL (tab2 T c) (ballF g.1.toNat g.2.1 q) ((ballF g.1.toNat g.2.1 q).headD 0), ())
  generalize ballF g.1.toNat g.2.1 q = ball at hbl hok hself
  have hlen : 0 < ball.length := List.length_pos_of_mem hself
  have h0 : idxIn (0 : Int) ball.length = true := idxIn_nat hlen
  have i1 : idxIn c T.length = true := by rw [c1]; exact idxIn_nat (by omega)
  have key : ∀ k i f (b : Nat), i + k = ball.length → k < f → b < g.1.toNat →
    spec_l3Flee_l0 20 f (T, c, ball, (b : Int), (i : Int), ()) = some (.inl (fleeL (tab2 T c) (ball.drop i) (b : Int), ())) ∨ spec_l3Flee_l0 20 f (T, c, ball, (b : Int), (i : Int), ()) = some (.inr (.inl (fleeL (tab2 T c) (ball.drop i) (b : Int), ()))) := by
   intro k
   induction k with
   | zero =>
    intro i f b e1 e2 e3
    obtain ⟨f, rfl⟩ : ∃ m, f = m + 1 := ⟨f - 1, by omega⟩
    have e : i = ball.length := by omega
    subst e
    rw [List.drop_of_length_le (Nat.le_refl _)]
    right
    simp [spec_l3Flee_l0, spec_l3Flee_l0_r, fleeL]
   | succ k ih =>
    intro i f b e1 e2 e3
    obtain ⟨f, rfl⟩ : ∃ m, f = m + 1 := ⟨f - 1, by omega⟩
    have hi : i < ball.length := by omega
    obtain ⟨y, hy, ey⟩ := hok _ (List.getElem_mem hi)
    have ea : at_ I ball i = (y : Int) := (at_get (e := I) hi).trans ey
    have hd : ball.drop i = (y : Int) :: ball.drop (i + 1) := by rw [List.drop_eq_getElem_cons hi, ey]
    have hv := tab2_at hsq c2 hy
    have hv2 := tab2_at hsq c2 e3
    rw [← c1] at hv hv2
    have i2 : idxIn (y : Int) (at_ K_Si T c.toNat).length = true := idxIn_nat (by rw [t2 _ c2]; exact hy)
    have i3 : idxIn (b : Int) (at_ K_Si T c.toNat).length = true := idxIn_nat (by rw [t2 _ c2]; exact e3)
    have step : spec_l3Flee_l0 20 (f + 1) (T, c, ball, (b : Int), (i : Int), ()) = if tab2 T c (y : Int) < 0 then some (.inl ((y : Int), ())) else spec_l3Flee_l0 20 f (T, c, ball, (if tab2 T c (y : Int) > tab2 T c (b : Int) then (y : Int) else (b : Int)), ((i + 1 : Nat) : Int), ()) := by
     show spec_l3Flee_l0_r 20 (spec_l3Flee_l0 20 f) _ = _
     unfold spec_l3Flee_l0_r
     simp only [lt_dec hi, if_true, i1, idxIn_nat hi, Int.toNat_natCast, ea, i2, i3, hv, hv2, wrap_up hi (show ball.length ≤ maxLen by unfold maxLen; omega)]
     by_cases hh : tab2 T c (y : Int) < 0
     ·simp only [hh, decide_true, if_true]
     ·by_cases hh2 : tab2 T c (y : Int) > tab2 T c (b : Int)
      ·simp only [hh, hh2, decide_true, decide_false, if_true, if_false, Bool.false_eq_true]
      ·simp only [hh, hh2, decide_true, decide_false, if_true, if_false, Bool.false_eq_true]
    rw [step, hd]
    simp only [fleeL]
    by_cases hh : tab2 T c (y : Int) < 0
    ·rw [if_pos hh, if_pos hh]
     exact .inl rfl
    ·rw [if_neg hh, if_neg hh]
     by_cases hh2 : tab2 T c (y : Int) > tab2 T c (b : Int)
     ·rw [if_pos hh2]
      exact ih (i + 1) f y (by omega) (by omega) hy
     ·rw [if_neg hh2]
      exact ih (i + 1) f b (by omega) (by omega) e3
  obtain ⟨y, hy, ey⟩ := hok _ (List.getElem_mem hlen)
  have ea : at_ I ball 0 = (y : Int) := (at_get (e := I) hlen).trans ey
  have eh : ball.headD 0 = (y : Int) := by
   cases ball with
   | nil => simp at hlen
   | cons z zs => exact ey
  have := key ball.length 0 20 y (by omega) (by omega) hy
  simp only [Int.natCast_zero, List.drop_zero] at this
  simp only [h0, if_true, Int.toNat_zero, ea, eh]
  rcases this with h | h
  ·simp only [h, Option.bind_some]
  ·simp only [h, Option.bind_some]
 ·cases h
theorem l9Once_lim (d) (r) (h : G_l9Once d = some r) : ∃ N, F_spec_l9Once N d = some r := by
 obtain ⟨⟨n, es, u⟩, S, sk, _⟩ := d
 unfold G_l9Once at h
 split at h
 ·rename_i hc
  simp only [Bool.and_eq_true, decide_eq_true_eq, Bool.not_eq_true'] at hc
  obtain ⟨⟨hsk, hG⟩, hS⟩ := hc
  have hsk : sk = false := hsk
  subst hsk
  have hG' := hG
  unfold gOk at hG'
  simp only [Bool.and_eq_true, decide_eq_true_eq] at hG'
  obtain ⟨⟨ho, h0⟩, h8⟩ := hG'
  obtain ⟨a, rfl⟩ := nat_of h0
  have h8 : (a : Int) ≤ 8 := h8
  have hS : S.length ≤ 100 := hS
  have hoS : okL S = true := decide_eq_true (by unfold lim; omega)
  have h := Option.some.inj h
  subst h
  refine ⟨20, ?_⟩
  unfold F_spec_l9Once
  have key : ∀ k x f (o : List Int), x + k = a → k < f → o.length ≤ 100 + x →
    spec_l9Once_l0 20 f (S, false, ((a : Int), es, u), o, (x : Int), ()) = some (.inl (onceL es a S k x o, ())) := by
   intro k
   induction k with
   | zero =>
    intro x f o e1 e2 e3
    obtain ⟨f, rfl⟩ : ∃ m, f = m + 1 := ⟨f - 1, by omega⟩
    have e : x = a := by omega
    subst e
    simp [spec_l9Once_l0, spec_l9Once_l0_r, onceL]
   | succ k ih =>
    intro x f o e1 e2 e3
    obtain ⟨f, rfl⟩ : ∃ m, f = m + 1 := ⟨f - 1, by omega⟩
    have hx : x < a := by omega
    show spec_l9Once_l0_r 20 (spec_l9Once_l0 20 f) _ = _
    unfold spec_l9Once_l0_r
    have hop : F_spec_l9Open 0 (((a : Int), es, u), S, (x : Int), ()) = some (amongL es a S (x : Int), ()) := by
     unfold F_spec_l9Open G_l5Among
     have e : (gOk ((a : Int), es, u) && okL S) = true := by rw [hG, hoS]; rfl
     simp only [e, if_true, Option.bind_some, Int.toNat_natCast]
    have hh : G_l1Has (S, (x : Int), ()) = some (hasL S (x : Int), ()) := by unfold G_l1Has hasL; rw [if_pos hoS]
    simp only [lt_dec hx, if_true, hop, Option.bind_some, hh, wrap8 hx (by omega), onceL, Bool.false_eq_true, if_false]
    by_cases c1 : (amongL es a S (x : Int)).length = 1
    ·have b1 : (((amongL es a S (x : Int)).length : Int) == (1 : Int)) = true := by simp [c1]
     have i0 : idxIn (0 : Int) (amongL es a S (x : Int)).length = true := idxIn_nat (show 0 < (amongL es a S (x : Int)).length by omega)
     have ea : at_ I (amongL es a S (x : Int)) (0 : Int).toNat = (amongL es a S (x : Int)).headD 0 := by
      generalize amongL es a S (x : Int) = l at c1
      match l, c1 with
      | [z], _ => rfl
     simp only [b1, if_true, i0, ea]
     by_cases c2 : hasL S (x : Int) = true
     ·have hp : ∀ z, G_l1Put (o, z, ()) = some (putL z o, ()) := fun z => by
       unfold G_l1Put
       rw [if_pos (show okS1 o = true from decide_eq_true (by omega))]
      simp only [c2, if_true, hp, Option.bind_some, c1, and_self]
      refine ih (x + 1) f _ (by omega) (by omega) ?_
      have := putL_len ((amongL es a S (x : Int)).headD 0) o
      omega
     ·simp only [c2, if_false, and_false, Bool.false_eq_true]
      exact ih (x + 1) f _ (by omega) (by omega) (by omega)
    ·have b1 : (((amongL es a S (x : Int)).length : Int) == (1 : Int)) = false := by
      simp only [beq_eq_false_iff_ne, ne_eq]
      omega
     simp only [b1, Bool.false_eq_true, if_false, c1, false_and]
     exact ih (x + 1) f _ (by omega) (by omega) (by omega)
  have := key a 0 20 S (by omega) (by omega) (by omega)
  simp only [Int.natCast_zero] at this
  simp only [own_some S (by omega), Option.bind_some, this, Int.toNat_natCast]
 ·cases h
end Go.V.W
set_option linter.unusedVariables false
set_option linter.unusedSimpArgs false
namespace Go.V.W
open Go.Proofs
theorem bits_xor {a b : Nat} (ha : a < 256) (hb : b < 256) : bits .xor .i64 (a : Int) (b : Int) = ((a ^^^ b : Nat) : Int) := by
 have hab : a ^^^ b < 256 := Nat.xor_lt_two_pow (n := 8) ha hb
 have e : (BitVec.ofInt IntKind.i64.bits (a : Int) ^^^ BitVec.ofInt IntKind.i64.bits (b : Int)).toNat = a ^^^ b := by
  show (BitVec.ofInt 64 (a : Int) ^^^ BitVec.ofInt 64 (b : Int)).toNat = a ^^^ b
  rw [ofInt_nat, ofInt_nat, BitVec.toNat_xor, BitVec.toNat_ofNat, BitVec.toNat_ofNat, Nat.mod_eq_of_lt (by omega), Nat.mod_eq_of_lt (by omega)]
 unfold bits bitI
 simp only [Option.getD_some]
 rw [e]
 exact wrap_nat (by omega)
theorem bit_255 (i : Nat) : (255 : Nat).testBit i = decide (i < 8) := Nat.testBit_two_pow_sub_one 8 i
theorem bits_andNot {a b : Nat} (ha : a < 256) (hb : b < 256) : bits .andNot .i64 (a : Int) (b : Int) = ((a &&& (255 ^^^ b) : Nat) : Int) := by
 have hab : a &&& (255 ^^^ b) ≤ a := Nat.and_le_left
 have e : (BitVec.ofInt IntKind.i64.bits (a : Int) &&& ~~~BitVec.ofInt IntKind.i64.bits (b : Int)).toNat = a &&& (255 ^^^ b) := by
  show (BitVec.ofInt 64 (a : Int) &&& ~~~BitVec.ofInt 64 (b : Int)).toNat = a &&& (255 ^^^ b)
  rw [ofInt_nat, ofInt_nat]
  refine Nat.eq_of_testBit_eq fun i => ?_
  rw [BitVec.testBit_toNat, BitVec.getLsbD_and, BitVec.getLsbD_not, BitVec.getLsbD_ofNat, BitVec.getLsbD_ofNat, Nat.testBit_and, Nat.testBit_xor, bit_255]
  by_cases h : i < 8
  ·have h2 : i < 64 := by omega
   simp [h, h2]
  ·have : a.testBit i = false := Nat.testBit_lt_two_pow (Nat.lt_of_lt_of_le (show a < 2 ^ 8 from ha) (Nat.pow_le_pow_right (by omega) (by omega)))
   simp [this]
 unfold bits bitI
 simp only [Option.getD_some]
 rw [e]
 exact wrap_nat (by omega)
theorem isM_xor {n a : Nat} {p : Nat → Bool} {x : Nat} (hn : n ≤ 8) (hx : x < n) (h : isM n a p) : isM n (a ^^^ 2 ^ x) (fun y => Bool.xor (p y) (decide ((y : Int) = (x : Int)))) := by
 refine ⟨Nat.xor_lt_two_pow (n := 8) h.1 (pow_small (by omega)), fun y => ?_⟩
 rw [Nat.testBit_xor, h.2 y, Nat.testBit_two_pow]
 by_cases e : y = x
 ·subst e; simp [hx]
 ·have e2 : ¬ x = y := fun h => e h.symm
  have e3 : ¬ (y : Int) = (x : Int) := by omega
  simp [e, e2, e3]
theorem isM_out {n a : Nat} {p : Nat → Bool} (hn : n ≤ 8) (h : isM n a p) : isM n ((2 ^ n - 1) &&& (255 ^^^ a)) (fun y => !p y) := by
 refine ⟨Nat.lt_of_le_of_lt Nat.and_le_left (by have := (all_mask hn).2; omega), fun y => ?_⟩
 rw [Nat.testBit_and, Nat.testBit_xor, Nat.testBit_two_pow_sub_one, bit_255, h.2 y]
 by_cases hy : y < n
 ·have : y < 8 := by omega
  simp [hy, this]
 ·simp [hy]
theorem maskN_fold (n : Nat) (hn : n ≤ 8) : ∀ (l : List Int) (s : Nat) (p : Nat → Bool), isM n s p → (∀ y ∈ l, 0 ≤ y ∧ y ≤ (n : Int) - 1) → isM n (l.foldl (fun a x => a ||| 2 ^ x.toNat) s) (fun y => p y || hasL l (y : Int)) := by
 intro l
 induction l with
 | nil => intro s p h _; exact ⟨h.1, fun y => by simp [h.2 y, hasL]⟩
 | cons x l ih =>
  intro s p h hl
  have hx := hl x (by simp)
  rw [List.foldl_cons]
  have h2 : isM n (s ||| 2 ^ x.toNat) (fun y => p y || (x == (y : Int))) := by
   refine ⟨Nat.or_lt_two_pow (n := 8) h.1 (pow_small (by omega)), fun y => ?_⟩
   rw [Nat.testBit_or, h.2 y, Nat.testBit_two_pow, Bool.eq_iff_iff]
   simp only [Bool.or_eq_true, Bool.and_eq_true, decide_eq_true_eq, beq_iff_eq]
   constructor
   ·rintro (⟨a, b⟩ | a)
    ·exact ⟨a, .inl b⟩
    ·exact ⟨by omega, .inr (by omega)⟩
   ·rintro ⟨a, b | b⟩
    ·exact .inl ⟨a, b⟩
    ·exact .inr (by omega)
  have := ih _ _ h2 fun y hy => hl y (by simp [hy])
  refine ⟨this.1, fun y => ?_⟩
  rw [this.2 y]
  simp only [hasL, List.any_cons, Bool.or_assoc]
theorem maskN_isM {n : Nat} (hn : n ≤ 8) {l : List Int} (h : ∀ y ∈ l, 0 ≤ y ∧ y ≤ (n : Int) - 1) : isM n (maskN l) (fun y => hasL l (y : Int)) := by
 have := maskN_fold n hn l 0 (fun _ => false) ⟨by omega, fun y => by simp⟩ h
 exact ⟨this.1, fun y => by rw [show maskN l = l.foldl (fun a x => a ||| 2 ^ x.toNat) 0 from rfl, this.2 y]; rfl⟩
theorem maskOf_l0 (N : Nat) (l : List Int) (hl : l.length ≤ lim) (hr : ∀ y ∈ l, 0 ≤ y ∧ y ≤ 7) : ∀ k i f (s : Nat), i + k = l.length → k < f → s < 256 →
  impl_maskOf_l0 N f ((s : Int), l, (l.length : Int), (i : Int), ()) = some (.inl ((((l.drop i).foldl (fun a x => a ||| 2 ^ x.toNat) s : Nat) : Int), ())) := by
 intro k
 induction k with
 | zero =>
  intro i f s e1 e2 e3
  obtain ⟨f, rfl⟩ : ∃ m, f = m + 1 := ⟨f - 1, by omega⟩
  have e : i = l.length := by omega
  subst e
  rw [List.drop_of_length_le (Nat.le_refl _)]
  simp [impl_maskOf_l0, impl_maskOf_l0_r]
 | succ k ih =>
  intro i f s e1 e2 e3
  obtain ⟨f, rfl⟩ : ∃ m, f = m + 1 := ⟨f - 1, by omega⟩
  have hi : i < l.length := by omega
  have hx := hr l[i] (List.getElem_mem hi)
  obtain ⟨y, ey⟩ := nat_of hx.1
  have ea : at_ I l i = (y : Int) := (at_get (e := I) hi).trans ey
  have hy : y < 8 := by omega
  show impl_maskOf_l0_r N (impl_maskOf_l0 N f) _ = _
  unfold impl_maskOf_l0_r
  simp only [lt_dec hi, if_true, idxIn_nat hi, Int.toNat_natCast, ea, nonneg_dec, shl_one hy, bits_or e3 (pow_small hy), wrap_up hi (lim_max hl)]
  rw [ih (i + 1) f _ (by omega) (by omega) (Nat.or_lt_two_pow (n := 8) e3 (pow_small hy)), List.drop_eq_getElem_cons hi, List.foldl_cons, ey, Int.toNat_natCast]
theorem maskOf_lim (d) (r) (h : G_maskOf d = some r) : ∃ N, F_impl_maskOf N d = some r := by
 obtain ⟨l, _⟩ := d
 unfold G_maskOf at h
 split at h
 ·rename_i hc
  simp only [Bool.and_eq_true] at hc
  have h := Option.some.inj h
  subst h
  refine ⟨l.length + 1, ?_⟩
  unfold F_impl_maskOf
  have := maskOf_l0 (l.length + 1) l (okL_lim hc.1) (fun y hy => inB_iff.1 (List.all_eq_true.1 hc.2 y hy)) l.length 0 (l.length + 1) 0 (by omega) (by omega) (by omega)
  simp only [Int.natCast_zero, List.drop_zero] at this
  simp only [this, Option.bind_some]
  rfl
 ·cases h
theorem forced_lim (d) (r) (h : G_forced d = some r) : ∃ N, F_impl_net_forced N d = some r := by
 obtain ⟨⟨l, u⟩, s, sk, _⟩ := d
 unfold G_forced at h
 split at h
 ·rename_i hc
  simp only [Bool.and_eq_true, Bool.not_eq_true'] at hc
  obtain ⟨⟨hl, hs⟩, hsk⟩ := hc
  have hsk : sk = false := hsk
  subst hsk
  obtain ⟨e, hm, h8⟩ := smallN_nat hl
  have hs := inB_iff.1 hs
  obtain ⟨b, rfl⟩ := nat_of hs.1
  have hb : b < 256 := by
   have : (b : Int) ≤ 255 := hs.2
   omega
  have h := Option.some.inj h
  subst h
  refine ⟨20, ?_⟩
  unfold F_impl_net_forced
  have key : ∀ k x f (o : Nat), x + k = l.length → k < f → o < 256 →
    impl_net_forced_l0 20 f ((b : Int), false, (o : Int), l, (l.length : Int), (x : Int), ()) = some (.inl ((forceN (fromI l) b k x o : Int), ())) := by
   intro k
   induction k with
   | zero =>
    intro x f o e1 e2 e3
    obtain ⟨f, rfl⟩ : ∃ m, f = m + 1 := ⟨f - 1, by omega⟩
    have e : x = l.length := by omega
    subst e
    simp [impl_net_forced_l0, impl_net_forced_l0_r, forceN]
   | succ k ih =>
    intro x f o e1 e2 e3
    obtain ⟨f, rfl⟩ : ∃ m, f = m + 1 := ⟨f - 1, by omega⟩
    have hx : x < l.length := by omega
    have ea : at_ I l x = (((fromI l).getD x 0 : Nat) : Int) := by
     have := at_toI (fromI l) x
     rw [← e] at this
     exact this
    have hm1 := hm.2 x
    generalize hg : (fromI l).getD x 0 = v at ea hm1
    have hlt : v &&& (255 ^^^ b) < 256 := Nat.lt_of_le_of_lt Nat.and_le_left hm1
    show impl_net_forced_l0_r 20 (impl_net_forced_l0 20 f) _ = _
    unfold impl_net_forced_l0_r
    simp only [lt_dec hx, if_true, idxIn_nat hx, Int.toNat_natCast, ea, bits_andNot hm1 hb, Bool.false_eq_true, if_false, nonneg_dec, has_bit hb (show x < 8 by omega), wrap8 hx h8, forceN, hg]
    generalize v &&& (255 ^^^ b) = z at hlt
    by_cases c1 : b.testBit x = true
    ·simp only [c1, if_true, true_and]
     by_cases c2 : z = 0
     ·subst c2
      have b1 : (((0 : Nat) : Int) != (0 : Int)) = false := by simp
      simp only [b1, Bool.false_eq_true, if_false, ne_eq, not_true, false_and]
      exact ih (x + 1) f o (by omega) (by omega) e3
     ·have b1 : ((z : Int) != (0 : Int)) = true := by simp; omega
      have w1 : IntKind.wrap .i64 ((z : Int) - 1) = ((z - 1 : Nat) : Int) := by
       rw [wrap_in _ (by omega) (by omega)]
       omega
      simp only [b1, if_true, w1, bits_and hlt (show z - 1 < 256 by omega), ne_eq, c2, not_false_eq_true, true_and]
      by_cases c3 : z &&& (z - 1) = 0
      ·have b2 : (((z &&& (z - 1) : Nat) : Int) == (0 : Int)) = true := by rw [c3]; rfl
       simp only [b2, if_true, c3, bits_or e3 hlt]
       exact ih (x + 1) f _ (by omega) (by omega) (Nat.or_lt_two_pow (n := 8) e3 hlt)
      ·have b2 : (((z &&& (z - 1) : Nat) : Int) == (0 : Int)) = false := by
        simp only [beq_eq_false_iff_ne, ne_eq]
        omega
       simp only [b2, Bool.false_eq_true, if_false, c3]
       exact ih (x + 1) f o (by omega) (by omega) e3
    ·simp only [c1, Bool.false_eq_true, if_false, false_and]
     exact ih (x + 1) f o (by omega) (by omega) e3
  have := key l.length 0 20 b (by omega) (by omega) hb
  simp only [Int.natCast_zero] at this
  simp only [this, Option.bind_some, Int.toNat_natCast]
 ·cases h
theorem atS_at (S : List Int) (i : Nat) : at_ I S i = atS S i := rfl
theorem atS_get {S : List Int} {i : Nat} (h : i < S.length) : atS S i = S[i] := by unfold atS; simp [List.getD_eq_getElem?_getD, h]
theorem indV {l : List Int} (hl : smallN l = true) {S : List Int} (hS : S.all (inB 0 ((l.length : Int) - 1)) = true) (u v w z : Unit) {x y : Nat} (hx : x < S.length) (hy : y < S.length) :
  FV_impl_net_induced_1 ((x : Int), (y : Int), (u, (l, v), S, w), z) = some (hasN (fromI l) (atS S x).toNat (atS S y).toNat, ()) := by
 obtain ⟨e, hm, h8⟩ := smallN_nat hl
 unfold FV_impl_net_induced_1 F_impl_net_induced_1 F_impl_net_has
 obtain ⟨a1, a2⟩ := inB_len (List.all_eq_true.1 hS _ (List.getElem_mem hx))
 obtain ⟨b1, b2⟩ := inB_len (List.all_eq_true.1 hS _ (List.getElem_mem hy))
 rw [← atS_get hx] at a1 a2
 rw [← atS_get hy] at b1 b2
 generalize (atS S x).toNat = p at a1 a2
 generalize (atS S y).toNat = q at b1 b2
 have ea : at_ I l p = (((fromI l).getD p 0 : Nat) : Int) := by
  have := at_toI (fromI l) p
  rw [← e] at this
  exact this
 simp only [idxIn_nat hx, idxIn_nat hy, if_true, Int.toNat_natCast, atS_at, a1, b1, idxIn_nat a2, nonneg_dec, ea, has_bit (hm.2 p) (show q < 8 by omega), Option.bind_some]
 rfl
theorem graphInd_l2 (N : Nat) {l : List Int} (hl : smallN l = true) {S : List Int} (hS : S.all (inB 0 ((l.length : Int) - 1)) = true) (h8 : S.length ≤ 8) (u v w : Unit) (z : Gr) (n' : Int) (x : Nat) (hx : x < S.length) (s10 s11 : Int) : ∀ k y f (A : List E), y + k = S.length → k < f → A.length + k ≤ 1000 →
  impl_graphBy_by_impl_net_induced_1_l2 N f ((S.length : Int), (u, (l, v), S, w), z, (n', A, ()), (x : Int), (y : Int), s10, s11, ()) = some (.inl ((S.length : Int), (u, (l, v), S, w), z, (n', A ++ rowE (fun i k => hasN (fromI l) (atS S i).toNat (atS S k).toNat) x k y, ()), s10, s11, ())) := by
 intro k
 induction k with
 | zero =>
  intro y f A h1 h2 h3
  obtain ⟨f, rfl⟩ : ∃ m, f = m + 1 := ⟨f - 1, by omega⟩
  have e : y = S.length := by omega
  subst e
  simp [impl_graphBy_by_impl_net_induced_1_l2, impl_graphBy_by_impl_net_induced_1_l2_r, rowE]
 | succ k ih =>
  intro y f A h1 h2 h3
  obtain ⟨f, rfl⟩ : ∃ m, f = m + 1 := ⟨f - 1, by omega⟩
  have hy : y < S.length := by omega
  show impl_graphBy_by_impl_net_induced_1_l2_r N (impl_graphBy_by_impl_net_induced_1_l2 N f) _ = _
  unfold impl_graphBy_by_impl_net_induced_1_l2_r
  have hle : decide (A.length + List.length [(((x : Int), (y : Int), ()) : E)] ≤ lim) = true := by
   unfold lim
   simp
   omega
  simp only [lt_dec hy, if_true, indV hl hS u v w () hx hy, Option.bind_some, hle, wrap8 hy h8]
  unfold rowE
  by_cases hh : hasN (fromI l) (atS S x).toNat (atS S y).toNat = true
  ·rw [if_pos hh, if_pos hh, ih (y + 1) f _ (by omega) (by omega) (by simp; omega)]
   simp
  ·rw [if_neg hh, if_neg hh]
   exact ih (y + 1) f A (by omega) (by omega) (by omega)
theorem graphInd_l0 (N : Nat) (hN : 9 ≤ N) {l : List Int} (hl : smallN l = true) {S : List Int} (hS : S.all (inB 0 ((l.length : Int) - 1)) = true) (h8 : S.length ≤ 8) (u v w : Unit) (z : Gr) (n' : Int) : ∀ k x f (A : List E), x + k = S.length → k < f → A.length + 10 * k ≤ 900 →
  impl_graphBy_by_impl_net_induced_1_l0 N f ((S.length : Int), (u, (l, v), S, w), z, (n', A, ()), (S.length : Int), (x : Int), ()) = some (.inl (z, (n', A ++ allE (fun i k => hasN (fromI l) (atS S i).toNat (atS S k).toNat) S.length k x, ()), ())) := by
 intro k
 induction k with
 | zero =>
  intro x f A h1 h2 h3
  obtain ⟨f, rfl⟩ : ∃ m, f = m + 1 := ⟨f - 1, by omega⟩
  have e : x = S.length := by omega
  subst e
  simp [impl_graphBy_by_impl_net_induced_1_l0, impl_graphBy_by_impl_net_induced_1_l0_r, allE]
 | succ k ih =>
  intro x f A h1 h2 h3
  obtain ⟨f, rfl⟩ : ∃ m, f = m + 1 := ⟨f - 1, by omega⟩
  have hx : x < S.length := by omega
  show impl_graphBy_by_impl_net_induced_1_l0_r N (impl_graphBy_by_impl_net_induced_1_l0 N f) _ = _
  unfold impl_graphBy_by_impl_net_induced_1_l0_r
  have hin := graphInd_l2 N hl hS h8 u v w z n' x hx (S.length : Int) (x : Int) (S.length - (x + 1)) (x + 1) N A (by omega) (by omega) (by omega)
  simp only [lt_dec hx, if_true, wrap8 hx h8, hin, Option.bind_some]
  have := rowE_len (p := fun i k => hasN (fromI l) (atS S i).toNat (atS S k).toNat) (x := x) (m := S.length - (x + 1)) (y := x + 1)
  rw [ih (x + 1) f _ (by omega) (by omega) (by simp; omega)]
  simp [allE]
theorem graphByInd_lim (d) (r) (h : G_graphByInd d = some r) : ∃ N, F_impl_graphBy_by_impl_net_induced_1 N d = some r := by
 obtain ⟨n', ⟨u, ⟨l, v⟩, S, w⟩, _⟩ := d
 unfold G_graphByInd at h
 split at h
 ·rename_i hc
  simp only [Bool.and_eq_true, decide_eq_true_eq] at hc
  obtain ⟨⟨⟨hl, hS⟩, hn⟩, h8⟩ := hc
  have hn : n' = (S.length : Int) := hn
  subst hn
  have h := Option.some.inj h
  subst h
  refine ⟨20, ?_⟩
  unfold F_impl_graphBy_by_impl_net_induced_1
  have := graphInd_l0 20 (by omega) hl hS h8 u v w (0, [], ()) (S.length : Int) S.length 0 20 [] (by omega) (by omega) (by simp; omega)
  simp only [Int.natCast_zero, List.nil_append] at this
  simp only [this, Option.bind_some]
  rfl
 ·cases h
theorem has_nodes (n : Int) (es : List E) (v u : Unit) (l : List Int) (ho : okL es = true) (hl : okL l = true) : F_impl_hasNodes 0 ((n, es, v), l, u) = some (graphB (n, es, v) && l.all (inB 0 (n - 1)), ()) := by
 unfold F_impl_hasNodes G_graph G_allWithin
 simp only [ho, hl, if_true, Option.bind_some]
 cases hg : graphB (n, es, v) with
 | false => rfl
 | true =>
  have := graphB_n hg
  have hw : IntKind.wrap .i64 (n - 1) = n - 1 := wrap_in _ (by omega) (by omega)
  simp only [if_true, hw, Bool.true_and, Option.bind_some]
theorem net_some {n : Nat} {es : List E} {v u : Unit} (hg : graphB ((n : Int), es, v) = true) (ho : okL es = true) : G_netOf (((n : Int), es, v), u) = some ((toI (netN n es), ()), ()) := by
 obtain ⟨h0, h8⟩ := graphB_n hg
 obtain ⟨g1, g2⟩ := graphB_edges hg
 unfold G_netOf
 have a1 : (decide (0 ≤ (n : Int)) && decide ((n : Int) ≤ 8) && okL es && es.all (edgeB (n : Int))) = true := by simp only [h0, h8, ho, g1, decide_true, Bool.and_self]
 simp only [a1, if_true, Int.toNat_natCast]
theorem all_net {n : Nat} (hn : n ≤ 8) {es : List E} (h : es.all (edgeB (n : Int)) = true) (u v : Unit) : F_impl_net_all 0 ((toI (netN n es), u), v) = some (((2 ^ n - 1 : Nat) : Int), ()) := by
 unfold F_impl_net_all
 have hl : (toI (netN n es)).length = n := (netB_net hn h).2
 simp only [hl, nonneg_dec, if_true, (all_mask hn).1]
theorem allE_congr {p q : Nat → Nat → Bool} {n : Nat} (h : ∀ x y, x < n → y < n → p x y = q x y) : allE p n n 0 = allE q n n 0 := by
 refine sorted_ext allE_pair allE_pair fun e => ?_
 rw [allE_mem, allE_mem]
 constructor
 ·rintro ⟨u, z, h1, h2, h3, h4, h5, h6⟩
  exact ⟨u, z, h1, h2, h3, h4, by rw [← h u z (by omega) h4]; exact h5, h6⟩
 ·rintro ⟨u, z, h1, h2, h3, h4, h5, h6⟩
  exact ⟨u, z, h1, h2, h3, h4, by rw [h u z (by omega) h4]; exact h5, h6⟩
theorem hasN_near {n : Nat} (hn : n ≤ 8) {es : List E} (h : es.all (edgeB (n : Int)) = true) (x y : Nat) : hasN (netN n es) x y = nearI es (x : Int) (y : Int) := by rw [netN_bit hn h, isE_near es h]
theorem ind_same {n : Nat} (hn : n ≤ 8) {es : List E} (h : es.all (edgeB (n : Int)) = true) {S : List Int} (hS : ∀ z ∈ S, ∃ y : Nat, y < n ∧ z = (y : Int)) : indE (fun a b => hasN (netN n es) a.toNat b.toNat) S = indE (nearI es) S := by
 unfold indE
 refine allE_congr fun x y hx hy => ?_
 obtain ⟨a, _, ea⟩ := hS _ (List.getElem_mem hx)
 obtain ⟨b, _, eb⟩ := hS _ (List.getElem_mem hy)
 rw [← atS_get hx] at ea
 rw [← atS_get hy] at eb
 show hasN (netN n es) (atS S x).toNat (atS S y).toNat = nearI es (atS S x) (atS S y)
 rw [ea, eb, hasN_near hn h]
 rfl
theorem remove_some {n : Nat} {es : List E} {v : Unit} (hg : graphB ((n : Int), es, v) = true) (ho : okL es = true) (x : Int) (u : Unit) :
  F_impl_RemoveNode 0 (((n : Int), es, v), x, u) = some (if inB 0 ((n : Int) - 1) x = true then (dropG ((n : Int), es, v) x, true, ()) else ((0, [], ()), false, ())) := by
 obtain ⟨h0, h8⟩ := graphB_n hg
 obtain ⟨g1, g2⟩ := graphB_edges hg
 have hn : n ≤ 8 := by omega
 unfold F_impl_RemoveNode
 have hN := has_nodes (n : Int) es v () [x] ho (decide_eq_true (by unfold lim; simp))
 rw [hg] at hN
 simp only [hN, Option.bind_some, List.all_cons, List.all_nil, Bool.and_true, Bool.true_and]
 cases hx : inB 0 ((n : Int) - 1) x with
 | false => rfl
 | true =>
  have hx' := inB_iff.1 hx
  obtain ⟨y, rfl⟩ := nat_of hx'.1
  have hy : y < n := by omega
  have hm := isM_out hn (one_isM hn hy)
  have hset : G_setOf ((((2 ^ n - 1) &&& (255 ^^^ 2 ^ y) : Nat) : Int), ()) = some (setF (fun z => !decide ((z : Int) = (y : Int))) n 0, ()) := by
   unfold G_setOf
   have b2 : decide ((((2 ^ n - 1) &&& (255 ^^^ 2 ^ y) : Nat) : Int) < 256) = true := by
    have := hm.1
    simp only [decide_eq_true_eq]
    omega
   simp only [nonneg_dec, b2, Bool.and_self, if_true, Int.toNat_natCast]
   rw [setF_mask hn hm]
  have hlen := setF_len (p := fun z => !decide ((z : Int) = (y : Int))) (k := n) (x := 0)
  have hnt := (netB_net hn g1).2
  have hind : F_impl_net_induced 0 ((toI (netN n es), ()), setF (fun z => !decide ((z : Int) = (y : Int))) n 0, ()) = some (dropG ((n : Int), es, v) (y : Int), ()) := by
   unfold F_impl_net_induced G_graphByInd
   have hall : (setF (fun z => !decide ((z : Int) = (y : Int))) n 0).all (inB 0 (((toI (netN n es)).length : Int) - 1)) = true := List.all_eq_true.2 fun z hz => by
    obtain ⟨a, ha, rfl⟩ := setF_nat z hz
    rw [hnt]
    exact inB_iff.2 (by omega)
   have e8 : decide ((setF (fun z => !decide ((z : Int) = (y : Int))) n 0).length ≤ 8) = true := decide_eq_true (by omega)
   simp only [small_toI (netN_ok hn g1) hn, hall, decide_true, e8, Bool.and_self, if_true, Option.bind_some, toI_from, ind_same hn g1 (setF_nat (p := fun z => !decide ((z : Int) = (y : Int))))]
   rfl
  have m256 := (all_mask hn).2
  simp only [Bool.not_true, Bool.false_eq_true, if_false, net_some hg ho, Option.bind_some, all_net hn g1, nonneg_dec, if_true, shl_one (show y < 8 by omega), bits_andNot (show 2 ^ n - 1 < 256 by omega) (pow_small (show y < 8 by omega)), hset, hind]
theorem drop_l0 (N : Nat) (x : Int) (g : Gr) (p q : Int) (m : List Int) (tu : Int × Unit) (n : Int) (n8 : n ≤ 8) (hmm : ∀ y ∈ m, 0 ≤ y ∧ y ≤ n - 1) (hml : m.length ≤ lim) :
  impl_dropNode_l0 N (m.length + 1) ((g, p, q, m, tu), x, [], (m.length : Int), 0, (), ()) = some (.inl ((g, p, q, m, tu), dropM m x, ())) := by
 have := loop_keep (L := impl_dropNode_l0 N) (r := impl_dropNode_l0_r N) (fun _ _ => rfl) m (mk := fun i A => ((g, p, q, m, tu), x, A, (m.length : Int), (i : Int), (), ())) (f := fun y => if (y != x) = true then [lessN y x] else []) (o := fun A => .inl ((g, p, q, m, tu), A, ())) (fun x => one_len) (by
   intro back i hi A hA
   unfold impl_dropNode_l0_r
   have hle : ∀ z : Int, decide (A.length + List.length [z] ≤ lim) = true := fun z => by simp; omega
   have e : at_ I m i = m[i] := at_get (e := I) hi
   have hb := hmm m[i] (List.getElem_mem hi)
   have hw : IntKind.wrap .i64 (m[i] - 1) = m[i] - 1 := wrap_in _ (by omega) (by omega)
   simp only [lt_dec hi, if_true, idxIn_nat hi, Int.toNat_natCast, e, hle, wrap_up hi (lim_max hml), hw]
   unfold lessN
   by_cases c1 : m[i] < x
   ·have c2 : (m[i] != x) = true := by simp; omega
    have c3 : ¬ m[i] > x := by omega
    simp only [c1, c2, c3, decide_true, if_true, if_false]
   ·by_cases c3 : m[i] > x
    ·have c2 : (m[i] != x) = true := by simp; omega
     simp only [c1, c2, c3, decide_true, decide_false, Bool.false_eq_true, if_true, if_false]
    ·have c2 : (m[i] != x) = false := by
      simp only [bne_eq_false_iff_eq]
      omega
     simp only [c1, c2, c3, decide_false, Bool.false_eq_true, if_false, List.append_nil])
  (by
   intro back A hA
   unfold impl_dropNode_l0_r
   simp only [lt_not, Bool.false_eq_true, if_false]) m.length (Nat.le_refl _)
 rw [flat_filterMap] at this
 simp only [Int.natCast_zero] at this
 exact this
theorem dropNode_lim (d) (r) (h : G_dropNode d = some r) : ∃ N, F_impl_dropNode N d = some r := by
 obtain ⟨⟨⟨n, es, v⟩, p, q, m, t, u⟩, x, _⟩ := d
 unfold G_dropNode at h
 split at h
 ·rename_i hw
  obtain ⟨hg, n0, n8, hp, hq, hmm, hr, ht, le1, le2, ho, hm⟩ := okW_parts hw
  have h := Option.some.inj h
  subst h
  obtain ⟨a, rfl⟩ := nat_of n0
  refine ⟨m.length + 1, ?_⟩
  unfold F_impl_dropNode dropB
  simp only [remove_some hg ho, Option.bind_some]
  cases hx : inB 0 ((a : Int) - 1) x with
  | false => rfl
  | true =>
   simp only [if_true, Bool.not_true, Bool.false_eq_true, if_false, Bool.true_and]
   cases c1 : p == x with
   | true => rfl
   | false =>
    cases c2 : q == x with
    | true => rfl
    | false =>
     have hl := fun p' q' => drop_l0 (m.length + 1) x (dropG ((a : Int), es, v) x) p' q' m (t, u) (a : Int) n8 hmm (okL_lim hm)
     have w1 : IntKind.wrap .i64 (p - 1) = p - 1 := wrap_in _ (by omega) (by omega)
     have w2 : IntKind.wrap .i64 (q - 1) = q - 1 := wrap_in _ (by omega) (by omega)
     simp only [Bool.not_false, Bool.and_self, if_true, Bool.false_eq_true, if_false, w1, w2, dropW]
     by_cases d1 : p > x
     ·by_cases d2 : q > x
      ·have e1 : lessN p x = p - 1 := if_pos d1
       have e2 : lessN q x = q - 1 := if_pos d2
       simp only [d1, d2, decide_true, if_true, hl, Option.bind_some, e1, e2]
      ·have e1 : lessN p x = p - 1 := if_pos d1
       have e2 : lessN q x = q := if_neg d2
       simp only [d1, d2, decide_true, decide_false, if_true, Bool.false_eq_true, if_false, hl, Option.bind_some, e1, e2]
     ·by_cases d2 : q > x
      ·have e1 : lessN p x = p := if_neg d1
       have e2 : lessN q x = q - 1 := if_pos d2
       simp only [d1, d2, decide_true, decide_false, if_true, Bool.false_eq_true, if_false, hl, Option.bind_some, e1, e2]
      ·have e1 : lessN p x = p := if_neg d1
       have e2 : lessN q x = q := if_neg d2
       simp only [d1, d2, decide_false, Bool.false_eq_true, if_false, hl, Option.bind_some, e1, e2]
 ·cases h
theorem after_bound {n : Nat} {T : Tab} (hT : sqB n T = true) {ball : Int → List Int} (hb : okBall n ball) {b r : Nat} (hbn : b < n) (hr : r < n) : -1 ≤ afterT ball T (b : Int) (r : Int) ∧ afterT ball T (b : Int) (r : Int) ≤ 1000 := by
 obtain ⟨hsq, hbd⟩ := sqB_bound hT
 unfold afterT
 split
 ·omega
 ·rcases worst_spec (tab2 T (b : Int)) (ball (r : Int)) 0 with ⟨_, h⟩ | ⟨_, h0, h | ⟨x, hx, h⟩⟩
  ·omega
  ·omega
  ·obtain ⟨y, hy, rfl⟩ := hb r hr x hx
   have := hbd b y hbn hy
   omega
theorem time_row {l : List Int} (hn : netB l = true) (u : Unit) {T : Tab} (hT : sqL l.length T = true) {b q : Nat} (hb : b < l.length) (hq : q < l.length) (hbq : ¬ (b : Int) = (q : Int)) : G_timeAfter ((l, u), at_ K_Si T b, (q : Int), ()) = some (afterT (ballM l) T (b : Int) (q : Int), ()) := by
 obtain ⟨t1, t2⟩ := sqL_parts hT
 have i2 : inB 0 ((l.length : Int) - 1) (q : Int) = true := inB_iff.2 (by omega)
 have hlen : decide ((at_ K_Si T b).length = l.length) = true := decide_eq_true (t2 b hb)
 unfold G_timeAfter afterT
 simp only [hn, hlen, i2, Bool.and_self, if_true, hbq, if_false]
 have hw : worstL (fun z => (at_ K_Si T b).getD z.toNat 0) (ballM l (q : Int)) 0 = worstL (tab2 T (b : Int)) (ballM l (q : Int)) 0 := worst_congr fun z hz => by
  have hlt : b < T.length := by omega
  have ea : at_ K_Si T b = T[b] := at_get (e := K_Si) hlt
  unfold tab2
  simp only [ea, Int.toNat_natCast, List.getD_eq_getElem?_getD, List.getElem?_eq_getElem hlt, Option.getD_some]
 rw [hw]
theorem copMove_lim (d) (r) (h : G_copMove d = some r) : ∃ N, F_impl_net_copMove N d = some r := by
 obtain ⟨⟨l, u⟩, T, c, q, _⟩ := d
 unfold G_copMove at h
 split at h
 ·rename_i hc
  simp only [Bool.and_eq_true] at hc
  obtain ⟨⟨⟨hn, hT⟩, hc⟩, hq⟩ := hc
  have hT : sqB l.length T = true := hT
  obtain ⟨c1, c2⟩ := inB_len hc
  obtain ⟨q1, q2⟩ := inB_len hq
  obtain ⟨hsq, hbd⟩ := sqB_bound hT
  obtain ⟨t1, t2⟩ := sqL_parts hsq
  have h := Option.some.inj h
  subst h
  refine ⟨20, ?_⟩
  unfold F_impl_net_copMove
  have hcl := closedM hn u c2
  have hst := setOfM hn c2
  have hok := ballM_ok hn
  have hokc := hok c.toNat c2
  have hbl := ballM_len l c
  have hat := tab2_at hsq c2 q2
  rw [← c1] at hcl hst hokc hat
  rw [← q1] at hat
  have i1 : idxIn c T.length = true := by rw [c1]; exact idxIn_nat (by omega)
  have i2 : idxIn q (at_ K_Si T c.toNat).length = true := by rw [q1]; exact idxIn_nat (by rw [t2 _ c2]; exact q2)
  simp only [hcl, hst, Option.bind_some]
  have key : ∀ k i f, i + k = (ballM l c).length → k < f → impl_net_copMove_l0 20 f (T, c, q, (l, u), ballM l c, ((ballM l c).length : Int), (i : Int), ()) = some (match ((ballM l c).drop i).find? (chaseP (ballM l) T c q) with | some b => .inl (b, ()) | none => .inr (.inl (c, ()))) := by
   intro k
   induction k with
   | zero =>
    intro i f e1 e2
    obtain ⟨f, rfl⟩ : ∃ m, f = m + 1 := ⟨f - 1, by omega⟩
    have e : i = (ballM l c).length := by omega
    subst e
    rw [List.drop_of_length_le (Nat.le_refl _)]
    simp [impl_net_copMove_l0, impl_net_copMove_l0_r]
   | succ k ih =>
    intro i f e1 e2
    obtain ⟨f, rfl⟩ : ∃ m, f = m + 1 := ⟨f - 1, by omega⟩
    have hi : i < (ballM l c).length := by omega
    obtain ⟨y, hy, ey⟩ := hokc _ (List.getElem_mem hi)
    have ea : at_ I (ballM l c) i = (y : Int) := (at_get (e := I) hi).trans ey
    have hd : (ballM l c).drop i = (y : Int) :: (ballM l c).drop (i + 1) := by rw [List.drop_eq_getElem_cons hi, ey]
    have ih' := ih (i + 1) f (by omega) (by omega)
    show impl_net_copMove_l0_r 20 (impl_net_copMove_l0 20 f) _ = _
    unfold impl_net_copMove_l0_r
    rw [hd, List.find?_cons]
    have iy : idxIn (y : Int) T.length = true := idxIn_nat (by omega)
    simp only [lt_dec hi, if_true, idxIn_nat hi, Int.toNat_natCast, ea, iy, i1, i2, hat, wrap_up hi (show (ballM l c).length ≤ maxLen by unfold maxLen; omega)]
    by_cases hyq : (y : Int) = q
    ·have b1 : ((y : Int) != q) = false := by simpa using hyq
     have ha : afterT (ballM l) T (y : Int) q = 0 := if_pos hyq
     simp only [b1, Bool.false_eq_true, if_false]
     unfold chaseP
     rw [ha]
     by_cases ht : (1 : Int) = tab2 T c q
     ·have b2 : ((1 : Int) == tab2 T c q) = true := by simpa using ht
      have b3 : (decide ((0 : Int) + 1 = tab2 T c q) && decide ((0 : Int) ≤ 0)) = true := by simpa using ht
      simp only [b2, if_true, b3]
      rfl
     ·have b2 : ((1 : Int) == tab2 T c q) = false := by simpa using ht
      have b3 : (decide ((0 : Int) + 1 = tab2 T c q) && decide ((0 : Int) ≤ 0)) = false := by simpa using ht
      simp only [b2, Bool.false_eq_true, if_false, b3]
      exact ih'
    ·have b1 : ((y : Int) != q) = true := by simpa using hyq
     have hyq' : ¬ (y : Int) = ((q.toNat : Nat) : Int) := by rw [← q1]; exact hyq
     have htm := time_row hn u hsq hy q2 hyq'
     obtain ⟨a1, a2⟩ := after_bound hT hok hy q2
     rw [← q1] at htm a1 a2
     have hw : IntKind.wrap .i64 (afterT (ballM l) T (y : Int) q + 1) = afterT (ballM l) T (y : Int) q + 1 := wrap_in _ (by omega) (by omega)
     simp only [b1, if_true, htm, Option.bind_some, hw]
     unfold chaseP
     by_cases ht : afterT (ballM l) T (y : Int) q + 1 = tab2 T c q
     ·simp only [ht, beq_self_eq_true, if_true, decide_true, Bool.true_and]
      by_cases h0 : 0 ≤ afterT (ballM l) T (y : Int) q
      ·have b3 : decide (tab2 T c q > 0) = true := decide_eq_true (by omega)
       simp only [b3, h0, decide_true, if_true]
      ·have b3 : decide (tab2 T c q > 0) = false := decide_eq_false (by omega)
       simp only [b3, h0, decide_false, Bool.false_eq_true, if_false]
       exact ih'
     ·have b2 : (afterT (ballM l) T (y : Int) q + 1 == tab2 T c q) = false := by simpa using ht
      simp only [b2, Bool.false_eq_true, if_false, ht, decide_false, Bool.false_and]
      exact ih'
  have := key (ballM l c).length 0 20 (by omega) (by omega)
  simp only [Int.natCast_zero, List.drop_zero] at this
  rw [this]
  show _ = some (firstL (chaseP (ballM l) T c q) (ballM l c) c, ())
  unfold firstL
  cases (ballM l c).find? (chaseP (ballM l) T c q) <;> rfl
 ·cases h
theorem ballM_self {l : List Int} (hn : netB l = true) {x : Nat} (hx : x < l.length) : (x : Int) ∈ ballM l (x : Int) := by
 obtain ⟨_, _, h8, _⟩ := netB_parts hn
 refine setF_mem.2 ⟨x, Nat.zero_le _, by omega, ?_, rfl⟩
 rw [Int.toNat_natCast, Nat.testBit_or, Nat.testBit_two_pow]
 simp
theorem robberMove_lim (d) (r) (h : G_robberMove d = some r) : ∃ N, F_impl_net_robberMove N d = some r := by
 obtain ⟨⟨l, u⟩, row, q, _⟩ := d
 unfold G_robberMove at h
 split at h
 ·rename_i hc
  simp only [Bool.and_eq_true, decide_eq_true_eq] at hc
  obtain ⟨⟨hn, hrow⟩, hq⟩ := hc
  have hrow : row.length = l.length := hrow
  obtain ⟨q1, q2⟩ := inB_len hq
  have h := Option.some.inj h
  subst h
  refine ⟨20, ?_⟩
  unfold F_impl_net_robberMove
  have hcl := closedM hn u q2
  have hst := setOfM hn q2
  have hok := ballM_ok hn q.toNat q2
  have hself := ballM_self hn q2
  have hbl := ballM_len l q
  rw [← q1] at hcl hst hok hself
  simp only [hcl, hst, Option.bind_some]
  show (if idxIn 0 (ballM l q).length = true then _ else none) = some (robL (rowI row) (ballM l q).tail ((ballM l q).headD 0), ())
  generalize ballM l q = ball at hok hself hbl
  match ball, hself, hok, hbl with
  | h0 :: tl, _, hok, hbl =>
   obtain ⟨y0, hy0, rfl⟩ := hok h0 (by simp)
   have i0 : idxIn (0 : Int) ((y0 : Int) :: tl).length = true := idxIn_nat (show 0 < ((y0 : Int) :: tl).length by simp)
   have c1 : (decide (0 ≤ (1 : Int)) && decide ((1 : Int) ≤ (((y0 : Int) :: tl).length : Int)) && decide ((((y0 : Int) :: tl).length : Int) ≤ (((y0 : Int) :: tl).length : Int))) = true := by simp; omega
   have s1 : sub_ ((y0 : Int) :: tl) 1 (((y0 : Int) :: tl).length : Int) = tl := by unfold sub_; simp
   have ea0 : at_ I ((y0 : Int) :: tl) (0 : Int).toNat = (y0 : Int) := rfl
   have htl : tl.length ≤ 8 := by simp at hbl; omega
   have rv : ∀ y : Nat, y < l.length → at_ I row y = rowI row (y : Int) := fun y hy => rfl
   have key : ∀ k i f (b : Nat), i + k = tl.length → k < f → b < l.length → impl_net_robberMove_l0 20 f (row, (b : Int), tl, (tl.length : Int), (i : Int), ()) = some (.inl (robL (rowI row) (tl.drop i) (b : Int), ())) := by
    intro k
    induction k with
    | zero =>
     intro i f b e1 e2 e3
     obtain ⟨f, rfl⟩ : ∃ m, f = m + 1 := ⟨f - 1, by omega⟩
     have e : i = tl.length := by omega
     subst e
     rw [List.drop_of_length_le (Nat.le_refl _)]
     simp [impl_net_robberMove_l0, impl_net_robberMove_l0_r, robL]
    | succ k ih =>
     intro i f b e1 e2 e3
     obtain ⟨f, rfl⟩ : ∃ m, f = m + 1 := ⟨f - 1, by omega⟩
     have hi : i < tl.length := by omega
     obtain ⟨y, hy, ey⟩ := hok tl[i] (List.mem_cons_of_mem _ (List.getElem_mem hi))
     have ea : at_ I tl i = (y : Int) := (at_get (e := I) hi).trans ey
     have hd : tl.drop i = (y : Int) :: tl.drop (i + 1) := by rw [List.drop_eq_getElem_cons hi, ey]
     have i2 : idxIn (y : Int) row.length = true := idxIn_nat (by omega)
     have i3 : idxIn (b : Int) row.length = true := idxIn_nat (by omega)
     show impl_net_robberMove_l0_r 20 (impl_net_robberMove_l0 20 f) _ = _
     unfold impl_net_robberMove_l0_r
     rw [hd]
     simp only [lt_dec hi, if_true, idxIn_nat hi, Int.toNat_natCast, ea, i2, i3, rv y hy, rv b e3, wrap_up hi (show tl.length ≤ maxLen by unfold maxLen; omega), robL]
     by_cases d1 : 0 ≤ rowI row (b : Int)
     ·have d1' : decide (rowI row (b : Int) ≥ 0) = true := decide_eq_true d1
      by_cases d2 : rowI row (y : Int) < 0
      ·simp only [d1, d1', d2, decide_true, if_true, true_or, and_self]
       exact ih (i + 1) f y (by omega) (by omega) hy
      ·by_cases d3 : rowI row (y : Int) > rowI row (b : Int)
       ·simp only [d1, d1', d2, d3, decide_true, decide_false, Bool.false_eq_true, if_true, if_false, or_true, and_self]
        exact ih (i + 1) f y (by omega) (by omega) hy
       ·simp only [d1, d1', d2, d3, decide_true, decide_false, Bool.false_eq_true, if_true, if_false, or_self, and_false]
        exact ih (i + 1) f b (by omega) (by omega) e3
     ·have d1' : decide (rowI row (b : Int) ≥ 0) = false := decide_eq_false d1
      simp only [d1, d1', Bool.false_eq_true, if_false, false_and]
      exact ih (i + 1) f b (by omega) (by omega) e3
   have := key tl.length 0 20 y0 (by omega) (by omega) hy0
   simp only [Int.natCast_zero, List.drop_zero] at this
   simp only [i0, if_true, c1, s1, ea0, this, Option.bind_some]
   rfl
 ·cases h
theorem toWorkS_lim (d) (r) (h : G_toWorkS d = some r) : ∃ N, F_laws_toWorkS N d = some r := by
 obtain ⟨l, _⟩ := d
 unfold G_toWorkS at h
 split at h
 ·rename_i hl
  have hl : l.length ≤ lim := of_decide_eq_true hl
  have hmx := lim_max hl
  have h := Option.some.inj h
  subst h
  refine ⟨l.length + 1, ?_⟩
  unfold F_laws_toWorkS
  have hc : (decide (0 ≤ (l.length : Int)) && decide ((l.length : Int) ≤ (l.length : Int)) && decide ((l.length : Int) ≤ (lim : Int))) = true := by simp; omega
  have := loop_copy (L := laws_toWorkS_l0 (l.length + 1)) (r := laws_toWorkS_l0_r (l.length + 1)) (fun _ _ => rfl) l (mk := fun i m => (l, m, (i : Int), ())) (o := fun m => .inl (m, ())) (by
    intro back i hi m hm
    unfold laws_toWorkS_l0_r
    have e : at_ K_Piiiq l i = l[i] := at_get (e := K_Piiiq) hi
    simp only [lt_dec hi, if_true, idxIn_nat hi, idxIn_nat (show i < m.length by omega), Int.toNat_natCast, e, wrap_up hi hmx]
    rfl)
   (by
    intro back m hm
    unfold laws_toWorkS_l0_r
    simp only [lt_not, Bool.false_eq_true, if_false]) l.length (List.replicate l.length ((0 : Int), (0 : Int), (0 : Int), ())) (Nat.le_refl _) (by simp)
  simp only [Int.natCast_zero] at this
  simp only [hc, if_true, Int.toNat_natCast, this, Option.bind_some]
 ·cases h
theorem eqWork_eq (a b : Wo) (u : Unit) : g_laws_eqWork (a, b, u) = (decide (a = b), ()) := by
 obtain ⟨a1, a2, a3, _⟩ := a
 obtain ⟨b1, b2, b3, _⟩ := b
 unfold g_laws_eqWork
 by_cases h1 : a1 = b1
 ·by_cases h2 : a2 = b2
  ·by_cases h3 : a3 = b3
   ·simp [h1, h2, h3]
   ·simp [h1, h2, h3]
  ·simp [h1, h2]
 ·simp [h1]
theorem eqWorkS_lim (d) (r) (h : G_eqWorkS d = some r) : ∃ N, F_laws_eqWorkS N d = some r := by
 obtain ⟨l, m, _⟩ := d
 unfold G_eqWorkS at h
 split at h
 ·rename_i hl
  have hl : l.length ≤ lim := of_decide_eq_true hl
  have hmx := lim_max hl
  have h := Option.some.inj h
  subst h
  refine ⟨l.length + 1, ?_⟩
  unfold F_laws_eqWorkS
  by_cases hm : l.length = m.length
  ·have hne : ((List.length l : Int) != (List.length m : Int)) = false := by simp [hm]
   have key : ∀ n i, l.length ≤ i + n → i ≤ l.length → laws_eqWorkS_l0 (l.length + 1) (n + 1) (l, m, (i : Int), ()) = if l.drop i = m.drop i then some (.inr (.inl ())) else some (.inl (false, ())) := by
    intro n
    induction n with
    | zero =>
     intro i h1 h2
     have e : i = l.length := by omega
     subst e
     rw [List.drop_of_length_le (by omega), List.drop_of_length_le (by omega)]
     simp [laws_eqWorkS_l0, laws_eqWorkS_l0_r]
    | succ n ih =>
     intro i h1 h2
     by_cases hi : i < l.length
     ·have hi' : i < m.length := by omega
      show laws_eqWorkS_l0_r _ (laws_eqWorkS_l0 _ (n + 1)) (l, m, (i : Int), ()) = _
      unfold laws_eqWorkS_l0_r
      have e1 : at_ K_Piiiq l i = l[i] := at_get (e := K_Piiiq) hi
      have e2 : at_ K_Piiiq m i = m[i] := at_get (e := K_Piiiq) hi'
      simp only [lt_dec hi, if_true, idxIn_nat hi, idxIn_nat hi', Int.toNat_natCast, e1, e2, eqWork_eq, wrap_up hi hmx, ih (i + 1) (by omega) (by omega)]
      rw [List.drop_eq_getElem_cons hi, List.drop_eq_getElem_cons hi']
      simp only [List.cons.injEq]
      by_cases he : l[i] = m[i]
      ·simp only [he, decide_true, Bool.not_true, Bool.false_eq_true, if_false, true_and]
      ·simp only [he, decide_false, Bool.not_false, if_true, false_and, if_false]
     ·have e : i = l.length := by omega
      subst e
      rw [List.drop_of_length_le (by omega), List.drop_of_length_le (by omega)]
      simp [laws_eqWorkS_l0, laws_eqWorkS_l0_r]
   have := key l.length 0 (by omega) (by omega)
   simp only [Int.natCast_zero, List.drop_zero] at this
   simp only [hne, Bool.false_eq_true, if_false, this]
   by_cases he : l = m
   ·simp [he]
   ·simp [he]
  ·have hne : ((List.length l : Int) != (List.length m : Int)) = true := by simp; omega
   have he : ¬ l = m := fun e => hm (by rw [e])
   simp [hne, he]
 ·cases h
theorem at_midO (pre : List Wo) (x : Wo) (post : List Wo) : at_ K_Piiiq (pre ++ x :: post) pre.length = x := by
 rw [at_get (e := K_Piiiq) (by simp)]
 simp
theorem set_midO (pre : List Wo) (x y : Wo) (post : List Wo) : List.set (pre ++ x :: post) pre.length y = pre ++ y :: post := by simp
theorem markWorkS_lim (d) (r) (h : G_markWorkS d = some r) : ∃ N, F_laws_markWorkS N d = some r := by
 obtain ⟨l, k, _⟩ := d
 unfold G_markWorkS at h
 split at h
 ·rename_i hc
  simp only [Bool.and_eq_true] at hc
  have hl : l.length ≤ lim := okL_lim hc.1
  have hk := hc.2
  unfold okK at hk
  simp only [Bool.and_eq_true, decide_eq_true_eq] at hk
  have h := Option.some.inj h
  subst h
  refine ⟨l.length + 1, ?_⟩
  unfold F_laws_markWorkS
  have key : ∀ (rest pre : List Wo) (k : Int) f, rest.length < f → pre.length + rest.length ≤ lim → 0 ≤ k → k ≤ 4398046511104 + 3 * (pre.length : Int) →
    laws_markWorkS_l0 (l.length + 1) f (pre ++ rest, k, (pre.length : Int), ()) = some (.inl (pre ++ markO k rest, k + 3 * (rest.length : Int), ())) := by
   intro rest
   induction rest with
   | nil =>
    intro pre k f e1 e2 e3 e4
    obtain ⟨f, rfl⟩ : ∃ m, f = m + 1 := ⟨f - 1, by omega⟩
    simp [laws_markWorkS_l0, laws_markWorkS_l0_r, markO]
   | cons x rest ih =>
    intro pre k f e1 e2 e3 e4
    obtain ⟨f, rfl⟩ : ∃ m, f = m + 1 := ⟨f - 1, by omega⟩
    have e2' : pre.length + rest.length + 1 ≤ lim := by simpa [Nat.add_assoc] using e2
    have hpl := lim_max e2'
    unfold lim at e2'
    show laws_markWorkS_l0_r _ (laws_markWorkS_l0 _ f) _ = _
    unfold laws_markWorkS_l0_r
    have hlt : ∀ y : Wo, decide ((pre.length : Int) < ((pre ++ y :: rest).length : Int)) = true := fun y => by simp; omega
    have hix : ∀ y : Wo, idxIn (pre.length : Int) (pre ++ y :: rest).length = true := fun y => idxIn_nat (by simp)
    have w1 : IntKind.wrap .i64 (k + 1) = k + 1 := wrap_in _ (by omega) (by omega)
    have w2 : IntKind.wrap .i64 (k + 1 + 1) = k + 2 := by rw [wrap_in _ (by omega) (by omega)]; omega
    have w3 : IntKind.wrap .i64 (k + 2 + 1) = k + 3 := by rw [wrap_in _ (by omega) (by omega)]; omega
    have w4 : IntKind.wrap .i64 ((pre.length : Int) + 1) = ((pre.length + 1 : Nat) : Int) := by
     rw [wrap_in _ (by omega) (by omega)]
     rfl
    simp only [hlt, hix, if_true, Int.toNat_natCast, at_midO, set_midO, w1, w2, w3, w4]
    have := ih (pre ++ [((k, k + 1, k + 2, ()) : Wo)]) (k + 3) f (by simp at e1; omega) (by simp at e2 ⊢; omega) (by omega) (by simp; omega)
    simp only [List.length_append, List.length_singleton, List.append_assoc, List.singleton_append] at this
    refine this.trans ?_
    simp only [markO, List.length_cons]
    congr 3
    simp
    omega
  have := key l [] k (l.length + 1) (by omega) (by simpa using hl) hk.1 (by simp; omega)
  simp only [List.nil_append, List.length_nil, Int.natCast_zero] at this
  simp only [this, Option.bind_some]
 ·cases h
end Go.V.W
set_option linter.unusedVariables false
set_option linter.unusedSimpArgs false
namespace Go.V.W
open Go.Proofs
theorem hasL_iff {S : List Int} {y : Int} : hasL S y = true ↔ y ∈ S := by
 unfold hasL
 simp only [List.any_eq_true, beq_iff_eq, exists_eq_right]
theorem rising_low : ∀ {l : List Int} {a : Int}, risingB (a :: l) = true → ∀ y ∈ l, a < y := by
 intro l
 induction l with
 | nil => intro a _ y hy; cases hy
 | cons b l ih =>
  intro a h y hy
  simp only [risingB, Bool.and_eq_true, decide_eq_true_eq] at h
  rcases List.mem_cons.1 hy with rfl | hy
  ·exact h.1
  ·have := ih h.2 y hy
   omega
theorem rising_tail {l : List Int} {a : Int} (h : risingB (a :: l) = true) : risingB l = true := by
 cases l with
 | nil => rfl
 | cons b l =>
  simp only [risingB, Bool.and_eq_true] at h
  exact h.2
theorem rising_setF : ∀ (k x : Nat) (l : List Int), risingB l = true → (∀ y ∈ l, (x : Int) ≤ y ∧ y < ((x + k : Nat) : Int)) → l = setF (fun y => hasL l (y : Int)) k x := by
 intro k
 induction k with
 | zero =>
  intro x l _ h
  cases l with
  | nil => rfl
  | cons a l => have := h a (by simp); omega
 | succ k ih =>
  intro x l hr h
  show l = if hasL l (x : Int) = true then (x : Int) :: setF (fun y => hasL l (y : Int)) k (x + 1) else setF (fun y => hasL l (y : Int)) k (x + 1)
  cases l with
  | nil => simp only [hasL, List.any_nil, Bool.false_eq_true, if_false]; exact (setF_empty).symm
  | cons a l =>
   have ha := h a (by simp)
   have hlow := rising_low hr
   by_cases e : a = (x : Int)
   ·subst e
    have h1 : hasL ((x : Int) :: l) (x : Int) = true := hasL_iff.2 (by simp)
    rw [if_pos h1]
    have h2 := ih (x + 1) l (rising_tail hr) fun y hy => by
     have := hlow y hy
     have := h y (by simp [hy])
     omega
    have h3 : setF (fun y => hasL ((x : Int) :: l) (y : Int)) k (x + 1) = setF (fun y => hasL l (y : Int)) k (x + 1) := setF_congr fun y hy _ => by
     unfold hasL
     rw [List.any_cons]
     have : ((x : Int) == (y : Int)) = false := by simp; omega
     rw [this, Bool.false_or]
    rw [h3, ← h2]
   ·have h1 : ¬ hasL (a :: l) (x : Int) = true := fun hh => by
     rcases List.mem_cons.1 (hasL_iff.1 hh) with h' | h'
     ·exact e h'.symm
     ·have := hlow _ h'; omega
    rw [if_neg h1]
    exact ih (x + 1) (a :: l) hr fun y hy => by
     have := h y hy
     rcases List.mem_cons.1 hy with rfl | hy
     ·omega
     ·have := hlow y hy; omega
theorem marked_set {n : Nat} {m : List Int} (hr : risingB m = true) (h : ∀ y ∈ m, 0 ≤ y ∧ y ≤ (n : Int) - 1) : m = setF (fun y => hasL m (y : Int)) n 0 := rising_setF n 0 m hr fun y hy => by
 have := h y hy
 omega
theorem hasL_setF {p : Nat → Bool} {n y : Nat} (hy : y < n) : hasL (setF p n 0) (y : Int) = p y := any_setF hy
theorem lessE_total {a b : E} (h : ¬ a = b) : lessE a b = true ∨ lessE b a = true := by
 obtain ⟨a1, a2, _⟩ := a
 obtain ⟨b1, b2, _⟩ := b
 simp only [lessE, Bool.or_eq_true, Bool.and_eq_true, decide_eq_true_eq]
 have : ¬ (a1 = b1 ∧ a2 = b2) := fun ⟨h1, h2⟩ => h (by rw [h1, h2])
 omega
theorem insE_mem {e x : E} : ∀ {l : List E}, x ∈ insE e l ↔ x = e ∨ x ∈ l := by
 intro l
 induction l with
 | nil => simp [insE]
 | cons a l ih =>
  unfold insE
  split
  ·simp only [List.mem_cons, ih]
   constructor
   ·rintro (h | h | h)
    ·exact .inr (.inl h)
    ·exact .inl h
    ·exact .inr (.inr h)
   ·rintro (h | h | h)
    ·exact .inr (.inl h)
    ·exact .inl h
    ·exact .inr (.inr h)
  ·simp only [List.mem_cons]
theorem insE_pair {e : E} : ∀ {l : List E}, (l.Pairwise fun a b => lessE a b = true) → e ∉ l → (insE e l).Pairwise fun a b => lessE a b = true := by
 intro l
 induction l with
 | nil => intro _ _; simp [insE]
 | cons a l ih =>
  intro h he
  rw [List.pairwise_cons] at h
  unfold insE
  split
  ·rename_i hl
   rw [List.pairwise_cons]
   refine ⟨fun b hb => ?_, ih h.2 fun hh => he (by simp [hh])⟩
   rcases insE_mem.1 hb with rfl | hb
   ·exact hl
   ·exact h.1 b hb
  ·rename_i hl
   have hea : lessE e a = true := (lessE_total fun hh => he (by simp [hh])).resolve_right hl
   rw [List.pairwise_cons, List.pairwise_cons]
   refine ⟨fun b hb => ?_, h⟩
   rcases List.mem_cons.1 hb with rfl | hb
   ·exact hea
   ·exact lessE_trans hea (h.1 b hb)
theorem outE_mem {es : List E} {e x : E} : x ∈ outE es e ↔ x ∈ es ∧ ¬ x = e := by
 unfold outE
 simp
theorem outE_len {es : List E} {e : E} : (outE es e).length = es.length ↔ e ∉ es := by
 unfold outE
 rw [List.length_filter_eq_length_iff]
 constructor
 ·intro h he
  have := h e he
  simp at this
 ·intro h x hx
  simp only [Bool.not_eq_true', decide_eq_false_iff_not]
  rintro rfl
  exact h hx
theorem togE_mem {es : List E} {e x : E} : x ∈ togE es e ↔ ((x ∈ es ∧ ¬ x = e) ∨ (x = e ∧ e ∉ es)) := by
 unfold togE
 split
 ·rename_i h
  have h := outE_len.1 h
  rw [insE_mem, outE_mem]
  constructor
  ·rintro (h1 | h1)
   ·exact .inr ⟨h1, h⟩
   ·exact .inl h1
  ·rintro (h1 | h1)
   ·exact .inr h1
   ·exact .inl h1.1
 ·rename_i h
  have h : ¬ e ∉ es := fun hh => h (outE_len.2 hh)
  rw [outE_mem]
  constructor
  ·intro h1; exact .inl h1
  ·rintro (h1 | h1)
   ·exact h1
   ·exact absurd h1.2 h
theorem togE_pair {es : List E} {e : E} (h : es.Pairwise fun a b => lessE a b = true) : (togE es e).Pairwise fun a b => lessE a b = true := by
 have ho : (outE es e).Pairwise fun a b => lessE a b = true := h.sublist List.filter_sublist
 unfold togE
 split
 ·exact insE_pair ho fun hh => (outE_mem.1 hh).2 rfl
 ·exact ho
theorem near_mem {n : Nat} {es : List E} (h : es.all (edgeB (n : Int)) = true) {u z : Nat} (hu : u < z) : nearI es (u : Int) (z : Int) = true ↔ (((u : Int), (z : Int), ()) : E) ∈ es := by
 unfold nearI
 simp only [List.any_eq_true, Bool.or_eq_true, Bool.and_eq_true, beq_iff_eq]
 constructor
 ·rintro ⟨⟨a, b, _⟩, he, h1⟩
  obtain ⟨k1, k2, k3, k4⟩ := edgeB_nat (List.all_eq_true.1 h _ he)
  simp only at h1 k1 k2 k3 k4
  rcases h1 with ⟨h1, h2⟩ | ⟨h1, h2⟩
  ·subst h1 h2
   exact he
  ·omega
 ·intro he
  exact ⟨_, he, .inl ⟨rfl, rfl⟩⟩
def togN (ms : List Nat) (a b : Nat) : List Nat := (ms.set a (ms.getD a 0 ^^^ 2 ^ b)).set b ((ms.set a (ms.getD a 0 ^^^ 2 ^ b)).getD b 0 ^^^ 2 ^ a)
theorem togN_ok {n : Nat} (hn : n ≤ 8) {ms : List Nat} (h : okN n ms) {a b : Nat} (ha : a < n) (hb : b < n) (hab : a ≠ b) : okN n (togN ms a b) ∧ ∀ x y, hasN (togN ms a b) x y = Bool.xor (hasN ms x y) ((decide (x = a) && decide (y = b)) || (decide (x = b) && decide (y = a))) := by
 unfold togN
 have l1 : a < ms.length := by rw [h.1]; exact ha
 have l2 : b < (ms.set a (ms.getD a 0 ^^^ 2 ^ b)).length := by rw [List.length_set, h.1]; exact hb
 have e1 : (ms.set a (ms.getD a 0 ^^^ 2 ^ b)).getD b 0 = ms.getD b 0 := by rw [getD_set _ _ _ _ l1, if_neg (fun e => hab e.symm)]
 rw [e1]
 have g : ∀ x, ((ms.set a (ms.getD a 0 ^^^ 2 ^ b)).set b (ms.getD b 0 ^^^ 2 ^ a)).getD x 0 = if x = b then ms.getD b 0 ^^^ 2 ^ a else if x = a then ms.getD a 0 ^^^ 2 ^ b else ms.getD x 0 := fun x => by
  rw [getD_set _ _ _ _ l2, getD_set _ _ _ _ l1]
 refine ⟨⟨by simp [h.1], fun x => ?_⟩, fun x y => ?_⟩
 ·rw [g]
  split
  ·exact Nat.xor_lt_two_pow (n := 8) (h.2 b) (pow_small (by omega))
  ·split
   ·exact Nat.xor_lt_two_pow (n := 8) (h.2 a) (pow_small (by omega))
   ·exact h.2 x
 ·unfold hasN
  rw [g]
  by_cases h1 : x = b
  ·have h2 : ¬ b = a := fun e => hab e.symm
   simp only [h1, if_true, Nat.testBit_xor, Nat.testBit_two_pow, h2, decide_false, decide_true, Bool.false_and, Bool.true_and, Bool.false_or]
   congr 1
   exact decide_eq_decide.2 ⟨fun e => e.symm, fun e => e.symm⟩
  ·by_cases h2 : x = a
   ·simp only [h1, h2, hab, if_true, if_false, Nat.testBit_xor, Nat.testBit_two_pow, decide_false, decide_true, Bool.false_and, Bool.true_and, Bool.or_false]
    congr 1
    exact decide_eq_decide.2 ⟨fun e => e.symm, fun e => e.symm⟩
   ·simp only [h1, h2, if_false, decide_false, Bool.false_and, Bool.or_false, Bool.xor_false]
theorem tog_same {n : Nat} (hn : n ≤ 8) {es : List E} (h : es.all (edgeB (n : Int)) = true) (hr : risingE es = true) {a b : Nat} (ha : a < n) (hb : b < n) (hab : a ≠ b) : allE (hasN (togN (netN n es) a b)) n n 0 = togE es (eE (a : Int) (b : Int)) := by
 obtain ⟨hok, hbit⟩ := togN_ok hn (netN_ok hn h) ha hb hab
 have hE : ∀ u z : Nat, u < z → ((((u : Int), (z : Int), ()) : E) = eE (a : Int) (b : Int) ↔ ((decide (u = a) && decide (z = b)) || (decide (u = b) && decide (z = a))) = true) := fun u z huz => by
  unfold eE
  simp only [Bool.or_eq_true, Bool.and_eq_true, decide_eq_true_eq]
  by_cases hlt : (a : Int) < (b : Int)
  ·rw [if_pos hlt]
   simp only [Prod.mk.injEq, and_true]
   omega
  ·rw [if_neg hlt]
   simp only [Prod.mk.injEq, and_true]
   omega
 refine sorted_ext allE_pair (togE_pair (rising_pair hr)) fun e => ?_
 rw [allE_mem, togE_mem]
 constructor
 ·rintro ⟨u, z, _, h2, h3, h4, h5, rfl⟩
  rw [hbit, hasN_near hn h] at h5
  by_cases hc : ((decide (u = a) && decide (z = b)) || (decide (u = b) && decide (z = a))) = true
  ·rw [hc] at h5
   have h5 : nearI es (u : Int) (z : Int) = false := by simpa using h5
   refine .inr ⟨(hE u z h3).2 hc, fun hm => ?_⟩
   rw [← (hE u z h3).2 hc] at hm
   rw [(near_mem h h3).2 hm] at h5
   cases h5
  ·have hc' := (Bool.not_eq_true _).mp hc
   rw [hc', Bool.xor_false] at h5
   exact .inl ⟨(near_mem h h3).1 h5, fun hh => hc ((hE u z h3).1 hh)⟩
 ·intro hh
  have hshape : ∃ u z : Nat, u < z ∧ z < n ∧ e = ((u : Int), (z : Int), ()) := by
   rcases hh with ⟨h1, _⟩ | ⟨h1, _⟩
   ·obtain ⟨x, y, _⟩ := e
    obtain ⟨k1, k2, k3, k4⟩ := edgeB_nat (List.all_eq_true.1 h _ h1)
    simp only at k1 k2 k3 k4
    exact ⟨x.toNat, y.toNat, k1, k2, by rw [← k3, ← k4]⟩
   ·subst h1
    unfold eE
    split
    ·exact ⟨a, b, by omega, hb, rfl⟩
    ·exact ⟨b, a, by omega, ha, rfl⟩
  obtain ⟨u, z, h3, h4, rfl⟩ := hshape
  refine ⟨u, z, Nat.zero_le _, by omega, h3, h4, ?_, rfl⟩
  rw [hbit, hasN_near hn h]
  rcases hh with ⟨h1, h2⟩ | ⟨h1, h2⟩
  ·have hc : ((decide (u = a) && decide (z = b)) || (decide (u = b) && decide (z = a))) = false := (Bool.not_eq_true _).mp fun hc => h2 ((hE u z h3).2 hc)
   rw [hc, Bool.xor_false]
   exact (near_mem h h3).2 h1
  ·have hc := (hE u z h3).1 h1
   rw [hc]
   have : nearI es (u : Int) (z : Int) = false := (Bool.not_eq_true _).mp fun hn => h2 (by rw [← h1]; exact (near_mem h h3).1 hn)
   rw [this]
   rfl
theorem allE_len {p : Nat → Nat → Bool} {n : Nat} : ∀ {m x : Nat}, (allE p n m x).length ≤ n * m := by
 intro m
 induction m with
 | zero => intro x; simp [allE]
 | succ m ih =>
  intro x
  have h1 := rowE_len (p := p) (x := x) (m := n - (x + 1)) (y := x + 1)
  have h2 := ih (x := x + 1)
  simp only [allE, List.length_append, Nat.mul_succ]
  omega
theorem graph_len {n : Int} {es : List E} {v : Unit} (hg : graphB (n, es, v) = true) : es.length ≤ 64 := by
 obtain ⟨h0, h8⟩ := graphB_n hg
 obtain ⟨g1, g2⟩ := graphB_edges hg
 obtain ⟨a, rfl⟩ := nat_of h0
 have ha : a ≤ 8 := by omega
 have := allE_net ha g1 (rising_pair g2)
 rw [← this]
 have h1 := allE_len (p := hasN (netN a es)) (n := a) (m := a) (x := 0)
 have h2 : a * a ≤ 8 * 8 := Nat.mul_le_mul ha ha
 omega
theorem okW_of {w : Wk} (h : workB w = true) : okW w = true := by
 obtain ⟨⟨n, es, v⟩, p, q, m, t, u⟩ := w
 have h' := h
 unfold workB at h'
 simp only [Bool.and_eq_true] at h'
 obtain ⟨⟨⟨⟨h1, h2⟩, h3⟩, h4, h5⟩, h6⟩ := h'
 have h1 : graphB (n, es, v) = true := h1
 obtain ⟨n0, n8⟩ := graphB_n h1
 obtain ⟨a, rfl⟩ := nat_of n0
 have hm : m.length ≤ 8 := by
  have := marked_set (n := a) h5 fun y hy => inB_iff.1 (List.all_eq_true.1 h4 y hy)
  rw [this]
  have := setF_len (p := fun y => hasL m (y : Int)) (k := a) (x := 0)
  omega
 have hl := graph_len h1
 unfold okW
 simp only [h, Bool.and_eq_true, decide_eq_true_eq]
 exact ⟨⟨trivial, by show es.length ≤ 1000; omega⟩, by show m.length ≤ 1000; omega⟩
def InvC (n : Nat) (ball : Int → List Int) (f : Nat → Nat → Int) : Prop := ∀ c r, c < n → r < n → 1 ≤ f c r → ∃ b ∈ ball (c : Int), 0 ≤ afterT ball (tabL n f) b (r : Int) ∧ afterT ball (tabL n f) b (r : Int) + 1 = f c r
theorem after_keep {n : Nat} {ball : Int → List Int} (hb : okBall n ball) {t : Nat} {f : Nat → Nat → Int} {b r : Nat} (hbn : b < n) (hr : r < n) (h : 0 ≤ afterT ball (tabL n f) (b : Int) (r : Int)) :
  afterT ball (tabL n (stepF n ball (t : Int) f)) (b : Int) (r : Int) = afterT ball (tabL n f) (b : Int) (r : Int) := by
 unfold afterT at h ⊢
 by_cases hbr : (b : Int) = (r : Int)
 ·rw [if_pos hbr, if_pos hbr]
 ·rw [if_neg hbr] at h ⊢
  rw [if_neg hbr]
  rcases worst_spec (tab2 (tabL n f) (b : Int)) (ball (r : Int)) 0 with ⟨_, h'⟩ | ⟨hall, _, _⟩
  ·omega
  ·refine worst_congr fun x hx => ?_
   obtain ⟨y, hy, rfl⟩ := hb r hr x hx
   have := (hall (y : Int) hx).1
   rw [tab2_tabL _ hbn hy] at this
   rw [tab2_tabL _ hbn hy, tab2_tabL _ hbn hy]
   refine if_neg fun hcan => ?_
   unfold canF at hcan
   simp only [Bool.and_eq_true, decide_eq_true_eq] at hcan
   omega
theorem InvC.next {n : Nat} {ball : Int → List Int} (hb : okBall n ball) {t : Nat} {f : Nat → Nat → Int} (hI : InvT n ball t f) (hC : InvC n ball f) : InvC n ball (stepF n ball (t : Int) f) := by
 intro c r hc hr h
 by_cases hcan : canF n ball f c r = true
 ·have e : stepF n ball (t : Int) f c r = (t : Int) := if_pos hcan
  rw [e]
  unfold canF at hcan
  simp only [Bool.and_eq_true, decide_eq_true_eq, List.any_eq_true] at hcan
  obtain ⟨hf, b, hbm, h0⟩ := hcan
  have h1 := hI.none c r hc hr hf b hbm
  have h2 := after_high hb hI hc hr hbm
  obtain ⟨b', hb1, rfl⟩ := hb c hc b hbm
  refine ⟨_, hbm, ?_⟩
  rw [after_keep hb hb1 hr h0]
  omega
 ·have e : stepF n ball (t : Int) f c r = f c r := if_neg hcan
  rw [e] at h ⊢
  obtain ⟨b, hbm, h0, h1⟩ := hC c r hc hr h
  obtain ⟨b', hb1, rfl⟩ := hb c hc b hbm
  refine ⟨_, hbm, ?_⟩
  rw [after_keep hb hb1 hr h0]
  exact ⟨h0, h1⟩
theorem timesF_inv {n : Nat} {ball : Int → List Int} (hb : okBall n ball) : ∀ (k t : Nat) (f : Nat → Nat → Int), InvT n ball t f → InvC n ball f → ∃ t', t' ≤ t + k ∧ InvT n ball t' (timesF n ball k (t : Int) f) ∧ InvC n ball (timesF n ball k (t : Int) f) := by
 intro k
 induction k with
 | zero => intro t f h1 h2; exact ⟨t, by omega, h1, h2⟩
 | succ k ih =>
  intro t f h1 h2
  unfold timesF
  split
  ·obtain ⟨t', k1, k2, k3⟩ := ih (t + 1) _ (h1.next hb) (h2.next hb h1)
   exact ⟨t', by omega, k2, k3⟩
  ·exact ⟨t, by omega, h1, h2⟩
theorem times_facts {n : Nat} {ball : Int → List Int} (hb : okBall n ball) : sqB n (timesT n ball) = true ∧ ∀ c r, c < n → r < n → 1 ≤ tab2 (timesT n ball) (c : Int) (r : Int) → (ball (c : Int)).any (chaseP ball (timesT n ball) (c : Int) (r : Int)) = true := by
 have hst : InvC n ball startF := fun c r _ _ h => by
  unfold startF at h
  split at h <;> omega
 obtain ⟨t', k1, k2, k3⟩ := timesF_inv hb 65 1 startF (InvT.start n ball) hst
 refine ⟨tabL_sqB fun c r hc hr => ?_, fun c r hc hr h => ?_⟩
 ·have h1 := k2.low c r hc hr
  have h2 := k2.high c r hc hr
  constructor
  ·exact h1
  ·have : ((t' : Nat) : Int) ≤ 66 := by omega
   exact Int.le_trans (Int.le_of_lt h2) (by omega)
 ·unfold timesT at h ⊢
  rw [tab2_tabL _ hc hr] at h
  obtain ⟨b, hbm, h0, h1⟩ := k3 c r hc hr h
  refine List.any_eq_true.2 ⟨b, hbm, ?_⟩
  unfold chaseP
  rw [tab2_tabL _ hc hr, Bool.and_eq_true, decide_eq_true_eq, decide_eq_true_eq]
  exact ⟨h1, h0⟩
theorem rob_neg (row : Int → Int) : ∀ (l : List Int) (b : Int), row b < 0 → robL row l b = b := by
 intro l
 induction l with
 | nil => intro b _; rfl
 | cons x l ih =>
  intro b h
  have : ¬ (0 ≤ row b ∧ (row x < 0 ∨ row x > row b)) := by omega
  simp only [robL, if_neg this]
  exact ih b h
theorem flee_rob (row : Int → Int) : ∀ (l : List Int) (b : Int), 0 ≤ row b → fleeL row l b = robL row l b := by
 intro l
 induction l with
 | nil => intro b _; rfl
 | cons x l ih =>
  intro b h
  simp only [fleeL, robL]
  by_cases hx : row x < 0
  ·rw [if_pos hx, if_pos ⟨h, .inl hx⟩, rob_neg row l x hx]
  ·rw [if_neg hx]
   by_cases h2 : row x > row b
   ·rw [if_pos h2, if_pos ⟨h, .inr h2⟩]
    exact ih x (by omega)
   ·rw [if_neg h2, if_neg (by omega)]
    exact ih b h
theorem flee_same (row : Int → Int) (l : List Int) (hl : l ≠ []) : fleeL row l (l.headD 0) = robL row l.tail (l.headD 0) := by
 match l, hl with
 | h :: t, _ =>
  show (if row h < 0 then h else fleeL row t (if row h > row h then h else h)) = robL row t h
  by_cases hh : row h < 0
  ·rw [if_pos hh, rob_neg row t h hh]
  ·rw [if_neg hh, if_neg (by omega)]
   exact flee_rob row t h (by omega)
def oneB (v : Nat) : Bool := decide (v ≠ 0 ∧ v &&& (v - 1) = 0)
def oneChk (v : Nat) : Bool := (oneB v == decide ((setF (fun y => v.testBit y) 8 0).length = 1)) && (!oneB v || (decide ((v : Int) = 2 ^ ((setF (fun y => v.testBit y) 8 0).headD 0).toNat) && decide (0 ≤ (setF (fun y => v.testBit y) 8 0).headD 0)))
set_option maxRecDepth 100000 in
theorem one_all : (List.range 256).all oneChk = true := by decide
theorem one_bit {v : Nat} (h : v < 256) : (oneB v = true ↔ (setF (fun y => v.testBit y) 8 0).length = 1) ∧ (oneB v = true → ∃ b : Nat, v = 2 ^ b ∧ (setF (fun y => v.testBit y) 8 0).headD 0 = (b : Int)) := by
 have := List.all_eq_true.1 one_all v (List.mem_range.2 h)
 unfold oneChk at this
 rw [Bool.and_eq_true] at this
 obtain ⟨h1, h2⟩ := this
 have h1 := beq_iff_eq.1 h1
 refine ⟨by rw [h1, decide_eq_true_eq], fun ho => ?_⟩
 rw [ho] at h2
 simp only [Bool.not_true, Bool.false_or, Bool.and_eq_true, decide_eq_true_eq] at h2
 refine ⟨((setF (fun y => v.testBit y) 8 0).headD 0).toNat, ?_, by omega⟩
 have := h2.1
 exact_mod_cast this
theorem force_same {n : Nat} (hn : n ≤ 8) {es : List E} (h : es.all (edgeB (n : Int)) = true) {S : List Int} (hS : ∀ y ∈ S, 0 ≤ y ∧ y ≤ (n : Int) - 1) : ∀ k x (oN : Nat) (P : Nat → Bool), isM n oN P →
  ∃ Q, isM n (forceN (netN n es) (maskN S) k x oN) Q ∧ onceL es n S k x (setF P n 0) = setF Q n 0 := by
 intro k
 induction k with
 | zero => intro x oN P hP; exact ⟨P, hP, rfl⟩
 | succ k ih =>
  intro x oN P hP
  have hM := maskN_isM hn hS
  have hok := netN_ok hn h
  -- the open neighbours as bits
  have hv : isM n ((netN n es).getD x 0 &&& (255 ^^^ maskN S)) (fun y => nearI es (x : Int) (y : Int) && !hasL S (y : Int)) := by
   refine ⟨Nat.lt_of_le_of_lt Nat.and_le_left (hok.2 x), fun y => ?_⟩
   have hb := hasN_near hn h x y
   unfold hasN at hb
   rw [Nat.testBit_and, Nat.testBit_xor, bit_255, hM.2 y, hb]
   by_cases hy : y < n
   ·have : y < 8 := by omega
    simp [hy, this]
   ·have : nearI es (x : Int) (y : Int) = false := (Bool.not_eq_true _).mp fun hh => hy (near_lt h hh)
    simp [hy, this]
  have ham : amongL es n S (x : Int) = setF (fun y => nearI es (x : Int) (y : Int) && !hasL S (y : Int)) n 0 := by
   unfold amongL
   rw [filter_setF]
  have hset := setF_mask hn hv
  rw [← ham] at hset
  have hvl := hv.1
  show ∃ Q, isM n (forceN (netN n es) (maskN S) k (x + 1) _) Q ∧ onceL es n S k (x + 1) _ = setF Q n 0
  generalize hz : (netN n es).getD x 0 &&& (255 ^^^ maskN S) = v at hv hset hvl
  obtain ⟨o1, o2⟩ := one_bit hvl
  rw [hset] at o1 o2
  by_cases hone : oneB v = true
  ·obtain ⟨b, hb1, hb2⟩ := o2 hone
   have hlen := o1.1 hone
   have hone' := of_decide_eq_true hone
   -- b is a node
   have hbn : b < n := by
    have := hv.2 b
    rw [hb1, Nat.testBit_two_pow_self] at this
    have := this.symm
    simp only [Bool.and_eq_true, decide_eq_true_eq] at this
    exact this.1
   -- is x among the marked ones?
   by_cases hx : hasL S (x : Int) = true
   ·have hxn : x < n := by
     have := hS _ (hasL_iff.1 hx)
     omega
    have hbit : (maskN S).testBit x = true := by rw [hM.2 x]; simp [hxn, hx]
    rw [if_pos ⟨hbit, hone'⟩, if_pos ⟨hlen, hx⟩, hb2, putL_set (Nat.zero_le _) (by omega)]
    refine ih (x + 1) _ _ ⟨Nat.or_lt_two_pow (n := 8) hP.1 hvl, fun y => ?_⟩
    rw [Nat.testBit_or, hP.2 y, hb1, Nat.testBit_two_pow, Bool.eq_iff_iff]
    simp only [Bool.or_eq_true, Bool.and_eq_true, decide_eq_true_eq]
    constructor
    ·rintro (⟨a1, a2⟩ | a1)
     ·exact ⟨a1, .inl a2⟩
     ·exact ⟨by omega, .inr a1.symm⟩
    ·rintro ⟨a1, a2 | a2⟩
     ·exact .inl ⟨a1, a2⟩
     ·exact .inr a2.symm
   ·have hbit : ¬ (maskN S).testBit x = true := fun hh => by
     rw [hM.2 x] at hh
     simp only [Bool.and_eq_true] at hh
     exact hx hh.2
    rw [if_neg (fun hh => hbit hh.1), if_neg (fun hh => hx hh.2)]
    exact ih (x + 1) oN P hP
  ·have hlen : ¬ (amongL es n S (x : Int)).length = 1 := fun hh => hone (o1.2 hh)
   have hone' : ¬ (v ≠ 0 ∧ v &&& (v - 1) = 0) := fun hh => hone (decide_eq_true hh)
   rw [if_neg (fun hh => hone' hh.2), if_neg (fun hh => hlen hh.1)]
   exact ih (x + 1) oN P hP
end Go.V.W
set_option linter.unusedVariables false
set_option linter.unusedSimpArgs false
namespace Go.V.W
open Go.Proofs
section moves
variable {a : Nat} {es : List E} {v : Unit}
theorem two_some (hg : graphB ((a : Int), es, v) = true) (ho : okL es = true) (x y : Int) (u : Unit) : F_spec_l3Two 0 (((a : Int), es, v), x, y, u) = some (inB 0 ((a : Int) - 1) x && inB 0 ((a : Int) - 1) y, ()) := by
 obtain ⟨h0, h8⟩ := graphB_n hg
 unfold F_spec_l3Two G_graph
 simp only [ho, if_true, Option.bind_some, hg, node_eq _ es v _ _ h0 h8]
 cases inB 0 ((a : Int) - 1) x <;> rfl
theorem times_at {n : Nat} {ball : Int → List Int} {c r : Nat} (hc : c < n) (hr : r < n) : idxIn (c : Int) (timesT n ball).length = true ∧ idxIn (r : Int) (at_ K_Si (timesT n ball) c).length = true ∧ at_ I (at_ K_Si (timesT n ball) c) r = tab2 (timesT n ball) (c : Int) (r : Int) := by
 have hsq : sqL n (timesT n ball) = true := tabL_sq _ _
 obtain ⟨t1, t2⟩ := sqL_parts hsq
 exact ⟨idxIn_nat (by omega), idxIn_nat (by rw [t2 _ hc]; exact hr), tab2_at hsq hc hr⟩
theorem in_node {c : Nat} (hc : c < a) : inB 0 ((a : Int) - 1) (c : Int) = true := inB_iff.2 (by omega)
def copT (ball : Int → List Int) (T : Tab) (c r : Int) : Int := firstL (chaseP ball T c r) (ball c) c
theorem first_in {p : Int → Bool} {l : List Int} {c a : Nat} (hc : c < a) (hl : ∀ z ∈ l, ∃ y : Nat, y < a ∧ z = (y : Int)) : ∃ y : Nat, y < a ∧ firstL p l (c : Int) = (y : Int) := by
 unfold firstL
 cases h : l.find? p with
 | none => exact ⟨c, hc, rfl⟩
 | some z =>
  obtain ⟨y, hy, rfl⟩ := hl z (List.mem_of_find?_eq_some h)
  exact ⟨y, hy, rfl⟩
theorem cop_spec (hg : graphB ((a : Int), es, v) = true) (ho : okL es = true) {c r : Nat} (hc : c < a) (hr : r < a) (u : Unit) :
  F_spec_CopMove 0 (((a : Int), es, v), (c : Int), (r : Int), u) = some (if tab2 (timesT a (ballF a es)) (c : Int) (r : Int) < 1 then (0, false, ()) else (copT (ballF a es) (timesT a (ballF a es)) (c : Int) (r : Int), true, ())) := by
 have hG := graph_grB hg ho
 obtain ⟨t1, t2, t3⟩ := times_at (ball := ballF a es) hc hr
 unfold F_spec_CopMove
 simp only [two_some hg ho, in_node hc, in_node hr, Bool.and_self, Option.bind_some, Bool.not_true, Bool.false_eq_true, if_false, G_l3Times, hG, if_true, Int.toNat_natCast, t1, t2, t3]
 by_cases h : tab2 (timesT a (ballF a es)) (c : Int) (r : Int) < 1
 ·simp only [h, decide_true, if_true]
 ·simp only [h, decide_false, Bool.false_eq_true, if_false]
  obtain ⟨f1, f2⟩ := times_facts (ballF_ok a es)
  have hch : G_l3Chase (((a : Int), es, v), timesT a (ballF a es), (c : Int), (r : Int), ()) = some (copT (ballF a es) (timesT a (ballF a es)) (c : Int) (r : Int), ()) := by
   unfold G_l3Chase twoB
   have h1 : decide (1 ≤ tab2 (timesT a (ballF a es)) (c : Int) (r : Int)) = true := decide_eq_true (by omega)
   simp only [hG, Int.toNat_natCast, f1, in_node hc, in_node hr, h1, f2 c r hc hr (by omega), Bool.and_self, if_true]
   rfl
  simp only [hch, Option.bind_some]
theorem rob_spec (hg : graphB ((a : Int), es, v) = true) (ho : okL es = true) {c r : Nat} (hc : c < a) (hr : r < a) (u : Unit) :
  F_spec_RobberMove 0 (((a : Int), es, v), (c : Int), (r : Int), u) = some (if (c : Int) = (r : Int) then (0, false, ()) else (fleeL (tab2 (timesT a (ballF a es)) (c : Int)) (ballF a es (r : Int)) ((ballF a es (r : Int)).headD 0), true, ())) := by
 have hG := graph_grB hg ho
 unfold F_spec_RobberMove
 simp only [two_some hg ho, in_node hc, in_node hr, Bool.and_self, Option.bind_some, Bool.not_true, Bool.false_eq_true, if_false, G_l3Times, hG, if_true, Int.toNat_natCast]
 by_cases h : (c : Int) = (r : Int)
 ·simp only [h, beq_self_eq_true, if_true]
 ·have b : ((c : Int) == (r : Int)) = false := by simpa using h
  have hfl : G_l3Flee (((a : Int), es, v), timesT a (ballF a es), (c : Int), (r : Int), ()) = some (fleeL (tab2 (timesT a (ballF a es)) (c : Int)) (ballF a es (r : Int)) ((ballF a es (r : Int)).headD 0), ()) := by
   unfold G_l3Flee twoB
   have hsq : sqL a (timesT a (ballF a es)) = true := tabL_sq _ _
   simp only [hG, Int.toNat_natCast, hsq, in_node hc, in_node hr, Bool.and_self, if_true]
  simp only [b, Bool.false_eq_true, if_false, h, hfl, Option.bind_some]
theorem play_spec {p q : Nat} (hg : graphB ((a : Int), es, v) = true) (ho : okL es = true) (hp : p < a) (hq : q < a) (hne : ¬ (p : Int) = (q : Int)) (m : List Int) (hm : okL m = true) (t : Int) (u w : Unit) :
  F_spec_l12Play 0 ((((a : Int), es, v), (p : Int), (q : Int), m, t, u), w) = some ((((a : Int), es, v), copW (((a : Int), es, v), (p : Int), (q : Int), m, t, u), robW (((a : Int), es, v), (p : Int), (q : Int), m, t, u), m, t, u), ()) := by
 unfold F_spec_l12Play
 simp only [own_ws _ es v _ _ m t u _ ho hm, Option.bind_some, cop_spec hg ho hp hq]
 have hcw : copW (((a : Int), es, v), (p : Int), (q : Int), m, t, u) = if tab2 (timesT a (ballF a es)) (p : Int) (q : Int) < 1 then (p : Int) else copT (ballF a es) (timesT a (ballF a es)) (p : Int) (q : Int) := rfl
 have hrw : robW (((a : Int), es, v), (p : Int), (q : Int), m, t, u) = if copW (((a : Int), es, v), (p : Int), (q : Int), m, t, u) = (q : Int) then (q : Int) else fleeL (tab2 (timesT a (ballF a es)) (copW (((a : Int), es, v), (p : Int), (q : Int), m, t, u))) (ballF a es (q : Int)) ((ballF a es (q : Int)).headD 0) := rfl
 rw [hrw]
 by_cases h : tab2 (timesT a (ballF a es)) (p : Int) (q : Int) < 1
 ·rw [if_pos h] at hcw
  rw [hcw]
  simp only [h, if_true, Bool.false_eq_true, if_false, rob_spec hg ho hp hq, hne, Option.bind_some]
 ·rw [if_neg h] at hcw
  rw [hcw]
  obtain ⟨c', hc', ec⟩ := first_in (p := chaseP (ballF a es) (timesT a (ballF a es)) (p : Int) (q : Int)) (l := ballF a es (p : Int)) hp (ballF_ok a es p hp)
  have ec : copT (ballF a es) (timesT a (ballF a es)) (p : Int) (q : Int) = (c' : Int) := ec
  rw [ec]
  simp only [h, if_false, if_true, rob_spec hg ho hc' hq, Option.bind_some]
  by_cases h2 : (c' : Int) = (q : Int)
  ·simp only [h2, if_true, Bool.false_eq_true, if_false]
  ·simp only [h2, if_false, if_true]
theorem chase_spec (g : Gr) (p q : Int) (m : List Int) (t : Int) (u w : Unit) : g_spec_l12Chase ((g, p, q, m, t, u), w) = (chB0 (g, p, q, m, t, u), ()) := by
 unfold g_spec_l12Chase chB0
 by_cases h1 : 0 ≤ p
 ·by_cases h2 : 0 ≤ q
  ·simp [h1, h2, bne]
  ·simp [h1, h2]
 ·simp [h1]
theorem apart_impl (g : Gr) (p q : Int) (m : List Int) (t : Int) (u w : Unit) : g_impl_areApart ((g, p, q, m, t, u), w) = (chB0 (g, p, q, m, t, u), ()) := by
 unfold g_impl_areApart chB0
 by_cases h1 : 0 ≤ p
 ·by_cases h2 : 0 ≤ q
  ·simp [h1, h2, bne]
  ·simp [h1, h2]
 ·simp [h1]
theorem chB0_parts {g : Gr} {p q : Int} {m : List Int} {t : Int} {u : Unit} (h : chB0 (g, p, q, m, t, u) = true) : 0 ≤ p ∧ 0 ≤ q ∧ ¬ p = q := by
 unfold chB0 at h
 simp only [Bool.and_eq_true, decide_eq_true_eq, Bool.not_eq_true', beq_eq_false_iff_ne, ne_eq] at h
 exact ⟨h.1.1, h.1.2, h.2⟩
theorem ball_has (ha : a ≤ 8) (x : Int) (y : Int) (u : Unit) : G_l1Has (ballF a es x, y, u) = some (hasL (ballF a es x) y, ()) := by
 unfold G_l1Has
 have := ballF_len a es x
 rw [if_pos (show okL (ballF a es x) = true from decide_eq_true (by unfold lim; omega))]
 rfl
theorem moves_spec {p q : Int} (hg : graphB ((a : Int), es, v) = true) (ho : okL es = true) (hp : p ≤ (a : Int) - 1) (hq : q ≤ (a : Int) - 1) (m : List Int) (t : Int) (u : Unit) (A B : Int) (w : Unit) :
  F_spec_l12Moves 0 ((((a : Int), es, v), p, q, m, t, u), A, B, w) = some (movesB (((a : Int), es, v), p, q, m, t, u) A B, ()) := by
 have hG := graph_grB hg ho
 have ha : a ≤ 8 := by have := graphB_n hg; omega
 unfold F_spec_l12Moves movesB ballW
 simp only [chase_spec, Int.toNat_natCast]
 cases hch : chB0 (((a : Int), es, v), p, q, m, t, u) with
 | false => rfl
 | true =>
  obtain ⟨p0, q0, hne⟩ := chB0_parts hch
  obtain ⟨p', rfl⟩ := nat_of p0
  obtain ⟨q', rfl⟩ := nat_of q0
  have b1 := ball_some hG (show p' < a by omega)
  have b2 := ball_some hG (show q' < a by omega)
  simp only [Int.toNat_natCast] at b1 b2
  simp only [b1, b2, if_true, Option.bind_some, ball_has ha, Bool.true_and]
  cases hasL (ballF a es (p' : Int)) A with
  | false => rfl
  | true =>
   cases hasL (ballF a es (q' : Int)) B with
   | false => rfl
   | true =>
    simp only [if_true, Bool.true_and]
    cases h : A == (q' : Int) with
    | true => simp only [bne, h, Bool.not_true, Bool.false_eq_true, if_false, Bool.false_or]
    | false => simp only [bne, h, Bool.not_false, if_true, Bool.true_or]
theorem edges_of (hg : graphB ((a : Int), es, v) = true) : a ≤ 8 ∧ es.all (edgeB (a : Int)) = true ∧ risingE es = true := by
 have := graphB_n hg
 have := graphB_edges hg
 exact ⟨by omega, this.1, this.2⟩
theorem closed_bit (hg : graphB ((a : Int), es, v) = true) {c : Nat} (hc : c < a) (u w : Unit) : ∃ k : Nat, k < 256 ∧ F_impl_net_closed 0 ((toI (netN a es), u), (c : Int), w) = some ((k : Int), ()) ∧ ∀ y, y < a → k.testBit y = hasL (ballF a es (c : Int)) (y : Int) := by
 obtain ⟨ha, g1, g2⟩ := edges_of hg
 obtain ⟨nb, nl⟩ := netB_net ha g1
 have hc' : c < (toI (netN a es)).length := by rw [nl]; exact hc
 refine ⟨_, (maskM nb hc').1, closedM nb u hc', fun y hy => ?_⟩
 rw [← ball_same ha g1 hc]
 unfold ballM
 rw [Int.toNat_natCast]
 exact (hasL_setF (p := fun y => ((fromI (toI (netN a es))).getD c 0 ||| 2 ^ c).testBit y) (show y < 8 by omega)).symm
theorem has_bit0 {k y : Nat} (hk : k < 256) (h : y < 8) : (bits .and .i64 (shr .i64 (k : Int) (y : Int)) 1 == (0 : Int)) = !k.testBit y := by
 have h1 : k >>> y < 256 := by
  rw [Nat.shiftRight_eq_div_pow]
  exact Nat.lt_of_le_of_lt (Nat.div_le_self _ _) hk
 have h2 := has_bit hk h
 rw [shr_nat h] at h2 ⊢
 have := bits_and h1 (show 1 < 256 by omega)
 rw [show ((1 : Nat) : Int) = 1 from rfl] at this
 rw [this] at h2 ⊢
 rw [← h2, Nat.and_one_is_mod]
 have : k >>> y % 2 = 0 ∨ k >>> y % 2 = 1 := by omega
 rcases this with h | h <;> simp [h]
theorem hasL_ball {x y : Int} (h : hasL (ballF a es x) y = true) : inB 0 ((a : Int) - 1) y = true := by
 obtain ⟨z, _, h2, _, rfl⟩ := setF_mem.1 (hasL_iff.1 h)
 exact inB_iff.2 (by omega)
theorem move_impl {p q : Int} (hg : graphB ((a : Int), es, v) = true) (ho : okL es = true) (hp : p ≤ (a : Int) - 1) (hq : q ≤ (a : Int) - 1) (m : List Int) (t : Int) (u : Unit) (A B : Int) (w : Unit) :
  F_impl_moveBoth 0 ((((a : Int), es, v), p, q, m, t, u), A, B, w) = some (if movesB (((a : Int), es, v), p, q, m, t, u) A B = true then (true, (((a : Int), es, v), A, B, m, t, u), ()) else (false, (((a : Int), es, v), p, q, m, t, u), ())) := by
 obtain ⟨ha, g1, g2⟩ := edges_of hg
 unfold F_impl_moveBoth movesB ballW
 simp only [apart_impl, Int.toNat_natCast]
 cases hch : chB0 (((a : Int), es, v), p, q, m, t, u) with
 | false => rfl
 | true =>
  obtain ⟨p0, q0, hne⟩ := chB0_parts hch
  obtain ⟨p', rfl⟩ := nat_of p0
  obtain ⟨q', rfl⟩ := nat_of q0
  have hN := has_nodes (a : Int) es v () [A, B] ho (decide_eq_true (by unfold lim; simp))
  rw [hg] at hN
  simp only [Bool.not_true, Bool.false_eq_true, if_false, hN, Option.bind_some, List.all_cons, List.all_nil, Bool.and_true, Bool.true_and]
  cases hA : inB 0 ((a : Int) - 1) A with
  | false =>
   have : hasL (ballF a es (p' : Int)) A = false := (Bool.not_eq_true _).mp fun h => by rw [hasL_ball h] at hA; cases hA
   simp only [this, Bool.false_and, Bool.not_false, if_true, Bool.false_eq_true, if_false]
  | true =>
   cases hB : inB 0 ((a : Int) - 1) B with
   | false =>
    have : hasL (ballF a es (q' : Int)) B = false := (Bool.not_eq_true _).mp fun h => by rw [hasL_ball h] at hB; cases hB
    simp only [this, Bool.false_and, Bool.and_false, Bool.not_false, if_true, Bool.false_eq_true, if_false]
   | true =>
    have hA' := inB_iff.1 hA
    have hB' := inB_iff.1 hB
    obtain ⟨A', rfl⟩ := nat_of hA'.1
    obtain ⟨B', rfl⟩ := nat_of hB'.1
    obtain ⟨k1, k2, k3, k4⟩ := closed_bit hg (show p' < a by omega) () ()
    obtain ⟨l1, l2, l3, l4⟩ := closed_bit hg (show q' < a by omega) () ()
    have z1 := has_bit0 k2 (show A' < 8 by omega)
    have z2 := has_bit0 l2 (show B' < 8 by omega)
    rw [k4 A' (by omega)] at z1
    rw [l4 B' (by omega)] at z2
    simp only [Bool.and_self, Bool.not_true, Bool.false_eq_true, if_false, net_some hg ho, Option.bind_some, k3, l3, nonneg_dec, if_true, z1, z2]
    cases hasL (ballF a es (p' : Int)) (A' : Int) <;> cases hasL (ballF a es (q' : Int)) (B' : Int) <;> cases h1 : ((A' : Int) == (q' : Int)) <;> cases h2 : ((B' : Int) == (A' : Int)) <;> simp [bne, h2]
theorem cop_impl (hg : graphB ((a : Int), es, v) = true) {c r : Nat} (hc : c < a) (hr : r < a) (u w : Unit) :
  G_copMove ((toI (netN a es), u), timesT a (ballF a es), (c : Int), (r : Int), w) = some (copT (ballF a es) (timesT a (ballF a es)) (c : Int) (r : Int), ()) := by
 obtain ⟨ha, g1, g2⟩ := edges_of hg
 obtain ⟨nb, nl⟩ := netB_net ha g1
 obtain ⟨f1, f2⟩ := times_facts (ballF_ok a es)
 unfold G_copMove
 simp only [nb, nl, f1, in_node hc, in_node hr, Bool.and_self, if_true]
 have hb := ball_same ha g1 hc
 have hp : chaseP (ballM (toI (netN a es))) (timesT a (ballF a es)) (c : Int) (r : Int) = chaseP (ballF a es) (timesT a (ballF a es)) (c : Int) (r : Int) := by
  funext b
  unfold chaseP afterT
  rw [ball_same ha g1 hr]
 rw [hb, hp]
 rfl
theorem rob_impl (hg : graphB ((a : Int), es, v) = true) {c r : Nat} (hc : c < a) (hr : r < a) (u w : Unit) :
  G_robberMove ((toI (netN a es), u), at_ K_Si (timesT a (ballF a es)) c, (r : Int), w) = some (fleeL (tab2 (timesT a (ballF a es)) (c : Int)) (ballF a es (r : Int)) ((ballF a es (r : Int)).headD 0), ()) := by
 obtain ⟨ha, g1, g2⟩ := edges_of hg
 obtain ⟨nb, nl⟩ := netB_net ha g1
 have hsq : sqL a (timesT a (ballF a es)) = true := tabL_sq _ _
 obtain ⟨t1, t2⟩ := sqL_parts hsq
 unfold G_robberMove
 have e : decide ((at_ K_Si (timesT a (ballF a es)) c).length = a) = true := decide_eq_true (t2 c hc)
 simp only [nb, nl, e, in_node hr, Bool.and_self, if_true, ball_same ha g1 hr]
 rw [flee_same _ _ (List.ne_nil_of_mem (ball_self es hr))]
 have hrow : rowI (at_ K_Si (timesT a (ballF a es)) c) = tab2 (timesT a (ballF a es)) (c : Int) := by
  funext z
  have hlt : c < (timesT a (ballF a es)).length := by omega
  have ea : at_ K_Si (timesT a (ballF a es)) c = (timesT a (ballF a es))[c] := at_get (e := K_Si) hlt
  unfold rowI tab2
  simp only [ea, Int.toNat_natCast, List.getD_eq_getElem?_getD, List.getElem?_eq_getElem hlt, Option.getD_some]
 rw [hrow]
theorem play_impl {p q : Int} (hg : graphB ((a : Int), es, v) = true) (ho : okL es = true) (hp : p ≤ (a : Int) - 1) (hq : q ≤ (a : Int) - 1) (m : List Int) (t : Int) (u w : Unit) :
  F_impl_playBoth 0 ((((a : Int), es, v), p, q, m, t, u), w) = some (if chB0 (((a : Int), es, v), p, q, m, t, u) = true then (true, (((a : Int), es, v), copW (((a : Int), es, v), p, q, m, t, u), robW (((a : Int), es, v), p, q, m, t, u), m, t, u), ()) else (false, (((a : Int), es, v), p, q, m, t, u), ())) := by
 obtain ⟨ha, g1, g2⟩ := edges_of hg
 obtain ⟨nb, nl⟩ := netB_net ha g1
 unfold F_impl_playBoth
 simp only [apart_impl]
 cases hch : chB0 (((a : Int), es, v), p, q, m, t, u) with
 | false => rfl
 | true =>
  obtain ⟨p0, q0, hne⟩ := chB0_parts hch
  obtain ⟨p', rfl⟩ := nat_of p0
  obtain ⟨q', rfl⟩ := nat_of q0
  have hp' : p' < a := by omega
  have hq' : q' < a := by omega
  have hT : timesT (toI (netN a es)).length (ballM (toI (netN a es))) = timesT a (ballF a es) := by
   rw [nl]
   exact tabL_congr (timesF_congr (fun x hx => ball_same ha g1 hx) 65 1 startF startF fun _ _ _ _ => rfl)
  obtain ⟨t1, t2, t3⟩ := times_at (ball := ballF a es) hp' hq'
  have hcw : copW (((a : Int), es, v), (p' : Int), (q' : Int), m, t, u) = if tab2 (timesT a (ballF a es)) (p' : Int) (q' : Int) < 1 then (p' : Int) else copT (ballF a es) (timesT a (ballF a es)) (p' : Int) (q' : Int) := rfl
  have hrw : robW (((a : Int), es, v), (p' : Int), (q' : Int), m, t, u) = if copW (((a : Int), es, v), (p' : Int), (q' : Int), m, t, u) = (q' : Int) then (q' : Int) else fleeL (tab2 (timesT a (ballF a es)) (copW (((a : Int), es, v), (p' : Int), (q' : Int), m, t, u))) (ballF a es (q' : Int)) ((ballF a es (q' : Int)).headD 0) := rfl
  simp only [Bool.not_true, Bool.false_eq_true, if_false, net_some hg ho, Option.bind_some, G_copTimes, nb, hT, if_true, Int.toNat_natCast, t1, t2, t3]
  rw [hrw]
  by_cases h : tab2 (timesT a (ballF a es)) (p' : Int) (q' : Int) < 1
  ·have d : decide (tab2 (timesT a (ballF a es)) (p' : Int) (q' : Int) > 0) = false := decide_eq_false (by omega)
   have b : ((p' : Int) != (q' : Int)) = true := by simpa using hne
   rw [if_pos h] at hcw
   rw [hcw]
   simp only [d, Bool.false_eq_true, if_false, b, if_true, hne, rob_impl hg hp' hq', Option.bind_some]
  ·have d : decide (tab2 (timesT a (ballF a es)) (p' : Int) (q' : Int) > 0) = true := decide_eq_true (by omega)
   rw [if_neg h] at hcw
   rw [hcw]
   obtain ⟨c', hc', ec⟩ := first_in (p := chaseP (ballF a es) (timesT a (ballF a es)) (p' : Int) (q' : Int)) (l := ballF a es (p' : Int)) hp' (ballF_ok a es p' hp')
   have ec : copT (ballF a es) (timesT a (ballF a es)) (p' : Int) (q' : Int) = (c' : Int) := ec
   rw [ec]
   obtain ⟨s1, _, _⟩ := times_at (ball := ballF a es) hc' hq'
   simp only [d, if_true, cop_impl hg hp' hq', ec, Option.bind_some, Int.toNat_natCast]
   by_cases h2 : (c' : Int) = (q' : Int)
   ·simp only [h2, bne_self_eq_false, Bool.false_eq_true, if_false, if_true]
   ·have b : ((c' : Int) != (q' : Int)) = true := by simpa using h2
    simp only [b, if_true, h2, if_false, s1, rob_impl hg hc' hq', Option.bind_some]
theorem toggle_impl (hg : graphB ((a : Int), es, v) = true) (ho : okL es = true) (A B : Int) (u : Unit) : F_impl_ToggleEdge 0 (((a : Int), es, v), A, B, u) = some (togB ((a : Int), es, v) A B) := by
 obtain ⟨ha, g1, g2⟩ := edges_of hg
 unfold F_impl_ToggleEdge togB
 have hN := has_nodes (a : Int) es v () [A, B] ho (decide_eq_true (by unfold lim; simp))
 rw [hg] at hN
 simp only [hN, hg, Option.bind_some, List.all_cons, List.all_nil, Bool.and_true, Bool.true_and]
 cases hA : inB 0 ((a : Int) - 1) A with
 | false => rfl
 | true =>
  cases hB : inB 0 ((a : Int) - 1) B with
  | false => rfl
  | true =>
   cases hab : A == B with
   | true => rfl
   | false =>
    have hne : ¬ A = B := by simpa using hab
    have hA' := inB_iff.1 hA
    have hB' := inB_iff.1 hB
    obtain ⟨A', rfl⟩ := nat_of hA'.1
    obtain ⟨B', rfl⟩ := nat_of hB'.1
    have hA2 : A' < a := by omega
    have hB2 : B' < a := by omega
    have hok := netN_ok ha g1
    have hne' : A' ≠ B' := fun e => hne (by rw [e])
    have hnl : (netN a es).length = a := hok.1
    have i1 : idxIn (A' : Int) (toI (netN a es)).length = true := idxIn_nat (by rw [toI_len, hnl]; exact hA2)
    have hx1 : bits .xor .i64 (at_ I (toI (netN a es)) A') (shl .i64 1 (B' : Int)) = (((netN a es).getD A' 0 ^^^ 2 ^ B' : Nat) : Int) := by
     rw [at_toI, shl_one (show B' < 8 by omega), bits_xor (hok.2 A') (pow_small (by omega))]
    obtain ⟨tk, _⟩ := togN_ok ha hok hA2 hB2 hne'
    have e1 : ((netN a es).set A' ((netN a es).getD A' 0 ^^^ 2 ^ B')).getD B' 0 = (netN a es).getD B' 0 := by rw [getD_set _ _ _ _ (by rw [hnl]; exact hA2), if_neg (fun e => hne' e.symm)]
    have i2 : idxIn (B' : Int) (toI ((netN a es).set A' ((netN a es).getD A' 0 ^^^ 2 ^ B'))).length = true := idxIn_nat (by rw [toI_len, List.length_set, hnl]; exact hB2)
    have hx2 : bits .xor .i64 (at_ I (toI ((netN a es).set A' ((netN a es).getD A' 0 ^^^ 2 ^ B'))) B') (shl .i64 1 (A' : Int)) = ((((netN a es).set A' ((netN a es).getD A' 0 ^^^ 2 ^ B')).getD B' 0 ^^^ 2 ^ A' : Nat) : Int) := by
     rw [at_toI, shl_one (show A' < 8 by omega), bits_xor (by rw [e1]; exact hok.2 B') (pow_small (by omega))]
    have hgr : F_impl_net_graph 0 ((toI (togN (netN a es) A' B'), ()), ()) = some (((a : Int), togE es (eE (A' : Int) (B' : Int)), ()), ()) := by
     unfold F_impl_net_graph g_impl_net_size G_graphBy135
     have hl : (toI (togN (netN a es) A' B')).length = a := by rw [toI_len, tk.1]
     simp only [small_toI tk ha, hl, decide_true, Bool.and_self, if_true, Option.bind_some, toI_from, Int.toNat_natCast, tog_same ha g1 g2 hA2 hB2 hne']
    simp only [Bool.and_self, Bool.not_true, Bool.not_false, Bool.false_eq_true, if_false, net_some hg ho, Option.bind_some, i1, if_true, nonneg_dec, Int.toNat_natCast, hx1, toI_set, i2, hx2]
    have : (((netN a es).set A' ((netN a es).getD A' 0 ^^^ 2 ^ B')).set B' (((netN a es).set A' ((netN a es).getD A' 0 ^^^ 2 ^ B')).getD B' 0 ^^^ 2 ^ A')) = togN (netN a es) A' B' := rfl
    rw [this, hgr]
    rfl
end moves
end Go.V.W
set_option linter.unusedVariables false
set_option linter.unusedSimpArgs false
namespace Go.V.W
structure Inv3 (p n : Nat) (ball : Nat → Int → List Int) (f : Nat → Nat → Nat → Int) : Prop where
 low : ∀ r c q, -1 ≤ f r c q
 home : ∀ r c, f r c c = 0
 away : ∀ r c q, c ≠ q → f r c q ≠ 0
 why : ∀ r c q, r < p → c < n → q < n → 0 ≤ f r c q → c = q ∨ ∃ b ∈ ball r (c : Int), 0 ≤ afterT (ball r) (tabL n (f ((r + 1) % p))) b (q : Int)
theorem Inv3.start (p n : Nat) (ball : Nat → Int → List Int) : Inv3 p n ball start3 := by
 refine ⟨fun r c q => ?_, fun r c => ?_, fun r c q h => ?_, fun r c q _ _ _ h => ?_⟩
 ·unfold start3 startF; split <;> omega
 ·unfold start3 startF; simp
 ·unfold start3 startF; rw [if_neg h]; omega
 ·unfold start3 startF at h
  by_cases e : c = q
  ·exact .inl e
  ·rw [if_neg e] at h; omega
def okBalls (p n : Nat) (ball : Nat → Int → List Int) : Prop := ∀ r, r < p → okBall n (ball r)
theorem after_mono {n : Nat} {ball : Int → List Int} (hb : okBall n ball) {f g : Nat → Nat → Int} (h : ∀ c q, 0 ≤ f c q → 0 ≤ g c q) {b q : Nat} (hbn : b < n) (hq : q < n) (h0 : 0 ≤ afterT ball (tabL n f) (b : Int) (q : Int)) : 0 ≤ afterT ball (tabL n g) (b : Int) (q : Int) := by
 unfold afterT at h0 ⊢
 by_cases e : (b : Int) = (q : Int)
 ·rw [if_pos e]; exact Int.le_refl _
 ·rw [if_neg e] at h0 ⊢
  rcases worst_spec (tab2 (tabL n f) (b : Int)) (ball (q : Int)) 0 with ⟨_, h1⟩ | ⟨h1, _, _⟩
  ·omega
  ·rcases worst_spec (tab2 (tabL n g) (b : Int)) (ball (q : Int)) 0 with ⟨⟨x, hx, h2⟩, _⟩ | ⟨_, h2, _⟩
   ·exfalso
    obtain ⟨y, hy, rfl⟩ := hb q hq x hx
    have := (h1 _ hx).1
    rw [tab2_tabL _ hbn hy] at this h2
    have := h _ _ this
    omega
   ·exact h2
theorem Inv3.next {p n : Nat} {ball : Nat → Int → List Int} (hb : okBalls p n ball) {t : Int} (ht : 1 ≤ t) {f : Nat → Nat → Nat → Int} (hI : Inv3 p n ball f) : Inv3 p n ball (step3 p n ball t f) := by
 have hkeep : ∀ r c q, 0 ≤ f r c q → step3 p n ball t f r c q = f r c q := fun r c q h => by
  unfold step3 can3
  have : decide (f r c q < 0) = false := by simp; omega
  simp [this]
 have hge : ∀ r c q, 0 ≤ f r c q → 0 ≤ step3 p n ball t f r c q := fun r c q h => by rw [hkeep r c q h]; exact h
 refine ⟨fun r c q => ?_, fun r c => ?_, fun r c q h => ?_, fun r c q hr hc hq h => ?_⟩
 ·unfold step3; split
  ·omega
  ·exact hI.low r c q
 ·rw [hkeep r c c (by rw [hI.home]; exact Int.le_refl _)]; exact hI.home r c
 ·unfold step3; split
  ·omega
  ·exact hI.away r c q h
 ·have key : (∃ b ∈ ball r (c : Int), 0 ≤ afterT (ball r) (tabL n (f ((r + 1) % p))) b (q : Int)) → ∃ b ∈ ball r (c : Int), 0 ≤ afterT (ball r) (tabL n (step3 p n ball t f ((r + 1) % p))) b (q : Int) := by
   rintro ⟨b, hbm, h1⟩
   obtain ⟨y, hy, rfl⟩ := hb r hr c hc b hbm
   exact ⟨_, hbm, after_mono (hb r hr) (hge _) hy hq h1⟩
  by_cases hf : 0 ≤ f r c q
  ·exact (hI.why r c q hr hc hq hf).imp _root_.id key
  ·right
   have hcan : can3 p n ball f r c q = true := by
    cases hcan : can3 p n ball f r c q with
    | true => rfl
    | false => unfold step3 at h; rw [if_neg (by rw [hcan]; simp)] at h; exact absurd h hf
   unfold can3 at hcan
   simp only [Bool.and_eq_true, List.any_eq_true, decide_eq_true_eq] at hcan
   exact key hcan.2
end Go.V.W
set_option linter.unusedVariables false
set_option linter.unusedSimpArgs false
namespace Go.V.W
open Go.Proofs
structure TT (nets : List Nt) (p n : Nat) : Prop where
 ok : netsB n nets = true
 len : nets.length = p
 n8 : n ≤ 8
end Go.V.W
set_option linter.unusedVariables false
set_option linter.unusedSimpArgs false
namespace Go.V.W
open Go.Proofs
structure LogIs (d p : List UInt8) (c : Int) : Prop where
 size : d.length + p.length ≤ 30000
 all : (openL 60 0 (d ++ p)).2 = (d ++ p).length
 durable : (openL 60 0 d).2 = d.length
 count : ((openL 60 0 (d ++ p)).1.length : Int) = c
end Go.V.W
set_option linter.unusedVariables false
set_option linter.unusedSimpArgs false
namespace Go.V.W
open Go.Proofs
theorem szWs (n : Int) (l : List E) (v : Unit) (p q : Int) (m : List Int) (t : Int) (u : Unit) (hl : l.length ≤ maxLen) (hm : m.length ≤ maxLen) : (g_laws_szWorkshop (((n, l, v), p, q, m, t, u), (1048576 : Int), ())).1 < 0 ∨ (l.length ≤ 1048576 ∧ m.length ≤ 1048576 ∧ 0 ≤ (g_laws_szWorkshop (((n, l, v), p, q, m, t, u), (1048576 : Int), ())).1 ∧ (g_laws_szWorkshop (((n, l, v), p, q, m, t, u), (1048576 : Int), ())).1 ≤ 1048576) := by
 unfold g_laws_szWorkshop
 simp only [szGraph_eq n l v 1048576 () (by omega) (by omega) hl]
 by_cases h : szStep 1048576 l.length < 0
 ·left; simp only [h, decide_true, if_true]; decide
 ·have := szStep_le h
  simp only [h, decide_false, if_false, Bool.false_eq_true, szS_eq m (szStep 1048576 l.length) () (by omega) (by omega) hm]
  by_cases h' : szStep (szStep 1048576 l.length) m.length < 0
  ·left; simp only [h', decide_true, if_true]; decide
  ·have := szStep_le h'
   right
   simp only [h', decide_false, if_false, Bool.false_eq_true]
   omega
theorem specGood (n : Int) (l : List E) (v : Unit) (p q : Int) (m : List Int) (t : Int) (u w : Unit) (hl : okL l = true) (hm : okL m = true) : F_spec_l12Good 0 (((n, l, v), p, q, m, t, u), w) = some (workB ((n, l, v), p, q, m, t, u), ()) := by
 unfold F_spec_l12Good workB F_spec_l2Set G_l1Rising G_graph g_spec_l12Spot
 simp only [hl, hm, if_true, Option.bind_some, l1In_eq]
 cases hg : graphB (n, l, v) with
 | false => rfl
 | true =>
  have := graphB_n hg
  have hw : IntKind.wrap .i64 (n - 1) = n - 1 := wrap_in _ (by omega) (by omega)
  simp only [hw, if_true, Bool.true_and]
  cases inB (-1) (n - 1) p <;> cases inB (-1) (n - 1) q <;> cases (m.all (inB 0 (n - 1)) && risingB m) <;> simp
end Go.V.W
set_option linter.unusedVariables false
set_option linter.unusedSimpArgs false
namespace Go.V.W
open Go.Proofs
theorem spec_end (n' : Int) (l' : List E) (v' : Unit) (p' q' : Int) (m' : List Int) (t : Int) (u' : Unit) (hl : okL l' = true) (hm : okL m' = true) (h0 : 0 ≤ t) (h1 : t ≤ 1000) :
  ((F_spec_l12Good 0 (((n', l', v'), p', q', m', IntKind.wrap .i64 (t + 1), u'), ())).bind fun r8 => if (!r8.1) = true then some (((0, [], ()), 0, 0, [], 0, ()), false, ()) else some (((n', l', v'), p', q', m', IntKind.wrap .i64 (t + 1), u'), true, ())) = some (outW true ((n', l', v'), p', q', m', t, u')) := by
 have hw : IntKind.wrap .i64 (t + 1) = t + 1 := wrap_in _ (by omega) (by omega)
 rw [hw, specGood n' l' v' p' q' m' (t + 1) u' () hl hm]
 show (if (!workB ((n', l', v'), p', q', m', t + 1, u')) = true then _ else _) = some (if (true && workB ((n', l', v'), p', q', m', t + 1, ())) = true then _ else _)
 cases h : workB ((n', l', v'), p', q', m', t + 1, u') <;> rfl
theorem impl_end (n' : Int) (l' : List E) (v' : Unit) (p' q' : Int) (m' : List Int) (t : Int) (u' : Unit) (hl : okL l' = true) (hm : okL m' = true) (h0 : 0 ≤ t) (h1 : t ≤ 1000) :
  ((F_impl_IsWorkshop 0 (((n', l', v'), p', q', m', IntKind.wrap .i64 (t + 1), u'), ())).bind fun r8 => if (!r8.1) = true then some (((0, [], ()), 0, 0, [], 0, ()), false, ()) else some (((n', l', v'), p', q', m', IntKind.wrap .i64 (t + 1), u'), true, ())) = some (outW true ((n', l', v'), p', q', m', t, u')) := by
 have hw : IntKind.wrap .i64 (t + 1) = t + 1 := wrap_in _ (by omega) (by omega)
 rw [hw, implW n' l' v' p' q' m' (t + 1) u' () hl hm]
 show (if (!workB ((n', l', v'), p', q', m', t + 1, u')) = true then _ else _) = some (if (true && workB ((n', l', v'), p', q', m', t + 1, ())) = true then _ else _)
 cases h : workB ((n', l', v'), p', q', m', t + 1, u') <;> rfl
theorem ok_len {α : Type} {l : List α} (h : l.length ≤ 2000) : okL l = true := decide_eq_true (by unfold lim; omega)
theorem setF_ok {p : Nat → Bool} {n : Nat} (h : n ≤ 8) : okL (setF p n 0) = true := ok_len (by have := setF_len (p := p) (k := n) (x := 0); omega)
theorem insE_len (e : E) : ∀ l : List E, (insE e l).length = l.length + 1 := by
 intro l
 induction l with
 | nil => rfl
 | cons a l ih =>
  unfold insE
  split <;> simp [ih]
theorem togE_len (es : List E) (e : E) : (togE es e).length ≤ es.length + 1 := by
 have := List.length_filter_le (fun x => !decide (x = e)) es
 unfold togE
 split
 ·rw [insE_len]
  unfold outE
  omega
 ·unfold outE
  omega
theorem drop_ok {a : Nat} (ha : a ≤ 8) (es : List E) (v : Unit) (p q : Int) (m : List Int) (t : Int) (u : Unit) (x : Int) (hm : m.length ≤ 1000) : okL (dropW (((a : Int), es, v), p, q, m, t, u) x).1.2.1 = true ∧ okL (dropW (((a : Int), es, v), p, q, m, t, u) x).2.2.2.1 = true := by
 have h1 := setF_len (p := fun y => !decide ((y : Int) = x)) (k := a) (x := 0)
 refine ⟨ok_len ?_, ok_len ?_⟩
 ·show (indE (nearI es) (setF (fun y => !decide ((y : Int) = x)) a 0)).length ≤ 2000
  unfold indE
  have h2 := allE_len (p := fun i k => nearI es (atS (setF (fun y => !decide ((y : Int) = x)) a 0) i) (atS (setF (fun y => !decide ((y : Int) = x)) a 0) k)) (n := (setF (fun y => !decide ((y : Int) = x)) a 0).length) (m := (setF (fun y => !decide ((y : Int) = x)) a 0).length) (x := 0)
  have h3 : (setF (fun y => !decide ((y : Int) = x)) a 0).length * (setF (fun y => !decide ((y : Int) = x)) a 0).length ≤ 8 * 8 := Nat.mul_le_mul (by omega) (by omega)
  omega
 ·show (dropM m x).length ≤ 2000
  unfold dropM
  rw [List.length_map]
  have := List.length_filter_le (fun y => y != x) m
  omega
theorem spec_step {n : Int} {es : List E} {v : Unit} {p q : Int} {m : List Int} {t : Int} {u : Unit} (h0 : 0 ≤ t) (h1 : t ≤ 1000) (x : Wo) (z : Unit) (ok : Bool) (w' : Wk)
  (hmay : F_spec_l12May 0 (((n, es, v), p, q, m, t, u), x, ()) = some (ok, ())) (hmake : ok = true → F_spec_l12Make 0 (((n, es, v), p, q, m, t, u), x, ()) = some (w', ()) ∧ w'.2.2.2.2.1 = t ∧ okL w'.1.2.1 = true ∧ okL w'.2.2.2.1 = true) :
  F_spec_l12Do 0 (((n, es, v), p, q, m, t, u), x, z) = some (outW ok w') := by
 unfold F_spec_l12Do
 simp only [hmay, Option.bind_some]
 cases ok with
 | false => rfl
 | true =>
  obtain ⟨k1, k2, k3, k4⟩ := hmake rfl
  obtain ⟨⟨n', l', v'⟩, p', q', m', t', u'⟩ := w'
  have k2 : t' = t := k2
  subst k2
  simp only [Bool.not_true, Bool.false_eq_true, if_false, k1, Option.bind_some]
  exact spec_end n' l' v' p' q' m' t' u' k3 k4 h0 h1
theorem spot_eq (n : Int) (l : List E) (v : Unit) (x : Int) (u : Unit) (h0 : 0 ≤ n) (h8 : n ≤ 8) : g_spec_l12Spot ((n, l, v), x, u) = (inB (-1) (n - 1) x, ()) := by
 unfold g_spec_l12Spot
 have hw : IntKind.wrap .i64 (n - 1) = n - 1 := wrap_in _ (by omega) (by omega)
 simp only [hw, l1In_eq]
theorem out_cop (b : Bool) (n : Int) (es : List E) (v : Unit) (A q : Int) (m : List Int) (t : Int) (u : Unit) : outW (b && inB (-1) (n - 1) A) ((n, es, v), A, q, m, t, u) = outW b ((n, es, v), A, q, m, t, u) := by
 unfold outW cntW workB
 cases h : inB (-1) (n - 1) A with
 | true => simp
 | false => simp [h]
theorem out_rob (b : Bool) (n : Int) (es : List E) (v : Unit) (p A : Int) (m : List Int) (t : Int) (u : Unit) : outW (b && inB (-1) (n - 1) A) ((n, es, v), p, A, m, t, u) = outW b ((n, es, v), p, A, m, t, u) := by
 unfold outW cntW workB
 cases h : inB (-1) (n - 1) A with
 | true => simp
 | false => simp [h]
theorem mark_spec {a : Nat} {m : List Int} (hr : risingB m = true) (hm : ∀ y ∈ m, 0 ≤ y ∧ y ≤ (a : Int) - 1) {A : Nat} (hA : A < a) :
  (hasL m (A : Int) = true → (m.filter fun y => y != (A : Int)) = setF (fun y => Bool.xor (hasL m (y : Int)) (decide ((y : Int) = (A : Int)))) a 0) ∧ (hasL m (A : Int) = false → putL (A : Int) m = setF (fun y => Bool.xor (hasL m (y : Int)) (decide ((y : Int) = (A : Int)))) a 0) := by
 have e := marked_set hr hm
 constructor
 ·intro h
  have : (m.filter fun y => y != (A : Int)) = setF (fun y => hasL m (y : Int) && ((y : Int) != (A : Int))) a 0 := by
   conv => lhs; rw [e]
   rw [filter_setF]
  rw [this]
  refine setF_congr fun y _ _ => ?_
  by_cases hy : (y : Int) = (A : Int)
  ·rw [hy, h]; simp
  ·have : ((y : Int) != (A : Int)) = true := by simpa using hy
   rw [this]
   simp [hy]
 ·intro h
  have : putL (A : Int) m = setF (fun y => hasL m (y : Int) || decide (y = A)) a 0 := by
   conv => lhs; rw [e]
   rw [putL_set (Nat.zero_le _) (by omega)]
  rw [this]
  refine setF_congr fun y _ _ => ?_
  by_cases hy : (y : Int) = (A : Int)
  ·have : y = A := by omega
   rw [hy, h]; simp [this]
  ·have : ¬ y = A := by omega
   simp [hy, this]
theorem beq_no {i j : Int} (h : ¬ i = j) : (i == j) = false := by simpa using h
theorem once_set {a : Nat} (ha : a ≤ 8) {es : List E} (g1 : es.all (edgeB (a : Int)) = true) {m : List Int} (hr : risingB m = true) (hm : ∀ y ∈ m, 0 ≤ y ∧ y ≤ (a : Int) - 1) :
  ∃ Q, isM a (forceN (netN a es) (maskN m) a 0 (maskN m)) Q ∧ onceL es a m a 0 m = setF Q a 0 := by
 obtain ⟨Q, h1, h2⟩ := force_same ha g1 hm a 0 (maskN m) _ (maskN_isM ha hm)
 rw [← marked_set hr hm] at h2
 exact ⟨Q, h1, h2⟩
theorem specDo {w : Wk} (h : okW w = true) (x : Wo) (z : Unit) : F_spec_l12Do 0 (w, x, z) = some (doW w x) := by
 obtain ⟨⟨n, es, v⟩, p, q, m, t, u⟩ := w
 obtain ⟨hg, n0, n8, hp, hq, hmm, hr, ht, le1, le2, ho, hm⟩ := okW_parts h
 obtain ⟨a, rfl⟩ := nat_of n0
 obtain ⟨ha, g1, g2⟩ := edges_of hg
 have hown := own_ws (a : Int) es v p q m t u () ho hm
 obtain ⟨k, A, B, y⟩ := x
 by_cases h1 : k = 1
 ·subst h1
  refine spec_step ht.1 ht.2 _ _ (A == 0 && B == 0) (((a : Int) + 1, es, ()), p, q, m, t, u) ?_ fun _ => ⟨?_, rfl, ho, hm⟩
  ·unfold F_spec_l12May
   simp only [beq_no (show ¬ (1 : Int) = 2 by omega), beq_no (show ¬ (1 : Int) = 3 by omega), beq_no (show ¬ (1 : Int) = 4 by omega), beq_no (show ¬ (1 : Int) = 5 by omega), beq_no (show ¬ (1 : Int) = 6 by omega), beq_no (show ¬ (1 : Int) = 7 by omega), beq_no (show ¬ (1 : Int) = 8 by omega), Bool.false_eq_true, if_false, beq_self_eq_true, if_true]
   cases A == 0 <;> cases B == 0 <;> rfl
  ·unfold F_spec_l12Make
   have hw : IntKind.wrap .i64 ((a : Int) + 1) = (a : Int) + 1 := wrap_in _ (by omega) (by omega)
   simp only [hown, Option.bind_some, beq_self_eq_true, if_true, hw]
 by_cases h2 : k = 2
 ·subst h2
  obtain ⟨d1, d2⟩ := drop_ok ha es v p q m t u A le2
  refine spec_step ht.1 ht.2 _ _ (B == 0 && inB 0 ((a : Int) - 1) A && !(p == A) && !(q == A)) (dropW (((a : Int), es, v), p, q, m, t, u) A) ?_ fun hok => ⟨?_, rfl, d1, d2⟩
  ·unfold F_spec_l12May
   simp only [beq_self_eq_true, if_true, node_eq _ es v _ _ n0 n8, bne]
   cases B == 0 <;> cases inB 0 ((a : Int) - 1) A <;> cases p == A <;> cases q == A <;> rfl
  ·simp only [Bool.and_eq_true] at hok
   unfold F_spec_l12Make
   have hd : G_l12Drop ((((a : Int), es, v), p, q, m, t, u), A, ()) = some (dropW (((a : Int), es, v), p, q, m, t, u) A, ()) := by
    unfold G_l12Drop
    rw [if_pos (by rw [h, Bool.true_and]; exact hok.1.1.2)]
   simp only [hown, Option.bind_some, beq_no (show ¬ (2 : Int) = 1 by omega), Bool.false_eq_true, if_false, beq_self_eq_true, if_true, hd]
 by_cases h3 : k = 3
 ·subst h3
  refine spec_step ht.1 ht.2 _ _ (inB 0 ((a : Int) - 1) A && inB 0 ((a : Int) - 1) B && !(A == B)) (((a : Int), togE es (eE A B), ()), p, q, m, t, u) ?_ fun hok => ⟨?_, rfl, ok_len (by have := togE_len es (eE A B); show (togE es (eE A B)).length ≤ 2000; omega), hm⟩
  ·unfold F_spec_l12May
   simp only [beq_no (show ¬ (3 : Int) = 2 by omega), Bool.false_eq_true, if_false, beq_self_eq_true, if_true, two_some hg ho, Option.bind_some, bne]
   cases inB 0 ((a : Int) - 1) A <;> cases inB 0 ((a : Int) - 1) B <;> cases A == B <;> rfl
  ·unfold F_spec_l12Make
   have hd : G_ToggleEdge (((a : Int), es, v), A, B, ()) = some (((a : Int), togE es (eE A B), ()), true, ()) := by
    unfold G_ToggleEdge togB
    rw [if_pos (decide_eq_true (by show es.length ≤ 1000; exact le1))]
    simp only [hg, Bool.true_and, hok, if_true]
   simp only [hown, Option.bind_some, beq_no (show ¬ (3 : Int) = 1 by omega), beq_no (show ¬ (3 : Int) = 2 by omega), Bool.false_eq_true, if_false, beq_self_eq_true, if_true, hd]
 by_cases h4 : k = 4
 ·subst h4
  have hd : doW (((a : Int), es, v), p, q, m, t, u) (4, A, B, y) = outW (B == 0) (((a : Int), es, v), A, q, m, t, u) := rfl
  rw [hd, ← out_cop]
  refine spec_step ht.1 ht.2 _ _ (B == 0 && inB (-1) ((a : Int) - 1) A) _ ?_ fun hok => ⟨?_, rfl, ho, hm⟩
  ·unfold F_spec_l12May
   simp only [beq_no (show ¬ (4 : Int) = 2 by omega), beq_no (show ¬ (4 : Int) = 3 by omega), Bool.false_eq_true, if_false, beq_self_eq_true, if_true, spot_eq _ es v _ _ n0 n8]
   cases B == 0 <;> rfl
  ·unfold F_spec_l12Make
   simp only [hown, Option.bind_some, beq_no (show ¬ (4 : Int) = 1 by omega), beq_no (show ¬ (4 : Int) = 2 by omega), beq_no (show ¬ (4 : Int) = 3 by omega), Bool.false_eq_true, if_false, beq_self_eq_true, if_true]
 by_cases h5 : k = 5
 ·subst h5
  have hd : doW (((a : Int), es, v), p, q, m, t, u) (5, A, B, y) = outW (B == 0) (((a : Int), es, v), p, A, m, t, u) := rfl
  rw [hd, ← out_rob]
  refine spec_step ht.1 ht.2 _ _ (B == 0 && inB (-1) ((a : Int) - 1) A) _ ?_ fun hok => ⟨?_, rfl, ho, hm⟩
  ·unfold F_spec_l12May
   simp only [beq_no (show ¬ (5 : Int) = 2 by omega), beq_no (show ¬ (5 : Int) = 3 by omega), beq_no (show ¬ (5 : Int) = 4 by omega), Bool.false_eq_true, if_false, beq_self_eq_true, if_true, spot_eq _ es v _ _ n0 n8]
   cases B == 0 <;> rfl
  ·unfold F_spec_l12Make
   simp only [hown, Option.bind_some, beq_no (show ¬ (5 : Int) = 1 by omega), beq_no (show ¬ (5 : Int) = 2 by omega), beq_no (show ¬ (5 : Int) = 3 by omega), beq_no (show ¬ (5 : Int) = 4 by omega), Bool.false_eq_true, if_false, beq_self_eq_true, if_true]
 by_cases h6 : k = 6
 ·subst h6
  refine spec_step ht.1 ht.2 _ _ (movesB (((a : Int), es, v), p, q, m, t, u) A B) (((a : Int), es, v), A, B, m, t, u) ?_ fun hok => ⟨?_, rfl, ho, hm⟩
  ·unfold F_spec_l12May
   simp only [beq_no (show ¬ (6 : Int) = 2 by omega), beq_no (show ¬ (6 : Int) = 3 by omega), beq_no (show ¬ (6 : Int) = 4 by omega), beq_no (show ¬ (6 : Int) = 5 by omega), Bool.false_eq_true, if_false, beq_self_eq_true, if_true, moves_spec hg ho hp.2 hq.2, Option.bind_some]
  ·unfold F_spec_l12Make
   simp only [hown, Option.bind_some, beq_no (show ¬ (6 : Int) = 1 by omega), beq_no (show ¬ (6 : Int) = 2 by omega), beq_no (show ¬ (6 : Int) = 3 by omega), beq_no (show ¬ (6 : Int) = 4 by omega), beq_no (show ¬ (6 : Int) = 5 by omega), Bool.false_eq_true, if_false, beq_self_eq_true, if_true]
 by_cases h7 : k = 7
 ·subst h7
  refine spec_step ht.1 ht.2 _ _ (A == 0 && B == 0 && chB0 (((a : Int), es, v), p, q, m, t, u)) (((a : Int), es, v), copW (((a : Int), es, v), p, q, m, t, u), robW (((a : Int), es, v), p, q, m, t, u), m, t, u) ?_ fun hok => ⟨?_, rfl, ho, hm⟩
  ·unfold F_spec_l12May
   simp only [beq_no (show ¬ (7 : Int) = 2 by omega), beq_no (show ¬ (7 : Int) = 3 by omega), beq_no (show ¬ (7 : Int) = 4 by omega), beq_no (show ¬ (7 : Int) = 5 by omega), beq_no (show ¬ (7 : Int) = 6 by omega), Bool.false_eq_true, if_false, beq_self_eq_true, if_true, chase_spec]
   cases A == 0 <;> cases B == 0 <;> rfl
  ·unfold F_spec_l12Make
   simp only [Bool.and_eq_true] at hok
   obtain ⟨p0, q0, hne⟩ := chB0_parts hok.2
   obtain ⟨p', rfl⟩ := nat_of p0
   obtain ⟨q', rfl⟩ := nat_of q0
   simp only [hown, Option.bind_some, beq_no (show ¬ (7 : Int) = 1 by omega), beq_no (show ¬ (7 : Int) = 2 by omega), beq_no (show ¬ (7 : Int) = 3 by omega), beq_no (show ¬ (7 : Int) = 4 by omega), beq_no (show ¬ (7 : Int) = 5 by omega), beq_no (show ¬ (7 : Int) = 6 by omega), Bool.false_eq_true, if_false, beq_self_eq_true, if_true, play_spec hg ho (show p' < a by omega) (show q' < a by omega) hne m hm]
 by_cases h8 : k = 8
 ·subst h8
  refine spec_step ht.1 ht.2 _ _ (B == 0 && inB 0 ((a : Int) - 1) A) (setM (((a : Int), es, v), p, q, m, t, u) (setF (fun y => Bool.xor (hasL m (y : Int)) (decide ((y : Int) = A))) a 0)) ?_ fun hok => ⟨?_, rfl, ho, setF_ok ha⟩
  ·unfold F_spec_l12May
   simp only [beq_no (show ¬ (8 : Int) = 2 by omega), beq_no (show ¬ (8 : Int) = 3 by omega), beq_no (show ¬ (8 : Int) = 4 by omega), beq_no (show ¬ (8 : Int) = 5 by omega), beq_no (show ¬ (8 : Int) = 6 by omega), beq_no (show ¬ (8 : Int) = 7 by omega), Bool.false_eq_true, if_false, beq_self_eq_true, if_true, node_eq _ es v _ _ n0 n8]
   cases B == 0 <;> rfl
  ·unfold F_spec_l12Make
   simp only [Bool.and_eq_true] at hok
   have hA := inB_iff.1 hok.2
   obtain ⟨A', rfl⟩ := nat_of hA.1
   obtain ⟨m1, m2⟩ := mark_spec hr hmm (show A' < a by omega)
   have e1 : G_l1Has (m, (A' : Int), ()) = some (hasL m (A' : Int), ()) := by unfold G_l1Has hasL; rw [if_pos hm]
   have e2 : G_l2Without (m, (A' : Int), ()) = some (m.filter (fun y => y != (A' : Int)), ()) := by unfold G_l2Without; rw [if_pos hm]
   have e3 : G_l1Put (m, (A' : Int), ()) = some (putL (A' : Int) m, ()) := by unfold G_l1Put; rw [if_pos (show okS1 m = true from decide_eq_true le2)]
   simp only [hown, Option.bind_some, beq_no (show ¬ (8 : Int) = 1 by omega), beq_no (show ¬ (8 : Int) = 2 by omega), beq_no (show ¬ (8 : Int) = 3 by omega), beq_no (show ¬ (8 : Int) = 4 by omega), beq_no (show ¬ (8 : Int) = 5 by omega), beq_no (show ¬ (8 : Int) = 6 by omega), beq_no (show ¬ (8 : Int) = 7 by omega), Bool.false_eq_true, if_false, beq_self_eq_true, if_true, e1, e2, e3]
   cases hh : hasL m (A' : Int) with
   | true => simp only [if_true, m1 hh, setM]
   | false => simp only [Bool.false_eq_true, if_false, m2 hh, setM]
 by_cases h9 : k = 9
 ·subst h9
  obtain ⟨Q, q1, q2⟩ := once_set ha g1 hr hmm
  refine spec_step ht.1 ht.2 _ _ (A == 0 && B == 0) (setM (((a : Int), es, v), p, q, m, t, u) (onceL es a m a 0 m)) ?_ fun hok => ⟨?_, rfl, ho, by show okL (onceL es a m a 0 m) = true; rw [q2]; exact setF_ok ha⟩
  ·unfold F_spec_l12May
   simp only [beq_no (show ¬ (9 : Int) = 2 by omega), beq_no (show ¬ (9 : Int) = 3 by omega), beq_no (show ¬ (9 : Int) = 4 by omega), beq_no (show ¬ (9 : Int) = 5 by omega), beq_no (show ¬ (9 : Int) = 6 by omega), beq_no (show ¬ (9 : Int) = 7 by omega), beq_no (show ¬ (9 : Int) = 8 by omega), beq_no (show ¬ (9 : Int) = 1 by omega), Bool.false_eq_true, if_false, beq_self_eq_true, if_true]
   cases A == 0 <;> cases B == 0 <;> rfl
  ·unfold F_spec_l12Make
   have hlen : m.length ≤ 100 := by
    rw [marked_set hr hmm]
    have := setF_len (p := fun y => hasL m (y : Int)) (k := a) (x := 0)
    omega
   have e1 : G_l9Once (((a : Int), es, v), m, false, ()) = some (onceL es a m a 0 m, ()) := by
    unfold G_l9Once gOk
    have d1 : decide ((a : Int) ≤ 8) = true := decide_eq_true n8
    have d2 : decide (m.length ≤ 100) = true := decide_eq_true hlen
    simp only [ho, nonneg_dec, d1, d2, Bool.not_false, Bool.and_self, if_true, Int.toNat_natCast]
   simp only [hown, Option.bind_some, beq_no (show ¬ (9 : Int) = 1 by omega), beq_no (show ¬ (9 : Int) = 2 by omega), beq_no (show ¬ (9 : Int) = 3 by omega), beq_no (show ¬ (9 : Int) = 4 by omega), beq_no (show ¬ (9 : Int) = 5 by omega), beq_no (show ¬ (9 : Int) = 6 by omega), beq_no (show ¬ (9 : Int) = 7 by omega), beq_no (show ¬ (9 : Int) = 8 by omega), Bool.false_eq_true, if_false, beq_self_eq_true, if_true, e1]
   rfl
 by_cases h10 : k = 10
 ·subst h10
  refine spec_step ht.1 ht.2 _ _ (A == 0 && B == 0) (setM (((a : Int), es, v), p, q, m, t, u) (setF (fun y => !hasL m (y : Int)) a 0)) ?_ fun hok => ⟨?_, rfl, ho, setF_ok ha⟩
  ·unfold F_spec_l12May
   simp only [beq_no (show ¬ (10 : Int) = 2 by omega), beq_no (show ¬ (10 : Int) = 3 by omega), beq_no (show ¬ (10 : Int) = 4 by omega), beq_no (show ¬ (10 : Int) = 5 by omega), beq_no (show ¬ (10 : Int) = 6 by omega), beq_no (show ¬ (10 : Int) = 7 by omega), beq_no (show ¬ (10 : Int) = 8 by omega), beq_no (show ¬ (10 : Int) = 1 by omega), beq_no (show ¬ (10 : Int) = 9 by omega), Bool.false_eq_true, if_false, beq_self_eq_true, if_true]
   cases A == 0 <;> cases B == 0 <;> rfl
  ·unfold F_spec_l12Make
   have e1 : G_l5Rest (((a : Int), es, v), m, ()) = some (setF (fun y => !hasL m (y : Int)) a 0, ()) := by
    unfold G_l5Rest
    have d1 : decide ((a : Int) ≤ 8) = true := decide_eq_true n8
    simp only [hm, nonneg_dec, d1, Bool.and_self, if_true, Int.toNat_natCast]
   simp only [hown, Option.bind_some, beq_no (show ¬ (10 : Int) = 1 by omega), beq_no (show ¬ (10 : Int) = 2 by omega), beq_no (show ¬ (10 : Int) = 3 by omega), beq_no (show ¬ (10 : Int) = 4 by omega), beq_no (show ¬ (10 : Int) = 5 by omega), beq_no (show ¬ (10 : Int) = 6 by omega), beq_no (show ¬ (10 : Int) = 7 by omega), beq_no (show ¬ (10 : Int) = 8 by omega), beq_no (show ¬ (10 : Int) = 9 by omega), Bool.false_eq_true, if_false, beq_self_eq_true, if_true, e1]
   rfl
 ·have hd : doW (((a : Int), es, v), p, q, m, t, u) (k, A, B, y) = outW false W0 := by
   unfold doW
   simp only [h1, h2, h3, h4, h5, h6, h7, h8, h9, h10, if_false]
   rfl
  rw [hd]
  refine spec_step ht.1 ht.2 _ _ false _ ?_ fun hok => by cases hok
  unfold F_spec_l12May
  simp only [beq_no h1, beq_no h2, beq_no h3, beq_no h4, beq_no h5, beq_no h6, beq_no h7, beq_no h8, beq_no h9, beq_no h10, Bool.false_eq_true, if_false]
  cases A == 0 <;> cases B == 0 <;> rfl
theorem marks_impl {a : Nat} {es : List E} {v : Unit} (hg : graphB ((a : Int), es, v) = true) (ho : okL es = true) {p q : Int} {m : List Int} (hm : okL m = true) (hr : risingB m = true) (hmm : ∀ y ∈ m, 0 ≤ y ∧ y ≤ (a : Int) - 1) (t : Int) (u z y : Unit) (A B : Int) :
  F_impl_markNodes 0 ((((a : Int), es, v), p, q, m, t, u), (8, A, B, y), z) = some (if inB 0 ((a : Int) - 1) A = true then (true, (((a : Int), es, v), p, q, setF (fun y => Bool.xor (hasL m (y : Int)) (decide ((y : Int) = A))) a 0, t, u), ()) else (false, (((a : Int), es, v), p, q, m, t, u), ())) ∧
  F_impl_markNodes 0 ((((a : Int), es, v), p, q, m, t, u), (9, A, B, y), z) = some (true, (((a : Int), es, v), p, q, onceL es a m a 0 m, t, u), ()) ∧
  F_impl_markNodes 0 ((((a : Int), es, v), p, q, m, t, u), (10, A, B, y), z) = some (true, (((a : Int), es, v), p, q, setF (fun y => !hasL m (y : Int)) a 0, t, u), ()) := by
 obtain ⟨ha, g1, g2⟩ := edges_of hg
 have hM := maskN_isM ha hmm
 have e1 : G_maskOf (m, ()) = some ((maskN m : Int), ()) := by
  unfold G_maskOf
  have : m.all (inB 0 7) = true := List.all_eq_true.2 fun y hy => inB_iff.2 (by have := hmm y hy; omega)
  simp only [hm, this, Bool.and_self, if_true]
 have hset : ∀ {k : Nat} {Q : Nat → Bool}, isM a k Q → G_setOf ((k : Int), ()) = some (setF Q a 0, ()) := fun {k Q} hk => by
  unfold G_setOf
  have b2 : decide ((k : Int) < 256) = true := by
   have := hk.1
   simp only [decide_eq_true_eq]
   omega
  simp only [nonneg_dec, b2, Bool.and_self, if_true, Int.toNat_natCast]
  rw [setF_mask ha hk]
 refine ⟨?_, ?_, ?_⟩
 ·unfold F_impl_markNodes
  have hw : IntKind.wrap .i64 ((a : Int) - 1) = (a : Int) - 1 := wrap_in _ (by omega) (by omega)
  simp only [e1, net_some hg ho, Option.bind_some, beq_self_eq_true, if_true, hw, within_eq]
  cases hA : inB 0 ((a : Int) - 1) A with
  | false => rfl
  | true =>
   have hA' := inB_iff.1 hA
   obtain ⟨A', rfl⟩ := nat_of hA'.1
   have hx := isM_xor ha (show A' < a by omega) hM
   simp only [Bool.not_true, Bool.false_eq_true, if_false, nonneg_dec, if_true, shl_one (show A' < 8 by omega), bits_xor hM.1 (pow_small (show A' < 8 by omega)), hset hx, Option.bind_some]
 ·unfold F_impl_markNodes
  obtain ⟨Q, q1, q2⟩ := once_set ha g1 hr hmm
  have e2 : G_forced ((toI (netN a es), ()), (maskN m : Int), false, ()) = some ((forceN (netN a es) (maskN m) a 0 (maskN m) : Int), ()) := by
   unfold G_forced
   have i1 : inB 0 255 (maskN m : Int) = true := inB_iff.2 (by have := hM.1; omega)
   have hl := (netB_net ha g1).2
   simp only [small_toI (netN_ok ha g1) ha, i1, Bool.not_false, Bool.and_self, if_true, toI_from, Int.toNat_natCast, hl]
  simp only [e1, net_some hg ho, Option.bind_some, beq_no (show ¬ (9 : Int) = 8 by omega), Bool.false_eq_true, if_false, beq_self_eq_true, if_true, e2, hset q1, ← q2]
 ·unfold F_impl_markNodes
  have hx := isM_out ha hM
  have := (all_mask ha).2
  simp only [e1, net_some hg ho, Option.bind_some, beq_no (show ¬ (10 : Int) = 8 by omega), beq_no (show ¬ (10 : Int) = 9 by omega), Bool.false_eq_true, if_false, all_net ha g1, bits_andNot (show 2 ^ a - 1 < 256 by omega) hM.1, hset hx]
end Go.V.W
set_option linter.unusedVariables false
set_option linter.unusedSimpArgs false
namespace Go.V.W
open Go.Proofs
theorem named_1 (A B : Int) (y u : Unit) : g_impl_isNamed ((1, A, B, y), u) = (A == 0 && B == 0, ()) := by
 unfold g_impl_isNamed
 simp only [beq_no (show ¬ (1 : Int) = 2 by omega), beq_no (show ¬ (1 : Int) = 3 by omega), beq_no (show ¬ (1 : Int) = 4 by omega), beq_no (show ¬ (1 : Int) = 5 by omega), beq_no (show ¬ (1 : Int) = 6 by omega), beq_no (show ¬ (1 : Int) = 7 by omega), beq_no (show ¬ (1 : Int) = 8 by omega), beq_no (show ¬ (1 : Int) = 9 by omega), beq_no (show ¬ (1 : Int) = 10 by omega), Bool.false_eq_true, if_false, beq_self_eq_true, if_true]
 cases A == 0 <;> rfl
theorem named_2 (A B : Int) (y u : Unit) : g_impl_isNamed ((2, A, B, y), u) = (B == 0, ()) := by
 unfold g_impl_isNamed
 simp only [beq_no (show ¬ (2 : Int) = 1 by omega), beq_no (show ¬ (2 : Int) = 3 by omega), beq_no (show ¬ (2 : Int) = 4 by omega), beq_no (show ¬ (2 : Int) = 5 by omega), beq_no (show ¬ (2 : Int) = 6 by omega), beq_no (show ¬ (2 : Int) = 7 by omega), beq_no (show ¬ (2 : Int) = 8 by omega), beq_no (show ¬ (2 : Int) = 9 by omega), beq_no (show ¬ (2 : Int) = 10 by omega), Bool.false_eq_true, if_false, beq_self_eq_true, if_true]
theorem named_3 (A B : Int) (y u : Unit) : g_impl_isNamed ((3, A, B, y), u) = (true, ()) := by
 unfold g_impl_isNamed
 simp only [beq_no (show ¬ (3 : Int) = 1 by omega), beq_no (show ¬ (3 : Int) = 2 by omega), beq_no (show ¬ (3 : Int) = 4 by omega), beq_no (show ¬ (3 : Int) = 5 by omega), beq_no (show ¬ (3 : Int) = 6 by omega), beq_no (show ¬ (3 : Int) = 7 by omega), beq_no (show ¬ (3 : Int) = 8 by omega), beq_no (show ¬ (3 : Int) = 9 by omega), beq_no (show ¬ (3 : Int) = 10 by omega), Bool.false_eq_true, if_false, beq_self_eq_true, if_true]
theorem named_4 (A B : Int) (y u : Unit) : g_impl_isNamed ((4, A, B, y), u) = (B == 0, ()) := by
 unfold g_impl_isNamed
 simp only [beq_no (show ¬ (4 : Int) = 1 by omega), beq_no (show ¬ (4 : Int) = 2 by omega), beq_no (show ¬ (4 : Int) = 3 by omega), beq_no (show ¬ (4 : Int) = 5 by omega), beq_no (show ¬ (4 : Int) = 6 by omega), beq_no (show ¬ (4 : Int) = 7 by omega), beq_no (show ¬ (4 : Int) = 8 by omega), beq_no (show ¬ (4 : Int) = 9 by omega), beq_no (show ¬ (4 : Int) = 10 by omega), Bool.false_eq_true, if_false, beq_self_eq_true, if_true]
theorem named_5 (A B : Int) (y u : Unit) : g_impl_isNamed ((5, A, B, y), u) = (B == 0, ()) := by
 unfold g_impl_isNamed
 simp only [beq_no (show ¬ (5 : Int) = 1 by omega), beq_no (show ¬ (5 : Int) = 2 by omega), beq_no (show ¬ (5 : Int) = 3 by omega), beq_no (show ¬ (5 : Int) = 4 by omega), beq_no (show ¬ (5 : Int) = 6 by omega), beq_no (show ¬ (5 : Int) = 7 by omega), beq_no (show ¬ (5 : Int) = 8 by omega), beq_no (show ¬ (5 : Int) = 9 by omega), beq_no (show ¬ (5 : Int) = 10 by omega), Bool.false_eq_true, if_false, beq_self_eq_true, if_true]
theorem named_6 (A B : Int) (y u : Unit) : g_impl_isNamed ((6, A, B, y), u) = (true, ()) := by
 unfold g_impl_isNamed
 simp only [beq_no (show ¬ (6 : Int) = 1 by omega), beq_no (show ¬ (6 : Int) = 2 by omega), beq_no (show ¬ (6 : Int) = 3 by omega), beq_no (show ¬ (6 : Int) = 4 by omega), beq_no (show ¬ (6 : Int) = 5 by omega), beq_no (show ¬ (6 : Int) = 7 by omega), beq_no (show ¬ (6 : Int) = 8 by omega), beq_no (show ¬ (6 : Int) = 9 by omega), beq_no (show ¬ (6 : Int) = 10 by omega), Bool.false_eq_true, if_false, beq_self_eq_true, if_true]
theorem named_7 (A B : Int) (y u : Unit) : g_impl_isNamed ((7, A, B, y), u) = (A == 0 && B == 0, ()) := by
 unfold g_impl_isNamed
 simp only [beq_no (show ¬ (7 : Int) = 1 by omega), beq_no (show ¬ (7 : Int) = 2 by omega), beq_no (show ¬ (7 : Int) = 3 by omega), beq_no (show ¬ (7 : Int) = 4 by omega), beq_no (show ¬ (7 : Int) = 5 by omega), beq_no (show ¬ (7 : Int) = 6 by omega), beq_no (show ¬ (7 : Int) = 8 by omega), beq_no (show ¬ (7 : Int) = 9 by omega), beq_no (show ¬ (7 : Int) = 10 by omega), Bool.false_eq_true, if_false, beq_self_eq_true, if_true]
 cases A == 0 <;> rfl
theorem named_8 (A B : Int) (y u : Unit) : g_impl_isNamed ((8, A, B, y), u) = (B == 0, ()) := by
 unfold g_impl_isNamed
 simp only [beq_no (show ¬ (8 : Int) = 1 by omega), beq_no (show ¬ (8 : Int) = 2 by omega), beq_no (show ¬ (8 : Int) = 3 by omega), beq_no (show ¬ (8 : Int) = 4 by omega), beq_no (show ¬ (8 : Int) = 5 by omega), beq_no (show ¬ (8 : Int) = 6 by omega), beq_no (show ¬ (8 : Int) = 7 by omega), beq_no (show ¬ (8 : Int) = 9 by omega), beq_no (show ¬ (8 : Int) = 10 by omega), Bool.false_eq_true, if_false, beq_self_eq_true, if_true]
theorem named_9 (A B : Int) (y u : Unit) : g_impl_isNamed ((9, A, B, y), u) = (A == 0 && B == 0, ()) := by
 unfold g_impl_isNamed
 simp only [beq_no (show ¬ (9 : Int) = 1 by omega), beq_no (show ¬ (9 : Int) = 2 by omega), beq_no (show ¬ (9 : Int) = 3 by omega), beq_no (show ¬ (9 : Int) = 4 by omega), beq_no (show ¬ (9 : Int) = 5 by omega), beq_no (show ¬ (9 : Int) = 6 by omega), beq_no (show ¬ (9 : Int) = 7 by omega), beq_no (show ¬ (9 : Int) = 8 by omega), beq_no (show ¬ (9 : Int) = 10 by omega), Bool.false_eq_true, if_false, beq_self_eq_true, if_true]
 cases A == 0 <;> rfl
theorem named_10 (A B : Int) (y u : Unit) : g_impl_isNamed ((10, A, B, y), u) = (A == 0 && B == 0, ()) := by
 unfold g_impl_isNamed
 simp only [beq_no (show ¬ (10 : Int) = 1 by omega), beq_no (show ¬ (10 : Int) = 2 by omega), beq_no (show ¬ (10 : Int) = 3 by omega), beq_no (show ¬ (10 : Int) = 4 by omega), beq_no (show ¬ (10 : Int) = 5 by omega), beq_no (show ¬ (10 : Int) = 6 by omega), beq_no (show ¬ (10 : Int) = 7 by omega), beq_no (show ¬ (10 : Int) = 8 by omega), beq_no (show ¬ (10 : Int) = 9 by omega), Bool.false_eq_true, if_false, beq_self_eq_true, if_true]
 cases A == 0 <;> rfl
theorem implDo {w : Wk} (h : okW w = true) (x : Wo) (z : Unit) : F_impl_doWork 0 (w, x, z) = some (doW w x) := by
 obtain ⟨⟨n, es, v⟩, p, q, m, t, u⟩ := w
 obtain ⟨hg, n0, n8, hp, hq, hmm, hr, ht, le1, le2, ho, hm⟩ := okW_parts h
 obtain ⟨a, rfl⟩ := nat_of n0
 obtain ⟨ha, g1, g2⟩ := edges_of hg
 have hcl : G_cloneWs ((((a : Int), es, v), p, q, m, t, u), ()) = some ((((a : Int), es, v), p, q, m, t, u), ()) := by
  unfold G_cloneWs
  rw [if_pos (by show (okL es && okL m) = true; rw [ho, hm]; rfl)]
 obtain ⟨k, A, B, y⟩ := x
 by_cases h1 : k = 1
 ·subst h1
  unfold F_impl_doWork
  simp only [named_1, hcl, Option.bind_some, beq_no (show ¬ (1 : Int) = 2 by omega), beq_no (show ¬ (1 : Int) = 3 by omega), beq_no (show ¬ (1 : Int) = 4 by omega), beq_no (show ¬ (1 : Int) = 5 by omega), beq_no (show ¬ (1 : Int) = 6 by omega), beq_no (show ¬ (1 : Int) = 7 by omega), beq_no (show ¬ (1 : Int) = 8 by omega), beq_no (show ¬ (1 : Int) = 9 by omega), beq_no (show ¬ (1 : Int) = 10 by omega), Bool.false_eq_true, if_false, beq_self_eq_true, if_true]
  have hd : doW (((a : Int), es, v), p, q, m, t, u) (1, A, B, y) = outW (A == 0 && B == 0) (((a : Int) + 1, es, ()), p, q, m, t, u) := rfl
  rw [hd]
  cases A == 0 && B == 0 with
  | false => rfl
  | true =>
   have hw : IntKind.wrap .i64 ((a : Int) + 1) = (a : Int) + 1 := wrap_in _ (by omega) (by omega)
   simp only [hw, Bool.not_true, Bool.false_eq_true, if_false]
   exact impl_end _ es () p q m t u ho hm ht.1 ht.2
 by_cases h2 : k = 2
 ·subst h2
  unfold F_impl_doWork
  simp only [named_2, hcl, Option.bind_some, beq_no (show ¬ (2 : Int) = 1 by omega), beq_no (show ¬ (2 : Int) = 3 by omega), beq_no (show ¬ (2 : Int) = 4 by omega), beq_no (show ¬ (2 : Int) = 5 by omega), beq_no (show ¬ (2 : Int) = 6 by omega), beq_no (show ¬ (2 : Int) = 7 by omega), beq_no (show ¬ (2 : Int) = 8 by omega), beq_no (show ¬ (2 : Int) = 9 by omega), beq_no (show ¬ (2 : Int) = 10 by omega), Bool.false_eq_true, if_false, beq_self_eq_true, if_true]
  have hd : doW (((a : Int), es, v), p, q, m, t, u) (2, A, B, y) = outW (B == 0 && inB 0 ((a : Int) - 1) A && !(p == A) && !(q == A)) (dropW (((a : Int), es, v), p, q, m, t, u) A) := rfl
  rw [hd]
  have hdn : G_dropNode ((((a : Int), es, v), p, q, m, t, u), A, ()) = some (dropB (((a : Int), es, v), p, q, m, t, u) A) := by
   unfold G_dropNode
   rw [if_pos h]
  obtain ⟨d1, d2⟩ := drop_ok ha es v p q m t u A le2
  simp only [hdn, Option.bind_some]
  unfold dropB
  cases hB : B == 0 with
  | false => rfl
  | true =>
   cases hA : inB 0 ((a : Int) - 1) A with
   | false => rfl
   | true =>
    cases c1 : p == A with
    | true => rfl
    | false =>
     cases c2 : q == A with
     | true => rfl
     | false => exact impl_end _ _ () _ _ _ t () d1 d2 ht.1 ht.2
 by_cases h3 : k = 3
 ·subst h3
  unfold F_impl_doWork
  simp only [named_3, hcl, Option.bind_some, beq_no (show ¬ (3 : Int) = 1 by omega), beq_no (show ¬ (3 : Int) = 2 by omega), beq_no (show ¬ (3 : Int) = 4 by omega), beq_no (show ¬ (3 : Int) = 5 by omega), beq_no (show ¬ (3 : Int) = 6 by omega), beq_no (show ¬ (3 : Int) = 7 by omega), beq_no (show ¬ (3 : Int) = 8 by omega), beq_no (show ¬ (3 : Int) = 9 by omega), beq_no (show ¬ (3 : Int) = 10 by omega), Bool.false_eq_true, if_false, beq_self_eq_true, if_true]
  have hd : doW (((a : Int), es, v), p, q, m, t, u) (3, A, B, y) = outW (inB 0 ((a : Int) - 1) A && inB 0 ((a : Int) - 1) B && !(A == B)) (((a : Int), togE es (eE A B), ()), p, q, m, t, u) := rfl
  rw [hd]
  have htl : okL (togE es (eE A B)) = true := ok_len (by have := togE_len es (eE A B); omega)
  simp only [toggle_impl hg ho, Option.bind_some]
  unfold togB
  simp only [hg, Bool.true_and]
  cases hA : inB 0 ((a : Int) - 1) A with
  | false => rfl
  | true =>
   cases hB : inB 0 ((a : Int) - 1) B with
   | false => rfl
   | true =>
    cases hab : A == B with
    | true => rfl
    | false => exact impl_end _ _ () p q m t u htl hm ht.1 ht.2
 by_cases h4 : k = 4
 ·subst h4
  unfold F_impl_doWork
  simp only [named_4, hcl, Option.bind_some, beq_no (show ¬ (4 : Int) = 1 by omega), beq_no (show ¬ (4 : Int) = 2 by omega), beq_no (show ¬ (4 : Int) = 3 by omega), beq_no (show ¬ (4 : Int) = 5 by omega), beq_no (show ¬ (4 : Int) = 6 by omega), beq_no (show ¬ (4 : Int) = 7 by omega), beq_no (show ¬ (4 : Int) = 8 by omega), beq_no (show ¬ (4 : Int) = 9 by omega), beq_no (show ¬ (4 : Int) = 10 by omega), Bool.false_eq_true, if_false, beq_self_eq_true, if_true]
  have hd : doW (((a : Int), es, v), p, q, m, t, u) (4, A, B, y) = outW (B == 0) (((a : Int), es, v), A, q, m, t, u) := rfl
  rw [hd]
  cases B == 0 with
  | false => rfl
  | true => exact impl_end _ es v A q m t u ho hm ht.1 ht.2
 by_cases h5 : k = 5
 ·subst h5
  unfold F_impl_doWork
  simp only [named_5, hcl, Option.bind_some, beq_no (show ¬ (5 : Int) = 1 by omega), beq_no (show ¬ (5 : Int) = 2 by omega), beq_no (show ¬ (5 : Int) = 3 by omega), beq_no (show ¬ (5 : Int) = 4 by omega), beq_no (show ¬ (5 : Int) = 6 by omega), beq_no (show ¬ (5 : Int) = 7 by omega), beq_no (show ¬ (5 : Int) = 8 by omega), beq_no (show ¬ (5 : Int) = 9 by omega), beq_no (show ¬ (5 : Int) = 10 by omega), Bool.false_eq_true, if_false, beq_self_eq_true, if_true]
  have hd : doW (((a : Int), es, v), p, q, m, t, u) (5, A, B, y) = outW (B == 0) (((a : Int), es, v), p, A, m, t, u) := rfl
  rw [hd]
  cases B == 0 with
  | false => rfl
  | true => exact impl_end _ es v p A m t u ho hm ht.1 ht.2
 by_cases h6 : k = 6
 ·subst h6
  unfold F_impl_doWork
  simp only [named_6, hcl, Option.bind_some, beq_no (show ¬ (6 : Int) = 1 by omega), beq_no (show ¬ (6 : Int) = 2 by omega), beq_no (show ¬ (6 : Int) = 3 by omega), beq_no (show ¬ (6 : Int) = 4 by omega), beq_no (show ¬ (6 : Int) = 5 by omega), beq_no (show ¬ (6 : Int) = 7 by omega), beq_no (show ¬ (6 : Int) = 8 by omega), beq_no (show ¬ (6 : Int) = 9 by omega), beq_no (show ¬ (6 : Int) = 10 by omega), Bool.false_eq_true, if_false, beq_self_eq_true, if_true]
  have hd : doW (((a : Int), es, v), p, q, m, t, u) (6, A, B, y) = outW (movesB (((a : Int), es, v), p, q, m, t, u) A B) (((a : Int), es, v), A, B, m, t, u) := rfl
  rw [hd]
  simp only [move_impl hg ho hp.2 hq.2, Option.bind_some]
  cases movesB (((a : Int), es, v), p, q, m, t, u) A B with
  | false => rfl
  | true => exact impl_end _ es v A B m t u ho hm ht.1 ht.2
 by_cases h7 : k = 7
 ·subst h7
  unfold F_impl_doWork
  simp only [named_7, hcl, Option.bind_some, beq_no (show ¬ (7 : Int) = 1 by omega), beq_no (show ¬ (7 : Int) = 2 by omega), beq_no (show ¬ (7 : Int) = 3 by omega), beq_no (show ¬ (7 : Int) = 4 by omega), beq_no (show ¬ (7 : Int) = 5 by omega), beq_no (show ¬ (7 : Int) = 6 by omega), beq_no (show ¬ (7 : Int) = 8 by omega), beq_no (show ¬ (7 : Int) = 9 by omega), beq_no (show ¬ (7 : Int) = 10 by omega), Bool.false_eq_true, if_false, beq_self_eq_true, if_true]
  have hd : doW (((a : Int), es, v), p, q, m, t, u) (7, A, B, y) = outW (A == 0 && B == 0 && chB0 (((a : Int), es, v), p, q, m, t, u)) (((a : Int), es, v), copW (((a : Int), es, v), p, q, m, t, u), robW (((a : Int), es, v), p, q, m, t, u), m, t, u) := rfl
  rw [hd]
  simp only [play_impl hg ho hp.2 hq.2, Option.bind_some]
  cases A == 0 && B == 0 with
  | false => rfl
  | true =>
   cases chB0 (((a : Int), es, v), p, q, m, t, u) with
   | false => rfl
   | true => exact impl_end _ es v _ _ m t u ho hm ht.1 ht.2
 by_cases h8 : k = 8
 ·subst h8
  unfold F_impl_doWork
  simp only [named_8, hcl, Option.bind_some, beq_no (show ¬ (8 : Int) = 1 by omega), beq_no (show ¬ (8 : Int) = 2 by omega), beq_no (show ¬ (8 : Int) = 3 by omega), beq_no (show ¬ (8 : Int) = 4 by omega), beq_no (show ¬ (8 : Int) = 5 by omega), beq_no (show ¬ (8 : Int) = 6 by omega), beq_no (show ¬ (8 : Int) = 7 by omega), beq_no (show ¬ (8 : Int) = 9 by omega), beq_no (show ¬ (8 : Int) = 10 by omega), Bool.false_eq_true, if_false, beq_self_eq_true, if_true]
  have hd : doW (((a : Int), es, v), p, q, m, t, u) (8, A, B, y) = outW (B == 0 && inB 0 ((a : Int) - 1) A) (((a : Int), es, v), p, q, setF (fun y => Bool.xor (hasL m (y : Int)) (decide ((y : Int) = A))) a 0, t, u) := rfl
  rw [hd]
  simp only [(marks_impl hg ho hm hr hmm t u () y A B).1, Option.bind_some]
  cases B == 0 with
  | false => rfl
  | true =>
   cases inB 0 ((a : Int) - 1) A with
   | false => rfl
   | true => exact impl_end _ es v p q _ t u ho (setF_ok ha) ht.1 ht.2
 by_cases h9 : k = 9
 ·subst h9
  unfold F_impl_doWork
  simp only [named_9, hcl, Option.bind_some, beq_no (show ¬ (9 : Int) = 1 by omega), beq_no (show ¬ (9 : Int) = 2 by omega), beq_no (show ¬ (9 : Int) = 3 by omega), beq_no (show ¬ (9 : Int) = 4 by omega), beq_no (show ¬ (9 : Int) = 5 by omega), beq_no (show ¬ (9 : Int) = 6 by omega), beq_no (show ¬ (9 : Int) = 7 by omega), beq_no (show ¬ (9 : Int) = 8 by omega), beq_no (show ¬ (9 : Int) = 10 by omega), Bool.false_eq_true, if_false, beq_self_eq_true, if_true]
  have hd : doW (((a : Int), es, v), p, q, m, t, u) (9, A, B, y) = outW (A == 0 && B == 0) (((a : Int), es, v), p, q, onceL es a m a 0 m, t, u) := rfl
  rw [hd]
  have hol : okL (onceL es a m a 0 m) = true := by
   obtain ⟨Q, q1, q2⟩ := once_set ha g1 hr hmm
   rw [q2]
   exact setF_ok ha
  simp only [(marks_impl hg ho hm hr hmm t u () y A B).2.1, Option.bind_some]
  cases A == 0 && B == 0 with
  | false => rfl
  | true => exact impl_end _ es v p q _ t u ho hol ht.1 ht.2
 by_cases h10 : k = 10
 ·subst h10
  unfold F_impl_doWork
  simp only [named_10, hcl, Option.bind_some, beq_no (show ¬ (10 : Int) = 1 by omega), beq_no (show ¬ (10 : Int) = 2 by omega), beq_no (show ¬ (10 : Int) = 3 by omega), beq_no (show ¬ (10 : Int) = 4 by omega), beq_no (show ¬ (10 : Int) = 5 by omega), beq_no (show ¬ (10 : Int) = 6 by omega), beq_no (show ¬ (10 : Int) = 7 by omega), beq_no (show ¬ (10 : Int) = 8 by omega), beq_no (show ¬ (10 : Int) = 9 by omega), Bool.false_eq_true, if_false, beq_self_eq_true, if_true]
  have hd : doW (((a : Int), es, v), p, q, m, t, u) (10, A, B, y) = outW (A == 0 && B == 0) (((a : Int), es, v), p, q, setF (fun y => !hasL m (y : Int)) a 0, t, u) := rfl
  rw [hd]
  simp only [(marks_impl hg ho hm hr hmm t u () y A B).2.2, Option.bind_some]
  cases A == 0 && B == 0 with
  | false => rfl
  | true => exact impl_end _ es v p q _ t u ho (setF_ok ha) ht.1 ht.2
 ·have hd : doW (((a : Int), es, v), p, q, m, t, u) (k, A, B, y) = (W0, false, ()) := by
   unfold doW
   simp only [h1, h2, h3, h4, h5, h6, h7, h8, h9, h10, if_false]
  rw [hd]
  unfold F_impl_doWork
  simp only [hcl, Option.bind_some, beq_no h1, beq_no h2, beq_no h3, beq_no h4, beq_no h5, beq_no h6, beq_no h7, beq_no h8, beq_no h9, beq_no h10, Bool.false_eq_true, if_false]
  split <;> rfl
theorem l12Do_lim (d) (r) (h : G_do d = some r) : ∃ N, F_spec_l12Do N d = some r := by
 obtain ⟨w, x, z⟩ := d
 unfold G_do at h
 split at h
 ·rename_i hc
  exact ⟨0, (specDo hc x z).trans h⟩
 ·cases h
theorem doWork_lim (d) (r) (h : G_do d = some r) : ∃ N, F_impl_doWork N d = some r := by
 obtain ⟨w, x, z⟩ := d
 unfold G_do at h
 split at h
 ·rename_i hc
  exact ⟨0, (implDo hc x z).trans h⟩
 ·cases h
theorem do_some {w : Wk} (h : workB w = true) (x : Wo) (z : Unit) : G_do (w, x, z) = some (doW w x) := if_pos (okW_of h)
theorem outW_ok {b : Bool} {w : Wk} (h : (outW b w).2.1 = true) : workB (outW b w).1 = true ∧ (outW b w).1.2.2.2.2.1 = w.2.2.2.2.1 + 1 := by
 unfold outW at h ⊢
 split at h
 ·rename_i hc
  rw [if_pos hc]
  simp only [Bool.and_eq_true] at hc
  exact ⟨hc.2, rfl⟩
 ·cases h
theorem doW_ok {w : Wk} {x : Wo} (h : (doW w x).2.1 = true) : workB (doW w x).1 = true ∧ (doW w x).1.2.2.2.2.1 = w.2.2.2.2.1 + 1 := by
 revert h
 unfold doW
 split
 ·exact outW_ok
 split
 ·exact outW_ok
 split
 ·exact outW_ok
 split
 ·exact outW_ok
 split
 ·exact outW_ok
 split
 ·exact outW_ok
 split
 ·exact outW_ok
 split
 ·exact outW_ok
 split
 ·exact outW_ok
 split
 ·exact outW_ok
 ·intro h; cases h
theorem spec_works (N : Nat) (w0 : Wk) (l : List Wo) (hl : l.length ≤ lim) : ∀ k i f (w : Wk), i + k = l.length → k < f → workB w = true →
  ∃ o, spec_DoWorks_l0 N f (l, w0, w, (i : Int), ()) = some o ∧ (o = .inl (worksL (l.drop i) i w) ∨ ∃ w', o = .inr (.inl (l, w0, w', ())) ∧ worksL (l.drop i) i w = (w', (l.length : Int), true, ())) := by
 intro k
 induction k with
 | zero =>
  intro i f w e1 e2 hw
  obtain ⟨f, rfl⟩ : ∃ m, f = m + 1 := ⟨f - 1, by omega⟩
  have e : i = l.length := by omega
  subst e
  rw [List.drop_of_length_le (Nat.le_refl _)]
  show ∃ o, spec_DoWorks_l0_r N (spec_DoWorks_l0 N f) _ = some o ∧ _
  unfold spec_DoWorks_l0_r
  simp only [lt_not, Bool.false_eq_true, if_false]
  exact ⟨_, rfl, .inr ⟨w, rfl, rfl⟩⟩
 | succ k ih =>
  intro i f w e1 e2 hw
  obtain ⟨f, rfl⟩ : ∃ m, f = m + 1 := ⟨f - 1, by omega⟩
  have hi : i < l.length := by omega
  have e : at_ K_Piiiq l i = l[i] := at_get (e := K_Piiiq) hi
  show ∃ o, spec_DoWorks_l0_r N (spec_DoWorks_l0 N f) _ = some o ∧ _
  unfold spec_DoWorks_l0_r
  rw [List.drop_eq_getElem_cons hi]
  simp only [lt_dec hi, if_true, idxIn_nat hi, Int.toNat_natCast, e, do_some hw, Option.bind_some, wrap_up hi (lim_max hl), worksL]
  by_cases hd : (doW w l[i]).2.1 = true
  ·simp only [hd, Bool.not_true, Bool.false_eq_true, if_false, if_true]
   exact ih (i + 1) f _ (by omega) (by omega) (doW_ok hd).1
  ·have hd' := (Bool.not_eq_true _).mp hd
   simp only [hd', Bool.not_false, if_true, Bool.false_eq_true, if_false]
   exact ⟨_, rfl, .inl rfl⟩
theorem impl_works (N : Nat) (w0 : Wk) (l : List Wo) (hl : l.length ≤ lim) : ∀ k i f (w : Wk), i + k = l.length → k < f → workB w = true →
  ∃ o, impl_DoWorks_l0 N f (l, w0, w, l, (l.length : Int), (i : Int), ()) = some o ∧ (o = .inl (worksL (l.drop i) i w) ∨ ∃ w', o = .inr (.inl (l, w0, w', ())) ∧ worksL (l.drop i) i w = (w', (l.length : Int), true, ())) := by
 intro k
 induction k with
 | zero =>
  intro i f w e1 e2 hw
  obtain ⟨f, rfl⟩ : ∃ m, f = m + 1 := ⟨f - 1, by omega⟩
  have e : i = l.length := by omega
  subst e
  rw [List.drop_of_length_le (Nat.le_refl _)]
  show ∃ o, impl_DoWorks_l0_r N (impl_DoWorks_l0 N f) _ = some o ∧ _
  unfold impl_DoWorks_l0_r
  simp only [lt_not, Bool.false_eq_true, if_false]
  exact ⟨_, rfl, .inr ⟨w, rfl, rfl⟩⟩
 | succ k ih =>
  intro i f w e1 e2 hw
  obtain ⟨f, rfl⟩ : ∃ m, f = m + 1 := ⟨f - 1, by omega⟩
  have hi : i < l.length := by omega
  have e : at_ K_Piiiq l i = l[i] := at_get (e := K_Piiiq) hi
  show ∃ o, impl_DoWorks_l0_r N (impl_DoWorks_l0 N f) _ = some o ∧ _
  unfold impl_DoWorks_l0_r
  rw [List.drop_eq_getElem_cons hi]
  simp only [lt_dec hi, if_true, idxIn_nat hi, Int.toNat_natCast, e, do_some hw, Option.bind_some, wrap_up hi (lim_max hl), worksL]
  by_cases hd : (doW w l[i]).2.1 = true
  ·simp only [hd, Bool.not_true, Bool.false_eq_true, if_false, if_true]
   exact ih (i + 1) f _ (by omega) (by omega) (doW_ok hd).1
  ·have hd' := (Bool.not_eq_true _).mp hd
   simp only [hd', Bool.not_false, if_true, Bool.false_eq_true, if_false]
   exact ⟨_, rfl, .inl rfl⟩
theorem works_end (o : (Wk × Int × Bool × Unit) ⊕ (List Wo × Wk × Wk × Unit) ⊕ Empty) (l : List Wo) (w0 w : Wk) : (o = .inl (worksL l 0 w) ∨ ∃ w', o = .inr (.inl (l, w0, w', ())) ∧ worksL l 0 w = (w', (l.length : Int), true, ())) →
  (match o with
   | .inl d => some (d.1, d.2.1, d.2.2.1, ())
   | .inr (.inl d) => some (d.2.2.1, (List.length d.1 : Int), true, ())) = some (worksL l 0 w) := by
 intro h
 rcases h with rfl | ⟨w', rfl, h⟩
 ·rfl
 ·rw [h]
theorem specDW_lim (d) (r) (h : G_DoWorks d = some r) : ∃ N, F_spec_DoWorks N d = some r := by
 obtain ⟨⟨⟨n, es, v⟩, p, q, m, t, u⟩, l, z⟩ := d
 unfold G_DoWorks at h
 split at h
 ·rename_i hc
  unfold okWs at hc
  simp only [Bool.and_eq_true, decide_eq_true_eq] at hc
  have h1 : okL es = true := okL_of hc.1.1
  have h2 : okL m = true := okL_of hc.1.2
  have h3 : okL l = true := okL_of hc.2
  have h := Option.some.inj h
  subst h
  refine ⟨l.length + 1, ?_⟩
  unfold F_spec_DoWorks worksB
  simp only [specGood n es v p q m t u () h1 h2, Option.bind_some]
  cases hw : workB ((n, es, v), p, q, m, t, u) with
  | false => rfl
  | true =>
   obtain ⟨o, o1, o2⟩ := spec_works (l.length + 1) ((0, [], ()), 0, 0, [], 0, ()) l (okL_lim h3) l.length 0 (l.length + 1) ((n, es, v), p, q, m, t, u) (by omega) (by omega) hw
   simp only [Int.natCast_zero, List.drop_zero] at o1 o2
   simp only [Bool.not_true, Bool.false_eq_true, if_false, if_true, own_ws n es v p q m t u () h1 h2, Option.bind_some, o1]
   exact works_end o l _ _ o2
 ·cases h
theorem implDW_lim (d) (r) (h : G_DoWorks d = some r) : ∃ N, F_impl_DoWorks N d = some r := by
 obtain ⟨⟨⟨n, es, v⟩, p, q, m, t, u⟩, l, z⟩ := d
 unfold G_DoWorks at h
 split at h
 ·rename_i hc
  unfold okWs at hc
  simp only [Bool.and_eq_true, decide_eq_true_eq] at hc
  have h1 : okL es = true := okL_of hc.1.1
  have h2 : okL m = true := okL_of hc.1.2
  have h3 : okL l = true := okL_of hc.2
  have h := Option.some.inj h
  subst h
  refine ⟨l.length + 1, ?_⟩
  unfold F_impl_DoWorks worksB
  have hcl : G_cloneWs (((n, es, v), p, q, m, t, u), ()) = some (((n, es, v), p, q, m, t, u), ()) := by
   unfold G_cloneWs
   rw [if_pos (by show (okL es && okL m) = true; rw [h1, h2]; rfl)]
  simp only [implW n es v p q m t u () h1 h2, Option.bind_some]
  cases hw : workB ((n, es, v), p, q, m, t, u) with
  | false => rfl
  | true =>
   obtain ⟨o, o1, o2⟩ := impl_works (l.length + 1) ((0, [], ()), 0, 0, [], 0, ()) l (okL_lim h3) l.length 0 (l.length + 1) ((n, es, v), p, q, m, t, u) (by omega) (by omega) hw
   simp only [Int.natCast_zero, List.drop_zero] at o1 o2
   simp only [Bool.not_true, Bool.false_eq_true, if_false, if_true, hcl, Option.bind_some, o1]
   exact works_end o l _ _ o2
 ·cases h
end Go.V.W
set_option linter.unusedVariables false
set_option linter.unusedSimpArgs false
namespace Go.V.W
open Go.Proofs
theorem ws_any (w : Wk) (h1 : w.1.2.1.length ≤ 1048576) (h2 : w.2.2.2.1.length ≤ 1048576) : F_laws_eqWorkshop 0 (w, w, ()) = some (true, ()) ∧ ∃ k W, F_laws_markWorkshop 0 (w, 1, ()) = some (k, W, ()) ∧ F_laws_heldWorkshop 0 (W, 1, ()) = some (k, ()) ∧ 0 ≤ k := by
 obtain ⟨⟨n, l, v⟩, p, q, m, t, u⟩ := w
 have h1 : l.length ≤ 1048576 := h1
 have h2 : m.length ≤ 1048576 := h2
 have o1 := okL_of h1
 have o2 := okL_of h2
 refine ⟨eqWorkshop_self n l v p q m t u () o1 o2, _, _, markWorkshop_eq n l v p q m t u () 1 o1 o2 (by decide) (okK_small (by omega) (by omega)), heldWorkshop_marked n l v p q m t u () 1 o1 o2 (by decide) (okK_small (by omega) (by omega)), by omega⟩
def okR (w : Wk) : Prop := w.1.2.1.length ≤ 1048576 ∧ w.2.2.2.1.length ≤ 1048576
theorem okR_work {w : Wk} (h : workB w = true) : okR w := by
 have := okW_of h
 unfold okW at this
 simp only [Bool.and_eq_true, decide_eq_true_eq] at this
 exact ⟨by omega, by omega⟩
theorem okR_zero : okR W0 := ⟨Nat.zero_le _, Nat.zero_le _⟩
theorem worksL_res : ∀ (l : List Wo) (i : Nat) (w : Wk), workB w = true → okR (worksL l i w).1 := by
 intro l
 induction l with
 | nil => intro i w hw; exact okR_work hw
 | cons x l ih =>
  intro i w hw
  unfold worksL
  split
  ·rename_i h
   exact ih _ _ (doW_ok h).1
  ·exact okR_work hw
theorem worksB_res (w : Wk) (l : List Wo) : okR (worksB w l).1 := by
 unfold worksB
 split
 ·rename_i h
  exact worksL_res l 0 w h
 ·exact okR_zero
theorem law34 : ∀ d, WfD (Kd.tuple ([(K_PPiSPiiqqiiSiiq, false), (K_SPiiiq, false)].map (·.1))) d → ∃ out, F_laws_FnExactDoWorks 0 d = some out ∧ (splitT [.bool] [] out).1.1 = true := by
 rintro ⟨⟨⟨n, l, v⟩, p, q, m, t, u⟩, xs, w⟩ ⟨⟨⟨_, hl, _⟩, _, _, hm, _⟩, hx, _⟩
 have hl : l.length ≤ maxLen := hl.1
 have hm : m.length ≤ maxLen := hm.1
 have hx : xs.length ≤ maxLen := hx.1
 refine ⟨(true, ()), ?_, rfl⟩
 unfold F_laws_FnExactDoWorks
 rcases szWs n l v p q m t u hl hm with h | ⟨h1, h2, h3, h4⟩
 ·simp only [h, decide_true, if_true]
 ·generalize hL : (g_laws_szWorkshop (((n, l, v), p, q, m, t, u), (1048576 : Int), ())).1 = left at h3 h4
  have c0 : decide (left < 0) = false := decide_eq_false (by omega)
  have hsz : g_laws_szWorkS (xs, left, ()) = ((if left - (xs.length : Int) < 0 then -1 else left - (xs.length : Int)), ()) := by
   unfold g_laws_szWorkS
   have hw : IntKind.wrap .i64 (left - (xs.length : Int)) = left - (xs.length : Int) := by
    unfold maxLen at hx
    exact wrap_in _ (by omega) (by omega)
   simp only [hw]
   by_cases hh : left - (xs.length : Int) < 0 <;> simp [hh]
  simp only [hL, c0, Bool.false_eq_true, if_false, hsz]
  by_cases hh : left - (xs.length : Int) < 0
  ·simp only [hh, if_true]
   rfl
  ·have c1 : decide (left - (xs.length : Int) < 0) = false := decide_eq_false hh
   have h5 : xs.length ≤ 1048576 := by omega
   have o1 := okL_of h1
   have o2 := okL_of h2
   have o3 := okL_of h5
   obtain ⟨e1, k, W, e2, e3, e4⟩ := ws_any ((n, l, v), p, q, m, t, u) h1 h2
   obtain ⟨r1, r2⟩ := worksB_res ((n, l, v), p, q, m, t, u) xs
   obtain ⟨f1, k', W', f2, f3, f4⟩ := ws_any (worksB ((n, l, v), p, q, m, t, u) xs).1 r1 r2
   have d2 : decide (k' < 0) = false := decide_eq_false (by omega)
   have hF : ∀ z : Unit, G_DoWorks (((n, l, v), p, q, m, t, u), xs, z) = some (worksB ((n, l, v), p, q, m, t, u) xs) := fun z => by
    unfold G_DoWorks okWs
    rw [if_pos (by simp only [Bool.and_eq_true, decide_eq_true_eq]; exact ⟨⟨h1, h2⟩, h5⟩)]
   have hk : k = 1 + 2 * (l.length : Int) + (m.length : Int) := by
    have := markWorkshop_eq n l v p q m t u () 1 o1 o2 (by decide) (okK_small (by omega) (by omega))
    rw [this] at e2
    simp only [Option.some.injEq, Prod.mk.injEq] at e2
    exact e2.1.symm
   have g1 : ∀ z : Unit, G_toWorkS (xs, z) = some (xs, ()) := fun z => by unfold G_toWorkS; rw [if_pos o3]
   have g2 : G_eqWorkS (xs, xs, ()) = some (true, ()) := by unfold G_eqWorkS; rw [if_pos o3]; simp
   have g3 : G_markWorkS (xs, k, ()) = some (k + 3 * (xs.length : Int), markO k xs, ()) := by
    unfold G_markWorkS
    rw [if_pos (by
     show (okL xs && okK k) = true
     rw [o3, okK_small (by omega) (by omega)]; rfl)]
   have d3 : decide (k + 3 * (xs.length : Int) < 0) = false := decide_eq_false (by omega)
   simp only [hh, if_false, c1, toWorkshop_eq n l v p q m t u _ o1 o2, hF, g1, g2, e1, e2, g3, f1, f2, f3, d2, d3, Option.bind_some, beq_self_eq_true, bne_self_eq_false, Bool.not_true, Bool.false_eq_true]
   split <;> rfl
end Go.V.W
namespace Go.V.W
open Go.Proofs Go.Shelf Go.RowKit
-- import Derived.Shelf.Lays
-- import Derived.Shelf.LaysM
-- import Derived.Test.XvLib3
theorem tab : TabOk Tryz.prog (assoc tks) (assoc ars) := tab_of (by kernel_rfl)
theorem mixed : Tryz.prog.follows .mixedOrders = true := by kernel_rfl
theorem C_laws_szIntA2S_raw (N : Nat) : Contract Tryz.prog 74 ⟨[(K_SPiiq, false), (I, false)], [I], true, F_laws_szIntA2S N⟩ :=
 have E : Env Tryz.prog Γ_laws_szIntA2S := env_of tab trivial
 con_of (Pc := []) E rfl mixed Tryz.func74 (by kernel_rfl) (by kernel_rfl) (by kernel_rfl) (by kernel_rfl) (fun A hA => trivial) (F_laws_szIntA2S_ok N)
theorem C_laws_szIntA2S : Contract Tryz.prog 74 S_laws_szIntA2S := Contract.less (fun N : Nat => F_laws_szIntA2S N) C_laws_szIntA2S_raw (fun d r h => ⟨0, (F_laws_szIntA2S_tot 0 d).trans h⟩)
theorem C_laws_szGraph_raw (N : Nat) : Contract Tryz.prog 42 ⟨[(K_PiSPiiqq, false), (I, false)], [I], true, F_laws_szGraph N⟩ :=
 have E : Env Tryz.prog Γ_laws_szGraph := env_of tab ⟨C_laws_szIntA2S, trivial⟩
 con_of (Pc := []) E rfl mixed Tryz.func42 (by kernel_rfl) (by kernel_rfl) (by kernel_rfl) (by kernel_rfl) (fun A hA => trivial) (F_laws_szGraph_ok N)
theorem C_laws_szGraph : Contract Tryz.prog 42 S_laws_szGraph := Contract.less (fun N : Nat => F_laws_szGraph N) C_laws_szGraph_raw (fun d r h => ⟨0, (F_laws_szGraph_tot 0 d).trans h⟩)
theorem C_laws_szIntS_raw (N : Nat) : Contract Tryz.prog 43 ⟨[(K_Si, false), (I, false)], [I], true, F_laws_szIntS N⟩ :=
 have E : Env Tryz.prog Γ_laws_szIntS := env_of tab trivial
 con_of (Pc := []) E rfl mixed Tryz.func43 (by kernel_rfl) (by kernel_rfl) (by kernel_rfl) (by kernel_rfl) (fun A hA => trivial) (F_laws_szIntS_ok N)
theorem C_laws_szIntS : Contract Tryz.prog 43 S_laws_szIntS := Contract.less (fun N : Nat => F_laws_szIntS N) C_laws_szIntS_raw (fun d r h => ⟨0, (F_laws_szIntS_tot 0 d).trans h⟩)
theorem C_laws_szWorkshop_raw (N : Nat) : Contract Tryz.prog 8 ⟨[(K_PPiSPiiqqiiSiiq, false), (I, false)], [I], true, F_laws_szWorkshop N⟩ :=
 have E : Env Tryz.prog Γ_laws_szWorkshop := env_of tab ⟨C_laws_szGraph, ⟨C_laws_szIntS, trivial⟩⟩
 con_of (Pc := []) E rfl mixed Tryz.func8 (by kernel_rfl) (by kernel_rfl) (by kernel_rfl) (by kernel_rfl) (fun A hA => trivial) (F_laws_szWorkshop_ok N)
theorem C_laws_szWorkshop : Contract Tryz.prog 8 S_laws_szWorkshop := Contract.less (fun N : Nat => F_laws_szWorkshop N) C_laws_szWorkshop_raw (fun d r h => ⟨0, (F_laws_szWorkshop_tot 0 d).trans h⟩)
theorem C_laws_szWorkS_raw (N : Nat) : Contract Tryz.prog 38 ⟨[(K_SPiiiq, false), (I, false)], [I], true, F_laws_szWorkS N⟩ :=
 have E : Env Tryz.prog Γ_laws_szWorkS := env_of tab trivial
 con_of (Pc := []) E rfl mixed Tryz.func38 (by kernel_rfl) (by kernel_rfl) (by kernel_rfl) (by kernel_rfl) (fun A hA => trivial) (F_laws_szWorkS_ok N)
theorem C_laws_szWorkS : Contract Tryz.prog 38 S_laws_szWorkS := Contract.less (fun N : Nat => F_laws_szWorkS N) C_laws_szWorkS_raw (fun d r h => ⟨0, (F_laws_szWorkS_tot 0 d).trans h⟩)
theorem C_laws_toIntA2_raw (N : Nat) : Contract Tryz.prog 125 ⟨[(K_Piiq, false)], [K_Piiq], true, F_laws_toIntA2 N⟩ :=
 have E : Env Tryz.prog Γ_laws_toIntA2 := env_of tab trivial
 con_of (Pc := [(0, ⟨laws_toIntA2_l0_h, laws_toIntA2_l0_o, laws_toIntA2_l0 N N⟩)]) E rfl mixed Tryz.func125 (by kernel_rfl) (by kernel_rfl) (by kernel_rfl) (by kernel_rfl) (fun A hA => ⟨pc_of (inner := []) E mixed hA (by kernel_rfl) (by kernel_rfl) (by kernel_rfl) trivial (fun _ => rfl) (fun m d => (laws_toIntA2_l0_ok N (laws_toIntA2_l0 N m) d).symm) N, trivial⟩) (F_laws_toIntA2_ok N)
theorem C_laws_toIntA2 : Contract Tryz.prog 125 S_laws_toIntA2 := Contract.less (fun N : Nat => F_laws_toIntA2 N) C_laws_toIntA2_raw toIntA2_lim
theorem C_laws_toIntA2S_raw (N : Nat) : Contract Tryz.prog 81 ⟨[(K_SPiiq, false)], [K_SPiiq], true, F_laws_toIntA2S N⟩ :=
 have E : Env Tryz.prog Γ_laws_toIntA2S := env_of tab ⟨C_laws_toIntA2, trivial⟩
 con_of (Pc := [(0, ⟨laws_toIntA2S_l0_h, laws_toIntA2S_l0_o, laws_toIntA2S_l0 N N⟩)]) E rfl mixed Tryz.func81 (by kernel_rfl) (by kernel_rfl) (by kernel_rfl) (by kernel_rfl) (fun A hA => ⟨pc_of (inner := []) E mixed hA (by kernel_rfl) (by kernel_rfl) (by kernel_rfl) trivial (fun _ => rfl) (fun m d => (laws_toIntA2S_l0_ok N (laws_toIntA2S_l0 N m) d).symm) N, trivial⟩) (F_laws_toIntA2S_ok N)
theorem C_laws_toIntA2S : Contract Tryz.prog 81 S_laws_toIntA2S := Contract.less (fun N : Nat => F_laws_toIntA2S N) C_laws_toIntA2S_raw toIntA2S_lim
theorem C_laws_toGraph_raw (N : Nat) : Contract Tryz.prog 46 ⟨[(K_PiSPiiqq, false)], [K_PiSPiiqq], true, F_laws_toGraph N⟩ :=
 have E : Env Tryz.prog Γ_laws_toGraph := env_of tab ⟨C_laws_toIntA2S, trivial⟩
 con_of (Pc := []) E rfl mixed Tryz.func46 (by kernel_rfl) (by kernel_rfl) (by kernel_rfl) (by kernel_rfl) (fun A hA => trivial) (F_laws_toGraph_ok N)
theorem C_laws_toGraph : Contract Tryz.prog 46 S_laws_toGraph := C_laws_toGraph_raw 0
theorem C_laws_toIntS_raw (N : Nat) : Contract Tryz.prog 47 ⟨[(K_Si, false)], [K_Si], true, F_laws_toIntS N⟩ :=
 have E : Env Tryz.prog Γ_laws_toIntS := env_of tab trivial
 con_of (Pc := [(0, ⟨laws_toIntS_l0_h, laws_toIntS_l0_o, laws_toIntS_l0 N N⟩)]) E rfl mixed Tryz.func47 (by kernel_rfl) (by kernel_rfl) (by kernel_rfl) (by kernel_rfl) (fun A hA => ⟨pc_of (inner := []) E mixed hA (by kernel_rfl) (by kernel_rfl) (by kernel_rfl) trivial (fun _ => rfl) (fun m d => (laws_toIntS_l0_ok N (laws_toIntS_l0 N m) d).symm) N, trivial⟩) (F_laws_toIntS_ok N)
theorem C_laws_toIntS : Contract Tryz.prog 47 S_laws_toIntS := Contract.less (fun N : Nat => F_laws_toIntS N) C_laws_toIntS_raw toIntS_lim
theorem C_laws_toWorkshop_raw (N : Nat) : Contract Tryz.prog 10 ⟨[(K_PPiSPiiqqiiSiiq, false)], [K_PPiSPiiqqiiSiiq], true, F_laws_toWorkshop N⟩ :=
 have E : Env Tryz.prog Γ_laws_toWorkshop := env_of tab ⟨C_laws_toGraph, ⟨C_laws_toIntS, trivial⟩⟩
 con_of (Pc := []) E rfl mixed Tryz.func10 (by kernel_rfl) (by kernel_rfl) (by kernel_rfl) (by kernel_rfl) (fun A hA => trivial) (F_laws_toWorkshop_ok N)
theorem C_laws_toWorkshop : Contract Tryz.prog 10 S_laws_toWorkshop := C_laws_toWorkshop_raw 0
theorem C_laws_toWork_raw (N : Nat) : Contract Tryz.prog 11 ⟨[(K_Piiiq, false)], [K_Piiiq], true, F_laws_toWork N⟩ :=
 have E : Env Tryz.prog Γ_laws_toWork := env_of tab trivial
 con_of (Pc := []) E rfl mixed Tryz.func11 (by kernel_rfl) (by kernel_rfl) (by kernel_rfl) (by kernel_rfl) (fun A hA => trivial) (F_laws_toWork_ok N)
theorem C_laws_toWork : Contract Tryz.prog 11 S_laws_toWork := Contract.less (fun N : Nat => F_laws_toWork N) C_laws_toWork_raw (fun d r h => ⟨0, (F_laws_toWork_tot 0 d).trans h⟩)
theorem C_laws_toWorkS_raw (N : Nat) : Contract Tryz.prog 39 ⟨[(K_SPiiiq, false)], [K_SPiiiq], true, F_laws_toWorkS N⟩ :=
 have E : Env Tryz.prog Γ_laws_toWorkS := env_of tab ⟨C_laws_toWork, trivial⟩
 con_of (Pc := [(0, ⟨laws_toWorkS_l0_h, laws_toWorkS_l0_o, laws_toWorkS_l0 N N⟩)]) E rfl mixed Tryz.func39 (by kernel_rfl) (by kernel_rfl) (by kernel_rfl) (by kernel_rfl) (fun A hA => ⟨pc_of (inner := []) E mixed hA (by kernel_rfl) (by kernel_rfl) (by kernel_rfl) trivial (fun _ => rfl) (fun m d => (laws_toWorkS_l0_ok N (laws_toWorkS_l0 N m) d).symm) N, trivial⟩) (F_laws_toWorkS_ok N)
theorem C_laws_toWorkS : Contract Tryz.prog 39 S_laws_toWorkS := Contract.less (fun N : Nat => F_laws_toWorkS N) C_laws_toWorkS_raw toWorkS_lim
theorem C_spec_l1In_raw (N : Nat) : Contract Tryz.prog 78 ⟨[(I, false), (I, false), (I, false)], [.bool], true, F_spec_l1In N⟩ :=
 have E : Env Tryz.prog Γ_spec_l1In := env_of tab trivial
 con_of (Pc := []) E rfl mixed Tryz.func78 (by kernel_rfl) (by kernel_rfl) (by kernel_rfl) (by kernel_rfl) (fun A hA => trivial) (F_spec_l1In_ok N)
theorem C_spec_l1In : Contract Tryz.prog 78 S_spec_l1In := Contract.less (fun N : Nat => F_spec_l1In N) C_spec_l1In_raw (fun d r h => ⟨0, (F_spec_l1In_tot 0 d).trans h⟩)
theorem C_spec_l2Before_raw (N : Nat) : Contract Tryz.prog 111 ⟨[(K_Piiq, false), (K_Piiq, false)], [.bool], true, F_spec_l2Before N⟩ :=
 have E : Env Tryz.prog Γ_spec_l2Before := env_of tab trivial
 con_of (Pc := []) E rfl mixed Tryz.func111 (by kernel_rfl) (by kernel_rfl) (by kernel_rfl) (by kernel_rfl) (fun A hA => trivial) (F_spec_l2Before_ok N)
theorem C_spec_l2Before : Contract Tryz.prog 111 S_spec_l2Before := Contract.less (fun N : Nat => F_spec_l2Before N) C_spec_l2Before_raw (fun d r h => ⟨0, (F_spec_l2Before_tot 0 d).trans h⟩)
theorem C_spec_l2Good_raw (N : Nat) : Contract Tryz.prog 75 ⟨[(K_PiSPiiqq, false)], [.bool], true, F_spec_l2Good N⟩ :=
 have E : Env Tryz.prog Γ_spec_l2Good := env_of tab ⟨C_spec_l1In, ⟨C_spec_l2Before, trivial⟩⟩
 con_of (Pc := [(0, ⟨spec_l2Good_l0_h, spec_l2Good_l0_o, spec_l2Good_l0 N N⟩)]) E rfl mixed Tryz.func75 (by kernel_rfl) (by kernel_rfl) (by kernel_rfl) (by kernel_rfl) (fun A hA => ⟨pc_of (inner := []) E mixed hA (by kernel_rfl) (by kernel_rfl) (by kernel_rfl) trivial (fun _ => rfl) (fun m d => (spec_l2Good_l0_ok N (spec_l2Good_l0 N m) d).symm) N, trivial⟩) (F_spec_l2Good_ok N)
theorem C_spec_l2Good : Contract Tryz.prog 75 S_spec_l2Good := Contract.less (fun N : Nat => F_spec_l2Good N) C_spec_l2Good_raw l2Good_lim
theorem C_spec_l12Spot_raw (N : Nat) : Contract Tryz.prog 76 ⟨[(K_PiSPiiqq, false), (I, false)], [.bool], true, F_spec_l12Spot N⟩ :=
 have E : Env Tryz.prog Γ_spec_l12Spot := env_of tab ⟨C_spec_l1In, trivial⟩
 con_of (Pc := []) E rfl mixed Tryz.func76 (by kernel_rfl) (by kernel_rfl) (by kernel_rfl) (by kernel_rfl) (fun A hA => trivial) (F_spec_l12Spot_ok N)
theorem C_spec_l12Spot : Contract Tryz.prog 76 S_spec_l12Spot := Contract.less (fun N : Nat => F_spec_l12Spot N) C_spec_l12Spot_raw (fun d r h => ⟨0, (F_spec_l12Spot_tot 0 d).trans h⟩)
theorem C_spec_l1Rising_raw (N : Nat) : Contract Tryz.prog 112 ⟨[(K_Si, false), (I, false), (I, false)], [.bool], true, F_spec_l1Rising N⟩ :=
 have E : Env Tryz.prog Γ_spec_l1Rising := env_of tab ⟨C_spec_l1In, trivial⟩
 con_of (Pc := [(0, ⟨spec_l1Rising_l0_h, spec_l1Rising_l0_o, spec_l1Rising_l0 N N⟩)]) E rfl mixed Tryz.func112 (by kernel_rfl) (by kernel_rfl) (by kernel_rfl) (by kernel_rfl) (fun A hA => ⟨pc_of (inner := []) E mixed hA (by kernel_rfl) (by kernel_rfl) (by kernel_rfl) trivial (fun _ => rfl) (fun m d => (spec_l1Rising_l0_ok N (spec_l1Rising_l0 N m) d).symm) N, trivial⟩) (F_spec_l1Rising_ok N)
theorem C_spec_l1Rising : Contract Tryz.prog 112 S_spec_l1Rising := Contract.less (fun N : Nat => F_spec_l1Rising N) C_spec_l1Rising_raw l1Rising_lim
theorem C_spec_l2Set_raw (N : Nat) : Contract Tryz.prog 77 ⟨[(K_PiSPiiqq, false), (K_Si, false)], [.bool], true, F_spec_l2Set N⟩ :=
 have E : Env Tryz.prog Γ_spec_l2Set := env_of tab ⟨C_spec_l1Rising, trivial⟩
 con_of (Pc := []) E rfl mixed Tryz.func77 (by kernel_rfl) (by kernel_rfl) (by kernel_rfl) (by kernel_rfl) (fun A hA => trivial) (F_spec_l2Set_ok N)
theorem C_spec_l2Set : Contract Tryz.prog 77 S_spec_l2Set := C_spec_l2Set_raw 0
theorem C_spec_l12Good_raw (N : Nat) : Contract Tryz.prog 44 ⟨[(K_PPiSPiiqqiiSiiq, false)], [.bool], true, F_spec_l12Good N⟩ :=
 have E : Env Tryz.prog Γ_spec_l12Good := env_of tab ⟨C_spec_l2Good, ⟨C_spec_l12Spot, ⟨C_spec_l2Set, ⟨C_spec_l1In, trivial⟩⟩⟩⟩
 con_of (Pc := []) E rfl mixed Tryz.func44 (by kernel_rfl) (by kernel_rfl) (by kernel_rfl) (by kernel_rfl) (fun A hA => trivial) (F_spec_l12Good_ok N)
theorem C_spec_l12Good : Contract Tryz.prog 44 S_spec_l12Good := C_spec_l12Good_raw 0
theorem C_spec_l1Own_raw (N : Nat) : Contract Tryz.prog 91 ⟨[(K_Si, false)], [K_Si], true, F_spec_l1Own N⟩ :=
 have E : Env Tryz.prog Γ_spec_l1Own := env_of tab trivial
 con_of (Pc := []) E rfl mixed Tryz.func91 (by kernel_rfl) (by kernel_rfl) (by kernel_rfl) (by kernel_rfl) (fun A hA => trivial) (F_spec_l1Own_ok N)
theorem C_spec_l1Own : Contract Tryz.prog 91 S_spec_l1Own := C_spec_l1Own_raw 0
theorem C_spec_l12Own_raw (N : Nat) : Contract Tryz.prog 55 ⟨[(K_PPiSPiiqqiiSiiq, false)], [K_PPiSPiiqqiiSiiq], true, F_spec_l12Own N⟩ :=
 have E : Env Tryz.prog Γ_spec_l12Own := env_of tab ⟨C_spec_l1Own, trivial⟩
 con_of (Pc := []) E rfl mixed Tryz.func55 (by kernel_rfl) (by kernel_rfl) (by kernel_rfl) (by kernel_rfl) (fun A hA => trivial) (F_spec_l12Own_ok N)
theorem C_spec_l12Own : Contract Tryz.prog 55 S_spec_l12Own := C_spec_l12Own_raw 0
theorem C_spec_l2Node_raw (N : Nat) : Contract Tryz.prog 113 ⟨[(K_PiSPiiqq, false), (I, false)], [.bool], true, F_spec_l2Node N⟩ :=
 have E : Env Tryz.prog Γ_spec_l2Node := env_of tab ⟨C_spec_l1In, trivial⟩
 con_of (Pc := []) E rfl mixed Tryz.func113 (by kernel_rfl) (by kernel_rfl) (by kernel_rfl) (by kernel_rfl) (fun A hA => trivial) (F_spec_l2Node_ok N)
theorem C_spec_l2Node : Contract Tryz.prog 113 S_spec_l2Node := Contract.less (fun N : Nat => F_spec_l2Node N) C_spec_l2Node_raw (fun d r h => ⟨0, (F_spec_l2Node_tot 0 d).trans h⟩)
theorem C_spec_l3Two_raw (N : Nat) : Contract Tryz.prog 114 ⟨[(K_PiSPiiqq, false), (I, false), (I, false)], [.bool], true, F_spec_l3Two N⟩ :=
 have E : Env Tryz.prog Γ_spec_l3Two := env_of tab ⟨C_spec_l2Good, ⟨C_spec_l2Node, trivial⟩⟩
 con_of (Pc := []) E rfl mixed Tryz.func114 (by kernel_rfl) (by kernel_rfl) (by kernel_rfl) (by kernel_rfl) (fun A hA => trivial) (F_spec_l3Two_ok N)
theorem C_spec_l3Two : Contract Tryz.prog 114 S_spec_l3Two := C_spec_l3Two_raw 0
theorem C_spec_l12Chase_raw (N : Nat) : Contract Tryz.prog 116 ⟨[(K_PPiSPiiqqiiSiiq, false)], [.bool], true, F_spec_l12Chase N⟩ :=
 have E : Env Tryz.prog Γ_spec_l12Chase := env_of tab trivial
 con_of (Pc := []) E rfl mixed Tryz.func116 (by kernel_rfl) (by kernel_rfl) (by kernel_rfl) (by kernel_rfl) (fun A hA => trivial) (F_spec_l12Chase_ok N)
theorem C_spec_l12Chase : Contract Tryz.prog 116 S_spec_l12Chase := Contract.less (fun N : Nat => F_spec_l12Chase N) C_spec_l12Chase_raw (fun d r h => ⟨0, (F_spec_l12Chase_tot 0 d).trans h⟩)
theorem C_spec_l2Near_raw (N : Nat) : Contract Tryz.prog 156 ⟨[(K_PiSPiiqq, false), (I, false), (I, false)], [.bool], true, F_spec_l2Near N⟩ :=
 have E : Env Tryz.prog Γ_spec_l2Near := env_of tab trivial
 con_of (Pc := [(0, ⟨spec_l2Near_l0_h, spec_l2Near_l0_o, spec_l2Near_l0 N N⟩)]) E rfl mixed Tryz.func156 (by kernel_rfl) (by kernel_rfl) (by kernel_rfl) (by kernel_rfl) (fun A hA => ⟨pc_of (inner := []) E mixed hA (by kernel_rfl) (by kernel_rfl) (by kernel_rfl) trivial (fun _ => rfl) (fun m d => (spec_l2Near_l0_ok N (spec_l2Near_l0 N m) d).symm) N, trivial⟩) (F_spec_l2Near_ok N)
theorem C_spec_l2Near : Contract Tryz.prog 156 S_spec_l2Near := Contract.less (fun N : Nat => F_spec_l2Near N) C_spec_l2Near_raw l2Near_lim
theorem C_spec_l2Neighbors_raw (N : Nat) : Contract Tryz.prog 152 ⟨[(K_PiSPiiqq, false), (I, false)], [K_Si], true, F_spec_l2Neighbors N⟩ :=
 have E : Env Tryz.prog Γ_spec_l2Neighbors := env_of tab ⟨C_spec_l2Near, trivial⟩
 con_of (Pc := [(0, ⟨spec_l2Neighbors_l0_h, spec_l2Neighbors_l0_o, spec_l2Neighbors_l0 N N⟩)]) E rfl mixed Tryz.func152 (by kernel_rfl) (by kernel_rfl) (by kernel_rfl) (by kernel_rfl) (fun A hA => ⟨pc_of (inner := []) E mixed hA (by kernel_rfl) (by kernel_rfl) (by kernel_rfl) trivial (fun _ => rfl) (fun m d => (spec_l2Neighbors_l0_ok N (spec_l2Neighbors_l0 N m) d).symm) N, trivial⟩) (F_spec_l2Neighbors_ok N)
theorem C_spec_l2Neighbors : Contract Tryz.prog 152 S_spec_l2Neighbors := Contract.less (fun N : Nat => F_spec_l2Neighbors N) C_spec_l2Neighbors_raw l2Neighbors_lim
theorem C_spec_l1Put_raw (N : Nat) : Contract Tryz.prog 122 ⟨[(K_Si, false), (I, false)], [K_Si], false, F_spec_l1Put N⟩ :=
 have E : Env Tryz.prog Γ_spec_l1Put := env_of tab trivial
 con_of (Pc := [(0, ⟨spec_l1Put_l0_h, spec_l1Put_l0_o, spec_l1Put_l0 N N⟩)]) E rfl mixed Tryz.func122 (by kernel_rfl) (by kernel_rfl) (by kernel_rfl) (by kernel_rfl) (fun A hA => ⟨pc_of (inner := []) E mixed hA (by kernel_rfl) (by kernel_rfl) (by kernel_rfl) trivial (fun _ => rfl) (fun m d => (spec_l1Put_l0_ok N (spec_l1Put_l0 N m) d).symm) N, trivial⟩) (F_spec_l1Put_ok N)
theorem C_spec_l1Put : Contract Tryz.prog 122 S_spec_l1Put := Contract.less (fun N : Nat => F_spec_l1Put N) C_spec_l1Put_raw l1Put_lim
theorem C_spec_l2Ball_raw (N : Nat) : Contract Tryz.prog 133 ⟨[(K_PiSPiiqq, false), (I, false)], [K_Si], false, F_spec_l2Ball N⟩ :=
 have E : Env Tryz.prog Γ_spec_l2Ball := env_of tab ⟨C_spec_l1Put, ⟨C_spec_l2Neighbors, trivial⟩⟩
 con_of (Pc := []) E rfl mixed Tryz.func133 (by kernel_rfl) (by kernel_rfl) (by kernel_rfl) (by kernel_rfl) (fun A hA => trivial) (F_spec_l2Ball_ok N)
theorem C_spec_l2Ball : Contract Tryz.prog 133 S_spec_l2Ball := C_spec_l2Ball_raw 0
theorem C_spec_l1Has_raw (N : Nat) : Contract Tryz.prog 120 ⟨[(K_Si, false), (I, false)], [.bool], true, F_spec_l1Has N⟩ :=
 have E : Env Tryz.prog Γ_spec_l1Has := env_of tab trivial
 con_of (Pc := [(0, ⟨spec_l1Has_l0_h, spec_l1Has_l0_o, spec_l1Has_l0 N N⟩)]) E rfl mixed Tryz.func120 (by kernel_rfl) (by kernel_rfl) (by kernel_rfl) (by kernel_rfl) (fun A hA => ⟨pc_of (inner := []) E mixed hA (by kernel_rfl) (by kernel_rfl) (by kernel_rfl) trivial (fun _ => rfl) (fun m d => (spec_l1Has_l0_ok N (spec_l1Has_l0 N m) d).symm) N, trivial⟩) (F_spec_l1Has_ok N)
theorem C_spec_l1Has : Contract Tryz.prog 120 S_spec_l1Has := Contract.less (fun N : Nat => F_spec_l1Has N) C_spec_l1Has_raw l1Has_lim
theorem C_spec_l12Moves_raw (N : Nat) : Contract Tryz.prog 115 ⟨[(K_PPiSPiiqqiiSiiq, false), (I, false), (I, false)], [.bool], true, F_spec_l12Moves N⟩ :=
 have E : Env Tryz.prog Γ_spec_l12Moves := env_of tab ⟨C_spec_l12Chase, ⟨C_spec_l1Has, ⟨C_spec_l2Ball, trivial⟩⟩⟩
 con_of (Pc := []) E rfl mixed Tryz.func115 (by kernel_rfl) (by kernel_rfl) (by kernel_rfl) (by kernel_rfl) (fun A hA => trivial) (F_spec_l12Moves_ok N)
theorem C_spec_l12Moves : Contract Tryz.prog 115 S_spec_l12Moves := C_spec_l12Moves_raw 0
theorem C_spec_l12May_raw (N : Nat) : Contract Tryz.prog 79 ⟨[(K_PPiSPiiqqiiSiiq, false), (K_Piiiq, false)], [.bool], true, F_spec_l12May N⟩ :=
 have E : Env Tryz.prog Γ_spec_l12May := env_of tab ⟨C_spec_l12Spot, ⟨C_spec_l2Node, ⟨C_spec_l3Two, ⟨C_spec_l12Moves, ⟨C_spec_l12Chase, trivial⟩⟩⟩⟩⟩
 con_of (Pc := []) E rfl mixed Tryz.func79 (by kernel_rfl) (by kernel_rfl) (by kernel_rfl) (by kernel_rfl) (fun A hA => trivial) (F_spec_l12May_ok N)
theorem C_spec_l12May : Contract Tryz.prog 79 S_spec_l12May := C_spec_l12May_raw 0
theorem C_spec_l2Bits_raw (N : Nat) : Contract Tryz.prog 97 ⟨[(I, false), (I, false)], [K_Si], true, F_spec_l2Bits N⟩ :=
 have E : Env Tryz.prog Γ_spec_l2Bits := env_of tab trivial
 con_of (Pc := [(0, ⟨spec_l2Bits_l0_h, spec_l2Bits_l0_o, spec_l2Bits_l0 N N⟩)]) E rfl mixed Tryz.func97 (by kernel_rfl) (by kernel_rfl) (by kernel_rfl) (by kernel_rfl) (fun A hA => ⟨pc_of (inner := []) E mixed hA (by kernel_rfl) (by kernel_rfl) (by kernel_rfl) trivial (fun _ => rfl) (fun m d => (spec_l2Bits_l0_ok N (spec_l2Bits_l0 N m) d).symm) N, trivial⟩) (F_spec_l2Bits_ok N)
theorem C_spec_l2Bits : Contract Tryz.prog 97 S_spec_l2Bits := Contract.less (fun N : Nat => F_spec_l2Bits N) C_spec_l2Bits_raw l2Bits_lim
theorem C_spec_l2All_raw (N : Nat) : Contract Tryz.prog 144 ⟨[(K_PiSPiiqq, false)], [K_Si], true, F_spec_l2All N⟩ :=
 have E : Env Tryz.prog Γ_spec_l2All := env_of tab ⟨C_spec_l2Bits, trivial⟩
 con_of (Pc := []) E rfl mixed Tryz.func144 (by kernel_rfl) (by kernel_rfl) (by kernel_rfl) (by kernel_rfl) (fun A hA => trivial) (F_spec_l2All_ok N)
theorem C_spec_l2All : Contract Tryz.prog 144 S_spec_l2All := C_spec_l2All_raw 0
theorem C_spec_l2Without_raw (N : Nat) : Contract Tryz.prog 121 ⟨[(K_Si, false), (I, false)], [K_Si], true, F_spec_l2Without N⟩ :=
 have E : Env Tryz.prog Γ_spec_l2Without := env_of tab trivial
 con_of (Pc := [(0, ⟨spec_l2Without_l0_h, spec_l2Without_l0_o, spec_l2Without_l0 N N⟩)]) E rfl mixed Tryz.func121 (by kernel_rfl) (by kernel_rfl) (by kernel_rfl) (by kernel_rfl) (fun A hA => ⟨pc_of (inner := []) E mixed hA (by kernel_rfl) (by kernel_rfl) (by kernel_rfl) trivial (fun _ => rfl) (fun m d => (spec_l2Without_l0_ok N (spec_l2Without_l0 N m) d).symm) N, trivial⟩) (F_spec_l2Without_ok N)
theorem C_spec_l2Without : Contract Tryz.prog 121 S_spec_l2Without := Contract.less (fun N : Nat => F_spec_l2Without N) C_spec_l2Without_raw l2Without_lim
theorem C_spec_l2Induced_raw (N : Nat) : Contract Tryz.prog 143 ⟨[(K_PiSPiiqq, false), (K_Si, false)], [K_PiSPiiqq], true, F_spec_l2Induced N⟩ :=
 have E : Env Tryz.prog Γ_spec_l2Induced := env_of tab ⟨C_spec_l2Near, trivial⟩
 con_of (Pc := [(0, ⟨spec_l2Induced_l0_h, spec_l2Induced_l0_o, spec_l2Induced_l0 N N⟩)]) E rfl mixed Tryz.func143 (by kernel_rfl) (by kernel_rfl) (by kernel_rfl) (by kernel_rfl) (fun A hA => ⟨pc_of (inner := [(2, ⟨spec_l2Induced_l2_h, spec_l2Induced_l2_o, spec_l2Induced_l2 N N⟩)]) E mixed hA (by kernel_rfl) (by kernel_rfl) (by kernel_rfl) ⟨pc_of (inner := []) E mixed hA (by kernel_rfl) (by kernel_rfl) (by kernel_rfl) trivial (fun _ => rfl) (fun m d => (spec_l2Induced_l2_ok N (spec_l2Induced_l2 N m) d).symm) N, trivial⟩ (fun _ => rfl) (fun m d => (spec_l2Induced_l0_ok N (spec_l2Induced_l0 N m) d).symm) N, trivial⟩) (F_spec_l2Induced_ok N)
theorem C_spec_l2Induced : Contract Tryz.prog 143 S_spec_l2Induced := Contract.less (fun N : Nat => F_spec_l2Induced N) C_spec_l2Induced_raw l2Induced_lim
theorem C_spec_l12Less_raw (N : Nat) : Contract Tryz.prog 145 ⟨[(I, false), (I, false)], [I], true, F_spec_l12Less N⟩ :=
 have E : Env Tryz.prog Γ_spec_l12Less := env_of tab trivial
 con_of (Pc := []) E rfl mixed Tryz.func145 (by kernel_rfl) (by kernel_rfl) (by kernel_rfl) (by kernel_rfl) (fun A hA => trivial) (F_spec_l12Less_ok N)
theorem C_spec_l12Less : Contract Tryz.prog 145 S_spec_l12Less := Contract.less (fun N : Nat => F_spec_l12Less N) C_spec_l12Less_raw (fun d r h => ⟨0, (F_spec_l12Less_tot 0 d).trans h⟩)
theorem C_spec_l12Drop_raw (N : Nat) : Contract Tryz.prog 117 ⟨[(K_PPiSPiiqqiiSiiq, false), (I, false)], [K_PPiSPiiqqiiSiiq], true, F_spec_l12Drop N⟩ :=
 have E : Env Tryz.prog Γ_spec_l12Drop := env_of tab ⟨C_spec_l12Own, ⟨C_spec_l2Without, ⟨C_spec_l2Induced, ⟨C_spec_l2All, ⟨C_spec_l12Less, trivial⟩⟩⟩⟩⟩
 con_of (Pc := [(0, ⟨spec_l12Drop_l0_h, spec_l12Drop_l0_o, spec_l12Drop_l0 N N⟩)]) E rfl mixed Tryz.func117 (by kernel_rfl) (by kernel_rfl) (by kernel_rfl) (by kernel_rfl) (fun A hA => ⟨pc_of (inner := []) E mixed hA (by kernel_rfl) (by kernel_rfl) (by kernel_rfl) trivial (fun _ => rfl) (fun m d => (spec_l12Drop_l0_ok N (spec_l12Drop_l0 N m) d).symm) N, trivial⟩) (F_spec_l12Drop_ok N)
theorem C_spec_l12Drop : Contract Tryz.prog 117 S_spec_l12Drop := Contract.less (fun N : Nat => F_spec_l12Drop N) C_spec_l12Drop_raw l12Drop_lim
theorem C_spec_l1Least_raw (N : Nat) : Contract Tryz.prog 100 ⟨[(I, false), (I, false)], [I], true, F_spec_l1Least N⟩ :=
 have E : Env Tryz.prog Γ_spec_l1Least := env_of tab trivial
 con_of (Pc := []) E rfl mixed Tryz.func100 (by kernel_rfl) (by kernel_rfl) (by kernel_rfl) (by kernel_rfl) (fun A hA => trivial) (F_spec_l1Least_ok N)
theorem C_spec_l1Least : Contract Tryz.prog 100 S_spec_l1Least := Contract.less (fun N : Nat => F_spec_l1Least N) C_spec_l1Least_raw (fun d r h => ⟨0, (F_spec_l1Least_tot 0 d).trans h⟩)
theorem C_spec_l1Most_raw (N : Nat) : Contract Tryz.prog 99 ⟨[(I, false), (I, false)], [I], true, F_spec_l1Most N⟩ :=
 have E : Env Tryz.prog Γ_spec_l1Most := env_of tab trivial
 con_of (Pc := []) E rfl mixed Tryz.func99 (by kernel_rfl) (by kernel_rfl) (by kernel_rfl) (by kernel_rfl) (fun A hA => trivial) (F_spec_l1Most_ok N)
theorem C_spec_l1Most : Contract Tryz.prog 99 S_spec_l1Most := Contract.less (fun N : Nat => F_spec_l1Most N) C_spec_l1Most_raw (fun d r h => ⟨0, (F_spec_l1Most_tot 0 d).trans h⟩)
theorem C_spec_l2Put_raw (N : Nat) : Contract Tryz.prog 134 ⟨[(K_SPiiq, false), (K_Piiq, false)], [K_SPiiq], true, F_spec_l2Put N⟩ :=
 have E : Env Tryz.prog Γ_spec_l2Put := env_of tab ⟨C_spec_l2Before, trivial⟩
 con_of (Pc := [(0, ⟨spec_l2Put_l0_h, spec_l2Put_l0_o, spec_l2Put_l0 N N⟩)]) E rfl mixed Tryz.func134 (by kernel_rfl) (by kernel_rfl) (by kernel_rfl) (by kernel_rfl) (fun A hA => ⟨pc_of (inner := []) E mixed hA (by kernel_rfl) (by kernel_rfl) (by kernel_rfl) trivial (fun _ => rfl) (fun m d => (spec_l2Put_l0_ok N (spec_l2Put_l0 N m) d).symm) N, trivial⟩) (F_spec_l2Put_ok N)
theorem C_spec_l2Put : Contract Tryz.prog 134 S_spec_l2Put := Contract.less (fun N : Nat => F_spec_l2Put N) C_spec_l2Put_raw l2Put_lim
theorem C_spec_ToggleEdge_raw (N : Nat) : Contract Tryz.prog 118 ⟨[(K_PiSPiiqq, false), (I, false), (I, false)], [K_PiSPiiqq, .bool], true, F_spec_ToggleEdge N⟩ :=
 have E : Env Tryz.prog Γ_spec_ToggleEdge := env_ofG tab ⟨C_spec_l2Good, ⟨C_spec_l1Most, ⟨C_spec_l1Least, ⟨C_spec_l2Node, ⟨C_spec_l2Put, trivial⟩⟩⟩⟩⟩ trivial (fun _ h => by cases h) trivial (by kernel_rfl)
 con_of (Pc := [(0, ⟨spec_ToggleEdge_l0_h, spec_ToggleEdge_l0_o, spec_ToggleEdge_l0 N N⟩)]) E rfl mixed Tryz.func118 (by kernel_rfl) (by kernel_rfl) (by kernel_rfl) (by kernel_rfl) (fun A hA => ⟨pc_of (inner := []) E mixed hA (by kernel_rfl) (by kernel_rfl) (by kernel_rfl) trivial (fun _ => rfl) (fun m d => (spec_ToggleEdge_l0_ok N (spec_ToggleEdge_l0 N m) d).symm) N, trivial⟩) (F_spec_ToggleEdge_ok N)
theorem C_spec_ToggleEdge : Contract Tryz.prog 118 S_spec_ToggleEdge := Contract.less (fun N : Nat => F_spec_ToggleEdge N) C_spec_ToggleEdge_raw ToggleEdge_lim
theorem C_spec_l3Sign_raw (N : Nat) : Contract Tryz.prog 141 ⟨[(.bool, false)], [I], true, F_spec_l3Sign N⟩ :=
 have E : Env Tryz.prog Γ_spec_l3Sign := env_of tab trivial
 con_of (Pc := []) E rfl mixed Tryz.func141 (by kernel_rfl) (by kernel_rfl) (by kernel_rfl) (by kernel_rfl) (fun A hA => trivial) (F_spec_l3Sign_ok N)
theorem C_spec_l3Sign : Contract Tryz.prog 141 S_spec_l3Sign := Contract.less (fun N : Nat => F_spec_l3Sign N) C_spec_l3Sign_raw (fun d r h => ⟨0, (F_spec_l3Sign_tot 0 d).trans h⟩)
theorem C_spec_l3Worst_raw (N : Nat) : Contract Tryz.prog 166 ⟨[(K_PiSPiiqq, false), (K_SSi, false), (I, false), (I, false)], [I], true, F_spec_l3Worst N⟩ :=
 have E : Env Tryz.prog Γ_spec_l3Worst := env_of tab ⟨C_spec_l1Most, ⟨C_spec_l2Ball, trivial⟩⟩
 con_of (Pc := [(0, ⟨spec_l3Worst_l0_h, spec_l3Worst_l0_o, spec_l3Worst_l0 N N⟩)]) E rfl mixed Tryz.func166 (by kernel_rfl) (by kernel_rfl) (by kernel_rfl) (by kernel_rfl) (fun A hA => ⟨pc_of (inner := []) E mixed hA (by kernel_rfl) (by kernel_rfl) (by kernel_rfl) trivial (fun _ => rfl) (fun m d => (spec_l3Worst_l0_ok N (spec_l3Worst_l0 N m) d).symm) N, trivial⟩) (F_spec_l3Worst_ok N)
theorem C_spec_l3Worst : Contract Tryz.prog 166 S_spec_l3Worst := Contract.less (fun N : Nat => F_spec_l3Worst N) C_spec_l3Worst_raw l3Worst_lim
theorem C_spec_l3After_raw (N : Nat) : Contract Tryz.prog 161 ⟨[(K_PiSPiiqq, false), (K_SSi, false), (I, false), (I, false)], [I], true, F_spec_l3After N⟩ :=
 have E : Env Tryz.prog Γ_spec_l3After := env_of tab ⟨C_spec_l3Worst, trivial⟩
 con_of (Pc := []) E rfl mixed Tryz.func161 (by kernel_rfl) (by kernel_rfl) (by kernel_rfl) (by kernel_rfl) (fun A hA => trivial) (F_spec_l3After_ok N)
theorem C_spec_l3After : Contract Tryz.prog 161 S_spec_l3After := C_spec_l3After_raw 0
theorem C_spec_l3Best_raw (N : Nat) : Contract Tryz.prog 142 ⟨[(K_PiSPiiqq, false), (K_SSi, false), (I, false), (I, false)], [I], true, F_spec_l3Best N⟩ :=
 have E : Env Tryz.prog Γ_spec_l3Best := env_of tab ⟨C_spec_l2Ball, ⟨C_spec_l3After, trivial⟩⟩
 con_of (Pc := [(0, ⟨spec_l3Best_l0_h, spec_l3Best_l0_o, spec_l3Best_l0 N N⟩)]) E rfl mixed Tryz.func142 (by kernel_rfl) (by kernel_rfl) (by kernel_rfl) (by kernel_rfl) (fun A hA => ⟨pc_of (inner := []) E mixed hA (by kernel_rfl) (by kernel_rfl) (by kernel_rfl) trivial (fun _ => rfl) (fun m d => (spec_l3Best_l0_ok N (spec_l3Best_l0 N m) d).symm) N, trivial⟩) (F_spec_l3Best_ok N)
theorem C_spec_l3Best : Contract Tryz.prog 142 S_spec_l3Best := Contract.less (fun N : Nat => F_spec_l3Best N) C_spec_l3Best_raw l3Best_lim
theorem C_spec_l3Times_raw (N : Nat) : Contract Tryz.prog 106 ⟨[(K_PiSPiiqq, false)], [K_SSi], true, F_spec_l3Times N⟩ :=
 have E : Env Tryz.prog Γ_spec_l3Times := env_of tab ⟨C_spec_l1Own, ⟨C_spec_l3Sign, ⟨C_spec_l3Best, trivial⟩⟩⟩
 con_of (Pc := [(0, ⟨spec_l3Times_l0_h, spec_l3Times_l0_o, spec_l3Times_l0 N N⟩), (4, ⟨spec_l3Times_l4_h, spec_l3Times_l4_o, spec_l3Times_l4 N N⟩)]) E rfl mixed Tryz.func106 (by kernel_rfl) (by kernel_rfl) (by kernel_rfl) (by kernel_rfl) (fun A hA => ⟨pc_of (inner := [(2, ⟨spec_l3Times_l2_h, spec_l3Times_l2_o, spec_l3Times_l2 N N⟩)]) E mixed hA (by kernel_rfl) (by kernel_rfl) (by kernel_rfl) ⟨pc_of (inner := []) E mixed hA (by kernel_rfl) (by kernel_rfl) (by kernel_rfl) trivial (fun _ => rfl) (fun m d => (spec_l3Times_l2_ok N (spec_l3Times_l2 N m) d).symm) N, trivial⟩ (fun _ => rfl) (fun m d => (spec_l3Times_l0_ok N (spec_l3Times_l0 N m) d).symm) N, ⟨pc_of (inner := [(6, ⟨spec_l3Times_l6_h, spec_l3Times_l6_o, spec_l3Times_l6 N N⟩)]) E mixed hA (by kernel_rfl) (by kernel_rfl) (by kernel_rfl) ⟨pc_of (inner := [(8, ⟨spec_l3Times_l8_h, spec_l3Times_l8_o, spec_l3Times_l8 N N⟩)]) E mixed hA (by kernel_rfl) (by kernel_rfl) (by kernel_rfl) ⟨pc_of (inner := []) E mixed hA (by kernel_rfl) (by kernel_rfl) (by kernel_rfl) trivial (fun _ => rfl) (fun m d => (spec_l3Times_l8_ok N (spec_l3Times_l8 N m) d).symm) N, trivial⟩ (fun _ => rfl) (fun m d => (spec_l3Times_l6_ok N (spec_l3Times_l6 N m) d).symm) N, trivial⟩ (fun _ => rfl) (fun m d => (spec_l3Times_l4_ok N (spec_l3Times_l4 N m) d).symm) N, trivial⟩⟩) (F_spec_l3Times_ok N)
theorem C_spec_l3Times : Contract Tryz.prog 106 S_spec_l3Times := Contract.less (fun N : Nat => F_spec_l3Times N) C_spec_l3Times_raw l3Times_lim
theorem C_spec_l3Chase_raw (N : Nat) : Contract Tryz.prog 162 ⟨[(K_PiSPiiqq, false), (K_SSi, false), (I, false), (I, false)], [I], true, F_spec_l3Chase N⟩ :=
 have E : Env Tryz.prog Γ_spec_l3Chase := env_of tab ⟨C_spec_l2Ball, ⟨C_spec_l3After, trivial⟩⟩
 con_of (Pc := [(0, ⟨spec_l3Chase_l0_h, spec_l3Chase_l0_o, spec_l3Chase_l0 N N⟩)]) E rfl mixed Tryz.func162 (by kernel_rfl) (by kernel_rfl) (by kernel_rfl) (by kernel_rfl) (fun A hA => ⟨pc_of (inner := []) E mixed hA (by kernel_rfl) (by kernel_rfl) (by kernel_rfl) trivial (fun _ => rfl) (fun m d => (spec_l3Chase_l0_ok N (spec_l3Chase_l0 N m) d).symm) N, trivial⟩) (F_spec_l3Chase_ok N)
theorem C_spec_l3Chase : Contract Tryz.prog 162 S_spec_l3Chase := Contract.less (fun N : Nat => F_spec_l3Chase N) C_spec_l3Chase_raw l3Chase_lim
theorem C_spec_CopMove_raw (N : Nat) : Contract Tryz.prog 146 ⟨[(K_PiSPiiqq, false), (I, false), (I, false)], [I, .bool], true, F_spec_CopMove N⟩ :=
 have E : Env Tryz.prog Γ_spec_CopMove := env_of tab ⟨C_spec_l3Times, ⟨C_spec_l3Two, ⟨C_spec_l3Chase, trivial⟩⟩⟩
 con_of (Pc := []) E rfl mixed Tryz.func146 (by kernel_rfl) (by kernel_rfl) (by kernel_rfl) (by kernel_rfl) (fun A hA => trivial) (F_spec_CopMove_ok N)
theorem C_spec_CopMove : Contract Tryz.prog 146 S_spec_CopMove := C_spec_CopMove_raw 0
theorem C_spec_l3Flee_raw (N : Nat) : Contract Tryz.prog 163 ⟨[(K_PiSPiiqq, false), (K_SSi, false), (I, false), (I, false)], [I], true, F_spec_l3Flee N⟩ :=
 have E : Env Tryz.prog Γ_spec_l3Flee := env_of tab ⟨C_spec_l2Ball, trivial⟩
 con_of (Pc := [(0, ⟨spec_l3Flee_l0_h, spec_l3Flee_l0_o, spec_l3Flee_l0 N N⟩)]) E rfl mixed Tryz.func163 (by kernel_rfl) (by kernel_rfl) (by kernel_rfl) (by kernel_rfl) (fun A hA => ⟨pc_of (inner := []) E mixed hA (by kernel_rfl) (by kernel_rfl) (by kernel_rfl) trivial (fun _ => rfl) (fun m d => (spec_l3Flee_l0_ok N (spec_l3Flee_l0 N m) d).symm) N, trivial⟩) (F_spec_l3Flee_ok N)
theorem C_spec_l3Flee : Contract Tryz.prog 163 S_spec_l3Flee := Contract.less (fun N : Nat => F_spec_l3Flee N) C_spec_l3Flee_raw l3Flee_lim
theorem C_spec_RobberMove_raw (N : Nat) : Contract Tryz.prog 147 ⟨[(K_PiSPiiqq, false), (I, false), (I, false)], [I, .bool], true, F_spec_RobberMove N⟩ :=
 have E : Env Tryz.prog Γ_spec_RobberMove := env_of tab ⟨C_spec_l3Times, ⟨C_spec_l3Two, ⟨C_spec_l3Flee, trivial⟩⟩⟩
 con_of (Pc := []) E rfl mixed Tryz.func147 (by kernel_rfl) (by kernel_rfl) (by kernel_rfl) (by kernel_rfl) (fun A hA => trivial) (F_spec_RobberMove_ok N)
theorem C_spec_RobberMove : Contract Tryz.prog 147 S_spec_RobberMove := C_spec_RobberMove_raw 0
theorem C_spec_l12Play_raw (N : Nat) : Contract Tryz.prog 119 ⟨[(K_PPiSPiiqqiiSiiq, false)], [K_PPiSPiiqqiiSiiq], true, F_spec_l12Play N⟩ :=
 have E : Env Tryz.prog Γ_spec_l12Play := env_of tab ⟨C_spec_l12Own, ⟨C_spec_CopMove, ⟨C_spec_RobberMove, trivial⟩⟩⟩
 con_of (Pc := []) E rfl mixed Tryz.func119 (by kernel_rfl) (by kernel_rfl) (by kernel_rfl) (by kernel_rfl) (fun A hA => trivial) (F_spec_l12Play_ok N)
theorem C_spec_l12Play : Contract Tryz.prog 119 S_spec_l12Play := C_spec_l12Play_raw 0
theorem C_spec_l5Among_raw (N : Nat) : Contract Tryz.prog 164 ⟨[(K_PiSPiiqq, false), (K_Si, false), (I, false)], [K_Si], true, F_spec_l5Among N⟩ :=
 have E : Env Tryz.prog Γ_spec_l5Among := env_of tab ⟨C_spec_l1Has, ⟨C_spec_l2Neighbors, trivial⟩⟩
 con_of (Pc := [(0, ⟨spec_l5Among_l0_h, spec_l5Among_l0_o, spec_l5Among_l0 N N⟩)]) E rfl mixed Tryz.func164 (by kernel_rfl) (by kernel_rfl) (by kernel_rfl) (by kernel_rfl) (fun A hA => ⟨pc_of (inner := []) E mixed hA (by kernel_rfl) (by kernel_rfl) (by kernel_rfl) trivial (fun _ => rfl) (fun m d => (spec_l5Among_l0_ok N (spec_l5Among_l0 N m) d).symm) N, trivial⟩) (F_spec_l5Among_ok N)
theorem C_spec_l5Among : Contract Tryz.prog 164 S_spec_l5Among := Contract.less (fun N : Nat => F_spec_l5Among N) C_spec_l5Among_raw l5Among_lim
theorem C_spec_l9Open_raw (N : Nat) : Contract Tryz.prog 148 ⟨[(K_PiSPiiqq, false), (K_Si, false), (I, false)], [K_Si], true, F_spec_l9Open N⟩ :=
 have E : Env Tryz.prog Γ_spec_l9Open := env_of tab ⟨C_spec_l5Among, trivial⟩
 con_of (Pc := []) E rfl mixed Tryz.func148 (by kernel_rfl) (by kernel_rfl) (by kernel_rfl) (by kernel_rfl) (fun A hA => trivial) (F_spec_l9Open_ok N)
theorem C_spec_l9Open : Contract Tryz.prog 148 S_spec_l9Open := C_spec_l9Open_raw 0
theorem C_spec_l9Once_raw (N : Nat) : Contract Tryz.prog 123 ⟨[(K_PiSPiiqq, false), (K_Si, false), (.bool, false)], [K_Si], false, F_spec_l9Once N⟩ :=
 have E : Env Tryz.prog Γ_spec_l9Once := env_ofV tab ⟨C_spec_l1Own, ⟨C_spec_l1Has, ⟨C_spec_l1Put, ⟨C_spec_l9Open, trivial⟩⟩⟩⟩ trivial (fun _ h => by cases h)
 con_of (Pc := [(0, ⟨spec_l9Once_l0_h, spec_l9Once_l0_o, spec_l9Once_l0 N N⟩)]) E rfl mixed Tryz.func123 (by kernel_rfl) (by kernel_rfl) (by kernel_rfl) (by kernel_rfl) (fun A hA => ⟨pc_of (inner := []) E mixed hA (by kernel_rfl) (by kernel_rfl) (by kernel_rfl) trivial (fun _ => rfl) (fun m d => (spec_l9Once_l0_ok N (spec_l9Once_l0 N m) d).symm) N, trivial⟩) (F_spec_l9Once_ok N)
theorem C_spec_l9Once : Contract Tryz.prog 123 S_spec_l9Once := Contract.less (fun N : Nat => F_spec_l9Once N) C_spec_l9Once_raw l9Once_lim
theorem C_spec_l5Rest_raw (N : Nat) : Contract Tryz.prog 124 ⟨[(K_PiSPiiqq, false), (K_Si, false)], [K_Si], true, F_spec_l5Rest N⟩ :=
 have E : Env Tryz.prog Γ_spec_l5Rest := env_of tab ⟨C_spec_l1Has, trivial⟩
 con_of (Pc := [(0, ⟨spec_l5Rest_l0_h, spec_l5Rest_l0_o, spec_l5Rest_l0 N N⟩)]) E rfl mixed Tryz.func124 (by kernel_rfl) (by kernel_rfl) (by kernel_rfl) (by kernel_rfl) (fun A hA => ⟨pc_of (inner := []) E mixed hA (by kernel_rfl) (by kernel_rfl) (by kernel_rfl) trivial (fun _ => rfl) (fun m d => (spec_l5Rest_l0_ok N (spec_l5Rest_l0 N m) d).symm) N, trivial⟩) (F_spec_l5Rest_ok N)
theorem C_spec_l5Rest : Contract Tryz.prog 124 S_spec_l5Rest := Contract.less (fun N : Nat => F_spec_l5Rest N) C_spec_l5Rest_raw l5Rest_lim
theorem C_spec_l12Make_raw (N : Nat) : Contract Tryz.prog 80 ⟨[(K_PPiSPiiqqiiSiiq, false), (K_Piiiq, false)], [K_PPiSPiiqqiiSiiq], false, F_spec_l12Make N⟩ :=
 have E : Env Tryz.prog Γ_spec_l12Make := env_of tab ⟨C_spec_l12Own, ⟨C_spec_l12Drop, ⟨C_spec_ToggleEdge, ⟨C_spec_l12Play, ⟨C_spec_l1Has, ⟨C_spec_l2Without, ⟨C_spec_l1Put, ⟨C_spec_l9Once, ⟨C_spec_l5Rest, trivial⟩⟩⟩⟩⟩⟩⟩⟩⟩
 con_of (Pc := []) E rfl mixed Tryz.func80 (by kernel_rfl) (by kernel_rfl) (by kernel_rfl) (by kernel_rfl) (fun A hA => trivial) (F_spec_l12Make_ok N)
theorem C_spec_l12Make : Contract Tryz.prog 80 S_spec_l12Make := C_spec_l12Make_raw 0
theorem C_spec_l12Do_raw (N : Nat) : Contract Tryz.prog 45 ⟨[(K_PPiSPiiqqiiSiiq, false), (K_Piiiq, false)], [K_PPiSPiiqqiiSiiq, .bool], false, F_spec_l12Do N⟩ :=
 have E : Env Tryz.prog Γ_spec_l12Do := env_of tab ⟨C_spec_l12Good, ⟨C_spec_l12May, ⟨C_spec_l12Make, trivial⟩⟩⟩
 con_of (Pc := []) E rfl mixed Tryz.func45 (by kernel_rfl) (by kernel_rfl) (by kernel_rfl) (by kernel_rfl) (fun A hA => trivial) (F_spec_l12Do_ok N)
theorem C_spec_l12Do : Contract Tryz.prog 45 S_spec_l12Do := Contract.less (fun N : Nat => F_spec_l12Do N) C_spec_l12Do_raw l12Do_lim
theorem C_spec_DoWorks_raw (N : Nat) : Contract Tryz.prog 26 ⟨[(K_PPiSPiiqqiiSiiq, false), (K_SPiiiq, false)], [K_PPiSPiiqqiiSiiq, I, .bool], false, F_spec_DoWorks N⟩ :=
 have E : Env Tryz.prog Γ_spec_DoWorks := env_of tab ⟨C_spec_l12Good, ⟨C_spec_l12Do, ⟨C_spec_l12Own, trivial⟩⟩⟩
 con_of (Pc := [(0, ⟨spec_DoWorks_l0_h, spec_DoWorks_l0_o, spec_DoWorks_l0 N N⟩)]) E rfl mixed Tryz.func26 (by kernel_rfl) (by kernel_rfl) (by kernel_rfl) (by kernel_rfl) (fun A hA => ⟨pc_of (inner := []) E mixed hA (by kernel_rfl) (by kernel_rfl) (by kernel_rfl) trivial (fun _ => rfl) (fun m d => (spec_DoWorks_l0_ok N (spec_DoWorks_l0 N m) d).symm) N, trivial⟩) (F_spec_DoWorks_ok N)
theorem C_spec_DoWorks : Contract Tryz.prog 26 S_spec_DoWorks := Contract.less (fun N : Nat => F_spec_DoWorks N) C_spec_DoWorks_raw specDW_lim
theorem C_impl_within_raw (N : Nat) : Contract Tryz.prog 64 ⟨[(I, false), (I, false), (I, false)], [.bool], true, F_impl_within N⟩ :=
 have E : Env Tryz.prog Γ_impl_within := env_of tab trivial
 con_of (Pc := []) E rfl mixed Tryz.func64 (by kernel_rfl) (by kernel_rfl) (by kernel_rfl) (by kernel_rfl) (fun A hA => trivial) (F_impl_within_ok N)
theorem C_impl_within : Contract Tryz.prog 64 S_impl_within := Contract.less (fun N : Nat => F_impl_within N) C_impl_within_raw (fun d r h => ⟨0, (F_impl_within_tot 0 d).trans h⟩)
theorem C_cmp_isNaN_int_raw (N : Nat) : Contract Tryz.prog 157 ⟨[(I, false)], [.bool], true, F_cmp_isNaN_int N⟩ :=
 have E : Env Tryz.prog Γ_cmp_isNaN_int := env_of tab trivial
 con_of (Pc := []) E rfl mixed Tryz.func157 (by kernel_rfl) (by kernel_rfl) (by kernel_rfl) (by kernel_rfl) (fun A hA => trivial) (F_cmp_isNaN_int_ok N)
theorem C_cmp_isNaN_int : Contract Tryz.prog 157 S_cmp_isNaN_int := Contract.less (fun N : Nat => F_cmp_isNaN_int N) C_cmp_isNaN_int_raw (fun d r h => ⟨0, (F_cmp_isNaN_int_tot 0 d).trans h⟩)
theorem C_cmp_Compare_int_raw (N : Nat) : Contract Tryz.prog 137 ⟨[(I, false), (I, false)], [I], true, F_cmp_Compare_int N⟩ :=
 have E : Env Tryz.prog Γ_cmp_Compare_int := env_of tab ⟨C_cmp_isNaN_int, trivial⟩
 con_of (Pc := []) E rfl mixed Tryz.func137 (by kernel_rfl) (by kernel_rfl) (by kernel_rfl) (by kernel_rfl) (fun A hA => trivial) (F_cmp_Compare_int_ok N)
theorem C_cmp_Compare_int : Contract Tryz.prog 137 S_cmp_Compare_int := Contract.less (fun N : Nat => F_cmp_Compare_int N) C_cmp_Compare_int_raw (fun d r h => ⟨0, (F_cmp_Compare_int_tot 0 d).trans h⟩)
theorem C_slices_Compare_Sint_int_raw (N : Nat) : Contract Tryz.prog 96 ⟨[(K_Si, false), (K_Si, false)], [I], true, F_slices_Compare_Sint_int N⟩ :=
 have E : Env Tryz.prog Γ_slices_Compare_Sint_int := env_of tab ⟨C_cmp_Compare_int, trivial⟩
 con_of (Pc := [(0, ⟨slices_Compare_Sint_int_l0_h, slices_Compare_Sint_int_l0_o, slices_Compare_Sint_int_l0 N N⟩)]) E rfl mixed Tryz.func96 (by kernel_rfl) (by kernel_rfl) (by kernel_rfl) (by kernel_rfl) (fun A hA => ⟨pc_of (inner := []) E mixed hA (by kernel_rfl) (by kernel_rfl) (by kernel_rfl) trivial (fun _ => rfl) (fun m d => (slices_Compare_Sint_int_l0_ok N (slices_Compare_Sint_int_l0 N m) d).symm) N, trivial⟩) (F_slices_Compare_Sint_int_ok N)
theorem C_slices_Compare_Sint_int : Contract Tryz.prog 96 S_slices_Compare_Sint_int := Contract.less (fun N : Nat => F_slices_Compare_Sint_int N) C_slices_Compare_Sint_int_raw compare_lim
theorem C_impl_IsGraph_raw (N : Nat) : Contract Tryz.prog 58 ⟨[(K_PiSPiiqq, false)], [.bool], true, F_impl_IsGraph N⟩ :=
 have E : Env Tryz.prog Γ_impl_IsGraph := env_of tab ⟨C_impl_within, ⟨C_slices_Compare_Sint_int, trivial⟩⟩
 con_of (Pc := [(0, ⟨impl_IsGraph_l0_h, impl_IsGraph_l0_o, impl_IsGraph_l0 N N⟩)]) E rfl mixed Tryz.func58 (by kernel_rfl) (by kernel_rfl) (by kernel_rfl) (by kernel_rfl) (fun A hA => ⟨pc_of (inner := []) E mixed hA (by kernel_rfl) (by kernel_rfl) (by kernel_rfl) trivial (fun _ => rfl) (fun m d => (impl_IsGraph_l0_ok N (impl_IsGraph_l0 N m) d).symm) N, trivial⟩) (F_impl_IsGraph_ok N)
theorem C_impl_IsGraph : Contract Tryz.prog 58 S_impl_IsGraph := Contract.less (fun N : Nat => F_impl_IsGraph N) C_impl_IsGraph_raw IsGraph_lim
theorem C_impl_allWithin_raw (N : Nat) : Contract Tryz.prog 107 ⟨[(K_Si, false), (I, false), (I, false)], [.bool], true, F_impl_allWithin N⟩ :=
 have E : Env Tryz.prog Γ_impl_allWithin := env_of tab ⟨C_impl_within, trivial⟩
 con_of (Pc := [(0, ⟨impl_allWithin_l0_h, impl_allWithin_l0_o, impl_allWithin_l0 N N⟩)]) E rfl mixed Tryz.func107 (by kernel_rfl) (by kernel_rfl) (by kernel_rfl) (by kernel_rfl) (fun A hA => ⟨pc_of (inner := []) E mixed hA (by kernel_rfl) (by kernel_rfl) (by kernel_rfl) trivial (fun _ => rfl) (fun m d => (impl_allWithin_l0_ok N (impl_allWithin_l0 N m) d).symm) N, trivial⟩) (F_impl_allWithin_ok N)
theorem C_impl_allWithin : Contract Tryz.prog 107 S_impl_allWithin := Contract.less (fun N : Nat => F_impl_allWithin N) C_impl_allWithin_raw allWithin_lim
theorem C_impl_hasNodes_raw (N : Nat) : Contract Tryz.prog 70 ⟨[(K_PiSPiiqq, false), (K_Si, false)], [.bool], true, F_impl_hasNodes N⟩ :=
 have E : Env Tryz.prog Γ_impl_hasNodes := env_of tab ⟨C_impl_IsGraph, ⟨C_impl_allWithin, trivial⟩⟩
 con_of (Pc := []) E rfl mixed Tryz.func70 (by kernel_rfl) (by kernel_rfl) (by kernel_rfl) (by kernel_rfl) (fun A hA => trivial) (F_impl_hasNodes_ok N)
theorem C_impl_hasNodes : Contract Tryz.prog 70 S_impl_hasNodes := C_impl_hasNodes_raw 0
theorem C_impl_increasing_raw (N : Nat) : Contract Tryz.prog 102 ⟨[(K_Si, false)], [.bool], true, F_impl_increasing N⟩ :=
 have E : Env Tryz.prog Γ_impl_increasing := env_of tab trivial
 con_of (Pc := [(0, ⟨impl_increasing_l0_h, impl_increasing_l0_o, impl_increasing_l0 N N⟩)]) E rfl mixed Tryz.func102 (by kernel_rfl) (by kernel_rfl) (by kernel_rfl) (by kernel_rfl) (fun A hA => ⟨pc_of (inner := []) E mixed hA (by kernel_rfl) (by kernel_rfl) (by kernel_rfl) trivial (fun _ => rfl) (fun m d => (impl_increasing_l0_ok N (impl_increasing_l0 N m) d).symm) N, trivial⟩) (F_impl_increasing_ok N)
theorem C_impl_increasing : Contract Tryz.prog 102 S_impl_increasing := Contract.less (fun N : Nat => F_impl_increasing N) C_impl_increasing_raw increasing_lim
theorem C_impl_isSet_raw (N : Nat) : Contract Tryz.prog 63 ⟨[(K_PiSPiiqq, false), (K_Si, false)], [.bool], true, F_impl_isSet N⟩ :=
 have E : Env Tryz.prog Γ_impl_isSet := env_of tab ⟨C_impl_hasNodes, ⟨C_impl_increasing, trivial⟩⟩
 con_of (Pc := []) E rfl mixed Tryz.func63 (by kernel_rfl) (by kernel_rfl) (by kernel_rfl) (by kernel_rfl) (fun A hA => trivial) (F_impl_isSet_ok N)
theorem C_impl_isSet : Contract Tryz.prog 63 S_impl_isSet := C_impl_isSet_raw 0
theorem C_impl_IsWorkshop_raw (N : Nat) : Contract Tryz.prog 28 ⟨[(K_PPiSPiiqqiiSiiq, false)], [.bool], true, F_impl_IsWorkshop N⟩ :=
 have E : Env Tryz.prog Γ_impl_IsWorkshop := env_of tab ⟨C_impl_isSet, ⟨C_impl_within, trivial⟩⟩
 con_of (Pc := []) E rfl mixed Tryz.func28 (by kernel_rfl) (by kernel_rfl) (by kernel_rfl) (by kernel_rfl) (fun A hA => trivial) (F_impl_IsWorkshop_ok N)
theorem C_impl_IsWorkshop : Contract Tryz.prog 28 S_impl_IsWorkshop := C_impl_IsWorkshop_raw 0
theorem C_slices_Clone_S_2_int_2_int_raw (N : Nat) : Contract Tryz.prog 59 ⟨[(K_SPiiq, false)], [K_SPiiq], true, F_slices_Clone_S_2_int_2_int N⟩ :=
 have E : Env Tryz.prog Γ_slices_Clone_S_2_int_2_int := env_of tab trivial
 con_of (Pc := []) E rfl mixed Tryz.func59 (by kernel_rfl) (by kernel_rfl) (by kernel_rfl) (by kernel_rfl) (fun A hA => trivial) (F_slices_Clone_S_2_int_2_int_ok N)
theorem C_slices_Clone_S_2_int_2_int : Contract Tryz.prog 59 S_slices_Clone_S_2_int_2_int := Contract.less (fun N : Nat => F_slices_Clone_S_2_int_2_int N) C_slices_Clone_S_2_int_2_int_raw cloneA2_lim
theorem C_slices_Clone_Sint_int_raw (N : Nat) : Contract Tryz.prog 92 ⟨[(K_Si, false)], [K_Si], true, F_slices_Clone_Sint_int N⟩ :=
 have E : Env Tryz.prog Γ_slices_Clone_Sint_int := env_of tab trivial
 con_of (Pc := []) E rfl mixed Tryz.func92 (by kernel_rfl) (by kernel_rfl) (by kernel_rfl) (by kernel_rfl) (fun A hA => trivial) (F_slices_Clone_Sint_int_ok N)
theorem C_slices_Clone_Sint_int : Contract Tryz.prog 92 S_slices_Clone_Sint_int := Contract.less (fun N : Nat => F_slices_Clone_Sint_int N) C_slices_Clone_Sint_int_raw cloneI_lim
theorem C_impl_cloneWorkshop : Contract Tryz.prog 56 S_impl_cloneWorkshop := con_cloneWs C_slices_Clone_S_2_int_2_int C_slices_Clone_Sint_int
theorem C_impl_isNamed_raw (N : Nat) : Contract Tryz.prog 82 ⟨[(K_Piiiq, false)], [.bool], true, F_impl_isNamed N⟩ :=
 have E : Env Tryz.prog Γ_impl_isNamed := env_of tab trivial
 con_of (Pc := []) E rfl mixed Tryz.func82 (by kernel_rfl) (by kernel_rfl) (by kernel_rfl) (by kernel_rfl) (fun A hA => trivial) (F_impl_isNamed_ok N)
theorem C_impl_isNamed : Contract Tryz.prog 82 S_impl_isNamed := Contract.less (fun N : Nat => F_impl_isNamed N) C_impl_isNamed_raw (fun d r h => ⟨0, (F_impl_isNamed_tot 0 d).trans h⟩)
theorem C_impl_netOf_raw (N : Nat) : Contract Tryz.prog 67 ⟨[(K_PiSPiiqq, false)], [K_PSiq], true, F_impl_netOf N⟩ :=
 have E : Env Tryz.prog Γ_impl_netOf := env_of tab trivial
 con_of (Pc := [(0, ⟨impl_netOf_l0_h, impl_netOf_l0_o, impl_netOf_l0 N N⟩)]) E rfl mixed Tryz.func67 (by kernel_rfl) (by kernel_rfl) (by kernel_rfl) (by kernel_rfl) (fun A hA => ⟨pc_of (inner := []) E mixed hA (by kernel_rfl) (by kernel_rfl) (by kernel_rfl) trivial (fun _ => rfl) (fun m d => (impl_netOf_l0_ok N (impl_netOf_l0 N m) d).symm) N, trivial⟩) (F_impl_netOf_ok N)
theorem C_impl_netOf : Contract Tryz.prog 67 S_impl_netOf := Contract.less (fun N : Nat => F_impl_netOf N) C_impl_netOf_raw netOf_lim
theorem C_impl_net_all_raw (N : Nat) : Contract Tryz.prog 131 ⟨[(K_PSiq, false)], [I], true, F_impl_net_all N⟩ :=
 have E : Env Tryz.prog Γ_impl_net_all := env_of tab trivial
 con_of (Pc := []) E rfl mixed Tryz.func131 (by kernel_rfl) (by kernel_rfl) (by kernel_rfl) (by kernel_rfl) (fun A hA => trivial) (F_impl_net_all_ok N)
theorem C_impl_net_all : Contract Tryz.prog 131 S_impl_net_all := C_impl_net_all_raw 0
theorem C_impl_setOf_raw (N : Nat) : Contract Tryz.prog 108 ⟨[(I, false)], [K_Si], true, F_impl_setOf N⟩ :=
 have E : Env Tryz.prog Γ_impl_setOf := env_of tab trivial
 con_of (Pc := [(0, ⟨impl_setOf_l0_h, impl_setOf_l0_o, impl_setOf_l0 N N⟩)]) E rfl mixed Tryz.func108 (by kernel_rfl) (by kernel_rfl) (by kernel_rfl) (by kernel_rfl) (fun A hA => ⟨pc_of (inner := []) E mixed hA (by kernel_rfl) (by kernel_rfl) (by kernel_rfl) trivial (fun _ => rfl) (fun m d => (impl_setOf_l0_ok N (impl_setOf_l0 N m) d).symm) N, trivial⟩) (F_impl_setOf_ok N)
theorem C_impl_setOf : Contract Tryz.prog 108 S_impl_setOf := Contract.less (fun N : Nat => F_impl_setOf N) C_impl_setOf_raw setOf_lim
theorem C_impl_net_has_raw (N : Nat) : Contract Tryz.prog 151 ⟨[(K_PSiq, false), (I, false), (I, false)], [.bool], true, F_impl_net_has N⟩ :=
 have E : Env Tryz.prog Γ_impl_net_has := env_of tab trivial
 con_of (Pc := []) E rfl mixed Tryz.func151 (by kernel_rfl) (by kernel_rfl) (by kernel_rfl) (by kernel_rfl) (fun A hA => trivial) (F_impl_net_has_ok N)
theorem C_impl_net_has : Contract Tryz.prog 151 S_impl_net_has := C_impl_net_has_raw 0
theorem C_impl_net_induced_1_raw (N : Nat) : Contract Tryz.prog 165 ⟨[(I, false), (I, false), (K_BPSiq, false), (K_BSi, false)], [.bool], true, F_impl_net_induced_1 N⟩ :=
 have E : Env Tryz.prog Γ_impl_net_induced_1 := env_of tab ⟨C_impl_net_has, trivial⟩
 con_of (Pc := []) E rfl mixed Tryz.func165 (by kernel_rfl) (by kernel_rfl) (by kernel_rfl) (by kernel_rfl) (fun A hA => trivial) (F_impl_net_induced_1_ok N)
theorem C_impl_net_induced_1 : Contract Tryz.prog 165 S_impl_net_induced_1 := C_impl_net_induced_1_raw 0
theorem CV_impl_net_induced_1 : ContractV Tryz.prog SV_impl_net_induced_1 := conV_0_2_2 C_impl_net_induced_1
theorem C_impl_graphBy_by_impl_net_induced_1_raw (N : Nat) : Contract Tryz.prog 150 ⟨[(I, false), (K_F_impl_net_induced_1_qPBPSiqBSiq, false)], [K_PiSPiiqq], true, F_impl_graphBy_by_impl_net_induced_1 N⟩ :=
 have E : Env Tryz.prog Γ_impl_graphBy_by_impl_net_induced_1 := env_ofV tab trivial ⟨CV_impl_net_induced_1, trivial⟩ (fun _ h => by cases h)
 con_of (Pc := [(0, ⟨impl_graphBy_by_impl_net_induced_1_l0_h, impl_graphBy_by_impl_net_induced_1_l0_o, impl_graphBy_by_impl_net_induced_1_l0 N N⟩)]) E rfl mixed Tryz.func150 (by kernel_rfl) (by kernel_rfl) (by kernel_rfl) (by kernel_rfl) (fun A hA => ⟨pc_of (inner := [(2, ⟨impl_graphBy_by_impl_net_induced_1_l2_h, impl_graphBy_by_impl_net_induced_1_l2_o, impl_graphBy_by_impl_net_induced_1_l2 N N⟩)]) E mixed hA (by kernel_rfl) (by kernel_rfl) (by kernel_rfl) ⟨pc_of (inner := []) E mixed hA (by kernel_rfl) (by kernel_rfl) (by kernel_rfl) trivial (fun _ => rfl) (fun m d => (impl_graphBy_by_impl_net_induced_1_l2_ok N (impl_graphBy_by_impl_net_induced_1_l2 N m) d).symm) N, trivial⟩ (fun _ => rfl) (fun m d => (impl_graphBy_by_impl_net_induced_1_l0_ok N (impl_graphBy_by_impl_net_induced_1_l0 N m) d).symm) N, trivial⟩) (F_impl_graphBy_by_impl_net_induced_1_ok N)
theorem C_impl_graphBy_by_impl_net_induced_1 : Contract Tryz.prog 150 S_impl_graphBy_by_impl_net_induced_1 := Contract.less (fun N : Nat => F_impl_graphBy_by_impl_net_induced_1 N) C_impl_graphBy_by_impl_net_induced_1_raw graphByInd_lim
theorem C_impl_net_induced_raw (N : Nat) : Contract Tryz.prog 149 ⟨[(K_PSiq, false), (K_Si, false)], [K_PiSPiiqq], true, F_impl_net_induced N⟩ :=
 have E : Env Tryz.prog Γ_impl_net_induced := env_ofV tab ⟨C_impl_graphBy_by_impl_net_induced_1, trivial⟩ trivial (fun _ h => by cases h)
 con_of (Pc := []) E rfl mixed Tryz.func149 (by kernel_rfl) (by kernel_rfl) (by kernel_rfl) (by kernel_rfl) (fun A hA => trivial) (F_impl_net_induced_ok N)
theorem C_impl_net_induced : Contract Tryz.prog 149 S_impl_net_induced := C_impl_net_induced_raw 0
theorem C_impl_RemoveNode_raw (N : Nat) : Contract Tryz.prog 126 ⟨[(K_PiSPiiqq, false), (I, false)], [K_PiSPiiqq, .bool], true, F_impl_RemoveNode N⟩ :=
 have E : Env Tryz.prog Γ_impl_RemoveNode := env_of tab ⟨C_impl_netOf, ⟨C_impl_hasNodes, ⟨C_impl_setOf, ⟨C_impl_net_all, ⟨C_impl_net_induced, trivial⟩⟩⟩⟩⟩
 con_of (Pc := []) E rfl mixed Tryz.func126 (by kernel_rfl) (by kernel_rfl) (by kernel_rfl) (by kernel_rfl) (fun A hA => trivial) (F_impl_RemoveNode_ok N)
theorem C_impl_RemoveNode : Contract Tryz.prog 126 S_impl_RemoveNode := C_impl_RemoveNode_raw 0
theorem C_impl_dropNode_raw (N : Nat) : ContractG Tryz.prog 83 (⟨[(K_BPPiSPiiqqiiSiiq, true), (I, false)], [.bool], true, F_impl_dropNode N⟩, { gone := [], deep := [0] }) :=
 have E : Env Tryz.prog Γ_impl_dropNode := env_ofG tab ⟨C_impl_RemoveNode, trivial⟩ trivial (fun _ h => by cases h) trivial (by kernel_rfl)
 con_ofG (Pc := [(0, ⟨impl_dropNode_l0_h, impl_dropNode_l0_o, impl_dropNode_l0 N N⟩)]) E mixed Tryz.func83 (by kernel_rfl) (by kernel_rfl) (by kernel_rfl) (by kernel_rfl) (fun A hA => ⟨pc_of (inner := []) E mixed hA (by kernel_rfl) (by kernel_rfl) (by kernel_rfl) trivial (fun _ => rfl) (fun m d => (impl_dropNode_l0_ok N (impl_dropNode_l0 N m) d).symm) N, trivial⟩) (F_impl_dropNode_ok N)
theorem C_impl_dropNode : ContractG Tryz.prog 83 (S_impl_dropNode, { gone := [], deep := [0] }) := ContractG.less (fun N : Nat => F_impl_dropNode N) C_impl_dropNode_raw dropNode_lim
theorem C_impl_net_size_raw (N : Nat) : Contract Tryz.prog 103 ⟨[(K_PSiq, false)], [I], true, F_impl_net_size N⟩ :=
 have E : Env Tryz.prog Γ_impl_net_size := env_of tab trivial
 con_of (Pc := []) E rfl mixed Tryz.func103 (by kernel_rfl) (by kernel_rfl) (by kernel_rfl) (by kernel_rfl) (fun A hA => trivial) (F_impl_net_size_ok N)
theorem C_impl_net_size : Contract Tryz.prog 103 S_impl_net_size := Contract.less (fun N : Nat => F_impl_net_size N) C_impl_net_size_raw (fun d r h => ⟨0, (F_impl_net_size_tot 0 d).trans h⟩)
theorem CV_impl_net_has : ContractV Tryz.prog SV_impl_net_has := conV_1_2_0 C_impl_net_has
theorem C_impl_graphBy_by_impl_net_has_raw (N : Nat) : Contract Tryz.prog 150 ⟨[(I, false), (K_F_impl_net_has_PPSiqqq, false)], [K_PiSPiiqq], true, F_impl_graphBy_by_impl_net_has N⟩ :=
 have E : Env Tryz.prog Γ_impl_graphBy_by_impl_net_has := env_ofV tab trivial ⟨CV_impl_net_has, trivial⟩ (fun _ h => by cases h)
 con_of (Pc := [(0, ⟨impl_graphBy_by_impl_net_has_l0_h, impl_graphBy_by_impl_net_has_l0_o, impl_graphBy_by_impl_net_has_l0 N N⟩)]) E rfl mixed Tryz.func150 (by kernel_rfl) (by kernel_rfl) (by kernel_rfl) (by kernel_rfl) (fun A hA => ⟨pc_of (inner := [(2, ⟨impl_graphBy_by_impl_net_has_l2_h, impl_graphBy_by_impl_net_has_l2_o, impl_graphBy_by_impl_net_has_l2 N N⟩)]) E mixed hA (by kernel_rfl) (by kernel_rfl) (by kernel_rfl) ⟨pc_of (inner := []) E mixed hA (by kernel_rfl) (by kernel_rfl) (by kernel_rfl) trivial (fun _ => rfl) (fun m d => (impl_graphBy_by_impl_net_has_l2_ok N (impl_graphBy_by_impl_net_has_l2 N m) d).symm) N, trivial⟩ (fun _ => rfl) (fun m d => (impl_graphBy_by_impl_net_has_l0_ok N (impl_graphBy_by_impl_net_has_l0 N m) d).symm) N, trivial⟩) (F_impl_graphBy_by_impl_net_has_ok N)
theorem C_impl_graphBy_by_impl_net_has : Contract Tryz.prog 150 S_impl_graphBy_by_impl_net_has := Contract.less (fun N : Nat => F_impl_graphBy_by_impl_net_has N) C_impl_graphBy_by_impl_net_has_raw graphBy135_lim
theorem C_impl_net_graph_raw (N : Nat) : Contract Tryz.prog 127 ⟨[(K_PSiq, false)], [K_PiSPiiqq], true, F_impl_net_graph N⟩ :=
 have E : Env Tryz.prog Γ_impl_net_graph := env_of tab ⟨C_impl_net_size, ⟨C_impl_graphBy_by_impl_net_has, trivial⟩⟩
 con_of (Pc := []) E rfl mixed Tryz.func127 (by kernel_rfl) (by kernel_rfl) (by kernel_rfl) (by kernel_rfl) (fun A hA => trivial) (F_impl_net_graph_ok N)
theorem C_impl_net_graph : Contract Tryz.prog 127 S_impl_net_graph := C_impl_net_graph_raw 0
theorem C_impl_ToggleEdge_raw (N : Nat) : Contract Tryz.prog 84 ⟨[(K_PiSPiiqq, false), (I, false), (I, false)], [K_PiSPiiqq, .bool], true, F_impl_ToggleEdge N⟩ :=
 have E : Env Tryz.prog Γ_impl_ToggleEdge := env_of tab ⟨C_impl_netOf, ⟨C_impl_hasNodes, ⟨C_impl_net_graph, trivial⟩⟩⟩
 con_of (Pc := []) E rfl mixed Tryz.func84 (by kernel_rfl) (by kernel_rfl) (by kernel_rfl) (by kernel_rfl) (fun A hA => trivial) (F_impl_ToggleEdge_ok N)
theorem C_impl_ToggleEdge : Contract Tryz.prog 84 S_impl_ToggleEdge := C_impl_ToggleEdge_raw 0
theorem C_impl_areApart_raw (N : Nat) : Contract Tryz.prog 128 ⟨[(K_BPPiSPiiqqiiSiiq, false)], [.bool], true, F_impl_areApart N⟩ :=
 have E : Env Tryz.prog Γ_impl_areApart := env_of tab trivial
 con_of (Pc := []) E rfl mixed Tryz.func128 (by kernel_rfl) (by kernel_rfl) (by kernel_rfl) (by kernel_rfl) (fun A hA => trivial) (F_impl_areApart_ok N)
theorem C_impl_areApart : Contract Tryz.prog 128 S_impl_areApart := Contract.less (fun N : Nat => F_impl_areApart N) C_impl_areApart_raw (fun d r h => ⟨0, (F_impl_areApart_tot 0 d).trans h⟩)
theorem C_impl_net_closed_raw (N : Nat) : Contract Tryz.prog 109 ⟨[(K_PSiq, false), (I, false)], [I], true, F_impl_net_closed N⟩ :=
 have E : Env Tryz.prog Γ_impl_net_closed := env_of tab trivial
 con_of (Pc := []) E rfl mixed Tryz.func109 (by kernel_rfl) (by kernel_rfl) (by kernel_rfl) (by kernel_rfl) (fun A hA => trivial) (F_impl_net_closed_ok N)
theorem C_impl_net_closed : Contract Tryz.prog 109 S_impl_net_closed := C_impl_net_closed_raw 0
theorem C_impl_moveBoth_raw (N : Nat) : ContractG Tryz.prog 85 (⟨[(K_BPPiSPiiqqiiSiiq, true), (I, false), (I, false)], [.bool], true, F_impl_moveBoth N⟩, { gone := [], deep := [0] }) :=
 have E : Env Tryz.prog Γ_impl_moveBoth := env_ofG tab ⟨C_impl_netOf, ⟨C_impl_hasNodes, ⟨C_impl_net_closed, ⟨C_impl_areApart, trivial⟩⟩⟩⟩ trivial (fun _ h => by cases h) trivial (by kernel_rfl)
 con_ofG (Pc := []) E mixed Tryz.func85 (by kernel_rfl) (by kernel_rfl) (by kernel_rfl) (by kernel_rfl) (fun A hA => trivial) (F_impl_moveBoth_ok N)
theorem C_impl_moveBoth : ContractG Tryz.prog 85 (S_impl_moveBoth, { gone := [], deep := [0] }) := C_impl_moveBoth_raw 0
theorem C_impl_net_timeAfter_raw (N : Nat) : Contract Tryz.prog 110 ⟨[(K_PSiq, false), (K_Si, false), (I, false)], [I], true, F_impl_net_timeAfter N⟩ :=
 have E : Env Tryz.prog Γ_impl_net_timeAfter := env_of tab ⟨C_impl_setOf, ⟨C_impl_net_closed, trivial⟩⟩
 con_of (Pc := [(0, ⟨impl_net_timeAfter_l0_h, impl_net_timeAfter_l0_o, impl_net_timeAfter_l0 N N⟩)]) E rfl mixed Tryz.func110 (by kernel_rfl) (by kernel_rfl) (by kernel_rfl) (by kernel_rfl) (fun A hA => ⟨pc_of (inner := []) E mixed hA (by kernel_rfl) (by kernel_rfl) (by kernel_rfl) trivial (fun _ => rfl) (fun m d => (impl_net_timeAfter_l0_ok N (impl_net_timeAfter_l0 N m) d).symm) N, trivial⟩) (F_impl_net_timeAfter_ok N)
theorem C_impl_net_timeAfter : Contract Tryz.prog 110 S_impl_net_timeAfter := Contract.less (fun N : Nat => F_impl_net_timeAfter N) C_impl_net_timeAfter_raw timeAfter_lim
theorem C_impl_net_copCan_1_raw (N : Nat) : Contract Tryz.prog 140 ⟨[(I, false), (K_Bi, false), (K_BPSiq, false), (K_BSSi, false)], [.bool], true, F_impl_net_copCan_1 N⟩ :=
 have E : Env Tryz.prog Γ_impl_net_copCan_1 := env_of tab ⟨C_impl_net_timeAfter, trivial⟩
 con_of (Pc := []) E rfl mixed Tryz.func140 (by kernel_rfl) (by kernel_rfl) (by kernel_rfl) (by kernel_rfl) (fun A hA => trivial) (F_impl_net_copCan_1_ok N)
theorem C_impl_net_copCan_1 : Contract Tryz.prog 140 S_impl_net_copCan_1 := C_impl_net_copCan_1_raw 0
theorem CV_impl_net_copCan_1 : ContractV Tryz.prog SV_impl_net_copCan_1 := conV_0_1_3 C_impl_net_copCan_1
theorem C_slices_IndexFunc_Sint_int_by_impl_net_copCan_1_raw (N : Nat) : Contract Tryz.prog 160 ⟨[(K_Si, false), (K_F_impl_net_copCan_1_qPBiBPSiqBSSiq, false)], [I], true, F_slices_IndexFunc_Sint_int_by_impl_net_copCan_1 N⟩ :=
 have E : Env Tryz.prog Γ_slices_IndexFunc_Sint_int_by_impl_net_copCan_1 := env_ofV tab trivial ⟨CV_impl_net_copCan_1, trivial⟩ (fun _ h => by cases h)
 con_of (Pc := [(0, ⟨slices_IndexFunc_Sint_int_by_impl_net_copCan_1_l0_h, slices_IndexFunc_Sint_int_by_impl_net_copCan_1_l0_o, slices_IndexFunc_Sint_int_by_impl_net_copCan_1_l0 N N⟩)]) E rfl mixed Tryz.func160 (by kernel_rfl) (by kernel_rfl) (by kernel_rfl) (by kernel_rfl) (fun A hA => ⟨pc_of (inner := []) E mixed hA (by kernel_rfl) (by kernel_rfl) (by kernel_rfl) trivial (fun _ => rfl) (fun m d => (slices_IndexFunc_Sint_int_by_impl_net_copCan_1_l0_ok N (slices_IndexFunc_Sint_int_by_impl_net_copCan_1_l0 N m) d).symm) N, trivial⟩) (F_slices_IndexFunc_Sint_int_by_impl_net_copCan_1_ok N)
theorem C_slices_IndexFunc_Sint_int_by_impl_net_copCan_1 : Contract Tryz.prog 160 S_slices_IndexFunc_Sint_int_by_impl_net_copCan_1 := Contract.less (fun N : Nat => F_slices_IndexFunc_Sint_int_by_impl_net_copCan_1 N) C_slices_IndexFunc_Sint_int_by_impl_net_copCan_1_raw index154_lim
theorem C_slices_ContainsFunc_Sint_int_by_impl_net_copCan_1_raw (N : Nat) : Contract Tryz.prog 139 ⟨[(K_Si, false), (K_F_impl_net_copCan_1_qPBiBPSiqBSSiq, false)], [.bool], true, F_slices_ContainsFunc_Sint_int_by_impl_net_copCan_1 N⟩ :=
 have E : Env Tryz.prog Γ_slices_ContainsFunc_Sint_int_by_impl_net_copCan_1 := env_of tab ⟨C_slices_IndexFunc_Sint_int_by_impl_net_copCan_1, trivial⟩
 con_of (Pc := []) E rfl mixed Tryz.func139 (by kernel_rfl) (by kernel_rfl) (by kernel_rfl) (by kernel_rfl) (fun A hA => trivial) (F_slices_ContainsFunc_Sint_int_by_impl_net_copCan_1_ok N)
theorem C_slices_ContainsFunc_Sint_int_by_impl_net_copCan_1 : Contract Tryz.prog 139 S_slices_ContainsFunc_Sint_int_by_impl_net_copCan_1 := C_slices_ContainsFunc_Sint_int_by_impl_net_copCan_1_raw 0
theorem C_impl_net_copCan_raw (N : Nat) : Contract Tryz.prog 105 ⟨[(K_PSiq, false), (K_SSi, false), (I, false), (I, false)], [.bool], true, F_impl_net_copCan N⟩ :=
 have E : Env Tryz.prog Γ_impl_net_copCan := env_ofV tab ⟨C_impl_setOf, ⟨C_impl_net_closed, ⟨C_slices_ContainsFunc_Sint_int_by_impl_net_copCan_1, trivial⟩⟩⟩ trivial (fun _ h => by cases h)
 con_of (Pc := []) E rfl mixed Tryz.func105 (by kernel_rfl) (by kernel_rfl) (by kernel_rfl) (by kernel_rfl) (fun A hA => trivial) (F_impl_net_copCan_ok N)
theorem C_impl_net_copCan : Contract Tryz.prog 105 S_impl_net_copCan := C_impl_net_copCan_raw 0
theorem C_impl_net_copTimes_raw (N : Nat) : Contract Tryz.prog 68 ⟨[(K_PSiq, false)], [K_SSi], true, F_impl_net_copTimes N⟩ :=
 have E : Env Tryz.prog Γ_impl_net_copTimes := env_of tab ⟨C_impl_net_size, ⟨C_slices_Repeat_Sint_int, ⟨C_impl_net_copCan, trivial⟩⟩⟩
 con_of (Pc := [(0, ⟨impl_net_copTimes_l0_h, impl_net_copTimes_l0_o, impl_net_copTimes_l0 N N⟩), (2, ⟨impl_net_copTimes_l2_h, impl_net_copTimes_l2_o, impl_net_copTimes_l2 N N⟩)]) E rfl mixed Tryz.func68 (by kernel_rfl) (by kernel_rfl) (by kernel_rfl) (by kernel_rfl) (fun A hA => ⟨pc_of (inner := []) E mixed hA (by kernel_rfl) (by kernel_rfl) (by kernel_rfl) trivial (fun _ => rfl) (fun m d => (impl_net_copTimes_l0_ok N (impl_net_copTimes_l0 N m) d).symm) N, ⟨pc_of (inner := [(4, ⟨impl_net_copTimes_l4_h, impl_net_copTimes_l4_o, impl_net_copTimes_l4 N N⟩), (8, ⟨impl_net_copTimes_l8_h, impl_net_copTimes_l8_o, impl_net_copTimes_l8 N N⟩)]) E mixed hA (by kernel_rfl) (by kernel_rfl) (by kernel_rfl) ⟨pc_of (inner := [(6, ⟨impl_net_copTimes_l6_h, impl_net_copTimes_l6_o, impl_net_copTimes_l6 N N⟩)]) E mixed hA (by kernel_rfl) (by kernel_rfl) (by kernel_rfl) ⟨pc_of (inner := []) E mixed hA (by kernel_rfl) (by kernel_rfl) (by kernel_rfl) trivial (fun _ => rfl) (fun m d => (impl_net_copTimes_l6_ok N (impl_net_copTimes_l6 N m) d).symm) N, trivial⟩ (fun _ => rfl) (fun m d => (impl_net_copTimes_l4_ok N (impl_net_copTimes_l4 N m) d).symm) N, ⟨pc_of (inner := []) E mixed hA (by kernel_rfl) (by kernel_rfl) (by kernel_rfl) trivial (fun _ => rfl) (fun m d => (impl_net_copTimes_l8_ok N (impl_net_copTimes_l8 N m) d).symm) N, trivial⟩⟩ (fun _ => rfl) (fun m d => (impl_net_copTimes_l2_ok N (impl_net_copTimes_l2 N m) d).symm) N, trivial⟩⟩) (F_impl_net_copTimes_ok N)
theorem C_impl_net_copTimes : Contract Tryz.prog 68 S_impl_net_copTimes := Contract.less (fun N : Nat => F_impl_net_copTimes N) C_impl_net_copTimes_raw copTimes_lim
theorem C_impl_net_copMove_raw (N : Nat) : Contract Tryz.prog 71 ⟨[(K_PSiq, false), (K_SSi, false), (I, false), (I, false)], [I], true, F_impl_net_copMove N⟩ :=
 have E : Env Tryz.prog Γ_impl_net_copMove := env_of tab ⟨C_impl_setOf, ⟨C_impl_net_closed, ⟨C_impl_net_timeAfter, trivial⟩⟩⟩
 con_of (Pc := [(0, ⟨impl_net_copMove_l0_h, impl_net_copMove_l0_o, impl_net_copMove_l0 N N⟩)]) E rfl mixed Tryz.func71 (by kernel_rfl) (by kernel_rfl) (by kernel_rfl) (by kernel_rfl) (fun A hA => ⟨pc_of (inner := []) E mixed hA (by kernel_rfl) (by kernel_rfl) (by kernel_rfl) trivial (fun _ => rfl) (fun m d => (impl_net_copMove_l0_ok N (impl_net_copMove_l0 N m) d).symm) N, trivial⟩) (F_impl_net_copMove_ok N)
theorem C_impl_net_copMove : Contract Tryz.prog 71 S_impl_net_copMove := Contract.less (fun N : Nat => F_impl_net_copMove N) C_impl_net_copMove_raw copMove_lim
theorem C_impl_net_robberMove_raw (N : Nat) : Contract Tryz.prog 72 ⟨[(K_PSiq, false), (K_Si, false), (I, false)], [I], true, F_impl_net_robberMove N⟩ :=
 have E : Env Tryz.prog Γ_impl_net_robberMove := env_of tab ⟨C_impl_setOf, ⟨C_impl_net_closed, trivial⟩⟩
 con_of (Pc := [(0, ⟨impl_net_robberMove_l0_h, impl_net_robberMove_l0_o, impl_net_robberMove_l0 N N⟩)]) E rfl mixed Tryz.func72 (by kernel_rfl) (by kernel_rfl) (by kernel_rfl) (by kernel_rfl) (fun A hA => ⟨pc_of (inner := []) E mixed hA (by kernel_rfl) (by kernel_rfl) (by kernel_rfl) trivial (fun _ => rfl) (fun m d => (impl_net_robberMove_l0_ok N (impl_net_robberMove_l0 N m) d).symm) N, trivial⟩) (F_impl_net_robberMove_ok N)
theorem C_impl_net_robberMove : Contract Tryz.prog 72 S_impl_net_robberMove := Contract.less (fun N : Nat => F_impl_net_robberMove N) C_impl_net_robberMove_raw robberMove_lim
theorem C_impl_playBoth_raw (N : Nat) : ContractG Tryz.prog 86 (⟨[(K_BPPiSPiiqqiiSiiq, true)], [.bool], true, F_impl_playBoth N⟩, { gone := [], deep := [0] }) :=
 have E : Env Tryz.prog Γ_impl_playBoth := env_ofG tab ⟨C_impl_netOf, ⟨C_impl_net_copTimes, ⟨C_impl_net_copMove, ⟨C_impl_net_robberMove, ⟨C_impl_areApart, trivial⟩⟩⟩⟩⟩ trivial (fun _ h => by cases h) trivial (by kernel_rfl)
 con_ofG (Pc := []) E mixed Tryz.func86 (by kernel_rfl) (by kernel_rfl) (by kernel_rfl) (by kernel_rfl) (fun A hA => trivial) (F_impl_playBoth_ok N)
theorem C_impl_playBoth : ContractG Tryz.prog 86 (S_impl_playBoth, { gone := [], deep := [0] }) := C_impl_playBoth_raw 0
theorem C_impl_maskOf_raw (N : Nat) : Contract Tryz.prog 129 ⟨[(K_Si, false)], [I], true, F_impl_maskOf N⟩ :=
 have E : Env Tryz.prog Γ_impl_maskOf := env_of tab trivial
 con_of (Pc := [(0, ⟨impl_maskOf_l0_h, impl_maskOf_l0_o, impl_maskOf_l0 N N⟩)]) E rfl mixed Tryz.func129 (by kernel_rfl) (by kernel_rfl) (by kernel_rfl) (by kernel_rfl) (fun A hA => ⟨pc_of (inner := []) E mixed hA (by kernel_rfl) (by kernel_rfl) (by kernel_rfl) trivial (fun _ => rfl) (fun m d => (impl_maskOf_l0_ok N (impl_maskOf_l0 N m) d).symm) N, trivial⟩) (F_impl_maskOf_ok N)
theorem C_impl_maskOf : Contract Tryz.prog 129 S_impl_maskOf := Contract.less (fun N : Nat => F_impl_maskOf N) C_impl_maskOf_raw maskOf_lim
theorem C_impl_net_forced_raw (N : Nat) : Contract Tryz.prog 130 ⟨[(K_PSiq, false), (I, false), (.bool, false)], [I], true, F_impl_net_forced N⟩ :=
 have E : Env Tryz.prog Γ_impl_net_forced := env_of tab trivial
 con_of (Pc := [(0, ⟨impl_net_forced_l0_h, impl_net_forced_l0_o, impl_net_forced_l0 N N⟩)]) E rfl mixed Tryz.func130 (by kernel_rfl) (by kernel_rfl) (by kernel_rfl) (by kernel_rfl) (fun A hA => ⟨pc_of (inner := []) E mixed hA (by kernel_rfl) (by kernel_rfl) (by kernel_rfl) trivial (fun _ => rfl) (fun m d => (impl_net_forced_l0_ok N (impl_net_forced_l0 N m) d).symm) N, trivial⟩) (F_impl_net_forced_ok N)
theorem C_impl_net_forced : Contract Tryz.prog 130 S_impl_net_forced := Contract.less (fun N : Nat => F_impl_net_forced N) C_impl_net_forced_raw forced_lim
theorem C_impl_markNodes_raw (N : Nat) : ContractG Tryz.prog 87 (⟨[(K_BPPiSPiiqqiiSiiq, true), (K_Piiiq, false)], [.bool], true, F_impl_markNodes N⟩, { gone := [], deep := [0] }) :=
 have E : Env Tryz.prog Γ_impl_markNodes := env_ofG tab ⟨C_impl_within, ⟨C_impl_netOf, ⟨C_impl_setOf, ⟨C_impl_maskOf, ⟨C_impl_net_forced, ⟨C_impl_net_all, trivial⟩⟩⟩⟩⟩⟩ trivial (fun _ h => by cases h) trivial (by kernel_rfl)
 con_ofG (Pc := []) E mixed Tryz.func87 (by kernel_rfl) (by kernel_rfl) (by kernel_rfl) (by kernel_rfl) (fun A hA => trivial) (F_impl_markNodes_ok N)
theorem C_impl_markNodes : ContractG Tryz.prog 87 (S_impl_markNodes, { gone := [], deep := [0] }) := C_impl_markNodes_raw 0
theorem C_impl_doWork_raw (N : Nat) : Contract Tryz.prog 48 ⟨[(K_PPiSPiiqqiiSiiq, false), (K_Piiiq, false)], [K_PPiSPiiqqiiSiiq, .bool], true, F_impl_doWork N⟩ :=
 have E : Env Tryz.prog Γ_impl_doWork := env_ofG tab ⟨C_impl_IsWorkshop, ⟨C_impl_cloneWorkshop, ⟨C_impl_isNamed, ⟨C_impl_ToggleEdge, trivial⟩⟩⟩⟩ trivial (fun _ h => by cases h) ⟨C_impl_dropNode, ⟨C_impl_moveBoth, ⟨C_impl_playBoth, ⟨C_impl_markNodes, trivial⟩⟩⟩⟩ (by kernel_rfl)
 con_of (Pc := []) E rfl mixed Tryz.func48 (by kernel_rfl) (by kernel_rfl) (by kernel_rfl) (by kernel_rfl) (fun A hA => trivial) (F_impl_doWork_ok N)
theorem C_impl_doWork : Contract Tryz.prog 48 S_impl_doWork := Contract.less (fun N : Nat => F_impl_doWork N) C_impl_doWork_raw doWork_lim
theorem C_impl_DoWorks_raw (N : Nat) : Contract Tryz.prog 25 ⟨[(K_PPiSPiiqqiiSiiq, false), (K_SPiiiq, false)], [K_PPiSPiiqqiiSiiq, I, .bool], true, F_impl_DoWorks N⟩ :=
 have E : Env Tryz.prog Γ_impl_DoWorks := env_of tab ⟨C_impl_IsWorkshop, ⟨C_impl_doWork, ⟨C_impl_cloneWorkshop, trivial⟩⟩⟩
 con_of (Pc := [(0, ⟨impl_DoWorks_l0_h, impl_DoWorks_l0_o, impl_DoWorks_l0 N N⟩)]) E rfl mixed Tryz.func25 (by kernel_rfl) (by kernel_rfl) (by kernel_rfl) (by kernel_rfl) (fun A hA => ⟨pc_of (inner := []) E mixed hA (by kernel_rfl) (by kernel_rfl) (by kernel_rfl) trivial (fun _ => rfl) (fun m d => (impl_DoWorks_l0_ok N (impl_DoWorks_l0 N m) d).symm) N, trivial⟩) (F_impl_DoWorks_ok N)
theorem C_impl_DoWorks : Contract Tryz.prog 25 S_impl_DoWorks := Contract.less (fun N : Nat => F_impl_DoWorks N) C_impl_DoWorks_raw implDW_lim
theorem C_laws_eqIntA2_raw (N : Nat) : Contract Tryz.prog 132 ⟨[(K_Piiq, false), (K_Piiq, false)], [.bool], true, F_laws_eqIntA2 N⟩ :=
 have E : Env Tryz.prog Γ_laws_eqIntA2 := env_of tab trivial
 con_of (Pc := [(0, ⟨laws_eqIntA2_l0_h, laws_eqIntA2_l0_o, laws_eqIntA2_l0 N N⟩)]) E rfl mixed Tryz.func132 (by kernel_rfl) (by kernel_rfl) (by kernel_rfl) (by kernel_rfl) (fun A hA => ⟨pc_of (inner := []) E mixed hA (by kernel_rfl) (by kernel_rfl) (by kernel_rfl) trivial (fun _ => rfl) (fun m d => (laws_eqIntA2_l0_ok N (laws_eqIntA2_l0 N m) d).symm) N, trivial⟩) (F_laws_eqIntA2_ok N)
theorem C_laws_eqIntA2 : Contract Tryz.prog 132 S_laws_eqIntA2 := Contract.less (fun N : Nat => F_laws_eqIntA2 N) C_laws_eqIntA2_raw eqIntA2_lim
theorem C_laws_eqIntA2S_raw (N : Nat) : Contract Tryz.prog 88 ⟨[(K_SPiiq, false), (K_SPiiq, false)], [.bool], true, F_laws_eqIntA2S N⟩ :=
 have E : Env Tryz.prog Γ_laws_eqIntA2S := env_of tab ⟨C_laws_eqIntA2, trivial⟩
 con_of (Pc := [(0, ⟨laws_eqIntA2S_l0_h, laws_eqIntA2S_l0_o, laws_eqIntA2S_l0 N N⟩)]) E rfl mixed Tryz.func88 (by kernel_rfl) (by kernel_rfl) (by kernel_rfl) (by kernel_rfl) (fun A hA => ⟨pc_of (inner := []) E mixed hA (by kernel_rfl) (by kernel_rfl) (by kernel_rfl) trivial (fun _ => rfl) (fun m d => (laws_eqIntA2S_l0_ok N (laws_eqIntA2S_l0 N m) d).symm) N, trivial⟩) (F_laws_eqIntA2S_ok N)
theorem C_laws_eqIntA2S : Contract Tryz.prog 88 S_laws_eqIntA2S := Contract.less (fun N : Nat => F_laws_eqIntA2S N) C_laws_eqIntA2S_raw eqIntA2S_lim
theorem C_laws_eqGraph_raw (N : Nat) : Contract Tryz.prog 49 ⟨[(K_PiSPiiqq, false), (K_PiSPiiqq, false)], [.bool], true, F_laws_eqGraph N⟩ :=
 have E : Env Tryz.prog Γ_laws_eqGraph := env_of tab ⟨C_laws_eqIntA2S, trivial⟩
 con_of (Pc := []) E rfl mixed Tryz.func49 (by kernel_rfl) (by kernel_rfl) (by kernel_rfl) (by kernel_rfl) (fun A hA => trivial) (F_laws_eqGraph_ok N)
theorem C_laws_eqGraph : Contract Tryz.prog 49 S_laws_eqGraph := C_laws_eqGraph_raw 0
theorem C_laws_eqIntS_raw (N : Nat) : Contract Tryz.prog 50 ⟨[(K_Si, false), (K_Si, false)], [.bool], true, F_laws_eqIntS N⟩ :=
 have E : Env Tryz.prog Γ_laws_eqIntS := env_of tab trivial
 con_of (Pc := [(0, ⟨laws_eqIntS_l0_h, laws_eqIntS_l0_o, laws_eqIntS_l0 N N⟩)]) E rfl mixed Tryz.func50 (by kernel_rfl) (by kernel_rfl) (by kernel_rfl) (by kernel_rfl) (fun A hA => ⟨pc_of (inner := []) E mixed hA (by kernel_rfl) (by kernel_rfl) (by kernel_rfl) trivial (fun _ => rfl) (fun m d => (laws_eqIntS_l0_ok N (laws_eqIntS_l0 N m) d).symm) N, trivial⟩) (F_laws_eqIntS_ok N)
theorem C_laws_eqIntS : Contract Tryz.prog 50 S_laws_eqIntS := Contract.less (fun N : Nat => F_laws_eqIntS N) C_laws_eqIntS_raw eqIntS_lim
theorem C_laws_eqWorkshop_raw (N : Nat) : Contract Tryz.prog 13 ⟨[(K_PPiSPiiqqiiSiiq, false), (K_PPiSPiiqqiiSiiq, false)], [.bool], true, F_laws_eqWorkshop N⟩ :=
 have E : Env Tryz.prog Γ_laws_eqWorkshop := env_of tab ⟨C_laws_eqGraph, ⟨C_laws_eqIntS, trivial⟩⟩
 con_of (Pc := []) E rfl mixed Tryz.func13 (by kernel_rfl) (by kernel_rfl) (by kernel_rfl) (by kernel_rfl) (fun A hA => trivial) (F_laws_eqWorkshop_ok N)
theorem C_laws_eqWorkshop : Contract Tryz.prog 13 S_laws_eqWorkshop := C_laws_eqWorkshop_raw 0
theorem C_laws_eqWork_raw (N : Nat) : Contract Tryz.prog 73 ⟨[(K_Piiiq, false), (K_Piiiq, false)], [.bool], true, F_laws_eqWork N⟩ :=
 have E : Env Tryz.prog Γ_laws_eqWork := env_of tab trivial
 con_of (Pc := []) E rfl mixed Tryz.func73 (by kernel_rfl) (by kernel_rfl) (by kernel_rfl) (by kernel_rfl) (fun A hA => trivial) (F_laws_eqWork_ok N)
theorem C_laws_eqWork : Contract Tryz.prog 73 S_laws_eqWork := Contract.less (fun N : Nat => F_laws_eqWork N) C_laws_eqWork_raw (fun d r h => ⟨0, (F_laws_eqWork_tot 0 d).trans h⟩)
theorem C_laws_eqWorkS_raw (N : Nat) : Contract Tryz.prog 40 ⟨[(K_SPiiiq, false), (K_SPiiiq, false)], [.bool], true, F_laws_eqWorkS N⟩ :=
 have E : Env Tryz.prog Γ_laws_eqWorkS := env_of tab ⟨C_laws_eqWork, trivial⟩
 con_of (Pc := [(0, ⟨laws_eqWorkS_l0_h, laws_eqWorkS_l0_o, laws_eqWorkS_l0 N N⟩)]) E rfl mixed Tryz.func40 (by kernel_rfl) (by kernel_rfl) (by kernel_rfl) (by kernel_rfl) (fun A hA => ⟨pc_of (inner := []) E mixed hA (by kernel_rfl) (by kernel_rfl) (by kernel_rfl) trivial (fun _ => rfl) (fun m d => (laws_eqWorkS_l0_ok N (laws_eqWorkS_l0 N m) d).symm) N, trivial⟩) (F_laws_eqWorkS_ok N)
theorem C_laws_eqWorkS : Contract Tryz.prog 40 S_laws_eqWorkS := Contract.less (fun N : Nat => F_laws_eqWorkS N) C_laws_eqWorkS_raw eqWorkS_lim
theorem C_laws_markIntA2S_raw (N : Nat) : Contract Tryz.prog 89 ⟨[(K_SPiiq, true), (I, false)], [I], true, F_laws_markIntA2S N⟩ :=
 have E : Env Tryz.prog Γ_laws_markIntA2S := env_of tab trivial
 con_of (Pc := [(0, ⟨laws_markIntA2S_l0_h, laws_markIntA2S_l0_o, laws_markIntA2S_l0 N N⟩)]) E rfl mixed Tryz.func89 (by kernel_rfl) (by kernel_rfl) (by kernel_rfl) (by kernel_rfl) (fun A hA => ⟨pc_of (inner := [(2, ⟨laws_markIntA2S_l2_h, laws_markIntA2S_l2_o, laws_markIntA2S_l2 N N⟩)]) E mixed hA (by kernel_rfl) (by kernel_rfl) (by kernel_rfl) ⟨pc_of (inner := []) E mixed hA (by kernel_rfl) (by kernel_rfl) (by kernel_rfl) trivial (fun _ => rfl) (fun m d => (laws_markIntA2S_l2_ok N (laws_markIntA2S_l2 N m) d).symm) N, trivial⟩ (fun _ => rfl) (fun m d => (laws_markIntA2S_l0_ok N (laws_markIntA2S_l0 N m) d).symm) N, trivial⟩) (F_laws_markIntA2S_ok N)
theorem C_laws_markIntA2S : Contract Tryz.prog 89 S_laws_markIntA2S := Contract.less (fun N : Nat => F_laws_markIntA2S N) C_laws_markIntA2S_raw markIntA2S_lim
theorem C_laws_markGraph_raw (N : Nat) : Contract Tryz.prog 51 ⟨[(K_PiSPiiqq, true), (I, false)], [I], true, F_laws_markGraph N⟩ :=
 have E : Env Tryz.prog Γ_laws_markGraph := env_of tab ⟨C_laws_markIntA2S, trivial⟩
 con_of (Pc := []) E rfl mixed Tryz.func51 (by kernel_rfl) (by kernel_rfl) (by kernel_rfl) (by kernel_rfl) (fun A hA => trivial) (F_laws_markGraph_ok N)
theorem C_laws_markGraph : Contract Tryz.prog 51 S_laws_markGraph := C_laws_markGraph_raw 0
theorem C_laws_markIntS_raw (N : Nat) : Contract Tryz.prog 52 ⟨[(K_Si, true), (I, false)], [I], true, F_laws_markIntS N⟩ :=
 have E : Env Tryz.prog Γ_laws_markIntS := env_of tab trivial
 con_of (Pc := [(0, ⟨laws_markIntS_l0_h, laws_markIntS_l0_o, laws_markIntS_l0 N N⟩)]) E rfl mixed Tryz.func52 (by kernel_rfl) (by kernel_rfl) (by kernel_rfl) (by kernel_rfl) (fun A hA => ⟨pc_of (inner := []) E mixed hA (by kernel_rfl) (by kernel_rfl) (by kernel_rfl) trivial (fun _ => rfl) (fun m d => (laws_markIntS_l0_ok N (laws_markIntS_l0 N m) d).symm) N, trivial⟩) (F_laws_markIntS_ok N)
theorem C_laws_markIntS : Contract Tryz.prog 52 S_laws_markIntS := Contract.less (fun N : Nat => F_laws_markIntS N) C_laws_markIntS_raw markIntS_lim
theorem C_laws_markWorkshop_raw (N : Nat) : Contract Tryz.prog 14 ⟨[(K_PPiSPiiqqiiSiiq, true), (I, false)], [I], true, F_laws_markWorkshop N⟩ :=
 have E : Env Tryz.prog Γ_laws_markWorkshop := env_of tab ⟨C_laws_markGraph, ⟨C_laws_markIntS, trivial⟩⟩
 con_of (Pc := []) E rfl mixed Tryz.func14 (by kernel_rfl) (by kernel_rfl) (by kernel_rfl) (by kernel_rfl) (fun A hA => trivial) (F_laws_markWorkshop_ok N)
theorem C_laws_markWorkshop : Contract Tryz.prog 14 S_laws_markWorkshop := C_laws_markWorkshop_raw 0
theorem C_laws_markWorkS_raw (N : Nat) : Contract Tryz.prog 41 ⟨[(K_SPiiiq, true), (I, false)], [I], true, F_laws_markWorkS N⟩ :=
 have E : Env Tryz.prog Γ_laws_markWorkS := env_of tab trivial
 con_of (Pc := [(0, ⟨laws_markWorkS_l0_h, laws_markWorkS_l0_o, laws_markWorkS_l0 N N⟩)]) E rfl mixed Tryz.func41 (by kernel_rfl) (by kernel_rfl) (by kernel_rfl) (by kernel_rfl) (fun A hA => ⟨pc_of (inner := []) E mixed hA (by kernel_rfl) (by kernel_rfl) (by kernel_rfl) trivial (fun _ => rfl) (fun m d => (laws_markWorkS_l0_ok N (laws_markWorkS_l0 N m) d).symm) N, trivial⟩) (F_laws_markWorkS_ok N)
theorem C_laws_markWorkS : Contract Tryz.prog 41 S_laws_markWorkS := Contract.less (fun N : Nat => F_laws_markWorkS N) C_laws_markWorkS_raw markWorkS_lim
theorem C_laws_heldIntA2S_raw (N : Nat) : Contract Tryz.prog 90 ⟨[(K_SPiiq, false), (I, false)], [I], true, F_laws_heldIntA2S N⟩ :=
 have E : Env Tryz.prog Γ_laws_heldIntA2S := env_of tab trivial
 con_of (Pc := [(0, ⟨laws_heldIntA2S_l0_h, laws_heldIntA2S_l0_o, laws_heldIntA2S_l0 N N⟩)]) E rfl mixed Tryz.func90 (by kernel_rfl) (by kernel_rfl) (by kernel_rfl) (by kernel_rfl) (fun A hA => ⟨pc_of (inner := [(2, ⟨laws_heldIntA2S_l2_h, laws_heldIntA2S_l2_o, laws_heldIntA2S_l2 N N⟩)]) E mixed hA (by kernel_rfl) (by kernel_rfl) (by kernel_rfl) ⟨pc_of (inner := []) E mixed hA (by kernel_rfl) (by kernel_rfl) (by kernel_rfl) trivial (fun _ => rfl) (fun m d => (laws_heldIntA2S_l2_ok N (laws_heldIntA2S_l2 N m) d).symm) N, trivial⟩ (fun _ => rfl) (fun m d => (laws_heldIntA2S_l0_ok N (laws_heldIntA2S_l0 N m) d).symm) N, trivial⟩) (F_laws_heldIntA2S_ok N)
theorem C_laws_heldIntA2S : Contract Tryz.prog 90 S_laws_heldIntA2S := Contract.less (fun N : Nat => F_laws_heldIntA2S N) C_laws_heldIntA2S_raw heldIntA2S_lim
theorem C_laws_heldGraph_raw (N : Nat) : Contract Tryz.prog 53 ⟨[(K_PiSPiiqq, false), (I, false)], [I], true, F_laws_heldGraph N⟩ :=
 have E : Env Tryz.prog Γ_laws_heldGraph := env_of tab ⟨C_laws_heldIntA2S, trivial⟩
 con_of (Pc := []) E rfl mixed Tryz.func53 (by kernel_rfl) (by kernel_rfl) (by kernel_rfl) (by kernel_rfl) (fun A hA => trivial) (F_laws_heldGraph_ok N)
theorem C_laws_heldGraph : Contract Tryz.prog 53 S_laws_heldGraph := C_laws_heldGraph_raw 0
theorem C_laws_heldIntS_raw (N : Nat) : Contract Tryz.prog 54 ⟨[(K_Si, false), (I, false)], [I], true, F_laws_heldIntS N⟩ :=
 have E : Env Tryz.prog Γ_laws_heldIntS := env_of tab trivial
 con_of (Pc := [(0, ⟨laws_heldIntS_l0_h, laws_heldIntS_l0_o, laws_heldIntS_l0 N N⟩)]) E rfl mixed Tryz.func54 (by kernel_rfl) (by kernel_rfl) (by kernel_rfl) (by kernel_rfl) (fun A hA => ⟨pc_of (inner := []) E mixed hA (by kernel_rfl) (by kernel_rfl) (by kernel_rfl) trivial (fun _ => rfl) (fun m d => (laws_heldIntS_l0_ok N (laws_heldIntS_l0 N m) d).symm) N, trivial⟩) (F_laws_heldIntS_ok N)
theorem C_laws_heldIntS : Contract Tryz.prog 54 S_laws_heldIntS := Contract.less (fun N : Nat => F_laws_heldIntS N) C_laws_heldIntS_raw heldIntS_lim
theorem C_laws_heldWorkshop_raw (N : Nat) : Contract Tryz.prog 15 ⟨[(K_PPiSPiiqqiiSiiq, false), (I, false)], [I], true, F_laws_heldWorkshop N⟩ :=
 have E : Env Tryz.prog Γ_laws_heldWorkshop := env_of tab ⟨C_laws_heldGraph, ⟨C_laws_heldIntS, trivial⟩⟩
 con_of (Pc := []) E rfl mixed Tryz.func15 (by kernel_rfl) (by kernel_rfl) (by kernel_rfl) (by kernel_rfl) (fun A hA => trivial) (F_laws_heldWorkshop_ok N)
theorem C_laws_heldWorkshop : Contract Tryz.prog 15 S_laws_heldWorkshop := C_laws_heldWorkshop_raw 0
theorem C_laws_FnExactDoWorks_raw (N : Nat) : Contract Tryz.prog 7 ⟨[(K_PPiSPiiqqiiSiiq, false), (K_SPiiiq, false)], [.bool], true, F_laws_FnExactDoWorks N⟩ :=
 have E : Env Tryz.prog Γ_laws_FnExactDoWorks := env_of tab ⟨C_laws_szWorkshop, ⟨C_laws_toWorkshop, ⟨C_laws_eqWorkshop, ⟨C_laws_markWorkshop, ⟨C_laws_heldWorkshop, ⟨C_impl_DoWorks, ⟨C_spec_DoWorks, ⟨C_laws_szWorkS, ⟨C_laws_toWorkS, ⟨C_laws_eqWorkS, ⟨C_laws_markWorkS, trivial⟩⟩⟩⟩⟩⟩⟩⟩⟩⟩⟩
 con_of (Pc := []) E rfl mixed Tryz.func7 (by kernel_rfl) (by kernel_rfl) (by kernel_rfl) (by kernel_rfl) (fun A hA => trivial) (F_laws_FnExactDoWorks_ok N)
theorem C_laws_FnExactDoWorks : Contract Tryz.prog 7 S_laws_FnExactDoWorks := C_laws_FnExactDoWorks_raw 0
end Go.V.W
