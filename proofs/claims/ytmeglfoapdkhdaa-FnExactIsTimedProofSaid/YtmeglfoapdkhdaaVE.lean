/- What the law FnExactIsTimedProof leans on, part 5: an interpreter of the model as plain data, its soundness, the functions as it tells them, and their laws. -/
import Derived.Shelf.Lays
import Derived.Shelf.Strings.IndexAnyAll
import Derived.Test.YtmeglfoapdkhdaaVD
set_option linter.unusedVariables false
set_option linter.unusedSimpArgs false
set_option maxRecDepth 100000
set_option linter.unusedVariables false
set_option linter.unusedSimpArgs false
namespace Go.V.W
open Go.Proofs
theorem l2Near_lim (d) (r) (h : G_l2Near d = some r) : ∃ N, F_spec_l2Near N d = some r := by
  obtain ⟨g, a, b, _⟩ := d
  unfold G_l2Near at h
  split at h
  · rename_i hl
    have hl : g.2.1.length ≤ lim := okL_lim hl
    have h := Option.some.inj h
    subst h
    refine ⟨g.2.1.length + 1, ?_⟩
    unfold F_spec_l2Near
    have := loop_idx (L := spec_l2Near_l0 (g.2.1.length + 1)) (r := spec_l2Near_l0_r (g.2.1.length + 1)) (fun _ _ => rfl) (e := K_Piiq) g.2.1 (mk := fun i => (a, b, g, (i : Int), ())) (q := fun e => (e.1 == a && e.2.1 == b) || (e.1 == b && e.2.1 == a)) (o := fun _ => .inl (true, ())) (f := .inr (.inl ()))
      (by
        intro back i hi
        unfold spec_l2Near_l0_r
        simp only [lt_dec hi, if_true, idxIn_nat hi, Int.toNat_natCast, wrap_up hi (lim_max hl)]
        rcases Bool.eq_false_or_eq_true ((at_ K_Piiq g.2.1 i).1 == a) with c1 | c1 <;> rcases Bool.eq_false_or_eq_true ((at_ K_Piiq g.2.1 i).2.1 == b) with c2 | c2 <;> rcases Bool.eq_false_or_eq_true ((at_ K_Piiq g.2.1 i).1 == b) with c3 | c3 <;> rcases Bool.eq_false_or_eq_true ((at_ K_Piiq g.2.1 i).2.1 == a) with c4 | c4 <;>
          simp only [c1, c2, c3, c4, if_true, if_false, Bool.false_eq_true, Bool.and_true, Bool.and_false, Bool.or_true, Bool.or_false, Bool.true_or, Bool.or_self, Bool.and_self])
      (by intro back; unfold spec_l2Near_l0_r; simp only [lt_not, Bool.false_eq_true, if_false]) g.2.1.length 0 (by omega) (by omega)
    simp only [Int.natCast_zero, List.drop_zero] at this
    have hge := idxI_ge (fun e : E => (e.1 == a && e.2.1 == b) || (e.1 == b && e.2.1 == a)) g.2.1 0
    simp only [this, Option.bind_some, nearI, ← hge]
    cases idxN (fun e : E => (e.1 == a && e.2.1 == b) || (e.1 == b && e.2.1 == a)) g.2.1 0 with
    | none => rfl
    | some j => simp [idxI]
  · cases h
theorem l2Neighbors_l0 (N : Nat) (g : Gr) (x : Int) (n : Nat) (hN : g.1 = (n : Int)) (hn : n ≤ 8) (ho : okL g.2.1 = true) : ∀ (k y f : Nat) (A : List Int), y + k = n → k < f → A.length + k ≤ 1000 →
    spec_l2Neighbors_l0 N f (x, g, A, (y : Int), ()) = some (.inl (A ++ setF (fun y => nearI g.2.1 x (y : Int)) k y, ())) := by
  intro k
  induction k with
  | zero =>
    intro y f A h1 h2 h3
    obtain ⟨f, rfl⟩ : ∃ m, f = m + 1 := ⟨f - 1, by omega⟩
    have e : y = n := by omega
    subst e
    simp [spec_l2Neighbors_l0, spec_l2Neighbors_l0_r, setF, hN]
  | succ k ih =>
    intro y f A h1 h2 h3
    obtain ⟨f, rfl⟩ : ∃ m, f = m + 1 := ⟨f - 1, by omega⟩
    have hy : y < n := by omega
    show spec_l2Neighbors_l0_r N (spec_l2Neighbors_l0 N f) (x, g, A, (y : Int), ()) = _
    unfold spec_l2Neighbors_l0_r
    have hw : IntKind.wrap .i64 ((y : Int) + 1) = ((y + 1 : Nat) : Int) := by
      rw [wrap_in _ (by omega) (by omega)]
      rfl
    have hle : decide (A.length + List.length [(y : Int)] ≤ lim) = true := by
      unfold lim
      simp
      omega
    simp only [hN, lt_dec hy, if_true, G_l2Near, ho, Option.bind_some, hle, hw]
    unfold setF
    by_cases hh : nearI g.2.1 x (y : Int) = true
    · rw [if_pos hh, if_pos hh, ih (y + 1) f _ (by omega) (by omega) (by simp; omega)]
      simp
    · rw [if_neg hh, if_neg hh]
      exact ih (y + 1) f A (by omega) (by omega) (by omega)
theorem l2Neighbors_lim (d) (r) (h : G_l2Neighbors d = some r) : ∃ N, F_spec_l2Neighbors N d = some r := by
  obtain ⟨g, x, _⟩ := d
  unfold G_l2Neighbors at h
  split at h
  · rename_i hc
    simp only [Bool.and_eq_true, decide_eq_true_eq] at hc
    obtain ⟨⟨h1, h2⟩, h3⟩ := hc
    have h := Option.some.inj h
    subst h
    refine ⟨20, ?_⟩
    unfold F_spec_l2Neighbors
    have := l2Neighbors_l0 20 g x g.1.toNat (by omega) (by omega) h1 g.1.toNat 0 20 [] (by omega) (by omega) (by simp; omega)
    simp only [Int.natCast_zero, List.nil_append] at this
    simp only [this, Option.bind_some]
  · cases h
def lowN (x : Int) : List Int → Nat
  | [] => 0
  | a :: l => if a < x then lowN x l + 1 else 0
theorem lowN_le (x : Int) : ∀ l, lowN x l ≤ l.length := by
  intro l
  induction l with
  | nil => simp [lowN]
  | cons a l ih => simp only [lowN]; split <;> simp; omega
theorem l1Put_l0 (N : Nat) (l : List Int) (x : Int) (hl : l.length ≤ 1000) : ∀ (k i f : Nat), i + k = l.length → k < f → spec_l1Put_l0 N f (l, x, (i : Int), ()) = some (.inl (l, x, ((i + lowN x (l.drop i) : Nat) : Int), ())) := by
  have hmx : l.length ≤ maxLen := by unfold maxLen; omega
  intro k
  induction k with
  | zero =>
    intro i f h1 h2
    obtain ⟨f, rfl⟩ : ∃ m, f = m + 1 := ⟨f - 1, by omega⟩
    have e : i = l.length := by omega
    subst e
    rw [List.drop_of_length_le (Nat.le_refl _)]
    simp [spec_l1Put_l0, spec_l1Put_l0_r, lowN]
  | succ k ih =>
    intro i f h1 h2
    obtain ⟨f, rfl⟩ : ∃ m, f = m + 1 := ⟨f - 1, by omega⟩
    have hi : i < l.length := by omega
    show spec_l1Put_l0_r N (spec_l1Put_l0 N f) (l, x, (i : Int), ()) = _
    unfold spec_l1Put_l0_r
    have e : at_ I l i = l[i] := at_get (e := I) hi
    rw [List.drop_eq_getElem_cons hi]
    simp only [lt_dec hi, if_true, idxIn_nat hi, Int.toNat_natCast, wrap_up hi hmx, e, lowN]
    by_cases c : l[i] < x
    · simp only [c, decide_true, if_true]
      rw [ih (i + 1) f (by omega) (by omega)]
      congr 5
      omega
    · simp only [c, decide_false, Bool.false_eq_true, if_false, Nat.add_zero]
theorem putL_low' (x : Int) : ∀ l : List Int, putL x l = if h : lowN x l < l.length then (if l[lowN x l] = x then l else l.take (lowN x l) ++ [x] ++ l.drop (lowN x l)) else l ++ [x] := by
  intro l
  induction l with
  | nil => rfl
  | cons a l ih =>
    simp only [putL, lowN]
    by_cases c : a < x
    · simp only [c, if_true, ih, List.length_cons, Nat.add_lt_add_iff_right, List.getElem_cons_succ, List.take_succ_cons, List.drop_succ_cons]
      split
      · split <;> simp
      · simp
    · by_cases c2 : a = x
      · simp [c, c2]
      · simp [c, c2]
theorem l1Put_lim (d) (r) (h : G_l1Put d = some r) : ∃ N, F_spec_l1Put N d = some r := by
  obtain ⟨l, x, _⟩ := d
  unfold G_l1Put at h
  split at h
  · rename_i hl
    have hl : l.length ≤ 1000 := of_decide_eq_true hl
    have h := Option.some.inj h
    subst h
    refine ⟨l.length + 1, ?_⟩
    unfold F_spec_l1Put
    have := l1Put_l0 (l.length + 1) l x hl l.length 0 (l.length + 1) (by omega) (by omega)
    simp only [Int.natCast_zero, List.drop_zero, Nat.zero_add] at this
    have hk := lowN_le x l
    generalize hkk : lowN x l = k at this hk
    simp only [this, Option.bind_some, putL_low', hkk]
    have hL : (lim : Int) = 1099511627776 := rfl
    have c0 : (decide (0 ≤ (0 : Int)) && decide ((0 : Int) ≤ (k : Int)) && decide ((k : Int) ≤ (l.length : Int))) = true := by simp; omega
    have c1 : decide (List.length ([] : List Int) + List.length (sub_ l (0 : Int) (k : Int)) ≤ lim) = true := by unfold lim sub_; simp; omega
    have c2 : decide (List.length (([] : List Int) ++ sub_ l (0 : Int) (k : Int)) + List.length [x] ≤ lim) = true := by unfold lim sub_; simp; omega
    have c3 : (decide (0 ≤ (k : Int)) && decide ((k : Int) ≤ (l.length : Int)) && decide ((l.length : Int) ≤ (l.length : Int))) = true := by simp; omega
    have c4 : decide (List.length (([] : List Int) ++ sub_ l (0 : Int) (k : Int) ++ [x]) + List.length (sub_ l (k : Int) (l.length : Int)) ≤ lim) = true := by unfold lim sub_; simp; omega
    have e1 : sub_ l (0 : Int) (k : Int) = l.take k := by simp [sub_]
    have e2 : sub_ l (k : Int) (l.length : Int) = l.drop k := by simp [sub_]
    by_cases hlt : k < l.length
    · have e : at_ I l k = l[k] := at_get (e := I) hlt
      simp only [lt_dec hlt, if_true, idxIn_nat hlt, Int.toNat_natCast, e, hlt, dite_true, c0, c1, c2, c3, c4]
      by_cases c : l[k] = x
      · simp [c]
      · have c' : (l[k] == x) = false := by simpa using c
        simp only [c', c, Bool.false_eq_true, if_false, e1, e2, List.nil_append]
    · have hlt' : decide ((k : Int) < (l.length : Int)) = false := by simp; omega
      have ek : k = l.length := by omega
      simp only [hlt', Bool.false_eq_true, if_false, c0, c1, c2, c3, c4, if_true, hlt, dite_false, e1, e2, List.nil_append]
      subst ek
      simp
      unfold lim
      omega
  · cases h
theorem shr_bit {m y : Nat} (hm : m < 256) (h : y < 8) : (bits .and .i64 (shr .i64 (m : Int) (y : Int)) 1 == (1 : Int)) = m.testBit y := has_bit hm h
theorem setOf_l0 (N : Nat) (s : Nat) (hs : s < 256) : ∀ (k x f : Nat) (A : List Int), x + k = 8 → k < f → A.length + k ≤ 100 →
    impl_setOf_l0 N f ((s : Int), A, (x : Int), ()) = some (.inl (A ++ setF (fun y => s.testBit y) k x, ())) := by
  intro k
  induction k with
  | zero =>
    intro x f A h1 h2 h3
    obtain ⟨f, rfl⟩ : ∃ m, f = m + 1 := ⟨f - 1, by omega⟩
    have e : x = 8 := by omega
    subst e
    have : shr .i64 (s : Int) ((8 : Nat) : Int) = 0 := by
      unfold shr
      have e : min ((8 : Nat) : Int).toNat IntKind.i64.bits = 8 := by decide
      rw [e, Int.fdiv_eq_ediv_of_nonneg _ (by decide)]
      omega
    show impl_setOf_l0_r N (impl_setOf_l0 N f) ((s : Int), A, ((8 : Nat) : Int), ()) = _
    unfold impl_setOf_l0_r
    have h8 : decide (0 ≤ ((8 : Nat) : Int)) = true := by decide
    have hz : ((0 : Int) != 0) = false := by decide
    simp only [h8, if_true, this, hz, Bool.false_eq_true, if_false, setF, List.append_nil]
  | succ k ih =>
    intro x f A h1 h2 h3
    obtain ⟨f, rfl⟩ : ∃ m, f = m + 1 := ⟨f - 1, by omega⟩
    have hx : x < 8 := by omega
    show impl_setOf_l0_r N (impl_setOf_l0 N f) ((s : Int), A, (x : Int), ()) = _
    unfold impl_setOf_l0_r
    have hw : IntKind.wrap .i64 ((x : Int) + 1) = ((x + 1 : Nat) : Int) := by
      rw [wrap_in _ (by omega) (by omega)]
      rfl
    have hle : decide (A.length + List.length [(x : Int)] ≤ lim) = true := by
      unfold lim
      simp
      omega
    simp only [nonneg_dec, if_true, shr_bit hs hx, hle, hw]
    by_cases hz : s >>> x = 0
    · have e1 : (shr .i64 (s : Int) (x : Int) != (0 : Int)) = false := by rw [shr_nat hx, hz]; decide
      simp only [e1, Bool.false_eq_true, if_false]
      have e2 : setF (fun y => s.testBit y) (k + 1) x = [] := by
        rw [← setF_empty (n := k + 1) (x := x)]
        refine setF_congr fun y h _ => ?_
        have : s < 2 ^ x := by
          rw [Nat.shiftRight_eq_div_pow] at hz
          exact (Nat.div_eq_zero_iff_lt (Nat.two_pow_pos x)).1 hz
        exact Nat.testBit_lt_two_pow (Nat.lt_of_lt_of_le this (Nat.pow_le_pow_right (by omega) h))
      rw [e2, List.append_nil]
    · have e1 : (shr .i64 (s : Int) (x : Int) != (0 : Int)) = true := by
        rw [shr_nat hx]
        have : ((s >>> x : Nat) : Int) ≠ 0 := fun e => hz (by exact_mod_cast e)
        simpa using this
      simp only [e1, if_true]
      unfold setF
      by_cases hb : s.testBit x = true
      · rw [if_pos hb, if_pos hb, ih (x + 1) f _ (by omega) (by omega) (by simp; omega)]
        simp
      · rw [if_neg hb, if_neg hb]
        exact ih (x + 1) f A (by omega) (by omega) (by omega)
theorem setOf_lim (d) (r) (h : G_setOf d = some r) : ∃ N, F_impl_setOf N d = some r := by
  obtain ⟨s, _⟩ := d
  unfold G_setOf at h
  split at h
  · rename_i hc
    simp only [Bool.and_eq_true, decide_eq_true_eq] at hc
    have h := Option.some.inj h
    subst h
    refine ⟨20, ?_⟩
    unfold F_impl_setOf
    have := setOf_l0 20 s.toNat (by omega) 8 0 20 [] (by omega) (by omega) (by simp)
    rw [show ((s.toNat : Nat) : Int) = s by omega] at this
    simp only [Int.natCast_zero, List.nil_append] at this
    simp only [this, Option.bind_some]
  · cases h
end Go.V.W
set_option linter.unusedVariables false
set_option linter.unusedSimpArgs false
namespace Go.V.W
open Go.Proofs
theorem small_toI {n : Nat} {ms : List Nat} (hok : okN n ms) (hn : n ≤ 8) : smallN (toI ms) = true := by
  unfold smallN
  simp only [toI_len, hok.1, Bool.and_eq_true, decide_eq_true_eq, List.all_eq_true]
  refine ⟨hn, fun m hm => ?_⟩
  unfold toI at hm
  obtain ⟨x, hx, rfl⟩ := List.mem_map.1 hm
  obtain ⟨i, hi, rfl⟩ := List.getElem_of_mem hx
  have := hok.2 i
  simp only [List.getD_eq_getElem?_getD, List.getElem?_eq_getElem hi, Option.getD_some] at this
  omega
end Go.V.W
set_option linter.unusedVariables false
set_option linter.unusedSimpArgs false
namespace Go.V.W
open Go.Proofs
theorem openNets_some {t : Tt} (ht : timeB t = true) (ho : okT t = true) : G_openNets (t, ()) = some (netsL t, ()) := by
  unfold G_openNets
  rw [if_pos (by rw [ht, ho]; rfl)]
end Go.V.W
set_option linter.unusedVariables false
set_option linter.unusedSimpArgs false
namespace Go.V.W
open Go.Proofs
theorem ball_eq (g : Gr) (n : Nat) (hg : g.1 = (n : Int)) (hn : n ≤ 8) (ho : okL g.2.1 = true) (z : Int) : F_spec_l2Ball 0 (g, z, ()) = some (ballL n g.2.1 z, ()) := by
  unfold F_spec_l2Ball G_l2Neighbors G_l1Put
  have a2 : okS1 (setF (fun y => nearI g.2.1 z (y : Int)) n 0) = true := by
    have := setF_len (p := fun y => nearI g.2.1 z (y : Int)) (k := n) (x := 0)
    exact decide_eq_true (by omega)
  have a3 : (okL g.2.1 && decide (0 ≤ (n : Int)) && decide ((n : Int) ≤ 8)) = true := by
    rw [ho]
    simp
    omega
  simp only [hg, a3, if_true, Int.toNat_natCast, Option.bind_some, a2, ballL]
theorem open_some {t : Tt} (ht : timeB t = true) (ho : okT t = true) {c : Int} (h0 : 0 ≤ c) (h1 : c ≤ 5000) : G_l11Open (t, c, ()) = some ((t.1.1, openE t (c.tmod t.2.1), ()), ()) := by
  unfold G_l11Open
  have e1 : decide (0 ≤ c) = true := by simp; omega
  have e2 : decide (c ≤ 5000) = true := by simp; omega
  rw [if_pos (by simp only [ht, ho, e1, e2, Bool.and_self])]
theorem openE_okL {t : Tt} (ho : okT t = true) (r : Int) : okL (openE t r) = true := by
  have hlen := selE_len t.1.2.1 t.2.2.1 r
  have := okL_lim (okT_parts ho).1
  exact decide_eq_true (Nat.le_trans hlen this)
end Go.V.W
set_option linter.unusedVariables false
set_option linter.unusedSimpArgs false
namespace Go.V.W
theorem tabL_row {n c : Nat} (f : Nat → Nat → Int) (h : c < n) : (tabL n f)[c]? = some ((List.range n).map fun r => f c r) := by
  unfold tabL
  rw [List.getElem?_map, List.getElem?_range h]
  rfl
theorem rowR_get {n r : Nat} (g : Nat → Int) (h : r < n) : ((List.range n).map g)[r]? = some (g r) := by
  rw [List.getElem?_map, List.getElem?_range h]
  rfl
theorem tab2_tabL {n c r : Nat} (f : Nat → Nat → Int) (hc : c < n) (hr : r < n) : tab2 (tabL n f) (c : Int) (r : Int) = f c r := by
  unfold tab2
  simp only [Int.toNat_natCast, List.getD_eq_getElem?_getD, tabL_row f hc, Option.getD_some, rowR_get _ hr]
theorem worst_congr {f g : Int → Int} : ∀ {l : List Int} {m : Int}, (∀ x ∈ l, f x = g x) → worstL f l m = worstL g l m := by
  intro l
  induction l with
  | nil => intro m _; rfl
  | cons b bs ih =>
    intro m h
    simp only [worstL, h b (by simp)]
    rw [ih fun x hx => h x (by simp [hx])]
/-- The greatest of all, or -1. -/
theorem worst_spec (f : Int → Int) : ∀ (l : List Int) (m : Int), (∃ x ∈ l, f x < 0) ∧ worstL f l m = -1 ∨ (∀ x ∈ l, 0 ≤ f x ∧ f x ≤ worstL f l m) ∧ m ≤ worstL f l m ∧ (worstL f l m = m ∨ ∃ x ∈ l, worstL f l m = f x) := by
  intro l
  induction l with
  | nil => intro m; exact .inr ⟨fun x hx => by simp at hx, Int.le_refl _, .inl rfl⟩
  | cons b bs ih =>
    intro m
    simp only [worstL]
    by_cases hb : f b < 0
    · rw [if_pos hb]
      exact .inl ⟨⟨b, by simp, hb⟩, rfl⟩
    · rw [if_neg hb]
      rcases ih (if m < f b then f b else m) with ⟨⟨x, hx, h1⟩, h2⟩ | ⟨h1, h2, h3⟩
      · exact .inl ⟨⟨x, by simp [hx], h1⟩, h2⟩
      · have hge : m ≤ (if m < f b then f b else m) ∧ f b ≤ (if m < f b then f b else m) := by split <;> omega
        refine .inr ⟨fun x hx => ?_, by omega, ?_⟩
        · rcases List.mem_cons.1 hx with rfl | hx
          · omega
          · exact h1 x hx
        · rcases h3 with h3 | ⟨x, hx, h3⟩
          · by_cases hm : m < f b
            · rw [if_pos hm] at h3 ⊢
              exact .inr ⟨b, by simp, h3⟩
            · rw [if_neg hm] at h3 ⊢
              exact .inl h3
          · exact .inr ⟨x, by simp [hx], h3⟩
/-- The balls hold nodes alone. -/
def okBall (n : Nat) (ball : Int → List Int) : Prop := ∀ x : Nat, x < n → ∀ z ∈ ball (x : Int), ∃ y : Nat, y < n ∧ z = (y : Int)
/-- What holds before the round t. -/
structure InvT (n : Nat) (ball : Int → List Int) (t : Nat) (f : Nat → Nat → Int) : Prop where
  pos : 1 ≤ t
  low : ∀ c r, c < n → r < n → -1 ≤ f c r
  high : ∀ c r, c < n → r < n → f c r < (t : Int)
  none : ∀ c r, c < n → r < n → f c r < 0 → ∀ b ∈ ball (c : Int), ¬ (0 ≤ afterT ball (tabL n f) b (r : Int) ∧ afterT ball (tabL n f) b (r : Int) < (t : Int) - 1)
theorem InvT.next {n : Nat} {ball : Int → List Int} (hb : okBall n ball) {t : Nat} {f : Nat → Nat → Int} (hI : InvT n ball t f) : InvT n ball (t + 1) (stepF n ball (t : Int) f) := by
  have hp := hI.pos
  refine ⟨by omega, fun c r hc hr => ?_, fun c r hc hr => ?_, fun c r hc hr hf b hbm => ?_⟩
  · unfold stepF
    split
    · omega
    · exact hI.low c r hc hr
  · unfold stepF
    split
    · omega
    · have := hI.high c r hc hr; omega
  · rintro ⟨h1, h2⟩
    have hst : stepF n ball (t : Int) f c r = f c r ∧ canF n ball f c r = false := by
      unfold stepF at hf ⊢
      by_cases hcan : canF n ball f c r = true
      · rw [if_pos hcan] at hf; omega
      · rw [if_neg hcan]
        exact ⟨rfl, by simpa using hcan⟩
    rw [hst.1] at hf
    have hno : ∀ b ∈ ball (c : Int), ¬ 0 ≤ afterT ball (tabL n f) b (r : Int) := by
      intro b hbm h
      have := hst.2
      unfold canF at this
      simp only [hf, decide_true, Bool.true_and] at this
      have ht : ((ball (c : Int)).any fun b => decide (0 ≤ afterT ball (tabL n f) b (r : Int))) = true := List.any_eq_true.2 ⟨b, hbm, decide_eq_true h⟩
      rw [ht] at this
      cases this
    refine hno b hbm ?_
    unfold afterT at h1 h2 ⊢
    by_cases hbr : b = (r : Int)
    · rw [if_pos hbr]
      exact Int.le_refl _
    · rw [if_neg hbr] at h1 h2 ⊢
      obtain ⟨b', hb1, rfl⟩ := hb c hc b hbm
      rcases worst_spec (tab2 (tabL n (stepF n ball (t : Int) f)) (b' : Int)) (ball (r : Int)) 0 with ⟨_, h⟩ | ⟨hall, _, _⟩
      · omega
      · have e : worstL (tab2 (tabL n f) (b' : Int)) (ball (r : Int)) 0 = worstL (tab2 (tabL n (stepF n ball (t : Int) f)) (b' : Int)) (ball (r : Int)) 0 := by
          refine worst_congr fun x hx => ?_
          obtain ⟨y, hy, rfl⟩ := hb r hr x hx
          have := hall (y : Int) hx
          rw [tab2_tabL _ hb1 hy] at this
          rw [tab2_tabL _ hb1 hy, tab2_tabL _ hb1 hy]
          by_cases hcan : canF n ball f b' y = true
          · have e : stepF n ball (t : Int) f b' y = (t : Int) := if_pos hcan
            rw [e] at this
            omega
          · exact (if_neg hcan).symm
        rw [e]
        exact h1
theorem InvT.start (n : Nat) (ball : Int → List Int) : InvT n ball 1 startF := by
  refine ⟨Nat.le_refl _, fun c r _ _ => ?_, fun c r _ _ => ?_, fun c r _ _ _ b _ h => ?_⟩
  · unfold startF; split <;> omega
  · unfold startF; split <;> omega
  · omega
end Go.V.W
set_option linter.unusedVariables false
set_option linter.unusedSimpArgs false
namespace Go.V.W
open Go.Proofs
theorem sqL_parts {n : Nat} {T : Tab} (h : sqL n T = true) : T.length = n ∧ ∀ c, c < n → (at_ K_Si T c).length = n := by
  unfold sqL at h
  simp only [Bool.and_eq_true, decide_eq_true_eq, List.all_eq_true] at h
  refine ⟨h.1, fun c hc => ?_⟩
  have hlt : c < T.length := by omega
  have e : at_ K_Si T c = T[c] := at_get (e := K_Si) hlt
  rw [e]
  exact h.2 _ (List.getElem_mem hlt)
theorem most_eq (m v : Int) : g_spec_l1Most (m, v, ()) = ((if m < v then v else m), ()) := by
  unfold g_spec_l1Most
  by_cases h : m > v
  · have h2 : ¬ m < v := by omega
    simp [h, h2]
  · simp only [h, decide_false, Bool.false_eq_true, if_false]
    by_cases h2 : m < v
    · rw [if_pos h2]
    · have e : m = v := by omega
      rw [if_neg h2, e]
theorem grB_parts {g : Gr} (h : grB g = true) : okL g.2.1 = true ∧ g.1 = (g.1.toNat : Int) ∧ g.1.toNat ≤ 8 ∧ g.2.1.all (edgeB (g.1.toNat : Int)) = true := by
  unfold grB at h
  simp only [Bool.and_eq_true, decide_eq_true_eq] at h
  obtain ⟨⟨⟨h1, h2⟩, h3⟩, h4⟩ := h
  have e : g.1 = (g.1.toNat : Int) := by omega
  exact ⟨h1, e, by omega, by rw [← e]; exact h4⟩
theorem ballF_ok (n : Nat) (es : List E) : okBall n (ballF n es) := fun x _ z hz => setF_nat z hz
theorem ballF_len (n : Nat) (es : List E) (x : Int) : (ballF n es x).length ≤ n := setF_len
theorem ball_some {g : Gr} (h : grB g = true) {x : Nat} (hx : x < g.1.toNat) : F_spec_l2Ball 0 (g, (x : Int), ()) = some (ballF g.1.toNat g.2.1 (x : Int), ()) := by
  obtain ⟨h1, h2, h3, h4⟩ := grB_parts h
  rw [ball_eq g g.1.toNat h2 h3 h1, ballL_set hx]
  show some (setF _ _ _, ()) = some (setF _ _ _, ())
  congr 2
  exact setF_congr fun y _ _ => by
    congr 1
    exact decide_eq_decide.2 (by omega)
theorem wrap8 {i n : Nat} (h : i < n) (hn : n ≤ 8) : IntKind.wrap .i64 ((i : Int) + 1) = ((i + 1 : Nat) : Int) := by
  rw [wrap_in _ (by omega) (by omega)]
  rfl
theorem map_set (n r : Nat) (g : Nat → Int) (v : Int) : ((List.range n).map g).set r v = (List.range n).map fun j => if j = r then v else g j := by
  apply List.ext_getElem
  · simp
  · intro i h1 h2
    simp only [List.length_set, List.length_map, List.length_range] at h1
    rw [List.getElem_set]
    by_cases e : r = i
    · subst e; simp
    · have e' : ¬ i = r := fun h => e h.symm
      simp [e, e']
end Go.V.W
set_option linter.unusedVariables false
set_option linter.unusedSimpArgs false
namespace Go.V.W
open Go.Proofs
theorem netB_parts {l : List Int} (h : netB l = true) : l = toI (fromI l) ∧ okN l.length (fromI l) ∧ l.length ≤ 8 ∧ ∀ x, x < l.length → (fromI l).getD x 0 < 2 ^ l.length := by
  unfold netB at h
  simp only [Bool.and_eq_true, List.all_eq_true, decide_eq_true_eq] at h
  obtain ⟨h1, h2⟩ := h
  obtain ⟨e, hm, h8⟩ := smallN_nat h1
  refine ⟨e, hm, h8, fun x hx => ?_⟩
  have hx' : x < (fromI l).length := by rw [hm.1]; exact hx
  have h3 := h2 l[x] (List.getElem_mem hx)
  simp only [List.getD_eq_getElem?_getD, List.getElem?_eq_getElem hx', Option.getD_some]
  have e2 : (fromI l)[x] = l[x].toNat := by simp [fromI]
  rw [e2]
  have : 0 < 2 ^ l.length := Nat.two_pow_pos _
  omega
theorem two_lt {x n : Nat} (h : x < n) : 2 ^ x < 2 ^ n := Nat.pow_lt_pow_right (by omega) h
theorem maskM {l : List Int} (h : netB l = true) {x : Nat} (hx : x < l.length) : (fromI l).getD x 0 ||| 2 ^ x < 256 ∧ (fromI l).getD x 0 ||| 2 ^ x < 2 ^ l.length := by
  obtain ⟨e, hm, h8, hb⟩ := netB_parts h
  exact ⟨Nat.or_lt_two_pow (n := 8) (hm.2 x) (pow_small (by omega)), Nat.or_lt_two_pow (hb x hx) (two_lt hx)⟩
theorem ballM_ok {l : List Int} (h : netB l = true) : okBall l.length (ballM l) := by
  intro x hx z hz
  unfold ballM at hz
  obtain ⟨y, _, _, h3, h4⟩ := setF_mem.1 hz
  refine ⟨y, ?_, h4⟩
  rcases Nat.lt_or_ge y l.length with h5 | h5
  · exact h5
  · rw [Int.toNat_natCast] at h3
    rw [Nat.testBit_lt_two_pow (Nat.lt_of_lt_of_le (maskM h hx).2 (Nat.pow_le_pow_right (by omega) h5))] at h3
    cases h3
theorem ballM_len (l : List Int) (x : Int) : (ballM l x).length ≤ 8 := setF_len
theorem closedM {l : List Int} (h : netB l = true) (u : Unit) {x : Nat} (hx : x < l.length) : F_impl_net_closed 0 ((l, u), (x : Int), ()) = some ((((fromI l).getD x 0 ||| 2 ^ x : Nat) : Int), ()) := by
  obtain ⟨e, hm, h8, hb⟩ := netB_parts h
  unfold F_impl_net_closed
  have i1 : idxIn (x : Int) l.length = true := idxIn_nat hx
  have e1 : at_ I l x = (((fromI l).getD x 0 : Nat) : Int) := by
    have := at_toI (fromI l) x
    rw [← e] at this
    exact this
  simp only [i1, if_true, nonneg_dec, Int.toNat_natCast, e1, shl_one (show x < 8 by omega), bits_or (hm.2 x) (pow_small (show x < 8 by omega))]
theorem setOfM {l : List Int} (h : netB l = true) {x : Nat} (hx : x < l.length) : G_setOf ((((fromI l).getD x 0 ||| 2 ^ x : Nat) : Int), ()) = some (ballM l (x : Int), ()) := by
  have hm := (maskM h hx).1
  unfold G_setOf
  have b2 : decide ((((fromI l).getD x 0 ||| 2 ^ x : Nat) : Int) < 256) = true := by
    simp only [decide_eq_true_eq]
    omega
  simp only [nonneg_dec, b2, Bool.and_self, if_true, Int.toNat_natCast]
  rfl
theorem inB_len {n : Nat} {x : Int} (h : inB 0 ((n : Int) - 1) x = true) : x = (x.toNat : Int) ∧ x.toNat < n := by
  have := inB_iff.1 h
  omega
theorem after_l0 (N n : Nat) (row : List Int) (hrow : row.length = n) (ball : List Int) (hb : ∀ z ∈ ball, ∃ y : Nat, y < n ∧ z = (y : Int)) (hl : ball.length ≤ 1000) : ∀ (k i f : Nat) (m : Int), i + k = ball.length → k < f →
    impl_net_timeAfter_l0 N f (row, m, ball, (ball.length : Int), (i : Int), ()) = some (.inl (worstL (fun z => row.getD z.toNat 0) (ball.drop i) m, ())) ∨ impl_net_timeAfter_l0 N f (row, m, ball, (ball.length : Int), (i : Int), ()) = some (.inr (.inl (worstL (fun z => row.getD z.toNat 0) (ball.drop i) m, ()))) := by
  have hmx : ball.length ≤ maxLen := by unfold maxLen; omega
  intro k
  induction k with
  | zero =>
    intro i f m h1 h2
    obtain ⟨f, rfl⟩ : ∃ m, f = m + 1 := ⟨f - 1, by omega⟩
    have e : i = ball.length := by omega
    subst e
    rw [List.drop_of_length_le (Nat.le_refl _)]
    right
    simp [impl_net_timeAfter_l0, impl_net_timeAfter_l0_r, worstL]
  | succ k ih =>
    intro i f m h1 h2
    obtain ⟨f, rfl⟩ : ∃ m, f = m + 1 := ⟨f - 1, by omega⟩
    have hi : i < ball.length := by omega
    obtain ⟨y, hy, ey⟩ := hb ball[i] (List.getElem_mem hi)
    have e : at_ I ball i = (y : Int) := (at_get (e := I) hi).trans ey
    have i2 : idxIn (y : Int) row.length = true := idxIn_nat (by omega)
    have hy' : y < row.length := by omega
    have hv : at_ I row y = row.getD y 0 := by
      rw [at_get (e := I) hy']
      simp [List.getD_eq_getElem?_getD, hy']
    have hd : ball.drop i = (y : Int) :: ball.drop (i + 1) := by rw [List.drop_eq_getElem_cons hi, ey]
    have step : impl_net_timeAfter_l0 N (f + 1) (row, m, ball, (ball.length : Int), (i : Int), ()) = if row.getD y 0 < 0 then some (.inl (-1, ())) else impl_net_timeAfter_l0 N f (row, (if m < row.getD y 0 then row.getD y 0 else m), ball, (ball.length : Int), ((i + 1 : Nat) : Int), ()) := by
      show impl_net_timeAfter_l0_r N (impl_net_timeAfter_l0 N f) (row, m, ball, (ball.length : Int), (i : Int), ()) = _
      unfold impl_net_timeAfter_l0_r
      simp only [lt_dec hi, if_true, idxIn_nat hi, Int.toNat_natCast, e, i2, hv, wrap_up hi hmx]
      by_cases h : row.getD y 0 < 0
      · simp only [h, decide_true, if_true]
      · simp only [h, decide_false, Bool.false_eq_true, if_false]
    rw [step, hd]
    simp only [worstL, Int.toNat_natCast]
    by_cases h : row.getD y 0 < 0
    · rw [if_pos h, if_pos h]
      exact .inl rfl
    · rw [if_neg h, if_neg h]
      exact ih (i + 1) f _ (by omega) (by omega)
theorem timeAfter_lim (d) (r) (h : G_timeAfter d = some r) : ∃ N, F_impl_net_timeAfter N d = some r := by
  obtain ⟨⟨l, u⟩, row, q, _⟩ := d
  unfold G_timeAfter at h
  split at h
  · rename_i hc
    simp only [Bool.and_eq_true, decide_eq_true_eq] at hc
    obtain ⟨⟨hn, hrow⟩, hq⟩ := hc
    obtain ⟨q1, q2⟩ := inB_len hq
    have h := Option.some.inj h
    subst h
    refine ⟨20, ?_⟩
    unfold F_impl_net_timeAfter
    have hbl := ballM_len l (q.toNat : Int)
    have hc := closedM hn u q2
    have hs := setOfM hn q2
    have := after_l0 20 l.length row hrow (ballM l (q.toNat : Int)) (ballM_ok hn q.toNat q2) (by omega) (ballM l (q.toNat : Int)).length 0 20 0 (by omega) (by omega)
    simp only [Int.natCast_zero, List.drop_zero] at this
    rw [← q1] at hc hs this
    simp only [hc, Option.bind_some, hs]
    rcases this with h | h
    · simp only [h, Option.bind_some]
    · simp only [h, Option.bind_some]
  · cases h
theorem netB_net {n : Nat} (hn : n ≤ 8) {es : List E} (h : es.all (edgeB (n : Int)) = true) : netB (toI (netN n es)) = true ∧ (toI (netN n es)).length = n := by
  have hok := netN_ok hn h
  have hl : (toI (netN n es)).length = n := by rw [toI_len, hok.1]
  refine ⟨?_, hl⟩
  unfold netB
  rw [small_toI hok hn, Bool.true_and, List.all_eq_true, hl]
  intro m hm
  unfold toI at hm
  obtain ⟨a, ha, rfl⟩ := List.mem_map.1 hm
  obtain ⟨i, hi, rfl⟩ := List.getElem_of_mem ha
  have hlt : (netN n es)[i] < 2 ^ n := by
    refine Nat.lt_pow_two_of_testBit _ fun j hj => ?_
    have hb := netN_bit hn h i j
    unfold hasN at hb
    simp only [List.getD_eq_getElem?_getD, List.getElem?_eq_getElem hi, Option.getD_some] at hb
    rw [hb, isE_near es h]
    cases hnr : nearI es (i : Int) (j : Int) with
    | false => rfl
    | true => have := near_lt h hnr; omega
  simp only [decide_eq_true_eq]
  omega
theorem ball_same {n : Nat} (hn : n ≤ 8) {es : List E} (h : es.all (edgeB (n : Int)) = true) {x : Nat} (hx : x < n) : ballM (toI (netN n es)) (x : Int) = ballF n es (x : Int) := by
  unfold ballM ballF
  have hok := netN_ok hn h
  have hM : isM n ((netN n es).getD x 0 ||| 2 ^ x) (fun y => nearI es (x : Int) (y : Int) || decide ((y : Int) = (x : Int))) := by
    refine ⟨Nat.or_lt_two_pow (n := 8) (hok.2 x) (pow_small (by omega)), fun w => ?_⟩
    rw [Nat.testBit_or, Nat.testBit_two_pow]
    have hb := netN_bit hn h x w
    unfold hasN at hb
    rw [hb, isE_near es h]
    apply Bool.eq_iff_iff.2
    simp only [Bool.or_eq_true, Bool.and_eq_true, decide_eq_true_eq]
    constructor
    · rintro (h' | h')
      · exact ⟨near_lt h h', .inl h'⟩
      · subst h'
        exact ⟨hx, .inr rfl⟩
    · rintro ⟨h1, h2 | h2⟩
      · exact .inl h2
      · exact .inr (by omega)
  simp only [toI_from, Int.toNat_natCast]
  exact setF_mask hn hM
end Go.V.W
set_option linter.unusedVariables false
set_option linter.unusedSimpArgs false
namespace Go.V.W
open Go.Proofs
theorem at_l {e : Kd} {l : List e.den} {i : Nat} (h : i < l.length) : at_ e l i = l[i] := at_get h
theorem szFold_hi : ∀ (l : Tab) (a : Int), 0 ≤ a → ¬ szFold a l < 0 → 0 ≤ szFold a l ∧ szFold a l ≤ a := by
  intro l
  induction l with
  | nil => intro a h0 h; exact ⟨h0, Int.le_refl _⟩
  | cons x l ih =>
    intro a h0 h
    simp only [szFold] at h ⊢
    by_cases c : szStep a x.length < 0
    · simp only [c, if_true] at h; omega
    · simp only [c, if_false] at h ⊢
      have := szStep_le c
      have := ih _ (by omega) h
      omega
theorem szSS_hi {a : Int} {l : Tab} (h0 : 0 ≤ a) (h1 : a ≤ 1048576) (h : ¬ szSS a l < 0) : 0 ≤ szSS a l ∧ szSS a l ≤ a ∧ l.length ≤ 1048576 ∧ l.all (fun x => decide (x.length ≤ 1048576)) = true := by
  unfold szSS at h ⊢
  by_cases c : szStep a l.length < 0
  · simp only [c, if_true] at h; omega
  · simp only [c, if_false] at h ⊢
    have h2 := szStep_le c
    have h3 := szFold_hi l _ (by omega) h
    have h4 := szFold_le l _ (by omega) (by omega) h
    exact ⟨h3.1, by omega, by omega, h4⟩
theorem szIntSS_some {l : Tab} {a : Int} (u : Unit) (h : okM2 l = true) (h0 : 0 ≤ a) (h1 : a ≤ 1048576) : G_szIntSS (l, a, u) = some (szSS a l, ()) := by
  unfold okM2 at h
  unfold G_szIntSS szSS
  have e0 : decide (0 ≤ a) = true := decide_eq_true h0
  have e1 : decide (a ≤ 1048576) = true := decide_eq_true h1
  simp only [Bool.and_eq_true] at h
  simp only [h.1, h.2, e0, e1, Bool.and_self, if_true]
theorem szIntSSS_lim (d) (r) (h : G_szIntSSS d = some r) : ∃ N, F_laws_szIntSSS N d = some r := by
  obtain ⟨l, a, _⟩ := d
  unfold G_szIntSSS at h
  split at h
  · rename_i hc
    simp only [Bool.and_eq_true, decide_eq_true_eq] at hc
    obtain ⟨⟨⟨h1, h2⟩, h3⟩, h4⟩ := hc
    have hl : l.length ≤ maxLen := of_decide_eq_true h1
    have h := Option.some.inj h
    subst h
    refine ⟨l.length + 1, ?_⟩
    unfold F_laws_szIntSSS
    simp only [sz_wrap h3 h4 hl]
    by_cases c : szStep a l.length < 0
    · have : a - (l.length : Int) < 0 := by
        unfold szStep at c
        split at c <;> assumption
      simp only [this, c, decide_true, if_true]
    · have c2 := szStep_le c
      have : ¬ a - (l.length : Int) < 0 := by omega
      simp only [this, c, decide_false, if_false, Bool.false_eq_true]
      have key := loop_fold (L := laws_szIntSSS_l0 (l.length + 1)) (r := laws_szIntSSS_l0_r (l.length + 1)) (fun _ _ => rfl) l (mk := fun i (b : Int) => (l, b, (i : Int), ())) (fun _ b => 0 ≤ b ∧ b ≤ 1048576)
        (body := fun x b => some (if szSS b x < 0 then .inl (.inl (-1, ())) else .inr (szSS b x))) (fin := fun b => some (.inr (.inl (b, ()))))
        (by
          intro back i hi b hb
          have hx : okM2 l[i] = true := List.all_eq_true.1 h2 _ (List.getElem_mem hi)
          unfold laws_szIntSSS_l0_r
          simp only [lt_dec hi, if_true, idxIn_nat hi, Int.toNat_natCast, wrap_up hi hl, at_l (e := K_SSi) hi, szIntSS_some _ hx hb.1 hb.2, Option.bind_some]
          by_cases h : szSS b l[i] < 0
          · simp only [h, decide_true, if_true]
          · simp only [h, decide_false, if_false, Bool.false_eq_true])
        (by
          intro i hi b b' hb h
          by_cases hs : szSS b l[i] < 0
          · simp only [hs, if_true, Option.some.injEq, reduceCtorEq] at h
          · simp only [hs, if_false, Option.some.injEq, Sum.inr.injEq] at h
            subst h
            have := szSS_hi hb.1 hb.2 hs
            omega)
        (by intro back b _; unfold laws_szIntSSS_l0_r; simp only [lt_not, Bool.false_eq_true, if_false]) l.length 0 (a - (l.length : Int)) (by omega) (by omega) (by omega)
      simp only [Int.natCast_zero, List.drop_zero] at key
      rw [c2.2, key]
      have fold : ∀ (m : List Tab) (b : Int), (foldE (fun (x : Tab) b => some (if szSS b x < 0 then .inl (.inl (-1, ())) else .inr (szSS b x))) (fun b => some (.inr (.inl (b, ())))) m b : Option laws_szIntSSS_l0_O) = some (.inl (szFold3 b m, ())) ∨
          (foldE (fun (x : Tab) b => some (if szSS b x < 0 then .inl (.inl (-1, ())) else .inr (szSS b x))) (fun b => some (.inr (.inl (b, ())))) m b : Option laws_szIntSSS_l0_O) = some (.inr (.inl (szFold3 b m, ()))) := by
        intro m
        induction m with
        | nil => intro b; exact .inr rfl
        | cons x m ih =>
          intro b
          simp only [foldE, szFold3, Option.bind_some]
          by_cases h : szSS b x < 0
          · simp only [h, if_true]; exact .inl trivial
          · simp only [h, if_false]; exact ih _
      rcases fold l (a - (l.length : Int)) with h | h <;> simp only [h, Option.bind_some]
  · cases h
theorem szFold3_ok : ∀ (l : List Tab) (a : Int), 0 ≤ a → a ≤ 1048576 → ¬ szFold3 a l < 0 → l.all okLL = true := by
  intro l
  induction l with
  | nil => intro a _ _ _; rfl
  | cons x l ih =>
    intro a h0 h1 h
    simp only [szFold3] at h
    by_cases c : szSS a x < 0
    · simp only [c, if_true] at h; omega
    · simp only [c, if_false] at h
      obtain ⟨h2, h3, h4, h5⟩ := szSS_hi h0 h1 c
      rw [List.all_cons, Bool.and_eq_true]
      exact ⟨okLL_small h4 h5, ih _ h2 (by omega) h⟩
theorem okL3_of {l : List Tab} (h : okL3 l = true) : okL l = true ∧ l.all okLL = true := by
  unfold okL3 at h
  simpa only [Bool.and_eq_true] using h
theorem toIntSSS_lim (d) (r) (h : G_toIntSSS d = some r) : ∃ N, F_laws_toIntSSS N d = some r := by
  obtain ⟨l, _⟩ := d
  unfold G_toIntSSS at h
  split at h
  · rename_i hl
    obtain ⟨h1, h2⟩ := okL3_of hl
    have hl : l.length ≤ lim := okL_lim h1
    have hmx := lim_max hl
    have h := Option.some.inj h
    subst h
    refine ⟨l.length + 1, ?_⟩
    unfold F_laws_toIntSSS
    have hc : (decide (0 ≤ (List.length l : Int)) && decide ((List.length l : Int) ≤ (List.length l : Int)) && decide ((List.length l : Int) ≤ (lim : Int))) = true := by simp; omega
    have := loop_copy (L := laws_toIntSSS_l0 (l.length + 1)) (r := laws_toIntSSS_l0_r (l.length + 1)) (fun _ _ => rfl) l (mk := fun i m => (l, m, (i : Int), ())) (o := fun m => .inl (m, ()))
      (by
        intro back i hi m hm
        have hx : okLL l[i] = true := List.all_eq_true.1 h2 _ (List.getElem_mem hi)
        unfold laws_toIntSSS_l0_r
        simp only [lt_dec hi, if_true, idxIn_nat hi, idxIn_nat (show i < m.length by omega), Int.toNat_natCast, wrap_up hi hmx, at_l (e := K_SSi) hi, G_toIntSS, hx, Option.bind_some])
      (by intro back m hm; unfold laws_toIntSSS_l0_r; simp only [lt_not, Bool.false_eq_true, if_false]) l.length (List.replicate l.length []) (Nat.le_refl _) (by simp)
    simp only [Int.natCast_zero] at this
    simp only [hc, if_true, Int.toNat_natCast, this, Option.bind_some]
  · cases h
theorem eqL_all {α : Type} [DecidableEq α] : ∀ {l m : List α}, l.length = m.length → (decide (l = m)) = ((List.range l.length).all fun i => decide (l[i]? = m[i]?)) := by
  intro l m h
  apply bool_eq_iff
  rw [decide_eq_true_eq, List.all_eq_true]
  constructor
  · rintro rfl i _; simp
  · intro hi
    apply List.ext_getElem? 
    intro i
    by_cases h' : i < l.length
    · exact of_decide_eq_true (hi i (List.mem_range.2 h'))
    · rw [List.getElem?_eq_none (by omega), List.getElem?_eq_none (by omega)]
theorem eqIntSSS_lim (d) (r) (h : G_eqIntSSS d = some r) : ∃ N, F_laws_eqIntSSS N d = some r := by
  obtain ⟨l, m, _⟩ := d
  unfold G_eqIntSSS at h
  split at h
  · rename_i hll
    obtain ⟨hl1, ha⟩ := okL3_of hll
    have hl : l.length ≤ lim := okL_lim hl1
    have hmx := lim_max hl
    have h := Option.some.inj h
    subst h
    refine ⟨l.length + 1, ?_⟩
    unfold F_laws_eqIntSSS
    by_cases hm : l.length = m.length
    · have := loop_every (L := laws_eqIntSSS_l0 (l.length + 1)) (r := laws_eqIntSSS_l0_r (l.length + 1)) (fun _ _ => rfl) (List.range l.length) (mk := fun i => (l, m, (i : Int), ())) (q := fun i => decide (l[i]? = m[i]?)) (o := .inl (false, ())) (f := .inr (.inl ()))
        (by
          intro back i hi'
          have hi : i < l.length := by simpa using hi'
          have hi2 : i < m.length := by omega
          have hx : okLL l[i] = true := List.all_eq_true.1 ha _ (List.getElem_mem hi)
          unfold laws_eqIntSSS_l0_r
          simp only [lt_dec hi, if_true, idxIn_nat hi, idxIn_nat hi2, Int.toNat_natCast, wrap_up hi hmx, at_l (e := K_SSi) hi, at_l (e := K_SSi) hi2, G_eqIntSS, hx, Option.bind_some, List.getElem_range, List.getElem?_eq_getElem hi, List.getElem?_eq_getElem hi2, Option.some.injEq]
          by_cases he : l[i] = m[i]
          · simp only [he, decide_true, Bool.not_true, Bool.false_eq_true, if_false, if_true]
          · simp only [he, decide_false, Bool.not_false, Bool.false_eq_true, if_false, if_true])
        (by intro back; unfold laws_eqIntSSS_l0_r; simp only [List.length_range, lt_not, Bool.false_eq_true, if_false]) l.length 0 (by simp) (by simp)
      simp only [Int.natCast_zero, List.drop_zero, ← eqL_all hm] at this
      have hne : ((List.length l : Int) != (List.length m : Int)) = false := by simp [hm]
      simp only [hne, Bool.false_eq_true, if_false, this, Option.bind_some]
      by_cases he : l = m
      · simp only [he, decide_true, if_true]
      · simp only [he, decide_false, Bool.false_eq_true, if_false]
    · have hne : ((List.length l : Int) != (List.length m : Int)) = true := by simp; omega
      have he : ¬ l = m := fun e => hm (by rw [e])
      simp [hne, he]
  · cases h
theorem szTimetable_neg2 (n : Int) (es : List E) (v : Unit) (p : Int) (l : List (List Int)) (u w : Unit) (he : es.length ≤ maxLen) (hl : l.length ≤ maxLen) (ha : ∀ x ∈ l, x.length ≤ maxLen) :
    ∃ r, F_laws_szTimetable 0 (((n, es, v), p, l, u), (1048576 : Int), w) = some (r, ()) ∧ (r < 0 ∨ (0 ≤ r ∧ r ≤ 1048576 ∧ okT ((n, es, v), p, l, u) = true)) := by
  unfold F_laws_szTimetable
  simp only [szGraph_eq n es v 1048576 () (by omega) (by omega) he]
  by_cases h : szStep 1048576 es.length < 0
  · exact ⟨-1, by simp only [h, decide_true, if_true], .inl (by decide)⟩
  · have h1 := szStep_le h
    have o2 : okM2 l = true := by
      unfold okM2
      rw [Bool.and_eq_true]
      exact ⟨decide_eq_true hl, List.all_eq_true.2 fun x hx => decide_eq_true (ha x hx)⟩
    simp only [h, decide_false, if_false, Bool.false_eq_true, szIntSS_some _ o2 (show 0 ≤ szStep 1048576 es.length by omega) (by omega), Option.bind_some]
    by_cases h2 : szSS (szStep 1048576 es.length) l < 0
    · exact ⟨-1, by simp only [h2, decide_true, if_true], .inl (by decide)⟩
    · obtain ⟨h3, h4, h5, h6⟩ := szSS_hi (show 0 ≤ szStep 1048576 es.length by omega) (by omega) h2
      refine ⟨_, by simp only [h2, decide_false, if_false, Bool.false_eq_true], .inr ⟨h3, by omega, ?_⟩⟩
      have g1 := okL_of (show es.length ≤ 1048576 by omega)
      have g2 := okLL_small h5 h6
      simp only [okT, g1, g2, Bool.and_self]
theorem szIntSSS_neg (l : List Tab) (a : Int) (u : Unit) (h0 : 0 ≤ a) (h1 : a ≤ 1048576) (hl : l.length ≤ maxLen) (ha : ∀ x ∈ l, okM2 x = true) : ∃ r, G_szIntSSS (l, a, u) = some (r, ()) ∧ (r < 0 ∨ okL3 l = true) := by
  unfold G_szIntSSS
  have e0 : decide (0 ≤ a) = true := decide_eq_true h0
  have e1 : decide (a ≤ 1048576) = true := decide_eq_true h1
  have e2 : okMx l.length = true := decide_eq_true hl
  have e3 : l.all okM2 = true := List.all_eq_true.2 ha
  simp only [e0, e1, e2, e3, Bool.and_self, if_true]
  by_cases c : szStep a l.length < 0
  · exact ⟨_, rfl, .inl (by simp only [c, if_true]; decide)⟩
  · have h2 := szStep_le c
    by_cases c2 : szFold3 (szStep a l.length) l < 0
    · exact ⟨_, rfl, .inl (by simp only [c, if_false]; exact c2)⟩
    · refine ⟨_, rfl, .inr ?_⟩
      unfold okL3
      rw [Bool.and_eq_true]
      exact ⟨okL_of (by omega), szFold3_ok l _ (by omega) (by omega) c2⟩
end Go.V.W
set_option linter.unusedVariables false
set_option linter.unusedSimpArgs false
namespace Go.V.W
open Go.Proofs
theorem form_l4 (N : Nat) (t : Tt) (T : List Tab) (r : Nat) (hr : r < T.length) (x : Nat) (hx : x < T[r].length) (hm : T[r][x].length ≤ maxLen) (k : Nat) (hk : T[r][x].length ≤ k) :
    spec_l11Form_l4 N (k + 1) (T, t, (r : Int), (x : Int), (0 : Int), ()) = some (if T[r][x].all (fun v => decide (-1 ≤ v)) = true then .inr (.inl (T, t, (r : Int), (x : Int), ())) else .inl (false, ())) := by
  have := loop_every (L := spec_l11Form_l4 N) (r := spec_l11Form_l4_r N) (fun _ _ => rfl) T[r][x] (mk := fun i => (T, t, (r : Int), (x : Int), (i : Int), ())) (q := fun v => decide (-1 ≤ v)) (o := .inl (false, ())) (f := .inr (.inl (T, t, (r : Int), (x : Int), ())))
    (by
      intro back i hi
      unfold spec_l11Form_l4_r
      simp only [idxIn_nat hr, idxIn_nat hx, Int.toNat_natCast, at_l (e := K_SSi) hr, at_l (e := K_Si) hx, at_l (e := I) hi, idxIn_nat hi, lt_dec hi, if_true, wrap_up hi hm]
      by_cases h : T[r][x][i] < -1
      · have h2 : decide (-1 ≤ T[r][x][i]) = false := by simp; omega
        simp only [h, h2, decide_true, if_true, Bool.false_eq_true, if_false]
      · have h2 : decide (-1 ≤ T[r][x][i]) = true := by simp; omega
        simp only [h, h2, decide_false, if_true, Bool.false_eq_true, if_false])
    (by
      intro back
      unfold spec_l11Form_l4_r
      simp only [idxIn_nat hr, idxIn_nat hx, Int.toNat_natCast, at_l (e := K_SSi) hr, at_l (e := K_Si) hx, lt_not, if_true, Bool.false_eq_true, if_false]) k 0 (by omega) (by omega)
  simpa only [Int.natCast_zero, List.drop_zero] using this
theorem ne_len (m : Nat) (n : Int) : ((m : Int) != n) = !decide ((m : Int) = n) := by
  by_cases h : (m : Int) = n <;> simp [h]
theorem form_l2 (N : Nat) (t : Tt) (T : List Tab) (r : Nat) (hr : r < T.length) (hl : okLL T[r] = true) (hN : ∀ row ∈ T[r], row.length ≤ N - 1) (hN1 : 1 ≤ N) (k : Nat) (hk : T[r].length ≤ k) :
    spec_l11Form_l2 N (k + 1) (T, t, (r : Int), (0 : Int), ()) = some (if T[r].all (rowOk t.1.1) = true then .inr (.inl (T, t, (r : Int), ())) else .inl (false, ())) := by
  obtain ⟨h1, h2⟩ := okLL_of hl
  have hmx := lim_max (okL_lim h1)
  have := loop_every (L := spec_l11Form_l2 N) (r := spec_l11Form_l2_r N) (fun _ _ => rfl) T[r] (mk := fun i => (T, t, (r : Int), (i : Int), ())) (q := rowOk t.1.1) (o := .inl (false, ())) (f := .inr (.inl (T, t, (r : Int), ())))
    (by
      intro back i hi
      have hrow : okL T[r][i] = true := List.all_eq_true.1 h2 _ (List.getElem_mem hi)
      have hN' := hN T[r][i] (List.getElem_mem hi)
      have h4 := form_l4 N t T r hr i hi (lim_max (okL_lim hrow)) (N - 1) hN'
      rw [show N - 1 + 1 = N by omega] at h4
      unfold spec_l11Form_l2_r
      simp only [idxIn_nat hr, idxIn_nat hi, Int.toNat_natCast, at_l (e := K_SSi) hr, at_l (e := K_Si) hi, lt_dec hi, if_true, wrap_up hi hmx, h4, ne_len, rowOk, Option.bind_some]
      by_cases hn : (T[r][i].length : Int) = t.1.1
      · simp only [hn, decide_true, Bool.not_true, Bool.false_eq_true, if_false, Bool.true_and]
        cases ha : T[r][i].all (fun v => decide (-1 ≤ v)) with
        | true => simp only [if_true, wrap_up hi hmx]
        | false => simp only [Bool.false_eq_true, if_false]
      · simp only [hn, decide_false, Bool.not_false, if_true, Bool.false_and, Bool.false_eq_true, if_false])
    (by
      intro back
      unfold spec_l11Form_l2_r
      simp only [idxIn_nat hr, Int.toNat_natCast, at_l (e := K_SSi) hr, lt_not, if_true, Bool.false_eq_true, if_false]) k 0 (by omega) (by omega)
  simpa only [Int.natCast_zero, List.drop_zero] using this
/-- A bound for all lengths. -/
def lenT (T : List Tab) : Nat := T.length + (T.map fun rows => rows.length + (rows.map List.length).sum).sum
theorem len_sum {α : Type} (f : α → Nat) : ∀ {l : List α} {x : α}, x ∈ l → f x ≤ (l.map f).sum := by
  intro l
  induction l with
  | nil => intro x h; simp at h
  | cons a l ih =>
    intro x h
    simp only [List.map_cons, List.sum_cons]
    rcases List.mem_cons.1 h with rfl | h
    · omega
    · have := ih h; omega
theorem lenT_rows {T : List Tab} {rows : Tab} (h : rows ∈ T) : rows.length ≤ lenT T ∧ ∀ row ∈ rows, row.length ≤ lenT T := by
  have := len_sum (fun rows : Tab => rows.length + (rows.map List.length).sum) h
  unfold lenT
  refine ⟨by omega, fun row hr => ?_⟩
  have := len_sum List.length hr
  omega
theorem l11Form_lim (d) (r) (h : G_l11Form d = some r) : ∃ N, F_spec_l11Form N d = some r := by
  obtain ⟨t, T, _⟩ := d
  unfold G_l11Form at h
  split at h
  · rename_i hc
    simp only [Bool.and_eq_true] at hc
    obtain ⟨ht, hT⟩ := hc
    have h := Option.some.inj h
    subst h
    obtain ⟨h1, h2⟩ := okL3_of hT
    have hmx := lim_max (okL_lim h1)
    refine ⟨lenT T + 1, ?_⟩
    unfold F_spec_l11Form
    have := loop_every (L := spec_l11Form_l0 (lenT T + 1)) (r := spec_l11Form_l0_r (lenT T + 1)) (fun _ _ => rfl) T (mk := fun i => (T, t, (i : Int), ())) (q := rowsOk t.1.1) (o := .inl (false, ())) (f := .inr (.inl (T, t, ())))
      (by
        intro back i hi
        have hrows : okLL T[i] = true := List.all_eq_true.1 h2 _ (List.getElem_mem hi)
        obtain ⟨b1, b2⟩ := lenT_rows (List.getElem_mem hi)
        have h4 := form_l2 (lenT T + 1) t T i hi hrows (fun row hrow => by have := b2 row hrow; omega) (by omega) (lenT T) b1
        unfold spec_l11Form_l0_r
        simp only [idxIn_nat hi, Int.toNat_natCast, at_l (e := K_SSi) hi, lt_dec hi, if_true, wrap_up hi hmx, h4, ne_len, rowsOk, Option.bind_some]
        by_cases hn : (T[i].length : Int) = t.1.1
        · simp only [hn, decide_true, Bool.not_true, Bool.false_eq_true, if_false, Bool.true_and]
          cases ha : T[i].all (rowOk t.1.1) with
          | true => simp only [if_true, wrap_up hi hmx]
          | false => simp only [Bool.false_eq_true, if_false]
        · simp only [hn, decide_false, Bool.not_false, if_true, Bool.false_and, Bool.false_eq_true, if_false])
      (by
        intro back
        unfold spec_l11Form_l0_r
        simp only [lt_not, Bool.false_eq_true, if_false]) (lenT T) 0 (by omega) (by unfold lenT; omega)
    simp only [Int.natCast_zero, List.drop_zero] at this
    simp only [this, formB, Option.bind_some]
    have e : ∀ a b : Int, (a == b) = decide (a = b) := fun a b => by by_cases h : a = b <;> simp [h]
    cases ha : T.all (rowsOk t.1.1) with
    | true => simp only [if_true, Bool.true_and, e]
    | false => simp only [Bool.false_eq_true, if_false, Bool.false_and]
  · cases h
theorem balls_l2 (N : Nat) (t : Tt) (out : List Tab) (r : Int) (g : Gr) (hg : grB g = true) : ∀ k, g.1.toNat ≤ k → spec_l11Balls_l2 N (k + 1) (t, out, r, g, [], (0 : Int), ()) = some (.inl (t, out, r, (List.range g.1.toNat).map (fun x : Nat => ballF g.1.toNat g.2.1 (x : Int)), ())) := by
  obtain ⟨g1, g2, g3, g4⟩ := grB_parts hg
  exact loop_map (L := spec_l11Balls_l2 N) (r := spec_l11Balls_l2_r N) (fun _ _ => rfl) (n := g.1.toNat) (mk := fun i m => (t, out, r, g, m, (i : Int), ())) (f := fun x : Nat => ballF g.1.toNat g.2.1 (x : Int)) (o := fun m => .inl (t, out, r, m, ()))
    (by
      intro back i m hi hm
      have hl : decide (List.length m + List.length [ballF g.1.toNat g.2.1 (i : Int)] ≤ lim) = true := by
        rw [hm]; unfold lim; simp; omega
      have c1 : decide ((i : Int) < g.1) = true := by simp; omega
      unfold spec_l11Balls_l2_r
      simp only [c1, ball_some hg hi, Option.bind_some, hl, if_true, wrap8 hi g3])
    (by
      intro back m _
      have c1 : decide ((g.1.toNat : Int) < g.1) = false := by simp; omega
      unfold spec_l11Balls_l2_r
      simp only [c1, Bool.false_eq_true, if_false])
theorem time_n {t : Tt} (h : timeB t = true) : t.1.1 = (t.1.1.toNat : Int) ∧ 0 < t.1.1.toNat ∧ t.1.1.toNat ≤ 8 ∧ t.2.1 = (t.2.1.toNat : Int) ∧ 1 ≤ t.2.1.toNat ∧ t.2.1.toNat ≤ 4 ∧ t.1.2.1.all (edgeB (t.1.1.toNat : Int)) = true ∧ risingE t.1.2.1 = true := by
  obtain ⟨g1, g2, g3, g4⟩ := timeB_parts h
  have g3 := inB_iff.1 g3
  have hn := graphB_n (n := t.1.1) (l := t.1.2.1) (u := t.1.2.2) g1
  obtain ⟨hE, hR⟩ := graphB_edges (n := t.1.1) (l := t.1.2.1) (u := t.1.2.2) g1
  have e : t.1.1 = (t.1.1.toNat : Int) := by omega
  refine ⟨e, by omega, by omega, by omega, by omega, by omega, by rw [← e]; exact hE, hR⟩
theorem open_grB {t : Tt} (h : timeB t = true) (ho : okT t = true) (r : Int) : grB (t.1.1, openE t r, ()) = true := by
  obtain ⟨e, h1, h2, _, _, _, h3, h4⟩ := time_n h
  have hk := openE_okL ho r
  unfold grB
  have e1 : decide (0 ≤ t.1.1) = true := by simp; omega
  have e2 : decide (t.1.1 ≤ 8) = true := by simp; omega
  have e3 : (openE t r).all (edgeB t.1.1) = true := by
    have := (openE_ok (t := t) (n := t.1.1.toNat) h3 h4 r).1
    rw [← e] at this
    exact this
  simp only [hk, e1, e2, e3, Bool.and_self]
theorem l11Balls_lim (d) (r) (h : G_l11Balls d = some r) : ∃ N, F_spec_l11Balls N d = some r := by
  obtain ⟨t, _⟩ := d
  unfold G_l11Balls at h
  split at h
  · rename_i hc
    simp only [Bool.and_eq_true] at hc
    obtain ⟨ht, ho⟩ := hc
    have h := Option.some.inj h
    subst h
    obtain ⟨n1, n2, n3, p1, p2, p3, _⟩ := time_n ht
    refine ⟨20, ?_⟩
    unfold F_spec_l11Balls
    have := loop_map (L := spec_l11Balls_l0 20) (r := spec_l11Balls_l0_r 20) (fun _ _ => rfl) (n := t.2.1.toNat) (mk := fun i m => (t, m, (i : Int), ())) (f := fun r : Nat => (List.range t.1.1.toNat).map fun x : Nat => ballF t.1.1.toNat (openE t (r : Int)) (x : Int)) (o := fun m => .inl (m, ()))
      (by
        intro back i m hi hm
        have c1 : decide ((i : Int) < t.2.1) = true := by simp; omega
        have hop := open_some ht ho (c := (i : Int)) (by omega) (by omega)
        have et : ((i : Int)).tmod t.2.1 = (i : Int) := by rw [Int.tmod_eq_of_lt (by omega) (by omega)]
        rw [et] at hop
        have hb := balls_l2 20 t m (i : Int) (t.1.1, openE t (i : Int), ()) (open_grB ht ho _) 19 (by show t.1.1.toNat ≤ 19; omega)
        have hl : decide (List.length m + List.length [(List.range t.1.1.toNat).map fun x : Nat => ballF t.1.1.toNat (openE t (i : Int)) (x : Int)] ≤ lim) = true := by
          rw [hm]; unfold lim; simp; omega
        unfold spec_l11Balls_l0_r
        simp only [c1, hop, hb, hl, if_true, Option.bind_some, wrap8 (show i < 8 by omega) (Nat.le_refl 8)])
      (by
        intro back m _
        have c1 : decide ((t.2.1.toNat : Int) < t.2.1) = false := by simp; omega
        unfold spec_l11Balls_l0_r
        simp only [c1, Bool.false_eq_true, if_false]) 19 (by omega)
    simp only [Int.natCast_zero] at this
    simp only [this, Option.bind_some]
    rfl
  · cases h
theorem okB_parts {n : Nat} {B : List Tab} (h : okB n B = true) : 1 ≤ B.length ∧ B.length ≤ 8 ∧ ∀ r (hr : r < B.length), B[r].length = n ∧ ∀ x (hx : x < B[r].length), B[r][x].length ≤ 8 ∧ ∀ z ∈ B[r][x], ∃ y : Nat, y < n ∧ z = (y : Int) := by
  unfold okB at h
  simp only [Bool.and_eq_true, decide_eq_true_eq, List.all_eq_true] at h
  obtain ⟨⟨h1, h2⟩, h3⟩ := h
  refine ⟨h1, h2, fun r hr => ?_⟩
  obtain ⟨h4, h5⟩ := h3 B[r] (List.getElem_mem hr)
  refine ⟨h4, fun x hx => ?_⟩
  obtain ⟨h6, h7⟩ := h5 B[r][x] (List.getElem_mem hx)
  refine ⟨h6, fun z hz => ?_⟩
  have := inB_iff.1 (h7 z hz)
  exact ⟨z.toNat, by omega, by omega⟩
theorem okT3_parts {n p : Nat} {T : List Tab} (h : okT3 n p T = true) : T.length = p ∧ ∀ r (hr : r < T.length), sqL n T[r] = true := by
  unfold okT3 at h
  simp only [Bool.and_eq_true, decide_eq_true_eq, List.all_eq_true] at h
  exact ⟨h.1, fun r hr => h.2 _ (List.getElem_mem hr)⟩
theorem getD_l {α : Type} {l : List α} {i : Nat} (h : i < l.length) (z : α) : l.getD i z = l[i] := by simp [List.getD_eq_getElem?_getD, h]
theorem l11After_l0 (N n : Nat) (B : List Tab) (hB : okB n B = true) (r q : Nat) (hr : r < B.length) (hq : q < n) (row : List Int) (hrow : row.length = n) : ∀ (k i f : Nat) (m : Int), i + k = (ballB B (r : Int) (q : Int)).length → k < f →
    spec_l11After_l0 N f (B, (r : Int), (q : Int), m, row, (i : Int), ()) = some (.inl (worstL (fun z => row.getD z.toNat 0) ((ballB B (r : Int) (q : Int)).drop i) m, ())) ∨ spec_l11After_l0 N f (B, (r : Int), (q : Int), m, row, (i : Int), ()) = some (.inr (.inl (worstL (fun z => row.getD z.toNat 0) ((ballB B (r : Int) (q : Int)).drop i) m, ()))) := by
  obtain ⟨_, _, hb⟩ := okB_parts hB
  obtain ⟨b1, b2⟩ := hb r hr
  have hq' : q < B[r].length := by omega
  obtain ⟨b3, b4⟩ := b2 q hq'
  have eb : ballB B (r : Int) (q : Int) = B[r][q] := by
    unfold ballB
    simp only [Int.toNat_natCast, getD_l hr, getD_l hq']
  rw [eb]
  have hmx : B[r][q].length ≤ maxLen := by unfold maxLen; omega
  intro k
  induction k with
  | zero =>
    intro i f m h1 h2
    obtain ⟨f, rfl⟩ : ∃ m, f = m + 1 := ⟨f - 1, by omega⟩
    have e : i = B[r][q].length := by omega
    subst e
    rw [List.drop_of_length_le (Nat.le_refl _)]
    right
    show spec_l11After_l0_r N (spec_l11After_l0 N f) _ = _
    unfold spec_l11After_l0_r
    simp only [idxIn_nat hr, idxIn_nat hq', Int.toNat_natCast, at_l (e := K_SSi) hr, at_l (e := K_Si) hq', lt_not, if_true, Bool.false_eq_true, if_false, worstL]
  | succ k ih =>
    intro i f m h1 h2
    obtain ⟨f, rfl⟩ : ∃ m, f = m + 1 := ⟨f - 1, by omega⟩
    have hi : i < B[r][q].length := by omega
    obtain ⟨y, hy, ey⟩ := b4 B[r][q][i] (List.getElem_mem hi)
    have hy' : y < row.length := by omega
    have hd : B[r][q].drop i = (y : Int) :: B[r][q].drop (i + 1) := by rw [List.drop_eq_getElem_cons hi, ey]
    have step : spec_l11After_l0 N (f + 1) (B, (r : Int), (q : Int), m, row, (i : Int), ()) = if row[y] < 0 then some (.inl (-1, ())) else spec_l11After_l0 N f (B, (r : Int), (q : Int), (if m < row[y] then row[y] else m), row, ((i + 1 : Nat) : Int), ()) := by
      show spec_l11After_l0_r N (spec_l11After_l0 N f) _ = _
      unfold spec_l11After_l0_r
      simp only [idxIn_nat hr, idxIn_nat hq', Int.toNat_natCast, at_l (e := K_SSi) hr, at_l (e := K_Si) hq', at_l (e := I) hi, idxIn_nat hi, lt_dec hi, if_true, ey, idxIn_nat hy', at_l (e := I) hy', most_eq, wrap_up hi hmx]
      by_cases h : row[y] < 0
      · simp only [h, decide_true, if_true]
      · simp only [h, decide_false, Bool.false_eq_true, if_false]
    rw [step, hd]
    simp only [worstL, Int.toNat_natCast, getD_l hy']
    by_cases h : row[y] < 0
    · rw [if_pos h, if_pos h]
      exact .inl rfl
    · rw [if_neg h, if_neg h]
      exact ih (i + 1) f _ (by omega) (by omega)
theorem next_mod {r p : Nat} (hr : r < p) (hp : p ≤ 8) : IntKind.wrap .i64 ((r : Int) + 1) = ((r + 1 : Nat) : Int) ∧ (((r : Int) + 1).tmod (p : Int)) = (((r + 1) % p : Nat) : Int) ∧ (r + 1) % p < p := by
  refine ⟨wrap8 hr hp, ?_, Nat.mod_lt _ (by omega)⟩
  have e : ((r : Int) + 1) = ((r + 1 : Nat) : Int) := rfl
  rw [e]
  exact (Int.ofNat_tmod _ _).symm
theorem nextT_l {p : Nat} {T : List Tab} (hT : T.length = p) (hp8 : p ≤ 8) {r : Nat} (hr : r < p) : ∃ h : (r + 1) % p < T.length, nextT p T (r : Int) = T[(r + 1) % p] := by
  obtain ⟨_, e2, e3⟩ := next_mod hr hp8
  have h : (r + 1) % p < T.length := by rw [hT]; exact e3
  refine ⟨h, ?_⟩
  unfold nextT
  rw [e2, Int.toNat_natCast, getD_l h]
theorem l11After_lim (d) (r) (h : G_l11After d = some r) : ∃ N, F_spec_l11After N d = some r := by
  obtain ⟨B, T, r0, c0, q0, _⟩ := d
  unfold G_l11After at h
  split at h
  · rename_i hc
    unfold okA at hc
    simp only [Bool.and_eq_true, decide_eq_true_eq] at hc
    obtain ⟨⟨⟨⟨⟨hB, h8⟩, hT⟩, hr0⟩, hc0⟩, hq0⟩ := hc
    have h := Option.some.inj h
    subst h
    obtain ⟨B1, B2, _⟩ := okB_parts hB
    obtain ⟨T1, T2⟩ := okT3_parts hT
    obtain ⟨er, hr⟩ := inB_len hr0
    obtain ⟨ec, hc⟩ := inB_len hc0
    obtain ⟨eq, hq⟩ := inB_len hq0
    generalize r0.toNat = r at er hr
    generalize c0.toNat = c at ec hc
    generalize q0.toNat = q at eq hq
    subst er ec eq
    refine ⟨20, ?_⟩
    unfold F_spec_l11After afterT
    by_cases e : (c : Int) = (q : Int)
    · simp only [e, beq_self_eq_true, if_true]
    · have e' : ((c : Int) == (q : Int)) = false := by simpa using e
      have e0 : ((List.length B : Int) != 0) = true := by rw [bne_iff_ne]; omega
      obtain ⟨w1, w2, w3⟩ := next_mod hr B2
      obtain ⟨hn, en⟩ := nextT_l (T := T) T1 B2 hr
      obtain ⟨s1, s2⟩ := sqL_parts (T2 _ hn)
      have hcn : c < T[(r + 1) % B.length].length := s1.symm ▸ hc
      have ec : at_ K_Si T[(r + 1) % B.length] c = T[(r + 1) % B.length][c] := at_l (e := K_Si) hcn
      have hrow : T[(r + 1) % B.length][c].length = nB B := by rw [← ec]; exact s2 c hc
      have w2' : (((r + 1 : Nat) : Int)).tmod (B.length : Int) = (((r + 1) % B.length : Nat) : Int) := w2
      have key := l11After_l0 20 (nB B) B hB r q hr hq T[(r + 1) % B.length][c] hrow (ballB B (r : Int) (q : Int)).length 0 20 0 (by omega) (by
        obtain ⟨_, _, hb⟩ := okB_parts hB
        obtain ⟨b1, b2⟩ := hb r hr
        have hq' : q < B[r].length := by omega
        have := (b2 q hq').1
        unfold ballB
        simp only [Int.toNat_natCast, getD_l hr, getD_l hq']
        omega)
      simp only [Int.natCast_zero, List.drop_zero] at key
      have hw : worstL (fun z => T[(r + 1) % B.length][c].getD z.toNat 0) (ballB B (r : Int) (q : Int)) 0 = worstL (tab2 (nextT B.length T (r : Int)) (c : Int)) (ballB B (r : Int) (q : Int)) 0 := worst_congr fun z hz => by
        unfold tab2
        rw [en, Int.toNat_natCast, getD_l hcn]
      rw [hw] at key
      simp only [e', e, Bool.false_eq_true, if_false, w1, e0, if_true, w2', idxIn_nat hn, Int.toNat_natCast, at_l (e := K_SSi) hn, idxIn_nat hcn, ec]
      rcases key with h | h <;> simp only [h, Option.bind_some]
  · cases h
end Go.V.W
set_option linter.unusedVariables false
set_option linter.unusedSimpArgs false
namespace Go.V.W
open Go.Proofs
theorem inB_of {n x : Nat} (h : x < n) : inB 0 ((n : Int) - 1) (x : Int) = true := inB_iff.2 (by omega)
theorem okA_of {B T : List Tab} {u : Unit} (hB : okB (nB B) B = true) (h8 : nB B ≤ 8) (hT : okT3 (nB B) B.length T = true) {r c q : Nat} (hr : r < B.length) (hc : c < nB B) (hq : q < nB B) : okA (B, T, (r : Int), (c : Int), (q : Int), u) = true := by
  unfold okA
  have e8 : decide (nB B ≤ 8) = true := decide_eq_true h8
  simp only [hB, e8, hT, inB_of hr, inB_of hc, inB_of hq, Bool.and_self]
theorem l11Proves_lim (d) (r) (h : G_l11Proves d = some r) : ∃ N, F_spec_l11Proves N d = some r := by
  obtain ⟨B, T, r0, c0, q0, _⟩ := d
  unfold G_l11Proves at h
  split at h
  · rename_i hc
    unfold okA i64B at hc
    simp only [Bool.and_eq_true, decide_eq_true_eq] at hc
    obtain ⟨⟨⟨⟨⟨⟨hB, h8⟩, hT⟩, hr0⟩, hc0⟩, hq0⟩, hv0, hv1⟩ := hc
    have h := Option.some.inj h
    subst h
    obtain ⟨B1, B2, B3⟩ := okB_parts hB
    obtain ⟨T1, T2⟩ := okT3_parts hT
    obtain ⟨er, hr⟩ := inB_len hr0
    obtain ⟨ec, hc⟩ := inB_len hc0
    obtain ⟨eq, hq⟩ := inB_len hq0
    generalize r0.toNat = r at er hr
    generalize c0.toNat = c at ec hc
    generalize q0.toNat = q at eq hq
    subst er ec eq
    have hrT : r < T.length := by omega
    obtain ⟨s1, s2⟩ := sqL_parts (T2 r hrT)
    have hcn : c < T[r].length := s1.symm ▸ hc
    have ec : at_ K_Si T[r] c = T[r][c] := at_l (e := K_Si) hcn
    have hqn : q < T[r][c].length := by
      have := s2 c hc
      rw [ec] at this
      omega
    have ev : tab2 (T.getD (r : Int).toNat []) (c : Int) (q : Int) = T[r][c][q] := by
      unfold tab2
      simp only [Int.toNat_natCast, getD_l hrT, getD_l hcn, getD_l hqn]
    simp only [] at hv0 hv1 ⊢
    rw [ev] at hv0 hv1
    simp only [Int.toNat_natCast] at ev
    simp only [Int.toNat_natCast, ev]
    obtain ⟨b1, b2⟩ := B3 r hr
    have hcB : c < B[r].length := by omega
    obtain ⟨b3, b4⟩ := b2 c hcB
    have eb : ballB B (r : Int) (c : Int) = B[r][c] := by
      unfold ballB
      simp only [Int.toNat_natCast, getD_l hr, getD_l hcB]
    refine ⟨20, ?_⟩
    unfold F_spec_l11Proves provesB
    simp only [idxIn_nat hrT, Int.toNat_natCast, at_l (e := K_SSi) hrT, idxIn_nat hcn, ec, idxIn_nat hqn, at_l (e := I) hqn, if_true]
    by_cases hv : T[r][c][q] ≤ 0
    · simp only [hv, decide_true, if_true]
      by_cases hv' : T[r][c][q] < 0
      · simp only [hv', decide_true, if_true, Bool.true_or]
      · simp only [hv', decide_false, Bool.false_eq_true, if_false, Bool.false_or]
        by_cases e : (c : Int) = (q : Int) <;> simp [e]
    · simp only [hv, decide_false, Bool.false_eq_true, if_false]
      have hmx : B[r][c].length ≤ maxLen := by unfold maxLen; omega
      have key := loop_every (L := spec_l11Proves_l0 20) (r := spec_l11Proves_l0_r 20) (fun _ _ => rfl) B[r][c] (mk := fun i => (B, T, (r : Int), (c : Int), (q : Int), T[r][c][q], (i : Int), ())) (q := fun b => !(decide (0 ≤ afterT (ballB B (r : Int)) (nextT B.length T (r : Int)) b (q : Int)) && decide (afterT (ballB B (r : Int)) (nextT B.length T (r : Int)) b (q : Int) < T[r][c][q]))) (o := .inl (true, ())) (f := .inr (.inl ()))
        (by
          intro back i hi
          obtain ⟨y, hy, ey⟩ := b4 B[r][c][i] (List.getElem_mem hi)
          have hA := okA_of (u := ()) hB h8 hT hr hy hq
          have hw : IntKind.wrap .i64 (T[r][c][q] - 1) = T[r][c][q] - 1 := wrap_in _ (by omega) (by omega)
          unfold spec_l11Proves_l0_r
          simp only [idxIn_nat hr, idxIn_nat hcB, idxIn_nat hi, Int.toNat_natCast, at_l (e := K_SSi) hr, at_l (e := K_Si) hcB, at_l (e := I) hi, lt_dec hi, if_true, ey, G_l11After, hA, Option.bind_some, hw, l1In_eq, wrap_up hi hmx]
          generalize afterT (ballB B (r : Int)) (nextT B.length T (r : Int)) (y : Int) (q : Int) = a
          have e : inB 0 (T[r][c][q] - 1) a = (decide (0 ≤ a) && decide (a < T[r][c][q])) := by
            unfold inB
            congr 1
            exact decide_eq_decide.2 (by omega)
          rw [e]
          cases (decide (0 ≤ a) && decide (a < T[r][c][q])) <;> rfl)
        (by
          intro back
          unfold spec_l11Proves_l0_r
          simp only [idxIn_nat hr, idxIn_nat hcB, Int.toNat_natCast, at_l (e := K_SSi) hr, at_l (e := K_Si) hcB, lt_not, if_true, Bool.false_eq_true, if_false]) 19 0 (by omega) (by omega)
      simp only [Int.natCast_zero, List.drop_zero] at key
      rw [key, eb]
      have ea : ∀ (p : Int → Bool) (l : List Int), (l.all fun b => !p b) = !l.any p := fun p l => by simp [List.all_eq_not_any_not]
      rw [ea]
      cases (B[r][c].any fun b => decide (0 ≤ afterT (ballB B (r : Int)) (nextT B.length T (r : Int)) b (q : Int)) && decide (afterT (ballB B (r : Int)) (nextT B.length T (r : Int)) b (q : Int) < T[r][c][q])) <;> rfl
  · cases h
theorem rowsOk_parts {n : Nat} {rows : Tab} (h : rowsOk (n : Int) rows = true) : sqL n rows = true ∧ ∀ row ∈ rows, row.length = n := by
  unfold rowsOk rowOk at h
  simp only [Bool.and_eq_true, decide_eq_true_eq, List.all_eq_true] at h
  obtain ⟨h1, h2⟩ := h
  have h3 : ∀ row ∈ rows, row.length = n := fun row hr => by have := (h2 row hr).1; omega
  refine ⟨?_, h3⟩
  unfold sqL
  rw [Bool.and_eq_true, List.all_eq_true]
  exact ⟨decide_eq_true (by omega), fun row hr => decide_eq_true (h3 row hr)⟩
theorem formB_parts {n p : Nat} {T : List Tab} (h : formB (n : Int) (p : Int) T = true) : okT3 n p T = true := by
  unfold formB at h
  simp only [Bool.and_eq_true, decide_eq_true_eq, List.all_eq_true] at h
  unfold okT3
  rw [Bool.and_eq_true, List.all_eq_true]
  exact ⟨decide_eq_true (by have := h.2; omega), fun rows hr => (rowsOk_parts (h.1 rows hr)).1⟩
theorem ballsT_ok {t : Tt} (ht : timeB t = true) : okB t.1.1.toNat (ballsT t) = true ∧ (ballsT t).length = t.2.1.toNat ∧ nB (ballsT t) = t.1.1.toNat ∧ ∀ r : Nat, r < t.2.1.toNat → ∀ x : Nat, x < t.1.1.toNat → ballB (ballsT t) (r : Int) (x : Int) = ballF t.1.1.toNat (openE t (r : Int)) (x : Int) := by
  obtain ⟨n1, n2, n3, p1, p2, p3, _⟩ := time_n ht
  have hl : (ballsT t).length = t.2.1.toNat := by unfold ballsT; simp
  have hg : ∀ r (hr : r < (ballsT t).length), (ballsT t)[r] = (List.range t.1.1.toNat).map fun x : Nat => ballF t.1.1.toNat (openE t (r : Int)) (x : Int) := fun r hr => by
    apply Option.some.inj
    rw [← List.getElem?_eq_getElem hr]
    unfold ballsT
    rw [List.getElem?_map, List.getElem?_range (by omega)]
    rfl
  refine ⟨?_, hl, ?_, fun r hr x hx => ?_⟩
  · unfold okB
    simp only [Bool.and_eq_true, decide_eq_true_eq, List.all_eq_true]
    refine ⟨⟨by omega, by omega⟩, fun b hb => ?_⟩
    obtain ⟨r, hr, rfl⟩ := List.getElem_of_mem hb
    rw [hg r hr]
    refine ⟨by simp, fun l hl' => ?_⟩
    obtain ⟨x, hx, rfl⟩ := List.mem_map.1 hl'
    have hx := List.mem_range.1 hx
    refine ⟨?_, fun z hz => ?_⟩
    · have := ballF_len t.1.1.toNat (openE t (r : Int)) (x : Int); omega
    · obtain ⟨y, hy, rfl⟩ := ballF_ok t.1.1.toNat (openE t (r : Int)) x hx z hz
      exact inB_of hy
  · unfold nB
    have h0 : 0 < (ballsT t).length := by omega
    have : ∀ (l : List Tab) (h : 0 < l.length), l.headD [] = l[0] := fun l h => by
      cases l with
      | nil => simp at h
      | cons a l => rfl
    rw [this _ h0, hg 0 h0]
    simp
  · have hr' : r < (ballsT t).length := by omega
    unfold ballB
    simp only [Int.toNat_natCast, getD_l hr', hg r hr', List.getD_eq_getElem?_getD]
    rw [List.getElem?_map, List.getElem?_range hx]
    rfl
theorem afterT_congr {b1 b2 : Int → List Int} {T : Tab} {b q : Int} (h : b1 q = b2 q) : afterT b1 T b q = afterT b2 T b q := by
  unfold afterT
  rw [h]
theorem provesB_congr {b1 b2 : Int → List Int} {T : Tab} {v c q : Int} (hc : b1 c = b2 c) (hq : b1 q = b2 q) : provesB b1 T v c q = provesB b2 T v c q := by
  unfold provesB
  rw [hc]
  simp only [afterT_congr (b1 := b1) (b2 := b2) (T := T) hq]
/-- What is asked of a situation. -/
def askB (t : Tt) (T : List Tab) (r c q : Nat) : Bool := provesB (ballF t.1.1.toNat (openE t (r : Int))) (nextT t.2.1.toNat T (r : Int)) (tab2 (T.getD r []) (c : Int) (q : Int)) (c : Int) (q : Int)
theorem proves_some {t : Tt} {T : List Tab} (ht : timeB t = true) (hT : okT3 t.1.1.toNat t.2.1.toNat T = true) (h64 : ok64 T = true) {r c q : Nat} (hr : r < t.2.1.toNat) (hc : c < t.1.1.toNat) (hq : q < t.1.1.toNat) :
    G_l11Proves (ballsT t, T, (r : Int), (c : Int), (q : Int), ()) = some (askB t T r c q, ()) := by
  obtain ⟨b1, b2, b3, b4⟩ := ballsT_ok ht
  obtain ⟨n1, n2, n3, p1, p2, p3, _⟩ := time_n ht
  obtain ⟨T1, T2⟩ := okT3_parts hT
  have hA : okA (ballsT t, T, (r : Int), (c : Int), (q : Int), ()) = true := okA_of (by rw [b3]; exact b1) (by omega) (by rw [b2, b3]; exact hT) (by omega) (by omega) (by omega)
  have hrT : r < T.length := by omega
  obtain ⟨s1, s2⟩ := sqL_parts (T2 r hrT)
  have hcn : c < T[r].length := s1.symm ▸ hc
  have hqn : q < T[r][c].length := by
    have := s2 c hc
    rw [at_l (e := K_Si) hcn] at this
    omega
  have ev : tab2 (T.getD r []) (c : Int) (q : Int) = T[r][c][q] := by
    unfold tab2
    simp only [Int.toNat_natCast, getD_l hrT, getD_l hcn, getD_l hqn]
  have hv : i64B (tab2 (T.getD r []) (c : Int) (q : Int)) = true := by
    rw [ev]
    unfold ok64 at h64
    have h1 := List.all_eq_true.1 h64 _ (List.getElem_mem hrT)
    have h2 := List.all_eq_true.1 h1 _ (List.getElem_mem hcn)
    exact List.all_eq_true.1 h2 _ (List.getElem_mem hqn)
  unfold G_l11Proves askB
  simp only [hA, Int.toNat_natCast, hv, Bool.and_self, if_true, b2]
  rw [provesB_congr (b4 r hr c hc) (b4 r hr q hq)]
theorem tp_l4 (N : Nat) (t : Tt) (T : List Tab) (ht : timeB t = true) (hT : okT3 t.1.1.toNat t.2.1.toNat T = true) (h64 : ok64 T = true) (r c : Nat) (hr : r < t.2.1.toNat) (hc : c < t.1.1.toNat) (k : Nat) (hk : t.1.1.toNat ≤ k) :
    spec_IsTimedProof_l4 N (k + 1) (T, ballsT t, (r : Int), (c : Int), (0 : Int), ()) = some (if (List.range t.1.1.toNat).all (askB t T r c) = true then .inr (.inl (T, ballsT t, (r : Int), (c : Int), ())) else .inl (false, true, ())) := by
  obtain ⟨n1, n2, n3, p1, p2, p3, _⟩ := time_n ht
  obtain ⟨T1, T2⟩ := okT3_parts hT
  have hrT : r < T.length := by omega
  obtain ⟨s1, s2⟩ := sqL_parts (T2 r hrT)
  have hcn : c < T[r].length := s1.symm ▸ hc
  have hrow : T[r][c].length = t.1.1.toNat := by
    have := s2 c hc
    rw [at_l (e := K_Si) hcn] at this
    exact this
  have := loop_every (L := spec_IsTimedProof_l4 N) (r := spec_IsTimedProof_l4_r N) (fun _ _ => rfl) (List.range t.1.1.toNat) (mk := fun i => (T, ballsT t, (r : Int), (c : Int), (i : Int), ())) (q := askB t T r c) (o := .inl (false, true, ())) (f := .inr (.inl (T, ballsT t, (r : Int), (c : Int), ())))
    (by
      intro back i hi'
      have hi : i < t.1.1.toNat := by simpa using hi'
      unfold spec_IsTimedProof_l4_r
      simp only [idxIn_nat hrT, idxIn_nat hcn, Int.toNat_natCast, at_l (e := K_SSi) hrT, at_l (e := K_Si) hcn, hrow, lt_dec hi, if_true, proves_some ht hT h64 hr hc hi, Option.bind_some, wrap8 hi n3, List.getElem_range]
      cases askB t T r c i <;> rfl)
    (by
      intro back
      unfold spec_IsTimedProof_l4_r
      simp only [idxIn_nat hrT, idxIn_nat hcn, Int.toNat_natCast, at_l (e := K_SSi) hrT, at_l (e := K_Si) hcn, hrow, List.length_range, lt_not, if_true, Bool.false_eq_true, if_false]) k 0 (by simp) (by simpa using hk)
  simpa only [Int.natCast_zero, List.drop_zero] using this
theorem tp_l2 (N : Nat) (hN : 20 ≤ N) (t : Tt) (T : List Tab) (ht : timeB t = true) (hT : okT3 t.1.1.toNat t.2.1.toNat T = true) (h64 : ok64 T = true) (r : Nat) (hr : r < t.2.1.toNat) (k : Nat) (hk : t.1.1.toNat ≤ k) :
    spec_IsTimedProof_l2 N (k + 1) (T, ballsT t, (r : Int), (0 : Int), ()) = some (if (List.range t.1.1.toNat).all (fun c => (List.range t.1.1.toNat).all (askB t T r c)) = true then .inr (.inl (T, ballsT t, (r : Int), ())) else .inl (false, true, ())) := by
  obtain ⟨n1, n2, n3, p1, p2, p3, _⟩ := time_n ht
  obtain ⟨T1, T2⟩ := okT3_parts hT
  have hrT : r < T.length := by omega
  obtain ⟨s1, s2⟩ := sqL_parts (T2 r hrT)
  have := loop_every (L := spec_IsTimedProof_l2 N) (r := spec_IsTimedProof_l2_r N) (fun _ _ => rfl) (List.range t.1.1.toNat) (mk := fun i => (T, ballsT t, (r : Int), (i : Int), ())) (q := fun c => (List.range t.1.1.toNat).all (askB t T r c)) (o := .inl (false, true, ())) (f := .inr (.inl (T, ballsT t, (r : Int), ())))
    (by
      intro back i hi'
      have hi : i < t.1.1.toNat := by simpa using hi'
      have h4 := tp_l4 N t T ht hT h64 r i hr hi (N - 1) (by omega)
      rw [show N - 1 + 1 = N by omega] at h4
      unfold spec_IsTimedProof_l2_r
      simp only [idxIn_nat hrT, Int.toNat_natCast, at_l (e := K_SSi) hrT, s1, lt_dec hi, if_true, h4, Option.bind_some, List.getElem_range]
      cases (List.range t.1.1.toNat).all (askB t T r i) with
      | true => simp only [if_true, wrap8 hi n3]
      | false => simp only [Bool.false_eq_true, if_false])
    (by
      intro back
      unfold spec_IsTimedProof_l2_r
      simp only [idxIn_nat hrT, Int.toNat_natCast, at_l (e := K_SSi) hrT, s1, List.length_range, lt_not, if_true, Bool.false_eq_true, if_false]) k 0 (by simp) (by simpa using hk)
  simpa only [Int.natCast_zero, List.drop_zero] using this
theorem form_eq {t : Tt} (ht : timeB t = true) (T : List Tab) : formB t.1.1 t.2.1 T = formB (t.1.1.toNat : Int) (t.2.1.toNat : Int) T := by
  obtain ⟨n1, n2, n3, p1, p2, p3, _⟩ := time_n ht
  rw [← n1, ← p1]
theorem specTP_lim (d) (r) (h : G_timedProof d = some r) : ∃ N, F_spec_IsTimedProof N d = some r := by
  obtain ⟨t, T, _⟩ := d
  unfold G_timedProof at h
  split at h
  · rename_i hc
    simp only [Bool.and_eq_true] at hc
    obtain ⟨⟨ho, hT3⟩, h64⟩ := hc
    have h := Option.some.inj h
    subst h
    refine ⟨20, ?_⟩
    unfold F_spec_IsTimedProof tpB
    simp only [G_l11Good, ho, if_true, Option.bind_some]
    cases ht : timeB t with
    | false => rfl
    | true =>
      simp only [Bool.not_true, Bool.false_eq_true, if_false, G_l11Form, ho, hT3, Bool.and_self, if_true, Option.bind_some]
      cases hf : formB t.1.1 t.2.1 T with
      | false => rfl
      | true =>
        have hf' := hf
        rw [form_eq ht] at hf'
        have hT := formB_parts hf'
        obtain ⟨n1, n2, n3, p1, p2, p3, _⟩ := time_n ht
        obtain ⟨T1, T2⟩ := okT3_parts hT
        have key := loop_every (L := spec_IsTimedProof_l0 20) (r := spec_IsTimedProof_l0_r 20) (fun _ _ => rfl) (List.range t.2.1.toNat) (mk := fun i => (T, ballsT t, (i : Int), ())) (q := fun r => (List.range t.1.1.toNat).all fun c => (List.range t.1.1.toNat).all (askB t T r c)) (o := .inl (false, true, ())) (f := .inr (.inl ()))
          (by
            intro back i hi'
            have hi : i < t.2.1.toNat := by simpa using hi'
            have h4 := tp_l2 20 (Nat.le_refl _) t T ht hT h64 i hi 19 (by omega)
            unfold spec_IsTimedProof_l0_r
            simp only [T1, lt_dec hi, if_true, h4, Option.bind_some, List.getElem_range]
            cases (List.range t.1.1.toNat).all fun c => (List.range t.1.1.toNat).all (askB t T i c) with
            | true => simp only [if_true, wrap8 (show i < 8 by omega) (Nat.le_refl 8)]
            | false => simp only [Bool.false_eq_true, if_false])
          (by
            intro back
            unfold spec_IsTimedProof_l0_r
            simp only [T1, List.length_range, lt_not, Bool.false_eq_true, if_false]) 19 0 (by simp) (by simp; omega)
        simp only [Int.natCast_zero, List.drop_zero] at key
        simp only [Bool.not_true, Bool.false_eq_true, if_false, G_l11Balls, ht, ho, Bool.and_self, if_true, Option.bind_some, key, Bool.true_and]
        have e : allR t.2.1.toNat t.1.1.toNat (fun r c q => provesB (ballF t.1.1.toNat (openE t (r : Int))) (nextT t.2.1.toNat T (r : Int)) (tab2 (T.getD r []) (c : Int) (q : Int)) (c : Int) (q : Int)) = (List.range t.2.1.toNat).all fun r => (List.range t.1.1.toNat).all fun c => (List.range t.1.1.toNat).all (askB t T r c) := rfl
        rw [e]
        cases (List.range t.2.1.toNat).all fun r => (List.range t.1.1.toNat).all fun c => (List.range t.1.1.toNat).all (askB t T r c) <;> rfl
  · cases h
end Go.V.W
set_option linter.unusedVariables false
set_option linter.unusedSimpArgs false
namespace Go.V.W
open Go.Proofs
theorem index144_lim (d) (r) (h : G_index144 d = some r) : ∃ N, F_slices_IndexFunc_Sint_int_by_impl_isTimedProof_1_1 N d = some r := by
  obtain ⟨xs, f, _⟩ := d
  unfold G_index144 at h
  split at h
  · rename_i hl
    have hmx := lim_max (okL_lim hl)
    have h := Option.some.inj h
    subst h
    refine ⟨xs.length + 1, ?_⟩
    unfold F_slices_IndexFunc_Sint_int_by_impl_isTimedProof_1_1
    have := loop_idx (L := slices_IndexFunc_Sint_int_by_impl_isTimedProof_1_1_l0 (xs.length + 1)) (r := slices_IndexFunc_Sint_int_by_impl_isTimedProof_1_1_l0_r (xs.length + 1)) (fun _ _ => rfl) (e := I) xs (mk := fun i => (xs, f, (xs.length : Int), (i : Int), ())) (q := fun b => decide (b < -1)) (o := fun i => .inl ((i : Int), ())) (f := .inr (.inl ()))
      (by
        intro back i hi
        unfold slices_IndexFunc_Sint_int_by_impl_isTimedProof_1_1_l0_r FV_impl_isTimedProof_1_1 g_impl_isTimedProof_1_1
        simp only [lt_dec hi, if_true, idxIn_nat hi, Int.toNat_natCast, wrap_up hi hmx, Option.bind_some])
      (by intro back; unfold slices_IndexFunc_Sint_int_by_impl_isTimedProof_1_1_l0_r; simp only [lt_not, Bool.false_eq_true, if_false]) xs.length 0 (by omega) (by omega)
    simp only [Int.natCast_zero, List.drop_zero] at this
    simp only [this, Option.bind_some]
    cases idxN (fun b => decide (b < -1)) xs 0 <;> rfl
  · cases h
theorem badRow_some (row : List Int) (n : Int) (v w x : Unit) (h : okL row = true) : FV_impl_isTimedProof_1 (row, (v, n, w), x) = some (badRow n row, ()) := by
  unfold FV_impl_isTimedProof_1 F_impl_isTimedProof_1 F_slices_ContainsFunc_Sint_int_by_impl_isTimedProof_1_1 badRow
  simp only [G_index144, h, if_true, Option.bind_some, idxI_ge, ne_len]
  by_cases e : (row.length : Int) = n <;> simp [e]
theorem index142_lim (d) (r) (h : G_index142 d = some r) : ∃ N, F_slices_IndexFunc_SSint_Sint_by_impl_isTimedProof_1 N d = some r := by
  obtain ⟨xs, ⟨v, n, w⟩, _⟩ := d
  unfold G_index142 at h
  split at h
  · rename_i hll
    obtain ⟨hl, ha⟩ := okLL_of hll
    have hmx := lim_max (okL_lim hl)
    have h := Option.some.inj h
    subst h
    refine ⟨xs.length + 1, ?_⟩
    unfold F_slices_IndexFunc_SSint_Sint_by_impl_isTimedProof_1
    have := loop_idx (L := slices_IndexFunc_SSint_Sint_by_impl_isTimedProof_1_l0 (xs.length + 1)) (r := slices_IndexFunc_SSint_Sint_by_impl_isTimedProof_1_l0_r (xs.length + 1)) (fun _ _ => rfl) (e := K_Si) xs (mk := fun i => (xs, (v, n, w), (xs.length : Int), (i : Int), ())) (q := badRow n) (o := fun i => .inl ((i : Int), ())) (f := .inr (.inl ()))
      (by
        intro back i hi
        have hx : okL (at_ K_Si xs i) = true := all_at_of (e := K_Si) ha hi
        unfold slices_IndexFunc_SSint_Sint_by_impl_isTimedProof_1_l0_r
        simp only [lt_dec hi, if_true, idxIn_nat hi, Int.toNat_natCast, wrap_up hi hmx, badRow_some _ _ _ _ _ hx, Option.bind_some])
      (by intro back; unfold slices_IndexFunc_SSint_Sint_by_impl_isTimedProof_1_l0_r; simp only [lt_not, Bool.false_eq_true, if_false]) xs.length 0 (by omega) (by omega)
    simp only [Int.natCast_zero, List.drop_zero] at this
    simp only [this, Option.bind_some]
    cases idxN (badRow n) xs 0 <;> rfl
  · cases h
theorem rows_bad (n : Int) (rows : Tab) : rows.any (badRow n) = !rows.all (rowOk n) := by
  rw [List.any_eq_not_all_not]
  congr 1
  congr 1
  funext row
  unfold badRow rowOk
  rw [Bool.not_or, Bool.not_not, List.not_any_eq_all_not]
  congr 2
  funext v
  by_cases h : v < -1
  · have : ¬ -1 ≤ v := by omega
    simp [h, this]
  · have : -1 ≤ v := by omega
    simp [h, this]
theorem wanted_some {l : List Int} (hn : netB l = true) (u v w v2 w2 x : Unit) {T : Tab} (hT : sqL l.length T = true) {b q : Nat} (hb : b < l.length) (hq : q < l.length) {num : Int} (hnum : 0 < num) :
    FV_impl_timedCan_1_by_impl_isTimedProof_2 ((b : Int), (v, (q : Int), (l, u), T, (v2, num, w2), w), x) = some (decide (0 ≤ afterT (ballM l) T (b : Int) (q : Int)) && decide (afterT (ballM l) T (b : Int) (q : Int) < num), ()) := by
  obtain ⟨t1, t2⟩ := sqL_parts hT
  unfold FV_impl_timedCan_1_by_impl_isTimedProof_2 F_impl_timedCan_1_by_impl_isTimedProof_2 FV_impl_isTimedProof_2 g_impl_isTimedProof_2 afterT
  by_cases e : (b : Int) = (q : Int)
  · simp [e, hnum]
  · have e' : ((b : Int) == (q : Int)) = false := by simpa using e
    have i1 : idxIn (b : Int) T.length = true := idxIn_nat (by omega)
    have hlen : decide ((at_ K_Si T b).length = l.length) = true := decide_eq_true (t2 b hb)
    have hw : worstL (fun z => (at_ K_Si T b).getD z.toNat 0) (ballM l (q : Int)) 0 = worstL (tab2 T (b : Int)) (ballM l (q : Int)) 0 := worst_congr fun z hz => by
      have hlt : b < T.length := by omega
      unfold tab2
      rw [at_l (e := K_Si) hlt, Int.toNat_natCast, getD_l hlt]
    simp only [e', e, Bool.false_eq_true, if_false, i1, if_true, Int.toNat_natCast, G_timeAfter, hn, hlen, inB_of hq, Bool.and_self, Option.bind_some, hw]
    generalize worstL (tab2 T (b : Int)) (ballM l (q : Int)) 0 = a
    by_cases h : a ≥ 0
    · have h' : 0 ≤ a := h
      simp [h, h']
    · have h' : ¬ 0 ≤ a := h
      simp [h, h']
theorem index159_lim (d) (r) (h : G_index159 d = some r) : ∃ N, F_slices_IndexFunc_Sint_int_by_impl_timedCan_1_impl_isTimedProof_2 N d = some r := by
  obtain ⟨xs, ⟨v, q, ⟨l, u⟩, T, ⟨v2, num, w2⟩, w⟩, _⟩ := d
  unfold G_index159 at h
  split at h
  · rename_i hc
    simp only [Bool.and_eq_true] at hc
    obtain ⟨⟨⟨⟨⟨hn, hT⟩, hq⟩, hxs⟩, hlen⟩, hnum⟩ := hc
    have hlen : xs.length ≤ 1000 := of_decide_eq_true hlen
    have hnum : 0 < num := of_decide_eq_true hnum
    obtain ⟨q1, q2⟩ := inB_len hq
    have h := Option.some.inj h
    subst h
    have hmx : xs.length ≤ maxLen := by unfold maxLen; omega
    refine ⟨xs.length + 1, ?_⟩
    unfold F_slices_IndexFunc_Sint_int_by_impl_timedCan_1_impl_isTimedProof_2
    have := loop_idx (L := slices_IndexFunc_Sint_int_by_impl_timedCan_1_impl_isTimedProof_2_l0 (xs.length + 1)) (r := slices_IndexFunc_Sint_int_by_impl_timedCan_1_impl_isTimedProof_2_l0_r (xs.length + 1)) (fun _ _ => rfl) (e := I) xs (mk := fun i => (xs, (v, q, (l, u), T, (v2, num, w2), w), (xs.length : Int), (i : Int), ())) (q := fun b => decide (0 ≤ afterT (ballM l) T b q) && decide (afterT (ballM l) T b q < num)) (o := fun i => .inl ((i : Int), ())) (f := .inr (.inl ()))
      (by
        intro back i hi
        have hx : at_ I xs i = xs[i] := at_get (e := I) hi
        obtain ⟨b1, b2⟩ := inB_len (List.all_eq_true.1 hxs xs[i] (List.getElem_mem hi))
        have hcan := wanted_some hn u v w v2 w2 () hT b2 q2 hnum
        rw [← b1, ← q1] at hcan
        unfold slices_IndexFunc_Sint_int_by_impl_timedCan_1_impl_isTimedProof_2_l0_r
        simp only [lt_dec hi, if_true, idxIn_nat hi, Int.toNat_natCast, wrap_up hi hmx, hx, hcan, Option.bind_some])
      (by intro back; unfold slices_IndexFunc_Sint_int_by_impl_timedCan_1_impl_isTimedProof_2_l0_r; simp only [lt_not, Bool.false_eq_true, if_false]) xs.length 0 (by omega) (by omega)
    simp only [Int.natCast_zero, List.drop_zero] at this
    simp only [this, Option.bind_some]
    cases idxN (fun b => decide (0 ≤ afterT (ballM l) T b q) && decide (afterT (ballM l) T b q < num)) xs 0 <;> rfl
  · cases h
theorem timedCan_some {l : List Int} (hn : netB l = true) (u v2 w2 x : Unit) {T : Tab} (hT : sqL l.length T = true) {c q : Nat} (hc : c < l.length) (hq : q < l.length) {num : Int} (hnum : 0 < num) :
    F_impl_timedCan_by_impl_isTimedProof_2 0 ((l, u), T, (c : Int), (q : Int), (v2, num, w2), x) = some ((ballM l (c : Int)).any (fun b => decide (0 ≤ afterT (ballM l) T b (q : Int)) && decide (afterT (ballM l) T b (q : Int) < num)), ()) := by
  unfold F_impl_timedCan_by_impl_isTimedProof_2 F_slices_ContainsFunc_Sint_int_by_impl_timedCan_1_impl_isTimedProof_2
  have hall : (ballM l (c : Int)).all (inB 0 ((l.length : Int) - 1)) = true := List.all_eq_true.2 fun z hz => by
    obtain ⟨y, hy, rfl⟩ := ballM_ok hn c hc z hz
    exact inB_of hy
  have hbl := ballM_len l (c : Int)
  have hs1 : okS1 (ballM l (c : Int)) = true := decide_eq_true (by omega)
  have hd : decide (0 < num) = true := decide_eq_true hnum
  simp only [closedM hn u hc, setOfM hn hc, Option.bind_some, G_index159, hn, hT, inB_of hq, hall, hs1, hd, Bool.and_self, if_true, idxI_ge]
theorem netsB_parts {n : Nat} {nets : List Nt} (h : netsB n nets = true) : 1 ≤ nets.length ∧ nets.length ≤ 8 ∧ ∀ r (hr : r < nets.length), netB nets[r].1 = true ∧ nets[r].1.length = n := by
  unfold netsB at h
  simp only [Bool.and_eq_true, decide_eq_true_eq, List.all_eq_true] at h
  exact ⟨h.1.1, h.1.2, fun r hr => h.2 _ (List.getElem_mem hr)⟩
def askN (nets : List Nt) (T : List Tab) (r c q : Nat) : Bool := provesB (ballN nets r) (nextT nets.length T (r : Int)) (tab2 (T.getD r []) (c : Int) (q : Int)) (c : Int) (q : Int)
theorem itp_l6 (N : Nat) (n : Nat) (hn8 : n ≤ 8) (nets : List Nt) (hN : netsB n nets = true) (T : List Tab) (hT : okT3 n nets.length T = true) (r c : Nat) (hr : r < nets.length) (hc : c < n) (hrT : r < T.length) (hcn : c < T[r].length) (s39 : List Nt) (s5 s40 s41 s46 s47 : Int) (k : Nat) (hk : n ≤ k) :
    impl_isTimedProof_l6 N (k + 1) (nets, T, s5, (r : Int), nets[r], (c : Int), s39, s40, s41, s46, s47, T[r][c], (T[r][c].length : Int), (0 : Int), ()) = some (if (List.range n).all (askN nets T r c) = true then .inr (.inl (nets, T, s5, (r : Int), nets[r], s39, s40, s41, s46, s47, ())) else .inl (false, ())) := by
  obtain ⟨N1, N2, N3⟩ := netsB_parts hN
  obtain ⟨T1, T2⟩ := okT3_parts hT
  obtain ⟨nb, nl⟩ := N3 r hr
  obtain ⟨s1, s2⟩ := sqL_parts (T2 r hrT)
  have hrow : T[r][c].length = n := by
    have := s2 c hc
    rw [at_l (e := K_Si) hcn] at this
    exact this
  obtain ⟨w1, w2, w3⟩ := next_mod hr N2
  obtain ⟨hnx, en⟩ := nextT_l (T := T) T1 N2 hr
  have w2' : (((r + 1 : Nat) : Int)).tmod (nets.length : Int) = (((r + 1) % nets.length : Nat) : Int) := w2
  have e0 : ((List.length nets : Int) != 0) = true := by rw [bne_iff_ne]; omega
  have hsq := T2 _ hnx
  rw [← nl] at hsq
  have := loop_every (L := impl_isTimedProof_l6 N) (r := impl_isTimedProof_l6_r N) (fun _ _ => rfl) (List.range n) (mk := fun i => (nets, T, s5, (r : Int), nets[r], (c : Int), s39, s40, s41, s46, s47, T[r][c], (T[r][c].length : Int), (i : Int), ())) (q := askN nets T r c) (o := .inl (false, ())) (f := .inr (.inl (nets, T, s5, (r : Int), nets[r], s39, s40, s41, s46, s47, ())))
    (by
      intro back i hi'
      have hi : i < n := by simpa using hi'
      have hir : i < T[r][c].length := by omega
      have ev : tab2 (T.getD r []) (c : Int) (i : Int) = T[r][c][i] := by
        unfold tab2
        simp only [Int.toNat_natCast, getD_l hrT, getD_l hcn, getD_l hir]
      have eb : ballN nets r = ballM nets[r].1 := by unfold ballN; rw [getD_l hr]
      unfold impl_isTimedProof_l6_r
      simp only [hrow, lt_dec hi, if_true, idxIn_nat hi, w1, e0, w2', idxIn_nat hnx, Int.toNat_natCast, at_l (e := I) hir, at_l (e := K_SSi) hnx, wrap8 hi hn8, List.getElem_range, askN, ev, eb, en, provesB]
      generalize hv : T[r][c][i] = v
      by_cases v0 : v = 0
      · subst v0
        have hne : ((c : Int) != (i : Int)) = !decide ((c : Int) = (i : Int)) := by by_cases h : (c : Int) = (i : Int) <;> simp [h]
        by_cases h : (c : Int) = (i : Int) <;> simp [hne, h]
      · have b0 : (v == (0 : Int)) = false := by simpa using v0
        by_cases vp : v > 0
        · have vl : ¬ v ≤ 0 := by omega
          have hcan := timedCan_some nb nets[r].2 () () () hsq (show c < nets[r].1.length by omega) (show i < nets[r].1.length by omega) vp
          simp only [b0, vp, vl, decide_true, if_true, if_false, Bool.false_eq_true]
          have e : nets[r] = (nets[r].1, nets[r].2) := rfl
          rw [← e] at hcan
          rw [hcan]
          simp only [Option.bind_some]
          cases ((ballM nets[r].1 (c : Int)).any fun b => decide (0 ≤ afterT (ballM nets[r].1) T[(r + 1) % nets.length] b (i : Int)) && decide (afterT (ballM nets[r].1) T[(r + 1) % nets.length] b (i : Int) < v)) <;> rfl
        · have vl : v ≤ 0 := by omega
          have vn : v < 0 := by omega
          simp only [b0, vp, vl, vn, decide_true, decide_false, if_true, if_false, Bool.false_eq_true, Bool.true_or])
    (by
      intro back
      unfold impl_isTimedProof_l6_r
      simp only [hrow, List.length_range, lt_not, Bool.false_eq_true, if_false]) k 0 (by simp) (by simpa using hk)
  simpa only [Int.natCast_zero, List.drop_zero] using this
theorem itp_l4 (N : Nat) (hNN : 20 ≤ N) (n : Nat) (hn8 : n ≤ 8) (nets : List Nt) (hN : netsB n nets = true) (T : List Tab) (hT : okT3 n nets.length T = true) (r : Nat) (hr : r < nets.length) (s39 : List Nt) (s5 s40 s41 : Int) (k : Nat) (hk : n ≤ k) :
    impl_isTimedProof_l4 N (k + 1) (nets, T, s5, (r : Int), nets[r], s39, s40, s41, (n : Int), (0 : Int), ()) = some (if (List.range n).all (fun c => (List.range n).all (askN nets T r c)) = true then .inr (.inl (nets, T, s5, s39, s40, s41, ())) else .inl (false, ())) := by
  obtain ⟨T1, T2⟩ := okT3_parts hT
  have hrT : r < T.length := by omega
  obtain ⟨s1, s2⟩ := sqL_parts (T2 r hrT)
  have := loop_every (L := impl_isTimedProof_l4 N) (r := impl_isTimedProof_l4_r N) (fun _ _ => rfl) (List.range n) (mk := fun i => (nets, T, s5, (r : Int), nets[r], s39, s40, s41, (n : Int), (i : Int), ())) (q := fun c => (List.range n).all (askN nets T r c)) (o := .inl (false, ())) (f := .inr (.inl (nets, T, s5, s39, s40, s41, ())))
    (by
      intro back i hi'
      have hi : i < n := by simpa using hi'
      have hcn : i < T[r].length := s1.symm ▸ hi
      have h6 := itp_l6 N n hn8 nets hN T hT r i hr hi hrT hcn s39 s5 s40 s41 (n : Int) (i : Int) (N - 1) (by omega)
      rw [show N - 1 + 1 = N by omega] at h6
      unfold impl_isTimedProof_l4_r
      simp only [lt_dec hi, if_true, idxIn_nat hrT, Int.toNat_natCast, at_l (e := K_SSi) hrT, idxIn_nat hcn, at_l (e := K_Si) hcn, h6, Option.bind_some, List.getElem_range]
      cases (List.range n).all (askN nets T r i) with
      | true => simp only [if_true, wrap8 hi hn8]
      | false => simp only [Bool.false_eq_true, if_false])
    (by
      intro back
      unfold impl_isTimedProof_l4_r
      simp only [List.length_range, lt_not, Bool.false_eq_true, if_false]) k 0 (by simp) (by simpa using hk)
  simpa only [Int.natCast_zero, List.drop_zero] using this
theorem itp_l2 (N : Nat) (hNN : 20 ≤ N) (n : Nat) (hn8 : n ≤ 8) (nets : List Nt) (hN : netsB n nets = true) (T : List Tab) (hT : okT3 n nets.length T = true) (k : Nat) (hk : nets.length ≤ k) :
    impl_isTimedProof_l2 N (k + 1) (nets, T, (n : Int), nets, (nets.length : Int), (0 : Int), ()) = some (if (List.range nets.length).all (fun r => (List.range n).all (fun c => (List.range n).all (askN nets T r c))) = true then .inr (.inl ()) else .inl (false, ())) := by
  obtain ⟨N1, N2, N3⟩ := netsB_parts hN
  have := loop_every (L := impl_isTimedProof_l2 N) (r := impl_isTimedProof_l2_r N) (fun _ _ => rfl) (List.range nets.length) (mk := fun i => (nets, T, (n : Int), nets, (nets.length : Int), (i : Int), ())) (q := fun r => (List.range n).all (fun c => (List.range n).all (askN nets T r c))) (o := .inl (false, ())) (f := .inr (.inl ()))
    (by
      intro back i hi'
      have hi : i < nets.length := by simpa using hi'
      have h4 := itp_l4 N hNN n hn8 nets hN T hT i hi nets (n : Int) (nets.length : Int) (i : Int) (N - 1) (by omega)
      rw [show N - 1 + 1 = N by omega] at h4
      unfold impl_isTimedProof_l2_r
      simp only [lt_dec hi, if_true, idxIn_nat hi, Int.toNat_natCast, at_l (e := K_PSiq) hi, h4, Option.bind_some, List.getElem_range]
      cases (List.range n).all (fun c => (List.range n).all (askN nets T i c)) with
      | true => simp only [if_true, wrap8 hi N2]
      | false => simp only [Bool.false_eq_true, if_false])
    (by
      intro back
      unfold impl_isTimedProof_l2_r
      simp only [List.length_range, lt_not, Bool.false_eq_true, if_false]) k 0 (by simp) (by simpa using hk)
  simpa only [Int.natCast_zero, List.drop_zero] using this
theorem nN_get {nets : List Nt} (h : 0 < nets.length) : nN nets = nets[0].1.length := by
  unfold nN
  cases nets with
  | nil => simp at h
  | cons a l => rfl
theorem isTimedProof_lim (d) (r) (h : G_isTimedProof d = some r) : ∃ N, F_impl_isTimedProof N d = some r := by
  obtain ⟨nets, T, _⟩ := d
  unfold G_isTimedProof at h
  split at h
  · rename_i hc
    simp only [Bool.and_eq_true] at hc
    obtain ⟨hN, hT3⟩ := hc
    have h := Option.some.inj h
    subst h
    obtain ⟨N1, N2, N3⟩ := netsB_parts hN
    obtain ⟨hT1, hT2⟩ := okL3_of hT3
    have hmx := lim_max (okL_lim hT1)
    have h0 : 0 < nets.length := by omega
    have en := nN_get h0
    obtain ⟨nb, nl⟩ := N3 0 h0
    have hn8 : nN nets ≤ 8 := by
      have := (netB_parts nb).2.2.1
      omega
    refine ⟨T.length + 20, ?_⟩
    unfold F_impl_isTimedProof g_impl_net_size
    have i0 : idxIn (0 : Int) nets.length = true := idxIn_nat h0
    have z0 : (0 : Int).toNat = 0 := rfl
    have a0 : at_ K_PSiq nets 0 = nets[0] := at_l (e := K_PSiq) h0
    simp only [i0, if_true, z0, a0, ne_len, ← en]
    unfold formB
    by_cases hl : (T.length : Int) = (nets.length : Int)
    · have k0 := loop_every (L := impl_isTimedProof_l0 (T.length + 20)) (r := impl_isTimedProof_l0_r (T.length + 20)) (fun _ _ => rfl) T (mk := fun i => (nets, T, (nN nets : Int), T, (T.length : Int), (i : Int), ())) (q := rowsOk (nN nets : Int)) (o := .inl (false, ())) (f := .inr (.inl (nets, T, (nN nets : Int), ())))
        (by
          intro back i hi
          have hrows : okLL T[i] = true := List.all_eq_true.1 hT2 _ (List.getElem_mem hi)
          unfold impl_isTimedProof_l0_r F_slices_ContainsFunc_SSint_Sint_by_impl_isTimedProof_1
          simp only [lt_dec hi, if_true, idxIn_nat hi, Int.toNat_natCast, at_l (e := K_SSi) hi, ne_len, G_index142, hrows, Option.bind_some, idxI_ge, rows_bad, wrap_up hi hmx, rowsOk]
          by_cases e : (T[i].length : Int) = (nN nets : Int)
          · simp only [e, decide_true, Bool.not_true, Bool.false_eq_true, if_false, Bool.true_and]
            cases T[i].all (rowOk (nN nets : Int)) <;> rfl
          · simp only [e, decide_false, Bool.not_false, if_true, Bool.false_and, Bool.false_eq_true, if_false])
        (by
          intro back
          unfold impl_isTimedProof_l0_r
          simp only [lt_not, Bool.false_eq_true, if_false]) (T.length + 19) 0 (by omega) (by omega)
      simp only [Int.natCast_zero, List.drop_zero] at k0
      simp only [hl, decide_true, Bool.not_true, Bool.false_eq_true, if_false, Bool.and_true]
      rw [hl] at k0
      rw [k0]
      cases hf : T.all (rowsOk (nN nets : Int)) with
      | false => simp only [Bool.false_eq_true, if_false, Option.bind_some, Bool.false_and]
      | true =>
        have hT : okT3 (nN nets) nets.length T = true := formB_parts (by unfold formB; rw [hf, hl]; simp)
        have k2 := itp_l2 (T.length + 20) (by omega) (nN nets) hn8 nets hN T hT (T.length + 19) (by omega)
        simp only [if_true, Option.bind_some, k2, Bool.true_and]
        have e : allR nets.length (nN nets) (fun r c q => provesB (ballN nets r) (nextT nets.length T (r : Int)) (tab2 (T.getD r []) (c : Int) (q : Int)) (c : Int) (q : Int)) = (List.range nets.length).all fun r => (List.range (nN nets)).all fun c => (List.range (nN nets)).all (askN nets T r c) := rfl
        rw [e]
        cases (List.range nets.length).all fun r => (List.range (nN nets)).all fun c => (List.range (nN nets)).all (askN nets T r c) <;> rfl
    · simp only [hl, decide_false, Bool.not_false, if_true, Bool.and_false, Bool.false_and]
  · cases h
theorem netsL_ok {t : Tt} (ht : timeB t = true) : netsB t.1.1.toNat (netsL t) = true ∧ (netsL t).length = t.2.1.toNat ∧ nN (netsL t) = t.1.1.toNat ∧ ∀ r : Nat, r < t.2.1.toNat → ∀ x : Nat, x < t.1.1.toNat → ballN (netsL t) r (x : Int) = ballF t.1.1.toNat (openE t (r : Int)) (x : Int) := by
  obtain ⟨n1, n2, n3, p1, p2, p3, h4, h5⟩ := time_n ht
  have hl : (netsL t).length = t.2.1.toNat := by unfold netsL; simp
  have hg : ∀ r (hr : r < (netsL t).length), (netsL t)[r] = (toI (netN t.1.1.toNat (openE t (r : Int))), ()) := fun r hr => by
    apply Option.some.inj
    rw [← List.getElem?_eq_getElem hr]
    unfold netsL
    rw [List.getElem?_map, List.getElem?_range (by omega)]
    rfl
  have he : ∀ r : Int, (openE t r).all (edgeB (t.1.1.toNat : Int)) = true := fun r => (openE_ok (t := t) (n := t.1.1.toNat) h4 h5 r).1
  refine ⟨?_, hl, ?_, fun r hr x hx => ?_⟩
  · unfold netsB
    simp only [Bool.and_eq_true, decide_eq_true_eq, List.all_eq_true]
    refine ⟨⟨by omega, by omega⟩, fun w hw => ?_⟩
    obtain ⟨r, hr, rfl⟩ := List.getElem_of_mem hw
    rw [hg r hr]
    exact netB_net n3 (he _)
  · have h0 : 0 < (netsL t).length := by omega
    rw [nN_get h0, hg 0 h0]
    exact (netB_net n3 (he _)).2
  · have hr' : r < (netsL t).length := by omega
    unfold ballN
    rw [getD_l hr', hg r hr']
    exact ball_same n3 (he _) hx
theorem implTP (t : Tt) (T : List Tab) (w : Unit) (ho : okT t = true) (hT : okL3 T = true) : F_impl_IsTimedProof 0 (t, T, w) = some (tpB t T) := by
  unfold F_impl_IsTimedProof tpB
  simp only [implT t _ ho, Option.bind_some]
  cases ht : timeB t with
  | false => rfl
  | true =>
    obtain ⟨n1, n2, n3, p1, p2, p3, _⟩ := time_n ht
    obtain ⟨b1, b2, b3, b4⟩ := netsL_ok ht
    have e1 : netsB (nN (netsL t)) (netsL t) = true := by rw [b3]; exact b1
    simp only [Bool.not_true, Bool.false_eq_true, if_false, openNets_some ht ho, Option.bind_some, G_isTimedProof, e1, hT, Bool.and_self, if_true]
    rw [b3, b2, ← form_eq ht]
    have e : allR t.2.1.toNat t.1.1.toNat (fun r c q => provesB (ballN (netsL t) r) (nextT t.2.1.toNat T (r : Int)) (tab2 (T.getD r []) (c : Int) (q : Int)) (c : Int) (q : Int)) = allR t.2.1.toNat t.1.1.toNat (fun r c q => provesB (ballF t.1.1.toNat (openE t (r : Int))) (nextT t.2.1.toNat T (r : Int)) (tab2 (T.getD r []) (c : Int) (q : Int)) (c : Int) (q : Int)) := by
      unfold allR
      apply bool_eq_iff
      simp only [List.all_eq_true, List.mem_range]
      constructor
      · intro h r hr c hc q hq
        rw [← provesB_congr (b4 r hr c hc) (b4 r hr q hq)]
        exact h r hr c hc q hq
      · intro h r hr c hc q hq
        rw [provesB_congr (b4 r hr c hc) (b4 r hr q hq)]
        exact h r hr c hc q hq
    rw [e]
theorem eqIntSSS_self (T : List Tab) (u : Unit) (h : okL3 T = true) : G_eqIntSSS (T, T, u) = some (true, ()) := by
  unfold G_eqIntSSS
  simp only [h, if_true, decide_true]
theorem law13 : ∀ d, WfD (Kd.tuple ([(K_PPiSPiiqqiSSiq, false), (K_SSSi, false)].map (·.1))) d → ∃ out, F_laws_FnExactIsTimedProof 0 d = some out ∧ (splitT [.bool] [] out).1.1 = true := by
  rintro ⟨⟨⟨n, es, v⟩, p, l, u⟩, T, w⟩ ⟨⟨⟨_, he, _⟩, _, hl, _⟩, hT, _⟩
  have he : es.length ≤ maxLen := he.1
  have hl1 : l.length ≤ maxLen := hl.1
  have hl2 : ∀ x ∈ l, x.length ≤ maxLen := fun x hx => (hl.2 x hx).1
  have hTl : T.length ≤ maxLen := hT.1
  have hT2 : ∀ rows ∈ T, okM2 rows = true := fun rows hr => by
    have h := hT.2 rows hr
    unfold okM2
    rw [Bool.and_eq_true]
    exact ⟨decide_eq_true h.1, List.all_eq_true.2 fun row hrow => decide_eq_true (h.2 row hrow).1⟩
  have h64 : ok64 T = true := by
    unfold ok64
    simp only [List.all_eq_true]
    intro rows hr row hrow x hx
    have := ((hT.2 rows hr).2 row hrow).2 x hx
    simp only [WfD, Lit.wf, IntKind.min, IntKind.max, IntKind.signed, IntKind.bits] at this
    unfold i64B
    simpa using this
  refine ⟨(true, ()), ?_, rfl⟩
  unfold F_laws_FnExactIsTimedProof
  obtain ⟨r, h1, h2⟩ := szTimetable_neg2 n es v p l u () he hl1 hl2
  simp only [h1, Option.bind_some]
  rcases h2 with h2 | ⟨h2, h3, ho⟩
  · simp only [h2, decide_true, if_true]
  · have hr : ¬ r < 0 := by omega
    obtain ⟨r2, h4, h5⟩ := szIntSSS_neg T r () h2 h3 hTl hT2
    simp only [hr, decide_false, Bool.false_eq_true, if_false, h4, Option.bind_some]
    rcases h5 with h5 | hT3
    · simp only [h5, decide_true, if_true]
    · obtain ⟨g1, g2⟩ : okL es = true ∧ okLL l = true := by
        unfold okT at ho
        simpa only [Bool.and_eq_true] using ho
      have ho' : okT ((n, es, v), p, l, ()) = true := ho
      have hsp : G_timedProof (((n, es, v), p, l, ()), T, ()) = some (tpB ((n, es, v), p, l, ()) T) := by
        unfold G_timedProof
        simp only [ho', hT3, h64, Bool.and_self, if_true]
      simp only [toTimetable_eq n es v p l u _ g1 g2, G_toIntSSS, hT3, if_true, hsp, implTP _ _ _ ho' hT3, eqTimetable_self n es v p l () _ g1 g2, eqIntSSS_self T _ hT3, Option.bind_some, beq_self_eq_true, Bool.not_true, Bool.false_eq_true, if_false]
      split <;> rfl
end Go.V.W
namespace Go.V.W
open Go.Proofs Go.Shelf
-- import Derived.Shelf.Lays
-- import Derived.Shelf.Strings.IndexAnyAll
theorem tab : TabOk Try.prog (assoc tks) (assoc ars) := tab_of (by kernel_rfl)
theorem mixed : Try.prog.follows .mixedOrders = true := by kernel_rfl
theorem C_laws_szIntA2S_raw (N : Nat) : Contract Try.prog 73 ⟨[(K_SPiiq, false), (I, false)], [I], true, F_laws_szIntA2S N⟩ :=
  have E : Env Try.prog Γ_laws_szIntA2S := env_of tab trivial
  con_of (Pc := []) E mixed Try.func73 (by kernel_rfl) (by kernel_rfl) (by kernel_rfl) (by kernel_rfl) (fun A hA => trivial) (F_laws_szIntA2S_ok N)
theorem C_laws_szIntA2S : Contract Try.prog 73 S_laws_szIntA2S := Contract.less (fun N : Nat => F_laws_szIntA2S N) C_laws_szIntA2S_raw (fun d r h => ⟨0, (F_laws_szIntA2S_tot 0 d).trans h⟩)
theorem C_laws_szGraph_raw (N : Nat) : Contract Try.prog 24 ⟨[(K_PiSPiiqq, false), (I, false)], [I], true, F_laws_szGraph N⟩ :=
  have E : Env Try.prog Γ_laws_szGraph := env_of tab ⟨C_laws_szIntA2S, trivial⟩
  con_of (Pc := []) E mixed Try.func24 (by kernel_rfl) (by kernel_rfl) (by kernel_rfl) (by kernel_rfl) (fun A hA => trivial) (F_laws_szGraph_ok N)
theorem C_laws_szGraph : Contract Try.prog 24 S_laws_szGraph := Contract.less (fun N : Nat => F_laws_szGraph N) C_laws_szGraph_raw (fun d r h => ⟨0, (F_laws_szGraph_tot 0 d).trans h⟩)
theorem C_laws_szIntS_raw (N : Nat) : Contract Try.prog 68 ⟨[(K_Si, false), (I, false)], [I], true, F_laws_szIntS N⟩ :=
  have E : Env Try.prog Γ_laws_szIntS := env_of tab trivial
  con_of (Pc := []) E mixed Try.func68 (by kernel_rfl) (by kernel_rfl) (by kernel_rfl) (by kernel_rfl) (fun A hA => trivial) (F_laws_szIntS_ok N)
theorem C_laws_szIntS : Contract Try.prog 68 S_laws_szIntS := Contract.less (fun N : Nat => F_laws_szIntS N) C_laws_szIntS_raw (fun d r h => ⟨0, (F_laws_szIntS_tot 0 d).trans h⟩)
theorem C_laws_szIntSS_raw (N : Nat) : Contract Try.prog 80 ⟨[(K_SSi, false), (I, false)], [I], true, F_laws_szIntSS N⟩ :=
  have E : Env Try.prog Γ_laws_szIntSS := env_of tab ⟨C_laws_szIntS, trivial⟩
  con_of (Pc := [(0, ⟨laws_szIntSS_l0_h, laws_szIntSS_l0_o, laws_szIntSS_l0 N N⟩)]) E mixed Try.func80 (by kernel_rfl) (by kernel_rfl) (by kernel_rfl) (by kernel_rfl) (fun A hA => ⟨pc_of (inner := []) E mixed hA (by kernel_rfl) (by kernel_rfl) (by kernel_rfl) trivial (fun _ => rfl) (fun m d => (laws_szIntSS_l0_ok N (laws_szIntSS_l0 N m) d).symm) N, trivial⟩) (F_laws_szIntSS_ok N)
theorem C_laws_szIntSS : Contract Try.prog 80 S_laws_szIntSS := Contract.less (fun N : Nat => F_laws_szIntSS N) C_laws_szIntSS_raw szIntSS_lim
theorem C_laws_szTimetable_raw (N : Nat) : Contract Try.prog 32 ⟨[(K_PPiSPiiqqiSSiq, false), (I, false)], [I], true, F_laws_szTimetable N⟩ :=
  have E : Env Try.prog Γ_laws_szTimetable := env_of tab ⟨C_laws_szGraph, ⟨C_laws_szIntSS, trivial⟩⟩
  con_of (Pc := []) E mixed Try.func32 (by kernel_rfl) (by kernel_rfl) (by kernel_rfl) (by kernel_rfl) (fun A hA => trivial) (F_laws_szTimetable_ok N)
theorem C_laws_szTimetable : Contract Try.prog 32 S_laws_szTimetable := C_laws_szTimetable_raw 0
theorem C_laws_szIntSSS_raw (N : Nat) : Contract Try.prog 60 ⟨[(K_SSSi, false), (I, false)], [I], true, F_laws_szIntSSS N⟩ :=
  have E : Env Try.prog Γ_laws_szIntSSS := env_of tab ⟨C_laws_szIntSS, trivial⟩
  con_of (Pc := [(0, ⟨laws_szIntSSS_l0_h, laws_szIntSSS_l0_o, laws_szIntSSS_l0 N N⟩)]) E mixed Try.func60 (by kernel_rfl) (by kernel_rfl) (by kernel_rfl) (by kernel_rfl) (fun A hA => ⟨pc_of (inner := []) E mixed hA (by kernel_rfl) (by kernel_rfl) (by kernel_rfl) trivial (fun _ => rfl) (fun m d => (laws_szIntSSS_l0_ok N (laws_szIntSSS_l0 N m) d).symm) N, trivial⟩) (F_laws_szIntSSS_ok N)
theorem C_laws_szIntSSS : Contract Try.prog 60 S_laws_szIntSSS := Contract.less (fun N : Nat => F_laws_szIntSSS N) C_laws_szIntSSS_raw szIntSSS_lim
theorem C_laws_toIntA2_raw (N : Nat) : Contract Try.prog 125 ⟨[(K_Piiq, false)], [K_Piiq], true, F_laws_toIntA2 N⟩ :=
  have E : Env Try.prog Γ_laws_toIntA2 := env_of tab trivial
  con_of (Pc := [(0, ⟨laws_toIntA2_l0_h, laws_toIntA2_l0_o, laws_toIntA2_l0 N N⟩)]) E mixed Try.func125 (by kernel_rfl) (by kernel_rfl) (by kernel_rfl) (by kernel_rfl) (fun A hA => ⟨pc_of (inner := []) E mixed hA (by kernel_rfl) (by kernel_rfl) (by kernel_rfl) trivial (fun _ => rfl) (fun m d => (laws_toIntA2_l0_ok N (laws_toIntA2_l0 N m) d).symm) N, trivial⟩) (F_laws_toIntA2_ok N)
theorem C_laws_toIntA2 : Contract Try.prog 125 S_laws_toIntA2 := Contract.less (fun N : Nat => F_laws_toIntA2 N) C_laws_toIntA2_raw toIntA2_lim
theorem C_laws_toIntA2S_raw (N : Nat) : Contract Try.prog 75 ⟨[(K_SPiiq, false)], [K_SPiiq], true, F_laws_toIntA2S N⟩ :=
  have E : Env Try.prog Γ_laws_toIntA2S := env_of tab ⟨C_laws_toIntA2, trivial⟩
  con_of (Pc := [(0, ⟨laws_toIntA2S_l0_h, laws_toIntA2S_l0_o, laws_toIntA2S_l0 N N⟩)]) E mixed Try.func75 (by kernel_rfl) (by kernel_rfl) (by kernel_rfl) (by kernel_rfl) (fun A hA => ⟨pc_of (inner := []) E mixed hA (by kernel_rfl) (by kernel_rfl) (by kernel_rfl) trivial (fun _ => rfl) (fun m d => (laws_toIntA2S_l0_ok N (laws_toIntA2S_l0 N m) d).symm) N, trivial⟩) (F_laws_toIntA2S_ok N)
theorem C_laws_toIntA2S : Contract Try.prog 75 S_laws_toIntA2S := Contract.less (fun N : Nat => F_laws_toIntA2S N) C_laws_toIntA2S_raw toIntA2S_lim
theorem C_laws_toGraph_raw (N : Nat) : Contract Try.prog 26 ⟨[(K_PiSPiiqq, false)], [K_PiSPiiqq], true, F_laws_toGraph N⟩ :=
  have E : Env Try.prog Γ_laws_toGraph := env_of tab ⟨C_laws_toIntA2S, trivial⟩
  con_of (Pc := []) E mixed Try.func26 (by kernel_rfl) (by kernel_rfl) (by kernel_rfl) (by kernel_rfl) (fun A hA => trivial) (F_laws_toGraph_ok N)
theorem C_laws_toGraph : Contract Try.prog 26 S_laws_toGraph := C_laws_toGraph_raw 0
theorem C_laws_toIntS_raw (N : Nat) : Contract Try.prog 70 ⟨[(K_Si, false)], [K_Si], true, F_laws_toIntS N⟩ :=
  have E : Env Try.prog Γ_laws_toIntS := env_of tab trivial
  con_of (Pc := [(0, ⟨laws_toIntS_l0_h, laws_toIntS_l0_o, laws_toIntS_l0 N N⟩)]) E mixed Try.func70 (by kernel_rfl) (by kernel_rfl) (by kernel_rfl) (by kernel_rfl) (fun A hA => ⟨pc_of (inner := []) E mixed hA (by kernel_rfl) (by kernel_rfl) (by kernel_rfl) trivial (fun _ => rfl) (fun m d => (laws_toIntS_l0_ok N (laws_toIntS_l0 N m) d).symm) N, trivial⟩) (F_laws_toIntS_ok N)
theorem C_laws_toIntS : Contract Try.prog 70 S_laws_toIntS := Contract.less (fun N : Nat => F_laws_toIntS N) C_laws_toIntS_raw toIntS_lim
theorem C_laws_toIntSS_raw (N : Nat) : Contract Try.prog 82 ⟨[(K_SSi, false)], [K_SSi], true, F_laws_toIntSS N⟩ :=
  have E : Env Try.prog Γ_laws_toIntSS := env_of tab ⟨C_laws_toIntS, trivial⟩
  con_of (Pc := [(0, ⟨laws_toIntSS_l0_h, laws_toIntSS_l0_o, laws_toIntSS_l0 N N⟩)]) E mixed Try.func82 (by kernel_rfl) (by kernel_rfl) (by kernel_rfl) (by kernel_rfl) (fun A hA => ⟨pc_of (inner := []) E mixed hA (by kernel_rfl) (by kernel_rfl) (by kernel_rfl) trivial (fun _ => rfl) (fun m d => (laws_toIntSS_l0_ok N (laws_toIntSS_l0 N m) d).symm) N, trivial⟩) (F_laws_toIntSS_ok N)
theorem C_laws_toIntSS : Contract Try.prog 82 S_laws_toIntSS := Contract.less (fun N : Nat => F_laws_toIntSS N) C_laws_toIntSS_raw toIntSS_lim
theorem C_laws_toTimetable_raw (N : Nat) : Contract Try.prog 34 ⟨[(K_PPiSPiiqqiSSiq, false)], [K_PPiSPiiqqiSSiq], true, F_laws_toTimetable N⟩ :=
  have E : Env Try.prog Γ_laws_toTimetable := env_of tab ⟨C_laws_toGraph, ⟨C_laws_toIntSS, trivial⟩⟩
  con_of (Pc := []) E mixed Try.func34 (by kernel_rfl) (by kernel_rfl) (by kernel_rfl) (by kernel_rfl) (fun A hA => trivial) (F_laws_toTimetable_ok N)
theorem C_laws_toTimetable : Contract Try.prog 34 S_laws_toTimetable := C_laws_toTimetable_raw 0
theorem C_laws_toIntSSS_raw (N : Nat) : Contract Try.prog 62 ⟨[(K_SSSi, false)], [K_SSSi], true, F_laws_toIntSSS N⟩ :=
  have E : Env Try.prog Γ_laws_toIntSSS := env_of tab ⟨C_laws_toIntSS, trivial⟩
  con_of (Pc := [(0, ⟨laws_toIntSSS_l0_h, laws_toIntSSS_l0_o, laws_toIntSSS_l0 N N⟩)]) E mixed Try.func62 (by kernel_rfl) (by kernel_rfl) (by kernel_rfl) (by kernel_rfl) (fun A hA => ⟨pc_of (inner := []) E mixed hA (by kernel_rfl) (by kernel_rfl) (by kernel_rfl) trivial (fun _ => rfl) (fun m d => (laws_toIntSSS_l0_ok N (laws_toIntSSS_l0 N m) d).symm) N, trivial⟩) (F_laws_toIntSSS_ok N)
theorem C_laws_toIntSSS : Contract Try.prog 62 S_laws_toIntSSS := Contract.less (fun N : Nat => F_laws_toIntSSS N) C_laws_toIntSSS_raw toIntSSS_lim
theorem C_spec_l1In_raw (N : Nat) : Contract Try.prog 122 ⟨[(I, false), (I, false), (I, false)], [.bool], true, F_spec_l1In N⟩ :=
  have E : Env Try.prog Γ_spec_l1In := env_of tab trivial
  con_of (Pc := []) E mixed Try.func122 (by kernel_rfl) (by kernel_rfl) (by kernel_rfl) (by kernel_rfl) (fun A hA => trivial) (F_spec_l1In_ok N)
theorem C_spec_l1In : Contract Try.prog 122 S_spec_l1In := Contract.less (fun N : Nat => F_spec_l1In N) C_spec_l1In_raw (fun d r h => ⟨0, (F_spec_l1In_tot 0 d).trans h⟩)
theorem C_spec_l1Rising_raw (N : Nat) : Contract Try.prog 128 ⟨[(K_Si, false), (I, false), (I, false)], [.bool], true, F_spec_l1Rising N⟩ :=
  have E : Env Try.prog Γ_spec_l1Rising := env_of tab ⟨C_spec_l1In, trivial⟩
  con_of (Pc := [(0, ⟨spec_l1Rising_l0_h, spec_l1Rising_l0_o, spec_l1Rising_l0 N N⟩)]) E mixed Try.func128 (by kernel_rfl) (by kernel_rfl) (by kernel_rfl) (by kernel_rfl) (fun A hA => ⟨pc_of (inner := []) E mixed hA (by kernel_rfl) (by kernel_rfl) (by kernel_rfl) trivial (fun _ => rfl) (fun m d => (spec_l1Rising_l0_ok N (spec_l1Rising_l0 N m) d).symm) N, trivial⟩) (F_spec_l1Rising_ok N)
theorem C_spec_l1Rising : Contract Try.prog 128 S_spec_l1Rising := Contract.less (fun N : Nat => F_spec_l1Rising N) C_spec_l1Rising_raw l1Rising_lim
theorem C_spec_l2Before_raw (N : Nat) : Contract Try.prog 148 ⟨[(K_Piiq, false), (K_Piiq, false)], [.bool], true, F_spec_l2Before N⟩ :=
  have E : Env Try.prog Γ_spec_l2Before := env_of tab trivial
  con_of (Pc := []) E mixed Try.func148 (by kernel_rfl) (by kernel_rfl) (by kernel_rfl) (by kernel_rfl) (fun A hA => trivial) (F_spec_l2Before_ok N)
theorem C_spec_l2Before : Contract Try.prog 148 S_spec_l2Before := Contract.less (fun N : Nat => F_spec_l2Before N) C_spec_l2Before_raw (fun d r h => ⟨0, (F_spec_l2Before_tot 0 d).trans h⟩)
theorem C_spec_l2Good_raw (N : Nat) : Contract Try.prog 119 ⟨[(K_PiSPiiqq, false)], [.bool], true, F_spec_l2Good N⟩ :=
  have E : Env Try.prog Γ_spec_l2Good := env_of tab ⟨C_spec_l1In, ⟨C_spec_l2Before, trivial⟩⟩
  con_of (Pc := [(0, ⟨spec_l2Good_l0_h, spec_l2Good_l0_o, spec_l2Good_l0 N N⟩)]) E mixed Try.func119 (by kernel_rfl) (by kernel_rfl) (by kernel_rfl) (by kernel_rfl) (fun A hA => ⟨pc_of (inner := []) E mixed hA (by kernel_rfl) (by kernel_rfl) (by kernel_rfl) trivial (fun _ => rfl) (fun m d => (spec_l2Good_l0_ok N (spec_l2Good_l0 N m) d).symm) N, trivial⟩) (F_spec_l2Good_ok N)
theorem C_spec_l2Good : Contract Try.prog 119 S_spec_l2Good := Contract.less (fun N : Nat => F_spec_l2Good N) C_spec_l2Good_raw l2Good_lim
theorem C_spec_l4Field_raw (N : Nat) : Contract Try.prog 88 ⟨[(K_PiSPiiqq, false), (I, false)], [.bool], true, F_spec_l4Field N⟩ :=
  have E : Env Try.prog Γ_spec_l4Field := env_of tab ⟨C_spec_l2Good, ⟨C_spec_l1In, trivial⟩⟩
  con_of (Pc := []) E mixed Try.func88 (by kernel_rfl) (by kernel_rfl) (by kernel_rfl) (by kernel_rfl) (fun A hA => trivial) (F_spec_l4Field_ok N)
theorem C_spec_l4Field : Contract Try.prog 88 S_spec_l4Field := C_spec_l4Field_raw 0
theorem C_spec_l11Good_raw (N : Nat) : Contract Try.prog 81 ⟨[(K_PPiSPiiqqiSSiq, false)], [.bool], true, F_spec_l11Good N⟩ :=
  have E : Env Try.prog Γ_spec_l11Good := env_of tab ⟨C_spec_l4Field, ⟨C_spec_l1In, ⟨C_spec_l1Rising, trivial⟩⟩⟩
  con_of (Pc := [(0, ⟨spec_l11Good_l0_h, spec_l11Good_l0_o, spec_l11Good_l0 N N⟩)]) E mixed Try.func81 (by kernel_rfl) (by kernel_rfl) (by kernel_rfl) (by kernel_rfl) (fun A hA => ⟨pc_of (inner := []) E mixed hA (by kernel_rfl) (by kernel_rfl) (by kernel_rfl) trivial (fun _ => rfl) (fun m d => (spec_l11Good_l0_ok N (spec_l11Good_l0 N m) d).symm) N, trivial⟩) (F_spec_l11Good_ok N)
theorem C_spec_l11Good : Contract Try.prog 81 S_spec_l11Good := Contract.less (fun N : Nat => F_spec_l11Good N) C_spec_l11Good_raw l11Good_lim
theorem C_spec_l11Form_raw (N : Nat) : Contract Try.prog 112 ⟨[(K_PPiSPiiqqiSSiq, false), (K_SSSi, false)], [.bool], true, F_spec_l11Form N⟩ :=
  have E : Env Try.prog Γ_spec_l11Form := env_of tab trivial
  con_of (Pc := [(0, ⟨spec_l11Form_l0_h, spec_l11Form_l0_o, spec_l11Form_l0 N N⟩)]) E mixed Try.func112 (by kernel_rfl) (by kernel_rfl) (by kernel_rfl) (by kernel_rfl) (fun A hA => ⟨pc_of (inner := [(2, ⟨spec_l11Form_l2_h, spec_l11Form_l2_o, spec_l11Form_l2 N N⟩)]) E mixed hA (by kernel_rfl) (by kernel_rfl) (by kernel_rfl) ⟨pc_of (inner := [(4, ⟨spec_l11Form_l4_h, spec_l11Form_l4_o, spec_l11Form_l4 N N⟩)]) E mixed hA (by kernel_rfl) (by kernel_rfl) (by kernel_rfl) ⟨pc_of (inner := []) E mixed hA (by kernel_rfl) (by kernel_rfl) (by kernel_rfl) trivial (fun _ => rfl) (fun m d => (spec_l11Form_l4_ok N (spec_l11Form_l4 N m) d).symm) N, trivial⟩ (fun _ => rfl) (fun m d => (spec_l11Form_l2_ok N (spec_l11Form_l2 N m) d).symm) N, trivial⟩ (fun _ => rfl) (fun m d => (spec_l11Form_l0_ok N (spec_l11Form_l0 N m) d).symm) N, trivial⟩) (F_spec_l11Form_ok N)
theorem C_spec_l11Form : Contract Try.prog 112 S_spec_l11Form := Contract.less (fun N : Nat => F_spec_l11Form N) C_spec_l11Form_raw l11Form_lim
theorem C_spec_l1Has_raw (N : Nat) : Contract Try.prog 131 ⟨[(K_Si, false), (I, false)], [.bool], true, F_spec_l1Has N⟩ :=
  have E : Env Try.prog Γ_spec_l1Has := env_of tab trivial
  con_of (Pc := [(0, ⟨spec_l1Has_l0_h, spec_l1Has_l0_o, spec_l1Has_l0 N N⟩)]) E mixed Try.func131 (by kernel_rfl) (by kernel_rfl) (by kernel_rfl) (by kernel_rfl) (fun A hA => ⟨pc_of (inner := []) E mixed hA (by kernel_rfl) (by kernel_rfl) (by kernel_rfl) trivial (fun _ => rfl) (fun m d => (spec_l1Has_l0_ok N (spec_l1Has_l0 N m) d).symm) N, trivial⟩) (F_spec_l1Has_ok N)
theorem C_spec_l1Has : Contract Try.prog 131 S_spec_l1Has := Contract.less (fun N : Nat => F_spec_l1Has N) C_spec_l1Has_raw l1Has_lim
theorem C_spec_l11Open_raw (N : Nat) : Contract Try.prog 94 ⟨[(K_PPiSPiiqqiSSiq, false), (I, false)], [K_PiSPiiqq], true, F_spec_l11Open N⟩ :=
  have E : Env Try.prog Γ_spec_l11Open := env_of tab ⟨C_spec_l1Has, trivial⟩
  con_of (Pc := [(0, ⟨spec_l11Open_l0_h, spec_l11Open_l0_o, spec_l11Open_l0 N N⟩)]) E mixed Try.func94 (by kernel_rfl) (by kernel_rfl) (by kernel_rfl) (by kernel_rfl) (fun A hA => ⟨pc_of (inner := []) E mixed hA (by kernel_rfl) (by kernel_rfl) (by kernel_rfl) trivial (fun _ => rfl) (fun m d => (spec_l11Open_l0_ok N (spec_l11Open_l0 N m) d).symm) N, trivial⟩) (F_spec_l11Open_ok N)
theorem C_spec_l11Open : Contract Try.prog 94 S_spec_l11Open := Contract.less (fun N : Nat => F_spec_l11Open N) C_spec_l11Open_raw l11Open_lim
theorem C_spec_l2Near_raw (N : Nat) : Contract Try.prog 156 ⟨[(K_PiSPiiqq, false), (I, false), (I, false)], [.bool], true, F_spec_l2Near N⟩ :=
  have E : Env Try.prog Γ_spec_l2Near := env_of tab trivial
  con_of (Pc := [(0, ⟨spec_l2Near_l0_h, spec_l2Near_l0_o, spec_l2Near_l0 N N⟩)]) E mixed Try.func156 (by kernel_rfl) (by kernel_rfl) (by kernel_rfl) (by kernel_rfl) (fun A hA => ⟨pc_of (inner := []) E mixed hA (by kernel_rfl) (by kernel_rfl) (by kernel_rfl) trivial (fun _ => rfl) (fun m d => (spec_l2Near_l0_ok N (spec_l2Near_l0 N m) d).symm) N, trivial⟩) (F_spec_l2Near_ok N)
theorem C_spec_l2Near : Contract Try.prog 156 S_spec_l2Near := Contract.less (fun N : Nat => F_spec_l2Near N) C_spec_l2Near_raw l2Near_lim
theorem C_spec_l2Neighbors_raw (N : Nat) : Contract Try.prog 140 ⟨[(K_PiSPiiqq, false), (I, false)], [K_Si], true, F_spec_l2Neighbors N⟩ :=
  have E : Env Try.prog Γ_spec_l2Neighbors := env_of tab ⟨C_spec_l2Near, trivial⟩
  con_of (Pc := [(0, ⟨spec_l2Neighbors_l0_h, spec_l2Neighbors_l0_o, spec_l2Neighbors_l0 N N⟩)]) E mixed Try.func140 (by kernel_rfl) (by kernel_rfl) (by kernel_rfl) (by kernel_rfl) (fun A hA => ⟨pc_of (inner := []) E mixed hA (by kernel_rfl) (by kernel_rfl) (by kernel_rfl) trivial (fun _ => rfl) (fun m d => (spec_l2Neighbors_l0_ok N (spec_l2Neighbors_l0 N m) d).symm) N, trivial⟩) (F_spec_l2Neighbors_ok N)
theorem C_spec_l2Neighbors : Contract Try.prog 140 S_spec_l2Neighbors := Contract.less (fun N : Nat => F_spec_l2Neighbors N) C_spec_l2Neighbors_raw l2Neighbors_lim
theorem C_spec_l1Put_raw (N : Nat) : Contract Try.prog 136 ⟨[(K_Si, false), (I, false)], [K_Si], false, F_spec_l1Put N⟩ :=
  have E : Env Try.prog Γ_spec_l1Put := env_of tab trivial
  con_of (Pc := [(0, ⟨spec_l1Put_l0_h, spec_l1Put_l0_o, spec_l1Put_l0 N N⟩)]) E mixed Try.func136 (by kernel_rfl) (by kernel_rfl) (by kernel_rfl) (by kernel_rfl) (fun A hA => ⟨pc_of (inner := []) E mixed hA (by kernel_rfl) (by kernel_rfl) (by kernel_rfl) trivial (fun _ => rfl) (fun m d => (spec_l1Put_l0_ok N (spec_l1Put_l0 N m) d).symm) N, trivial⟩) (F_spec_l1Put_ok N)
theorem C_spec_l1Put : Contract Try.prog 136 S_spec_l1Put := Contract.less (fun N : Nat => F_spec_l1Put N) C_spec_l1Put_raw l1Put_lim
theorem C_spec_l2Ball_raw (N : Nat) : Contract Try.prog 110 ⟨[(K_PiSPiiqq, false), (I, false)], [K_Si], false, F_spec_l2Ball N⟩ :=
  have E : Env Try.prog Γ_spec_l2Ball := env_of tab ⟨C_spec_l1Put, ⟨C_spec_l2Neighbors, trivial⟩⟩
  con_of (Pc := []) E mixed Try.func110 (by kernel_rfl) (by kernel_rfl) (by kernel_rfl) (by kernel_rfl) (fun A hA => trivial) (F_spec_l2Ball_ok N)
theorem C_spec_l2Ball : Contract Try.prog 110 S_spec_l2Ball := C_spec_l2Ball_raw 0
theorem C_spec_l11Balls_raw (N : Nat) : Contract Try.prog 113 ⟨[(K_PPiSPiiqqiSSiq, false)], [K_SSSi], false, F_spec_l11Balls N⟩ :=
  have E : Env Try.prog Γ_spec_l11Balls := env_of tab ⟨C_spec_l11Open, ⟨C_spec_l2Ball, trivial⟩⟩
  con_of (Pc := [(0, ⟨spec_l11Balls_l0_h, spec_l11Balls_l0_o, spec_l11Balls_l0 N N⟩)]) E mixed Try.func113 (by kernel_rfl) (by kernel_rfl) (by kernel_rfl) (by kernel_rfl) (fun A hA => ⟨pc_of (inner := [(2, ⟨spec_l11Balls_l2_h, spec_l11Balls_l2_o, spec_l11Balls_l2 N N⟩)]) E mixed hA (by kernel_rfl) (by kernel_rfl) (by kernel_rfl) ⟨pc_of (inner := []) E mixed hA (by kernel_rfl) (by kernel_rfl) (by kernel_rfl) trivial (fun _ => rfl) (fun m d => (spec_l11Balls_l2_ok N (spec_l11Balls_l2 N m) d).symm) N, trivial⟩ (fun _ => rfl) (fun m d => (spec_l11Balls_l0_ok N (spec_l11Balls_l0 N m) d).symm) N, trivial⟩) (F_spec_l11Balls_ok N)
theorem C_spec_l11Balls : Contract Try.prog 113 S_spec_l11Balls := Contract.less (fun N : Nat => F_spec_l11Balls N) C_spec_l11Balls_raw l11Balls_lim
theorem C_spec_l1Most_raw (N : Nat) : Contract Try.prog 157 ⟨[(I, false), (I, false)], [I], true, F_spec_l1Most N⟩ :=
  have E : Env Try.prog Γ_spec_l1Most := env_of tab trivial
  con_of (Pc := []) E mixed Try.func157 (by kernel_rfl) (by kernel_rfl) (by kernel_rfl) (by kernel_rfl) (fun A hA => trivial) (F_spec_l1Most_ok N)
theorem C_spec_l1Most : Contract Try.prog 157 S_spec_l1Most := Contract.less (fun N : Nat => F_spec_l1Most N) C_spec_l1Most_raw (fun d r h => ⟨0, (F_spec_l1Most_tot 0 d).trans h⟩)
theorem C_spec_l11After_raw (N : Nat) : Contract Try.prog 141 ⟨[(K_SSSi, false), (K_SSSi, false), (I, false), (I, false), (I, false)], [I], true, F_spec_l11After N⟩ :=
  have E : Env Try.prog Γ_spec_l11After := env_of tab ⟨C_spec_l1Most, trivial⟩
  con_of (Pc := [(0, ⟨spec_l11After_l0_h, spec_l11After_l0_o, spec_l11After_l0 N N⟩)]) E mixed Try.func141 (by kernel_rfl) (by kernel_rfl) (by kernel_rfl) (by kernel_rfl) (fun A hA => ⟨pc_of (inner := []) E mixed hA (by kernel_rfl) (by kernel_rfl) (by kernel_rfl) trivial (fun _ => rfl) (fun m d => (spec_l11After_l0_ok N (spec_l11After_l0 N m) d).symm) N, trivial⟩) (F_spec_l11After_ok N)
theorem C_spec_l11After : Contract Try.prog 141 S_spec_l11After := Contract.less (fun N : Nat => F_spec_l11After N) C_spec_l11After_raw l11After_lim
theorem C_spec_l11Proves_raw (N : Nat) : Contract Try.prog 114 ⟨[(K_SSSi, false), (K_SSSi, false), (I, false), (I, false), (I, false)], [.bool], true, F_spec_l11Proves N⟩ :=
  have E : Env Try.prog Γ_spec_l11Proves := env_of tab ⟨C_spec_l1In, ⟨C_spec_l11After, trivial⟩⟩
  con_of (Pc := [(0, ⟨spec_l11Proves_l0_h, spec_l11Proves_l0_o, spec_l11Proves_l0 N N⟩)]) E mixed Try.func114 (by kernel_rfl) (by kernel_rfl) (by kernel_rfl) (by kernel_rfl) (fun A hA => ⟨pc_of (inner := []) E mixed hA (by kernel_rfl) (by kernel_rfl) (by kernel_rfl) trivial (fun _ => rfl) (fun m d => (spec_l11Proves_l0_ok N (spec_l11Proves_l0 N m) d).symm) N, trivial⟩) (F_spec_l11Proves_ok N)
theorem C_spec_l11Proves : Contract Try.prog 114 S_spec_l11Proves := Contract.less (fun N : Nat => F_spec_l11Proves N) C_spec_l11Proves_raw l11Proves_lim
theorem C_spec_IsTimedProof_raw (N : Nat) : Contract Try.prog 61 ⟨[(K_PPiSPiiqqiSSiq, false), (K_SSSi, false)], [.bool, .bool], true, F_spec_IsTimedProof N⟩ :=
  have E : Env Try.prog Γ_spec_IsTimedProof := env_of tab ⟨C_spec_l11Good, ⟨C_spec_l11Form, ⟨C_spec_l11Balls, ⟨C_spec_l11Proves, trivial⟩⟩⟩⟩
  con_of (Pc := [(0, ⟨spec_IsTimedProof_l0_h, spec_IsTimedProof_l0_o, spec_IsTimedProof_l0 N N⟩)]) E mixed Try.func61 (by kernel_rfl) (by kernel_rfl) (by kernel_rfl) (by kernel_rfl) (fun A hA => ⟨pc_of (inner := [(2, ⟨spec_IsTimedProof_l2_h, spec_IsTimedProof_l2_o, spec_IsTimedProof_l2 N N⟩)]) E mixed hA (by kernel_rfl) (by kernel_rfl) (by kernel_rfl) ⟨pc_of (inner := [(4, ⟨spec_IsTimedProof_l4_h, spec_IsTimedProof_l4_o, spec_IsTimedProof_l4 N N⟩)]) E mixed hA (by kernel_rfl) (by kernel_rfl) (by kernel_rfl) ⟨pc_of (inner := []) E mixed hA (by kernel_rfl) (by kernel_rfl) (by kernel_rfl) trivial (fun _ => rfl) (fun m d => (spec_IsTimedProof_l4_ok N (spec_IsTimedProof_l4 N m) d).symm) N, trivial⟩ (fun _ => rfl) (fun m d => (spec_IsTimedProof_l2_ok N (spec_IsTimedProof_l2 N m) d).symm) N, trivial⟩ (fun _ => rfl) (fun m d => (spec_IsTimedProof_l0_ok N (spec_IsTimedProof_l0 N m) d).symm) N, trivial⟩) (F_spec_IsTimedProof_ok N)
theorem C_spec_IsTimedProof : Contract Try.prog 61 S_spec_IsTimedProof := Contract.less (fun N : Nat => F_spec_IsTimedProof N) C_spec_IsTimedProof_raw specTP_lim
theorem C_impl_within_raw (N : Nat) : Contract Try.prog 72 ⟨[(I, false), (I, false), (I, false)], [.bool], true, F_impl_within N⟩ :=
  have E : Env Try.prog Γ_impl_within := env_of tab trivial
  con_of (Pc := []) E mixed Try.func72 (by kernel_rfl) (by kernel_rfl) (by kernel_rfl) (by kernel_rfl) (fun A hA => trivial) (F_impl_within_ok N)
theorem C_impl_within : Contract Try.prog 72 S_impl_within := Contract.less (fun N : Nat => F_impl_within N) C_impl_within_raw (fun d r h => ⟨0, (F_impl_within_tot 0 d).trans h⟩)
theorem C_cmp_isNaN_int_raw (N : Nat) : Contract Try.prog 164 ⟨[(I, false)], [.bool], true, F_cmp_isNaN_int N⟩ :=
  have E : Env Try.prog Γ_cmp_isNaN_int := env_of tab trivial
  con_of (Pc := []) E mixed Try.func164 (by kernel_rfl) (by kernel_rfl) (by kernel_rfl) (by kernel_rfl) (fun A hA => trivial) (F_cmp_isNaN_int_ok N)
theorem C_cmp_isNaN_int : Contract Try.prog 164 S_cmp_isNaN_int := Contract.less (fun N : Nat => F_cmp_isNaN_int N) C_cmp_isNaN_int_raw (fun d r h => ⟨0, (F_cmp_isNaN_int_tot 0 d).trans h⟩)
theorem C_cmp_Compare_int_raw (N : Nat) : Contract Try.prog 149 ⟨[(I, false), (I, false)], [I], true, F_cmp_Compare_int N⟩ :=
  have E : Env Try.prog Γ_cmp_Compare_int := env_of tab ⟨C_cmp_isNaN_int, trivial⟩
  con_of (Pc := []) E mixed Try.func149 (by kernel_rfl) (by kernel_rfl) (by kernel_rfl) (by kernel_rfl) (fun A hA => trivial) (F_cmp_Compare_int_ok N)
theorem C_cmp_Compare_int : Contract Try.prog 149 S_cmp_Compare_int := Contract.less (fun N : Nat => F_cmp_Compare_int N) C_cmp_Compare_int_raw (fun d r h => ⟨0, (F_cmp_Compare_int_tot 0 d).trans h⟩)
theorem C_slices_Compare_Sint_int_raw (N : Nat) : Contract Try.prog 126 ⟨[(K_Si, false), (K_Si, false)], [I], true, F_slices_Compare_Sint_int N⟩ :=
  have E : Env Try.prog Γ_slices_Compare_Sint_int := env_of tab ⟨C_cmp_Compare_int, trivial⟩
  con_of (Pc := [(0, ⟨slices_Compare_Sint_int_l0_h, slices_Compare_Sint_int_l0_o, slices_Compare_Sint_int_l0 N N⟩)]) E mixed Try.func126 (by kernel_rfl) (by kernel_rfl) (by kernel_rfl) (by kernel_rfl) (fun A hA => ⟨pc_of (inner := []) E mixed hA (by kernel_rfl) (by kernel_rfl) (by kernel_rfl) trivial (fun _ => rfl) (fun m d => (slices_Compare_Sint_int_l0_ok N (slices_Compare_Sint_int_l0 N m) d).symm) N, trivial⟩) (F_slices_Compare_Sint_int_ok N)
theorem C_slices_Compare_Sint_int : Contract Try.prog 126 S_slices_Compare_Sint_int := Contract.less (fun N : Nat => F_slices_Compare_Sint_int N) C_slices_Compare_Sint_int_raw compare_lim
theorem C_impl_IsGraph_raw (N : Nat) : Contract Try.prog 76 ⟨[(K_PiSPiiqq, false)], [.bool], true, F_impl_IsGraph N⟩ :=
  have E : Env Try.prog Γ_impl_IsGraph := env_of tab ⟨C_impl_within, ⟨C_slices_Compare_Sint_int, trivial⟩⟩
  con_of (Pc := [(0, ⟨impl_IsGraph_l0_h, impl_IsGraph_l0_o, impl_IsGraph_l0 N N⟩)]) E mixed Try.func76 (by kernel_rfl) (by kernel_rfl) (by kernel_rfl) (by kernel_rfl) (fun A hA => ⟨pc_of (inner := []) E mixed hA (by kernel_rfl) (by kernel_rfl) (by kernel_rfl) trivial (fun _ => rfl) (fun m d => (impl_IsGraph_l0_ok N (impl_IsGraph_l0 N m) d).symm) N, trivial⟩) (F_impl_IsGraph_ok N)
theorem C_impl_IsGraph : Contract Try.prog 76 S_impl_IsGraph := Contract.less (fun N : Nat => F_impl_IsGraph N) C_impl_IsGraph_raw IsGraph_lim
theorem C_impl_increasing_raw (N : Nat) : Contract Try.prog 85 ⟨[(K_Si, false)], [.bool], true, F_impl_increasing N⟩ :=
  have E : Env Try.prog Γ_impl_increasing := env_of tab trivial
  con_of (Pc := [(0, ⟨impl_increasing_l0_h, impl_increasing_l0_o, impl_increasing_l0 N N⟩)]) E mixed Try.func85 (by kernel_rfl) (by kernel_rfl) (by kernel_rfl) (by kernel_rfl) (fun A hA => ⟨pc_of (inner := []) E mixed hA (by kernel_rfl) (by kernel_rfl) (by kernel_rfl) trivial (fun _ => rfl) (fun m d => (impl_increasing_l0_ok N (impl_increasing_l0 N m) d).symm) N, trivial⟩) (F_impl_increasing_ok N)
theorem C_impl_increasing : Contract Try.prog 85 S_impl_increasing := Contract.less (fun N : Nat => F_impl_increasing N) C_impl_increasing_raw increasing_lim
theorem C_impl_allWithin_raw (N : Nat) : Contract Try.prog 86 ⟨[(K_Si, false), (I, false), (I, false)], [.bool], true, F_impl_allWithin N⟩ :=
  have E : Env Try.prog Γ_impl_allWithin := env_of tab ⟨C_impl_within, trivial⟩
  con_of (Pc := [(0, ⟨impl_allWithin_l0_h, impl_allWithin_l0_o, impl_allWithin_l0 N N⟩)]) E mixed Try.func86 (by kernel_rfl) (by kernel_rfl) (by kernel_rfl) (by kernel_rfl) (fun A hA => ⟨pc_of (inner := []) E mixed hA (by kernel_rfl) (by kernel_rfl) (by kernel_rfl) trivial (fun _ => rfl) (fun m d => (impl_allWithin_l0_ok N (impl_allWithin_l0 N m) d).symm) N, trivial⟩) (F_impl_allWithin_ok N)
theorem C_impl_allWithin : Contract Try.prog 86 S_impl_allWithin := Contract.less (fun N : Nat => F_impl_allWithin N) C_impl_allWithin_raw allWithin_lim
theorem C_impl_IsTimetable_1_raw (N : Nat) : Contract Try.prog 84 ⟨[(K_Si, false), (K_BPPiSPiiqqiSSiq, false)], [.bool], true, F_impl_IsTimetable_1 N⟩ :=
  have E : Env Try.prog Γ_impl_IsTimetable_1 := env_of tab ⟨C_impl_increasing, ⟨C_impl_allWithin, trivial⟩⟩
  con_of (Pc := []) E mixed Try.func84 (by kernel_rfl) (by kernel_rfl) (by kernel_rfl) (by kernel_rfl) (fun A hA => trivial) (F_impl_IsTimetable_1_ok N)
theorem C_impl_IsTimetable_1 : Contract Try.prog 84 S_impl_IsTimetable_1 := C_impl_IsTimetable_1_raw 0
theorem CV_impl_IsTimetable_1 : ContractV Try.prog SV_impl_IsTimetable_1 := conV_0_1_1 C_impl_IsTimetable_1
theorem C_slices_IndexFunc_SSint_Sint_by_impl_IsTimetable_1_raw (N : Nat) : Contract Try.prog 129 ⟨[(K_SSi, false), (K_F_impl_IsTimetable_1_qPBPPiSPiiqqiSSiqq, false)], [I], true, F_slices_IndexFunc_SSint_Sint_by_impl_IsTimetable_1 N⟩ :=
  have E : Env Try.prog Γ_slices_IndexFunc_SSint_Sint_by_impl_IsTimetable_1 := env_ofV tab trivial ⟨CV_impl_IsTimetable_1, trivial⟩ (fun _ h => by cases h)
  con_of (Pc := [(0, ⟨slices_IndexFunc_SSint_Sint_by_impl_IsTimetable_1_l0_h, slices_IndexFunc_SSint_Sint_by_impl_IsTimetable_1_l0_o, slices_IndexFunc_SSint_Sint_by_impl_IsTimetable_1_l0 N N⟩)]) E mixed Try.func129 (by kernel_rfl) (by kernel_rfl) (by kernel_rfl) (by kernel_rfl) (fun A hA => ⟨pc_of (inner := []) E mixed hA (by kernel_rfl) (by kernel_rfl) (by kernel_rfl) trivial (fun _ => rfl) (fun m d => (slices_IndexFunc_SSint_Sint_by_impl_IsTimetable_1_l0_ok N (slices_IndexFunc_SSint_Sint_by_impl_IsTimetable_1_l0 N m) d).symm) N, trivial⟩) (F_slices_IndexFunc_SSint_Sint_by_impl_IsTimetable_1_ok N)
theorem C_slices_IndexFunc_SSint_Sint_by_impl_IsTimetable_1 : Contract Try.prog 129 S_slices_IndexFunc_SSint_Sint_by_impl_IsTimetable_1 := Contract.less (fun N : Nat => F_slices_IndexFunc_SSint_Sint_by_impl_IsTimetable_1 N) C_slices_IndexFunc_SSint_Sint_by_impl_IsTimetable_1_raw index84_lim
theorem C_slices_ContainsFunc_SSint_Sint_by_impl_IsTimetable_1_raw (N : Nat) : Contract Try.prog 83 ⟨[(K_SSi, false), (K_F_impl_IsTimetable_1_qPBPPiSPiiqqiSSiqq, false)], [.bool], true, F_slices_ContainsFunc_SSint_Sint_by_impl_IsTimetable_1 N⟩ :=
  have E : Env Try.prog Γ_slices_ContainsFunc_SSint_Sint_by_impl_IsTimetable_1 := env_of tab ⟨C_slices_IndexFunc_SSint_Sint_by_impl_IsTimetable_1, trivial⟩
  con_of (Pc := []) E mixed Try.func83 (by kernel_rfl) (by kernel_rfl) (by kernel_rfl) (by kernel_rfl) (fun A hA => trivial) (F_slices_ContainsFunc_SSint_Sint_by_impl_IsTimetable_1_ok N)
theorem C_slices_ContainsFunc_SSint_Sint_by_impl_IsTimetable_1 : Contract Try.prog 83 S_slices_ContainsFunc_SSint_Sint_by_impl_IsTimetable_1 := C_slices_ContainsFunc_SSint_Sint_by_impl_IsTimetable_1_raw 0
theorem C_impl_IsTimetable_raw (N : Nat) : Contract Try.prog 35 ⟨[(K_PPiSPiiqqiSSiq, false)], [.bool], true, F_impl_IsTimetable N⟩ :=
  have E : Env Try.prog Γ_impl_IsTimetable := env_ofV tab ⟨C_impl_within, ⟨C_impl_IsGraph, ⟨C_slices_ContainsFunc_SSint_Sint_by_impl_IsTimetable_1, trivial⟩⟩⟩ trivial (fun _ h => by cases h)
  con_of (Pc := []) E mixed Try.func35 (by kernel_rfl) (by kernel_rfl) (by kernel_rfl) (by kernel_rfl) (fun A hA => trivial) (F_impl_IsTimetable_ok N)
theorem C_impl_IsTimetable : Contract Try.prog 35 S_impl_IsTimetable := C_impl_IsTimetable_raw 0
theorem C_impl_netOf_raw (N : Nat) : Contract Try.prog 108 ⟨[(K_PiSPiiqq, false)], [K_PSiq], true, F_impl_netOf N⟩ :=
  have E : Env Try.prog Γ_impl_netOf := env_of tab trivial
  con_of (Pc := [(0, ⟨impl_netOf_l0_h, impl_netOf_l0_o, impl_netOf_l0 N N⟩)]) E mixed Try.func108 (by kernel_rfl) (by kernel_rfl) (by kernel_rfl) (by kernel_rfl) (fun A hA => ⟨pc_of (inner := []) E mixed hA (by kernel_rfl) (by kernel_rfl) (by kernel_rfl) trivial (fun _ => rfl) (fun m d => (impl_netOf_l0_ok N (impl_netOf_l0 N m) d).symm) N, trivial⟩) (F_impl_netOf_ok N)
theorem C_impl_netOf : Contract Try.prog 108 S_impl_netOf := Contract.less (fun N : Nat => F_impl_netOf N) C_impl_netOf_raw netOf_lim
theorem C_slices_Index_Sint_int_raw (N : Nat) : Contract Try.prog 150 ⟨[(K_Si, false), (I, false)], [I], true, F_slices_Index_Sint_int N⟩ :=
  have E : Env Try.prog Γ_slices_Index_Sint_int := env_of tab trivial
  con_of (Pc := [(0, ⟨slices_Index_Sint_int_l0_h, slices_Index_Sint_int_l0_o, slices_Index_Sint_int_l0 N N⟩)]) E mixed Try.func150 (by kernel_rfl) (by kernel_rfl) (by kernel_rfl) (by kernel_rfl) (fun A hA => ⟨pc_of (inner := []) E mixed hA (by kernel_rfl) (by kernel_rfl) (by kernel_rfl) trivial (fun _ => rfl) (fun m d => (slices_Index_Sint_int_l0_ok N (slices_Index_Sint_int_l0 N m) d).symm) N, trivial⟩) (F_slices_Index_Sint_int_ok N)
theorem C_slices_Index_Sint_int : Contract Try.prog 150 S_slices_Index_Sint_int := Contract.less (fun N : Nat => F_slices_Index_Sint_int N) C_slices_Index_Sint_int_raw index_lim
theorem C_slices_Contains_Sint_int_raw (N : Nat) : Contract Try.prog 132 ⟨[(K_Si, false), (I, false)], [.bool], true, F_slices_Contains_Sint_int N⟩ :=
  have E : Env Try.prog Γ_slices_Contains_Sint_int := env_of tab ⟨C_slices_Index_Sint_int, trivial⟩
  con_of (Pc := []) E mixed Try.func132 (by kernel_rfl) (by kernel_rfl) (by kernel_rfl) (by kernel_rfl) (fun A hA => trivial) (F_slices_Contains_Sint_int_ok N)
theorem C_slices_Contains_Sint_int : Contract Try.prog 132 S_slices_Contains_Sint_int := C_slices_Contains_Sint_int_raw 0
theorem C_impl_openNets_raw (N : Nat) : Contract Try.prog 96 ⟨[(K_PPiSPiiqqiSSiq, false)], [K_SPSiq], true, F_impl_openNets N⟩ :=
  have E : Env Try.prog Γ_impl_openNets := env_of tab ⟨C_impl_netOf, ⟨C_slices_Contains_Sint_int, trivial⟩⟩
  con_of (Pc := [(0, ⟨impl_openNets_l0_h, impl_openNets_l0_o, impl_openNets_l0 N N⟩)]) E mixed Try.func96 (by kernel_rfl) (by kernel_rfl) (by kernel_rfl) (by kernel_rfl) (fun A hA => ⟨pc_of (inner := [(2, ⟨impl_openNets_l2_h, impl_openNets_l2_o, impl_openNets_l2 N N⟩)]) E mixed hA (by kernel_rfl) (by kernel_rfl) (by kernel_rfl) ⟨pc_of (inner := []) E mixed hA (by kernel_rfl) (by kernel_rfl) (by kernel_rfl) trivial (fun _ => rfl) (fun m d => (impl_openNets_l2_ok N (impl_openNets_l2 N m) d).symm) N, trivial⟩ (fun _ => rfl) (fun m d => (impl_openNets_l0_ok N (impl_openNets_l0 N m) d).symm) N, trivial⟩) (F_impl_openNets_ok N)
theorem C_impl_openNets : Contract Try.prog 96 S_impl_openNets := Contract.less (fun N : Nat => F_impl_openNets N) C_impl_openNets_raw openNets_lim
theorem C_impl_net_size_raw (N : Nat) : Contract Try.prog 134 ⟨[(K_PSiq, false)], [I], true, F_impl_net_size N⟩ :=
  have E : Env Try.prog Γ_impl_net_size := env_of tab trivial
  con_of (Pc := []) E mixed Try.func134 (by kernel_rfl) (by kernel_rfl) (by kernel_rfl) (by kernel_rfl) (fun A hA => trivial) (F_impl_net_size_ok N)
theorem C_impl_net_size : Contract Try.prog 134 S_impl_net_size := Contract.less (fun N : Nat => F_impl_net_size N) C_impl_net_size_raw (fun d r h => ⟨0, (F_impl_net_size_tot 0 d).trans h⟩)
theorem C_impl_isTimedProof_1_1_raw (N : Nat) : Contract Try.prog 144 ⟨[(I, false)], [.bool], true, F_impl_isTimedProof_1_1 N⟩ :=
  have E : Env Try.prog Γ_impl_isTimedProof_1_1 := env_of tab trivial
  con_of (Pc := []) E mixed Try.func144 (by kernel_rfl) (by kernel_rfl) (by kernel_rfl) (by kernel_rfl) (fun A hA => trivial) (F_impl_isTimedProof_1_1_ok N)
theorem C_impl_isTimedProof_1_1 : Contract Try.prog 144 S_impl_isTimedProof_1_1 := Contract.less (fun N : Nat => F_impl_isTimedProof_1_1 N) C_impl_isTimedProof_1_1_raw (fun d r h => ⟨0, (F_impl_isTimedProof_1_1_tot 0 d).trans h⟩)
theorem C_impl_net_closed_raw (N : Nat) : Contract Try.prog 111 ⟨[(K_PSiq, false), (I, false)], [I], true, F_impl_net_closed N⟩ :=
  have E : Env Try.prog Γ_impl_net_closed := env_of tab trivial
  con_of (Pc := []) E mixed Try.func111 (by kernel_rfl) (by kernel_rfl) (by kernel_rfl) (by kernel_rfl) (fun A hA => trivial) (F_impl_net_closed_ok N)
theorem C_impl_net_closed : Contract Try.prog 111 S_impl_net_closed := C_impl_net_closed_raw 0
theorem C_impl_setOf_raw (N : Nat) : Contract Try.prog 106 ⟨[(I, false)], [K_Si], true, F_impl_setOf N⟩ :=
  have E : Env Try.prog Γ_impl_setOf := env_of tab trivial
  con_of (Pc := [(0, ⟨impl_setOf_l0_h, impl_setOf_l0_o, impl_setOf_l0 N N⟩)]) E mixed Try.func106 (by kernel_rfl) (by kernel_rfl) (by kernel_rfl) (by kernel_rfl) (fun A hA => ⟨pc_of (inner := []) E mixed hA (by kernel_rfl) (by kernel_rfl) (by kernel_rfl) trivial (fun _ => rfl) (fun m d => (impl_setOf_l0_ok N (impl_setOf_l0 N m) d).symm) N, trivial⟩) (F_impl_setOf_ok N)
theorem C_impl_setOf : Contract Try.prog 106 S_impl_setOf := Contract.less (fun N : Nat => F_impl_setOf N) C_impl_setOf_raw setOf_lim
theorem C_impl_net_timeAfter_raw (N : Nat) : Contract Try.prog 155 ⟨[(K_PSiq, false), (K_Si, false), (I, false)], [I], true, F_impl_net_timeAfter N⟩ :=
  have E : Env Try.prog Γ_impl_net_timeAfter := env_of tab ⟨C_impl_setOf, ⟨C_impl_net_closed, trivial⟩⟩
  con_of (Pc := [(0, ⟨impl_net_timeAfter_l0_h, impl_net_timeAfter_l0_o, impl_net_timeAfter_l0 N N⟩)]) E mixed Try.func155 (by kernel_rfl) (by kernel_rfl) (by kernel_rfl) (by kernel_rfl) (fun A hA => ⟨pc_of (inner := []) E mixed hA (by kernel_rfl) (by kernel_rfl) (by kernel_rfl) trivial (fun _ => rfl) (fun m d => (impl_net_timeAfter_l0_ok N (impl_net_timeAfter_l0 N m) d).symm) N, trivial⟩) (F_impl_net_timeAfter_ok N)
theorem C_impl_net_timeAfter : Contract Try.prog 155 S_impl_net_timeAfter := Contract.less (fun N : Nat => F_impl_net_timeAfter N) C_impl_net_timeAfter_raw timeAfter_lim
theorem CV_impl_isTimedProof_1_1 : ContractV Try.prog SV_impl_isTimedProof_1_1 := conV_0_1_0 C_impl_isTimedProof_1_1
theorem C_slices_IndexFunc_Sint_int_by_impl_isTimedProof_1_1_raw (N : Nat) : Contract Try.prog 158 ⟨[(K_Si, false), (K_F_impl_isTimedProof_1_1_qq, false)], [I], true, F_slices_IndexFunc_Sint_int_by_impl_isTimedProof_1_1 N⟩ :=
  have E : Env Try.prog Γ_slices_IndexFunc_Sint_int_by_impl_isTimedProof_1_1 := env_ofV tab trivial ⟨CV_impl_isTimedProof_1_1, trivial⟩ (fun _ h => by cases h)
  con_of (Pc := [(0, ⟨slices_IndexFunc_Sint_int_by_impl_isTimedProof_1_1_l0_h, slices_IndexFunc_Sint_int_by_impl_isTimedProof_1_1_l0_o, slices_IndexFunc_Sint_int_by_impl_isTimedProof_1_1_l0 N N⟩)]) E mixed Try.func158 (by kernel_rfl) (by kernel_rfl) (by kernel_rfl) (by kernel_rfl) (fun A hA => ⟨pc_of (inner := []) E mixed hA (by kernel_rfl) (by kernel_rfl) (by kernel_rfl) trivial (fun _ => rfl) (fun m d => (slices_IndexFunc_Sint_int_by_impl_isTimedProof_1_1_l0_ok N (slices_IndexFunc_Sint_int_by_impl_isTimedProof_1_1_l0 N m) d).symm) N, trivial⟩) (F_slices_IndexFunc_Sint_int_by_impl_isTimedProof_1_1_ok N)
theorem C_slices_IndexFunc_Sint_int_by_impl_isTimedProof_1_1 : Contract Try.prog 158 S_slices_IndexFunc_Sint_int_by_impl_isTimedProof_1_1 := Contract.less (fun N : Nat => F_slices_IndexFunc_Sint_int_by_impl_isTimedProof_1_1 N) C_slices_IndexFunc_Sint_int_by_impl_isTimedProof_1_1_raw index144_lim
theorem C_slices_ContainsFunc_Sint_int_by_impl_isTimedProof_1_1_raw (N : Nat) : Contract Try.prog 143 ⟨[(K_Si, false), (K_F_impl_isTimedProof_1_1_qq, false)], [.bool], true, F_slices_ContainsFunc_Sint_int_by_impl_isTimedProof_1_1 N⟩ :=
  have E : Env Try.prog Γ_slices_ContainsFunc_Sint_int_by_impl_isTimedProof_1_1 := env_of tab ⟨C_slices_IndexFunc_Sint_int_by_impl_isTimedProof_1_1, trivial⟩
  con_of (Pc := []) E mixed Try.func143 (by kernel_rfl) (by kernel_rfl) (by kernel_rfl) (by kernel_rfl) (fun A hA => trivial) (F_slices_ContainsFunc_Sint_int_by_impl_isTimedProof_1_1_ok N)
theorem C_slices_ContainsFunc_Sint_int_by_impl_isTimedProof_1_1 : Contract Try.prog 143 S_slices_ContainsFunc_Sint_int_by_impl_isTimedProof_1_1 := C_slices_ContainsFunc_Sint_int_by_impl_isTimedProof_1_1_raw 0
theorem C_impl_isTimedProof_1_raw (N : Nat) : Contract Try.prog 142 ⟨[(K_Si, false), (K_Bi, false)], [.bool], true, F_impl_isTimedProof_1 N⟩ :=
  have E : Env Try.prog Γ_impl_isTimedProof_1 := env_of tab ⟨C_slices_ContainsFunc_Sint_int_by_impl_isTimedProof_1_1, trivial⟩
  con_of (Pc := []) E mixed Try.func142 (by kernel_rfl) (by kernel_rfl) (by kernel_rfl) (by kernel_rfl) (fun A hA => trivial) (F_impl_isTimedProof_1_ok N)
theorem C_impl_isTimedProof_1 : Contract Try.prog 142 S_impl_isTimedProof_1 := C_impl_isTimedProof_1_raw 0
theorem CV_impl_isTimedProof_1 : ContractV Try.prog SV_impl_isTimedProof_1 := conV_0_1_1 C_impl_isTimedProof_1
theorem C_slices_IndexFunc_SSint_Sint_by_impl_isTimedProof_1_raw (N : Nat) : Contract Try.prog 129 ⟨[(K_SSi, false), (K_F_impl_isTimedProof_1_qPBiq, false)], [I], true, F_slices_IndexFunc_SSint_Sint_by_impl_isTimedProof_1 N⟩ :=
  have E : Env Try.prog Γ_slices_IndexFunc_SSint_Sint_by_impl_isTimedProof_1 := env_ofV tab trivial ⟨CV_impl_isTimedProof_1, trivial⟩ (fun _ h => by cases h)
  con_of (Pc := [(0, ⟨slices_IndexFunc_SSint_Sint_by_impl_isTimedProof_1_l0_h, slices_IndexFunc_SSint_Sint_by_impl_isTimedProof_1_l0_o, slices_IndexFunc_SSint_Sint_by_impl_isTimedProof_1_l0 N N⟩)]) E mixed Try.func129 (by kernel_rfl) (by kernel_rfl) (by kernel_rfl) (by kernel_rfl) (fun A hA => ⟨pc_of (inner := []) E mixed hA (by kernel_rfl) (by kernel_rfl) (by kernel_rfl) trivial (fun _ => rfl) (fun m d => (slices_IndexFunc_SSint_Sint_by_impl_isTimedProof_1_l0_ok N (slices_IndexFunc_SSint_Sint_by_impl_isTimedProof_1_l0 N m) d).symm) N, trivial⟩) (F_slices_IndexFunc_SSint_Sint_by_impl_isTimedProof_1_ok N)
theorem C_slices_IndexFunc_SSint_Sint_by_impl_isTimedProof_1 : Contract Try.prog 129 S_slices_IndexFunc_SSint_Sint_by_impl_isTimedProof_1 := Contract.less (fun N : Nat => F_slices_IndexFunc_SSint_Sint_by_impl_isTimedProof_1 N) C_slices_IndexFunc_SSint_Sint_by_impl_isTimedProof_1_raw index142_lim
theorem C_slices_ContainsFunc_SSint_Sint_by_impl_isTimedProof_1_raw (N : Nat) : Contract Try.prog 83 ⟨[(K_SSi, false), (K_F_impl_isTimedProof_1_qPBiq, false)], [.bool], true, F_slices_ContainsFunc_SSint_Sint_by_impl_isTimedProof_1 N⟩ :=
  have E : Env Try.prog Γ_slices_ContainsFunc_SSint_Sint_by_impl_isTimedProof_1 := env_of tab ⟨C_slices_IndexFunc_SSint_Sint_by_impl_isTimedProof_1, trivial⟩
  con_of (Pc := []) E mixed Try.func83 (by kernel_rfl) (by kernel_rfl) (by kernel_rfl) (by kernel_rfl) (fun A hA => trivial) (F_slices_ContainsFunc_SSint_Sint_by_impl_isTimedProof_1_ok N)
theorem C_slices_ContainsFunc_SSint_Sint_by_impl_isTimedProof_1 : Contract Try.prog 83 S_slices_ContainsFunc_SSint_Sint_by_impl_isTimedProof_1 := C_slices_ContainsFunc_SSint_Sint_by_impl_isTimedProof_1_raw 0
theorem C_impl_isTimedProof_2_raw (N : Nat) : Contract Try.prog 146 ⟨[(I, false), (K_Bi, false)], [.bool], true, F_impl_isTimedProof_2 N⟩ :=
  have E : Env Try.prog Γ_impl_isTimedProof_2 := env_of tab trivial
  con_of (Pc := []) E mixed Try.func146 (by kernel_rfl) (by kernel_rfl) (by kernel_rfl) (by kernel_rfl) (fun A hA => trivial) (F_impl_isTimedProof_2_ok N)
theorem C_impl_isTimedProof_2 : Contract Try.prog 146 S_impl_isTimedProof_2 := Contract.less (fun N : Nat => F_impl_isTimedProof_2 N) C_impl_isTimedProof_2_raw (fun d r h => ⟨0, (F_impl_isTimedProof_2_tot 0 d).trans h⟩)
theorem CV_impl_isTimedProof_2 : ContractV Try.prog SV_impl_isTimedProof_2 := conV_0_1_1 C_impl_isTimedProof_2
theorem C_impl_timedCan_1_by_impl_isTimedProof_2_raw (N : Nat) : Contract Try.prog 159 ⟨[(I, false), (K_Bi, false), (K_BPSiq, false), (K_BSSi, false), (K_BF_impl_isTimedProof_2_qPBiq, false)], [.bool], true, F_impl_timedCan_1_by_impl_isTimedProof_2 N⟩ :=
  have E : Env Try.prog Γ_impl_timedCan_1_by_impl_isTimedProof_2 := env_ofV tab ⟨C_impl_net_timeAfter, trivial⟩ ⟨CV_impl_isTimedProof_2, trivial⟩ (w1_of (by kernel_rfl))
  con_of (Pc := []) E mixed Try.func159 (by kernel_rfl) (by kernel_rfl) (by kernel_rfl) (by kernel_rfl) (fun A hA => trivial) (F_impl_timedCan_1_by_impl_isTimedProof_2_ok N)
theorem C_impl_timedCan_1_by_impl_isTimedProof_2 : Contract Try.prog 159 S_impl_timedCan_1_by_impl_isTimedProof_2 := C_impl_timedCan_1_by_impl_isTimedProof_2_raw 0
theorem CV_impl_timedCan_1_by_impl_isTimedProof_2 : ContractV Try.prog SV_impl_timedCan_1_by_impl_isTimedProof_2 := conV_0_1_4 C_impl_timedCan_1_by_impl_isTimedProof_2
theorem C_slices_IndexFunc_Sint_int_by_impl_timedCan_1_impl_isTimedProof_2_raw (N : Nat) : Contract Try.prog 158 ⟨[(K_Si, false), (K_F_impl_timedCan_1_qPBiBPSiqBSSiBF_impl_isTimedProof_2_qPBiqq, false)], [I], true, F_slices_IndexFunc_Sint_int_by_impl_timedCan_1_impl_isTimedProof_2 N⟩ :=
  have E : Env Try.prog Γ_slices_IndexFunc_Sint_int_by_impl_timedCan_1_impl_isTimedProof_2 := env_ofV tab trivial ⟨CV_impl_timedCan_1_by_impl_isTimedProof_2, trivial⟩ (fun _ h => by cases h)
  con_of (Pc := [(0, ⟨slices_IndexFunc_Sint_int_by_impl_timedCan_1_impl_isTimedProof_2_l0_h, slices_IndexFunc_Sint_int_by_impl_timedCan_1_impl_isTimedProof_2_l0_o, slices_IndexFunc_Sint_int_by_impl_timedCan_1_impl_isTimedProof_2_l0 N N⟩)]) E mixed Try.func158 (by kernel_rfl) (by kernel_rfl) (by kernel_rfl) (by kernel_rfl) (fun A hA => ⟨pc_of (inner := []) E mixed hA (by kernel_rfl) (by kernel_rfl) (by kernel_rfl) trivial (fun _ => rfl) (fun m d => (slices_IndexFunc_Sint_int_by_impl_timedCan_1_impl_isTimedProof_2_l0_ok N (slices_IndexFunc_Sint_int_by_impl_timedCan_1_impl_isTimedProof_2_l0 N m) d).symm) N, trivial⟩) (F_slices_IndexFunc_Sint_int_by_impl_timedCan_1_impl_isTimedProof_2_ok N)
theorem C_slices_IndexFunc_Sint_int_by_impl_timedCan_1_impl_isTimedProof_2 : Contract Try.prog 158 S_slices_IndexFunc_Sint_int_by_impl_timedCan_1_impl_isTimedProof_2 := Contract.less (fun N : Nat => F_slices_IndexFunc_Sint_int_by_impl_timedCan_1_impl_isTimedProof_2 N) C_slices_IndexFunc_Sint_int_by_impl_timedCan_1_impl_isTimedProof_2_raw index159_lim
theorem C_slices_ContainsFunc_Sint_int_by_impl_timedCan_1_impl_isTimedProof_2_raw (N : Nat) : Contract Try.prog 143 ⟨[(K_Si, false), (K_F_impl_timedCan_1_qPBiBPSiqBSSiBF_impl_isTimedProof_2_qPBiqq, false)], [.bool], true, F_slices_ContainsFunc_Sint_int_by_impl_timedCan_1_impl_isTimedProof_2 N⟩ :=
  have E : Env Try.prog Γ_slices_ContainsFunc_Sint_int_by_impl_timedCan_1_impl_isTimedProof_2 := env_of tab ⟨C_slices_IndexFunc_Sint_int_by_impl_timedCan_1_impl_isTimedProof_2, trivial⟩
  con_of (Pc := []) E mixed Try.func143 (by kernel_rfl) (by kernel_rfl) (by kernel_rfl) (by kernel_rfl) (fun A hA => trivial) (F_slices_ContainsFunc_Sint_int_by_impl_timedCan_1_impl_isTimedProof_2_ok N)
theorem C_slices_ContainsFunc_Sint_int_by_impl_timedCan_1_impl_isTimedProof_2 : Contract Try.prog 143 S_slices_ContainsFunc_Sint_int_by_impl_timedCan_1_impl_isTimedProof_2 := C_slices_ContainsFunc_Sint_int_by_impl_timedCan_1_impl_isTimedProof_2_raw 0
theorem C_impl_timedCan_by_impl_isTimedProof_2_raw (N : Nat) : Contract Try.prog 145 ⟨[(K_PSiq, false), (K_SSi, false), (I, false), (I, false), (K_F_impl_isTimedProof_2_qPBiq, false)], [.bool], true, F_impl_timedCan_by_impl_isTimedProof_2 N⟩ :=
  have E : Env Try.prog Γ_impl_timedCan_by_impl_isTimedProof_2 := env_ofV tab ⟨C_impl_setOf, ⟨C_impl_net_closed, ⟨C_slices_ContainsFunc_Sint_int_by_impl_timedCan_1_impl_isTimedProof_2, trivial⟩⟩⟩ trivial (fun _ h => by cases h)
  con_of (Pc := []) E mixed Try.func145 (by kernel_rfl) (by kernel_rfl) (by kernel_rfl) (by kernel_rfl) (fun A hA => trivial) (F_impl_timedCan_by_impl_isTimedProof_2_ok N)
theorem C_impl_timedCan_by_impl_isTimedProof_2 : Contract Try.prog 145 S_impl_timedCan_by_impl_isTimedProof_2 := C_impl_timedCan_by_impl_isTimedProof_2_raw 0
theorem C_impl_isTimedProof_raw (N : Nat) : Contract Try.prog 115 ⟨[(K_SPSiq, false), (K_SSSi, false)], [.bool], true, F_impl_isTimedProof N⟩ :=
  have E : Env Try.prog Γ_impl_isTimedProof := env_ofV tab ⟨C_slices_ContainsFunc_SSint_Sint_by_impl_isTimedProof_1, ⟨C_impl_net_size, ⟨C_impl_timedCan_by_impl_isTimedProof_2, trivial⟩⟩⟩ trivial (fun _ h => by cases h)
  con_of (Pc := [(0, ⟨impl_isTimedProof_l0_h, impl_isTimedProof_l0_o, impl_isTimedProof_l0 N N⟩), (2, ⟨impl_isTimedProof_l2_h, impl_isTimedProof_l2_o, impl_isTimedProof_l2 N N⟩)]) E mixed Try.func115 (by kernel_rfl) (by kernel_rfl) (by kernel_rfl) (by kernel_rfl) (fun A hA => ⟨pc_of (inner := []) E mixed hA (by kernel_rfl) (by kernel_rfl) (by kernel_rfl) trivial (fun _ => rfl) (fun m d => (impl_isTimedProof_l0_ok N (impl_isTimedProof_l0 N m) d).symm) N, ⟨pc_of (inner := [(4, ⟨impl_isTimedProof_l4_h, impl_isTimedProof_l4_o, impl_isTimedProof_l4 N N⟩)]) E mixed hA (by kernel_rfl) (by kernel_rfl) (by kernel_rfl) ⟨pc_of (inner := [(6, ⟨impl_isTimedProof_l6_h, impl_isTimedProof_l6_o, impl_isTimedProof_l6 N N⟩)]) E mixed hA (by kernel_rfl) (by kernel_rfl) (by kernel_rfl) ⟨pc_of (inner := []) E mixed hA (by kernel_rfl) (by kernel_rfl) (by kernel_rfl) trivial (fun _ => rfl) (fun m d => (impl_isTimedProof_l6_ok N (impl_isTimedProof_l6 N m) d).symm) N, trivial⟩ (fun _ => rfl) (fun m d => (impl_isTimedProof_l4_ok N (impl_isTimedProof_l4 N m) d).symm) N, trivial⟩ (fun _ => rfl) (fun m d => (impl_isTimedProof_l2_ok N (impl_isTimedProof_l2 N m) d).symm) N, trivial⟩⟩) (F_impl_isTimedProof_ok N)
theorem C_impl_isTimedProof : Contract Try.prog 115 S_impl_isTimedProof := Contract.less (fun N : Nat => F_impl_isTimedProof N) C_impl_isTimedProof_raw isTimedProof_lim
theorem C_impl_IsTimedProof_raw (N : Nat) : Contract Try.prog 63 ⟨[(K_PPiSPiiqqiSSiq, false), (K_SSSi, false)], [.bool, .bool], true, F_impl_IsTimedProof N⟩ :=
  have E : Env Try.prog Γ_impl_IsTimedProof := env_of tab ⟨C_impl_IsTimetable, ⟨C_impl_openNets, ⟨C_impl_isTimedProof, trivial⟩⟩⟩
  con_of (Pc := []) E mixed Try.func63 (by kernel_rfl) (by kernel_rfl) (by kernel_rfl) (by kernel_rfl) (fun A hA => trivial) (F_impl_IsTimedProof_ok N)
theorem C_impl_IsTimedProof : Contract Try.prog 63 S_impl_IsTimedProof := C_impl_IsTimedProof_raw 0
theorem C_laws_eqIntA2_raw (N : Nat) : Contract Try.prog 127 ⟨[(K_Piiq, false), (K_Piiq, false)], [.bool], true, F_laws_eqIntA2 N⟩ :=
  have E : Env Try.prog Γ_laws_eqIntA2 := env_of tab trivial
  con_of (Pc := [(0, ⟨laws_eqIntA2_l0_h, laws_eqIntA2_l0_o, laws_eqIntA2_l0 N N⟩)]) E mixed Try.func127 (by kernel_rfl) (by kernel_rfl) (by kernel_rfl) (by kernel_rfl) (fun A hA => ⟨pc_of (inner := []) E mixed hA (by kernel_rfl) (by kernel_rfl) (by kernel_rfl) trivial (fun _ => rfl) (fun m d => (laws_eqIntA2_l0_ok N (laws_eqIntA2_l0 N m) d).symm) N, trivial⟩) (F_laws_eqIntA2_ok N)
theorem C_laws_eqIntA2 : Contract Try.prog 127 S_laws_eqIntA2 := Contract.less (fun N : Nat => F_laws_eqIntA2 N) C_laws_eqIntA2_raw eqIntA2_lim
theorem C_laws_eqIntA2S_raw (N : Nat) : Contract Try.prog 78 ⟨[(K_SPiiq, false), (K_SPiiq, false)], [.bool], true, F_laws_eqIntA2S N⟩ :=
  have E : Env Try.prog Γ_laws_eqIntA2S := env_of tab ⟨C_laws_eqIntA2, trivial⟩
  con_of (Pc := [(0, ⟨laws_eqIntA2S_l0_h, laws_eqIntA2S_l0_o, laws_eqIntA2S_l0 N N⟩)]) E mixed Try.func78 (by kernel_rfl) (by kernel_rfl) (by kernel_rfl) (by kernel_rfl) (fun A hA => ⟨pc_of (inner := []) E mixed hA (by kernel_rfl) (by kernel_rfl) (by kernel_rfl) trivial (fun _ => rfl) (fun m d => (laws_eqIntA2S_l0_ok N (laws_eqIntA2S_l0 N m) d).symm) N, trivial⟩) (F_laws_eqIntA2S_ok N)
theorem C_laws_eqIntA2S : Contract Try.prog 78 S_laws_eqIntA2S := Contract.less (fun N : Nat => F_laws_eqIntA2S N) C_laws_eqIntA2S_raw eqIntA2S_lim
theorem C_laws_eqGraph_raw (N : Nat) : Contract Try.prog 28 ⟨[(K_PiSPiiqq, false), (K_PiSPiiqq, false)], [.bool], true, F_laws_eqGraph N⟩ :=
  have E : Env Try.prog Γ_laws_eqGraph := env_of tab ⟨C_laws_eqIntA2S, trivial⟩
  con_of (Pc := []) E mixed Try.func28 (by kernel_rfl) (by kernel_rfl) (by kernel_rfl) (by kernel_rfl) (fun A hA => trivial) (F_laws_eqGraph_ok N)
theorem C_laws_eqGraph : Contract Try.prog 28 S_laws_eqGraph := C_laws_eqGraph_raw 0
theorem C_laws_eqIntS_raw (N : Nat) : Contract Try.prog 53 ⟨[(K_Si, false), (K_Si, false)], [.bool], true, F_laws_eqIntS N⟩ :=
  have E : Env Try.prog Γ_laws_eqIntS := env_of tab trivial
  con_of (Pc := [(0, ⟨laws_eqIntS_l0_h, laws_eqIntS_l0_o, laws_eqIntS_l0 N N⟩)]) E mixed Try.func53 (by kernel_rfl) (by kernel_rfl) (by kernel_rfl) (by kernel_rfl) (fun A hA => ⟨pc_of (inner := []) E mixed hA (by kernel_rfl) (by kernel_rfl) (by kernel_rfl) trivial (fun _ => rfl) (fun m d => (laws_eqIntS_l0_ok N (laws_eqIntS_l0 N m) d).symm) N, trivial⟩) (F_laws_eqIntS_ok N)
theorem C_laws_eqIntS : Contract Try.prog 53 S_laws_eqIntS := Contract.less (fun N : Nat => F_laws_eqIntS N) C_laws_eqIntS_raw eqIntS_lim
theorem C_laws_eqIntSS_raw (N : Nat) : Contract Try.prog 87 ⟨[(K_SSi, false), (K_SSi, false)], [.bool], true, F_laws_eqIntSS N⟩ :=
  have E : Env Try.prog Γ_laws_eqIntSS := env_of tab ⟨C_laws_eqIntS, trivial⟩
  con_of (Pc := [(0, ⟨laws_eqIntSS_l0_h, laws_eqIntSS_l0_o, laws_eqIntSS_l0 N N⟩)]) E mixed Try.func87 (by kernel_rfl) (by kernel_rfl) (by kernel_rfl) (by kernel_rfl) (fun A hA => ⟨pc_of (inner := []) E mixed hA (by kernel_rfl) (by kernel_rfl) (by kernel_rfl) trivial (fun _ => rfl) (fun m d => (laws_eqIntSS_l0_ok N (laws_eqIntSS_l0 N m) d).symm) N, trivial⟩) (F_laws_eqIntSS_ok N)
theorem C_laws_eqIntSS : Contract Try.prog 87 S_laws_eqIntSS := Contract.less (fun N : Nat => F_laws_eqIntSS N) C_laws_eqIntSS_raw eqIntSS_lim
theorem C_laws_eqTimetable_raw (N : Nat) : Contract Try.prog 36 ⟨[(K_PPiSPiiqqiSSiq, false), (K_PPiSPiiqqiSSiq, false)], [.bool], true, F_laws_eqTimetable N⟩ :=
  have E : Env Try.prog Γ_laws_eqTimetable := env_of tab ⟨C_laws_eqGraph, ⟨C_laws_eqIntSS, trivial⟩⟩
  con_of (Pc := []) E mixed Try.func36 (by kernel_rfl) (by kernel_rfl) (by kernel_rfl) (by kernel_rfl) (fun A hA => trivial) (F_laws_eqTimetable_ok N)
theorem C_laws_eqTimetable : Contract Try.prog 36 S_laws_eqTimetable := C_laws_eqTimetable_raw 0
theorem C_laws_eqIntSSS_raw (N : Nat) : Contract Try.prog 64 ⟨[(K_SSSi, false), (K_SSSi, false)], [.bool], true, F_laws_eqIntSSS N⟩ :=
  have E : Env Try.prog Γ_laws_eqIntSSS := env_of tab ⟨C_laws_eqIntSS, trivial⟩
  con_of (Pc := [(0, ⟨laws_eqIntSSS_l0_h, laws_eqIntSSS_l0_o, laws_eqIntSSS_l0 N N⟩)]) E mixed Try.func64 (by kernel_rfl) (by kernel_rfl) (by kernel_rfl) (by kernel_rfl) (fun A hA => ⟨pc_of (inner := []) E mixed hA (by kernel_rfl) (by kernel_rfl) (by kernel_rfl) trivial (fun _ => rfl) (fun m d => (laws_eqIntSSS_l0_ok N (laws_eqIntSSS_l0 N m) d).symm) N, trivial⟩) (F_laws_eqIntSSS_ok N)
theorem C_laws_eqIntSSS : Contract Try.prog 64 S_laws_eqIntSSS := Contract.less (fun N : Nat => F_laws_eqIntSSS N) C_laws_eqIntSSS_raw eqIntSSS_lim
theorem C_laws_FnExactIsTimedProof_raw (N : Nat) : Contract Try.prog 14 ⟨[(K_PPiSPiiqqiSSiq, false), (K_SSSi, false)], [.bool], true, F_laws_FnExactIsTimedProof N⟩ :=
  have E : Env Try.prog Γ_laws_FnExactIsTimedProof := env_of tab ⟨C_laws_szTimetable, ⟨C_laws_toTimetable, ⟨C_laws_eqTimetable, ⟨C_laws_szIntSSS, ⟨C_spec_IsTimedProof, ⟨C_laws_toIntSSS, ⟨C_impl_IsTimedProof, ⟨C_laws_eqIntSSS, trivial⟩⟩⟩⟩⟩⟩⟩⟩
  con_of (Pc := []) E mixed Try.func14 (by kernel_rfl) (by kernel_rfl) (by kernel_rfl) (by kernel_rfl) (fun A hA => trivial) (F_laws_FnExactIsTimedProof_ok N)
theorem C_laws_FnExactIsTimedProof : Contract Try.prog 14 S_laws_FnExactIsTimedProof := C_laws_FnExactIsTimedProof_raw 0
end Go.V.W
