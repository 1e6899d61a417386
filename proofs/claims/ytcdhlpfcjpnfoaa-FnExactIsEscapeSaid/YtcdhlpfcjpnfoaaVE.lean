/- What the law FnExactIsEscape leans on, part 5: an interpreter of the model as plain data, its soundness, the functions as it tells them, and their laws. -/
import Derived.Shelf.Lays
import Derived.Shelf.LaysM
import Derived.Shelf.SortM.Plain
import Derived.Shelf.SortM.SortNone
import Derived.Shelf.SlSortCmp.NoneTotal
import Derived.Test.YtcdhlpfcjpnfoaaVD
set_option linter.unusedVariables false
set_option linter.unusedSimpArgs false
set_option maxRecDepth 100000
set_option linter.unusedVariables false
set_option linter.unusedSimpArgs false
namespace Go.V.W
open Go.Proofs
theorem l2Near_lim (d) (r) (h : G_l2Near d = some r) : ∃ N, F_spec_l2Near N d = some r := by
  obtain ⟨g, a, b, _⟩ := d
  unfold G_l2Near at h
  split at h
  · rename_i hl
    have hl : g.2.1.length ≤ lim := okL_lim hl
    have h := Option.some.inj h
    subst h
    refine ⟨g.2.1.length + 1, ?_⟩
    unfold F_spec_l2Near
    have := loop_idx (L := spec_l2Near_l0 (g.2.1.length + 1)) (r := spec_l2Near_l0_r (g.2.1.length + 1)) (fun _ _ => rfl) (e := K_Piiq) g.2.1 (mk := fun i => (a, b, g, (i : Int), ())) (q := fun e => (e.1 == a && e.2.1 == b) || (e.1 == b && e.2.1 == a)) (o := fun _ => .inl (true, ())) (f := .inr (.inl ()))
      (by
        intro back i hi
        unfold spec_l2Near_l0_r
        simp only [lt_dec hi, if_true, idxIn_nat hi, Int.toNat_natCast, wrap_up hi (lim_max hl)]
        rcases Bool.eq_false_or_eq_true ((at_ K_Piiq g.2.1 i).1 == a) with c1 | c1 <;> rcases Bool.eq_false_or_eq_true ((at_ K_Piiq g.2.1 i).2.1 == b) with c2 | c2 <;> rcases Bool.eq_false_or_eq_true ((at_ K_Piiq g.2.1 i).1 == b) with c3 | c3 <;> rcases Bool.eq_false_or_eq_true ((at_ K_Piiq g.2.1 i).2.1 == a) with c4 | c4 <;>
          simp only [c1, c2, c3, c4, if_true, if_false, Bool.false_eq_true, Bool.and_true, Bool.and_false, Bool.or_true, Bool.or_false, Bool.true_or, Bool.or_self, Bool.and_self])
      (by intro back; unfold spec_l2Near_l0_r; simp only [lt_not, Bool.false_eq_true, if_false]) g.2.1.length 0 (by omega) (by omega)
    simp only [Int.natCast_zero, List.drop_zero] at this
    have hge := idxI_ge (fun e : E => (e.1 == a && e.2.1 == b) || (e.1 == b && e.2.1 == a)) g.2.1 0
    simp only [this, Option.bind_some, nearI, ← hge]
    cases idxN (fun e : E => (e.1 == a && e.2.1 == b) || (e.1 == b && e.2.1 == a)) g.2.1 0 with
    | none => rfl
    | some j => simp [idxI]
  · cases h
theorem l2Neighbors_l0 (N : Nat) (g : Gr) (x : Int) (n : Nat) (hN : g.1 = (n : Int)) (hn : n ≤ 8) (ho : okL g.2.1 = true) : ∀ (k y f : Nat) (A : List Int), y + k = n → k < f → A.length + k ≤ 1000 →
    spec_l2Neighbors_l0 N f (x, g, A, (y : Int), ()) = some (.inl (A ++ setF (fun y => nearI g.2.1 x (y : Int)) k y, ())) := by
  intro k
  induction k with
  | zero =>
    intro y f A h1 h2 h3
    obtain ⟨f, rfl⟩ : ∃ m, f = m + 1 := ⟨f - 1, by omega⟩
    have e : y = n := by omega
    subst e
    simp [spec_l2Neighbors_l0, spec_l2Neighbors_l0_r, setF, hN]
  | succ k ih =>
    intro y f A h1 h2 h3
    obtain ⟨f, rfl⟩ : ∃ m, f = m + 1 := ⟨f - 1, by omega⟩
    have hy : y < n := by omega
    show spec_l2Neighbors_l0_r N (spec_l2Neighbors_l0 N f) (x, g, A, (y : Int), ()) = _
    unfold spec_l2Neighbors_l0_r
    have hw : IntKind.wrap .i64 ((y : Int) + 1) = ((y + 1 : Nat) : Int) := by
      rw [wrap_in _ (by omega) (by omega)]
      rfl
    have hle : decide (A.length + List.length [(y : Int)] ≤ lim) = true := by
      unfold lim
      simp
      omega
    simp only [hN, lt_dec hy, if_true, G_l2Near, ho, Option.bind_some, hle, hw]
    unfold setF
    by_cases hh : nearI g.2.1 x (y : Int) = true
    · rw [if_pos hh, if_pos hh, ih (y + 1) f _ (by omega) (by omega) (by simp; omega)]
      simp
    · rw [if_neg hh, if_neg hh]
      exact ih (y + 1) f A (by omega) (by omega) (by omega)
theorem l2Neighbors_lim (d) (r) (h : G_l2Neighbors d = some r) : ∃ N, F_spec_l2Neighbors N d = some r := by
  obtain ⟨g, x, _⟩ := d
  unfold G_l2Neighbors at h
  split at h
  · rename_i hc
    simp only [Bool.and_eq_true, decide_eq_true_eq] at hc
    obtain ⟨⟨h1, h2⟩, h3⟩ := hc
    have h := Option.some.inj h
    subst h
    refine ⟨20, ?_⟩
    unfold F_spec_l2Neighbors
    have := l2Neighbors_l0 20 g x g.1.toNat (by omega) (by omega) h1 g.1.toNat 0 20 [] (by omega) (by omega) (by simp; omega)
    simp only [Int.natCast_zero, List.nil_append] at this
    simp only [this, Option.bind_some]
  · cases h
def lowN (x : Int) : List Int → Nat
  | [] => 0
  | a :: l => if a < x then lowN x l + 1 else 0
theorem lowN_le (x : Int) : ∀ l, lowN x l ≤ l.length := by
  intro l
  induction l with
  | nil => simp [lowN]
  | cons a l ih => simp only [lowN]; split <;> simp; omega
theorem l1Put_l0 (N : Nat) (l : List Int) (x : Int) (hl : l.length ≤ 1000) : ∀ (k i f : Nat), i + k = l.length → k < f → spec_l1Put_l0 N f (l, x, (i : Int), ()) = some (.inl (l, x, ((i + lowN x (l.drop i) : Nat) : Int), ())) := by
  have hmx : l.length ≤ maxLen := by unfold maxLen; omega
  intro k
  induction k with
  | zero =>
    intro i f h1 h2
    obtain ⟨f, rfl⟩ : ∃ m, f = m + 1 := ⟨f - 1, by omega⟩
    have e : i = l.length := by omega
    subst e
    rw [List.drop_of_length_le (Nat.le_refl _)]
    simp [spec_l1Put_l0, spec_l1Put_l0_r, lowN]
  | succ k ih =>
    intro i f h1 h2
    obtain ⟨f, rfl⟩ : ∃ m, f = m + 1 := ⟨f - 1, by omega⟩
    have hi : i < l.length := by omega
    show spec_l1Put_l0_r N (spec_l1Put_l0 N f) (l, x, (i : Int), ()) = _
    unfold spec_l1Put_l0_r
    have e : at_ I l i = l[i] := at_get (e := I) hi
    rw [List.drop_eq_getElem_cons hi]
    simp only [lt_dec hi, if_true, idxIn_nat hi, Int.toNat_natCast, wrap_up hi hmx, e, lowN]
    by_cases c : l[i] < x
    · simp only [c, decide_true, if_true]
      rw [ih (i + 1) f (by omega) (by omega)]
      congr 5
      omega
    · simp only [c, decide_false, Bool.false_eq_true, if_false, Nat.add_zero]
theorem putL_low' (x : Int) : ∀ l : List Int, putL x l = if h : lowN x l < l.length then (if l[lowN x l] = x then l else l.take (lowN x l) ++ [x] ++ l.drop (lowN x l)) else l ++ [x] := by
  intro l
  induction l with
  | nil => rfl
  | cons a l ih =>
    simp only [putL, lowN]
    by_cases c : a < x
    · simp only [c, if_true, ih, List.length_cons, Nat.add_lt_add_iff_right, List.getElem_cons_succ, List.take_succ_cons, List.drop_succ_cons]
      split
      · split <;> simp
      · simp
    · by_cases c2 : a = x
      · simp [c, c2]
      · simp [c, c2]
theorem l1Put_lim (d) (r) (h : G_l1Put d = some r) : ∃ N, F_spec_l1Put N d = some r := by
  obtain ⟨l, x, _⟩ := d
  unfold G_l1Put at h
  split at h
  · rename_i hl
    have hl : l.length ≤ 1000 := of_decide_eq_true hl
    have h := Option.some.inj h
    subst h
    refine ⟨l.length + 1, ?_⟩
    unfold F_spec_l1Put
    have := l1Put_l0 (l.length + 1) l x hl l.length 0 (l.length + 1) (by omega) (by omega)
    simp only [Int.natCast_zero, List.drop_zero, Nat.zero_add] at this
    have hk := lowN_le x l
    generalize hkk : lowN x l = k at this hk
    simp only [this, Option.bind_some, putL_low', hkk]
    have hL : (lim : Int) = 1099511627776 := rfl
    have c0 : (decide (0 ≤ (0 : Int)) && decide ((0 : Int) ≤ (k : Int)) && decide ((k : Int) ≤ (l.length : Int))) = true := by simp; omega
    have c1 : decide (List.length ([] : List Int) + List.length (sub_ l (0 : Int) (k : Int)) ≤ lim) = true := by unfold lim sub_; simp; omega
    have c2 : decide (List.length (([] : List Int) ++ sub_ l (0 : Int) (k : Int)) + List.length [x] ≤ lim) = true := by unfold lim sub_; simp; omega
    have c3 : (decide (0 ≤ (k : Int)) && decide ((k : Int) ≤ (l.length : Int)) && decide ((l.length : Int) ≤ (l.length : Int))) = true := by simp; omega
    have c4 : decide (List.length (([] : List Int) ++ sub_ l (0 : Int) (k : Int) ++ [x]) + List.length (sub_ l (k : Int) (l.length : Int)) ≤ lim) = true := by unfold lim sub_; simp; omega
    have e1 : sub_ l (0 : Int) (k : Int) = l.take k := by simp [sub_]
    have e2 : sub_ l (k : Int) (l.length : Int) = l.drop k := by simp [sub_]
    by_cases hlt : k < l.length
    · have e : at_ I l k = l[k] := at_get (e := I) hlt
      simp only [lt_dec hlt, if_true, idxIn_nat hlt, Int.toNat_natCast, e, hlt, dite_true, c0, c1, c2, c3, c4]
      by_cases c : l[k] = x
      · simp [c]
      · have c' : (l[k] == x) = false := by simpa using c
        simp only [c', c, Bool.false_eq_true, if_false, e1, e2, List.nil_append]
    · have hlt' : decide ((k : Int) < (l.length : Int)) = false := by simp; omega
      have ek : k = l.length := by omega
      simp only [hlt', Bool.false_eq_true, if_false, c0, c1, c2, c3, c4, if_true, hlt, dite_false, e1, e2, List.nil_append]
      subst ek
      simp
      unfold lim
      omega
  · cases h
theorem putL_len (x : Int) : ∀ l : List Int, (putL x l).length ≤ l.length + 1 := by
  intro l
  induction l with
  | nil => simp [putL]
  | cons a l ih =>
    simp only [putL]
    split
    · simp; omega
    · split <;> simp
theorem shr_bit {m y : Nat} (hm : m < 256) (h : y < 8) : (bits .and .i64 (shr .i64 (m : Int) (y : Int)) 1 == (1 : Int)) = m.testBit y := has_bit hm h
theorem setOf_l0 (N : Nat) (s : Nat) (hs : s < 256) : ∀ (k x f : Nat) (A : List Int), x + k = 8 → k < f → A.length + k ≤ 100 →
    impl_setOf_l0 N f ((s : Int), A, (x : Int), ()) = some (.inl (A ++ setF (fun y => s.testBit y) k x, ())) := by
  intro k
  induction k with
  | zero =>
    intro x f A h1 h2 h3
    obtain ⟨f, rfl⟩ : ∃ m, f = m + 1 := ⟨f - 1, by omega⟩
    have e : x = 8 := by omega
    subst e
    have : shr .i64 (s : Int) ((8 : Nat) : Int) = 0 := by
      unfold shr
      have e : min ((8 : Nat) : Int).toNat IntKind.i64.bits = 8 := by decide
      rw [e, Int.fdiv_eq_ediv_of_nonneg _ (by decide)]
      omega
    show impl_setOf_l0_r N (impl_setOf_l0 N f) ((s : Int), A, ((8 : Nat) : Int), ()) = _
    unfold impl_setOf_l0_r
    have h8 : decide (0 ≤ ((8 : Nat) : Int)) = true := by decide
    have hz : ((0 : Int) != 0) = false := by decide
    simp only [h8, if_true, this, hz, Bool.false_eq_true, if_false, setF, List.append_nil]
  | succ k ih =>
    intro x f A h1 h2 h3
    obtain ⟨f, rfl⟩ : ∃ m, f = m + 1 := ⟨f - 1, by omega⟩
    have hx : x < 8 := by omega
    show impl_setOf_l0_r N (impl_setOf_l0 N f) ((s : Int), A, (x : Int), ()) = _
    unfold impl_setOf_l0_r
    have hw : IntKind.wrap .i64 ((x : Int) + 1) = ((x + 1 : Nat) : Int) := by
      rw [wrap_in _ (by omega) (by omega)]
      rfl
    have hle : decide (A.length + List.length [(x : Int)] ≤ lim) = true := by
      unfold lim
      simp
      omega
    simp only [nonneg_dec, if_true, shr_bit hs hx, hle, hw]
    by_cases hz : s >>> x = 0
    · have e1 : (shr .i64 (s : Int) (x : Int) != (0 : Int)) = false := by rw [shr_nat hx, hz]; decide
      simp only [e1, Bool.false_eq_true, if_false]
      have e2 : setF (fun y => s.testBit y) (k + 1) x = [] := by
        rw [← setF_empty (n := k + 1) (x := x)]
        refine setF_congr fun y h _ => ?_
        have : s < 2 ^ x := by
          rw [Nat.shiftRight_eq_div_pow] at hz
          exact (Nat.div_eq_zero_iff_lt (Nat.two_pow_pos x)).1 hz
        exact Nat.testBit_lt_two_pow (Nat.lt_of_lt_of_le this (Nat.pow_le_pow_right (by omega) h))
      rw [e2, List.append_nil]
    · have e1 : (shr .i64 (s : Int) (x : Int) != (0 : Int)) = true := by
        rw [shr_nat hx]
        have : ((s >>> x : Nat) : Int) ≠ 0 := fun e => hz (by exact_mod_cast e)
        simpa using this
      simp only [e1, if_true]
      unfold setF
      by_cases hb : s.testBit x = true
      · rw [if_pos hb, if_pos hb, ih (x + 1) f _ (by omega) (by omega) (by simp; omega)]
        simp
      · rw [if_neg hb, if_neg hb]
        exact ih (x + 1) f A (by omega) (by omega) (by omega)
theorem setOf_lim (d) (r) (h : G_setOf d = some r) : ∃ N, F_impl_setOf N d = some r := by
  obtain ⟨s, _⟩ := d
  unfold G_setOf at h
  split at h
  · rename_i hc
    simp only [Bool.and_eq_true, decide_eq_true_eq] at hc
    have h := Option.some.inj h
    subst h
    refine ⟨20, ?_⟩
    unfold F_impl_setOf
    have := setOf_l0 20 s.toNat (by omega) 8 0 20 [] (by omega) (by omega) (by simp)
    rw [show ((s.toNat : Nat) : Int) = s by omega] at this
    simp only [Int.natCast_zero, List.nil_append] at this
    simp only [this, Option.bind_some]
  · cases h
end Go.V.W
set_option linter.unusedVariables false
set_option linter.unusedSimpArgs false
namespace Go.V.W
open Go.Proofs
theorem small_toI {n : Nat} {ms : List Nat} (hok : okN n ms) (hn : n ≤ 8) : smallN (toI ms) = true := by
  unfold smallN
  simp only [toI_len, hok.1, Bool.and_eq_true, decide_eq_true_eq, List.all_eq_true]
  refine ⟨hn, fun m hm => ?_⟩
  unfold toI at hm
  obtain ⟨x, hx, rfl⟩ := List.mem_map.1 hm
  obtain ⟨i, hi, rfl⟩ := List.getElem_of_mem hx
  have := hok.2 i
  simp only [List.getD_eq_getElem?_getD, List.getElem?_eq_getElem hi, Option.getD_some] at this
  omega
end Go.V.W
set_option linter.unusedVariables false
set_option linter.unusedSimpArgs false
namespace Go.V.W
open Go.Proofs
theorem ball_eq (g : Gr) (n : Nat) (hg : g.1 = (n : Int)) (hn : n ≤ 8) (ho : okL g.2.1 = true) (z : Int) : F_spec_l2Ball 0 (g, z, ()) = some (ballL n g.2.1 z, ()) := by
  unfold F_spec_l2Ball G_l2Neighbors G_l1Put
  have a2 : okS1 (setF (fun y => nearI g.2.1 z (y : Int)) n 0) = true := by
    have := setF_len (p := fun y => nearI g.2.1 z (y : Int)) (k := n) (x := 0)
    exact decide_eq_true (by omega)
  have a3 : (okL g.2.1 && decide (0 ≤ (n : Int)) && decide ((n : Int) ≤ 8)) = true := by
    rw [ho]
    simp
    omega
  simp only [hg, a3, if_true, Int.toNat_natCast, Option.bind_some, a2, ballL]
end Go.V.W
set_option linter.unusedVariables false
set_option linter.unusedSimpArgs false
namespace Go.V.W
theorem tabL_row {n c : Nat} (f : Nat → Nat → Int) (h : c < n) : (tabL n f)[c]? = some ((List.range n).map fun r => f c r) := by
  unfold tabL
  rw [List.getElem?_map, List.getElem?_range h]
  rfl
theorem rowR_get {n r : Nat} (g : Nat → Int) (h : r < n) : ((List.range n).map g)[r]? = some (g r) := by
  rw [List.getElem?_map, List.getElem?_range h]
  rfl
theorem tab2_tabL {n c r : Nat} (f : Nat → Nat → Int) (hc : c < n) (hr : r < n) : tab2 (tabL n f) (c : Int) (r : Int) = f c r := by
  unfold tab2
  simp only [Int.toNat_natCast, List.getD_eq_getElem?_getD, tabL_row f hc, Option.getD_some, rowR_get _ hr]
theorem worst_congr {f g : Int → Int} : ∀ {l : List Int} {m : Int}, (∀ x ∈ l, f x = g x) → worstL f l m = worstL g l m := by
  intro l
  induction l with
  | nil => intro m _; rfl
  | cons b bs ih =>
    intro m h
    simp only [worstL, h b (by simp)]
    rw [ih fun x hx => h x (by simp [hx])]
/-- The greatest of all, or -1. -/
theorem worst_spec (f : Int → Int) : ∀ (l : List Int) (m : Int), (∃ x ∈ l, f x < 0) ∧ worstL f l m = -1 ∨ (∀ x ∈ l, 0 ≤ f x ∧ f x ≤ worstL f l m) ∧ m ≤ worstL f l m ∧ (worstL f l m = m ∨ ∃ x ∈ l, worstL f l m = f x) := by
  intro l
  induction l with
  | nil => intro m; exact .inr ⟨fun x hx => by simp at hx, Int.le_refl _, .inl rfl⟩
  | cons b bs ih =>
    intro m
    simp only [worstL]
    by_cases hb : f b < 0
    · rw [if_pos hb]
      exact .inl ⟨⟨b, by simp, hb⟩, rfl⟩
    · rw [if_neg hb]
      rcases ih (if m < f b then f b else m) with ⟨⟨x, hx, h1⟩, h2⟩ | ⟨h1, h2, h3⟩
      · exact .inl ⟨⟨x, by simp [hx], h1⟩, h2⟩
      · have hge : m ≤ (if m < f b then f b else m) ∧ f b ≤ (if m < f b then f b else m) := by split <;> omega
        refine .inr ⟨fun x hx => ?_, by omega, ?_⟩
        · rcases List.mem_cons.1 hx with rfl | hx
          · omega
          · exact h1 x hx
        · rcases h3 with h3 | ⟨x, hx, h3⟩
          · by_cases hm : m < f b
            · rw [if_pos hm] at h3 ⊢
              exact .inr ⟨b, by simp, h3⟩
            · rw [if_neg hm] at h3 ⊢
              exact .inl h3
          · exact .inr ⟨x, by simp [hx], h3⟩
/-- The balls hold nodes alone. -/
def okBall (n : Nat) (ball : Int → List Int) : Prop := ∀ x : Nat, x < n → ∀ z ∈ ball (x : Int), ∃ y : Nat, y < n ∧ z = (y : Int)
/-- What holds before the round t. -/
structure InvT (n : Nat) (ball : Int → List Int) (t : Nat) (f : Nat → Nat → Int) : Prop where
  pos : 1 ≤ t
  low : ∀ c r, c < n → r < n → -1 ≤ f c r
  high : ∀ c r, c < n → r < n → f c r < (t : Int)
  none : ∀ c r, c < n → r < n → f c r < 0 → ∀ b ∈ ball (c : Int), ¬ (0 ≤ afterT ball (tabL n f) b (r : Int) ∧ afterT ball (tabL n f) b (r : Int) < (t : Int) - 1)
theorem after_high {n : Nat} {ball : Int → List Int} (hb : okBall n ball) {t : Nat} {f : Nat → Nat → Int} (hI : InvT n ball t f) {c r : Nat} (hc : c < n) (hr : r < n) {b : Int} (hbm : b ∈ ball (c : Int)) : afterT ball (tabL n f) b (r : Int) ≤ (t : Int) - 1 := by
  have hp := hI.pos
  unfold afterT
  split
  · omega
  · obtain ⟨b', hb1, rfl⟩ := hb c hc b hbm
    rcases worst_spec (tab2 (tabL n f) (b' : Int)) (ball (r : Int)) 0 with ⟨_, h⟩ | ⟨_, _, h | ⟨x, hx, h⟩⟩
    · omega
    · omega
    · obtain ⟨y, hy, rfl⟩ := hb r hr x hx
      rw [tab2_tabL f hb1 hy] at h
      have := hI.high b' y hb1 hy
      omega
theorem InvT.next {n : Nat} {ball : Int → List Int} (hb : okBall n ball) {t : Nat} {f : Nat → Nat → Int} (hI : InvT n ball t f) : InvT n ball (t + 1) (stepF n ball (t : Int) f) := by
  have hp := hI.pos
  refine ⟨by omega, fun c r hc hr => ?_, fun c r hc hr => ?_, fun c r hc hr hf b hbm => ?_⟩
  · unfold stepF
    split
    · omega
    · exact hI.low c r hc hr
  · unfold stepF
    split
    · omega
    · have := hI.high c r hc hr; omega
  · rintro ⟨h1, h2⟩
    have hst : stepF n ball (t : Int) f c r = f c r ∧ canF n ball f c r = false := by
      unfold stepF at hf ⊢
      by_cases hcan : canF n ball f c r = true
      · rw [if_pos hcan] at hf; omega
      · rw [if_neg hcan]
        exact ⟨rfl, by simpa using hcan⟩
    rw [hst.1] at hf
    have hno : ∀ b ∈ ball (c : Int), ¬ 0 ≤ afterT ball (tabL n f) b (r : Int) := by
      intro b hbm h
      have := hst.2
      unfold canF at this
      simp only [hf, decide_true, Bool.true_and] at this
      have ht : ((ball (c : Int)).any fun b => decide (0 ≤ afterT ball (tabL n f) b (r : Int))) = true := List.any_eq_true.2 ⟨b, hbm, decide_eq_true h⟩
      rw [ht] at this
      cases this
    refine hno b hbm ?_
    unfold afterT at h1 h2 ⊢
    by_cases hbr : b = (r : Int)
    · rw [if_pos hbr]
      exact Int.le_refl _
    · rw [if_neg hbr] at h1 h2 ⊢
      obtain ⟨b', hb1, rfl⟩ := hb c hc b hbm
      rcases worst_spec (tab2 (tabL n (stepF n ball (t : Int) f)) (b' : Int)) (ball (r : Int)) 0 with ⟨_, h⟩ | ⟨hall, _, _⟩
      · omega
      · have e : worstL (tab2 (tabL n f) (b' : Int)) (ball (r : Int)) 0 = worstL (tab2 (tabL n (stepF n ball (t : Int) f)) (b' : Int)) (ball (r : Int)) 0 := by
          refine worst_congr fun x hx => ?_
          obtain ⟨y, hy, rfl⟩ := hb r hr x hx
          have := hall (y : Int) hx
          rw [tab2_tabL _ hb1 hy] at this
          rw [tab2_tabL _ hb1 hy, tab2_tabL _ hb1 hy]
          by_cases hcan : canF n ball f b' y = true
          · have e : stepF n ball (t : Int) f b' y = (t : Int) := if_pos hcan
            rw [e] at this
            omega
          · exact (if_neg hcan).symm
        rw [e]
        exact h1
theorem InvT.start (n : Nat) (ball : Int → List Int) : InvT n ball 1 startF := by
  refine ⟨Nat.le_refl _, fun c r _ _ => ?_, fun c r _ _ => ?_, fun c r _ _ _ b _ h => ?_⟩
  · unfold startF; split <;> omega
  · unfold startF; split <;> omega
  · omega
end Go.V.W
set_option linter.unusedVariables false
set_option linter.unusedSimpArgs false
namespace Go.V.W
open Go.Proofs
theorem grB_parts {g : Gr} (h : grB g = true) : okL g.2.1 = true ∧ g.1 = (g.1.toNat : Int) ∧ g.1.toNat ≤ 8 ∧ g.2.1.all (edgeB (g.1.toNat : Int)) = true := by
  unfold grB at h
  simp only [Bool.and_eq_true, decide_eq_true_eq] at h
  obtain ⟨⟨⟨h1, h2⟩, h3⟩, h4⟩ := h
  have e : g.1 = (g.1.toNat : Int) := by omega
  exact ⟨h1, e, by omega, by rw [← e]; exact h4⟩
theorem ballF_len (n : Nat) (es : List E) (x : Int) : (ballF n es x).length ≤ n := setF_len
theorem ball_some {g : Gr} (h : grB g = true) {x : Nat} (hx : x < g.1.toNat) : F_spec_l2Ball 0 (g, (x : Int), ()) = some (ballF g.1.toNat g.2.1 (x : Int), ()) := by
  obtain ⟨h1, h2, h3, h4⟩ := grB_parts h
  rw [ball_eq g g.1.toNat h2 h3 h1, ballL_set hx]
  show some (setF _ _ _, ()) = some (setF _ _ _, ())
  congr 2
  exact setF_congr fun y _ _ => by
    congr 1
    exact decide_eq_decide.2 (by omega)
theorem inB_nat {n : Int} {x : Int} (hn : n = (n.toNat : Int)) (h : inB 0 (n - 1) x = true) : x = (x.toNat : Int) ∧ x.toNat < n.toNat := by
  have := inB_iff.1 h
  omega
theorem wrap8 {i n : Nat} (h : i < n) (hn : n ≤ 8) : IntKind.wrap .i64 ((i : Int) + 1) = ((i + 1 : Nat) : Int) := by
  rw [wrap_in _ (by omega) (by omega)]
  rfl
theorem map_set (n r : Nat) (g : Nat → Int) (v : Int) : ((List.range n).map g).set r v = (List.range n).map fun j => if j = r then v else g j := by
  apply List.ext_getElem
  · simp
  · intro i h1 h2
    simp only [List.length_set, List.length_map, List.length_range] at h1
    rw [List.getElem_set]
    by_cases e : r = i
    · subst e; simp
    · have e' : ¬ i = r := fun h => e h.symm
      simp [e, e']
theorem own_some (l : List Int) (h : l.length ≤ 1000) : F_spec_l1Own 0 (l, ()) = some (l, ()) := by
  unfold F_spec_l1Own
  have : decide (List.length ([] : List Int) + List.length l ≤ lim) = true := by unfold lim; simp; omega
  simp only [this, if_true, List.nil_append]
end Go.V.W
set_option linter.unusedVariables false
set_option linter.unusedSimpArgs false
namespace Go.V.W
open Go.Proofs
theorem netB_parts {l : List Int} (h : netB l = true) : l = toI (fromI l) ∧ okN l.length (fromI l) ∧ l.length ≤ 8 ∧ ∀ x, x < l.length → (fromI l).getD x 0 < 2 ^ l.length := by
  unfold netB at h
  simp only [Bool.and_eq_true, List.all_eq_true, decide_eq_true_eq] at h
  obtain ⟨h1, h2⟩ := h
  obtain ⟨e, hm, h8⟩ := smallN_nat h1
  refine ⟨e, hm, h8, fun x hx => ?_⟩
  have hx' : x < (fromI l).length := by rw [hm.1]; exact hx
  have h3 := h2 l[x] (List.getElem_mem hx)
  simp only [List.getD_eq_getElem?_getD, List.getElem?_eq_getElem hx', Option.getD_some]
  have e2 : (fromI l)[x] = l[x].toNat := by simp [fromI]
  rw [e2]
  have : 0 < 2 ^ l.length := Nat.two_pow_pos _
  omega
theorem two_lt {x n : Nat} (h : x < n) : 2 ^ x < 2 ^ n := Nat.pow_lt_pow_right (by omega) h
theorem maskM {l : List Int} (h : netB l = true) {x : Nat} (hx : x < l.length) : (fromI l).getD x 0 ||| 2 ^ x < 256 ∧ (fromI l).getD x 0 ||| 2 ^ x < 2 ^ l.length := by
  obtain ⟨e, hm, h8, hb⟩ := netB_parts h
  exact ⟨Nat.or_lt_two_pow (n := 8) (hm.2 x) (pow_small (by omega)), Nat.or_lt_two_pow (hb x hx) (two_lt hx)⟩
theorem ballM_len (l : List Int) (x : Int) : (ballM l x).length ≤ 8 := setF_len
theorem closedM {l : List Int} (h : netB l = true) (u : Unit) {x : Nat} (hx : x < l.length) : F_impl_net_closed 0 ((l, u), (x : Int), ()) = some ((((fromI l).getD x 0 ||| 2 ^ x : Nat) : Int), ()) := by
  obtain ⟨e, hm, h8, hb⟩ := netB_parts h
  unfold F_impl_net_closed
  have i1 : idxIn (x : Int) l.length = true := idxIn_nat hx
  have e1 : at_ I l x = (((fromI l).getD x 0 : Nat) : Int) := by
    have := at_toI (fromI l) x
    rw [← e] at this
    exact this
  simp only [i1, if_true, nonneg_dec, Int.toNat_natCast, e1, shl_one (show x < 8 by omega), bits_or (hm.2 x) (pow_small (show x < 8 by omega))]
theorem setOfM {l : List Int} (h : netB l = true) {x : Nat} (hx : x < l.length) : G_setOf ((((fromI l).getD x 0 ||| 2 ^ x : Nat) : Int), ()) = some (ballM l (x : Int), ()) := by
  have hm := (maskM h hx).1
  unfold G_setOf
  have b2 : decide ((((fromI l).getD x 0 ||| 2 ^ x : Nat) : Int) < 256) = true := by
    simp only [decide_eq_true_eq]
    omega
  simp only [nonneg_dec, b2, Bool.and_self, if_true, Int.toNat_natCast]
  rfl
theorem inB_len {n : Nat} {x : Int} (h : inB 0 ((n : Int) - 1) x = true) : x = (x.toNat : Int) ∧ x.toNat < n := by
  have := inB_iff.1 h
  omega
theorem at_midS (pre : Tab) (x : List Int) (post : Tab) : at_ K_Si (pre ++ x :: post) pre.length = x := by
  rw [at_get (e := K_Si) (by simp)]
  simp
theorem set_midS (pre : Tab) (x y : List Int) (post : Tab) : List.set (pre ++ x :: post) pre.length y = pre ++ y :: post := by simp
theorem netB_net {n : Nat} (hn : n ≤ 8) {es : List E} (h : es.all (edgeB (n : Int)) = true) : netB (toI (netN n es)) = true ∧ (toI (netN n es)).length = n := by
  have hok := netN_ok hn h
  have hl : (toI (netN n es)).length = n := by rw [toI_len, hok.1]
  refine ⟨?_, hl⟩
  unfold netB
  rw [small_toI hok hn, Bool.true_and, List.all_eq_true, hl]
  intro m hm
  unfold toI at hm
  obtain ⟨a, ha, rfl⟩ := List.mem_map.1 hm
  obtain ⟨i, hi, rfl⟩ := List.getElem_of_mem ha
  have hlt : (netN n es)[i] < 2 ^ n := by
    refine Nat.lt_pow_two_of_testBit _ fun j hj => ?_
    have hb := netN_bit hn h i j
    unfold hasN at hb
    simp only [List.getD_eq_getElem?_getD, List.getElem?_eq_getElem hi, Option.getD_some] at hb
    rw [hb, isE_near es h]
    cases hnr : nearI es (i : Int) (j : Int) with
    | false => rfl
    | true => have := near_lt h hnr; omega
  simp only [decide_eq_true_eq]
  omega
theorem ball_same {n : Nat} (hn : n ≤ 8) {es : List E} (h : es.all (edgeB (n : Int)) = true) {x : Nat} (hx : x < n) : ballM (toI (netN n es)) (x : Int) = ballF n es (x : Int) := by
  unfold ballM ballF
  have hok := netN_ok hn h
  have hM : isM n ((netN n es).getD x 0 ||| 2 ^ x) (fun y => nearI es (x : Int) (y : Int) || decide ((y : Int) = (x : Int))) := by
    refine ⟨Nat.or_lt_two_pow (n := 8) (hok.2 x) (pow_small (by omega)), fun w => ?_⟩
    rw [Nat.testBit_or, Nat.testBit_two_pow]
    have hb := netN_bit hn h x w
    unfold hasN at hb
    rw [hb, isE_near es h]
    apply Bool.eq_iff_iff.2
    simp only [Bool.or_eq_true, Bool.and_eq_true, decide_eq_true_eq]
    constructor
    · rintro (h' | h')
      · exact ⟨near_lt h h', .inl h'⟩
      · subst h'
        exact ⟨hx, .inr rfl⟩
    · rintro ⟨h1, h2 | h2⟩
      · exact .inl h2
      · exact .inr (by omega)
  simp only [toI_from, Int.toNat_natCast]
  exact setF_mask hn hM
theorem graph_grB {n : Int} {l : List E} {v : Unit} (h : graphB (n, l, v) = true) (hl : okL l = true) : grB (n, l, v) = true := by
  have h8 := graphB_n h
  have he := (graphB_edges h).1
  unfold grB
  have e1 : decide (0 ≤ n) = true := by simp; omega
  have e2 : decide (n ≤ 8) = true := by simp; omega
  simp only [hl, e1, e2, he, Bool.and_self]
end Go.V.W
set_option linter.unusedVariables false
set_option linter.unusedSimpArgs false
namespace Go.V.W
open Go.Proofs
/-- A list of numbers copied. -/
theorem cloneI_lim (d) (r) (h : G_toIntS d = some r) : ∃ N, F_slices_Clone_Sint_int N d = some r := by
  obtain ⟨l, _⟩ := d
  unfold G_toIntS at h
  split at h
  · rename_i hl
    have hl : l.length ≤ lim := of_decide_eq_true hl
    have h := Option.some.inj h
    subst h
    refine ⟨0, ?_⟩
    unfold F_slices_Clone_Sint_int
    have h1 : decide (List.length ([] : List Int) + l.length ≤ lim) = true := by simp [hl]
    simp only [h1, if_true, List.nil_append]
    split
    · rename_i h0
      have : l = [] := List.length_eq_zero_iff.1 (of_decide_eq_true h0)
      subst this
      simp [both]
    · rfl
  · cases h
end Go.V.W
set_option linter.unusedVariables false
set_option linter.unusedSimpArgs false
namespace Go.V.W
open Go.Proofs
theorem find_idx {α : Type} (p : α → Bool) : ∀ l : List α, l.any p = true → ∃ j, ∃ hj : j < l.length, p l[j] = true ∧ (∀ i (hi : i < l.length), i < j → p l[i] = false) ∧ l.find? p = some l[j] := by
  intro l
  induction l with
  | nil => intro h; cases h
  | cons a l ih =>
    intro h
    cases hp : p a with
    | true => exact ⟨0, by simp, hp, fun i hi hij => absurd hij (by omega), by simp [List.find?_cons, hp]⟩
    | false =>
      rw [List.any_cons, hp, Bool.false_or] at h
      obtain ⟨j, hj, h1, h2, h3⟩ := ih h
      refine ⟨j + 1, by simp; exact hj, h1, fun i hi hij => ?_, ?_⟩
      · cases i with
        | zero => exact hp
        | succ i => exact h2 i (by simpa using hi) (by omega)
      · rw [List.find?_cons, hp]
        exact h3
end Go.V.W
set_option linter.unusedVariables false
set_option linter.unusedSimpArgs false
namespace Go.V.W
open Go.Proofs
theorem has_nodes (n : Int) (es : List E) (v u : Unit) (l : List Int) (ho : okL es = true) (hl : okL l = true) : F_impl_hasNodes 0 ((n, es, v), l, u) = some (graphB (n, es, v) && l.all (inB 0 (n - 1)), ()) := by
  unfold F_impl_hasNodes G_graph G_allWithin
  simp only [ho, hl, if_true, Option.bind_some]
  cases hg : graphB (n, es, v) with
  | false => rfl
  | true =>
    have := graphB_n hg
    have hw : IntKind.wrap .i64 (n - 1) = n - 1 := wrap_in _ (by omega) (by omega)
    simp only [if_true, hw, Bool.true_and, Option.bind_some]
theorem net_some {n : Nat} {es : List E} {v u : Unit} (hg : graphB ((n : Int), es, v) = true) (ho : okL es = true) : G_netOf (((n : Int), es, v), u) = some ((toI (netN n es), ()), ()) := by
  obtain ⟨h0, h8⟩ := graphB_n hg
  obtain ⟨g1, g2⟩ := graphB_edges hg
  unfold G_netOf
  have a1 : (decide (0 ≤ (n : Int)) && decide ((n : Int) ≤ 8) && okL es && es.all (edgeB (n : Int))) = true := by simp only [h0, h8, ho, g1, decide_true, Bool.and_self]
  simp only [a1, if_true, Int.toNat_natCast]
end Go.V.W
set_option linter.unusedVariables false
set_option linter.unusedSimpArgs false
namespace Go.V.W
open Go.Proofs
theorem hasL_setF {p : Nat → Bool} {n y : Nat} (hy : y < n) : hasL (setF p n 0) (y : Int) = p y := any_setF hy
def InvC (n : Nat) (ball : Int → List Int) (f : Nat → Nat → Int) : Prop := ∀ c r, c < n → r < n → 1 ≤ f c r → ∃ b ∈ ball (c : Int), 0 ≤ afterT ball (tabL n f) b (r : Int) ∧ afterT ball (tabL n f) b (r : Int) + 1 = f c r
theorem after_keep {n : Nat} {ball : Int → List Int} (hb : okBall n ball) {t : Nat} {f : Nat → Nat → Int} {b r : Nat} (hbn : b < n) (hr : r < n) (h : 0 ≤ afterT ball (tabL n f) (b : Int) (r : Int)) :
    afterT ball (tabL n (stepF n ball (t : Int) f)) (b : Int) (r : Int) = afterT ball (tabL n f) (b : Int) (r : Int) := by
  unfold afterT at h ⊢
  by_cases hbr : (b : Int) = (r : Int)
  · rw [if_pos hbr, if_pos hbr]
  · rw [if_neg hbr] at h ⊢
    rw [if_neg hbr]
    rcases worst_spec (tab2 (tabL n f) (b : Int)) (ball (r : Int)) 0 with ⟨_, h'⟩ | ⟨hall, _, _⟩
    · omega
    · refine worst_congr fun x hx => ?_
      obtain ⟨y, hy, rfl⟩ := hb r hr x hx
      have := (hall (y : Int) hx).1
      rw [tab2_tabL _ hbn hy] at this
      rw [tab2_tabL _ hbn hy, tab2_tabL _ hbn hy]
      refine if_neg fun hcan => ?_
      unfold canF at hcan
      simp only [Bool.and_eq_true, decide_eq_true_eq] at hcan
      omega
theorem InvC.next {n : Nat} {ball : Int → List Int} (hb : okBall n ball) {t : Nat} {f : Nat → Nat → Int} (hI : InvT n ball t f) (hC : InvC n ball f) : InvC n ball (stepF n ball (t : Int) f) := by
  intro c r hc hr h
  by_cases hcan : canF n ball f c r = true
  · have e : stepF n ball (t : Int) f c r = (t : Int) := if_pos hcan
    rw [e]
    unfold canF at hcan
    simp only [Bool.and_eq_true, decide_eq_true_eq, List.any_eq_true] at hcan
    obtain ⟨hf, b, hbm, h0⟩ := hcan
    have h1 := hI.none c r hc hr hf b hbm
    have h2 := after_high hb hI hc hr hbm
    obtain ⟨b', hb1, rfl⟩ := hb c hc b hbm
    refine ⟨_, hbm, ?_⟩
    rw [after_keep hb hb1 hr h0]
    omega
  · have e : stepF n ball (t : Int) f c r = f c r := if_neg hcan
    rw [e] at h ⊢
    obtain ⟨b, hbm, h0, h1⟩ := hC c r hc hr h
    obtain ⟨b', hb1, rfl⟩ := hb c hc b hbm
    refine ⟨_, hbm, ?_⟩
    rw [after_keep hb hb1 hr h0]
    exact ⟨h0, h1⟩
end Go.V.W
set_option linter.unusedVariables false
set_option linter.unusedSimpArgs false
namespace Go.V.W
open Go.Proofs
section moves
variable {a : Nat} {es : List E} {v : Unit}
theorem edges_of (hg : graphB ((a : Int), es, v) = true) : a ≤ 8 ∧ es.all (edgeB (a : Int)) = true ∧ risingE es = true := by
  have := graphB_n hg
  have := graphB_edges hg
  exact ⟨by omega, this.1, this.2⟩
theorem closed_bit (hg : graphB ((a : Int), es, v) = true) {c : Nat} (hc : c < a) (u w : Unit) : ∃ k : Nat, k < 256 ∧ F_impl_net_closed 0 ((toI (netN a es), u), (c : Int), w) = some ((k : Int), ()) ∧ ∀ y, y < a → k.testBit y = hasL (ballF a es (c : Int)) (y : Int) := by
  obtain ⟨ha, g1, g2⟩ := edges_of hg
  obtain ⟨nb, nl⟩ := netB_net ha g1
  have hc' : c < (toI (netN a es)).length := by rw [nl]; exact hc
  refine ⟨_, (maskM nb hc').1, closedM nb u hc', fun y hy => ?_⟩
  rw [← ball_same ha g1 hc]
  unfold ballM
  rw [Int.toNat_natCast]
  exact (hasL_setF (p := fun y => ((fromI (toI (netN a es))).getD c 0 ||| 2 ^ c).testBit y) (show y < 8 by omega)).symm
theorem has_bit0 {k y : Nat} (hk : k < 256) (h : y < 8) : (bits .and .i64 (shr .i64 (k : Int) (y : Int)) 1 == (0 : Int)) = !k.testBit y := by
  have h1 : k >>> y < 256 := by
    rw [Nat.shiftRight_eq_div_pow]
    exact Nat.lt_of_le_of_lt (Nat.div_le_self _ _) hk
  have h2 := has_bit hk h
  rw [shr_nat h] at h2 ⊢
  have := bits_and h1 (show 1 < 256 by omega)
  rw [show ((1 : Nat) : Int) = 1 from rfl] at this
  rw [this] at h2 ⊢
  rw [← h2, Nat.and_one_is_mod]
  have : k >>> y % 2 = 0 ∨ k >>> y % 2 = 1 := by omega
  rcases this with h | h <;> simp [h]
end moves
end Go.V.W
set_option linter.unusedVariables false
set_option linter.unusedSimpArgs false
namespace Go.V.W
open Go.Proofs
theorem same_drop {α : Type} {l m : List α} {i : Nat} (hi : i < l.length) (hi' : i < m.length) : (l.drop i = m.drop i) = (l[i] = m[i] ∧ l.drop (i + 1) = m.drop (i + 1)) := by
  rw [List.drop_eq_getElem_cons hi, List.drop_eq_getElem_cons hi', List.cons.injEq]
theorem l1Same_lim (d) (r) (h : G_l1Same d = some r) : ∃ N, F_spec_l1Same N d = some r := by
  obtain ⟨l, m, _⟩ := d
  unfold G_l1Same at h
  split at h
  · rename_i hl
    have hl : l.length ≤ lim := of_decide_eq_true hl
    have hmx := lim_max hl
    have h := Option.some.inj h
    subst h
    refine ⟨l.length + 1, ?_⟩
    unfold F_spec_l1Same
    by_cases hm : l.length = m.length
    · have hne : ((List.length l : Int) != (List.length m : Int)) = false := by simp [hm]
      have key : ∀ n i, l.length ≤ i + n → i ≤ l.length → spec_l1Same_l0 (l.length + 1) (n + 1) (l, m, (i : Int), ()) = if l.drop i = m.drop i then some (.inr (.inl ())) else some (.inl (false, ())) := by
        intro n
        induction n with
        | zero =>
          intro i h1 h2
          have e : i = l.length := by omega
          subst e
          rw [List.drop_of_length_le (by omega), List.drop_of_length_le (by omega)]
          simp [spec_l1Same_l0, spec_l1Same_l0_r]
        | succ n ih =>
          intro i h1 h2
          by_cases hi : i < l.length
          · have hi' : i < m.length := by omega
            show spec_l1Same_l0_r _ (spec_l1Same_l0 _ (n + 1)) (l, m, (i : Int), ()) = _
            unfold spec_l1Same_l0_r
            have e1 : at_ I l i = l[i] := at_get (e := I) hi
            have e2 : at_ I m i = m[i] := at_get (e := I) hi'
            simp only [lt_dec hi, if_true, idxIn_nat hi, idxIn_nat hi', Int.toNat_natCast, e1, e2, wrap_up hi hmx, ih (i + 1) (by omega) (by omega), same_drop hi hi']
            by_cases he : l[i] = m[i]
            · simp only [he, bne_self_eq_false, Bool.false_eq_true, if_false, true_and]
            · have he' : (l[i] != m[i]) = true := by simpa using he
              simp only [he', he, if_true, false_and, if_false]
          · have e : i = l.length := by omega
            subst e
            rw [List.drop_of_length_le (by omega), List.drop_of_length_le (by omega)]
            simp [spec_l1Same_l0, spec_l1Same_l0_r]
      have := key l.length 0 (by omega) (by omega)
      simp only [Int.natCast_zero, List.drop_zero] at this
      simp only [hne, Bool.false_eq_true, if_false, this]
      by_cases he : l = m
      · simp [he]
      · simp [he]
    · have hne : ((List.length l : Int) != (List.length m : Int)) = true := by simp; omega
      have he : ¬ l = m := fun e => hm (by rw [e])
      simp [hne, he]
  · cases h
theorem l4Less_lim (d) (r) (h : G_l4Less d = some r) : ∃ N, F_spec_l4Less N d = some r := by
  obtain ⟨l, m, _⟩ := d
  unfold G_l4Less at h
  split at h
  · rename_i hc
    simp only [Bool.and_eq_true, decide_eq_true_eq] at hc
    have hl : l.length ≤ lim := okL_lim hc.1
    have hm : l.length = m.length := hc.2
    have hmx := lim_max hl
    have h := Option.some.inj h
    subst h
    refine ⟨l.length + 1, ?_⟩
    unfold F_spec_l4Less
    have key : ∀ n i, l.length ≤ i + n → i ≤ l.length → ∃ o, spec_l4Less_l0 (l.length + 1) (n + 1) (l, m, (i : Int), ()) = some o ∧ (o = .inl (decide (cmpL (l.drop i) (m.drop i) < 0), ()) ∨ (o = .inr (.inl ()) ∧ decide (cmpL (l.drop i) (m.drop i) < 0) = false)) := by
      intro n
      induction n with
      | zero =>
        intro i h1 h2
        have e : i = l.length := by omega
        subst e
        rw [List.drop_of_length_le (by omega), List.drop_of_length_le (by omega)]
        exact ⟨_, by simp [spec_l4Less_l0, spec_l4Less_l0_r], .inr ⟨rfl, rfl⟩⟩
      | succ n ih =>
        intro i h1 h2
        by_cases hi : i < l.length
        · have hi' : i < m.length := by omega
          show ∃ o, spec_l4Less_l0_r _ (spec_l4Less_l0 _ (n + 1)) (l, m, (i : Int), ()) = some o ∧ _
          unfold spec_l4Less_l0_r
          have e1 : at_ I l i = l[i] := at_get (e := I) hi
          have e2 : at_ I m i = m[i] := at_get (e := I) hi'
          rw [List.drop_eq_getElem_cons hi, List.drop_eq_getElem_cons hi']
          simp only [lt_dec hi, if_true, idxIn_nat hi, idxIn_nat hi', Int.toNat_natCast, e1, e2, wrap_up hi hmx, cmpL]
          by_cases he : l[i] = m[i]
          · have a1 : ¬ l[i] < m[i] := by omega
            have a2 : ¬ m[i] < l[i] := by omega
            simp only [he, bne_self_eq_false, Bool.false_eq_true, if_false, Int.lt_irrefl]
            exact ih (i + 1) (by omega) (by omega)
          · have he' : (l[i] != m[i]) = true := by simpa using he
            simp only [he', if_true]
            refine ⟨_, rfl, .inl ?_⟩
            by_cases a1 : l[i] < m[i]
            · simp [a1]
            · have a2 : m[i] < l[i] := by omega
              simp [a1, a2]
        · have e : i = l.length := by omega
          subst e
          rw [List.drop_of_length_le (by omega), List.drop_of_length_le (by omega)]
          exact ⟨_, by simp [spec_l4Less_l0, spec_l4Less_l0_r], .inr ⟨rfl, rfl⟩⟩
    obtain ⟨o, o1, o2⟩ := key l.length 0 (by omega) (by omega)
    simp only [Int.natCast_zero, List.drop_zero] at o1 o2
    simp only [o1, Option.bind_some]
    rcases o2 with rfl | ⟨rfl, o3⟩
    · rfl
    · rw [o3]
  · cases h
theorem l4At_lim (d) (r) (h : G_l4At d = some r) : ∃ N, F_spec_l4At N d = some r := by
  obtain ⟨xs, x, _⟩ := d
  unfold G_l4At at h
  split at h
  · rename_i hc
    have hc : (okL xs && xs.all okL) = true := hc
    simp only [Bool.and_eq_true] at hc
    have hl : xs.length ≤ lim := okL_lim hc.1
    have hmx := lim_max hl
    have h := Option.some.inj h
    subst h
    refine ⟨xs.length + 1, ?_⟩
    unfold F_spec_l4At
    have := loop_idx (L := spec_l4At_l0 (xs.length + 1)) (r := spec_l4At_l0_r (xs.length + 1)) (fun _ _ => rfl) (e := K_Si) xs (mk := fun i => (xs, x, (i : Int), ())) (q := fun y => decide (y = x)) (o := fun i => .inl ((i : Int), ())) (f := .inr (.inl ()))
      (by
        intro back i hi
        have hx : at_ K_Si xs i = xs[i] := at_get (e := K_Si) hi
        have hs : G_l1Same (xs[i], x, ()) = some (decide (xs[i] = x), ()) := by
          unfold G_l1Same
          rw [if_pos (List.all_eq_true.1 hc.2 xs[i] (List.getElem_mem hi))]
        unfold spec_l4At_l0_r
        simp only [lt_dec hi, if_true, idxIn_nat hi, Int.toNat_natCast, wrap_up hi hmx, hx, hs, Option.bind_some])
      (by intro back; unfold spec_l4At_l0_r; simp only [lt_not, Bool.false_eq_true, if_false]) xs.length 0 (by omega) (by omega)
    simp only [Int.natCast_zero, List.drop_zero] at this
    simp only [this, Option.bind_some]
    cases idxN (fun y => decide (y = x)) xs 0 <;> rfl
  · cases h
end Go.V.W
set_option linter.unusedVariables false
set_option linter.unusedSimpArgs false
namespace Go.V.W
open Go.Proofs
theorem ndB_iff : ∀ l : List Int, ndB l = true ↔ ∀ j, 0 < j → j < l.length → at_ I l (j - 1) ≤ at_ I l j := by
  intro l
  induction l with
  | nil => simp only [ndB, true_iff]; intro j _ h; exact absurd h (by simp)
  | cons a l ih =>
    cases l with
    | nil => simp only [ndB, true_iff]; intro j h1 h2; simp only [List.length_cons, List.length_nil] at h2; omega
    | cons b l =>
      simp only [ndB, Bool.and_eq_true, ih, decide_eq_true_eq]
      constructor
      · rintro ⟨h1, h2⟩ j h3 h4
        by_cases e : j = 1
        · subst e; exact h1
        · have := h2 (j - 1) (by omega) (by simp only [List.length_cons] at h4 ⊢; omega)
          obtain ⟨k, rfl⟩ : ∃ k, j = k + 2 := ⟨j - 2, by omega⟩
          exact this
      · intro h
        refine ⟨h 1 (by omega) (by simp), fun j h1 h2 => ?_⟩
        have := h (j + 1) (by omega) (by simp only [List.length_cons] at h2 ⊢; omega)
        obtain ⟨k, rfl⟩ : ∃ k, j = k + 1 := ⟨j - 1, by omega⟩
        exact this
theorem l4Cops_lim (d) (r) (h : G_l4Cops d = some r) : ∃ N, F_spec_l4Cops N d = some r := by
  obtain ⟨⟨n, es, u⟩, l, _⟩ := d
  unfold G_l4Cops at h
  split at h
  · rename_i hc
    simp only [Bool.and_eq_true, decide_eq_true_eq] at hc
    have hl : l.length ≤ lim := okL_lim hc.1.1
    have h0 : 0 ≤ n := hc.1.2
    have h8 : n ≤ 8 := hc.2
    have hmx := lim_max hl
    have h := Option.some.inj h
    subst h
    refine ⟨l.length + 1, ?_⟩
    unfold F_spec_l4Cops
    have := loop_all (L := fun k d => spec_l4Cops_l0 (l.length + 1) k d) (r := spec_l4Cops_l0_r (l.length + 1)) (fun _ _ => rfl) (n := l.length) (mk := fun i => (l, (n, es, u), (i : Int), ())) (p := fun i => inB 0 (n - 1) (at_ I l i) && (!decide (0 < i) || decide (at_ I l (i - 1) ≤ at_ I l i))) (o := .inl (false, ())) (f := .inr (.inl ()))
      (by
        intro back i hi
        unfold spec_l4Cops_l0_r
        have hn : g_spec_l2Node ((n, es, u), at_ I l i, ()) = (inB 0 (n - 1) (at_ I l i), ()) := by
          unfold g_spec_l2Node
          have hw : IntKind.wrap .i64 (n - 1) = n - 1 := wrap_in _ (by omega) (by omega)
          simp only [hw, l1In_eq]
        simp only [lt_dec hi, if_true, idxIn_nat hi, Int.toNat_natCast, hn, pos_dec, wrap_up hi hmx]
        cases inB 0 (n - 1) (at_ I l i) with
        | false => rfl
        | true =>
          simp only [Bool.not_true, Bool.false_eq_true, if_false, Bool.true_and]
          by_cases h0 : 0 < i
          · have h1 : i - 1 < l.length := by omega
            simp only [h0, decide_true, if_true, wrap_down h0 (show i ≤ maxLen by omega), idxIn_nat h1, Int.toNat_natCast, Bool.not_true, Bool.false_or]
            by_cases hc : at_ I l (i - 1) ≤ at_ I l i
            · have hc' : ¬ (at_ I l (i - 1) > at_ I l i) := Int.not_lt.2 hc
              simp only [hc, hc', decide_true, decide_false, if_true, Bool.false_eq_true, if_false]
            · have hc' : (at_ I l (i - 1) > at_ I l i) := Int.not_le.1 hc
              simp only [hc, hc', decide_true, decide_false, if_true, Bool.false_eq_true, if_false]
          · simp only [h0, decide_false, Bool.false_eq_true, if_false, Bool.not_false, Bool.true_or, if_true])
      (by intro back; unfold spec_l4Cops_l0_r; simp only [lt_not, Bool.false_eq_true, if_false]) l.length 0 (by omega) (by omega)
    simp only [Int.natCast_zero] at this
    simp only [this, Nat.sub_zero]
    have e : allB (fun i => inB 0 (n - 1) (at_ I l i) && (!decide (0 < i) || decide (at_ I l (i - 1) ≤ at_ I l i))) l.length 0 = copsB n l := by
      unfold copsB
      rw [← all_at (e := I) l (inB 0 (n - 1))]
      apply bool_eq_iff
      rw [Bool.and_eq_true, allB_iff, allB_iff, ndB_iff]
      simp only [Bool.and_eq_true, Bool.or_eq_true, Bool.not_eq_true', decide_eq_true_eq, decide_eq_false_iff_not]
      constructor
      · intro h
        exact ⟨fun j h1 h2 => (h j h1 h2).1, fun j h1 h2 => ((h j (by omega) (by omega)).2).resolve_left (by omega)⟩
      · rintro ⟨h1, h2⟩ j h3 h4
        refine ⟨h1 j h3 h4, ?_⟩
        by_cases h0 : 0 < j
        · exact .inr (h2 j h0 (by omega))
        · exact .inl h0
    simp only [e]
    cases copsB n l <;> rfl
  · cases h
theorem equalI_lim (d) (r) (h : G_l1Same d = some r) : ∃ N, F_slices_Equal_Sint_int N d = some r := by
  obtain ⟨l, m, _⟩ := d
  unfold G_l1Same at h
  split at h
  · rename_i hl
    have hl : l.length ≤ lim := of_decide_eq_true hl
    have hmx := lim_max hl
    have h := Option.some.inj h
    subst h
    refine ⟨l.length + 1, ?_⟩
    unfold F_slices_Equal_Sint_int
    by_cases hm : l.length = m.length
    · have hne : ((List.length l : Int) != (List.length m : Int)) = false := by simp [hm]
      have key : ∀ n i, l.length ≤ i + n → i ≤ l.length → slices_Equal_Sint_int_l0 (l.length + 1) (n + 1) (l, m, (l.length : Int), (i : Int), ()) = if l.drop i = m.drop i then some (.inr (.inl ())) else some (.inl (false, ())) := by
        intro n
        induction n with
        | zero =>
          intro i h1 h2
          have e : i = l.length := by omega
          subst e
          rw [List.drop_of_length_le (by omega), List.drop_of_length_le (by omega)]
          simp [slices_Equal_Sint_int_l0, slices_Equal_Sint_int_l0_r]
        | succ n ih =>
          intro i h1 h2
          by_cases hi : i < l.length
          · have hi' : i < m.length := by omega
            show slices_Equal_Sint_int_l0_r _ (slices_Equal_Sint_int_l0 _ (n + 1)) (l, m, (l.length : Int), (i : Int), ()) = _
            unfold slices_Equal_Sint_int_l0_r
            have e1 : at_ I l i = l[i] := at_get (e := I) hi
            have e2 : at_ I m i = m[i] := at_get (e := I) hi'
            simp only [lt_dec hi, if_true, idxIn_nat hi, idxIn_nat hi', Int.toNat_natCast, e1, e2, wrap_up hi hmx, ih (i + 1) (by omega) (by omega), same_drop hi hi']
            by_cases he : l[i] = m[i]
            · simp only [he, bne_self_eq_false, Bool.false_eq_true, if_false, true_and]
            · have he' : (l[i] != m[i]) = true := by simpa using he
              simp only [he', he, if_true, false_and, if_false]
          · have e : i = l.length := by omega
            subst e
            rw [List.drop_of_length_le (by omega), List.drop_of_length_le (by omega)]
            simp [slices_Equal_Sint_int_l0, slices_Equal_Sint_int_l0_r]
      have := key l.length 0 (by omega) (by omega)
      simp only [Int.natCast_zero, List.drop_zero] at this
      simp only [hne, Bool.false_eq_true, if_false, this]
      by_cases he : l = m
      · simp [he]
      · simp [he]
    · have hne : ((List.length l : Int) != (List.length m : Int)) = true := by simp; omega
      have he : ¬ l = m := fun e => hm (by rw [e])
      simp [hne, he]
  · cases h
theorem idxWalk_lim (d) (r) (h : G_idxWalk d = some r) : ∃ N, F_slices_IndexFunc_SSint_Sint_by_impl_isWalk_1 N d = some r := by
  obtain ⟨xs, ⟨v, x, w⟩, _⟩ := d
  unfold G_idxWalk at h
  split at h
  · rename_i hc
    have hc : (okL xs && xs.all okL) = true := hc
    simp only [Bool.and_eq_true] at hc
    have hl : xs.length ≤ lim := okL_lim hc.1
    have hmx := lim_max hl
    have h := Option.some.inj h
    subst h
    refine ⟨xs.length + 1, ?_⟩
    unfold F_slices_IndexFunc_SSint_Sint_by_impl_isWalk_1
    have := loop_idx (L := slices_IndexFunc_SSint_Sint_by_impl_isWalk_1_l0 (xs.length + 1)) (r := slices_IndexFunc_SSint_Sint_by_impl_isWalk_1_l0_r (xs.length + 1)) (fun _ _ => rfl) (e := K_Si) xs (mk := fun i => (xs, (v, x, w), (xs.length : Int), (i : Int), ())) (q := fun y => decide (y = x)) (o := fun i => .inl ((i : Int), ())) (f := .inr (.inl ()))
      (by
        intro back i hi
        have hx : at_ K_Si xs i = xs[i] := at_get (e := K_Si) hi
        have hs : FV_impl_isWalk_1 (xs[i], (v, x, w), ()) = some (decide (xs[i] = x), ()) := by
          unfold FV_impl_isWalk_1 F_impl_isWalk_1 G_l1Same
          have ho := List.all_eq_true.1 hc.2 xs[i] (List.getElem_mem hi)
          simp only [ho, if_true, Option.bind_some]
        unfold slices_IndexFunc_SSint_Sint_by_impl_isWalk_1_l0_r
        simp only [lt_dec hi, if_true, idxIn_nat hi, Int.toNat_natCast, wrap_up hi hmx, hx, hs, Option.bind_some])
      (by intro back; unfold slices_IndexFunc_SSint_Sint_by_impl_isWalk_1_l0_r; simp only [lt_not, Bool.false_eq_true, if_false]) xs.length 0 (by omega) (by omega)
    simp only [Int.natCast_zero, List.drop_zero] at this
    simp only [this, Option.bind_some]
    cases idxN (fun y => decide (y = x)) xs 0 <;> rfl
  · cases h
end Go.V.W
set_option linter.unusedVariables false
set_option linter.unusedSimpArgs false
namespace Go.V.W
open Go.Proofs
theorem putS_low (x : List Int) : ∀ l : List (List Int), ∃ k, k ≤ l.length ∧ (∀ j (hj : j < l.length), j < k → cmpL l[j] x < 0) ∧ (∀ hk : k < l.length, ¬ cmpL l[k] x < 0) ∧
    (∀ hk : k < l.length, l[k] = x → putS x l = l) ∧ ((∀ hk : k < l.length, ¬ l[k] = x) → putS x l = l.take k ++ [x] ++ l.drop k) := by
  intro l
  induction l with
  | nil => exact ⟨0, Nat.le_refl _, fun j hj => absurd hj (by simp), fun hk => absurd hk (by simp), fun hk => absurd hk (by simp), fun _ => rfl⟩
  | cons a l ih =>
    by_cases h : cmpL a x < 0
    · obtain ⟨k, h1, h2, h3, h4, h5⟩ := ih
      refine ⟨k + 1, by simp; exact h1, fun j hj hjk => ?_, fun hk => h3 (by simpa using hk), fun hk e => ?_, fun hne => ?_⟩
      · cases j with
        | zero => exact h
        | succ j => exact h2 j (by simpa using hj) (by omega)
      · simp only [putS, h, if_true]
        rw [h4 (by simpa using hk) e]
      · simp only [putS, h, if_true, List.take_succ_cons, List.drop_succ_cons, List.cons_append]
        rw [h5 fun hk => hne (by simpa using hk)]
    · refine ⟨0, Nat.zero_le _, fun j hj hjk => absurd hjk (by omega), fun hk => h, fun hk e => ?_, fun hne => ?_⟩
      · have e : a = x := e
        unfold putS
        rw [if_neg h, if_pos e]
      · have hne : ¬ a = x := hne (by simp)
        simp only [putS, h, if_false, hne, List.take_zero, List.drop_zero, List.nil_append, List.singleton_append]
theorem l4Put_lim (d) (r) (h : G_l4Put d = some r) : ∃ N, F_spec_l4Put N d = some r := by
  obtain ⟨l, x, _⟩ := d
  unfold G_l4Put at h
  split at h
  · rename_i hc
    simp only [Bool.and_eq_true, decide_eq_true_eq] at hc
    have hl : l.length ≤ 1000 := hc.1.1
    have hox : okL x = true := hc.1.2
    have hal : ∀ y ∈ l, y.length = x.length := fun y hy => of_decide_eq_true (List.all_eq_true.1 hc.2 y hy)
    have hoy : ∀ y ∈ l, okL y = true := fun y hy => decide_eq_true (by rw [hal y hy]; exact okL_lim hox)
    have hmx : l.length ≤ maxLen := by unfold maxLen; omega
    have h := Option.some.inj h
    subst h
    obtain ⟨k, h1, h2, h3, h4, h5⟩ := putS_low x l
    refine ⟨l.length + 2, ?_⟩
    have hless : ∀ j (hj : j < l.length), G_l4Less (l[j], x, ()) = some (decide (cmpL l[j] x < 0), ()) := fun j hj => by
      unfold G_l4Less
      have e1 := hoy l[j] (List.getElem_mem hj)
      have e2 := hal l[j] (List.getElem_mem hj)
      simp only [e1, e2, decide_true, Bool.and_self, if_true]
    have key : ∀ q i f, i + q = k → q < f → spec_l4Put_l0 (l.length + 2) f (l, x, (i : Int), ()) = some (.inl (l, x, (k : Int), ())) := by
      intro q
      induction q with
      | zero =>
        intro i f e1 e2
        obtain ⟨f, rfl⟩ : ∃ m, f = m + 1 := ⟨f - 1, by omega⟩
        have ei : i = k := by omega
        subst ei
        show spec_l4Put_l0_r _ _ _ = _
        unfold spec_l4Put_l0_r
        by_cases hi : i < l.length
        · have ea : at_ K_Si l i = l[i] := at_get (e := K_Si) hi
          simp only [lt_dec hi, if_true, idxIn_nat hi, Int.toNat_natCast, ea, hless i hi, Option.bind_some, h3 hi, decide_false, Bool.false_eq_true, if_false]
        · have ei : i = l.length := by omega
          subst ei
          simp only [lt_not, Bool.false_eq_true, if_false]
      | succ q ih =>
        intro i f e1 e2
        obtain ⟨f, rfl⟩ : ∃ m, f = m + 1 := ⟨f - 1, by omega⟩
        have hi : i < l.length := by omega
        show spec_l4Put_l0_r _ _ _ = _
        unfold spec_l4Put_l0_r
        have ea : at_ K_Si l i = l[i] := at_get (e := K_Si) hi
        simp only [lt_dec hi, if_true, idxIn_nat hi, Int.toNat_natCast, ea, hless i hi, Option.bind_some, h2 i hi (by omega), decide_true, wrap_up hi hmx]
        exact ih (i + 1) f (by omega) (by omega)
    have := key k 0 (l.length + 2) (by omega) (by omega)
    simp only [Int.natCast_zero] at this
    unfold F_spec_l4Put
    have c1 : (decide (0 ≤ (0 : Int)) && decide ((0 : Int) ≤ (k : Int)) && decide ((k : Int) ≤ (l.length : Int))) = true := by simp; omega
    have s1 : sub_ l 0 (k : Int) = l.take k := by unfold sub_; simp
    have s2 : sub_ l (k : Int) (l.length : Int) = l.drop k := by unfold sub_; simp
    have c2 : decide (List.length ([] : List (List Int)) + (l.take k).length ≤ lim) = true := by unfold lim; simp; omega
    have c3 : decide ((([] : List (List Int)) ++ l.take k).length + List.length [x] ≤ lim) = true := by unfold lim; simp; omega
    have c4 : (decide (0 ≤ (k : Int)) && decide ((k : Int) ≤ (l.length : Int)) && decide ((l.length : Int) ≤ (l.length : Int))) = true := by simp; omega
    have c5 : decide ((([] : List (List Int)) ++ l.take k ++ [x]).length + (l.drop k).length ≤ lim) = true := by unfold lim; simp; omega
    simp only [this, Option.bind_some]
    by_cases hk : k < l.length
    · have ea : at_ K_Si l k = l[k] := at_get (e := K_Si) hk
      have hs : G_l1Same (l[k], x, ()) = some (decide (l[k] = x), ()) := by
        unfold G_l1Same
        have := hoy l[k] (List.getElem_mem hk)
        simp only [this, if_true]
      simp only [lt_dec hk, if_true, idxIn_nat hk, Int.toNat_natCast, ea, hs, Option.bind_some]
      by_cases e : l[k] = x
      · simp only [e, decide_true, if_true, h4 hk e]
      · simp only [e, decide_false, Bool.false_eq_true, if_false, c1, if_true, s1, c2, c3, c4, s2, c5]
        rw [h5 fun _ => e]
        simp
    · have hk2 : decide ((k : Int) < (l.length : Int)) = false := decide_eq_false (by omega)
      simp only [hk2, Bool.false_eq_true, if_false, c1, if_true, s1, c2, c3, c4, s2, c5]
      rw [h5 fun h => absurd h hk]
      simp
  · cases h
end Go.V.W
set_option linter.unusedVariables false
set_option linter.unusedSimpArgs false
namespace Go.V.W
open Go.Proofs
def insA (x : Int) : List Int → List Int
  | [] => [x]
  | a :: l => if a ≤ x then a :: insA x l else x :: a :: l
theorem insA_low (x : Int) : ∀ l : List Int, ∃ k, k ≤ l.length ∧ (∀ j (hj : j < l.length), j < k → l[j] ≤ x) ∧ (∀ hk : k < l.length, ¬ l[k] ≤ x) ∧ insA x l = l.take k ++ [x] ++ l.drop k := by
  intro l
  induction l with
  | nil => exact ⟨0, Nat.le_refl _, fun j hj => absurd hj (by simp), fun hk => absurd hk (by simp), rfl⟩
  | cons a l ih =>
    by_cases h : a ≤ x
    · obtain ⟨k, h1, h2, h3, h4⟩ := ih
      refine ⟨k + 1, by simp; exact h1, fun j hj hjk => ?_, fun hk => h3 (by simpa using hk), ?_⟩
      · cases j with
        | zero => exact h
        | succ j => exact h2 j (by simpa using hj) (by omega)
      · simp only [insA, h, if_true, h4, List.take_succ_cons, List.drop_succ_cons, List.cons_append]
    · refine ⟨0, Nat.zero_le _, fun j hj hjk => absurd hjk (by omega), fun hk => h, ?_⟩
      simp only [insA, h, if_false, List.take_zero, List.drop_zero, List.nil_append, List.singleton_append]
theorem insA_len (x : Int) : ∀ l : List Int, (insA x l).length = l.length + 1 := by
  intro l
  induction l with
  | nil => rfl
  | cons a l ih =>
    unfold insA
    split <;> simp [ih]
theorem insA_perm (x : Int) : ∀ l : List Int, (insA x l).Perm (x :: l) := by
  intro l
  induction l with
  | nil => exact .refl _
  | cons a l ih =>
    unfold insA
    split
    · exact (ih.cons a).trans (List.Perm.swap x a l)
    · exact .refl _
theorem insA_sorted (x : Int) : ∀ l : List Int, l.Pairwise (· ≤ ·) → (insA x l).Pairwise (· ≤ ·) := by
  intro l
  induction l with
  | nil => intro _; simp [insA]
  | cons a l ih =>
    intro h
    rw [List.pairwise_cons] at h
    unfold insA
    split
    · rename_i hx
      rw [List.pairwise_cons]
      refine ⟨fun b hb => ?_, ih h.2⟩
      rcases List.mem_cons.1 ((insA_perm x l).mem_iff.1 hb) with rfl | hb
      · exact hx
      · exact h.1 b hb
    · rename_i hx
      rw [List.pairwise_cons, List.pairwise_cons]
      refine ⟨fun b hb => ?_, h⟩
      rcases List.mem_cons.1 hb with rfl | hb
      · omega
      · have := h.1 b hb; omega
theorem int_sorted_eq : ∀ {l m : List Int}, l.Pairwise (· ≤ ·) → m.Pairwise (· ≤ ·) → l.Perm m → l = m := by
  intro l
  induction l with
  | nil => intro m _ _ h; exact List.Perm.nil_eq h
  | cons a l ih =>
    intro m hl hm h
    cases m with
    | nil => exact absurd h.length_eq (by simp)
    | cons b m =>
      rw [List.pairwise_cons] at hl hm
      have e : a = b := by
        rcases List.mem_cons.1 (h.mem_iff.1 (List.mem_cons_self (a := a) (l := l))) with e | ha
        · exact e
        rcases List.mem_cons.1 (h.mem_iff.2 (List.mem_cons_self (a := b) (l := m))) with e | hb
        · exact e.symm
        have h1 := hl.1 b hb
        have h2 := hm.1 a ha
        omega
      subst e
      rw [ih hl.2 hm.2 ((List.perm_cons a).1 h)]
theorem sortI_sorted (l : List Int) : (sortI l).Pairwise (· ≤ ·) := by
  have := List.pairwise_mergeSort (le := fun x y : Int => decide (x ≤ y)) (fun a b c h1 h2 => by simp at h1 h2 ⊢; omega) (fun a b => by simp; omega) l
  unfold sortI
  exact this.imp fun h => by simpa using h
theorem sortI_perm (l : List Int) : (sortI l).Perm l := by
  unfold sortI
  exact List.mergeSort_perm l _
theorem sortA_fold : ∀ (l o : List Int), o.Pairwise (· ≤ ·) → (l.foldl (fun o x => insA x o) o).Pairwise (· ≤ ·) ∧ (l.foldl (fun o x => insA x o) o).Perm (o ++ l) := by
  intro l
  induction l with
  | nil => intro o h; exact ⟨h, by simp⟩
  | cons x l ih =>
    intro o h
    obtain ⟨h1, h2⟩ := ih (insA x o) (insA_sorted x o h)
    refine ⟨h1, h2.trans ?_⟩
    refine ((insA_perm x o).append_right l).trans ?_
    show (x :: (o ++ l)).Perm (o ++ x :: l)
    exact List.perm_middle.symm
theorem sortA_eq (l : List Int) : l.foldl (fun o x => insA x o) [] = sortI l := by
  obtain ⟨h1, h2⟩ := sortA_fold l [] .nil
  exact int_sorted_eq h1 (sortI_sorted l) (h2.trans (sortI_perm l).symm)
theorem l4Sorted_lim (d) (r) (h : G_l4Sorted d = some r) : ∃ N, F_spec_l4Sorted N d = some r := by
  obtain ⟨l, _⟩ := d
  unfold G_l4Sorted at h
  split at h
  · rename_i hc
    have hl : l.length ≤ 1000 := of_decide_eq_true hc
    have hmx : l.length ≤ maxLen := by unfold maxLen; omega
    have h := Option.some.inj h
    subst h
    refine ⟨l.length + 2, ?_⟩
    unfold F_spec_l4Sorted
    have inner : ∀ (i : Nat) (hi : i < l.length) (out : List Int), out.length ≤ l.length → ∀ k, k ≤ out.length → (∀ j (hj : j < out.length), j < k → out[j] ≤ l[i]) → (∀ hk : k < out.length, ¬ out[k] ≤ l[i]) → ∀ q j f, j + q = k → q < f →
        spec_l4Sorted_l2 (l.length + 2) f (l, out, (i : Int), (j : Int), ()) = some (.inl (l, out, (i : Int), (k : Int), ())) := by
      intro i hi out ho k hk h2 h3 q
      have hmo : out.length ≤ maxLen := by omega
      have ei : at_ I l i = l[i] := at_get (e := I) hi
      induction q with
      | zero =>
        intro j f e1 e2
        obtain ⟨f, rfl⟩ : ∃ m, f = m + 1 := ⟨f - 1, by omega⟩
        have e : j = k := by omega
        subst e
        show spec_l4Sorted_l2_r _ _ _ = _
        unfold spec_l4Sorted_l2_r
        by_cases hj : j < out.length
        · have ea : at_ I out j = out[j] := at_get (e := I) hj
          simp only [lt_dec hj, if_true, idxIn_nat hj, idxIn_nat hi, Int.toNat_natCast, ea, ei, h3 hj, decide_false, Bool.false_eq_true, if_false]
        · have e : j = out.length := by omega
          subst e
          simp only [lt_not, Bool.false_eq_true, if_false]
      | succ q ih =>
        intro j f e1 e2
        obtain ⟨f, rfl⟩ : ∃ m, f = m + 1 := ⟨f - 1, by omega⟩
        have hj : j < out.length := by omega
        have ea : at_ I out j = out[j] := at_get (e := I) hj
        show spec_l4Sorted_l2_r _ _ _ = _
        unfold spec_l4Sorted_l2_r
        simp only [lt_dec hj, if_true, idxIn_nat hj, idxIn_nat hi, Int.toNat_natCast, ea, ei, h2 j hj (by omega), decide_true, wrap_up hj hmo]
        exact ih (j + 1) f (by omega) (by omega)
    have key : ∀ q i f (out : List Int), i + q = l.length → q < f → out.length = i → spec_l4Sorted_l0 (l.length + 2) f (l, out, (i : Int), ()) = some (.inl ((l.drop i).foldl (fun o x => insA x o) out, ())) := by
      intro q
      induction q with
      | zero =>
        intro i f out e1 e2 e3
        obtain ⟨f, rfl⟩ : ∃ m, f = m + 1 := ⟨f - 1, by omega⟩
        have e : i = l.length := by omega
        subst e
        rw [List.drop_of_length_le (Nat.le_refl _)]
        show spec_l4Sorted_l0_r _ _ _ = _
        unfold spec_l4Sorted_l0_r
        simp only [lt_not, Bool.false_eq_true, if_false, List.foldl_nil]
      | succ q ih =>
        intro i f out e1 e2 e3
        obtain ⟨f, rfl⟩ : ∃ m, f = m + 1 := ⟨f - 1, by omega⟩
        have hi : i < l.length := by omega
        have ei : at_ I l i = l[i] := at_get (e := I) hi
        obtain ⟨k, h1, h2, h3, h4⟩ := insA_low l[i] out
        have hin := inner i hi out (by omega) k h1 h2 h3 k 0 (l.length + 2) (by omega) (by omega)
        simp only [Int.natCast_zero] at hin
        have c1 : (decide (0 ≤ (0 : Int)) && decide ((0 : Int) ≤ (k : Int)) && decide ((k : Int) ≤ (out.length : Int))) = true := by simp; omega
        have s1 : sub_ out 0 (k : Int) = out.take k := by unfold sub_; simp
        have s2 : sub_ out (k : Int) (out.length : Int) = out.drop k := by unfold sub_; simp
        have c2 : decide (List.length ([] : List Int) + (out.take k).length ≤ lim) = true := by unfold lim; simp; omega
        have c3 : decide ((([] : List Int) ++ out.take k).length + List.length [l[i]] ≤ lim) = true := by unfold lim; simp; omega
        have c4 : (decide (0 ≤ (k : Int)) && decide ((k : Int) ≤ (out.length : Int)) && decide ((out.length : Int) ≤ (out.length : Int))) = true := by simp; omega
        have c5 : decide ((([] : List Int) ++ out.take k ++ [l[i]]).length + (out.drop k).length ≤ lim) = true := by unfold lim; simp; omega
        show spec_l4Sorted_l0_r _ _ _ = _
        unfold spec_l4Sorted_l0_r
        simp only [lt_dec hi, if_true, hin, Option.bind_some, c1, s1, c2, idxIn_nat hi, Int.toNat_natCast, ei, c3, c4, s2, c5, wrap_up hi hmx]
        rw [List.drop_eq_getElem_cons hi, List.foldl_cons, h4]
        have := ih (i + 1) f (insA l[i] out) (by omega) (by omega) (by rw [insA_len, e3])
        rw [h4] at this
        exact this
    have := key l.length 0 (l.length + 2) [] (by omega) (by omega) rfl
    simp only [Int.natCast_zero, List.drop_zero, sortA_eq] at this
    simp only [this, Option.bind_some]
  · cases h
end Go.V.W
set_option linter.unusedVariables false
set_option linter.unusedSimpArgs false
namespace Go.V.W
open Go.Proofs
theorem mv_l4 (N : Nat) (cops : List Int) (g : Gr) (now : List (List Int)) (c : Int) (ball : List Int) (hb : ball.length ≤ 8) (j : Nat) (hj : j < now.length) (hlen : now[j].length ≤ 1000) : ∀ q k f (next : List (List Int)), k + q = ball.length → q < f → next.length + q ≤ 1000 →
    spec_l4Moves_l4 N f (cops, g, now, c, next, ball, (j : Int), (k : Int), ()) = some (.inl (cops, g, now, c, next ++ (ball.drop k).map (fun x => now[j] ++ [x]), ball, (j : Int), ())) := by
  intro q
  induction q with
  | zero =>
    intro k f next e1 e2 e3
    obtain ⟨f, rfl⟩ : ∃ m, f = m + 1 := ⟨f - 1, by omega⟩
    have e : k = ball.length := by omega
    subst e
    rw [List.drop_of_length_le (Nat.le_refl _)]
    show spec_l4Moves_l4_r _ _ _ = _
    unfold spec_l4Moves_l4_r
    simp only [lt_not, Bool.false_eq_true, if_false, List.map_nil, List.append_nil]
  | succ q ih =>
    intro k f next e1 e2 e3
    obtain ⟨f, rfl⟩ : ∃ m, f = m + 1 := ⟨f - 1, by omega⟩
    have hk : k < ball.length := by omega
    have ek : at_ I ball k = ball[k] := at_get (e := I) hk
    have ej : at_ K_Si now j = now[j] := at_get (e := K_Si) hj
    have c1 : decide (now[j].length + List.length [ball[k]] ≤ lim) = true := by unfold lim; simp; omega
    have c2 : decide (next.length + List.length [now[j] ++ [ball[k]]] ≤ lim) = true := by unfold lim; simp; omega
    show spec_l4Moves_l4_r _ _ _ = _
    unfold spec_l4Moves_l4_r
    simp only [lt_dec hk, if_true, idxIn_nat hj, idxIn_nat hk, Int.toNat_natCast, ek, ej, own_some now[j] hlen, Option.bind_some, c1, c2, wrap8 hk hb]
    rw [ih (k + 1) f _ (by omega) (by omega) (by simp; omega), List.drop_eq_getElem_cons hk, List.map_cons, List.append_assoc, List.singleton_append]
theorem mv_l2 (N : Nat) (hN : 10 ≤ N) (cops : List Int) (g : Gr) (now : List (List Int)) (hnow : now.length ≤ 64) (hle : ∀ l ∈ now, l.length ≤ 1000) (c : Int) (ball : List Int) (hb : ball.length ≤ 8) : ∀ q j f (next : List (List Int)), j + q = now.length → q < f → next.length + 8 * q ≤ 900 →
    spec_l4Moves_l2 N f (cops, g, now, c, next, ball, (j : Int), ()) = some (.inl (cops, g, c, next ++ (now.drop j).flatMap (fun l => ball.map fun x => l ++ [x]), ())) := by
  intro q
  induction q with
  | zero =>
    intro j f next e1 e2 e3
    obtain ⟨f, rfl⟩ : ∃ m, f = m + 1 := ⟨f - 1, by omega⟩
    have e : j = now.length := by omega
    subst e
    rw [List.drop_of_length_le (Nat.le_refl _)]
    show spec_l4Moves_l2_r _ _ _ = _
    unfold spec_l4Moves_l2_r
    simp only [lt_not, Bool.false_eq_true, if_false, List.flatMap_nil, List.append_nil]
  | succ q ih =>
    intro j f next e1 e2 e3
    obtain ⟨f, rfl⟩ : ∃ m, f = m + 1 := ⟨f - 1, by omega⟩
    have hj : j < now.length := by omega
    have hin := mv_l4 N cops g now c ball hb j hj (hle _ (List.getElem_mem hj)) ball.length 0 N next (by omega) (by omega) (by omega)
    simp only [Int.natCast_zero, List.drop_zero] at hin
    have hw : IntKind.wrap .i64 ((j : Int) + 1) = ((j + 1 : Nat) : Int) := by
      rw [wrap_in _ (by omega) (by omega)]
      rfl
    show spec_l4Moves_l2_r _ _ _ = _
    unfold spec_l4Moves_l2_r
    simp only [lt_dec hj, if_true, hin, Option.bind_some, hw]
    rw [ih (j + 1) f _ (by omega) (by omega) (by simp; omega), List.drop_eq_getElem_cons hj, List.flatMap_cons, List.append_assoc]
theorem flat_len (ball : List Int) : ∀ now : List (List Int), (now.flatMap fun l => ball.map fun x => l ++ [x]).length = now.length * ball.length := by
  intro now
  induction now with
  | nil => simp
  | cons l now ih =>
    rw [List.flatMap_cons, List.length_append, ih, List.length_map, List.length_cons, Nat.succ_mul]
    omega
theorem flat_each {ball : List Int} {now : List (List Int)} {i : Nat} (h : ∀ l ∈ now, l.length = i) : ∀ l ∈ now.flatMap (fun l => ball.map fun x => l ++ [x]), l.length = i + 1 := by
  intro l hl
  obtain ⟨a, ha, h2⟩ := List.mem_flatMap.1 hl
  obtain ⟨x, _, rfl⟩ := List.mem_map.1 h2
  simp [h a ha]
theorem chL_facts {ball : Int → List Int} : ∀ {cs : List Int} {now : List (List Int)} {i : Nat}, (∀ c ∈ cs, (ball c).length ≤ 8) → (∀ l ∈ now, l.length = i) → (chL ball cs now).length ≤ now.length * 8 ^ cs.length ∧ ∀ l ∈ chL ball cs now, l.length = i + cs.length := by
  intro cs
  induction cs with
  | nil => intro now i _ h; exact ⟨by simp [chL], fun l hl => by simpa using h l hl⟩
  | cons c cs ih =>
    intro now i hb h
    obtain ⟨h1, h2⟩ := ih (fun c hc => hb c (by simp [hc])) (flat_each (ball := ball c) h)
    refine ⟨?_, fun l hl => by rw [h2 l hl]; simp; omega⟩
    refine Nat.le_trans h1 ?_
    rw [flat_len, List.length_cons, Nat.pow_succ, Nat.mul_comm (8 ^ cs.length) 8, ← Nat.mul_assoc]
    exact Nat.mul_le_mul_right _ (Nat.mul_le_mul_left _ (hb c (by simp)))
theorem mv_l0 (N : Nat) (hN : 100 ≤ N) (g : Gr) (hG : grB g = true) (cops : List Int) (h3 : cops.length ≤ 3) (hc : ∀ c ∈ cops, inB 0 (g.1 - 1) c = true) : ∀ q i f (now : List (List Int)), i + q = cops.length → q < f → now.length ≤ 8 ^ i → (∀ l ∈ now, l.length = i) →
    spec_l4Moves_l0 N f (cops, g, now, (i : Int), ()) = some (.inl (chL (ballF g.1.toNat g.2.1) (cops.drop i) now, ())) := by
  obtain ⟨g1, g2, g8, g4⟩ := grB_parts hG
  intro q
  induction q with
  | zero =>
    intro i f now e1 e2 e3 e4
    obtain ⟨f, rfl⟩ : ∃ m, f = m + 1 := ⟨f - 1, by omega⟩
    have e : i = cops.length := by omega
    subst e
    rw [List.drop_of_length_le (Nat.le_refl _)]
    show spec_l4Moves_l0_r _ _ _ = _
    unfold spec_l4Moves_l0_r
    simp only [lt_not, Bool.false_eq_true, if_false, chL]
  | succ q ih =>
    intro i f now e1 e2 e3 e4
    obtain ⟨f, rfl⟩ : ∃ m, f = m + 1 := ⟨f - 1, by omega⟩
    have hi : i < cops.length := by omega
    have ei : at_ I cops i = cops[i] := at_get (e := I) hi
    obtain ⟨b1, b2⟩ := inB_nat g2 (hc _ (List.getElem_mem hi))
    have hb := ball_some hG b2
    rw [← b1] at hb
    have hbl := ballF_len g.1.toNat g.2.1 cops[i]
    have h64 : now.length ≤ 64 := by
      have : 8 ^ i ≤ 8 ^ 2 := Nat.pow_le_pow_right (by omega) (by omega)
      omega
    have hin := mv_l2 N (by omega) cops g now h64 (fun l hl => by rw [e4 l hl]; omega) (i : Int) (ballF g.1.toNat g.2.1 cops[i]) (by omega) now.length 0 N [] (by omega) (by omega) (by simp; omega)
    simp only [Int.natCast_zero, List.drop_zero, List.nil_append] at hin
    have hw : IntKind.wrap .i64 ((i : Int) + 1) = ((i + 1 : Nat) : Int) := by
      rw [wrap_in _ (by omega) (by omega)]
      rfl
    show spec_l4Moves_l0_r _ _ _ = _
    unfold spec_l4Moves_l0_r
    simp only [lt_dec hi, if_true, idxIn_nat hi, Int.toNat_natCast, ei, hb, Option.bind_some, hin, hw]
    rw [List.drop_eq_getElem_cons hi]
    refine ih (i + 1) f _ (by omega) (by omega) ?_ (flat_each e4)
    rw [flat_len, Nat.pow_succ]
    exact Nat.mul_le_mul e3 (by omega)
theorem mv_l6 (N : Nat) (L : List (List Int)) (hL : L.length ≤ 900) (m : Nat) (hm : m ≤ 900) (hal : ∀ l ∈ L, l.length = m) : ∀ q i f (out : List (List Int)), i + q = L.length → q < f → out.length ≤ i → (∀ l ∈ out, l.length = m) →
    spec_l4Moves_l6 N f (L, out, (i : Int), ()) = some (.inl ((L.drop i).foldl (fun o x => putS (sortI x) o) out, ())) := by
  intro q
  induction q with
  | zero =>
    intro i f out e1 e2 e3 e4
    obtain ⟨f, rfl⟩ : ∃ m, f = m + 1 := ⟨f - 1, by omega⟩
    have e : i = L.length := by omega
    subst e
    rw [List.drop_of_length_le (Nat.le_refl _)]
    show spec_l4Moves_l6_r _ _ _ = _
    unfold spec_l4Moves_l6_r
    simp only [lt_not, Bool.false_eq_true, if_false, List.foldl_nil]
  | succ q ih =>
    intro i f out e1 e2 e3 e4
    obtain ⟨f, rfl⟩ : ∃ m, f = m + 1 := ⟨f - 1, by omega⟩
    have hi : i < L.length := by omega
    have ei : at_ K_Si L i = L[i] := at_get (e := K_Si) hi
    have hli := hal _ (List.getElem_mem hi)
    have hs : G_l4Sorted (L[i], ()) = some (sortI L[i], ()) := by
      unfold G_l4Sorted
      rw [if_pos (decide_eq_true (by show L[i].length ≤ 1000; omega))]
    have hsl : (sortI L[i]).length = m := by rw [sort_len, hli]
    have hp : G_l4Put (out, sortI L[i], ()) = some (putS (sortI L[i]) out, ()) := by
      unfold G_l4Put
      have c1 : decide (out.length ≤ 1000) = true := decide_eq_true (by omega)
      have c2 : okL (sortI L[i]) = true := decide_eq_true (by rw [hsl]; unfold lim; omega)
      have c3 : out.all (fun l => decide (l.length = (sortI L[i]).length)) = true := List.all_eq_true.2 fun l hl => decide_eq_true (by rw [e4 l hl, hsl])
      simp only [c1, c2, c3, Bool.and_self, if_true]
    have hw : IntKind.wrap .i64 ((i : Int) + 1) = ((i + 1 : Nat) : Int) := by
      rw [wrap_in _ (by omega) (by omega)]
      rfl
    show spec_l4Moves_l6_r _ _ _ = _
    unfold spec_l4Moves_l6_r
    simp only [lt_dec hi, if_true, idxIn_nat hi, Int.toNat_natCast, ei, hs, Option.bind_some, hp, hw]
    rw [List.drop_eq_getElem_cons hi, List.foldl_cons]
    have hpl : ∀ l : List (List Int), (putS (sortI L[i]) l).length ≤ l.length + 1 := by
      intro l
      induction l with
      | nil => simp [putS]
      | cons a l ih => unfold putS; split <;> (try split) <;> simp <;> omega
    refine ih (i + 1) f _ (by omega) (by omega) (by have := hpl out; omega) fun l hl => ?_
    rcases putS_mem.1 hl with rfl | hl
    · exact hsl
    · exact e4 l hl
theorem nodes_parts {n : Int} {cops : List Int} (h : nodesB n cops = true) : cops.length ≤ 3 ∧ ∀ c ∈ cops, inB 0 (n - 1) c = true := by
  unfold nodesB at h
  simp only [Bool.and_eq_true, decide_eq_true_eq] at h
  exact ⟨h.1, fun c hc => List.all_eq_true.1 h.2 c hc⟩
theorem l4Moves_lim (d) (r) (h : G_l4Moves d = some r) : ∃ N, F_spec_l4Moves N d = some r := by
  obtain ⟨g, cops, _⟩ := d
  unfold G_l4Moves at h
  split at h
  · rename_i hc
    simp only [Bool.and_eq_true] at hc
    obtain ⟨hG, hc⟩ := hc
    have hG : grB g = true := hG
    obtain ⟨h3, hin⟩ := nodes_parts hc
    obtain ⟨g1, g2, g8, g4⟩ := grB_parts hG
    have h := Option.some.inj h
    subst h
    refine ⟨1000, ?_⟩
    unfold F_spec_l4Moves
    have h0 := mv_l0 1000 (by omega) g hG cops h3 hin cops.length 0 1000 [[]] (by omega) (by omega) (by simp) (by simp)
    simp only [Int.natCast_zero, List.drop_zero] at h0
    have hb8 : ∀ c ∈ cops, (ballF g.1.toNat g.2.1 c).length ≤ 8 := fun c _ => Nat.le_trans (ballF_len _ _ _) g8
    obtain ⟨f1, f2⟩ := chL_facts (ball := ballF g.1.toNat g.2.1) (cs := cops) (now := [[]]) (i := 0) hb8 (by simp)
    have hlen : (chL (ballF g.1.toNat g.2.1) cops [[]]).length ≤ 512 := by
      have : 8 ^ cops.length ≤ 8 ^ 3 := Nat.pow_le_pow_right (by omega) h3
      have e : ([[]] : List (List Int)).length = 1 := rfl
      rw [e] at f1
      omega
    have h6 := mv_l6 1000 (chL (ballF g.1.toNat g.2.1) cops [[]]) (by omega) (0 + cops.length) (by omega) f2 (chL (ballF g.1.toNat g.2.1) cops [[]]).length 0 1000 [] (by omega) (by omega) (by simp) (by simp)
    simp only [Int.natCast_zero, List.drop_zero] at h6
    simp only [h0, Option.bind_some, h6]
    show some (_, ()) = some (movesL (ballF g.1.toNat g.2.1) cops, ())
    unfold movesL
    rw [← puts_comp]
    unfold putsS
    rw [List.foldl_map]
  · cases h
end Go.V.W
set_option linter.unusedVariables false
set_option linter.unusedSimpArgs false
namespace Go.V.W
open Go.Proofs
theorem cm_l4 (N : Nat) (net : Nt) (cop : Int) (list cops : List Int) (n17 i : Int) (moves : List (List Int)) (n23 j : Int) (ball : List Int) (hb : ball.length ≤ 8) (hlen : list.length ≤ 1000) : ∀ q k f (next : List (List Int)), k + q = ball.length → q < f → next.length + q ≤ 1000 →
    impl_net_copMoves_l4 N f (net, cop, next, list, cops, n17, i, moves, n23, j, ball, (ball.length : Int), (k : Int), ()) = some (.inl (net, cop, next ++ (ball.drop k).map (fun x => list ++ [x]), cops, n17, i, moves, n23, j, ())) := by
  intro q
  induction q with
  | zero =>
    intro k f next e1 e2 e3
    obtain ⟨f, rfl⟩ : ∃ m, f = m + 1 := ⟨f - 1, by omega⟩
    have e : k = ball.length := by omega
    subst e
    rw [List.drop_of_length_le (Nat.le_refl _)]
    show impl_net_copMoves_l4_r _ _ _ = _
    unfold impl_net_copMoves_l4_r
    simp only [lt_not, Bool.false_eq_true, if_false, List.map_nil, List.append_nil]
  | succ q ih =>
    intro k f next e1 e2 e3
    obtain ⟨f, rfl⟩ : ∃ m, f = m + 1 := ⟨f - 1, by omega⟩
    have hk : k < ball.length := by omega
    have ek : at_ I ball k = ball[k] := at_get (e := I) hk
    have ht : G_toIntS (list, ()) = some (list, ()) := by
      unfold G_toIntS
      rw [if_pos (show okL list = true from decide_eq_true (by unfold lim; omega))]
    have c1 : decide (list.length + List.length [ball[k]] ≤ lim) = true := by unfold lim; simp; omega
    have c2 : decide (next.length + List.length [list ++ [ball[k]]] ≤ lim) = true := by unfold lim; simp; omega
    show impl_net_copMoves_l4_r _ _ _ = _
    unfold impl_net_copMoves_l4_r
    simp only [lt_dec hk, if_true, idxIn_nat hk, Int.toNat_natCast, ek, ht, Option.bind_some, c1, c2, wrap8 hk hb]
    rw [ih (k + 1) f _ (by omega) (by omega) (by simp; omega), List.drop_eq_getElem_cons hk, List.map_cons, List.append_assoc, List.singleton_append]
theorem cm_l2 (N : Nat) (hN : 10 ≤ N) {l : List Int} (hn : netB l = true) (u : Unit) (c : Nat) (hc : c < l.length) (cops : List Int) (n17 i : Int) (now : List (List Int)) (hnow : now.length ≤ 64) (hle : ∀ l ∈ now, l.length ≤ 1000) : ∀ q j f (next : List (List Int)), j + q = now.length → q < f → next.length + 8 * q ≤ 900 →
    impl_net_copMoves_l2 N f ((l, u), (c : Int), next, cops, n17, i, now, (now.length : Int), (j : Int), ()) = some (.inl ((l, u), next ++ (now.drop j).flatMap (fun l' => (ballM l (c : Int)).map fun x => l' ++ [x]), cops, n17, i, ())) := by
  intro q
  have hb := ballM_len l (c : Int)
  induction q with
  | zero =>
    intro j f next e1 e2 e3
    obtain ⟨f, rfl⟩ : ∃ m, f = m + 1 := ⟨f - 1, by omega⟩
    have e : j = now.length := by omega
    subst e
    rw [List.drop_of_length_le (Nat.le_refl _)]
    show impl_net_copMoves_l2_r _ _ _ = _
    unfold impl_net_copMoves_l2_r
    simp only [lt_not, Bool.false_eq_true, if_false, List.flatMap_nil, List.append_nil]
  | succ q ih =>
    intro j f next e1 e2 e3
    obtain ⟨f, rfl⟩ : ∃ m, f = m + 1 := ⟨f - 1, by omega⟩
    have hj : j < now.length := by omega
    have ej : at_ K_Si now j = now[j] := at_get (e := K_Si) hj
    have hin := cm_l4 N (l, u) (c : Int) now[j] cops n17 i now (now.length : Int) (j : Int) (ballM l (c : Int)) hb (hle _ (List.getElem_mem hj)) (ballM l (c : Int)).length 0 N next (by omega) (by omega) (by omega)
    simp only [Int.natCast_zero, List.drop_zero] at hin
    have hw : IntKind.wrap .i64 ((j : Int) + 1) = ((j + 1 : Nat) : Int) := by
      rw [wrap_in _ (by omega) (by omega)]
      rfl
    show impl_net_copMoves_l2_r _ _ _ = _
    unfold impl_net_copMoves_l2_r
    simp only [lt_dec hj, if_true, idxIn_nat hj, Int.toNat_natCast, ej, closedM hn u hc, setOfM hn hc, Option.bind_some, hin, hw]
    rw [ih (j + 1) f _ (by omega) (by omega) (by simp; omega), List.drop_eq_getElem_cons hj, List.flatMap_cons, List.append_assoc]
theorem cm_l0 (N : Nat) (hN : 100 ≤ N) {l : List Int} (hn : netB l = true) (u : Unit) (cops : List Int) (h3 : cops.length ≤ 3) (hc : ∀ c ∈ cops, inB 0 ((l.length : Int) - 1) c = true) : ∀ q i f (now : List (List Int)), i + q = cops.length → q < f → now.length ≤ 8 ^ i → (∀ l ∈ now, l.length = i) →
    impl_net_copMoves_l0 N f ((l, u), now, cops, (cops.length : Int), (i : Int), ()) = some (.inl (chL (ballM l) (cops.drop i) now, ())) := by
  intro q
  induction q with
  | zero =>
    intro i f now e1 e2 e3 e4
    obtain ⟨f, rfl⟩ : ∃ m, f = m + 1 := ⟨f - 1, by omega⟩
    have e : i = cops.length := by omega
    subst e
    rw [List.drop_of_length_le (Nat.le_refl _)]
    show impl_net_copMoves_l0_r _ _ _ = _
    unfold impl_net_copMoves_l0_r
    simp only [lt_not, Bool.false_eq_true, if_false, chL]
  | succ q ih =>
    intro i f now e1 e2 e3 e4
    obtain ⟨f, rfl⟩ : ∃ m, f = m + 1 := ⟨f - 1, by omega⟩
    have hi : i < cops.length := by omega
    have ei : at_ I cops i = cops[i] := at_get (e := I) hi
    obtain ⟨b1, b2⟩ := inB_len (hc _ (List.getElem_mem hi))
    have hbl := ballM_len l cops[i]
    have h64 : now.length ≤ 64 := by
      have : 8 ^ i ≤ 8 ^ 2 := Nat.pow_le_pow_right (by omega) (by omega)
      omega
    have hin := cm_l2 N (by omega) hn u cops[i].toNat b2 cops (cops.length : Int) (i : Int) now h64 (fun l hl => by rw [e4 l hl]; omega) now.length 0 N [] (by omega) (by omega) (by simp; omega)
    rw [← b1] at hin
    simp only [Int.natCast_zero, List.drop_zero, List.nil_append] at hin
    have hw : IntKind.wrap .i64 ((i : Int) + 1) = ((i + 1 : Nat) : Int) := by
      rw [wrap_in _ (by omega) (by omega)]
      rfl
    show impl_net_copMoves_l0_r _ _ _ = _
    unfold impl_net_copMoves_l0_r
    simp only [lt_dec hi, if_true, idxIn_nat hi, Int.toNat_natCast, ei, hin, Option.bind_some, hw]
    rw [List.drop_eq_getElem_cons hi]
    refine ih (i + 1) f _ (by omega) (by omega) ?_ (flat_each e4)
    rw [flat_len, Nat.pow_succ]
    exact Nat.mul_le_mul e3 hbl
theorem cm_l6 (N : Nat) : ∀ (rest pre : List (List Int)) f, rest.length < f → pre.length + rest.length ≤ 900 → (∀ l ∈ rest, l.length ≤ 900) →
    impl_net_copMoves_l6 N f (pre ++ rest, (), ((pre.length + rest.length : Nat) : Int), (pre.length : Int), ()) = some (.inl (pre ++ rest.map sortI, ())) := by
  intro rest
  induction rest with
  | nil =>
    intro pre f e1 e2 e3
    obtain ⟨f, rfl⟩ : ∃ m, f = m + 1 := ⟨f - 1, by omega⟩
    show impl_net_copMoves_l6_r _ _ _ = _
    unfold impl_net_copMoves_l6_r
    simp only [List.length_nil, Nat.add_zero, lt_not, Bool.false_eq_true, if_false, List.map_nil]
  | cons x rest ih =>
    intro pre f e1 e2 e3
    obtain ⟨f, rfl⟩ : ∃ m, f = m + 1 := ⟨f - 1, by omega⟩
    have e2' : pre.length + (rest.length + 1) ≤ 900 := by simpa using e2
    have hlt : decide ((pre.length : Int) < ((pre.length + (x :: rest).length : Nat) : Int)) = true := decide_eq_true (by simp; omega)
    have hix : idxIn (pre.length : Int) (pre ++ x :: rest).length = true := idxIn_nat (by simp)
    have hs : G_sortI (x, ()) = some (sortI x, ()) := by
      unfold G_sortI
      rw [if_pos (decide_eq_true (by have := e3 x (by simp); unfold lim; show x.length ≤ _; omega))]
    have hw : IntKind.wrap .i64 ((pre.length : Int) + 1) = ((pre.length + 1 : Nat) : Int) := by
      rw [wrap_in _ (by omega) (by omega)]
      rfl
    show impl_net_copMoves_l6_r _ _ _ = _
    unfold impl_net_copMoves_l6_r
    simp only [hlt, hix, if_true, Int.toNat_natCast, at_midS, hs, Option.bind_some, set_midS, hw]
    have := ih (pre ++ [sortI x]) f (by simp at e1; omega) (by simp; omega) (fun l hl => e3 l (by simp [hl]))
    simp only [List.length_append, List.length_singleton, List.append_assoc, List.singleton_append] at this
    rw [show ((pre.length + (x :: rest).length : Nat) : Int) = ((pre.length + 1 + rest.length : Nat) : Int) by simp; omega]
    rw [this, List.map_cons]
theorem copMoves47_lim (d) (r) (h : G_copMoves d = some r) : ∃ N, F_impl_net_copMoves N d = some r := by
  obtain ⟨⟨l, u⟩, cops, _⟩ := d
  unfold G_copMoves at h
  split at h
  · rename_i hc
    simp only [Bool.and_eq_true] at hc
    obtain ⟨hn, hc⟩ := hc
    have hn : netB l = true := hn
    obtain ⟨h3, hin⟩ := nodes_parts hc
    have h := Option.some.inj h
    subst h
    refine ⟨1000, ?_⟩
    unfold F_impl_net_copMoves
    have h0 := cm_l0 1000 (by omega) hn u cops h3 hin cops.length 0 1000 [[]] (by omega) (by omega) (by simp) (by simp)
    simp only [Int.natCast_zero, List.drop_zero] at h0
    obtain ⟨f1, f2⟩ := chL_facts (ball := ballM l) (cs := cops) (now := [[]]) (i := 0) (fun c _ => ballM_len l c) (by simp)
    have hlen : (chL (ballM l) cops [[]]).length ≤ 512 := by
      have : 8 ^ cops.length ≤ 8 ^ 3 := Nat.pow_le_pow_right (by omega) h3
      have e : ([[]] : List (List Int)).length = 1 := rfl
      rw [e] at f1
      omega
    have h6 := cm_l6 1000 (chL (ballM l) cops [[]]) [] 1000 (by omega) (by simp; omega) (fun l hl => by rw [f2 l hl]; omega)
    simp only [List.nil_append, List.length_nil, Nat.zero_add, Int.natCast_zero] at h6
    have hok : okLL ((chL (ballM l) cops [[]]).map sortI) = true := by
      unfold okLL
      rw [Bool.and_eq_true]
      refine ⟨decide_eq_true (by rw [List.length_map]; unfold lim; omega), List.all_eq_true.2 fun y hy => ?_⟩
      obtain ⟨x, hx, rfl⟩ := List.mem_map.1 hy
      exact decide_eq_true (by rw [sort_len, f2 x hx]; unfold lim; omega)
    have hok2 : okLL (sortS ((chL (ballM l) cops [[]]).map sortI)) = true := by
      unfold okLL at hok ⊢
      rw [Bool.and_eq_true] at hok ⊢
      refine ⟨decide_eq_true (by rw [sortS_len]; exact okL_lim hok.1), List.all_eq_true.2 fun y hy => ?_⟩
      exact List.all_eq_true.1 hok.2 y ((sortS_perm _).mem_iff.1 hy)
    simp only [h0, Option.bind_some, h6, G_sortF, hok, if_true, G_compactF, hok2]
    rfl
  · cases h
end Go.V.W
set_option linter.unusedVariables false
set_option linter.unusedSimpArgs false
namespace Go.V.W
open Go.Proofs
theorem less_int (a b : Int) (u : Unit) : g_cmp_Less_int (a, b, u) = (decide (a < b), ()) := by
  unfold g_cmp_Less_int g_cmp_isNaN_int
  simp only [bne_self_eq_false, Bool.false_eq_true, if_false]
theorem isSorted_lim (d) (r) (h : G_isSorted d = some r) : ∃ N, F_slices_IsSorted_Sint_int N d = some r := by
  obtain ⟨l, _⟩ := d
  unfold G_isSorted at h
  split at h
  · rename_i hl
    have hl : l.length ≤ lim := of_decide_eq_true hl
    have hmx := lim_max hl
    have h := Option.some.inj h
    subst h
    refine ⟨l.length + 1, ?_⟩
    unfold F_slices_IsSorted_Sint_int
    have key : ∀ i f, i < f → i < l.length → ∃ o, slices_IsSorted_Sint_int_l0 (l.length + 1) f (l, (i : Int), ()) = some o ∧ ((o = .inl (false, ()) ∧ ¬ ∀ j, 0 < j → j ≤ i → at_ I l (j - 1) ≤ at_ I l j) ∨ (o = .inr (.inl ()) ∧ ∀ j, 0 < j → j ≤ i → at_ I l (j - 1) ≤ at_ I l j)) := by
      intro i
      induction i with
      | zero =>
        intro f e1 e2
        obtain ⟨f, rfl⟩ : ∃ m, f = m + 1 := ⟨f - 1, by omega⟩
        refine ⟨.inr (.inl ()), ?_, .inr ⟨rfl, fun j h1 h2 => by omega⟩⟩
        show slices_IsSorted_Sint_int_l0_r _ _ _ = _
        unfold slices_IsSorted_Sint_int_l0_r
        simp
      | succ i ih =>
        intro f e1 e2
        obtain ⟨f, rfl⟩ : ∃ m, f = m + 1 := ⟨f - 1, by omega⟩
        have hg : decide (((i + 1 : Nat) : Int) > 0) = true := decide_eq_true (by omega)
        have hi' : i < l.length := by omega
        show ∃ o, slices_IsSorted_Sint_int_l0_r _ _ _ = some o ∧ _
        unfold slices_IsSorted_Sint_int_l0_r
        simp only [hg, if_true, idxIn_nat e2, wrap_down (show 0 < i + 1 by omega) (show i + 1 ≤ maxLen by omega), Nat.add_sub_cancel, idxIn_nat hi', Int.toNat_natCast, less_int]
        by_cases hc : at_ I l (i + 1) < at_ I l i
        · simp only [hc, decide_true, if_true]
          refine ⟨_, rfl, .inl ⟨rfl, fun hh => ?_⟩⟩
          have := hh (i + 1) (by omega) (Nat.le_refl _)
          exact absurd hc (Int.not_lt.2 this)
        · simp only [hc, decide_false, Bool.false_eq_true, if_false]
          obtain ⟨o, o1, o2⟩ := ih f (by omega) hi'
          refine ⟨o, o1, ?_⟩
          rcases o2 with ⟨rfl, h2⟩ | ⟨rfl, h2⟩
          · exact .inl ⟨rfl, fun hh => h2 fun j h3 h4 => hh j h3 (by omega)⟩
          · refine .inr ⟨rfl, fun j h3 h4 => ?_⟩
            by_cases e : j = i + 1
            · subst e
              exact Int.not_lt.1 hc
            · exact h2 j h3 (by omega)
    by_cases hz : l.length = 0
    · have : l = [] := List.length_eq_zero_iff.1 hz
      subst this
      rfl
    · have hw : IntKind.wrap .i64 ((l.length : Int) - 1) = ((l.length - 1 : Nat) : Int) := wrap_down (by omega) hmx
      obtain ⟨o, o1, o2⟩ := key (l.length - 1) (l.length + 1) (by omega) (by omega)
      simp only [hw, o1, Option.bind_some]
      rcases o2 with ⟨rfl, h2⟩ | ⟨rfl, h2⟩
      · have : ndB l = false := (Bool.not_eq_true _).mp fun hh => h2 fun j h3 h4 => (ndB_iff l).1 hh j h3 (by omega)
        simp only [this]
      · have : ndB l = true := (ndB_iff l).2 fun j h3 h4 => h2 j h3 (by omega)
        simp only [this]
  · cases h
theorem moves_ok {ball : Int → List Int} {cs : List Int} (h3 : cs.length ≤ 3) (hb : ∀ c ∈ cs, (ball c).length ≤ 8) : okLL (movesL ball cs) = true := by
  obtain ⟨f1, f2⟩ := chL_facts (ball := ball) (cs := cs) (now := [[]]) (i := 0) hb (by simp)
  have hlen : (chL ball cs [[]]).length ≤ 512 := by
    have : 8 ^ cs.length ≤ 8 ^ 3 := Nat.pow_le_pow_right (by omega) h3
    have e : ([[]] : List (List Int)).length = 1 := rfl
    rw [e] at f1
    omega
  have hcl : (movesL ball cs).length ≤ 512 := by
    unfold movesL compL
    rw [List.length_map]
    refine Nat.le_trans (keepI_le _ _) ?_
    rw [sortS_len, List.length_map]
    exact hlen
  unfold okLL
  rw [Bool.and_eq_true]
  refine ⟨decide_eq_true (by unfold lim; omega), List.all_eq_true.2 fun y hy => ?_⟩
  have hy2 := (sortS_perm _).mem_iff.1 ((comp_mem y).1 hy)
  obtain ⟨x, hx, rfl⟩ := List.mem_map.1 hy2
  exact decide_eq_true (by rw [sort_len, f2 x hx]; unfold lim; omega)
/-- The steps of a walk from the place i on. -/
def prevAt (w : List (List Int)) : Nat → Option (List Int)
  | 0 => none
  | i + 1 => some (w.getD i [])
theorem cops_nodes {n : Int} {c : List Int} (h : copsB n c = true) (h3 : c.length ≤ 3) : nodesB n c = true := by
  unfold copsB at h
  rw [Bool.and_eq_true] at h
  unfold nodesB
  rw [Bool.and_eq_true]
  exact ⟨decide_eq_true h3, h.1⟩
theorem l11Walk_lim (d) (r) (h : G_l11Walk d = some r) : ∃ N, F_spec_l11Walk N d = some r := by
  obtain ⟨⟨n, es, v⟩, w, _⟩ := d
  unfold G_l11Walk at h
  split at h
  · rename_i hc
    simp only [Bool.and_eq_true] at hc
    obtain ⟨⟨ho, hw⟩, hg⟩ := hc
    have ho : okL es = true := ho
    have hw : (okL w && w.all okL) = true := hw
    have hg : graphB (n, es, v) = true := hg
    rw [Bool.and_eq_true] at hw
    obtain ⟨n0, n8⟩ := graphB_n hg
    have hG := graph_grB hg ho
    have hwl := okL_lim hw.1
    have hmx := lim_max hwl
    have h := Option.some.inj h
    subst h
    refine ⟨w.length + 1, ?_⟩
    unfold F_spec_l11Walk walkB
    simp only [l1In_eq, hg, Bool.true_and]
    cases h40 : inB 1 40 (w.length : Int) with
    | false => rfl
    | true =>
      have hpos : 0 < w.length := by have := inB_iff.1 h40; omega
      have e0 : at_ K_Si w (0 : Int).toNat = w.headD [] := by
        cases w with
        | nil => simp at hpos
        | cons a w => rfl
      have i0 : idxIn (0 : Int) w.length = true := idxIn_nat hpos
      have hf : F_spec_l4Field 0 ((n, es, v), ((w.headD []).length : Int), ()) = some (decide (n > 0) && inB 1 3 ((w.headD []).length : Int), ()) := by
        unfold F_spec_l4Field G_graph
        simp only [ho, if_true, Option.bind_some, hg, l1In_eq]
        cases decide (n > 0) <;> rfl
      simp only [Bool.not_true, Bool.false_eq_true, if_false, i0, if_true, e0, hf, Option.bind_some, Bool.true_and]
      cases hk : decide (n > 0) && inB 1 3 ((w.headD []).length : Int) with
      | false => simp only [Bool.not_false, if_true, Bool.false_and]
      | true =>
        rw [Bool.and_eq_true] at hk
        have hk3 := inB_iff.1 hk.2
        have key : ∀ q i f, i + q = w.length → q < f → (∀ p, prevAt w i = some p → p.length = (w.headD []).length ∧ copsB n p = true) →
            spec_l11Walk_l0 (w.length + 1) f (w, (n, es, v), (i : Int), ()) = some (if restB (ballF n.toNat es) n (w.headD []).length (prevAt w i) (w.drop i) = true then .inr (.inl ()) else .inl (false, ())) := by
          intro q
          induction q with
          | zero =>
            intro i f e1 e2 e3
            obtain ⟨f, rfl⟩ : ∃ m, f = m + 1 := ⟨f - 1, by omega⟩
            have e : i = w.length := by omega
            subst e
            rw [List.drop_of_length_le (Nat.le_refl _)]
            show spec_l11Walk_l0_r _ _ _ = _
            unfold spec_l11Walk_l0_r
            simp only [lt_not, Bool.false_eq_true, if_false, restB, if_true]
          | succ q ih =>
            intro i f e1 e2 e3
            obtain ⟨f, rfl⟩ : ∃ m, f = m + 1 := ⟨f - 1, by omega⟩
            have hi : i < w.length := by omega
            have ei : at_ K_Si w i = w[i] := at_get (e := K_Si) hi
            have hcp : G_l4Cops ((n, es, v), w[i], ()) = some (copsB n w[i], ()) := by
              unfold G_l4Cops
              have c1 := List.all_eq_true.1 hw.2 w[i] (List.getElem_mem hi)
              have c2 : decide (0 ≤ n) = true := decide_eq_true n0
              have c3 : decide (n ≤ 8) = true := decide_eq_true n8
              simp only [c1, c2, c3, Bool.and_self, if_true]
            have hnext : prevAt w (i + 1) = some w[i] := by simp [prevAt, List.getD_eq_getElem?_getD, hi]
            have hiw : IntKind.wrap .i64 ((i : Int) + 1) = ((i + 1 : Nat) : Int) := wrap_up hi hmx
            show spec_l11Walk_l0_r _ _ _ = _
            unfold spec_l11Walk_l0_r
            rw [List.drop_eq_getElem_cons hi]
            simp only [lt_dec hi, if_true, idxIn_nat hi, i0, Int.toNat_natCast, ei, e0, hcp, Option.bind_some, hiw, pos_dec, restB]
            by_cases hlen : w[i].length = (w.headD []).length
            · skip
              simp only [hlen, bne_self_eq_false, decide_true, Bool.false_eq_true, if_false, Bool.true_and]
              cases hco : copsB n w[i] with
              | false => simp only [Bool.not_false, if_true, Bool.false_and, Bool.false_eq_true, if_false]
              | true =>
                simp only [Bool.not_true, Bool.false_eq_true, if_false, Bool.true_and]
                have hih := ih (i + 1) f (by omega) (by omega) (fun p hp => by
                  rw [hnext] at hp
                  obtain rfl := Option.some.inj hp
                  exact ⟨hlen, hco⟩)
                rw [hnext] at hih
                cases i with
                | zero =>
                  simp only [Nat.lt_irrefl, decide_false, Bool.false_eq_true, if_false, prevAt, Bool.true_and]
                  exact hih
                | succ i =>
                  have hi2 : i < w.length := by omega
                  have ei2 : at_ K_Si w i = w.getD i [] := by rw [at_get (e := K_Si) hi2]; simp [List.getD_eq_getElem?_getD, hi2]
                  obtain ⟨p1, p2⟩ := e3 (w.getD i []) rfl
                  have hnd := cops_nodes p2 (by omega)
                  have hmv : G_l4Moves ((n, es, v), w.getD i [], ()) = some (movesL (ballF n.toNat es) (w.getD i []), ()) := by
                    unfold G_l4Moves
                    simp only [hG, hnd, Bool.and_self, if_true]
                  have hat : G_l4At (movesL (ballF n.toNat es) (w.getD i []), w[i + 1], ()) = some (idxI (idxN (fun y => decide (y = w[i + 1])) (movesL (ballF n.toNat es) (w.getD i [])) 0), ()) := by
                    unfold G_l4At
                    have := moves_ok (ball := ballF n.toNat es) (cs := w.getD i []) (by omega) (fun c _ => Nat.le_trans (ballF_len _ _ _) (by omega))
                    simp only [this, if_true]
                  have hd : IntKind.wrap .i64 (((i + 1 : Nat) : Int) - 1) = (i : Int) := wrap_down (show 0 < i + 1 by omega) (show i + 1 ≤ maxLen by omega)
                  have hge := idxI_ge (fun y => decide (y = w[i + 1])) (movesL (ballF n.toNat es) (w.getD i [])) 0
                  simp only [Nat.succ_pos, decide_true, if_true, hd, idxIn_nat hi2, Int.toNat_natCast, ei2, hmv, Option.bind_some, hat, prevAt]
                  by_cases hany : ((movesL (ballF n.toNat es) (w.getD i [])).any fun y => decide (y = w[i + 1])) = true
                  · rw [hany] at hge
                    have : ¬ idxI (idxN (fun y => decide (y = w[i + 1])) (movesL (ballF n.toNat es) (w.getD i [])) 0) < 0 := Int.not_lt.2 (of_decide_eq_true hge)
                    simp only [this, hany, decide_false, Bool.false_eq_true, if_false, Bool.true_and]
                    exact hih
                  · have hany := Bool.eq_false_iff.2 hany
                    rw [hany] at hge
                    have : idxI (idxN (fun y => decide (y = w[i + 1])) (movesL (ballF n.toNat es) (w.getD i [])) 0) < 0 := Int.not_le.1 (of_decide_eq_false hge)
                    simp only [this, hany, decide_true, if_true, Bool.false_and, Bool.false_eq_true, if_false]
            · have b1 : ((w[i].length : Int) != ((w.headD []).length : Int)) = true := bne_iff_ne.2 (by omega)
              simp only [b1, hlen, decide_false, if_true, Bool.false_and, Bool.false_eq_true, if_false]
        have := key w.length 0 (w.length + 1) (by omega) (by omega) (fun p hp => by cases hp)
        simp only [Int.natCast_zero, List.drop_zero] at this
        have e5 : prevAt w 0 = none := rfl
        rw [e5] at this
        simp only [Bool.not_true, Bool.false_eq_true, if_false, this, Option.bind_some]
        cases hr : restB (ballF n.toNat es) n (w.headD []).length none w <;> simp [hr]
  · cases h
end Go.V.W
set_option linter.unusedVariables false
set_option linter.unusedSimpArgs false
namespace Go.V.W
open Go.Proofs
theorem are_cops {n : Int} {es : List E} {v u : Unit} {l : List Int} (hg : graphB (n, es, v) = true) (ho : okL es = true) (hl : okL l = true) : F_impl_areCops 0 ((n, es, v), l, u) = some (decide (n > 0) && inB 1 3 (l.length : Int) && copsB n l, ()) := by
  unfold F_impl_areCops F_impl_isCopGame G_graph G_isSorted copsB
  simp only [ho, hl, hg, if_true, Option.bind_some, within_eq, has_nodes n es v () l ho hl, Bool.true_and]
  cases decide (n > 0) with
  | false => simp only [Bool.false_eq_true, if_false, Option.bind_some, Bool.false_and]
  | true =>
    simp only [if_true, Option.bind_some, Bool.true_and]
    cases inB 1 3 (l.length : Int) with
    | false => simp only [Bool.false_eq_true, if_false, Bool.false_and]
    | true =>
      simp only [if_true, Bool.true_and]
      cases l.all (inB 0 (n - 1)) with
      | false => simp only [Bool.false_eq_true, if_false, Bool.false_and]
      | true => simp only [if_true, Bool.true_and]
theorem isWalk_lim (d) (r) (h : G_walk d = some r) : ∃ N, F_impl_isWalk N d = some r := by
  obtain ⟨⟨n, es, v⟩, w, _⟩ := d
  unfold G_walk at h
  split at h
  · rename_i hc
    rw [Bool.and_eq_true] at hc
    obtain ⟨ho, hw⟩ := hc
    have ho : okL es = true := ho
    have hw : (okL w && w.all okL) = true := hw
    obtain ⟨hwa, hwb⟩ := (Bool.and_eq_true _ _).mp hw
    have hwl := okL_lim hwa
    have hmx := lim_max hwl
    have h := Option.some.inj h
    subst h
    refine ⟨w.length + 1, ?_⟩
    unfold F_impl_isWalk walkB G_graph
    simp only [ho, if_true, Option.bind_some, within_eq]
    cases hg : graphB (n, es, v) with
    | false => rfl
    | true =>
    obtain ⟨n0, n8⟩ := graphB_n hg
    simp only [Bool.true_and, Bool.not_true, Bool.false_eq_true, if_false]
    cases h40 : inB 1 40 (w.length : Int) with
    | false => rfl
    | true =>
      have hpos : 0 < w.length := by have := inB_iff.1 h40; omega
      have e0 : at_ K_Si w (0 : Int).toNat = w.headD [] := by
        cases w with
        | nil => simp at hpos
        | cons a w => rfl
      have i0 : idxIn (0 : Int) w.length = true := idxIn_nat hpos
      obtain ⟨m, rfl⟩ : ∃ m : Nat, n = (m : Int) := ⟨n.toNat, by omega⟩
      obtain ⟨g1, g2⟩ := graphB_edges hg
      have hm8 : m ≤ 8 := by omega
      have hnet := netB_net hm8 g1
      simp only [net_some hg ho, Option.bind_some, Bool.true_and, Bool.not_true, Bool.false_eq_true, if_false, Int.toNat_natCast]
      cases hk : decide ((m : Int) > 0) && inB 1 3 ((w.headD []).length : Int) with
      | false =>
        have hr : impl_isWalk_l0_r (w.length + 1) (impl_isWalk_l0 (w.length + 1) w.length) (w, ((m : Int), es, v), (toI (netN m es), ()), w, (w.length : Int), (0 : Int), ()) = some (.inl (false, ())) := by
          unfold impl_isWalk_l0_r
          have hlt : decide ((0 : Int) < (w.length : Int)) = true := decide_eq_true (by omega)
          have hh : okL (w.headD []) = true := by
            cases w with
            | nil => simp at hpos
            | cons a w => exact List.all_eq_true.1 hwb a (by simp)
          simp only [hlt, if_true, i0, e0, are_cops (u := ()) hg ho hh, hk, Option.bind_some, Bool.false_and, Bool.not_false]
        have hr2 : impl_isWalk_l0 (w.length + 1) (w.length + 1) (w, ((m : Int), es, v), (toI (netN m es), ()), w, (w.length : Int), (0 : Int), ()) = some (.inl (false, ())) := hr
        rw [hr2]
        rfl
      | true =>
        have hk1 := hk
        simp only [pos_dec] at hk1
        rw [Bool.and_eq_true] at hk
        have hk3 := inB_iff.1 hk.2
        have key : ∀ q i f, i + q = w.length → q < f → (∀ p, prevAt w i = some p → p.length = (w.headD []).length ∧ copsB (m : Int) p = true) →
            impl_isWalk_l0 (w.length + 1) f (w, ((m : Int), es, v), (toI (netN m es), ()), w, (w.length : Int), (i : Int), ()) = some (if restB (ballF m es) (m : Int) (w.headD []).length (prevAt w i) (w.drop i) = true then .inr (.inl ()) else .inl (false, ())) := by
          intro q
          induction q with
          | zero =>
            intro i f e1 e2 e3
            obtain ⟨f, rfl⟩ : ∃ m, f = m + 1 := ⟨f - 1, by omega⟩
            have e : i = w.length := by omega
            subst e
            rw [List.drop_of_length_le (Nat.le_refl _)]
            show impl_isWalk_l0_r _ _ _ = _
            unfold impl_isWalk_l0_r
            simp only [lt_not, Bool.false_eq_true, if_false, restB, if_true]
          | succ q ih =>
            intro i f e1 e2 e3
            obtain ⟨f, rfl⟩ : ∃ m, f = m + 1 := ⟨f - 1, by omega⟩
            have hi : i < w.length := by omega
            have ei : at_ K_Si w i = w[i] := at_get (e := K_Si) hi
            have hcp := are_cops (u := ()) hg ho (List.all_eq_true.1 hwb w[i] (List.getElem_mem hi))
            have hnext : prevAt w (i + 1) = some w[i] := by simp [prevAt, List.getD_eq_getElem?_getD, hi]
            have hiw : IntKind.wrap .i64 ((i : Int) + 1) = ((i + 1 : Nat) : Int) := wrap_up hi hmx
            show impl_isWalk_l0_r _ _ _ = _
            unfold impl_isWalk_l0_r
            rw [List.drop_eq_getElem_cons hi]
            simp only [lt_dec hi, if_true, idxIn_nat hi, i0, Int.toNat_natCast, ei, e0, hcp, Option.bind_some, hiw, pos_dec, restB]
            by_cases hlen : w[i].length = (w.headD []).length
            · simp only [hlen, hk1, bne_self_eq_false, decide_true, Bool.false_eq_true, if_false, Bool.true_and]
              cases hco : copsB (m : Int) w[i] with
              | false => simp only [Bool.not_false, if_true, Bool.false_and, Bool.false_eq_true, if_false]
              | true =>
                simp only [Bool.not_true, Bool.false_eq_true, if_false, Bool.true_and]
                have hih := ih (i + 1) f (by omega) (by omega) (fun p hp => by
                  rw [hnext] at hp
                  obtain rfl := Option.some.inj hp
                  exact ⟨hlen, hco⟩)
                rw [hnext] at hih
                cases i with
                | zero =>
                  simp only [Nat.lt_irrefl, decide_false, Bool.false_eq_true, if_false, prevAt, Bool.true_and]
                  exact hih
                | succ i =>
                  have hi2 : i < w.length := by omega
                  have ei2 : at_ K_Si w i = w.getD i [] := by rw [at_get (e := K_Si) hi2]; simp [List.getD_eq_getElem?_getD, hi2]
                  obtain ⟨p1, p2⟩ := e3 (w.getD i []) rfl
                  have hnd := cops_nodes p2 (by omega)
                  have hsame : movesL (ballM (toI (netN m es))) (w.getD i []) = movesL (ballF m es) (w.getD i []) := moves_congr fun c hcm => by
                    have h1 := p2
                    unfold copsB at h1
                    rw [Bool.and_eq_true] at h1
                    have h2 := inB_iff.1 (List.all_eq_true.1 h1.1 c hcm)
                    obtain ⟨x, rfl⟩ : ∃ x : Nat, c = (x : Int) := ⟨c.toNat, by omega⟩
                    exact ball_same hm8 g1 (by omega)
                  have hmv : G_copMoves ((toI (netN m es), ()), w.getD i [], ()) = some (movesL (ballF m es) (w.getD i []), ()) := by
                    unfold G_copMoves
                    simp only [hnet.1, hnet.2, hnd, Bool.and_self, if_true, hsame]
                  have hat : F_slices_ContainsFunc_SSint_Sint_by_impl_isWalk_1 0 (movesL (ballF m es) (w.getD i []), ((), w[i + 1], ()), ()) = some ((movesL (ballF m es) (w.getD i [])).any fun y => decide (y = w[i + 1]), ()) := by
                    unfold F_slices_ContainsFunc_SSint_Sint_by_impl_isWalk_1 G_idxWalk
                    have := moves_ok (ball := ballF m es) (cs := w.getD i []) (by omega) (fun c _ => Nat.le_trans (ballF_len _ _ _) (by omega))
                    have hge := idxI_ge (fun y => decide (y = w[i + 1])) (movesL (ballF m es) (w.getD i [])) 0
                    simp only [this, if_true, Option.bind_some, ge_iff_le, hge]
                  have hd : IntKind.wrap .i64 (((i + 1 : Nat) : Int) - 1) = (i : Int) := wrap_down (show 0 < i + 1 by omega) (show i + 1 ≤ maxLen by omega)
                  simp only [Nat.succ_pos, decide_true, if_true, hd, idxIn_nat hi2, Int.toNat_natCast, ei2, hmv, Option.bind_some, hat, prevAt]
                  by_cases hany : ((movesL (ballF m es) (w.getD i [])).any fun y => decide (y = w[i + 1])) = true
                  · simp only [hany, Bool.not_true, Bool.false_eq_true, if_false, Bool.true_and]
                    exact hih
                  · have hany := Bool.eq_false_iff.2 hany
                    simp only [hany, Bool.not_false, if_true, Bool.false_and, Bool.false_eq_true, if_false]
            · have b1 : ((w[i].length : Int) != ((w.headD []).length : Int)) = true := bne_iff_ne.2 (by omega)
              simp only [b1, hlen, decide_false, if_true, Bool.false_and, Bool.false_eq_true, if_false, ite_self]
        have := key w.length 0 (w.length + 1) (by omega) (by omega) (fun p hp => by cases hp)
        simp only [Int.natCast_zero, List.drop_zero] at this
        have e5 : prevAt w 0 = none := rfl
        rw [e5] at this
        simp only [this, Option.bind_some, Bool.true_and]
        cases hr : restB (ballF m es) (m : Int) (w.headD []).length none w <;> simp [hr]
  · cases h
end Go.V.W
set_option linter.unusedVariables false
set_option linter.unusedSimpArgs false
namespace Go.V.W
open Go.Proofs
def escS (ball : Int → List Int) (w : List (List Int)) (r : List Int) (i : Nat) : Bool :=
  !hasL (at_ K_Si w i) (at_ I r i) && (!decide (0 < i) || (!hasL (at_ K_Si w i) (at_ I r (i - 1)) && hasL (ball (at_ I r (i - 1))) (at_ I r i)))
def escB (n : Int) (ball : Int → List Int) (w : List (List Int)) (r : List Int) : Bool :=
  decide (r.length = w.length) && allB (fun i => inB 0 (n - 1) (at_ I r i) && escS ball w r i) r.length 0
theorem has1 {S : List Int} {y : Int} (h : okL S = true) (u : Unit) : G_l1Has (S, y, u) = some (hasL S y, ()) := by
  unfold G_l1Has hasL
  simp only [h, if_true]
theorem at_ok {w : List (List Int)} (h : w.all okL = true) {i : Nat} (hi : i < w.length) : okL (at_ K_Si w i) = true := by
  rw [at_get (e := K_Si) hi]
  exact List.all_eq_true.1 h _ (List.getElem_mem hi)
theorem ballL_ok {m : Nat} (hm : m ≤ 8) (es : List E) (z : Int) : okL (ballL m es z) = true := by
  unfold ballL
  refine okL_of (Nat.le_trans (putL_len _ _) ?_)
  have : (setF (fun y => nearI es z (y : Int)) m 0).length ≤ m := setF_len
  omega
theorem spec_esc {m : Nat} {es : List E} {v : Unit} {w : List (List Int)} {r : List Int} (hg : graphB ((m : Int), es, v) = true) (ho : okL es = true) (hw : okLL w = true) (hr : okL r = true) (hb : walkB ((m : Int), es, v) w = true) :
    ∃ N, F_spec_IsEscape N (((m : Int), es, v), w, r, ()) = some (escB (m : Int) (ballL m es) w r, true, ()) := by
  obtain ⟨n0, n8⟩ := graphB_n hg
  have hm : m ≤ 8 := by omega
  obtain ⟨hwa, hwb⟩ := (Bool.and_eq_true _ _).mp hw
  have hwl := okL_lim hwa
  have hrl := okL_lim hr
  have hmx := lim_max hrl
  refine ⟨r.length + 1, ?_⟩
  unfold F_spec_IsEscape G_graph G_l11Walk
  simp only [ho, hw, hg, hb, Bool.and_self, if_true, Option.bind_some, Bool.not_true, Bool.false_eq_true, if_false]
  have hn : ∀ x, g_spec_l2Node (((m : Int), es, v), x, ()) = (inB 0 ((m : Int) - 1) x, ()) := by
    intro x
    unfold g_spec_l2Node
    have hw : IntKind.wrap .i64 ((m : Int) - 1) = (m : Int) - 1 := wrap_in _ (by omega) (by omega)
    simp only [hw, l1In_eq]
  have := loop_all (L := fun k d => spec_IsEscape_l0 (r.length + 1) k d) (r := spec_IsEscape_l0_r (r.length + 1)) (fun _ _ => rfl) (n := min r.length w.length) (mk := fun i => (w, r, ((m : Int), es, v), (i : Int), ())) (p := fun i => inB 0 ((m : Int) - 1) (at_ I r i) && escS (ballL m es) w r i) (o := .inl (false, true, ())) (f := .inr (.inl (w, r, ())))
    (by
      intro back i hi
      have h1 : i < r.length := by omega
      have h2 : i < w.length := by omega
      have k1 := at_ok hwb h2
      unfold spec_IsEscape_l0_r escS
      simp only [lt_dec h1, lt_dec h2, idxIn_nat h1, idxIn_nat h2, if_true, Int.toNat_natCast, hn, has1 k1, Option.bind_some, pos_dec, wrap_up h1 hmx]
      cases inB 0 ((m : Int) - 1) (at_ I r i) with
      | false => rfl
      | true =>
        cases hasL (at_ K_Si w i) (at_ I r i) with
        | true => rfl
        | false =>
          by_cases h0 : 0 < i
          · have h3 : i - 1 < r.length := by omega
            have k2 := has1 (y := at_ I r i) (ballL_ok hm es (at_ I r (i - 1))) ()
            simp only [h0, decide_true, if_true, wrap_down h0 (show i ≤ maxLen by omega), idxIn_nat h3, Int.toNat_natCast, Bool.not_true, Bool.not_false, Bool.false_or, Bool.true_and, Bool.false_eq_true, if_false, ball_eq ((m : Int), es, v) m rfl hm ho, Option.bind_some, k2]
            cases hasL (at_ K_Si w i) (at_ I r (i - 1)) with
            | true => rfl
            | false => cases hasL (ballL m es (at_ I r (i - 1))) (at_ I r i) <;> rfl
          · simp only [h0, decide_false, Bool.not_true, Bool.not_false, Bool.false_eq_true, if_false, if_true, Bool.true_or, Bool.and_self])
    (by
      intro back
      unfold spec_IsEscape_l0_r
      by_cases h : r.length ≤ w.length
      · simp only [Nat.min_eq_left h, lt_not, Bool.false_eq_true, if_false]
      · simp only [Nat.min_eq_right (show w.length ≤ r.length by omega), lt_dec (show w.length < r.length by omega), lt_not, Bool.false_eq_true, if_false, if_true]) r.length 0 (by omega) (by omega)
  simp only [Int.natCast_zero] at this
  simp only [this, Nat.sub_zero, Option.bind_some]
  unfold escB
  by_cases he : r.length = w.length
  · have e1 : min r.length w.length = r.length := by omega
    have e2 : ((r.length : Int) == (w.length : Int)) = true := by rw [he]; exact beq_self_eq_true _
    rw [e1]
    cases hx : allB (fun i => inB 0 ((m : Int) - 1) (at_ I r i) && escS (ballL m es) w r i) r.length 0 <;> simp [he]
  · have e2 : ((r.length : Int) == (w.length : Int)) = false := beq_eq_false_iff_ne.2 (by omega)
    cases hx : allB (fun i => inB 0 ((m : Int) - 1) (at_ I r i) && escS (ballL m es) w r i) (min r.length w.length) 0 <;> simp [e2, he]
end Go.V.W
set_option linter.unusedVariables false
set_option linter.unusedSimpArgs false
namespace Go.V.W
open Go.Proofs
theorem has2 {S : List Int} {y : Int} (h : okL S = true) (u : Unit) : F_slices_Contains_Sint_int 0 (S, y, u) = some (hasL S y, ()) := by
  unfold F_slices_Contains_Sint_int G_index
  have hge := idxI_ge (fun z => y == z) S 0
  simp only [h, if_true, Option.bind_some, ge_iff_le, hge]
  unfold hasL
  have : (fun z => y == z) = fun z : Int => z == y := by
    funext z
    rw [Bool.beq_comm]
  rw [this]
theorem nodeX {m : Nat} {z : Int} (h : inB 0 ((m : Int) - 1) z = true) : ∃ x : Nat, z = (x : Int) ∧ x < m := by
  have := inB_iff.1 h
  exact ⟨z.toNat, by omega, by omega⟩
theorem ball_two {m : Nat} {es : List E} {v : Unit} (hg : graphB ((m : Int), es, v) = true) (ho : okL es = true) {x : Nat} (hx : x < m) : ballL m es (x : Int) = ballF m es (x : Int) := by
  obtain ⟨n0, n8⟩ := graphB_n hg
  have h1 := ball_some (graph_grB hg ho) (x := x) (by simpa using hx)
  rw [ball_eq ((m : Int), es, v) m rfl (by omega) ho] at h1
  have := congrArg Prod.fst (Option.some.inj h1)
  simpa using this
theorem esc_two {m : Nat} {es : List E} {v : Unit} (hg : graphB ((m : Int), es, v) = true) (ho : okL es = true) (w : List (List Int)) (r : List Int) : escB (m : Int) (ballL m es) w r = escB (m : Int) (ballF m es) w r := by
  unfold escB
  congr 1
  apply bool_eq_iff
  rw [allB_iff, allB_iff]
  have key : ∀ (b1 b2 : Int → List Int), (∀ x : Nat, x < m → b1 (x : Int) = b2 (x : Int)) → (∀ j, 0 ≤ j → j < 0 + r.length → (inB 0 ((m : Int) - 1) (at_ I r j) && escS b1 w r j) = true) → (∀ j, 0 ≤ j → j < 0 + r.length → (inB 0 ((m : Int) - 1) (at_ I r j) && escS b2 w r j) = true) := by
    intro b1 b2 hb h j h1 h2
    have h3 := h j h1 h2
    by_cases h0 : 0 < j
    · have h4 := h (j - 1) (by omega) (by omega)
      rw [Bool.and_eq_true] at h4
      obtain ⟨x, hx, hxm⟩ := nodeX h4.1
      have h6 := hb x hxm
      unfold escS at h3 ⊢
      rw [hx] at h3 ⊢
      rw [← h6]
      exact h3
    · unfold escS at h3 ⊢
      simp only [h0, decide_false, Bool.not_false, Bool.true_or] at h3 ⊢
      exact h3
  exact ⟨key _ _ fun x hx => ball_two hg ho hx, key _ _ fun x hx => (ball_two hg ho hx).symm⟩
theorem impl_esc {m : Nat} {es : List E} {v : Unit} {w : List (List Int)} {r : List Int} (hg : graphB ((m : Int), es, v) = true) (ho : okL es = true) (hw : okLL w = true) (hr : okL r = true) (hb : walkB ((m : Int), es, v) w = true) :
    ∃ N, F_impl_IsEscape N (((m : Int), es, v), w, r, ()) = some (escB (m : Int) (ballF m es) w r, true, ()) := by
  obtain ⟨n0, n8⟩ := graphB_n hg
  have hm : m ≤ 8 := by omega
  obtain ⟨hwa, hwb⟩ := (Bool.and_eq_true _ _).mp hw
  have hrl := okL_lim hr
  have hmx := lim_max hrl
  refine ⟨r.length + 1, ?_⟩
  unfold F_impl_IsEscape G_walk G_allWithin
  have hw1 : IntKind.wrap .i64 ((m : Int) - 1) = (m : Int) - 1 := wrap_in _ (by omega) (by omega)
  simp only [ho, hw, hr, hb, Bool.and_self, if_true, Option.bind_some, Bool.not_true, Bool.false_eq_true, if_false, hw1]
  unfold escB
  by_cases he : r.length = w.length
  · have e2 : ((r.length : Int) != (w.length : Int)) = false := by rw [he]; exact bne_self_eq_false _
    simp only [e2, Bool.false_eq_true, if_false]
    simp only [he, decide_true, Bool.true_and]
    cases ha : r.all (inB 0 ((m : Int) - 1)) with
    | false =>
      simp only [Bool.not_false, if_true]
      have : allB (fun i => inB 0 ((m : Int) - 1) (at_ I r i) && escS (ballF m es) w r i) w.length 0 = false := by
        rw [← he]
        refine (Bool.not_eq_true _).mp fun h => ?_
        have h := allB_iff.1 h
        rw [← all_at (e := I) r (inB 0 ((m : Int) - 1))] at ha
        have : allB (fun i => inB 0 ((m : Int) - 1) (at_ I r i)) r.length 0 = true := allB_iff.2 fun j h1 h2 => ((Bool.and_eq_true _ _).mp (h j h1 h2)).1
        rw [this] at ha
        cases ha
      rw [this]
    | true =>
      have hnode : ∀ i, i < r.length → ∃ x : Nat, at_ I r i = (x : Int) ∧ x < m := fun i hi => by
        rw [at_get (e := I) hi]
        exact nodeX (List.all_eq_true.1 ha _ (List.getElem_mem hi))
      simp only [Bool.not_true, Bool.false_eq_true, if_false, net_some hg ho, Option.bind_some]
      have := loop_all (L := fun k d => impl_IsEscape_l0 (r.length + 1) k d) (r := impl_IsEscape_l0_r (r.length + 1)) (fun _ _ => rfl) (n := r.length) (mk := fun i => (w, r, (toI (netN m es), ()), r, (r.length : Int), (i : Int), ())) (p := fun i => inB 0 ((m : Int) - 1) (at_ I r i) && escS (ballF m es) w r i) (o := .inl (false, true, ())) (f := .inr (.inl ()))
        (by
          intro back i hi
          have h2 : i < w.length := by omega
          have k1 := at_ok hwb h2
          obtain ⟨x, hx, hx2⟩ := hnode i hi
          have hin : inB 0 ((m : Int) - 1) (x : Int) = true := inB_iff.2 (by omega)
          unfold impl_IsEscape_l0_r escS
          simp only [lt_dec hi, idxIn_nat hi, idxIn_nat h2, if_true, Int.toNat_natCast, has2 k1, Option.bind_some, pos_dec, wrap_up hi hmx, hx, hin, Bool.true_and, nonneg_dec]
          cases hasL (at_ K_Si w i) (x : Int) with
          | true => rfl
          | false =>
            by_cases h0 : 0 < i
            · have h3 : i - 1 < r.length := by omega
              obtain ⟨c, hc, hc2⟩ := hnode (i - 1) h3
              obtain ⟨k, q1, q2, q3⟩ := closed_bit hg hc2 () ()
              have z := has_bit0 q1 (show x < 8 by omega)
              rw [q3 x hx2] at z
              simp only [h0, decide_true, if_true, wrap_down h0 (show i ≤ maxLen by omega), idxIn_nat h3, Int.toNat_natCast, Bool.not_true, Bool.not_false, Bool.false_or, Bool.true_and, Bool.false_eq_true, if_false, hc, q2, Option.bind_some, z]
              cases hasL (at_ K_Si w i) (c : Int) with
              | true => rfl
              | false => cases hasL (ballF m es (c : Int)) (x : Int) <;> rfl
            · simp only [h0, decide_false, Bool.not_false, Bool.false_eq_true, if_false, if_true, Bool.true_or, Bool.and_self])
        (by intro back; unfold impl_IsEscape_l0_r; simp only [lt_not, Bool.false_eq_true, if_false]) r.length 0 (by omega) (by omega)
      simp only [Int.natCast_zero] at this
      rw [he] at this
      simp only [this, Nat.sub_zero, Option.bind_some]
      cases hx : allB (fun i => inB 0 ((m : Int) - 1) (at_ I r i) && escS (ballF m es) w r i) w.length 0 <;> simp
  · have e2 : ((r.length : Int) != (w.length : Int)) = true := bne_iff_ne.2 (by omega)
    simp only [e2, if_true, he, decide_false, Bool.false_and]
end Go.V.W
set_option linter.unusedVariables false
set_option linter.unusedSimpArgs false
namespace Go.V.W
open Go.Proofs
theorem esc_range {m : Nat} {es : List E} {v : Unit} (w : List (List Int)) (r : List Int) : escB (m : Int) (ballF m es) w r = escG ((m : Int), es, v) w r := by
  unfold escB escG
  by_cases he : r.length = w.length
  · congr 1
    apply bool_eq_iff
    rw [allB_iff, List.all_eq_true]
    have e1 : ∀ i, i < r.length → at_ I r i = r.getD i 0 := fun i hi => by
      rw [at_get (e := I) hi]
      simp [List.getD_eq_getElem?_getD, hi]
    have e2 : ∀ i, i < r.length → at_ K_Si w i = w.getD i [] := fun i hi => by
      have h2 : i < w.length := by omega
      rw [at_get (e := K_Si) h2]
      simp [List.getD_eq_getElem?_getD, h2]
    have e : ∀ i, i < r.length → (inB 0 ((m : Int) - 1) (at_ I r i) && escS (ballF m es) w r i) = (inB 0 ((m : Int) - 1) (r.getD i 0) && (!hasL (w.getD i []) (r.getD i 0) && (!decide (0 < i) || (!hasL (w.getD i []) (r.getD (i - 1) 0) && hasL (ballF m es (r.getD (i - 1) 0)) (r.getD i 0))))) := fun i hi => by
      unfold escS
      rw [e1 i hi, e2 i hi, e1 (i - 1) (by omega)]
    constructor
    · intro h i hi
      have hi := List.mem_range.1 hi
      have := h i (Nat.zero_le _) (by omega)
      rw [e i hi] at this
      exact this
    · intro h i h1 h2
      have hi : i < r.length := by omega
      rw [e i hi]
      exact h i (List.mem_range.2 hi)
  · simp only [he, decide_false, Bool.false_and]
theorem specEsc_lim (d) (r) (h : G_escape d = some r) : ∃ N, F_spec_IsEscape N d = some r := by
  obtain ⟨⟨n, es, v⟩, w, l, _⟩ := d
  unfold G_escape at h
  split at h
  · rename_i hc
    simp only [Bool.and_eq_true] at hc
    obtain ⟨⟨ho, hw⟩, hl⟩ := hc
    have ho : okL es = true := ho
    have hw : okLL w = true := hw
    have hl : okL l = true := hl
    have h := Option.some.inj h
    subst h
    cases hb : walkB (n, es, v) w with
    | false =>
      refine ⟨0, ?_⟩
      unfold F_spec_IsEscape G_graph G_l11Walk
      cases hg : graphB (n, es, v) <;> simp [ho, hw, hg, hb]
    | true =>
      have hg : graphB (n, es, v) = true := by
        cases hg : graphB (n, es, v) with
        | true => rfl
        | false => unfold walkB at hb; simp [hg] at hb
      obtain ⟨n0, n8⟩ := graphB_n hg
      obtain ⟨m, rfl⟩ : ∃ m : Nat, n = (m : Int) := ⟨n.toNat, by omega⟩
      obtain ⟨N, hN⟩ := spec_esc hg ho hw hl hb
      refine ⟨N, ?_⟩
      rw [esc_two hg ho, esc_range (v := v)] at hN
      rw [hN]
      simp [hb]
  · cases h
theorem implEsc_lim (d) (r) (h : G_escape d = some r) : ∃ N, F_impl_IsEscape N d = some r := by
  obtain ⟨⟨n, es, v⟩, w, l, _⟩ := d
  unfold G_escape at h
  split at h
  · rename_i hc
    simp only [Bool.and_eq_true] at hc
    obtain ⟨⟨ho, hw⟩, hl⟩ := hc
    have ho : okL es = true := ho
    have hw : okLL w = true := hw
    have hl : okL l = true := hl
    have h := Option.some.inj h
    subst h
    cases hb : walkB (n, es, v) w with
    | false =>
      refine ⟨0, ?_⟩
      unfold F_impl_IsEscape G_walk
      simp [ho, hw, hb]
    | true =>
      have hg : graphB (n, es, v) = true := by
        cases hg : graphB (n, es, v) with
        | true => rfl
        | false => unfold walkB at hb; simp [hg] at hb
      obtain ⟨n0, n8⟩ := graphB_n hg
      obtain ⟨m, rfl⟩ : ∃ m : Nat, n = (m : Int) := ⟨n.toNat, by omega⟩
      obtain ⟨N, hN⟩ := impl_esc hg ho hw hl hb
      refine ⟨N, ?_⟩
      rw [esc_range (v := v)] at hN
      rw [hN]
      simp [hb]
  · cases h
end Go.V.W
set_option linter.unusedVariables false
set_option linter.unusedSimpArgs false
namespace Go.V.W
open Go.Proofs
theorem law36 : ∀ d, WfD (Kd.tuple ([(K_PiSPiiqq, false), (K_SSi, false), (K_Si, false)].map (·.1))) d → ∃ out, F_laws_FnExactIsEscape 0 d = some out ∧ (splitT [.bool] [] out).1.1 = true := by
  rintro ⟨⟨n, es, v⟩, l, t, w⟩ ⟨⟨_, he, _⟩, hl, ht, _⟩
  have he : es.length ≤ maxLen := he.1
  have hl1 : l.length ≤ maxLen := hl.1
  have hl2 : ∀ x ∈ l, x.length ≤ maxLen := fun x hx => (hl.2 x hx).1
  refine ⟨(true, ()), ?_, rfl⟩
  unfold F_laws_FnExactIsEscape
  by_cases hb : (t.length : Int) > 1048576
  · simp only [hb, decide_true, if_true]
  have hs : okL t = true := okL_of (by omega)
  simp only [hb, decide_false, Bool.false_eq_true, if_false, szGraph_eq n es v 1048576 () (by omega) (by omega) he]
  by_cases h : szStep 1048576 es.length < 0
  · simp only [h, decide_true, if_true]
  · have h1 := szStep_le h
    have o1 : okMx l.length = true := decide_eq_true hl1
    have o2 : l.all (fun x => okMx x.length) = true := List.all_eq_true.2 fun x hx => decide_eq_true (hl2 x hx)
    have o3 : decide (0 ≤ szStep 1048576 es.length) = true := by simp; omega
    have o4 : decide (szStep 1048576 es.length ≤ 1048576) = true := by simp; omega
    simp only [h, decide_false, if_false, Bool.false_eq_true, G_szIntSS, o1, o2, o3, o4, Bool.and_self, if_true, Option.bind_some]
    by_cases h2 : szStep (szStep 1048576 es.length) l.length < 0
    · simp only [h2, if_true]
      rfl
    · have h3 := szStep_le h2
      simp only [h2, if_false]
      by_cases h4 : szFold (szStep (szStep 1048576 es.length) l.length) l < 0
      · simp only [h4, decide_true, if_true]
      · have ho := okL_of (l := es) (by omega)
        have hw := okLL_small (l := l) (by omega) (szFold_le l _ (by omega) (by omega) h4)
        simp only [h4, decide_false, Bool.false_eq_true, if_false, toGraph_eq n es v _ ho, G_escape, G_toIntSS, G_eqIntSS, G_toIntS, G_eqIntS, ho, hs, hw, eqGraph_self n es v v _ ho, Option.bind_some, beq_self_eq_true, Bool.not_true, if_true, decide_true, Bool.and_self]
end Go.V.W
set_option linter.unusedVariables false
set_option linter.unusedSimpArgs false
namespace Go.V.W
/-- What holds of the numbers before each round. -/
structure Inv3 (p n : Nat) (ball : Nat → Int → List Int) (f : Nat → Nat → Nat → Int) : Prop where
  low : ∀ r c q, -1 ≤ f r c q
  home : ∀ r c, f r c c = 0
  away : ∀ r c q, c ≠ q → f r c q ≠ 0
  why : ∀ r c q, r < p → c < n → q < n → 0 ≤ f r c q → c = q ∨ ∃ b ∈ ball r (c : Int), 0 ≤ afterT (ball r) (tabL n (f ((r + 1) % p))) b (q : Int)
theorem Inv3.start (p n : Nat) (ball : Nat → Int → List Int) : Inv3 p n ball start3 := by
  refine ⟨fun r c q => ?_, fun r c => ?_, fun r c q h => ?_, fun r c q _ _ _ h => ?_⟩
  · unfold start3 startF; split <;> omega
  · unfold start3 startF; simp
  · unfold start3 startF; rw [if_neg h]; omega
  · unfold start3 startF at h
    by_cases e : c = q
    · exact .inl e
    · rw [if_neg e] at h; omega
def okBalls (p n : Nat) (ball : Nat → Int → List Int) : Prop := ∀ r, r < p → okBall n (ball r)
/-- Numbers that are there stay. -/
theorem after_mono {n : Nat} {ball : Int → List Int} (hb : okBall n ball) {f g : Nat → Nat → Int} (h : ∀ c q, 0 ≤ f c q → 0 ≤ g c q) {b q : Nat} (hbn : b < n) (hq : q < n) (h0 : 0 ≤ afterT ball (tabL n f) (b : Int) (q : Int)) : 0 ≤ afterT ball (tabL n g) (b : Int) (q : Int) := by
  unfold afterT at h0 ⊢
  by_cases e : (b : Int) = (q : Int)
  · rw [if_pos e]; exact Int.le_refl _
  · rw [if_neg e] at h0 ⊢
    rcases worst_spec (tab2 (tabL n f) (b : Int)) (ball (q : Int)) 0 with ⟨_, h1⟩ | ⟨h1, _, _⟩
    · omega
    · rcases worst_spec (tab2 (tabL n g) (b : Int)) (ball (q : Int)) 0 with ⟨⟨x, hx, h2⟩, _⟩ | ⟨_, h2, _⟩
      · exfalso
        obtain ⟨y, hy, rfl⟩ := hb q hq x hx
        have := (h1 _ hx).1
        rw [tab2_tabL _ hbn hy] at this h2
        have := h _ _ this
        omega
      · exact h2
theorem Inv3.next {p n : Nat} {ball : Nat → Int → List Int} (hb : okBalls p n ball) {t : Int} (ht : 1 ≤ t) {f : Nat → Nat → Nat → Int} (hI : Inv3 p n ball f) : Inv3 p n ball (step3 p n ball t f) := by
  have hkeep : ∀ r c q, 0 ≤ f r c q → step3 p n ball t f r c q = f r c q := fun r c q h => by
    unfold step3 can3
    have : decide (f r c q < 0) = false := by simp; omega
    simp [this]
  have hge : ∀ r c q, 0 ≤ f r c q → 0 ≤ step3 p n ball t f r c q := fun r c q h => by rw [hkeep r c q h]; exact h
  refine ⟨fun r c q => ?_, fun r c => ?_, fun r c q h => ?_, fun r c q hr hc hq h => ?_⟩
  · unfold step3; split
    · omega
    · exact hI.low r c q
  · rw [hkeep r c c (by rw [hI.home]; exact Int.le_refl _)]; exact hI.home r c
  · unfold step3; split
    · omega
    · exact hI.away r c q h
  · have key : (∃ b ∈ ball r (c : Int), 0 ≤ afterT (ball r) (tabL n (f ((r + 1) % p))) b (q : Int)) → ∃ b ∈ ball r (c : Int), 0 ≤ afterT (ball r) (tabL n (step3 p n ball t f ((r + 1) % p))) b (q : Int) := by
      rintro ⟨b, hbm, h1⟩
      obtain ⟨y, hy, rfl⟩ := hb r hr c hc b hbm
      exact ⟨_, hbm, after_mono (hb r hr) (hge _) hy hq h1⟩
    by_cases hf : 0 ≤ f r c q
    · exact (hI.why r c q hr hc hq hf).imp _root_.id key
    · right
      have hcan : can3 p n ball f r c q = true := by
        cases hcan : can3 p n ball f r c q with
        | true => rfl
        | false => unfold step3 at h; rw [if_neg (by rw [hcan]; simp)] at h; exact absurd h hf
      unfold can3 at hcan
      simp only [Bool.and_eq_true, List.any_eq_true, decide_eq_true_eq] at hcan
      exact key hcan.2
end Go.V.W
set_option linter.unusedVariables false
set_option linter.unusedSimpArgs false
namespace Go.V.W
open Go.Proofs
/-- The setting of a round. -/
structure TT (nets : List Nt) (p n : Nat) : Prop where
  ok : netsB n nets = true
  len : nets.length = p
  n8 : n ≤ 8
end Go.V.W
set_option linter.unusedVariables false
set_option linter.unusedSimpArgs false
namespace Go.V.W
open Go.Proofs
structure LogIs (d p : List UInt8) (c : Int) : Prop where
  size : d.length + p.length ≤ 30000
  all : (openL 60 0 (d ++ p)).2 = (d ++ p).length
  durable : (openL 60 0 d).2 = d.length
  count : ((openL 60 0 (d ++ p)).1.length : Int) = c
end Go.V.W
namespace Go.V.W
open Go.Proofs Go.Shelf Go.RowKit
-- import Derived.Shelf.Lays
-- import Derived.Shelf.LaysM
-- import Derived.Test.XvLib3
-- import Derived.Shelf.SortM.Plain
-- import Derived.Shelf.SortM.SortNone
-- import Derived.Shelf.SlSortCmp.NoneTotal
def layg5_ren : Go.Shelf.Ren :=
{
  f := fun x =>
    match x with
    | 5 => 72
    | 8 => 82
    | 7 => 81
    | 19 => 92
    | 20 => 93
    | 10 => 84
    | 11 => 85
    | 12 => 86
    | 13 => 87
    | 14 => 88
    | 15 => 89
    | 16 => 80
    | 17 => 90
    | 18 => 91
    | 30 => 102
    | 31 => 103
    | 32 => 104
    | 33 => 105
    | 34 => 106
    | 35 => 79
    | 40 => 110
    | n => n,
  t := fun x =>
    match x with
    | 23 => 36
    | 25 => 3
    | 3 => 3
    | 32 => 89
    | 22 => 36
    | 0 => 0
    | 44 => 99
    | 46 => 101
    | 4 => 4
    | 36 => 93
    | 35 => 92
    | 41 => 96
    | 5 => 5
    | 9 => 9
    | 53 => 107
    | 57 => 111
    | 63 => 115
    | 64 => 116
    | n => n,
  g := fun x =>
    x }
set_option maxRecDepth 1000000 in
theorem layg5 : Go.Proofs.SlLaysM.n5 Go.Proofs.Try.prog layg5_ren :=
{ mixed := by kernel_rfl,
  f5 := ⟨Go.Proofs.Try.f72.name, of_decide_eq_true (by kernel_rfl), (Go.Proofs.Try.func72).trans (congrArg some (by kernel_rfl))⟩,
  f7 := ⟨Go.Proofs.Try.f81.name, of_decide_eq_true (by kernel_rfl), (Go.Proofs.Try.func81).trans (congrArg some (by kernel_rfl))⟩,
  f8 := (Go.Proofs.Try.func82).trans (congrArg some (by kernel_rfl)),
  f10 := ⟨Go.Proofs.Try.f84.name, of_decide_eq_true (by kernel_rfl), (Go.Proofs.Try.func84).trans (congrArg some (by kernel_rfl))⟩,
  f11 := ⟨Go.Proofs.Try.f85.name, of_decide_eq_true (by kernel_rfl), (Go.Proofs.Try.func85).trans (congrArg some (by kernel_rfl))⟩,
  f12 := ⟨Go.Proofs.Try.f86.name, of_decide_eq_true (by kernel_rfl), (Go.Proofs.Try.func86).trans (congrArg some (by kernel_rfl))⟩,
  f13 := ⟨Go.Proofs.Try.f87.name, of_decide_eq_true (by kernel_rfl), (Go.Proofs.Try.func87).trans (congrArg some (by kernel_rfl))⟩,
  f14 := ⟨Go.Proofs.Try.f88.name, of_decide_eq_true (by kernel_rfl), (Go.Proofs.Try.func88).trans (congrArg some (by kernel_rfl))⟩,
  f15 := ⟨Go.Proofs.Try.f89.name, of_decide_eq_true (by kernel_rfl), (Go.Proofs.Try.func89).trans (congrArg some (by kernel_rfl))⟩,
  f16 := ⟨Go.Proofs.Try.f80.name, of_decide_eq_true (by kernel_rfl), (Go.Proofs.Try.func80).trans (congrArg some (by kernel_rfl))⟩,
  f17 := ⟨Go.Proofs.Try.f90.name, of_decide_eq_true (by kernel_rfl), (Go.Proofs.Try.func90).trans (congrArg some (by kernel_rfl))⟩,
  f18 := ⟨Go.Proofs.Try.f91.name, of_decide_eq_true (by kernel_rfl), (Go.Proofs.Try.func91).trans (congrArg some (by kernel_rfl))⟩,
  f19 := (Go.Proofs.Try.func92).trans (congrArg some (by kernel_rfl)),
  f20 := (Go.Proofs.Try.func93).trans (congrArg some (by kernel_rfl)),
  f30 := ⟨Go.Proofs.Try.f102.name, of_decide_eq_true (by kernel_rfl), (Go.Proofs.Try.func102).trans (congrArg some (by kernel_rfl))⟩,
  f31 := (Go.Proofs.Try.func103).trans (congrArg some (by kernel_rfl)),
  f32 := (Go.Proofs.Try.func104).trans (congrArg some (by kernel_rfl)),
  f33 := ⟨Go.Proofs.Try.f105.name, of_decide_eq_true (by kernel_rfl), (Go.Proofs.Try.func105).trans (congrArg some (by kernel_rfl))⟩,
  f34 := ⟨Go.Proofs.Try.f106.name, of_decide_eq_true (by kernel_rfl), (Go.Proofs.Try.func106).trans (congrArg some (by kernel_rfl))⟩,
  f35 := ⟨Go.Proofs.Try.f79.name, of_decide_eq_true (by kernel_rfl), (Go.Proofs.Try.func79).trans (congrArg some (by kernel_rfl))⟩,
  f40 := ⟨Go.Proofs.Try.f110.name, of_decide_eq_true (by kernel_rfl), (Go.Proofs.Try.func110).trans (congrArg some (by kernel_rfl))⟩,
  t0 := Go.Proofs.Try.underlying0,
  a0 := Go.Proofs.Try.isAgg0,
  z0 := Go.Proofs.Try.sizeOf0,
  v0 := Go.Proofs.Try.zeroValue0,
  t3 := Go.Proofs.Try.underlying3,
  a3 := Go.Proofs.Try.isAgg3,
  z3 := Go.Proofs.Try.sizeOf3,
  v3 := Go.Proofs.Try.zeroValue3,
  t4 := Go.Proofs.Try.underlying4,
  a4 := Go.Proofs.Try.isAgg4,
  z4 := Go.Proofs.Try.sizeOf4,
  v4 := Go.Proofs.Try.zeroValue4,
  t5 := Go.Proofs.Try.underlying5,
  a5 := Go.Proofs.Try.isAgg5,
  z5 := Go.Proofs.Try.sizeOf5,
  v5 := Go.Proofs.Try.zeroValue5,
  t9 := Go.Proofs.Try.underlying9,
  a9 := Go.Proofs.Try.isAgg9,
  z9 := Go.Proofs.Try.sizeOf9,
  v9 := Go.Proofs.Try.zeroValue9,
  t22 := Go.Proofs.Try.underlying36,
  a22 := Go.Proofs.Try.isAgg36,
  z22 := Go.Proofs.Try.sizeOf36,
  v22 := Go.Proofs.Try.zeroValue36,
  t23 := Go.Proofs.Try.underlying36,
  a23 := Go.Proofs.Try.isAgg36,
  z23 := Go.Proofs.Try.sizeOf36,
  v23 := Go.Proofs.Try.zeroValue36,
  t25 := Go.Proofs.Try.underlying3,
  a25 := Go.Proofs.Try.isAgg3,
  z25 := Go.Proofs.Try.sizeOf3,
  v25 := Go.Proofs.Try.zeroValue3,
  t32 := Go.Proofs.Try.underlying89,
  a32 := Go.Proofs.Try.isAgg89,
  z32 := Go.Proofs.Try.sizeOf89,
  v32 := Go.Proofs.Try.zeroValue89,
  t35 := Go.Proofs.Try.underlying92,
  a35 := Go.Proofs.Try.isAgg92,
  z35 := Go.Proofs.Try.sizeOf92,
  v35 := Go.Proofs.Try.zeroValue92,
  t36 := Go.Proofs.Try.underlying93,
  a36 := Go.Proofs.Try.isAgg93,
  z36 := Go.Proofs.Try.sizeOf93,
  v36 := Go.Proofs.Try.zeroValue93,
  t41 := Go.Proofs.Try.underlying96,
  a41 := Go.Proofs.Try.isAgg96,
  z41 := Go.Proofs.Try.sizeOf96,
  v41 := Go.Proofs.Try.zeroValue96,
  t44 := Go.Proofs.Try.underlying99,
  a44 := Go.Proofs.Try.isAgg99,
  z44 := Go.Proofs.Try.sizeOf99,
  v44 := Go.Proofs.Try.zeroValue99,
  t46 := Go.Proofs.Try.underlying101,
  a46 := Go.Proofs.Try.isAgg101,
  z46 := Go.Proofs.Try.sizeOf101,
  v46 := Go.Proofs.Try.zeroValue101,
  t53 := Go.Proofs.Try.underlying107,
  a53 := Go.Proofs.Try.isAgg107,
  z53 := Go.Proofs.Try.sizeOf107,
  v53 := Go.Proofs.Try.zeroValue107,
  t57 := Go.Proofs.Try.underlying111,
  a57 := Go.Proofs.Try.isAgg111,
  z57 := Go.Proofs.Try.sizeOf111,
  v57 := Go.Proofs.Try.zeroValue111,
  t63 := Go.Proofs.Try.underlying115,
  a63 := Go.Proofs.Try.isAgg115,
  z63 := Go.Proofs.Try.sizeOf115,
  v63 := Go.Proofs.Try.zeroValue115,
  t64 := Go.Proofs.Try.underlying116,
  a64 := Go.Proofs.Try.isAgg116,
  z64 := Go.Proofs.Try.sizeOf116,
  v64 := Go.Proofs.Try.zeroValue116 }
def layg6_ren : Go.Shelf.Ren :=
{
  f := fun x =>
    match x with
    | 6 => 73
    | 15 => 82
    | 14 => 83
    | 28 => 92
    | 29 => 93
    | 20 => 94
    | 21 => 95
    | 22 => 96
    | 23 => 97
    | 24 => 98
    | 25 => 99
    | 26 => 100
    | 27 => 101
    | 46 => 107
    | 47 => 103
    | 48 => 104
    | 49 => 108
    | 50 => 109
    | 57 => 111
    | n => n,
  t := fun x =>
    match x with
    | 22 => 25
    | 24 => 36
    | 25 => 63
    | 3 => 3
    | 39 => 89
    | 0 => 0
    | 53 => 99
    | 55 => 101
    | 4 => 4
    | 46 => 93
    | 45 => 92
    | 50 => 96
    | 5 => 5
    | 9 => 9
    | 66 => 107
    | 70 => 111
    | 76 => 115
    | 77 => 116
    | n => n,
  g := fun x =>
    x }
set_option maxRecDepth 1000000 in
theorem layg6 : Go.Proofs.SlLaysF.n6 Go.Proofs.Try.prog layg6_ren :=
{ mixed := by kernel_rfl,
  f6 := ⟨Go.Proofs.Try.f73.name, of_decide_eq_true (by kernel_rfl), (Go.Proofs.Try.func73).trans (congrArg some (by kernel_rfl))⟩,
  f14 := ⟨Go.Proofs.Try.f83.name, of_decide_eq_true (by kernel_rfl), (Go.Proofs.Try.func83).trans (congrArg some (by kernel_rfl))⟩,
  f15 := (Go.Proofs.Try.func82).trans (congrArg some (by kernel_rfl)),
  f20 := ⟨Go.Proofs.Try.f94.name, of_decide_eq_true (by kernel_rfl), (Go.Proofs.Try.func94).trans (congrArg some (by kernel_rfl))⟩,
  f21 := ⟨Go.Proofs.Try.f95.name, of_decide_eq_true (by kernel_rfl), (Go.Proofs.Try.func95).trans (congrArg some (by kernel_rfl))⟩,
  f22 := ⟨Go.Proofs.Try.f96.name, of_decide_eq_true (by kernel_rfl), (Go.Proofs.Try.func96).trans (congrArg some (by kernel_rfl))⟩,
  f23 := ⟨Go.Proofs.Try.f97.name, of_decide_eq_true (by kernel_rfl), (Go.Proofs.Try.func97).trans (congrArg some (by kernel_rfl))⟩,
  f24 := ⟨Go.Proofs.Try.f98.name, of_decide_eq_true (by kernel_rfl), (Go.Proofs.Try.func98).trans (congrArg some (by kernel_rfl))⟩,
  f25 := ⟨Go.Proofs.Try.f99.name, of_decide_eq_true (by kernel_rfl), (Go.Proofs.Try.func99).trans (congrArg some (by kernel_rfl))⟩,
  f26 := ⟨Go.Proofs.Try.f100.name, of_decide_eq_true (by kernel_rfl), (Go.Proofs.Try.func100).trans (congrArg some (by kernel_rfl))⟩,
  f27 := ⟨Go.Proofs.Try.f101.name, of_decide_eq_true (by kernel_rfl), (Go.Proofs.Try.func101).trans (congrArg some (by kernel_rfl))⟩,
  f28 := (Go.Proofs.Try.func92).trans (congrArg some (by kernel_rfl)),
  f29 := (Go.Proofs.Try.func93).trans (congrArg some (by kernel_rfl)),
  f46 := ⟨Go.Proofs.Try.f107.name, of_decide_eq_true (by kernel_rfl), (Go.Proofs.Try.func107).trans (congrArg some (by kernel_rfl))⟩,
  f47 := (Go.Proofs.Try.func103).trans (congrArg some (by kernel_rfl)),
  f48 := (Go.Proofs.Try.func104).trans (congrArg some (by kernel_rfl)),
  f49 := ⟨Go.Proofs.Try.f108.name, of_decide_eq_true (by kernel_rfl), (Go.Proofs.Try.func108).trans (congrArg some (by kernel_rfl))⟩,
  f50 := ⟨Go.Proofs.Try.f109.name, of_decide_eq_true (by kernel_rfl), (Go.Proofs.Try.func109).trans (congrArg some (by kernel_rfl))⟩,
  f57 := ⟨Go.Proofs.Try.f111.name, of_decide_eq_true (by kernel_rfl), (Go.Proofs.Try.func111).trans (congrArg some (by kernel_rfl))⟩,
  t0 := Go.Proofs.Try.underlying0,
  a0 := Go.Proofs.Try.isAgg0,
  z0 := Go.Proofs.Try.sizeOf0,
  v0 := Go.Proofs.Try.zeroValue0,
  t3 := Go.Proofs.Try.underlying3,
  a3 := Go.Proofs.Try.isAgg3,
  z3 := Go.Proofs.Try.sizeOf3,
  v3 := Go.Proofs.Try.zeroValue3,
  t4 := Go.Proofs.Try.underlying4,
  a4 := Go.Proofs.Try.isAgg4,
  z4 := Go.Proofs.Try.sizeOf4,
  v4 := Go.Proofs.Try.zeroValue4,
  t5 := Go.Proofs.Try.underlying5,
  a5 := Go.Proofs.Try.isAgg5,
  z5 := Go.Proofs.Try.sizeOf5,
  v5 := Go.Proofs.Try.zeroValue5,
  t9 := Go.Proofs.Try.underlying9,
  a9 := Go.Proofs.Try.isAgg9,
  z9 := Go.Proofs.Try.sizeOf9,
  v9 := Go.Proofs.Try.zeroValue9,
  t22 := Go.Proofs.Try.underlying25,
  a22 := Go.Proofs.Try.isAgg25,
  z22 := Go.Proofs.Try.sizeOf25,
  v22 := Go.Proofs.Try.zeroValue25,
  a24 := Go.Proofs.Try.isAgg36,
  z24 := Go.Proofs.Try.sizeOf36,
  t25 := Go.Proofs.Try.underlying63,
  a25 := Go.Proofs.Try.isAgg63,
  z25 := Go.Proofs.Try.sizeOf63,
  v25 := Go.Proofs.Try.zeroValue63,
  t39 := Go.Proofs.Try.underlying89,
  a39 := Go.Proofs.Try.isAgg89,
  z39 := Go.Proofs.Try.sizeOf89,
  v39 := Go.Proofs.Try.zeroValue89,
  t45 := Go.Proofs.Try.underlying92,
  a45 := Go.Proofs.Try.isAgg92,
  z45 := Go.Proofs.Try.sizeOf92,
  v45 := Go.Proofs.Try.zeroValue92,
  t46 := Go.Proofs.Try.underlying93,
  a46 := Go.Proofs.Try.isAgg93,
  z46 := Go.Proofs.Try.sizeOf93,
  v46 := Go.Proofs.Try.zeroValue93,
  t50 := Go.Proofs.Try.underlying96,
  a50 := Go.Proofs.Try.isAgg96,
  z50 := Go.Proofs.Try.sizeOf96,
  v50 := Go.Proofs.Try.zeroValue96,
  t53 := Go.Proofs.Try.underlying99,
  a53 := Go.Proofs.Try.isAgg99,
  z53 := Go.Proofs.Try.sizeOf99,
  v53 := Go.Proofs.Try.zeroValue99,
  t55 := Go.Proofs.Try.underlying101,
  a55 := Go.Proofs.Try.isAgg101,
  z55 := Go.Proofs.Try.sizeOf101,
  v55 := Go.Proofs.Try.zeroValue101,
  t66 := Go.Proofs.Try.underlying107,
  a66 := Go.Proofs.Try.isAgg107,
  z66 := Go.Proofs.Try.sizeOf107,
  v66 := Go.Proofs.Try.zeroValue107,
  t70 := Go.Proofs.Try.underlying111,
  a70 := Go.Proofs.Try.isAgg111,
  z70 := Go.Proofs.Try.sizeOf111,
  v70 := Go.Proofs.Try.zeroValue111,
  t76 := Go.Proofs.Try.underlying115,
  a76 := Go.Proofs.Try.isAgg115,
  z76 := Go.Proofs.Try.sizeOf115,
  v76 := Go.Proofs.Try.zeroValue115,
  t77 := Go.Proofs.Try.underlying116,
  a77 := Go.Proofs.Try.isAgg116,
  z77 := Go.Proofs.Try.sizeOf116,
  v77 := Go.Proofs.Try.zeroValue116 }
theorem tab : TabOk Try.prog (assoc tks) (assoc ars) := tab_of (by kernel_rfl)
theorem mixed : Try.prog.follows .mixedOrders = true := by kernel_rfl
theorem C_slices_SortFunc_SSint_Sint_by_slices_Compare_Sint_int : Contract Try.prog 73 S_slices_SortFunc_SSint_Sint_by_slices_Compare_Sint_int :=
  con_sortF (enters_of Try.func73 (by kernel_rfl) rfl) (fun w v1 v2 xs ys h1 h2 l1 l2 => cmpH h1 h2 l1 l2) (fun n enc cf blk off cap w h1 hO hcmp hH hb hs => Any.slices_SortFunc layg6 enc h1 cf hO 44 #[] blk off cap (idA n) w (enters_of Try.func44 (by kernel_rfl) rfl) hcmp hH hb hs) (AnyF.slices_SortFunc_none { layg6 with })
theorem C_slices_Sort_Sint_int : Contract Try.prog 72 S_slices_Sort_Sint_int :=
  con_sortI (enters_of Try.func72 (by kernel_rfl) rfl) (fun blk off cap zs w h1 h2 h3 => AnyM.slices_Sort_int layg5 blk off cap zs w h1 h2 h3) (fun p cap w => AnyM.slices_Sort_int_none layg5 p cap w)
theorem C_laws_szIntA2S_raw (N : Nat) : Contract Try.prog 20 ⟨[(K_SPiiq, false), (I, false)], [I], true, F_laws_szIntA2S N⟩ :=
  have E : Env Try.prog Γ_laws_szIntA2S := env_of tab trivial
  con_of (Pc := []) E rfl mixed Try.func20 (by kernel_rfl) (by kernel_rfl) (by kernel_rfl) (by kernel_rfl) (fun A hA => trivial) (F_laws_szIntA2S_ok N)
theorem C_laws_szIntA2S : Contract Try.prog 20 S_laws_szIntA2S := Contract.less (fun N : Nat => F_laws_szIntA2S N) C_laws_szIntA2S_raw (fun d r h => ⟨0, (F_laws_szIntA2S_tot 0 d).trans h⟩)
theorem C_laws_szGraph_raw (N : Nat) : Contract Try.prog 6 ⟨[(K_PiSPiiqq, false), (I, false)], [I], true, F_laws_szGraph N⟩ :=
  have E : Env Try.prog Γ_laws_szGraph := env_of tab ⟨C_laws_szIntA2S, trivial⟩
  con_of (Pc := []) E rfl mixed Try.func6 (by kernel_rfl) (by kernel_rfl) (by kernel_rfl) (by kernel_rfl) (fun A hA => trivial) (F_laws_szGraph_ok N)
theorem C_laws_szGraph : Contract Try.prog 6 S_laws_szGraph := Contract.less (fun N : Nat => F_laws_szGraph N) C_laws_szGraph_raw (fun d r h => ⟨0, (F_laws_szGraph_tot 0 d).trans h⟩)
theorem C_laws_szIntS_raw (N : Nat) : Contract Try.prog 21 ⟨[(K_Si, false), (I, false)], [I], true, F_laws_szIntS N⟩ :=
  have E : Env Try.prog Γ_laws_szIntS := env_of tab trivial
  con_of (Pc := []) E rfl mixed Try.func21 (by kernel_rfl) (by kernel_rfl) (by kernel_rfl) (by kernel_rfl) (fun A hA => trivial) (F_laws_szIntS_ok N)
theorem C_laws_szIntS : Contract Try.prog 21 S_laws_szIntS := Contract.less (fun N : Nat => F_laws_szIntS N) C_laws_szIntS_raw (fun d r h => ⟨0, (F_laws_szIntS_tot 0 d).trans h⟩)
theorem C_laws_szIntSS_raw (N : Nat) : Contract Try.prog 7 ⟨[(K_SSi, false), (I, false)], [I], true, F_laws_szIntSS N⟩ :=
  have E : Env Try.prog Γ_laws_szIntSS := env_of tab ⟨C_laws_szIntS, trivial⟩
  con_of (Pc := [(0, ⟨laws_szIntSS_l0_h, laws_szIntSS_l0_o, laws_szIntSS_l0 N N⟩)]) E rfl mixed Try.func7 (by kernel_rfl) (by kernel_rfl) (by kernel_rfl) (by kernel_rfl) (fun A hA => ⟨pc_of (inner := []) E mixed hA (by kernel_rfl) (by kernel_rfl) (by kernel_rfl) trivial (fun _ => rfl) (fun m d => (laws_szIntSS_l0_ok N (laws_szIntSS_l0 N m) d).symm) N, trivial⟩) (F_laws_szIntSS_ok N)
theorem C_laws_szIntSS : Contract Try.prog 7 S_laws_szIntSS := Contract.less (fun N : Nat => F_laws_szIntSS N) C_laws_szIntSS_raw szIntSS_lim
theorem C_laws_toIntA2_raw (N : Nat) : Contract Try.prog 42 ⟨[(K_Piiq, false)], [K_Piiq], true, F_laws_toIntA2 N⟩ :=
  have E : Env Try.prog Γ_laws_toIntA2 := env_of tab trivial
  con_of (Pc := [(0, ⟨laws_toIntA2_l0_h, laws_toIntA2_l0_o, laws_toIntA2_l0 N N⟩)]) E rfl mixed Try.func42 (by kernel_rfl) (by kernel_rfl) (by kernel_rfl) (by kernel_rfl) (fun A hA => ⟨pc_of (inner := []) E mixed hA (by kernel_rfl) (by kernel_rfl) (by kernel_rfl) trivial (fun _ => rfl) (fun m d => (laws_toIntA2_l0_ok N (laws_toIntA2_l0 N m) d).symm) N, trivial⟩) (F_laws_toIntA2_ok N)
theorem C_laws_toIntA2 : Contract Try.prog 42 S_laws_toIntA2 := Contract.less (fun N : Nat => F_laws_toIntA2 N) C_laws_toIntA2_raw toIntA2_lim
theorem C_laws_toIntA2S_raw (N : Nat) : Contract Try.prog 24 ⟨[(K_SPiiq, false)], [K_SPiiq], true, F_laws_toIntA2S N⟩ :=
  have E : Env Try.prog Γ_laws_toIntA2S := env_of tab ⟨C_laws_toIntA2, trivial⟩
  con_of (Pc := [(0, ⟨laws_toIntA2S_l0_h, laws_toIntA2S_l0_o, laws_toIntA2S_l0 N N⟩)]) E rfl mixed Try.func24 (by kernel_rfl) (by kernel_rfl) (by kernel_rfl) (by kernel_rfl) (fun A hA => ⟨pc_of (inner := []) E mixed hA (by kernel_rfl) (by kernel_rfl) (by kernel_rfl) trivial (fun _ => rfl) (fun m d => (laws_toIntA2S_l0_ok N (laws_toIntA2S_l0 N m) d).symm) N, trivial⟩) (F_laws_toIntA2S_ok N)
theorem C_laws_toIntA2S : Contract Try.prog 24 S_laws_toIntA2S := Contract.less (fun N : Nat => F_laws_toIntA2S N) C_laws_toIntA2S_raw toIntA2S_lim
theorem C_laws_toGraph_raw (N : Nat) : Contract Try.prog 9 ⟨[(K_PiSPiiqq, false)], [K_PiSPiiqq], true, F_laws_toGraph N⟩ :=
  have E : Env Try.prog Γ_laws_toGraph := env_of tab ⟨C_laws_toIntA2S, trivial⟩
  con_of (Pc := []) E rfl mixed Try.func9 (by kernel_rfl) (by kernel_rfl) (by kernel_rfl) (by kernel_rfl) (fun A hA => trivial) (F_laws_toGraph_ok N)
theorem C_laws_toGraph : Contract Try.prog 9 S_laws_toGraph := C_laws_toGraph_raw 0
theorem C_laws_toIntS_raw (N : Nat) : Contract Try.prog 15 ⟨[(K_Si, false)], [K_Si], true, F_laws_toIntS N⟩ :=
  have E : Env Try.prog Γ_laws_toIntS := env_of tab trivial
  con_of (Pc := [(0, ⟨laws_toIntS_l0_h, laws_toIntS_l0_o, laws_toIntS_l0 N N⟩)]) E rfl mixed Try.func15 (by kernel_rfl) (by kernel_rfl) (by kernel_rfl) (by kernel_rfl) (fun A hA => ⟨pc_of (inner := []) E mixed hA (by kernel_rfl) (by kernel_rfl) (by kernel_rfl) trivial (fun _ => rfl) (fun m d => (laws_toIntS_l0_ok N (laws_toIntS_l0 N m) d).symm) N, trivial⟩) (F_laws_toIntS_ok N)
theorem C_laws_toIntS : Contract Try.prog 15 S_laws_toIntS := Contract.less (fun N : Nat => F_laws_toIntS N) C_laws_toIntS_raw toIntS_lim
theorem C_laws_toIntSS_raw (N : Nat) : Contract Try.prog 10 ⟨[(K_SSi, false)], [K_SSi], true, F_laws_toIntSS N⟩ :=
  have E : Env Try.prog Γ_laws_toIntSS := env_of tab ⟨C_laws_toIntS, trivial⟩
  con_of (Pc := [(0, ⟨laws_toIntSS_l0_h, laws_toIntSS_l0_o, laws_toIntSS_l0 N N⟩)]) E rfl mixed Try.func10 (by kernel_rfl) (by kernel_rfl) (by kernel_rfl) (by kernel_rfl) (fun A hA => ⟨pc_of (inner := []) E mixed hA (by kernel_rfl) (by kernel_rfl) (by kernel_rfl) trivial (fun _ => rfl) (fun m d => (laws_toIntSS_l0_ok N (laws_toIntSS_l0 N m) d).symm) N, trivial⟩) (F_laws_toIntSS_ok N)
theorem C_laws_toIntSS : Contract Try.prog 10 S_laws_toIntSS := Contract.less (fun N : Nat => F_laws_toIntSS N) C_laws_toIntSS_raw toIntSS_lim
theorem C_spec_l1In_raw (N : Nat) : Contract Try.prog 38 ⟨[(I, false), (I, false), (I, false)], [.bool], true, F_spec_l1In N⟩ :=
  have E : Env Try.prog Γ_spec_l1In := env_of tab trivial
  con_of (Pc := []) E rfl mixed Try.func38 (by kernel_rfl) (by kernel_rfl) (by kernel_rfl) (by kernel_rfl) (fun A hA => trivial) (F_spec_l1In_ok N)
theorem C_spec_l1In : Contract Try.prog 38 S_spec_l1In := Contract.less (fun N : Nat => F_spec_l1In N) C_spec_l1In_raw (fun d r h => ⟨0, (F_spec_l1In_tot 0 d).trans h⟩)
theorem C_spec_l2Before_raw (N : Nat) : Contract Try.prog 51 ⟨[(K_Piiq, false), (K_Piiq, false)], [.bool], true, F_spec_l2Before N⟩ :=
  have E : Env Try.prog Γ_spec_l2Before := env_of tab trivial
  con_of (Pc := []) E rfl mixed Try.func51 (by kernel_rfl) (by kernel_rfl) (by kernel_rfl) (by kernel_rfl) (fun A hA => trivial) (F_spec_l2Before_ok N)
theorem C_spec_l2Before : Contract Try.prog 51 S_spec_l2Before := Contract.less (fun N : Nat => F_spec_l2Before N) C_spec_l2Before_raw (fun d r h => ⟨0, (F_spec_l2Before_tot 0 d).trans h⟩)
theorem C_spec_l2Good_raw (N : Nat) : Contract Try.prog 28 ⟨[(K_PiSPiiqq, false)], [.bool], true, F_spec_l2Good N⟩ :=
  have E : Env Try.prog Γ_spec_l2Good := env_of tab ⟨C_spec_l1In, ⟨C_spec_l2Before, trivial⟩⟩
  con_of (Pc := [(0, ⟨spec_l2Good_l0_h, spec_l2Good_l0_o, spec_l2Good_l0 N N⟩)]) E rfl mixed Try.func28 (by kernel_rfl) (by kernel_rfl) (by kernel_rfl) (by kernel_rfl) (fun A hA => ⟨pc_of (inner := []) E mixed hA (by kernel_rfl) (by kernel_rfl) (by kernel_rfl) trivial (fun _ => rfl) (fun m d => (spec_l2Good_l0_ok N (spec_l2Good_l0 N m) d).symm) N, trivial⟩) (F_spec_l2Good_ok N)
theorem C_spec_l2Good : Contract Try.prog 28 S_spec_l2Good := Contract.less (fun N : Nat => F_spec_l2Good N) C_spec_l2Good_raw l2Good_lim
theorem C_spec_l4Field_raw (N : Nat) : Contract Try.prog 22 ⟨[(K_PiSPiiqq, false), (I, false)], [.bool], true, F_spec_l4Field N⟩ :=
  have E : Env Try.prog Γ_spec_l4Field := env_of tab ⟨C_spec_l2Good, ⟨C_spec_l1In, trivial⟩⟩
  con_of (Pc := []) E rfl mixed Try.func22 (by kernel_rfl) (by kernel_rfl) (by kernel_rfl) (by kernel_rfl) (fun A hA => trivial) (F_spec_l4Field_ok N)
theorem C_spec_l4Field : Contract Try.prog 22 S_spec_l4Field := C_spec_l4Field_raw 0
theorem C_spec_l2Node_raw (N : Nat) : Contract Try.prog 29 ⟨[(K_PiSPiiqq, false), (I, false)], [.bool], true, F_spec_l2Node N⟩ :=
  have E : Env Try.prog Γ_spec_l2Node := env_of tab ⟨C_spec_l1In, trivial⟩
  con_of (Pc := []) E rfl mixed Try.func29 (by kernel_rfl) (by kernel_rfl) (by kernel_rfl) (by kernel_rfl) (fun A hA => trivial) (F_spec_l2Node_ok N)
theorem C_spec_l2Node : Contract Try.prog 29 S_spec_l2Node := Contract.less (fun N : Nat => F_spec_l2Node N) C_spec_l2Node_raw (fun d r h => ⟨0, (F_spec_l2Node_tot 0 d).trans h⟩)
theorem C_spec_l4Cops_raw (N : Nat) : Contract Try.prog 39 ⟨[(K_PiSPiiqq, false), (K_Si, false)], [.bool], true, F_spec_l4Cops N⟩ :=
  have E : Env Try.prog Γ_spec_l4Cops := env_of tab ⟨C_spec_l2Node, trivial⟩
  con_of (Pc := [(0, ⟨spec_l4Cops_l0_h, spec_l4Cops_l0_o, spec_l4Cops_l0 N N⟩)]) E rfl mixed Try.func39 (by kernel_rfl) (by kernel_rfl) (by kernel_rfl) (by kernel_rfl) (fun A hA => ⟨pc_of (inner := []) E mixed hA (by kernel_rfl) (by kernel_rfl) (by kernel_rfl) trivial (fun _ => rfl) (fun m d => (spec_l4Cops_l0_ok N (spec_l4Cops_l0 N m) d).symm) N, trivial⟩) (F_spec_l4Cops_ok N)
theorem C_spec_l4Cops : Contract Try.prog 39 S_spec_l4Cops := Contract.less (fun N : Nat => F_spec_l4Cops N) C_spec_l4Cops_raw l4Cops_lim
theorem C_spec_l2Near_raw (N : Nat) : Contract Try.prog 75 ⟨[(K_PiSPiiqq, false), (I, false), (I, false)], [.bool], true, F_spec_l2Near N⟩ :=
  have E : Env Try.prog Γ_spec_l2Near := env_of tab trivial
  con_of (Pc := [(0, ⟨spec_l2Near_l0_h, spec_l2Near_l0_o, spec_l2Near_l0 N N⟩)]) E rfl mixed Try.func75 (by kernel_rfl) (by kernel_rfl) (by kernel_rfl) (by kernel_rfl) (fun A hA => ⟨pc_of (inner := []) E mixed hA (by kernel_rfl) (by kernel_rfl) (by kernel_rfl) trivial (fun _ => rfl) (fun m d => (spec_l2Near_l0_ok N (spec_l2Near_l0 N m) d).symm) N, trivial⟩) (F_spec_l2Near_ok N)
theorem C_spec_l2Near : Contract Try.prog 75 S_spec_l2Near := Contract.less (fun N : Nat => F_spec_l2Near N) C_spec_l2Near_raw l2Near_lim
theorem C_spec_l2Neighbors_raw (N : Nat) : Contract Try.prog 53 ⟨[(K_PiSPiiqq, false), (I, false)], [K_Si], true, F_spec_l2Neighbors N⟩ :=
  have E : Env Try.prog Γ_spec_l2Neighbors := env_of tab ⟨C_spec_l2Near, trivial⟩
  con_of (Pc := [(0, ⟨spec_l2Neighbors_l0_h, spec_l2Neighbors_l0_o, spec_l2Neighbors_l0 N N⟩)]) E rfl mixed Try.func53 (by kernel_rfl) (by kernel_rfl) (by kernel_rfl) (by kernel_rfl) (fun A hA => ⟨pc_of (inner := []) E mixed hA (by kernel_rfl) (by kernel_rfl) (by kernel_rfl) trivial (fun _ => rfl) (fun m d => (spec_l2Neighbors_l0_ok N (spec_l2Neighbors_l0 N m) d).symm) N, trivial⟩) (F_spec_l2Neighbors_ok N)
theorem C_spec_l2Neighbors : Contract Try.prog 53 S_spec_l2Neighbors := Contract.less (fun N : Nat => F_spec_l2Neighbors N) C_spec_l2Neighbors_raw l2Neighbors_lim
theorem C_spec_l1Put_raw (N : Nat) : Contract Try.prog 52 ⟨[(K_Si, false), (I, false)], [K_Si], false, F_spec_l1Put N⟩ :=
  have E : Env Try.prog Γ_spec_l1Put := env_of tab trivial
  con_of (Pc := [(0, ⟨spec_l1Put_l0_h, spec_l1Put_l0_o, spec_l1Put_l0 N N⟩)]) E rfl mixed Try.func52 (by kernel_rfl) (by kernel_rfl) (by kernel_rfl) (by kernel_rfl) (fun A hA => ⟨pc_of (inner := []) E mixed hA (by kernel_rfl) (by kernel_rfl) (by kernel_rfl) trivial (fun _ => rfl) (fun m d => (spec_l1Put_l0_ok N (spec_l1Put_l0 N m) d).symm) N, trivial⟩) (F_spec_l1Put_ok N)
theorem C_spec_l1Put : Contract Try.prog 52 S_spec_l1Put := Contract.less (fun N : Nat => F_spec_l1Put N) C_spec_l1Put_raw l1Put_lim
theorem C_spec_l2Ball_raw (N : Nat) : Contract Try.prog 31 ⟨[(K_PiSPiiqq, false), (I, false)], [K_Si], false, F_spec_l2Ball N⟩ :=
  have E : Env Try.prog Γ_spec_l2Ball := env_of tab ⟨C_spec_l1Put, ⟨C_spec_l2Neighbors, trivial⟩⟩
  con_of (Pc := []) E rfl mixed Try.func31 (by kernel_rfl) (by kernel_rfl) (by kernel_rfl) (by kernel_rfl) (fun A hA => trivial) (F_spec_l2Ball_ok N)
theorem C_spec_l2Ball : Contract Try.prog 31 S_spec_l2Ball := C_spec_l2Ball_raw 0
theorem C_spec_l1Own_raw (N : Nat) : Contract Try.prog 62 ⟨[(K_Si, false)], [K_Si], true, F_spec_l1Own N⟩ :=
  have E : Env Try.prog Γ_spec_l1Own := env_of tab trivial
  con_of (Pc := []) E rfl mixed Try.func62 (by kernel_rfl) (by kernel_rfl) (by kernel_rfl) (by kernel_rfl) (fun A hA => trivial) (F_spec_l1Own_ok N)
theorem C_spec_l1Own : Contract Try.prog 62 S_spec_l1Own := C_spec_l1Own_raw 0
theorem C_spec_l4Sorted_raw (N : Nat) : Contract Try.prog 64 ⟨[(K_Si, false)], [K_Si], false, F_spec_l4Sorted N⟩ :=
  have E : Env Try.prog Γ_spec_l4Sorted := env_ofV tab trivial trivial (fun _ h => by cases h)
  con_of (Pc := [(0, ⟨spec_l4Sorted_l0_h, spec_l4Sorted_l0_o, spec_l4Sorted_l0 N N⟩)]) E rfl mixed Try.func64 (by kernel_rfl) (by kernel_rfl) (by kernel_rfl) (by kernel_rfl) (fun A hA => ⟨pc_of (inner := [(2, ⟨spec_l4Sorted_l2_h, spec_l4Sorted_l2_o, spec_l4Sorted_l2 N N⟩)]) E mixed hA (by kernel_rfl) (by kernel_rfl) (by kernel_rfl) ⟨pc_of (inner := []) E mixed hA (by kernel_rfl) (by kernel_rfl) (by kernel_rfl) trivial (fun _ => rfl) (fun m d => (spec_l4Sorted_l2_ok N (spec_l4Sorted_l2 N m) d).symm) N, trivial⟩ (fun _ => rfl) (fun m d => (spec_l4Sorted_l0_ok N (spec_l4Sorted_l0 N m) d).symm) N, trivial⟩) (F_spec_l4Sorted_ok N)
theorem C_spec_l4Sorted : Contract Try.prog 64 S_spec_l4Sorted := Contract.less (fun N : Nat => F_spec_l4Sorted N) C_spec_l4Sorted_raw l4Sorted_lim
theorem C_spec_l4Less_raw (N : Nat) : Contract Try.prog 78 ⟨[(K_Si, false), (K_Si, false)], [.bool], true, F_spec_l4Less N⟩ :=
  have E : Env Try.prog Γ_spec_l4Less := env_of tab trivial
  con_of (Pc := [(0, ⟨spec_l4Less_l0_h, spec_l4Less_l0_o, spec_l4Less_l0 N N⟩)]) E rfl mixed Try.func78 (by kernel_rfl) (by kernel_rfl) (by kernel_rfl) (by kernel_rfl) (fun A hA => ⟨pc_of (inner := []) E mixed hA (by kernel_rfl) (by kernel_rfl) (by kernel_rfl) trivial (fun _ => rfl) (fun m d => (spec_l4Less_l0_ok N (spec_l4Less_l0 N m) d).symm) N, trivial⟩) (F_spec_l4Less_ok N)
theorem C_spec_l4Less : Contract Try.prog 78 S_spec_l4Less := Contract.less (fun N : Nat => F_spec_l4Less N) C_spec_l4Less_raw l4Less_lim
theorem C_spec_l1Same_raw (N : Nat) : Contract Try.prog 61 ⟨[(K_Si, false), (K_Si, false)], [.bool], true, F_spec_l1Same N⟩ :=
  have E : Env Try.prog Γ_spec_l1Same := env_of tab trivial
  con_of (Pc := [(0, ⟨spec_l1Same_l0_h, spec_l1Same_l0_o, spec_l1Same_l0 N N⟩)]) E rfl mixed Try.func61 (by kernel_rfl) (by kernel_rfl) (by kernel_rfl) (by kernel_rfl) (fun A hA => ⟨pc_of (inner := []) E mixed hA (by kernel_rfl) (by kernel_rfl) (by kernel_rfl) trivial (fun _ => rfl) (fun m d => (spec_l1Same_l0_ok N (spec_l1Same_l0 N m) d).symm) N, trivial⟩) (F_spec_l1Same_ok N)
theorem C_spec_l1Same : Contract Try.prog 61 S_spec_l1Same := Contract.less (fun N : Nat => F_spec_l1Same N) C_spec_l1Same_raw l1Same_lim
theorem C_spec_l4Put_raw (N : Nat) : Contract Try.prog 63 ⟨[(K_SSi, false), (K_Si, false)], [K_SSi], false, F_spec_l4Put N⟩ :=
  have E : Env Try.prog Γ_spec_l4Put := env_of tab ⟨C_spec_l1Same, ⟨C_spec_l4Less, trivial⟩⟩
  con_of (Pc := [(0, ⟨spec_l4Put_l0_h, spec_l4Put_l0_o, spec_l4Put_l0 N N⟩)]) E rfl mixed Try.func63 (by kernel_rfl) (by kernel_rfl) (by kernel_rfl) (by kernel_rfl) (fun A hA => ⟨pc_of (inner := []) E mixed hA (by kernel_rfl) (by kernel_rfl) (by kernel_rfl) trivial (fun _ => rfl) (fun m d => (spec_l4Put_l0_ok N (spec_l4Put_l0 N m) d).symm) N, trivial⟩) (F_spec_l4Put_ok N)
theorem C_spec_l4Put : Contract Try.prog 63 S_spec_l4Put := Contract.less (fun N : Nat => F_spec_l4Put N) C_spec_l4Put_raw l4Put_lim
theorem C_spec_l4Moves_raw (N : Nat) : Contract Try.prog 41 ⟨[(K_PiSPiiqq, false), (K_Si, false)], [K_SSi], false, F_spec_l4Moves N⟩ :=
  have E : Env Try.prog Γ_spec_l4Moves := env_ofV tab ⟨C_spec_l2Ball, ⟨C_spec_l1Own, ⟨C_spec_l4Put, ⟨C_spec_l4Sorted, trivial⟩⟩⟩⟩ trivial (fun _ h => by cases h)
  con_of (Pc := [(0, ⟨spec_l4Moves_l0_h, spec_l4Moves_l0_o, spec_l4Moves_l0 N N⟩), (6, ⟨spec_l4Moves_l6_h, spec_l4Moves_l6_o, spec_l4Moves_l6 N N⟩)]) E rfl mixed Try.func41 (by kernel_rfl) (by kernel_rfl) (by kernel_rfl) (by kernel_rfl) (fun A hA => ⟨pc_of (inner := [(2, ⟨spec_l4Moves_l2_h, spec_l4Moves_l2_o, spec_l4Moves_l2 N N⟩)]) E mixed hA (by kernel_rfl) (by kernel_rfl) (by kernel_rfl) ⟨pc_of (inner := [(4, ⟨spec_l4Moves_l4_h, spec_l4Moves_l4_o, spec_l4Moves_l4 N N⟩)]) E mixed hA (by kernel_rfl) (by kernel_rfl) (by kernel_rfl) ⟨pc_of (inner := []) E mixed hA (by kernel_rfl) (by kernel_rfl) (by kernel_rfl) trivial (fun _ => rfl) (fun m d => (spec_l4Moves_l4_ok N (spec_l4Moves_l4 N m) d).symm) N, trivial⟩ (fun _ => rfl) (fun m d => (spec_l4Moves_l2_ok N (spec_l4Moves_l2 N m) d).symm) N, trivial⟩ (fun _ => rfl) (fun m d => (spec_l4Moves_l0_ok N (spec_l4Moves_l0 N m) d).symm) N, ⟨pc_of (inner := []) E mixed hA (by kernel_rfl) (by kernel_rfl) (by kernel_rfl) trivial (fun _ => rfl) (fun m d => (spec_l4Moves_l6_ok N (spec_l4Moves_l6 N m) d).symm) N, trivial⟩⟩) (F_spec_l4Moves_ok N)
theorem C_spec_l4Moves : Contract Try.prog 41 S_spec_l4Moves := Contract.less (fun N : Nat => F_spec_l4Moves N) C_spec_l4Moves_raw l4Moves_lim
theorem C_spec_l4At_raw (N : Nat) : Contract Try.prog 40 ⟨[(K_SSi, false), (K_Si, false)], [I], true, F_spec_l4At N⟩ :=
  have E : Env Try.prog Γ_spec_l4At := env_of tab ⟨C_spec_l1Same, trivial⟩
  con_of (Pc := [(0, ⟨spec_l4At_l0_h, spec_l4At_l0_o, spec_l4At_l0 N N⟩)]) E rfl mixed Try.func40 (by kernel_rfl) (by kernel_rfl) (by kernel_rfl) (by kernel_rfl) (fun A hA => ⟨pc_of (inner := []) E mixed hA (by kernel_rfl) (by kernel_rfl) (by kernel_rfl) trivial (fun _ => rfl) (fun m d => (spec_l4At_l0_ok N (spec_l4At_l0 N m) d).symm) N, trivial⟩) (F_spec_l4At_ok N)
theorem C_spec_l4At : Contract Try.prog 40 S_spec_l4At := Contract.less (fun N : Nat => F_spec_l4At N) C_spec_l4At_raw l4At_lim
theorem C_spec_l11Walk_raw (N : Nat) : Contract Try.prog 23 ⟨[(K_PiSPiiqq, false), (K_SSi, false)], [.bool], true, F_spec_l11Walk N⟩ :=
  have E : Env Try.prog Γ_spec_l11Walk := env_of tab ⟨C_spec_l4Field, ⟨C_spec_l1In, ⟨C_spec_l4Cops, ⟨C_spec_l4At, ⟨C_spec_l4Moves, trivial⟩⟩⟩⟩⟩
  con_of (Pc := [(0, ⟨spec_l11Walk_l0_h, spec_l11Walk_l0_o, spec_l11Walk_l0 N N⟩)]) E rfl mixed Try.func23 (by kernel_rfl) (by kernel_rfl) (by kernel_rfl) (by kernel_rfl) (fun A hA => ⟨pc_of (inner := []) E mixed hA (by kernel_rfl) (by kernel_rfl) (by kernel_rfl) trivial (fun _ => rfl) (fun m d => (spec_l11Walk_l0_ok N (spec_l11Walk_l0 N m) d).symm) N, trivial⟩) (F_spec_l11Walk_ok N)
theorem C_spec_l11Walk : Contract Try.prog 23 S_spec_l11Walk := Contract.less (fun N : Nat => F_spec_l11Walk N) C_spec_l11Walk_raw l11Walk_lim
theorem C_spec_l1Has_raw (N : Nat) : Contract Try.prog 30 ⟨[(K_Si, false), (I, false)], [.bool], true, F_spec_l1Has N⟩ :=
  have E : Env Try.prog Γ_spec_l1Has := env_of tab trivial
  con_of (Pc := [(0, ⟨spec_l1Has_l0_h, spec_l1Has_l0_o, spec_l1Has_l0 N N⟩)]) E rfl mixed Try.func30 (by kernel_rfl) (by kernel_rfl) (by kernel_rfl) (by kernel_rfl) (fun A hA => ⟨pc_of (inner := []) E mixed hA (by kernel_rfl) (by kernel_rfl) (by kernel_rfl) trivial (fun _ => rfl) (fun m d => (spec_l1Has_l0_ok N (spec_l1Has_l0 N m) d).symm) N, trivial⟩) (F_spec_l1Has_ok N)
theorem C_spec_l1Has : Contract Try.prog 30 S_spec_l1Has := Contract.less (fun N : Nat => F_spec_l1Has N) C_spec_l1Has_raw l1Has_lim
theorem C_spec_IsEscape_raw (N : Nat) : Contract Try.prog 14 ⟨[(K_PiSPiiqq, false), (K_SSi, false), (K_Si, false)], [.bool, .bool], true, F_spec_IsEscape N⟩ :=
  have E : Env Try.prog Γ_spec_IsEscape := env_of tab ⟨C_spec_l11Walk, ⟨C_spec_l2Good, ⟨C_spec_l2Node, ⟨C_spec_l1Has, ⟨C_spec_l2Ball, trivial⟩⟩⟩⟩⟩
  con_of (Pc := [(0, ⟨spec_IsEscape_l0_h, spec_IsEscape_l0_o, spec_IsEscape_l0 N N⟩)]) E rfl mixed Try.func14 (by kernel_rfl) (by kernel_rfl) (by kernel_rfl) (by kernel_rfl) (fun A hA => ⟨pc_of (inner := []) E mixed hA (by kernel_rfl) (by kernel_rfl) (by kernel_rfl) trivial (fun _ => rfl) (fun m d => (spec_IsEscape_l0_ok N (spec_IsEscape_l0 N m) d).symm) N, trivial⟩) (F_spec_IsEscape_ok N)
theorem C_spec_IsEscape : Contract Try.prog 14 S_spec_IsEscape := Contract.less (fun N : Nat => F_spec_IsEscape N) C_spec_IsEscape_raw specEsc_lim
theorem C_impl_within_raw (N : Nat) : Contract Try.prog 43 ⟨[(I, false), (I, false), (I, false)], [.bool], true, F_impl_within N⟩ :=
  have E : Env Try.prog Γ_impl_within := env_of tab trivial
  con_of (Pc := []) E rfl mixed Try.func43 (by kernel_rfl) (by kernel_rfl) (by kernel_rfl) (by kernel_rfl) (fun A hA => trivial) (F_impl_within_ok N)
theorem C_impl_within : Contract Try.prog 43 S_impl_within := Contract.less (fun N : Nat => F_impl_within N) C_impl_within_raw (fun d r h => ⟨0, (F_impl_within_tot 0 d).trans h⟩)
theorem C_cmp_isNaN_int_raw (N : Nat) : Contract Try.prog 79 ⟨[(I, false)], [.bool], true, F_cmp_isNaN_int N⟩ :=
  have E : Env Try.prog Γ_cmp_isNaN_int := env_of tab trivial
  con_of (Pc := []) E rfl mixed Try.func79 (by kernel_rfl) (by kernel_rfl) (by kernel_rfl) (by kernel_rfl) (fun A hA => trivial) (F_cmp_isNaN_int_ok N)
theorem C_cmp_isNaN_int : Contract Try.prog 79 S_cmp_isNaN_int := Contract.less (fun N : Nat => F_cmp_isNaN_int N) C_cmp_isNaN_int_raw (fun d r h => ⟨0, (F_cmp_isNaN_int_tot 0 d).trans h⟩)
theorem C_cmp_Compare_int_raw (N : Nat) : Contract Try.prog 65 ⟨[(I, false), (I, false)], [I], true, F_cmp_Compare_int N⟩ :=
  have E : Env Try.prog Γ_cmp_Compare_int := env_of tab ⟨C_cmp_isNaN_int, trivial⟩
  con_of (Pc := []) E rfl mixed Try.func65 (by kernel_rfl) (by kernel_rfl) (by kernel_rfl) (by kernel_rfl) (fun A hA => trivial) (F_cmp_Compare_int_ok N)
theorem C_cmp_Compare_int : Contract Try.prog 65 S_cmp_Compare_int := Contract.less (fun N : Nat => F_cmp_Compare_int N) C_cmp_Compare_int_raw (fun d r h => ⟨0, (F_cmp_Compare_int_tot 0 d).trans h⟩)
theorem C_slices_Compare_Sint_int_raw (N : Nat) : Contract Try.prog 44 ⟨[(K_Si, false), (K_Si, false)], [I], true, F_slices_Compare_Sint_int N⟩ :=
  have E : Env Try.prog Γ_slices_Compare_Sint_int := env_of tab ⟨C_cmp_Compare_int, trivial⟩
  con_of (Pc := [(0, ⟨slices_Compare_Sint_int_l0_h, slices_Compare_Sint_int_l0_o, slices_Compare_Sint_int_l0 N N⟩)]) E rfl mixed Try.func44 (by kernel_rfl) (by kernel_rfl) (by kernel_rfl) (by kernel_rfl) (fun A hA => ⟨pc_of (inner := []) E mixed hA (by kernel_rfl) (by kernel_rfl) (by kernel_rfl) trivial (fun _ => rfl) (fun m d => (slices_Compare_Sint_int_l0_ok N (slices_Compare_Sint_int_l0 N m) d).symm) N, trivial⟩) (F_slices_Compare_Sint_int_ok N)
theorem C_slices_Compare_Sint_int : Contract Try.prog 44 S_slices_Compare_Sint_int := Contract.less (fun N : Nat => F_slices_Compare_Sint_int N) C_slices_Compare_Sint_int_raw compare_lim
theorem C_impl_IsGraph_raw (N : Nat) : Contract Try.prog 25 ⟨[(K_PiSPiiqq, false)], [.bool], true, F_impl_IsGraph N⟩ :=
  have E : Env Try.prog Γ_impl_IsGraph := env_of tab ⟨C_impl_within, ⟨C_slices_Compare_Sint_int, trivial⟩⟩
  con_of (Pc := [(0, ⟨impl_IsGraph_l0_h, impl_IsGraph_l0_o, impl_IsGraph_l0 N N⟩)]) E rfl mixed Try.func25 (by kernel_rfl) (by kernel_rfl) (by kernel_rfl) (by kernel_rfl) (fun A hA => ⟨pc_of (inner := []) E mixed hA (by kernel_rfl) (by kernel_rfl) (by kernel_rfl) trivial (fun _ => rfl) (fun m d => (impl_IsGraph_l0_ok N (impl_IsGraph_l0 N m) d).symm) N, trivial⟩) (F_impl_IsGraph_ok N)
theorem C_impl_IsGraph : Contract Try.prog 25 S_impl_IsGraph := Contract.less (fun N : Nat => F_impl_IsGraph N) C_impl_IsGraph_raw IsGraph_lim
theorem C_impl_netOf_raw (N : Nat) : Contract Try.prog 33 ⟨[(K_PiSPiiqq, false)], [K_PSiq], true, F_impl_netOf N⟩ :=
  have E : Env Try.prog Γ_impl_netOf := env_of tab trivial
  con_of (Pc := [(0, ⟨impl_netOf_l0_h, impl_netOf_l0_o, impl_netOf_l0 N N⟩)]) E rfl mixed Try.func33 (by kernel_rfl) (by kernel_rfl) (by kernel_rfl) (by kernel_rfl) (fun A hA => ⟨pc_of (inner := []) E mixed hA (by kernel_rfl) (by kernel_rfl) (by kernel_rfl) trivial (fun _ => rfl) (fun m d => (impl_netOf_l0_ok N (impl_netOf_l0 N m) d).symm) N, trivial⟩) (F_impl_netOf_ok N)
theorem C_impl_netOf : Contract Try.prog 33 S_impl_netOf := Contract.less (fun N : Nat => F_impl_netOf N) C_impl_netOf_raw netOf_lim
theorem C_impl_isCopGame_raw (N : Nat) : Contract Try.prog 66 ⟨[(K_PiSPiiqq, false), (I, false)], [.bool], true, F_impl_isCopGame N⟩ :=
  have E : Env Try.prog Γ_impl_isCopGame := env_of tab ⟨C_impl_IsGraph, ⟨C_impl_within, trivial⟩⟩
  con_of (Pc := []) E rfl mixed Try.func66 (by kernel_rfl) (by kernel_rfl) (by kernel_rfl) (by kernel_rfl) (fun A hA => trivial) (F_impl_isCopGame_ok N)
theorem C_impl_isCopGame : Contract Try.prog 66 S_impl_isCopGame := C_impl_isCopGame_raw 0
theorem C_impl_allWithin_raw (N : Nat) : Contract Try.prog 32 ⟨[(K_Si, false), (I, false), (I, false)], [.bool], true, F_impl_allWithin N⟩ :=
  have E : Env Try.prog Γ_impl_allWithin := env_of tab ⟨C_impl_within, trivial⟩
  con_of (Pc := [(0, ⟨impl_allWithin_l0_h, impl_allWithin_l0_o, impl_allWithin_l0 N N⟩)]) E rfl mixed Try.func32 (by kernel_rfl) (by kernel_rfl) (by kernel_rfl) (by kernel_rfl) (fun A hA => ⟨pc_of (inner := []) E mixed hA (by kernel_rfl) (by kernel_rfl) (by kernel_rfl) trivial (fun _ => rfl) (fun m d => (impl_allWithin_l0_ok N (impl_allWithin_l0 N m) d).symm) N, trivial⟩) (F_impl_allWithin_ok N)
theorem C_impl_allWithin : Contract Try.prog 32 S_impl_allWithin := Contract.less (fun N : Nat => F_impl_allWithin N) C_impl_allWithin_raw allWithin_lim
theorem C_impl_hasNodes_raw (N : Nat) : Contract Try.prog 67 ⟨[(K_PiSPiiqq, false), (K_Si, false)], [.bool], true, F_impl_hasNodes N⟩ :=
  have E : Env Try.prog Γ_impl_hasNodes := env_of tab ⟨C_impl_IsGraph, ⟨C_impl_allWithin, trivial⟩⟩
  con_of (Pc := []) E rfl mixed Try.func67 (by kernel_rfl) (by kernel_rfl) (by kernel_rfl) (by kernel_rfl) (fun A hA => trivial) (F_impl_hasNodes_ok N)
theorem C_impl_hasNodes : Contract Try.prog 67 S_impl_hasNodes := C_impl_hasNodes_raw 0
theorem C_cmp_Less_int_raw (N : Nat) : Contract Try.prog 80 ⟨[(I, false), (I, false)], [.bool], true, F_cmp_Less_int N⟩ :=
  have E : Env Try.prog Γ_cmp_Less_int := env_of tab ⟨C_cmp_isNaN_int, trivial⟩
  con_of (Pc := []) E rfl mixed Try.func80 (by kernel_rfl) (by kernel_rfl) (by kernel_rfl) (by kernel_rfl) (fun A hA => trivial) (F_cmp_Less_int_ok N)
theorem C_cmp_Less_int : Contract Try.prog 80 S_cmp_Less_int := Contract.less (fun N : Nat => F_cmp_Less_int N) C_cmp_Less_int_raw (fun d r h => ⟨0, (F_cmp_Less_int_tot 0 d).trans h⟩)
theorem C_slices_IsSorted_Sint_int_raw (N : Nat) : Contract Try.prog 68 ⟨[(K_Si, false)], [.bool], true, F_slices_IsSorted_Sint_int N⟩ :=
  have E : Env Try.prog Γ_slices_IsSorted_Sint_int := env_of tab ⟨C_cmp_Less_int, trivial⟩
  con_of (Pc := [(0, ⟨slices_IsSorted_Sint_int_l0_h, slices_IsSorted_Sint_int_l0_o, slices_IsSorted_Sint_int_l0 N N⟩)]) E rfl mixed Try.func68 (by kernel_rfl) (by kernel_rfl) (by kernel_rfl) (by kernel_rfl) (fun A hA => ⟨pc_of (inner := []) E mixed hA (by kernel_rfl) (by kernel_rfl) (by kernel_rfl) trivial (fun _ => rfl) (fun m d => (slices_IsSorted_Sint_int_l0_ok N (slices_IsSorted_Sint_int_l0 N m) d).symm) N, trivial⟩) (F_slices_IsSorted_Sint_int_ok N)
theorem C_slices_IsSorted_Sint_int : Contract Try.prog 68 S_slices_IsSorted_Sint_int := Contract.less (fun N : Nat => F_slices_IsSorted_Sint_int N) C_slices_IsSorted_Sint_int_raw isSorted_lim
theorem C_impl_areCops_raw (N : Nat) : Contract Try.prog 45 ⟨[(K_PiSPiiqq, false), (K_Si, false)], [.bool], true, F_impl_areCops N⟩ :=
  have E : Env Try.prog Γ_impl_areCops := env_of tab ⟨C_impl_isCopGame, ⟨C_impl_hasNodes, ⟨C_slices_IsSorted_Sint_int, trivial⟩⟩⟩
  con_of (Pc := []) E rfl mixed Try.func45 (by kernel_rfl) (by kernel_rfl) (by kernel_rfl) (by kernel_rfl) (fun A hA => trivial) (F_impl_areCops_ok N)
theorem C_impl_areCops : Contract Try.prog 45 S_impl_areCops := C_impl_areCops_raw 0
theorem C_impl_net_closed_raw (N : Nat) : Contract Try.prog 35 ⟨[(K_PSiq, false), (I, false)], [I], true, F_impl_net_closed N⟩ :=
  have E : Env Try.prog Γ_impl_net_closed := env_of tab trivial
  con_of (Pc := []) E rfl mixed Try.func35 (by kernel_rfl) (by kernel_rfl) (by kernel_rfl) (by kernel_rfl) (fun A hA => trivial) (F_impl_net_closed_ok N)
theorem C_impl_net_closed : Contract Try.prog 35 S_impl_net_closed := C_impl_net_closed_raw 0
theorem C_impl_setOf_raw (N : Nat) : Contract Try.prog 70 ⟨[(I, false)], [K_Si], true, F_impl_setOf N⟩ :=
  have E : Env Try.prog Γ_impl_setOf := env_of tab trivial
  con_of (Pc := [(0, ⟨impl_setOf_l0_h, impl_setOf_l0_o, impl_setOf_l0 N N⟩)]) E rfl mixed Try.func70 (by kernel_rfl) (by kernel_rfl) (by kernel_rfl) (by kernel_rfl) (fun A hA => ⟨pc_of (inner := []) E mixed hA (by kernel_rfl) (by kernel_rfl) (by kernel_rfl) trivial (fun _ => rfl) (fun m d => (impl_setOf_l0_ok N (impl_setOf_l0 N m) d).symm) N, trivial⟩) (F_impl_setOf_ok N)
theorem C_impl_setOf : Contract Try.prog 70 S_impl_setOf := Contract.less (fun N : Nat => F_impl_setOf N) C_impl_setOf_raw setOf_lim
theorem C_slices_Clone_Sint_int_raw (N : Nat) : Contract Try.prog 71 ⟨[(K_Si, false)], [K_Si], true, F_slices_Clone_Sint_int N⟩ :=
  have E : Env Try.prog Γ_slices_Clone_Sint_int := env_of tab trivial
  con_of (Pc := []) E rfl mixed Try.func71 (by kernel_rfl) (by kernel_rfl) (by kernel_rfl) (by kernel_rfl) (fun A hA => trivial) (F_slices_Clone_Sint_int_ok N)
theorem C_slices_Clone_Sint_int : Contract Try.prog 71 S_slices_Clone_Sint_int := Contract.less (fun N : Nat => F_slices_Clone_Sint_int N) C_slices_Clone_Sint_int_raw cloneI_lim
theorem C_slices_Equal_Sint_int_raw (N : Nat) : Contract Try.prog 49 ⟨[(K_Si, false), (K_Si, false)], [.bool], true, F_slices_Equal_Sint_int N⟩ :=
  have E : Env Try.prog Γ_slices_Equal_Sint_int := env_of tab trivial
  con_of (Pc := [(0, ⟨slices_Equal_Sint_int_l0_h, slices_Equal_Sint_int_l0_o, slices_Equal_Sint_int_l0 N N⟩)]) E rfl mixed Try.func49 (by kernel_rfl) (by kernel_rfl) (by kernel_rfl) (by kernel_rfl) (fun A hA => ⟨pc_of (inner := []) E mixed hA (by kernel_rfl) (by kernel_rfl) (by kernel_rfl) trivial (fun _ => rfl) (fun m d => (slices_Equal_Sint_int_l0_ok N (slices_Equal_Sint_int_l0 N m) d).symm) N, trivial⟩) (F_slices_Equal_Sint_int_ok N)
theorem C_slices_Equal_Sint_int : Contract Try.prog 49 S_slices_Equal_Sint_int := Contract.less (fun N : Nat => F_slices_Equal_Sint_int N) C_slices_Equal_Sint_int_raw equalI_lim
theorem C_slices_CompactFunc_SSint_Sint_by_slices_Equal_Sint_int : ContractG Try.prog 74 (S_slices_CompactFunc_SSint_Sint_by_slices_Equal_Sint_int, { gone := [0], deep := [] }) := con_compactF (enters_of Try.func74 (by kernel_rfl) rfl) (fun w v1 v2 xs ys h1 h2 l1 l2 => eqH h1 h2 l1 l2) compact74 compact74_small
theorem C_impl_net_copMoves_raw (N : Nat) : Contract Try.prog 47 ⟨[(K_PSiq, false), (K_Si, false)], [K_SSi], true, F_impl_net_copMoves N⟩ :=
  have E : Env Try.prog Γ_impl_net_copMoves := env_ofG tab ⟨C_impl_net_closed, ⟨C_impl_setOf, ⟨C_slices_Clone_Sint_int, ⟨C_slices_Sort_Sint_int, ⟨C_slices_SortFunc_SSint_Sint_by_slices_Compare_Sint_int, trivial⟩⟩⟩⟩⟩ trivial (fun _ h => by cases h) ⟨C_slices_CompactFunc_SSint_Sint_by_slices_Equal_Sint_int, trivial⟩ (by kernel_rfl)
  con_of (Pc := [(0, ⟨impl_net_copMoves_l0_h, impl_net_copMoves_l0_o, impl_net_copMoves_l0 N N⟩), (6, ⟨impl_net_copMoves_l6_h, impl_net_copMoves_l6_o, impl_net_copMoves_l6 N N⟩)]) E rfl mixed Try.func47 (by kernel_rfl) (by kernel_rfl) (by kernel_rfl) (by kernel_rfl) (fun A hA => ⟨pc_of (inner := [(2, ⟨impl_net_copMoves_l2_h, impl_net_copMoves_l2_o, impl_net_copMoves_l2 N N⟩)]) E mixed hA (by kernel_rfl) (by kernel_rfl) (by kernel_rfl) ⟨pc_of (inner := [(4, ⟨impl_net_copMoves_l4_h, impl_net_copMoves_l4_o, impl_net_copMoves_l4 N N⟩)]) E mixed hA (by kernel_rfl) (by kernel_rfl) (by kernel_rfl) ⟨pc_of (inner := []) E mixed hA (by kernel_rfl) (by kernel_rfl) (by kernel_rfl) trivial (fun _ => rfl) (fun m d => (impl_net_copMoves_l4_ok N (impl_net_copMoves_l4 N m) d).symm) N, trivial⟩ (fun _ => rfl) (fun m d => (impl_net_copMoves_l2_ok N (impl_net_copMoves_l2 N m) d).symm) N, trivial⟩ (fun _ => rfl) (fun m d => (impl_net_copMoves_l0_ok N (impl_net_copMoves_l0 N m) d).symm) N, ⟨pc_of (inner := []) E mixed hA (by kernel_rfl) (by kernel_rfl) (by kernel_rfl) trivial (fun _ => rfl) (fun m d => (impl_net_copMoves_l6_ok N (impl_net_copMoves_l6 N m) d).symm) N, trivial⟩⟩) (F_impl_net_copMoves_ok N)
theorem C_impl_net_copMoves : Contract Try.prog 47 S_impl_net_copMoves := Contract.less (fun N : Nat => F_impl_net_copMoves N) C_impl_net_copMoves_raw copMoves47_lim
theorem C_impl_isWalk_1_raw (N : Nat) : Contract Try.prog 48 ⟨[(K_Si, false), (K_BSi, false)], [.bool], true, F_impl_isWalk_1 N⟩ :=
  have E : Env Try.prog Γ_impl_isWalk_1 := env_of tab ⟨C_slices_Equal_Sint_int, trivial⟩
  con_of (Pc := []) E rfl mixed Try.func48 (by kernel_rfl) (by kernel_rfl) (by kernel_rfl) (by kernel_rfl) (fun A hA => trivial) (F_impl_isWalk_1_ok N)
theorem C_impl_isWalk_1 : Contract Try.prog 48 S_impl_isWalk_1 := C_impl_isWalk_1_raw 0
theorem CV_impl_isWalk_1 : ContractV Try.prog SV_impl_isWalk_1 := conV_0_1_1 C_impl_isWalk_1
theorem C_slices_IndexFunc_SSint_Sint_by_impl_isWalk_1_raw (N : Nat) : Contract Try.prog 69 ⟨[(K_SSi, false), (K_F_impl_isWalk_1_qPBSiq, false)], [I], true, F_slices_IndexFunc_SSint_Sint_by_impl_isWalk_1 N⟩ :=
  have E : Env Try.prog Γ_slices_IndexFunc_SSint_Sint_by_impl_isWalk_1 := env_ofV tab trivial ⟨CV_impl_isWalk_1, trivial⟩ (fun _ h => by cases h)
  con_of (Pc := [(0, ⟨slices_IndexFunc_SSint_Sint_by_impl_isWalk_1_l0_h, slices_IndexFunc_SSint_Sint_by_impl_isWalk_1_l0_o, slices_IndexFunc_SSint_Sint_by_impl_isWalk_1_l0 N N⟩)]) E rfl mixed Try.func69 (by kernel_rfl) (by kernel_rfl) (by kernel_rfl) (by kernel_rfl) (fun A hA => ⟨pc_of (inner := []) E mixed hA (by kernel_rfl) (by kernel_rfl) (by kernel_rfl) trivial (fun _ => rfl) (fun m d => (slices_IndexFunc_SSint_Sint_by_impl_isWalk_1_l0_ok N (slices_IndexFunc_SSint_Sint_by_impl_isWalk_1_l0 N m) d).symm) N, trivial⟩) (F_slices_IndexFunc_SSint_Sint_by_impl_isWalk_1_ok N)
theorem C_slices_IndexFunc_SSint_Sint_by_impl_isWalk_1 : Contract Try.prog 69 S_slices_IndexFunc_SSint_Sint_by_impl_isWalk_1 := Contract.less (fun N : Nat => F_slices_IndexFunc_SSint_Sint_by_impl_isWalk_1 N) C_slices_IndexFunc_SSint_Sint_by_impl_isWalk_1_raw idxWalk_lim
theorem C_slices_ContainsFunc_SSint_Sint_by_impl_isWalk_1_raw (N : Nat) : Contract Try.prog 46 ⟨[(K_SSi, false), (K_F_impl_isWalk_1_qPBSiq, false)], [.bool], true, F_slices_ContainsFunc_SSint_Sint_by_impl_isWalk_1 N⟩ :=
  have E : Env Try.prog Γ_slices_ContainsFunc_SSint_Sint_by_impl_isWalk_1 := env_of tab ⟨C_slices_IndexFunc_SSint_Sint_by_impl_isWalk_1, trivial⟩
  con_of (Pc := []) E rfl mixed Try.func46 (by kernel_rfl) (by kernel_rfl) (by kernel_rfl) (by kernel_rfl) (fun A hA => trivial) (F_slices_ContainsFunc_SSint_Sint_by_impl_isWalk_1_ok N)
theorem C_slices_ContainsFunc_SSint_Sint_by_impl_isWalk_1 : Contract Try.prog 46 S_slices_ContainsFunc_SSint_Sint_by_impl_isWalk_1 := C_slices_ContainsFunc_SSint_Sint_by_impl_isWalk_1_raw 0
theorem C_impl_isWalk_raw (N : Nat) : Contract Try.prog 26 ⟨[(K_PiSPiiqq, false), (K_SSi, false)], [.bool], true, F_impl_isWalk N⟩ :=
  have E : Env Try.prog Γ_impl_isWalk := env_ofV tab ⟨C_impl_IsGraph, ⟨C_impl_netOf, ⟨C_impl_within, ⟨C_impl_areCops, ⟨C_slices_ContainsFunc_SSint_Sint_by_impl_isWalk_1, ⟨C_impl_net_copMoves, trivial⟩⟩⟩⟩⟩⟩ trivial (fun _ h => by cases h)
  con_of (Pc := [(0, ⟨impl_isWalk_l0_h, impl_isWalk_l0_o, impl_isWalk_l0 N N⟩)]) E rfl mixed Try.func26 (by kernel_rfl) (by kernel_rfl) (by kernel_rfl) (by kernel_rfl) (fun A hA => ⟨pc_of (inner := []) E mixed hA (by kernel_rfl) (by kernel_rfl) (by kernel_rfl) trivial (fun _ => rfl) (fun m d => (impl_isWalk_l0_ok N (impl_isWalk_l0 N m) d).symm) N, trivial⟩) (F_impl_isWalk_ok N)
theorem C_impl_isWalk : Contract Try.prog 26 S_impl_isWalk := Contract.less (fun N : Nat => F_impl_isWalk N) C_impl_isWalk_raw isWalk_lim
theorem C_slices_Index_Sint_int_raw (N : Nat) : Contract Try.prog 54 ⟨[(K_Si, false), (I, false)], [I], true, F_slices_Index_Sint_int N⟩ :=
  have E : Env Try.prog Γ_slices_Index_Sint_int := env_of tab trivial
  con_of (Pc := [(0, ⟨slices_Index_Sint_int_l0_h, slices_Index_Sint_int_l0_o, slices_Index_Sint_int_l0 N N⟩)]) E rfl mixed Try.func54 (by kernel_rfl) (by kernel_rfl) (by kernel_rfl) (by kernel_rfl) (fun A hA => ⟨pc_of (inner := []) E mixed hA (by kernel_rfl) (by kernel_rfl) (by kernel_rfl) trivial (fun _ => rfl) (fun m d => (slices_Index_Sint_int_l0_ok N (slices_Index_Sint_int_l0 N m) d).symm) N, trivial⟩) (F_slices_Index_Sint_int_ok N)
theorem C_slices_Index_Sint_int : Contract Try.prog 54 S_slices_Index_Sint_int := Contract.less (fun N : Nat => F_slices_Index_Sint_int N) C_slices_Index_Sint_int_raw index_lim
theorem C_slices_Contains_Sint_int_raw (N : Nat) : Contract Try.prog 34 ⟨[(K_Si, false), (I, false)], [.bool], true, F_slices_Contains_Sint_int N⟩ :=
  have E : Env Try.prog Γ_slices_Contains_Sint_int := env_of tab ⟨C_slices_Index_Sint_int, trivial⟩
  con_of (Pc := []) E rfl mixed Try.func34 (by kernel_rfl) (by kernel_rfl) (by kernel_rfl) (by kernel_rfl) (fun A hA => trivial) (F_slices_Contains_Sint_int_ok N)
theorem C_slices_Contains_Sint_int : Contract Try.prog 34 S_slices_Contains_Sint_int := C_slices_Contains_Sint_int_raw 0
theorem C_impl_IsEscape_raw (N : Nat) : Contract Try.prog 16 ⟨[(K_PiSPiiqq, false), (K_SSi, false), (K_Si, false)], [.bool, .bool], true, F_impl_IsEscape N⟩ :=
  have E : Env Try.prog Γ_impl_IsEscape := env_of tab ⟨C_impl_isWalk, ⟨C_impl_allWithin, ⟨C_impl_netOf, ⟨C_slices_Contains_Sint_int, ⟨C_impl_net_closed, trivial⟩⟩⟩⟩⟩
  con_of (Pc := [(0, ⟨impl_IsEscape_l0_h, impl_IsEscape_l0_o, impl_IsEscape_l0 N N⟩)]) E rfl mixed Try.func16 (by kernel_rfl) (by kernel_rfl) (by kernel_rfl) (by kernel_rfl) (fun A hA => ⟨pc_of (inner := []) E mixed hA (by kernel_rfl) (by kernel_rfl) (by kernel_rfl) trivial (fun _ => rfl) (fun m d => (impl_IsEscape_l0_ok N (impl_IsEscape_l0 N m) d).symm) N, trivial⟩) (F_impl_IsEscape_ok N)
theorem C_impl_IsEscape : Contract Try.prog 16 S_impl_IsEscape := Contract.less (fun N : Nat => F_impl_IsEscape N) C_impl_IsEscape_raw implEsc_lim
theorem C_laws_eqIntA2_raw (N : Nat) : Contract Try.prog 50 ⟨[(K_Piiq, false), (K_Piiq, false)], [.bool], true, F_laws_eqIntA2 N⟩ :=
  have E : Env Try.prog Γ_laws_eqIntA2 := env_of tab trivial
  con_of (Pc := [(0, ⟨laws_eqIntA2_l0_h, laws_eqIntA2_l0_o, laws_eqIntA2_l0 N N⟩)]) E rfl mixed Try.func50 (by kernel_rfl) (by kernel_rfl) (by kernel_rfl) (by kernel_rfl) (fun A hA => ⟨pc_of (inner := []) E mixed hA (by kernel_rfl) (by kernel_rfl) (by kernel_rfl) trivial (fun _ => rfl) (fun m d => (laws_eqIntA2_l0_ok N (laws_eqIntA2_l0 N m) d).symm) N, trivial⟩) (F_laws_eqIntA2_ok N)
theorem C_laws_eqIntA2 : Contract Try.prog 50 S_laws_eqIntA2 := Contract.less (fun N : Nat => F_laws_eqIntA2 N) C_laws_eqIntA2_raw eqIntA2_lim
theorem C_laws_eqIntA2S_raw (N : Nat) : Contract Try.prog 27 ⟨[(K_SPiiq, false), (K_SPiiq, false)], [.bool], true, F_laws_eqIntA2S N⟩ :=
  have E : Env Try.prog Γ_laws_eqIntA2S := env_of tab ⟨C_laws_eqIntA2, trivial⟩
  con_of (Pc := [(0, ⟨laws_eqIntA2S_l0_h, laws_eqIntA2S_l0_o, laws_eqIntA2S_l0 N N⟩)]) E rfl mixed Try.func27 (by kernel_rfl) (by kernel_rfl) (by kernel_rfl) (by kernel_rfl) (fun A hA => ⟨pc_of (inner := []) E mixed hA (by kernel_rfl) (by kernel_rfl) (by kernel_rfl) trivial (fun _ => rfl) (fun m d => (laws_eqIntA2S_l0_ok N (laws_eqIntA2S_l0 N m) d).symm) N, trivial⟩) (F_laws_eqIntA2S_ok N)
theorem C_laws_eqIntA2S : Contract Try.prog 27 S_laws_eqIntA2S := Contract.less (fun N : Nat => F_laws_eqIntA2S N) C_laws_eqIntA2S_raw eqIntA2S_lim
theorem C_laws_eqGraph_raw (N : Nat) : Contract Try.prog 12 ⟨[(K_PiSPiiqq, false), (K_PiSPiiqq, false)], [.bool], true, F_laws_eqGraph N⟩ :=
  have E : Env Try.prog Γ_laws_eqGraph := env_of tab ⟨C_laws_eqIntA2S, trivial⟩
  con_of (Pc := []) E rfl mixed Try.func12 (by kernel_rfl) (by kernel_rfl) (by kernel_rfl) (by kernel_rfl) (fun A hA => trivial) (F_laws_eqGraph_ok N)
theorem C_laws_eqGraph : Contract Try.prog 12 S_laws_eqGraph := C_laws_eqGraph_raw 0
theorem C_laws_eqIntS_raw (N : Nat) : Contract Try.prog 17 ⟨[(K_Si, false), (K_Si, false)], [.bool], true, F_laws_eqIntS N⟩ :=
  have E : Env Try.prog Γ_laws_eqIntS := env_of tab trivial
  con_of (Pc := [(0, ⟨laws_eqIntS_l0_h, laws_eqIntS_l0_o, laws_eqIntS_l0 N N⟩)]) E rfl mixed Try.func17 (by kernel_rfl) (by kernel_rfl) (by kernel_rfl) (by kernel_rfl) (fun A hA => ⟨pc_of (inner := []) E mixed hA (by kernel_rfl) (by kernel_rfl) (by kernel_rfl) trivial (fun _ => rfl) (fun m d => (laws_eqIntS_l0_ok N (laws_eqIntS_l0 N m) d).symm) N, trivial⟩) (F_laws_eqIntS_ok N)
theorem C_laws_eqIntS : Contract Try.prog 17 S_laws_eqIntS := Contract.less (fun N : Nat => F_laws_eqIntS N) C_laws_eqIntS_raw eqIntS_lim
theorem C_laws_eqIntSS_raw (N : Nat) : Contract Try.prog 13 ⟨[(K_SSi, false), (K_SSi, false)], [.bool], true, F_laws_eqIntSS N⟩ :=
  have E : Env Try.prog Γ_laws_eqIntSS := env_of tab ⟨C_laws_eqIntS, trivial⟩
  con_of (Pc := [(0, ⟨laws_eqIntSS_l0_h, laws_eqIntSS_l0_o, laws_eqIntSS_l0 N N⟩)]) E rfl mixed Try.func13 (by kernel_rfl) (by kernel_rfl) (by kernel_rfl) (by kernel_rfl) (fun A hA => ⟨pc_of (inner := []) E mixed hA (by kernel_rfl) (by kernel_rfl) (by kernel_rfl) trivial (fun _ => rfl) (fun m d => (laws_eqIntSS_l0_ok N (laws_eqIntSS_l0 N m) d).symm) N, trivial⟩) (F_laws_eqIntSS_ok N)
theorem C_laws_eqIntSS : Contract Try.prog 13 S_laws_eqIntSS := Contract.less (fun N : Nat => F_laws_eqIntSS N) C_laws_eqIntSS_raw eqIntSS_lim
theorem C_laws_FnExactIsEscape_raw (N : Nat) : Contract Try.prog 4 ⟨[(K_PiSPiiqq, false), (K_SSi, false), (K_Si, false)], [.bool], true, F_laws_FnExactIsEscape N⟩ :=
  have E : Env Try.prog Γ_laws_FnExactIsEscape := env_of tab ⟨C_laws_szGraph, ⟨C_laws_szIntSS, ⟨C_laws_toGraph, ⟨C_laws_toIntSS, ⟨C_laws_eqGraph, ⟨C_laws_eqIntSS, ⟨C_spec_IsEscape, ⟨C_laws_toIntS, ⟨C_impl_IsEscape, ⟨C_laws_eqIntS, trivial⟩⟩⟩⟩⟩⟩⟩⟩⟩⟩
  con_of (Pc := []) E rfl mixed Try.func4 (by kernel_rfl) (by kernel_rfl) (by kernel_rfl) (by kernel_rfl) (fun A hA => trivial) (F_laws_FnExactIsEscape_ok N)
theorem C_laws_FnExactIsEscape : Contract Try.prog 4 S_laws_FnExactIsEscape := C_laws_FnExactIsEscape_raw 0
end Go.V.W
