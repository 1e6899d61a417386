/- Reaching over open edges, told plainly; the law FnExactReachedBy on plain data. -/
import Derived.Test.YtmeglfoapdkhdaaVS2l
import Derived.Test.YtmeglfoapdkhdaaVN2
set_option linter.unusedVariables false
set_option linter.unusedSimpArgs false
namespace Go.V.W
open Go.Proofs

theorem l2Near_lim (d) (r) (h : G_l2Near d = some r) : ∃ N, F_spec_l2Near N d = some r := by
  obtain ⟨g, a, b, _⟩ := d
  unfold G_l2Near at h
  split at h
  · rename_i hl
    have hl : g.2.1.length ≤ lim := okL_lim hl
    have h := Option.some.inj h
    subst h
    refine ⟨g.2.1.length + 1, ?_⟩
    unfold F_spec_l2Near
    have := loop_idx (L := spec_l2Near_l0 (g.2.1.length + 1)) (r := spec_l2Near_l0_r (g.2.1.length + 1)) (fun _ _ => rfl) (e := K_Piiq) g.2.1 (mk := fun i => (a, b, g, (i : Int), ())) (q := fun e => (e.1 == a && e.2.1 == b) || (e.1 == b && e.2.1 == a)) (o := fun _ => .inl (true, ())) (f := .inr (.inl ()))
      (by
        intro back i hi
        unfold spec_l2Near_l0_r
        simp only [lt_dec hi, if_true, idxIn_nat hi, Int.toNat_natCast, wrap_up hi (lim_max hl)]
        rcases Bool.eq_false_or_eq_true ((at_ K_Piiq g.2.1 i).1 == a) with c1 | c1 <;> rcases Bool.eq_false_or_eq_true ((at_ K_Piiq g.2.1 i).2.1 == b) with c2 | c2 <;> rcases Bool.eq_false_or_eq_true ((at_ K_Piiq g.2.1 i).1 == b) with c3 | c3 <;> rcases Bool.eq_false_or_eq_true ((at_ K_Piiq g.2.1 i).2.1 == a) with c4 | c4 <;>
          simp only [c1, c2, c3, c4, if_true, if_false, Bool.false_eq_true, Bool.and_true, Bool.and_false, Bool.or_true, Bool.or_false, Bool.true_or, Bool.or_self, Bool.and_self])
      (by intro back; unfold spec_l2Near_l0_r; simp only [lt_not, Bool.false_eq_true, if_false]) g.2.1.length 0 (by omega) (by omega)
    simp only [Int.natCast_zero, List.drop_zero] at this
    have hge := idxI_ge (fun e : E => (e.1 == a && e.2.1 == b) || (e.1 == b && e.2.1 == a)) g.2.1 0
    simp only [this, Option.bind_some, nearI, ← hge]
    cases idxN (fun e : E => (e.1 == a && e.2.1 == b) || (e.1 == b && e.2.1 == a)) g.2.1 0 with
    | none => rfl
    | some j => simp [idxI]
  · cases h
theorem l2Neighbors_l0 (N : Nat) (g : Gr) (x : Int) (n : Nat) (hN : g.1 = (n : Int)) (hn : n ≤ 8) (ho : okL g.2.1 = true) : ∀ (k y f : Nat) (A : List Int), y + k = n → k < f → A.length + k ≤ 1000 →
    spec_l2Neighbors_l0 N f (x, g, A, (y : Int), ()) = some (.inl (A ++ setF (fun y => nearI g.2.1 x (y : Int)) k y, ())) := by
  intro k
  induction k with
  | zero =>
    intro y f A h1 h2 h3
    obtain ⟨f, rfl⟩ : ∃ m, f = m + 1 := ⟨f - 1, by omega⟩
    have e : y = n := by omega
    subst e
    simp [spec_l2Neighbors_l0, spec_l2Neighbors_l0_r, setF, hN]
  | succ k ih =>
    intro y f A h1 h2 h3
    obtain ⟨f, rfl⟩ : ∃ m, f = m + 1 := ⟨f - 1, by omega⟩
    have hy : y < n := by omega
    show spec_l2Neighbors_l0_r N (spec_l2Neighbors_l0 N f) (x, g, A, (y : Int), ()) = _
    unfold spec_l2Neighbors_l0_r
    have hw : IntKind.wrap .i64 ((y : Int) + 1) = ((y + 1 : Nat) : Int) := by
      rw [wrap_in _ (by omega) (by omega)]
      rfl
    have hle : decide (A.length + List.length [(y : Int)] ≤ lim) = true := by
      unfold lim
      simp
      omega
    simp only [hN, lt_dec hy, if_true, G_l2Near, ho, Option.bind_some, hle, hw]
    unfold setF
    by_cases hh : nearI g.2.1 x (y : Int) = true
    · rw [if_pos hh, if_pos hh, ih (y + 1) f _ (by omega) (by omega) (by simp; omega)]
      simp
    · rw [if_neg hh, if_neg hh]
      exact ih (y + 1) f A (by omega) (by omega) (by omega)
theorem l2Neighbors_lim (d) (r) (h : G_l2Neighbors d = some r) : ∃ N, F_spec_l2Neighbors N d = some r := by
  obtain ⟨g, x, _⟩ := d
  unfold G_l2Neighbors at h
  split at h
  · rename_i hc
    simp only [Bool.and_eq_true, decide_eq_true_eq] at hc
    obtain ⟨⟨h1, h2⟩, h3⟩ := hc
    have h := Option.some.inj h
    subst h
    refine ⟨20, ?_⟩
    unfold F_spec_l2Neighbors
    have := l2Neighbors_l0 20 g x g.1.toNat (by omega) (by omega) h1 g.1.toNat 0 20 [] (by omega) (by omega) (by simp; omega)
    simp only [Int.natCast_zero, List.nil_append] at this
    simp only [this, Option.bind_some]
  · cases h

/-! ### l1Put -/
def lowN (x : Int) : List Int → Nat
  | [] => 0
  | a :: l => if a < x then lowN x l + 1 else 0
theorem lowN_le (x : Int) : ∀ l, lowN x l ≤ l.length := by
  intro l
  induction l with
  | nil => simp [lowN]
  | cons a l ih => simp only [lowN]; split <;> simp; omega
theorem l1Put_l0 (N : Nat) (l : List Int) (x : Int) (hl : l.length ≤ 1000) : ∀ (k i f : Nat), i + k = l.length → k < f → spec_l1Put_l0 N f (l, x, (i : Int), ()) = some (.inl (l, x, ((i + lowN x (l.drop i) : Nat) : Int), ())) := by
  have hmx : l.length ≤ maxLen := by unfold maxLen; omega
  intro k
  induction k with
  | zero =>
    intro i f h1 h2
    obtain ⟨f, rfl⟩ : ∃ m, f = m + 1 := ⟨f - 1, by omega⟩
    have e : i = l.length := by omega
    subst e
    rw [List.drop_of_length_le (Nat.le_refl _)]
    simp [spec_l1Put_l0, spec_l1Put_l0_r, lowN]
  | succ k ih =>
    intro i f h1 h2
    obtain ⟨f, rfl⟩ : ∃ m, f = m + 1 := ⟨f - 1, by omega⟩
    have hi : i < l.length := by omega
    show spec_l1Put_l0_r N (spec_l1Put_l0 N f) (l, x, (i : Int), ()) = _
    unfold spec_l1Put_l0_r
    have e : at_ I l i = l[i] := at_get (e := I) hi
    rw [List.drop_eq_getElem_cons hi]
    simp only [lt_dec hi, if_true, idxIn_nat hi, Int.toNat_natCast, wrap_up hi hmx, e, lowN]
    by_cases c : l[i] < x
    · simp only [c, decide_true, if_true]
      rw [ih (i + 1) f (by omega) (by omega)]
      congr 5
      omega
    · simp only [c, decide_false, Bool.false_eq_true, if_false, Nat.add_zero]
theorem putL_low' (x : Int) : ∀ l : List Int, putL x l = if h : lowN x l < l.length then (if l[lowN x l] = x then l else l.take (lowN x l) ++ [x] ++ l.drop (lowN x l)) else l ++ [x] := by
  intro l
  induction l with
  | nil => rfl
  | cons a l ih =>
    simp only [putL, lowN]
    by_cases c : a < x
    · simp only [c, if_true, ih, List.length_cons, Nat.add_lt_add_iff_right, List.getElem_cons_succ, List.take_succ_cons, List.drop_succ_cons]
      split
      · split <;> simp
      · simp
    · by_cases c2 : a = x
      · simp [c, c2]
      · simp [c, c2]
theorem l1Put_lim (d) (r) (h : G_l1Put d = some r) : ∃ N, F_spec_l1Put N d = some r := by
  obtain ⟨l, x, _⟩ := d
  unfold G_l1Put at h
  split at h
  · rename_i hl
    have hl : l.length ≤ 1000 := of_decide_eq_true hl
    have h := Option.some.inj h
    subst h
    refine ⟨l.length + 1, ?_⟩
    unfold F_spec_l1Put
    have := l1Put_l0 (l.length + 1) l x hl l.length 0 (l.length + 1) (by omega) (by omega)
    simp only [Int.natCast_zero, List.drop_zero, Nat.zero_add] at this
    have hk := lowN_le x l
    generalize hkk : lowN x l = k at this hk
    simp only [this, Option.bind_some, putL_low', hkk]
    have hL : (lim : Int) = 1099511627776 := rfl
    have c0 : (decide (0 ≤ (0 : Int)) && decide ((0 : Int) ≤ (k : Int)) && decide ((k : Int) ≤ (l.length : Int))) = true := by simp; omega
    have c1 : decide (List.length ([] : List Int) + List.length (sub_ l (0 : Int) (k : Int)) ≤ lim) = true := by unfold lim sub_; simp; omega
    have c2 : decide (List.length (([] : List Int) ++ sub_ l (0 : Int) (k : Int)) + List.length [x] ≤ lim) = true := by unfold lim sub_; simp; omega
    have c3 : (decide (0 ≤ (k : Int)) && decide ((k : Int) ≤ (l.length : Int)) && decide ((l.length : Int) ≤ (l.length : Int))) = true := by simp; omega
    have c4 : decide (List.length (([] : List Int) ++ sub_ l (0 : Int) (k : Int) ++ [x]) + List.length (sub_ l (k : Int) (l.length : Int)) ≤ lim) = true := by unfold lim sub_; simp; omega
    have e1 : sub_ l (0 : Int) (k : Int) = l.take k := by simp [sub_]
    have e2 : sub_ l (k : Int) (l.length : Int) = l.drop k := by simp [sub_]
    by_cases hlt : k < l.length
    · have e : at_ I l k = l[k] := at_get (e := I) hlt
      simp only [lt_dec hlt, if_true, idxIn_nat hlt, Int.toNat_natCast, e, hlt, dite_true, c0, c1, c2, c3, c4]
      by_cases c : l[k] = x
      · simp [c]
      · have c' : (l[k] == x) = false := by simpa using c
        simp only [c', c, Bool.false_eq_true, if_false, e1, e2, List.nil_append]
    · have hlt' : decide ((k : Int) < (l.length : Int)) = false := by simp; omega
      have ek : k = l.length := by omega
      simp only [hlt', Bool.false_eq_true, if_false, c0, c1, c2, c3, c4, if_true, hlt, dite_false, e1, e2, List.nil_append]
      subst ek
      simp
      unfold lim
      omega
  · cases h

/-! ### l11Reached -/
theorem putL_len (x : Int) : ∀ l : List Int, (putL x l).length ≤ l.length + 1 := by
  intro l
  induction l with
  | nil => simp [putL]
  | cons a l ih =>
    simp only [putL]
    split
    · simp; omega
    · split <;> simp
theorem reached_l2 (N : Nat) (s : List Int) (g : Gr) (s9 : Int) (bs : List Int) (hb : bs.length ≤ 100) : ∀ (k i f : Nat) (o : List Int), i + k = bs.length → k < f → o.length + k ≤ 900 →
    spec_l11Reached_l2 N f (s, g, o, s9, bs, (i : Int), ()) = some (.inl (s, g, putAll o (bs.drop i), s9, ())) := by
  have hmx : bs.length ≤ maxLen := by unfold maxLen; omega
  intro k
  induction k with
  | zero =>
    intro i f o h1 h2 h3
    obtain ⟨f, rfl⟩ : ∃ m, f = m + 1 := ⟨f - 1, by omega⟩
    have e : i = bs.length := by omega
    subst e
    rw [List.drop_of_length_le (Nat.le_refl _)]
    simp [spec_l11Reached_l2, spec_l11Reached_l2_r, putAll]
  | succ k ih =>
    intro i f o h1 h2 h3
    obtain ⟨f, rfl⟩ : ∃ m, f = m + 1 := ⟨f - 1, by omega⟩
    have hi : i < bs.length := by omega
    show spec_l11Reached_l2_r N (spec_l11Reached_l2 N f) (s, g, o, s9, bs, (i : Int), ()) = _
    unfold spec_l11Reached_l2_r
    have e : at_ I bs i = bs[i] := at_get (e := I) hi
    have ho : okS1 o = true := decide_eq_true (by omega)
    have hp := putL_len bs[i] o
    simp only [lt_dec hi, if_true, idxIn_nat hi, Int.toNat_natCast, wrap_up hi hmx, e, G_l1Put, ho, Option.bind_some]
    rw [ih (i + 1) f _ (by omega) (by omega) (by omega), List.drop_eq_getElem_cons hi]
    rfl
theorem ball_len {n : Nat} {es : List E} {x : Int} : (ballL n es x).length ≤ n + 1 := by
  unfold ballL
  have h1 := putL_len x (setF (fun y => nearI es x (y : Int)) n 0)
  have h2 := setF_len (p := fun y => nearI es x (y : Int)) (k := n) (x := 0)
  omega
theorem putAll_len : ∀ (bs o : List Int), (putAll o bs).length ≤ o.length + bs.length := by
  intro bs
  induction bs with
  | nil => intro o; simp [putAll]
  | cons z bs ih =>
    intro o
    have h1 := ih (putL z o)
    have h2 := putL_len z o
    show (putAll (putL z o) bs).length ≤ _
    simp only [List.length_cons]
    omega
theorem reached_l0 (N : Nat) (hN : 20 ≤ N) (g : Gr) (n : Nat) (hg : g.1 = (n : Int)) (hn : n ≤ 8) (ho : okL g.2.1 = true) (set : List Int) (hs : set.length ≤ 8) : ∀ (k i f : Nat) (o : List Int), i + k = set.length → k < f → o.length + 10 * k ≤ 800 →
    spec_l11Reached_l0 N f (set, g, o, (i : Int), ()) = some (.inl ((set.drop i).foldl (fun o x => putAll o (ballL n g.2.1 x)) o, ())) := by
  have hmx : set.length ≤ maxLen := by unfold maxLen; omega
  intro k
  induction k with
  | zero =>
    intro i f o h1 h2 h3
    obtain ⟨f, rfl⟩ : ∃ m, f = m + 1 := ⟨f - 1, by omega⟩
    have e : i = set.length := by omega
    subst e
    rw [List.drop_of_length_le (Nat.le_refl _)]
    simp [spec_l11Reached_l0, spec_l11Reached_l0_r]
  | succ k ih =>
    intro i f o h1 h2 h3
    obtain ⟨f, rfl⟩ : ∃ m, f = m + 1 := ⟨f - 1, by omega⟩
    have hi : i < set.length := by omega
    show spec_l11Reached_l0_r N (spec_l11Reached_l0 N f) (set, g, o, (i : Int), ()) = _
    unfold spec_l11Reached_l0_r
    have e : at_ I set i = set[i] := at_get (e := I) hi
    have hball : F_spec_l2Ball 0 (g, set[i], ()) = some (ballL n g.2.1 set[i], ()) := by
      unfold F_spec_l2Ball G_l2Neighbors G_l1Put
      have a1 : (okL g.2.1 && decide (0 ≤ g.1) && decide (g.1 ≤ 8)) = true := by
        rw [ho, hg]
        simp
        omega
      have a2 : okS1 (setF (fun y => nearI g.2.1 set[i] (y : Int)) n 0) = true := by
        have := setF_len (p := fun y => nearI g.2.1 set[i] (y : Int)) (k := n) (x := 0)
        exact decide_eq_true (by omega)
      simp only [a1, if_true, hg, Int.toNat_natCast, Option.bind_some, a2]
      have a3 : (okL g.2.1 && decide (0 ≤ (n : Int)) && decide ((n : Int) ≤ 8)) = true := by rw [← hg]; exact a1
      simp only [a3, if_true, Option.bind_some, a2, ballL]
    have hbl := ball_len (n := n) (es := g.2.1) (x := set[i])
    have hin := reached_l2 N set g (i : Int) (ballL n g.2.1 set[i]) (by omega) (ballL n g.2.1 set[i]).length 0 N o (by omega) (by omega) (by omega)
    simp only [Int.natCast_zero, List.drop_zero] at hin
    simp only [lt_dec hi, if_true, idxIn_nat hi, Int.toNat_natCast, wrap_up hi hmx, e, hball, Option.bind_some, hin]
    have hpl := putAll_len (ballL n g.2.1 set[i]) o
    rw [ih (i + 1) f _ (by omega) (by omega) (by omega), List.drop_eq_getElem_cons hi, List.foldl_cons]
theorem l11Reached_lim (d) (r) (h : G_l11Reached d = some r) : ∃ N, F_spec_l11Reached N d = some r := by
  obtain ⟨t, set, c, _⟩ := d
  unfold G_l11Reached at h
  split at h
  · rename_i hc
    simp only [Bool.and_eq_true, decide_eq_true_eq] at hc
    obtain ⟨⟨⟨⟨h1, h2⟩, h3⟩, h4⟩, h5⟩ := hc
    obtain ⟨g1, g2, g3, g4⟩ := timeB_parts h1
    obtain ⟨o1, o2, o3⟩ := okT_parts h2
    have hn := graphB_n (n := t.1.1) (l := t.1.2.1) (u := t.1.2.2) g1
    unfold okSet at h5
    simp only [Bool.and_eq_true, decide_eq_true_eq] at h5
    have h := Option.some.inj h
    subst h
    refine ⟨30, ?_⟩
    unfold F_spec_l11Reached
    have hO : G_l11Open (t, c, ()) = some ((t.1.1, openE t (c.tmod t.2.1), ()), ()) := by
      unfold G_l11Open
      have e1 : decide (0 ≤ c) = true := by simp; omega
      have e2 : decide (c ≤ 5000) = true := by simp; omega
      rw [if_pos (by simp only [h1, h2, e1, e2, Bool.and_self])]
    have hlen := selE_len t.1.2.1 t.2.2.1 (c.tmod t.2.1)
    have ho : okL (openE t (c.tmod t.2.1)) = true := by
      have := okL_lim o1
      exact decide_eq_true (Nat.le_trans hlen this)
    have := reached_l0 30 (by omega) (t.1.1, openE t (c.tmod t.2.1), ()) t.1.1.toNat (by show t.1.1 = _; omega) (by omega) ho set h5.1 set.length 0 30 [] (by omega) (by omega) (by simp; omega)
    simp only [Int.natCast_zero, List.drop_zero] at this
    simp only [hO, Option.bind_some, this]
    rfl
  · cases h

/-! ### bits -/
theorem shr_bit {m y : Nat} (hm : m < 256) (h : y < 8) : (bits .and .i64 (shr .i64 (m : Int) (y : Int)) 1 == (1 : Int)) = m.testBit y := has_bit hm h
theorem around_l0 (N : Nat) (ms : List Nat) (n : Nat) (hm : okN n ms) (hn : n ≤ 8) (s : Nat) (hs : s < 256) : ∀ (k x f o : Nat), o < 256 → x + k = n → k < f →
    impl_net_around_l0 N f ((s : Int), (o : Int), toI ms, (n : Int), (x : Int), ()) = some (.inl (((arN ms s k x o : Nat) : Int), ())) := by
  intro k
  induction k with
  | zero =>
    intro x f o h0 h1 h2
    obtain ⟨f, rfl⟩ : ∃ m, f = m + 1 := ⟨f - 1, by omega⟩
    have e : x = n := by omega
    subst e
    simp [impl_net_around_l0, impl_net_around_l0_r, arN]
  | succ k ih =>
    intro x f o h0 h1 h2
    obtain ⟨f, rfl⟩ : ∃ m, f = m + 1 := ⟨f - 1, by omega⟩
    have hx : x < n := by omega
    show impl_net_around_l0_r N (impl_net_around_l0 N f) ((s : Int), (o : Int), toI ms, (n : Int), (x : Int), ()) = _
    unfold impl_net_around_l0_r
    have hw : IntKind.wrap .i64 ((x : Int) + 1) = ((x + 1 : Nat) : Int) := by
      rw [wrap_in _ (by omega) (by omega)]
      rfl
    have i1 : idxIn (x : Int) ms.length = true := idxIn_nat (by rw [hm.1]; exact hx)
    simp only [lt_dec hx, if_true, toI_len, i1, nonneg_dec, shr_bit hs (show x < 8 by omega), Int.toNat_natCast, at_toI, bits_or h0 (hm.2 x), hw, arN]
    by_cases hb : s.testBit x = true
    · rw [if_pos hb, if_pos hb]
      exact ih (x + 1) f _ (Nat.or_lt_two_pow (n := 8) h0 (hm.2 x)) (by omega) (by omega)
    · rw [if_neg hb, if_neg hb]
      exact ih (x + 1) f o h0 (by omega) (by omega)
theorem around_lim (d) (r) (h : G_around d = some r) : ∃ N, F_impl_net_around N d = some r := by
  obtain ⟨⟨l, u⟩, s, _⟩ := d
  unfold G_around at h
  split at h
  · rename_i hc
    simp only [Bool.and_eq_true, decide_eq_true_eq] at hc
    obtain ⟨⟨h1, h2⟩, h3⟩ := hc
    obtain ⟨e, hm, h8⟩ := smallN_nat h1
    have h := Option.some.inj h
    subst h
    refine ⟨20, ?_⟩
    unfold F_impl_net_around
    have hs : s = (s.toNat : Int) := by omega
    have := around_l0 20 (fromI l) l.length hm h8 s.toNat (by omega) l.length 0 20 s.toNat (by omega) (by omega) (by omega)
    rw [← e, ← hs] at this
    simp only [Int.natCast_zero] at this
    simp only [this, Option.bind_some]
  · cases h
theorem setOf_l0 (N : Nat) (s : Nat) (hs : s < 256) : ∀ (k x f : Nat) (A : List Int), x + k = 8 → k < f → A.length + k ≤ 100 →
    impl_setOf_l0 N f ((s : Int), A, (x : Int), ()) = some (.inl (A ++ setF (fun y => s.testBit y) k x, ())) := by
  intro k
  induction k with
  | zero =>
    intro x f A h1 h2 h3
    obtain ⟨f, rfl⟩ : ∃ m, f = m + 1 := ⟨f - 1, by omega⟩
    have e : x = 8 := by omega
    subst e
    have : shr .i64 (s : Int) ((8 : Nat) : Int) = 0 := by
      unfold shr
      have e : min ((8 : Nat) : Int).toNat IntKind.i64.bits = 8 := by decide
      rw [e, Int.fdiv_eq_ediv_of_nonneg _ (by decide)]
      omega
    show impl_setOf_l0_r N (impl_setOf_l0 N f) ((s : Int), A, ((8 : Nat) : Int), ()) = _
    unfold impl_setOf_l0_r
    have h8 : decide (0 ≤ ((8 : Nat) : Int)) = true := by decide
    have hz : ((0 : Int) != 0) = false := by decide
    simp only [h8, if_true, this, hz, Bool.false_eq_true, if_false, setF, List.append_nil]
  | succ k ih =>
    intro x f A h1 h2 h3
    obtain ⟨f, rfl⟩ : ∃ m, f = m + 1 := ⟨f - 1, by omega⟩
    have hx : x < 8 := by omega
    show impl_setOf_l0_r N (impl_setOf_l0 N f) ((s : Int), A, (x : Int), ()) = _
    unfold impl_setOf_l0_r
    have hw : IntKind.wrap .i64 ((x : Int) + 1) = ((x + 1 : Nat) : Int) := by
      rw [wrap_in _ (by omega) (by omega)]
      rfl
    have hle : decide (A.length + List.length [(x : Int)] ≤ lim) = true := by
      unfold lim
      simp
      omega
    simp only [nonneg_dec, if_true, shr_bit hs hx, hle, hw]
    by_cases hz : s >>> x = 0
    · have e1 : (shr .i64 (s : Int) (x : Int) != (0 : Int)) = false := by rw [shr_nat hx, hz]; decide
      simp only [e1, Bool.false_eq_true, if_false]
      have e2 : setF (fun y => s.testBit y) (k + 1) x = [] := by
        rw [← setF_empty (n := k + 1) (x := x)]
        refine setF_congr fun y h _ => ?_
        have : s < 2 ^ x := by
          rw [Nat.shiftRight_eq_div_pow] at hz
          exact (Nat.div_eq_zero_iff_lt (Nat.two_pow_pos x)).1 hz
        exact Nat.testBit_lt_two_pow (Nat.lt_of_lt_of_le this (Nat.pow_le_pow_right (by omega) h))
      rw [e2, List.append_nil]
    · have e1 : (shr .i64 (s : Int) (x : Int) != (0 : Int)) = true := by
        rw [shr_nat hx]
        have : ((s >>> x : Nat) : Int) ≠ 0 := fun e => hz (by exact_mod_cast e)
        simpa using this
      simp only [e1, if_true]
      unfold setF
      by_cases hb : s.testBit x = true
      · rw [if_pos hb, if_pos hb, ih (x + 1) f _ (by omega) (by omega) (by simp; omega)]
        simp
      · rw [if_neg hb, if_neg hb]
        exact ih (x + 1) f A (by omega) (by omega) (by omega)
theorem setOf_lim (d) (r) (h : G_setOf d = some r) : ∃ N, F_impl_setOf N d = some r := by
  obtain ⟨s, _⟩ := d
  unfold G_setOf at h
  split at h
  · rename_i hc
    simp only [Bool.and_eq_true, decide_eq_true_eq] at hc
    have h := Option.some.inj h
    subst h
    refine ⟨20, ?_⟩
    unfold F_impl_setOf
    have := setOf_l0 20 s.toNat (by omega) 8 0 20 [] (by omega) (by omega) (by simp)
    rw [show ((s.toNat : Nat) : Int) = s by omega] at this
    simp only [Int.natCast_zero, List.nil_append] at this
    simp only [this, Option.bind_some]
  · cases h
end Go.V.W
