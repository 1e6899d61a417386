/- What the law FnExactIsClearingWalk leans on, part 5: an interpreter of the model as plain data, its soundness, the functions as it tells them, and their laws. -/
import Derived.Shelf.Lays
import Derived.Shelf.LaysM
import Derived.Shelf.SortM.Plain
import Derived.Shelf.SortM.SortNone
import Derived.Shelf.SlSortCmp.NoneTotal
import Derived.Test.YtcdhlpfcjpnfoaaVD
set_option linter.unusedVariables false
set_option linter.unusedSimpArgs false
set_option maxRecDepth 100000
set_option linter.unusedVariables false
set_option linter.unusedSimpArgs false
namespace Go.V.W
open Go.Proofs
theorem all_at_of {e : Kd} {l : List e.den} {q : e.den → Bool} (h : l.all q = true) {i : Nat} (hi : i < l.length) : q (at_ e l i) = true := by
  rw [at_get hi]
  exact List.all_eq_true.1 h _ (List.get_mem l ⟨i, hi⟩)
theorem loop_idx {H O : Type} {L : Nat → H → Option O} {r : (H → Option O) → H → Option O} (hL : ∀ k d, L (k + 1) d = r (L k) d) {e : Kd} (l : List e.den) {mk : Nat → H} {q : e.den → Bool} {o : Nat → O} {f : O}
    (hr : ∀ back i, i < l.length → r back (mk i) = if q (at_ e l i) = true then some (o i) else back (mk (i + 1))) (hf : ∀ back, r back (mk l.length) = some f) :
    ∀ k i, i ≤ l.length → l.length ≤ i + k → L (k + 1) (mk i) = some (match idxN q (l.drop i) i with | some j => o j | none => f) := by
  intro k
  induction k with
  | zero =>
    intro i h1 h2
    have e : i = l.length := by omega
    subst e
    rw [hL, hf, List.drop_of_length_le (Nat.le_refl _)]
    rfl
  | succ k ih =>
    intro i h1 h2
    by_cases h : i < l.length
    · rw [hL, hr _ i h, List.drop_eq_getElem_cons h]
      simp only [idxN]
      have e : at_ e l i = l[i] := at_get h
      rw [e]
      by_cases hq : q l[i] = true
      · simp only [hq, if_true]
      · simp only [hq, if_false]
        exact ih (i + 1) (by omega) (by omega)
    · have e : i = l.length := by omega
      subst e
      rw [hL, hf, List.drop_of_length_le (Nat.le_refl _)]
      rfl
theorem idxI_ge {α : Type} (q : α → Bool) : ∀ (l : List α) (i : Nat), decide (idxI (idxN q l i) ≥ 0) = l.any q := by
  intro l
  induction l with
  | nil => intro i; rfl
  | cons x l ih =>
    intro i
    simp only [idxN, List.any_cons]
    by_cases h : q x = true
    · simp [h, idxI]
    · have h' : q x = false := by simpa using h
      simp only [h, if_false, h', Bool.false_or, ih]
      exact ih (i + 1)
theorem szIntSS_l0 (N : Nat) (l : List (List Int)) (hl : l.length ≤ maxLen) (ha : l.all (fun x => okMx x.length) = true) : ∀ n i (a : Int), l.length ≤ i + n → i ≤ l.length → 0 ≤ a → a ≤ 1048576 →
    laws_szIntSS_l0 N (n + 1) (l, a, (i : Int), ()) = some (.inl (szFold a (l.drop i), ())) ∨ laws_szIntSS_l0 N (n + 1) (l, a, (i : Int), ()) = some (.inr (.inl (szFold a (l.drop i), ()))) := by
  intro n
  induction n with
  | zero =>
    intro i a h1 h2 h3 h4
    have e : i = l.length := by omega
    subst e
    right
    rw [List.drop_of_length_le (Nat.le_refl _)]
    simp [laws_szIntSS_l0, laws_szIntSS_l0_r, szFold]
  | succ n ih =>
    intro i a h1 h2 h3 h4
    by_cases hi : i < l.length
    · have hx : (at_ K_Si l i).length ≤ maxLen := of_decide_eq_true (all_at_of (e := K_Si) ha hi)
      have hstep : laws_szIntSS_l0 N (n + 1 + 1) (l, a, (i : Int), ()) = if szStep a (at_ K_Si l i).length < 0 then some (.inl (-1, ())) else laws_szIntSS_l0 N (n + 1) (l, szStep a (at_ K_Si l i).length, ((i + 1 : Nat) : Int), ()) := by
        show laws_szIntSS_l0_r N (laws_szIntSS_l0 N (n + 1)) (l, a, (i : Int), ()) = _
        unfold laws_szIntSS_l0_r
        simp only [lt_dec hi, if_true, idxIn_nat hi, Int.toNat_natCast, wrap_up hi hl, szS_eq (at_ K_Si l i) a () h3 h4 hx]
        by_cases h : szStep a (at_ K_Si l i).length < 0
        · simp only [h, decide_true, if_true]
        · simp only [h, decide_false, if_false, Bool.false_eq_true]
      rw [hstep, List.drop_eq_getElem_cons hi]
      have e : at_ K_Si l i = l[i] := at_get (e := K_Si) hi
      rw [e]
      simp only [szFold]
      by_cases h : szStep a l[i].length < 0
      · left; simp only [h, if_true]
      · simp only [h, if_false]
        have := szStep_le h
        exact ih (i + 1) _ (by omega) (by omega) (by omega) (by omega)
    · have e : i = l.length := by omega
      subst e
      right
      rw [List.drop_of_length_le (Nat.le_refl _)]
      simp [laws_szIntSS_l0, laws_szIntSS_l0_r, szFold]
theorem szIntSS_lim (d) (r) (h : G_szIntSS d = some r) : ∃ N, F_laws_szIntSS N d = some r := by
  obtain ⟨l, a, _⟩ := d
  unfold G_szIntSS at h
  split at h
  · rename_i hc
    simp only [Bool.and_eq_true, decide_eq_true_eq] at hc
    obtain ⟨⟨⟨h1, h2⟩, h3⟩, h4⟩ := hc
    have hl : l.length ≤ maxLen := of_decide_eq_true h1
    have h := Option.some.inj h
    subst h
    refine ⟨l.length + 1, ?_⟩
    unfold F_laws_szIntSS
    simp only [sz_wrap h3 h4 hl]
    by_cases c : szStep a l.length < 0
    · have : a - (l.length : Int) < 0 := by
        unfold szStep at c
        split at c
        · assumption
        · assumption
      simp only [this, c, decide_true, if_true]
    · have c2 := szStep_le c
      have : ¬ a - (l.length : Int) < 0 := by omega
      simp only [this, c, decide_false, if_false, Bool.false_eq_true]
      have := szIntSS_l0 (l.length + 1) l hl h2 l.length 0 (a - (l.length : Int)) (by omega) (by omega) (by omega) (by omega)
      simp only [Int.natCast_zero, List.drop_zero] at this
      rw [c2.2]
      rcases this with this | this <;> simp only [this, Option.bind_some]
  · cases h
theorem szFold_le : ∀ (l : List (List Int)) (a : Int), 0 ≤ a → a ≤ 1048576 → ¬ szFold a l < 0 → l.all (fun x => decide (x.length ≤ 1048576)) = true := by
  intro l
  induction l with
  | nil => intro a _ _ _; rfl
  | cons x l ih =>
    intro a h0 h1 h
    simp only [szFold] at h
    by_cases c : szStep a x.length < 0
    · simp only [c, if_true] at h; omega
    · simp only [c, if_false] at h
      have := szStep_le c
      simp only [List.all_cons, Bool.and_eq_true, decide_eq_true_eq]
      exact ⟨by omega, ih _ (by omega) (by omega) h⟩
theorem okLL_of {l : List (List Int)} (h : okLL l = true) : okL l = true ∧ l.all okL = true := by
  unfold okLL at h
  simpa only [Bool.and_eq_true] using h
theorem toIntSS_l0 (N : Nat) (l : List (List Int)) (hl : l.length ≤ lim) (ha : l.all okL = true) : ∀ k, l.length ≤ k → laws_toIntSS_l0 N (k + 1) (l, List.replicate l.length ([] : List Int), (0 : Int), ()) = some (.inl (l, ())) := by
  intro k hk
  have hmx := lim_max hl
  have key : ∀ n i (m : List (List Int)), l.length ≤ i + n → i ≤ l.length → m.length = l.length → m.take i = l.take i → laws_toIntSS_l0 N (n + 1) (l, m, (i : Int), ()) = some (.inl (l, ())) := by
    intro n
    induction n with
    | zero =>
      intro i m h1 h2 h3 h4
      have e : i = l.length := by omega
      subst e
      rw [List.take_of_length_le (by omega), List.take_of_length_le (by omega)] at h4
      subst h4
      simp [laws_toIntSS_l0, laws_toIntSS_l0_r]
    | succ n ih =>
      intro i m h1 h2 h3 h4
      by_cases hi : i < l.length
      · show laws_toIntSS_l0_r N (laws_toIntSS_l0 N (n + 1)) (l, m, (i : Int), ()) = _
        unfold laws_toIntSS_l0_r
        have hx : okL (at_ K_Si l i) = true := all_at_of (e := K_Si) ha hi
        simp only [lt_dec hi, if_true, idxIn_nat hi, idxIn_nat (show i < m.length by omega), Int.toNat_natCast, wrap_up hi hmx, G_toIntS, hx, Option.bind_some]
        refine ih (i + 1) _ (by omega) (by omega) (by simp [h3]) ?_
        exact set_copy l m i _ hi (by rw [at_get (e := K_Si) hi]; rfl) h3 h4
      · have e : i = l.length := by omega
        subst e
        rw [List.take_of_length_le (by omega), List.take_of_length_le (by omega)] at h4
        subst h4
        simp [laws_toIntSS_l0, laws_toIntSS_l0_r]
  simpa using key k 0 (List.replicate l.length ([] : List Int)) (by omega) (by omega) (by simp) (by simp)
theorem toIntSS_lim (d) (r) (h : G_toIntSS d = some r) : ∃ N, F_laws_toIntSS N d = some r := by
  obtain ⟨l, _⟩ := d
  unfold G_toIntSS at h
  split at h
  · rename_i hl
    obtain ⟨h1, h2⟩ := okLL_of hl
    have hl : l.length ≤ lim := okL_lim h1
    have h := Option.some.inj h
    subst h
    refine ⟨l.length + 1, ?_⟩
    unfold F_laws_toIntSS
    have hc : (decide (0 ≤ (List.length l : Int)) && decide ((List.length l : Int) ≤ (List.length l : Int)) && decide ((List.length l : Int) ≤ (lim : Int))) = true := by simp; omega
    have := toIntSS_l0 (l.length + 1) l hl h2 l.length (Nat.le_refl _)
    simp only [hc, if_true, Int.toNat_natCast]
    rw [this]
    rfl
  · cases h
theorem eqIntSS_lim (d) (r) (h : G_eqIntSS d = some r) : ∃ N, F_laws_eqIntSS N d = some r := by
  obtain ⟨l, m, _⟩ := d
  unfold G_eqIntSS at h
  split at h
  · rename_i hll
    obtain ⟨hl1, ha⟩ := okLL_of hll
    have hl : l.length ≤ lim := okL_lim hl1
    have hmx := lim_max hl
    have h := Option.some.inj h
    subst h
    refine ⟨l.length + 1, ?_⟩
    unfold F_laws_eqIntSS
    by_cases hm : l.length = m.length
    · have := loop_all (L := laws_eqIntSS_l0 (l.length + 1)) (r := laws_eqIntSS_l0_r (l.length + 1)) (fun _ _ => rfl) (n := l.length) (mk := fun i => (l, m, (i : Int), ())) (p := fun i => decide (at_ K_Si l i = at_ K_Si m i)) (o := .inl (false, ())) (f := .inr (.inl ()))
        (by
          intro back i hi
          have hi' : i < m.length := by omega
          have hx : okL (at_ K_Si l i) = true := all_at_of (e := K_Si) ha hi
          unfold laws_eqIntSS_l0_r
          simp only [lt_dec hi, if_true, idxIn_nat hi, idxIn_nat hi', Int.toNat_natCast, wrap_up hi hmx, G_eqIntS, hx, Option.bind_some]
          by_cases he : at_ K_Si l i = at_ K_Si m i
          · simp only [he, decide_true, Bool.not_true, Bool.false_eq_true, if_false, if_true]
          · simp only [he, decide_false, Bool.not_false, Bool.false_eq_true, if_false, if_true])
        (by intro back; unfold laws_eqIntSS_l0_r; simp only [lt_not, Bool.false_eq_true, if_false]) l.length 0 (by omega) (by omega)
      simp only [Int.natCast_zero] at this
      have hne : ((List.length l : Int) != (List.length m : Int)) = false := by simp [hm]
      simp only [hne, Bool.false_eq_true, if_false, this, Nat.sub_zero]
      by_cases he : l = m
      · have : allB (fun i => decide (at_ K_Si l i = at_ K_Si m i)) l.length 0 = true := allB_iff.2 (fun j _ _ => by simp [he])
        simp only [this, if_true, Option.bind_some]
        simp only [he, decide_true]
      · have : allB (fun i => decide (at_ K_Si l i = at_ K_Si m i)) l.length 0 = false := by
          apply Bool.eq_false_iff.2
          intro ha
          apply he
          rw [allB_iff] at ha
          apply List.ext_getElem hm
          intro i h1 h2
          have := of_decide_eq_true (ha i (by omega) (by omega))
          rw [at_get (e := K_Si) h1, at_get (e := K_Si) h2] at this
          exact this
        simp only [this, he, Bool.false_eq_true, if_false, Option.bind_some, decide_false]
    · have hne : ((List.length l : Int) != (List.length m : Int)) = true := by simp; omega
      have he : ¬ l = m := fun e => hm (by rw [e])
      simp [hne, he]
  · cases h
theorem okLL_small {l : List (List Int)} (h1 : l.length ≤ 1048576) (h2 : l.all (fun x => decide (x.length ≤ 1048576)) = true) : okLL l = true := by
  unfold okLL
  rw [Bool.and_eq_true]
  exact ⟨okL_of h1, List.all_eq_true.2 fun x hx => okL_of (of_decide_eq_true (List.all_eq_true.1 h2 x hx))⟩
end Go.V.W
set_option linter.unusedVariables false
set_option linter.unusedSimpArgs false
namespace Go.V.W
open Go.Proofs
theorem edge_nat {n : Nat} {e : E} (h : edgeB (n : Int) e = true) : ∃ a b : Nat, a < b ∧ b < n ∧ e = ((a : Int), (b : Int), ()) := by
  obtain ⟨h1, h2, h3, h4⟩ := edgeB_nat h
  exact ⟨_, _, h1, h2, by rw [← h3, ← h4]⟩
theorem toI_zero (n : Nat) : List.replicate n (0 : Int) = toI (List.replicate n 0) := by simp [toI]
theorem nonneg_dec (y : Nat) : decide (0 ≤ (y : Int)) = true := by simp
theorem netOf_l0 (N : Nat) (n : Nat) (hn : n ≤ 8) (z : Nt) (u : Unit) (es : List E) (hl : es.length ≤ lim) (he : es.all (edgeB (n : Int)) = true) : ∀ k j (ms : List Nat), okN n ms → es.length ≤ j + k → j ≤ es.length →
    impl_netOf_l0 N (k + 1) (z, (toI ms, u), es, (es.length : Int), (j : Int), ()) = some (.inl (z, (toI ((es.drop j).foldl addN ms), u), ())) := by
  intro k
  induction k with
  | zero =>
    intro j ms hm h1 h2
    have e : j = es.length := by omega
    subst e
    rw [List.drop_of_length_le (Nat.le_refl _)]
    simp [impl_netOf_l0, impl_netOf_l0_r]
  | succ k ih =>
    intro j ms hm h1 h2
    by_cases hj : j < es.length
    · have hee : edgeB (n : Int) (at_ K_Piiq es j) = true := all_at_of (e := K_Piiq) he hj
      have hat : at_ K_Piiq es j = es[j] := at_get (e := K_Piiq) hj
      obtain ⟨a, b, hab, hb, hx⟩ := edge_nat hee
      have k1 := addN_ok hn hm hee
      have ha8 : a < 8 := by omega
      have hb8 : b < 8 := by omega
      have o1 := orN_ok hm (show a < n by omega) hb8
      show impl_netOf_l0_r N (impl_netOf_l0 N (k + 1)) (z, (toI ms, u), es, (es.length : Int), (j : Int), ()) = _
      unfold impl_netOf_l0_r
      have i1 : idxIn (a : Int) ms.length = true := idxIn_nat (by rw [hm.1]; omega)
      have i2 : idxIn (b : Int) ms.length = true := idxIn_nat (by rw [hm.1]; omega)
      have p1 := pow_small hb8
      have p2 := pow_small ha8
      simp only [lt_dec hj, if_true, idxIn_nat hj, Int.toNat_natCast, wrap_up hj (lim_max hl), hx, toI_len, i1, i2, nonneg_dec, shl_one hb8, shl_one ha8, at_toI, bits_or (hm.2 a) p1, toI_set, List.length_set]
      have hb2 : (ms.set a (ms.getD a 0 ||| 2 ^ b)).getD b 0 < 256 := o1.2 b
      simp only [bits_or hb2 p2, toI_set]
      rw [List.drop_eq_getElem_cons hj, List.foldl_cons, ← hat, hx]
      have hadd : addN ms ((a : Int), (b : Int), ()) = (ms.set a (ms.getD a 0 ||| 2 ^ b)).set b ((ms.set a (ms.getD a 0 ||| 2 ^ b)).getD b 0 ||| 2 ^ a) := by
        simp only [addN, orN, Int.toNat_natCast]
      rw [hx] at k1
      rw [hadd] at k1 ⊢
      exact ih (j + 1) _ k1 (by omega) (by omega)
    · have e : j = es.length := by omega
      subst e
      rw [List.drop_of_length_le (Nat.le_refl _)]
      simp [impl_netOf_l0, impl_netOf_l0_r]
theorem netOf_lim (d) (r) (h : G_netOf d = some r) : ∃ N, F_impl_netOf N d = some r := by
  obtain ⟨⟨n, es, u⟩, w⟩ := d
  unfold G_netOf at h
  split at h
  · rename_i hc
    simp only [Bool.and_eq_true, decide_eq_true_eq] at hc
    obtain ⟨⟨⟨h0, h8⟩, hl⟩, he⟩ := hc
    have h := Option.some.inj h
    subst h
    obtain ⟨m, rfl⟩ : ∃ m : Nat, n = (m : Int) := ⟨n.toNat, by omega⟩
    have hm8 : m ≤ 8 := by omega
    refine ⟨es.length + 1, ?_⟩
    unfold F_impl_netOf
    have hc : (decide (0 ≤ (m : Int)) && decide ((m : Int) ≤ (m : Int)) && decide ((m : Int) ≤ (lim : Int))) = true := by
      have a1 : (m : Int) ≤ (lim : Int) := by unfold lim; omega
      simp only [a1, nonneg_dec, decide_true, Bool.and_self, Int.le_refl]
    have := netOf_l0 (es.length + 1) m hm8 (([] : List Int), ()) () es (okL_lim hl) he es.length 0 _ (okN_zero m) (by omega) (by omega)
    simp only [Int.natCast_zero, List.drop_zero] at this
    simp only [hc, if_true, Int.toNat_natCast, toI_zero, this, Option.bind_some]
    rfl
  · cases h
theorem l1Has_lim (d) (r) (h : G_l1Has d = some r) : ∃ N, F_spec_l1Has N d = some r := by
  obtain ⟨l, x, _⟩ := d
  unfold G_l1Has at h
  split at h
  · rename_i hl
    have hl : l.length ≤ lim := okL_lim hl
    have h := Option.some.inj h
    subst h
    refine ⟨l.length + 1, ?_⟩
    unfold F_spec_l1Has
    have := loop_idx (L := spec_l1Has_l0 (l.length + 1)) (r := spec_l1Has_l0_r (l.length + 1)) (fun _ _ => rfl) (e := I) l (mk := fun i => (l, x, (i : Int), ())) (q := fun y => y == x) (o := fun _ => .inl (true, ())) (f := .inr (.inl ()))
      (by
        intro back i hi
        unfold spec_l1Has_l0_r
        simp only [lt_dec hi, if_true, idxIn_nat hi, Int.toNat_natCast, wrap_up hi (lim_max hl)])
      (by intro back; unfold spec_l1Has_l0_r; simp only [lt_not, Bool.false_eq_true, if_false]) l.length 0 (by omega) (by omega)
    simp only [Int.natCast_zero, List.drop_zero] at this
    have hge := idxI_ge (fun y => y == x) l 0
    simp only [this, Option.bind_some, ← hge]
    cases idxN (fun y => y == x) l 0 with
    | none => rfl
    | some j => simp [idxI]
  · cases h
theorem inB_iff {lo hi x : Int} : inB lo hi x = true ↔ lo ≤ x ∧ x ≤ hi := by simp [inB]
theorem graphB_edges {n : Int} {l : List E} {u : Unit} (h : graphB (n, l, u) = true) : l.all (edgeB n) = true ∧ risingE l = true := by
  unfold graphB at h
  simp only [Bool.and_eq_true] at h
  exact ⟨h.1.2, h.2⟩
end Go.V.W
set_option linter.unusedVariables false
set_option linter.unusedSimpArgs false
namespace Go.V.W
open Go.Proofs
theorem smallN_nat {l : List Int} (h : smallN l = true) : l = toI (fromI l) ∧ okN l.length (fromI l) ∧ l.length ≤ 8 := by
  unfold smallN at h
  simp only [Bool.and_eq_true, decide_eq_true_eq, List.all_eq_true] at h
  refine ⟨?_, ⟨by simp [fromI], fun x => ?_⟩, h.1⟩
  · unfold toI fromI
    rw [List.map_map]
    have : ∀ m ∈ l, ((fun m : Nat => (m : Int)) ∘ Int.toNat) m = m := fun m hm => by
      have := h.2 m hm
      simp only [Function.comp]
      omega
    exact (List.map_congr_left this).trans (List.map_id' l) |>.symm
  · unfold fromI
    simp only [List.getD_eq_getElem?_getD, List.getElem?_map]
    cases hx : l[x]? with
    | none => simp
    | some m =>
      have := h.2 m (List.mem_of_getElem? hx)
      simp only [Option.map_some, Option.getD_some]
      omega
end Go.V.W
set_option linter.unusedVariables false
set_option linter.unusedSimpArgs false
namespace Go.V.W
theorem setF_congr {p q : Nat → Bool} : ∀ {k x : Nat}, (∀ y, x ≤ y → y < x + k → p y = q y) → setF p k x = setF q k x := by
  intro k
  induction k with
  | zero => intro x _; rfl
  | succ k ih =>
    intro x h
    simp only [setF, h x (Nat.le_refl _) (by omega), ih (x := x + 1) fun y h1 h2 => h y (by omega) (by omega)]
theorem setF_mem {p : Nat → Bool} : ∀ {k x : Nat} {z : Int}, z ∈ setF p k x ↔ ∃ y : Nat, x ≤ y ∧ y < x + k ∧ p y = true ∧ z = (y : Int) := by
  intro k
  induction k with
  | zero => intro x z; simp only [setF, List.not_mem_nil, false_iff]; rintro ⟨y, h1, h2, _⟩; omega
  | succ k ih =>
    intro x z
    unfold setF
    by_cases h : p x = true
    · rw [if_pos h, List.mem_cons, ih]
      constructor
      · rintro (rfl | ⟨y, h1, h2, h3, h4⟩)
        · exact ⟨x, Nat.le_refl _, by omega, h, rfl⟩
        · exact ⟨y, by omega, by omega, h3, h4⟩
      · rintro ⟨y, h1, h2, h3, h4⟩
        by_cases e : y = x
        · subst e; exact .inl h4
        · exact .inr ⟨y, by omega, by omega, h3, h4⟩
    · rw [if_neg h, ih]
      constructor
      · rintro ⟨y, h1, h2, h3, h4⟩
        exact ⟨y, by omega, by omega, h3, h4⟩
      · rintro ⟨y, h1, h2, h3, h4⟩
        by_cases e : y = x
        · subst e; exact absurd h3 h
        · exact ⟨y, by omega, by omega, h3, h4⟩
theorem setF_len {p : Nat → Bool} : ∀ {k x : Nat}, (setF p k x).length ≤ k := by
  intro k
  induction k with
  | zero => intro x; simp [setF]
  | succ k ih =>
    intro x
    unfold setF
    split
    · have := ih (x := x + 1); simp; omega
    · have := ih (x := x + 1); omega
theorem putL_low {p : Nat → Bool} {z : Nat} : ∀ {k y : Nat}, z < y → putL (z : Int) (setF p k y) = (z : Int) :: setF p k y := by
  intro k
  induction k with
  | zero => intro y _; rfl
  | succ k ih =>
    intro y h
    unfold setF
    split
    · have h1 : ¬ (y : Int) < (z : Int) := by omega
      have h2 : ¬ (y : Int) = (z : Int) := by omega
      simp only [putL, h1, h2, if_false]
    · exact ih (by omega)
theorem putL_set {p : Nat → Bool} {z : Nat} : ∀ {k x : Nat}, x ≤ z → z < x + k → putL (z : Int) (setF p k x) = setF (fun y => p y || decide (y = z)) k x := by
  intro k
  induction k with
  | zero => intro x h1 h2; omega
  | succ k ih =>
    intro x h1 h2
    by_cases e : x = z
    · subst e
      have hc : setF (fun y => p y || decide (y = x)) k (x + 1) = setF p k (x + 1) := setF_congr fun y h1 h2 => by
        have : ¬ y = x := by omega
        simp [this]
      by_cases hp : p x = true
      · simp only [setF, hp, if_true, decide_true, Bool.or_self, hc, putL]
        have : ¬ (x : Int) < (x : Int) := by omega
        simp only [this, if_false, if_true]
      · have hp' : p x = false := by simpa using hp
        simp only [setF, hp', Bool.false_eq_true, if_false, decide_true, Bool.or_true, if_true, hc]
        exact putL_low (by omega)
    · have hd : decide (x = z) = false := by simp [e]
      have hlt : (x : Int) < (z : Int) := by omega
      by_cases hp : p x = true
      · simp only [setF, hp, if_true, hd, Bool.or_false, putL, hlt, ih (x := x + 1) (by omega) (by omega)]
      · have hp' : p x = false := by simpa using hp
        simp only [setF, hp', hd, Bool.or_false, Bool.false_eq_true, if_false, ih (x := x + 1) (by omega) (by omega)]
theorem putAll_set {n : Nat} : ∀ (bs : List Int) (p : Nat → Bool), (∀ z ∈ bs, ∃ y : Nat, y < n ∧ z = (y : Int)) → putAll (setF p n 0) bs = setF (fun y => p y || bs.any (fun z => z == (y : Int))) n 0 := by
  intro bs
  induction bs with
  | nil => intro p _; exact setF_congr fun y _ _ => by simp
  | cons z bs ih =>
    intro p h
    obtain ⟨y0, h1, rfl⟩ := h z (by simp)
    show putAll (putL (y0 : Int) (setF p n 0)) bs = _
    rw [putL_set (Nat.zero_le _) (by omega), ih _ fun z hz => h z (by simp [hz])]
    refine setF_congr fun y _ _ => ?_
    simp only [List.any_cons, Bool.or_assoc]
    congr 2
    by_cases e : y = y0
    · simp [e]
    · have : ¬ (y0 : Int) = (y : Int) := by omega
      simp [e, this]
theorem any_setF {p : Nat → Bool} {n y : Nat} (hy : y < n) : (setF p n 0).any (fun z => z == (y : Int)) = p y := by
  apply Bool.eq_iff_iff.2
  rw [List.any_eq_true]
  constructor
  · rintro ⟨z, hz, h⟩
    obtain ⟨u, _, h2, h3, rfl⟩ := setF_mem.1 hz
    have : (u : Int) = (y : Int) := by simpa using h
    have : u = y := by omega
    subst this
    exact h3
  · intro h
    exact ⟨(y : Int), setF_mem.2 ⟨y, Nat.zero_le _, by omega, h, rfl⟩, by simp⟩
theorem ballL_set {n : Nat} {es : List E} {x : Nat} (hx : x < n) : ballL n es (x : Int) = setF (fun y => nearI es (x : Int) (y : Int) || decide (y = x)) n 0 := by
  unfold ballL
  exact putL_set (Nat.zero_le _) (by omega)
theorem setF_nat {p : Nat → Bool} {n : Nat} : ∀ z ∈ setF p n 0, ∃ y : Nat, y < n ∧ z = (y : Int) := by
  intro z hz
  obtain ⟨y, _, h2, _, h4⟩ := setF_mem.1 hz
  exact ⟨y, by omega, h4⟩
theorem setF_empty {n x : Nat} : setF (fun _ => false) n x = [] := by
  induction n generalizing x with
  | zero => rfl
  | succ n ih => simp [setF, ih]
/-- Bits that stand for a set of nodes. -/
def isM (n : Nat) (m : Nat) (p : Nat → Bool) : Prop := m < 256 ∧ ∀ y, m.testBit y = (decide (y < n) && p y)
theorem arN_bit {n : Nat} {ms : List Nat} (hm : okN n ms) (s : Nat) : ∀ k x o, o < 256 → arN ms s k x o < 256 ∧ ∀ y, (arN ms s k x o).testBit y = (o.testBit y || (List.range' x k).any fun u => s.testBit u && (ms.getD u 0).testBit y) := by
  intro k
  induction k with
  | zero => intro x o h; exact ⟨h, fun y => by simp [arN]⟩
  | succ k ih =>
    intro x o h
    have ho : (if s.testBit x = true then o ||| ms.getD x 0 else o) < 256 := by
      split
      · exact Nat.or_lt_two_pow (n := 8) h (hm.2 x)
      · exact h
    obtain ⟨k1, k2⟩ := ih (x + 1) _ ho
    refine ⟨k1, fun y => ?_⟩
    show (arN ms s k (x + 1) (if s.testBit x = true then o ||| ms.getD x 0 else o)).testBit y = _
    rw [k2 y, List.range'_succ, List.any_cons, ← Bool.or_assoc]
    congr 1
    by_cases hs : s.testBit x = true
    · simp [hs]
    · simp [hs]
theorem isE_near (es : List E) {n : Nat} (h : es.all (edgeB (n : Int)) = true) (x y : Nat) : es.any (fun e => isE e x y) = nearI es (x : Int) (y : Int) := by
  unfold nearI
  apply Bool.eq_iff_iff.2
  simp only [List.any_eq_true, isE, Bool.or_eq_true, Bool.and_eq_true, decide_eq_true_eq, beq_iff_eq]
  constructor
  · rintro ⟨e, he, h1⟩
    obtain ⟨k1, k2, k3, k4⟩ := edgeB_nat (List.all_eq_true.1 h e he)
    exact ⟨e, he, by omega⟩
  · rintro ⟨e, he, h1⟩
    obtain ⟨k1, k2, k3, k4⟩ := edgeB_nat (List.all_eq_true.1 h e he)
    exact ⟨e, he, by omega⟩
theorem near_lt {es : List E} {n : Nat} (h : es.all (edgeB (n : Int)) = true) {x y : Nat} (hn : nearI es (x : Int) (y : Int) = true) : y < n := by
  unfold nearI at hn
  simp only [List.any_eq_true, Bool.or_eq_true, Bool.and_eq_true, beq_iff_eq] at hn
  obtain ⟨e, he, h1⟩ := hn
  obtain ⟨k1, k2, k3, k4⟩ := edgeB_nat (List.all_eq_true.1 h e he)
  omega
theorem around_isM {n : Nat} (hn : n ≤ 8) {es : List E} (h : es.all (edgeB (n : Int)) = true) {m : Nat} {p : Nat → Bool} (hm : isM n m p) : isM n (arN (netN n es) m n 0 m) (stepP es n p) := by
  obtain ⟨k1, k2⟩ := arN_bit (netN_ok hn h) m n 0 m hm.1
  refine ⟨k1, fun y => ?_⟩
  rw [k2 y, hm.2 y]
  unfold stepP
  rw [← List.range_eq_range']
  apply Bool.eq_iff_iff.2
  simp only [Bool.or_eq_true, Bool.and_eq_true, List.any_eq_true, List.mem_range, decide_eq_true_eq]
  have hb : ∀ u, ((netN n es).getD u 0).testBit y = nearI es (u : Int) (y : Int) := fun u => by
    have := netN_bit hn h u y
    unfold hasN at this
    rw [this, isE_near es h]
  constructor
  · rintro (⟨h1, h2⟩ | ⟨u, h1, h2, h3⟩)
    · exact ⟨h1, .inl h2⟩
    · rw [hb] at h3
      rw [hm.2 u] at h2
      simp only [Bool.and_eq_true, decide_eq_true_eq] at h2
      exact ⟨near_lt h h3, .inr ⟨u, h1, h2.2, h3⟩⟩
  · rintro ⟨h1, h2 | ⟨u, h2, h3, h4⟩⟩
    · exact .inl ⟨h1, h2⟩
    · refine .inr ⟨u, h2, ?_, by rw [hb]; exact h4⟩
      rw [hm.2 u]
      simp [h2, h3]
theorem setF_split {p : Nat → Bool} : ∀ (a b x : Nat), setF p (a + b) x = setF p a x ++ setF p b (x + a) := by
  intro a
  induction a with
  | zero => intro b x; simp [setF]
  | succ a ih =>
    intro b x
    rw [show a + 1 + b = (a + b) + 1 by omega]
    simp only [setF, ih, show x + 1 + a = x + (a + 1) by omega]
    split <;> simp
theorem setF_mask {n m : Nat} {p : Nat → Bool} (hn : n ≤ 8) (hm : isM n m p) : setF (fun y => m.testBit y) 8 0 = setF p n 0 := by
  rw [show 8 = n + (8 - n) by omega, setF_split]
  have h1 : setF (fun y => m.testBit y) n 0 = setF p n 0 := setF_congr fun y _ h => by
    rw [hm.2 y]
    have : y < n := by omega
    simp [this]
  have h2 : setF (fun y => m.testBit y) (8 - n) (0 + n) = [] := by
    rw [← setF_empty (n := 8 - n) (x := 0 + n)]
    exact setF_congr fun y h _ => by
      rw [hm.2 y]
      have : ¬ y < n := by omega
      simp [this]
  rw [h1, h2, List.append_nil]
end Go.V.W
set_option linter.unusedVariables false
set_option linter.unusedSimpArgs false
namespace Go.V.W
open Go.Proofs
theorem l2Near_lim (d) (r) (h : G_l2Near d = some r) : ∃ N, F_spec_l2Near N d = some r := by
  obtain ⟨g, a, b, _⟩ := d
  unfold G_l2Near at h
  split at h
  · rename_i hl
    have hl : g.2.1.length ≤ lim := okL_lim hl
    have h := Option.some.inj h
    subst h
    refine ⟨g.2.1.length + 1, ?_⟩
    unfold F_spec_l2Near
    have := loop_idx (L := spec_l2Near_l0 (g.2.1.length + 1)) (r := spec_l2Near_l0_r (g.2.1.length + 1)) (fun _ _ => rfl) (e := K_Piiq) g.2.1 (mk := fun i => (a, b, g, (i : Int), ())) (q := fun e => (e.1 == a && e.2.1 == b) || (e.1 == b && e.2.1 == a)) (o := fun _ => .inl (true, ())) (f := .inr (.inl ()))
      (by
        intro back i hi
        unfold spec_l2Near_l0_r
        simp only [lt_dec hi, if_true, idxIn_nat hi, Int.toNat_natCast, wrap_up hi (lim_max hl)]
        rcases Bool.eq_false_or_eq_true ((at_ K_Piiq g.2.1 i).1 == a) with c1 | c1 <;> rcases Bool.eq_false_or_eq_true ((at_ K_Piiq g.2.1 i).2.1 == b) with c2 | c2 <;> rcases Bool.eq_false_or_eq_true ((at_ K_Piiq g.2.1 i).1 == b) with c3 | c3 <;> rcases Bool.eq_false_or_eq_true ((at_ K_Piiq g.2.1 i).2.1 == a) with c4 | c4 <;>
          simp only [c1, c2, c3, c4, if_true, if_false, Bool.false_eq_true, Bool.and_true, Bool.and_false, Bool.or_true, Bool.or_false, Bool.true_or, Bool.or_self, Bool.and_self])
      (by intro back; unfold spec_l2Near_l0_r; simp only [lt_not, Bool.false_eq_true, if_false]) g.2.1.length 0 (by omega) (by omega)
    simp only [Int.natCast_zero, List.drop_zero] at this
    have hge := idxI_ge (fun e : E => (e.1 == a && e.2.1 == b) || (e.1 == b && e.2.1 == a)) g.2.1 0
    simp only [this, Option.bind_some, nearI, ← hge]
    cases idxN (fun e : E => (e.1 == a && e.2.1 == b) || (e.1 == b && e.2.1 == a)) g.2.1 0 with
    | none => rfl
    | some j => simp [idxI]
  · cases h
theorem l2Neighbors_l0 (N : Nat) (g : Gr) (x : Int) (n : Nat) (hN : g.1 = (n : Int)) (hn : n ≤ 8) (ho : okL g.2.1 = true) : ∀ (k y f : Nat) (A : List Int), y + k = n → k < f → A.length + k ≤ 1000 →
    spec_l2Neighbors_l0 N f (x, g, A, (y : Int), ()) = some (.inl (A ++ setF (fun y => nearI g.2.1 x (y : Int)) k y, ())) := by
  intro k
  induction k with
  | zero =>
    intro y f A h1 h2 h3
    obtain ⟨f, rfl⟩ : ∃ m, f = m + 1 := ⟨f - 1, by omega⟩
    have e : y = n := by omega
    subst e
    simp [spec_l2Neighbors_l0, spec_l2Neighbors_l0_r, setF, hN]
  | succ k ih =>
    intro y f A h1 h2 h3
    obtain ⟨f, rfl⟩ : ∃ m, f = m + 1 := ⟨f - 1, by omega⟩
    have hy : y < n := by omega
    show spec_l2Neighbors_l0_r N (spec_l2Neighbors_l0 N f) (x, g, A, (y : Int), ()) = _
    unfold spec_l2Neighbors_l0_r
    have hw : IntKind.wrap .i64 ((y : Int) + 1) = ((y + 1 : Nat) : Int) := by
      rw [wrap_in _ (by omega) (by omega)]
      rfl
    have hle : decide (A.length + List.length [(y : Int)] ≤ lim) = true := by
      unfold lim
      simp
      omega
    simp only [hN, lt_dec hy, if_true, G_l2Near, ho, Option.bind_some, hle, hw]
    unfold setF
    by_cases hh : nearI g.2.1 x (y : Int) = true
    · rw [if_pos hh, if_pos hh, ih (y + 1) f _ (by omega) (by omega) (by simp; omega)]
      simp
    · rw [if_neg hh, if_neg hh]
      exact ih (y + 1) f A (by omega) (by omega) (by omega)
theorem l2Neighbors_lim (d) (r) (h : G_l2Neighbors d = some r) : ∃ N, F_spec_l2Neighbors N d = some r := by
  obtain ⟨g, x, _⟩ := d
  unfold G_l2Neighbors at h
  split at h
  · rename_i hc
    simp only [Bool.and_eq_true, decide_eq_true_eq] at hc
    obtain ⟨⟨h1, h2⟩, h3⟩ := hc
    have h := Option.some.inj h
    subst h
    refine ⟨20, ?_⟩
    unfold F_spec_l2Neighbors
    have := l2Neighbors_l0 20 g x g.1.toNat (by omega) (by omega) h1 g.1.toNat 0 20 [] (by omega) (by omega) (by simp; omega)
    simp only [Int.natCast_zero, List.nil_append] at this
    simp only [this, Option.bind_some]
  · cases h
def lowN (x : Int) : List Int → Nat
  | [] => 0
  | a :: l => if a < x then lowN x l + 1 else 0
theorem lowN_le (x : Int) : ∀ l, lowN x l ≤ l.length := by
  intro l
  induction l with
  | nil => simp [lowN]
  | cons a l ih => simp only [lowN]; split <;> simp; omega
theorem l1Put_l0 (N : Nat) (l : List Int) (x : Int) (hl : l.length ≤ 1000) : ∀ (k i f : Nat), i + k = l.length → k < f → spec_l1Put_l0 N f (l, x, (i : Int), ()) = some (.inl (l, x, ((i + lowN x (l.drop i) : Nat) : Int), ())) := by
  have hmx : l.length ≤ maxLen := by unfold maxLen; omega
  intro k
  induction k with
  | zero =>
    intro i f h1 h2
    obtain ⟨f, rfl⟩ : ∃ m, f = m + 1 := ⟨f - 1, by omega⟩
    have e : i = l.length := by omega
    subst e
    rw [List.drop_of_length_le (Nat.le_refl _)]
    simp [spec_l1Put_l0, spec_l1Put_l0_r, lowN]
  | succ k ih =>
    intro i f h1 h2
    obtain ⟨f, rfl⟩ : ∃ m, f = m + 1 := ⟨f - 1, by omega⟩
    have hi : i < l.length := by omega
    show spec_l1Put_l0_r N (spec_l1Put_l0 N f) (l, x, (i : Int), ()) = _
    unfold spec_l1Put_l0_r
    have e : at_ I l i = l[i] := at_get (e := I) hi
    rw [List.drop_eq_getElem_cons hi]
    simp only [lt_dec hi, if_true, idxIn_nat hi, Int.toNat_natCast, wrap_up hi hmx, e, lowN]
    by_cases c : l[i] < x
    · simp only [c, decide_true, if_true]
      rw [ih (i + 1) f (by omega) (by omega)]
      congr 5
      omega
    · simp only [c, decide_false, Bool.false_eq_true, if_false, Nat.add_zero]
theorem putL_low' (x : Int) : ∀ l : List Int, putL x l = if h : lowN x l < l.length then (if l[lowN x l] = x then l else l.take (lowN x l) ++ [x] ++ l.drop (lowN x l)) else l ++ [x] := by
  intro l
  induction l with
  | nil => rfl
  | cons a l ih =>
    simp only [putL, lowN]
    by_cases c : a < x
    · simp only [c, if_true, ih, List.length_cons, Nat.add_lt_add_iff_right, List.getElem_cons_succ, List.take_succ_cons, List.drop_succ_cons]
      split
      · split <;> simp
      · simp
    · by_cases c2 : a = x
      · simp [c, c2]
      · simp [c, c2]
theorem l1Put_lim (d) (r) (h : G_l1Put d = some r) : ∃ N, F_spec_l1Put N d = some r := by
  obtain ⟨l, x, _⟩ := d
  unfold G_l1Put at h
  split at h
  · rename_i hl
    have hl : l.length ≤ 1000 := of_decide_eq_true hl
    have h := Option.some.inj h
    subst h
    refine ⟨l.length + 1, ?_⟩
    unfold F_spec_l1Put
    have := l1Put_l0 (l.length + 1) l x hl l.length 0 (l.length + 1) (by omega) (by omega)
    simp only [Int.natCast_zero, List.drop_zero, Nat.zero_add] at this
    have hk := lowN_le x l
    generalize hkk : lowN x l = k at this hk
    simp only [this, Option.bind_some, putL_low', hkk]
    have hL : (lim : Int) = 1099511627776 := rfl
    have c0 : (decide (0 ≤ (0 : Int)) && decide ((0 : Int) ≤ (k : Int)) && decide ((k : Int) ≤ (l.length : Int))) = true := by simp; omega
    have c1 : decide (List.length ([] : List Int) + List.length (sub_ l (0 : Int) (k : Int)) ≤ lim) = true := by unfold lim sub_; simp; omega
    have c2 : decide (List.length (([] : List Int) ++ sub_ l (0 : Int) (k : Int)) + List.length [x] ≤ lim) = true := by unfold lim sub_; simp; omega
    have c3 : (decide (0 ≤ (k : Int)) && decide ((k : Int) ≤ (l.length : Int)) && decide ((l.length : Int) ≤ (l.length : Int))) = true := by simp; omega
    have c4 : decide (List.length (([] : List Int) ++ sub_ l (0 : Int) (k : Int) ++ [x]) + List.length (sub_ l (k : Int) (l.length : Int)) ≤ lim) = true := by unfold lim sub_; simp; omega
    have e1 : sub_ l (0 : Int) (k : Int) = l.take k := by simp [sub_]
    have e2 : sub_ l (k : Int) (l.length : Int) = l.drop k := by simp [sub_]
    by_cases hlt : k < l.length
    · have e : at_ I l k = l[k] := at_get (e := I) hlt
      simp only [lt_dec hlt, if_true, idxIn_nat hlt, Int.toNat_natCast, e, hlt, dite_true, c0, c1, c2, c3, c4]
      by_cases c : l[k] = x
      · simp [c]
      · have c' : (l[k] == x) = false := by simpa using c
        simp only [c', c, Bool.false_eq_true, if_false, e1, e2, List.nil_append]
    · have hlt' : decide ((k : Int) < (l.length : Int)) = false := by simp; omega
      have ek : k = l.length := by omega
      simp only [hlt', Bool.false_eq_true, if_false, c0, c1, c2, c3, c4, if_true, hlt, dite_false, e1, e2, List.nil_append]
      subst ek
      simp
      unfold lim
      omega
  · cases h
theorem putL_len (x : Int) : ∀ l : List Int, (putL x l).length ≤ l.length + 1 := by
  intro l
  induction l with
  | nil => simp [putL]
  | cons a l ih =>
    simp only [putL]
    split
    · simp; omega
    · split <;> simp
theorem ball_len {n : Nat} {es : List E} {x : Int} : (ballL n es x).length ≤ n + 1 := by
  unfold ballL
  have h1 := putL_len x (setF (fun y => nearI es x (y : Int)) n 0)
  have h2 := setF_len (p := fun y => nearI es x (y : Int)) (k := n) (x := 0)
  omega
theorem putAll_len : ∀ (bs o : List Int), (putAll o bs).length ≤ o.length + bs.length := by
  intro bs
  induction bs with
  | nil => intro o; simp [putAll]
  | cons z bs ih =>
    intro o
    have h1 := ih (putL z o)
    have h2 := putL_len z o
    show (putAll (putL z o) bs).length ≤ _
    simp only [List.length_cons]
    omega
theorem shr_bit {m y : Nat} (hm : m < 256) (h : y < 8) : (bits .and .i64 (shr .i64 (m : Int) (y : Int)) 1 == (1 : Int)) = m.testBit y := has_bit hm h
theorem around_l0 (N : Nat) (ms : List Nat) (n : Nat) (hm : okN n ms) (hn : n ≤ 8) (s : Nat) (hs : s < 256) : ∀ (k x f o : Nat), o < 256 → x + k = n → k < f →
    impl_net_around_l0 N f ((s : Int), (o : Int), toI ms, (n : Int), (x : Int), ()) = some (.inl (((arN ms s k x o : Nat) : Int), ())) := by
  intro k
  induction k with
  | zero =>
    intro x f o h0 h1 h2
    obtain ⟨f, rfl⟩ : ∃ m, f = m + 1 := ⟨f - 1, by omega⟩
    have e : x = n := by omega
    subst e
    simp [impl_net_around_l0, impl_net_around_l0_r, arN]
  | succ k ih =>
    intro x f o h0 h1 h2
    obtain ⟨f, rfl⟩ : ∃ m, f = m + 1 := ⟨f - 1, by omega⟩
    have hx : x < n := by omega
    show impl_net_around_l0_r N (impl_net_around_l0 N f) ((s : Int), (o : Int), toI ms, (n : Int), (x : Int), ()) = _
    unfold impl_net_around_l0_r
    have hw : IntKind.wrap .i64 ((x : Int) + 1) = ((x + 1 : Nat) : Int) := by
      rw [wrap_in _ (by omega) (by omega)]
      rfl
    have i1 : idxIn (x : Int) ms.length = true := idxIn_nat (by rw [hm.1]; exact hx)
    simp only [lt_dec hx, if_true, toI_len, i1, nonneg_dec, shr_bit hs (show x < 8 by omega), Int.toNat_natCast, at_toI, bits_or h0 (hm.2 x), hw, arN]
    by_cases hb : s.testBit x = true
    · rw [if_pos hb, if_pos hb]
      exact ih (x + 1) f _ (Nat.or_lt_two_pow (n := 8) h0 (hm.2 x)) (by omega) (by omega)
    · rw [if_neg hb, if_neg hb]
      exact ih (x + 1) f o h0 (by omega) (by omega)
theorem around_lim (d) (r) (h : G_around d = some r) : ∃ N, F_impl_net_around N d = some r := by
  obtain ⟨⟨l, u⟩, s, _⟩ := d
  unfold G_around at h
  split at h
  · rename_i hc
    simp only [Bool.and_eq_true, decide_eq_true_eq] at hc
    obtain ⟨⟨h1, h2⟩, h3⟩ := hc
    obtain ⟨e, hm, h8⟩ := smallN_nat h1
    have h := Option.some.inj h
    subst h
    refine ⟨20, ?_⟩
    unfold F_impl_net_around
    have hs : s = (s.toNat : Int) := by omega
    have := around_l0 20 (fromI l) l.length hm h8 s.toNat (by omega) l.length 0 20 s.toNat (by omega) (by omega) (by omega)
    rw [← e, ← hs] at this
    simp only [Int.natCast_zero] at this
    simp only [this, Option.bind_some]
  · cases h
theorem setOf_l0 (N : Nat) (s : Nat) (hs : s < 256) : ∀ (k x f : Nat) (A : List Int), x + k = 8 → k < f → A.length + k ≤ 100 →
    impl_setOf_l0 N f ((s : Int), A, (x : Int), ()) = some (.inl (A ++ setF (fun y => s.testBit y) k x, ())) := by
  intro k
  induction k with
  | zero =>
    intro x f A h1 h2 h3
    obtain ⟨f, rfl⟩ : ∃ m, f = m + 1 := ⟨f - 1, by omega⟩
    have e : x = 8 := by omega
    subst e
    have : shr .i64 (s : Int) ((8 : Nat) : Int) = 0 := by
      unfold shr
      have e : min ((8 : Nat) : Int).toNat IntKind.i64.bits = 8 := by decide
      rw [e, Int.fdiv_eq_ediv_of_nonneg _ (by decide)]
      omega
    show impl_setOf_l0_r N (impl_setOf_l0 N f) ((s : Int), A, ((8 : Nat) : Int), ()) = _
    unfold impl_setOf_l0_r
    have h8 : decide (0 ≤ ((8 : Nat) : Int)) = true := by decide
    have hz : ((0 : Int) != 0) = false := by decide
    simp only [h8, if_true, this, hz, Bool.false_eq_true, if_false, setF, List.append_nil]
  | succ k ih =>
    intro x f A h1 h2 h3
    obtain ⟨f, rfl⟩ : ∃ m, f = m + 1 := ⟨f - 1, by omega⟩
    have hx : x < 8 := by omega
    show impl_setOf_l0_r N (impl_setOf_l0 N f) ((s : Int), A, (x : Int), ()) = _
    unfold impl_setOf_l0_r
    have hw : IntKind.wrap .i64 ((x : Int) + 1) = ((x + 1 : Nat) : Int) := by
      rw [wrap_in _ (by omega) (by omega)]
      rfl
    have hle : decide (A.length + List.length [(x : Int)] ≤ lim) = true := by
      unfold lim
      simp
      omega
    simp only [nonneg_dec, if_true, shr_bit hs hx, hle, hw]
    by_cases hz : s >>> x = 0
    · have e1 : (shr .i64 (s : Int) (x : Int) != (0 : Int)) = false := by rw [shr_nat hx, hz]; decide
      simp only [e1, Bool.false_eq_true, if_false]
      have e2 : setF (fun y => s.testBit y) (k + 1) x = [] := by
        rw [← setF_empty (n := k + 1) (x := x)]
        refine setF_congr fun y h _ => ?_
        have : s < 2 ^ x := by
          rw [Nat.shiftRight_eq_div_pow] at hz
          exact (Nat.div_eq_zero_iff_lt (Nat.two_pow_pos x)).1 hz
        exact Nat.testBit_lt_two_pow (Nat.lt_of_lt_of_le this (Nat.pow_le_pow_right (by omega) h))
      rw [e2, List.append_nil]
    · have e1 : (shr .i64 (s : Int) (x : Int) != (0 : Int)) = true := by
        rw [shr_nat hx]
        have : ((s >>> x : Nat) : Int) ≠ 0 := fun e => hz (by exact_mod_cast e)
        simpa using this
      simp only [e1, if_true]
      unfold setF
      by_cases hb : s.testBit x = true
      · rw [if_pos hb, if_pos hb, ih (x + 1) f _ (by omega) (by omega) (by simp; omega)]
        simp
      · rw [if_neg hb, if_neg hb]
        exact ih (x + 1) f A (by omega) (by omega) (by omega)
theorem setOf_lim (d) (r) (h : G_setOf d = some r) : ∃ N, F_impl_setOf N d = some r := by
  obtain ⟨s, _⟩ := d
  unfold G_setOf at h
  split at h
  · rename_i hc
    simp only [Bool.and_eq_true, decide_eq_true_eq] at hc
    have h := Option.some.inj h
    subst h
    refine ⟨20, ?_⟩
    unfold F_impl_setOf
    have := setOf_l0 20 s.toNat (by omega) 8 0 20 [] (by omega) (by omega) (by simp)
    rw [show ((s.toNat : Nat) : Int) = s by omega] at this
    simp only [Int.natCast_zero, List.nil_append] at this
    simp only [this, Option.bind_some]
  · cases h
end Go.V.W
set_option linter.unusedVariables false
set_option linter.unusedSimpArgs false
namespace Go.V.W
open Go.Proofs
theorem small_toI {n : Nat} {ms : List Nat} (hok : okN n ms) (hn : n ≤ 8) : smallN (toI ms) = true := by
  unfold smallN
  simp only [toI_len, hok.1, Bool.and_eq_true, decide_eq_true_eq, List.all_eq_true]
  refine ⟨hn, fun m hm => ?_⟩
  unfold toI at hm
  obtain ⟨x, hx, rfl⟩ := List.mem_map.1 hm
  obtain ⟨i, hi, rfl⟩ := List.getElem_of_mem hx
  have := hok.2 i
  simp only [List.getD_eq_getElem?_getD, List.getElem?_eq_getElem hi, Option.getD_some] at this
  omega
end Go.V.W
set_option linter.unusedVariables false
set_option linter.unusedSimpArgs false
namespace Go.V.W
theorem isM_congr {n m : Nat} {p q : Nat → Bool} (h : ∀ y, y < n → p y = q y) (hm : isM n m p) : isM n m q := by
  refine ⟨hm.1, fun y => ?_⟩
  rw [hm.2 y]
  by_cases hy : y < n
  · rw [h y hy]
  · simp [hy]
end Go.V.W
set_option linter.unusedVariables false
set_option linter.unusedSimpArgs false
namespace Go.V.W
open Go.Proofs
theorem ball_eq (g : Gr) (n : Nat) (hg : g.1 = (n : Int)) (hn : n ≤ 8) (ho : okL g.2.1 = true) (z : Int) : F_spec_l2Ball 0 (g, z, ()) = some (ballL n g.2.1 z, ()) := by
  unfold F_spec_l2Ball G_l2Neighbors G_l1Put
  have a2 : okS1 (setF (fun y => nearI g.2.1 z (y : Int)) n 0) = true := by
    have := setF_len (p := fun y => nearI g.2.1 z (y : Int)) (k := n) (x := 0)
    exact decide_eq_true (by omega)
  have a3 : (okL g.2.1 && decide (0 ≤ (n : Int)) && decide ((n : Int) ≤ 8)) = true := by
    rw [ho]
    simp
    omega
  simp only [hg, a3, if_true, Int.toNat_natCast, Option.bind_some, a2, ballL]
end Go.V.W
set_option linter.unusedVariables false
set_option linter.unusedSimpArgs false
namespace Go.V.W
theorem tabL_row {n c : Nat} (f : Nat → Nat → Int) (h : c < n) : (tabL n f)[c]? = some ((List.range n).map fun r => f c r) := by
  unfold tabL
  rw [List.getElem?_map, List.getElem?_range h]
  rfl
theorem rowR_get {n r : Nat} (g : Nat → Int) (h : r < n) : ((List.range n).map g)[r]? = some (g r) := by
  rw [List.getElem?_map, List.getElem?_range h]
  rfl
theorem tab2_tabL {n c r : Nat} (f : Nat → Nat → Int) (hc : c < n) (hr : r < n) : tab2 (tabL n f) (c : Int) (r : Int) = f c r := by
  unfold tab2
  simp only [Int.toNat_natCast, List.getD_eq_getElem?_getD, tabL_row f hc, Option.getD_some, rowR_get _ hr]
theorem worst_congr {f g : Int → Int} : ∀ {l : List Int} {m : Int}, (∀ x ∈ l, f x = g x) → worstL f l m = worstL g l m := by
  intro l
  induction l with
  | nil => intro m _; rfl
  | cons b bs ih =>
    intro m h
    simp only [worstL, h b (by simp)]
    rw [ih fun x hx => h x (by simp [hx])]
/-- The greatest of all, or -1. -/
theorem worst_spec (f : Int → Int) : ∀ (l : List Int) (m : Int), (∃ x ∈ l, f x < 0) ∧ worstL f l m = -1 ∨ (∀ x ∈ l, 0 ≤ f x ∧ f x ≤ worstL f l m) ∧ m ≤ worstL f l m ∧ (worstL f l m = m ∨ ∃ x ∈ l, worstL f l m = f x) := by
  intro l
  induction l with
  | nil => intro m; exact .inr ⟨fun x hx => by simp at hx, Int.le_refl _, .inl rfl⟩
  | cons b bs ih =>
    intro m
    simp only [worstL]
    by_cases hb : f b < 0
    · rw [if_pos hb]
      exact .inl ⟨⟨b, by simp, hb⟩, rfl⟩
    · rw [if_neg hb]
      rcases ih (if m < f b then f b else m) with ⟨⟨x, hx, h1⟩, h2⟩ | ⟨h1, h2, h3⟩
      · exact .inl ⟨⟨x, by simp [hx], h1⟩, h2⟩
      · have hge : m ≤ (if m < f b then f b else m) ∧ f b ≤ (if m < f b then f b else m) := by split <;> omega
        refine .inr ⟨fun x hx => ?_, by omega, ?_⟩
        · rcases List.mem_cons.1 hx with rfl | hx
          · omega
          · exact h1 x hx
        · rcases h3 with h3 | ⟨x, hx, h3⟩
          · by_cases hm : m < f b
            · rw [if_pos hm] at h3 ⊢
              exact .inr ⟨b, by simp, h3⟩
            · rw [if_neg hm] at h3 ⊢
              exact .inl h3
          · exact .inr ⟨x, by simp [hx], h3⟩
/-- The balls hold nodes alone. -/
def okBall (n : Nat) (ball : Int → List Int) : Prop := ∀ x : Nat, x < n → ∀ z ∈ ball (x : Int), ∃ y : Nat, y < n ∧ z = (y : Int)
/-- What holds before the round t. -/
structure InvT (n : Nat) (ball : Int → List Int) (t : Nat) (f : Nat → Nat → Int) : Prop where
  pos : 1 ≤ t
  low : ∀ c r, c < n → r < n → -1 ≤ f c r
  high : ∀ c r, c < n → r < n → f c r < (t : Int)
  none : ∀ c r, c < n → r < n → f c r < 0 → ∀ b ∈ ball (c : Int), ¬ (0 ≤ afterT ball (tabL n f) b (r : Int) ∧ afterT ball (tabL n f) b (r : Int) < (t : Int) - 1)
theorem after_high {n : Nat} {ball : Int → List Int} (hb : okBall n ball) {t : Nat} {f : Nat → Nat → Int} (hI : InvT n ball t f) {c r : Nat} (hc : c < n) (hr : r < n) {b : Int} (hbm : b ∈ ball (c : Int)) : afterT ball (tabL n f) b (r : Int) ≤ (t : Int) - 1 := by
  have hp := hI.pos
  unfold afterT
  split
  · omega
  · obtain ⟨b', hb1, rfl⟩ := hb c hc b hbm
    rcases worst_spec (tab2 (tabL n f) (b' : Int)) (ball (r : Int)) 0 with ⟨_, h⟩ | ⟨_, _, h | ⟨x, hx, h⟩⟩
    · omega
    · omega
    · obtain ⟨y, hy, rfl⟩ := hb r hr x hx
      rw [tab2_tabL f hb1 hy] at h
      have := hI.high b' y hb1 hy
      omega
theorem InvT.next {n : Nat} {ball : Int → List Int} (hb : okBall n ball) {t : Nat} {f : Nat → Nat → Int} (hI : InvT n ball t f) : InvT n ball (t + 1) (stepF n ball (t : Int) f) := by
  have hp := hI.pos
  refine ⟨by omega, fun c r hc hr => ?_, fun c r hc hr => ?_, fun c r hc hr hf b hbm => ?_⟩
  · unfold stepF
    split
    · omega
    · exact hI.low c r hc hr
  · unfold stepF
    split
    · omega
    · have := hI.high c r hc hr; omega
  · rintro ⟨h1, h2⟩
    have hst : stepF n ball (t : Int) f c r = f c r ∧ canF n ball f c r = false := by
      unfold stepF at hf ⊢
      by_cases hcan : canF n ball f c r = true
      · rw [if_pos hcan] at hf; omega
      · rw [if_neg hcan]
        exact ⟨rfl, by simpa using hcan⟩
    rw [hst.1] at hf
    have hno : ∀ b ∈ ball (c : Int), ¬ 0 ≤ afterT ball (tabL n f) b (r : Int) := by
      intro b hbm h
      have := hst.2
      unfold canF at this
      simp only [hf, decide_true, Bool.true_and] at this
      have ht : ((ball (c : Int)).any fun b => decide (0 ≤ afterT ball (tabL n f) b (r : Int))) = true := List.any_eq_true.2 ⟨b, hbm, decide_eq_true h⟩
      rw [ht] at this
      cases this
    refine hno b hbm ?_
    unfold afterT at h1 h2 ⊢
    by_cases hbr : b = (r : Int)
    · rw [if_pos hbr]
      exact Int.le_refl _
    · rw [if_neg hbr] at h1 h2 ⊢
      obtain ⟨b', hb1, rfl⟩ := hb c hc b hbm
      rcases worst_spec (tab2 (tabL n (stepF n ball (t : Int) f)) (b' : Int)) (ball (r : Int)) 0 with ⟨_, h⟩ | ⟨hall, _, _⟩
      · omega
      · have e : worstL (tab2 (tabL n f) (b' : Int)) (ball (r : Int)) 0 = worstL (tab2 (tabL n (stepF n ball (t : Int) f)) (b' : Int)) (ball (r : Int)) 0 := by
          refine worst_congr fun x hx => ?_
          obtain ⟨y, hy, rfl⟩ := hb r hr x hx
          have := hall (y : Int) hx
          rw [tab2_tabL _ hb1 hy] at this
          rw [tab2_tabL _ hb1 hy, tab2_tabL _ hb1 hy]
          by_cases hcan : canF n ball f b' y = true
          · have e : stepF n ball (t : Int) f b' y = (t : Int) := if_pos hcan
            rw [e] at this
            omega
          · exact (if_neg hcan).symm
        rw [e]
        exact h1
theorem InvT.start (n : Nat) (ball : Int → List Int) : InvT n ball 1 startF := by
  refine ⟨Nat.le_refl _, fun c r _ _ => ?_, fun c r _ _ => ?_, fun c r _ _ _ b _ h => ?_⟩
  · unfold startF; split <;> omega
  · unfold startF; split <;> omega
  · omega
end Go.V.W
set_option linter.unusedVariables false
set_option linter.unusedSimpArgs false
namespace Go.V.W
open Go.Proofs
theorem grB_parts {g : Gr} (h : grB g = true) : okL g.2.1 = true ∧ g.1 = (g.1.toNat : Int) ∧ g.1.toNat ≤ 8 ∧ g.2.1.all (edgeB (g.1.toNat : Int)) = true := by
  unfold grB at h
  simp only [Bool.and_eq_true, decide_eq_true_eq] at h
  obtain ⟨⟨⟨h1, h2⟩, h3⟩, h4⟩ := h
  have e : g.1 = (g.1.toNat : Int) := by omega
  exact ⟨h1, e, by omega, by rw [← e]; exact h4⟩
theorem ballF_len (n : Nat) (es : List E) (x : Int) : (ballF n es x).length ≤ n := setF_len
theorem ball_some {g : Gr} (h : grB g = true) {x : Nat} (hx : x < g.1.toNat) : F_spec_l2Ball 0 (g, (x : Int), ()) = some (ballF g.1.toNat g.2.1 (x : Int), ()) := by
  obtain ⟨h1, h2, h3, h4⟩ := grB_parts h
  rw [ball_eq g g.1.toNat h2 h3 h1, ballL_set hx]
  show some (setF _ _ _, ()) = some (setF _ _ _, ())
  congr 2
  exact setF_congr fun y _ _ => by
    congr 1
    exact decide_eq_decide.2 (by omega)
theorem inB_nat {n : Int} {x : Int} (hn : n = (n.toNat : Int)) (h : inB 0 (n - 1) x = true) : x = (x.toNat : Int) ∧ x.toNat < n.toNat := by
  have := inB_iff.1 h
  omega
theorem range_snocT (n : Nat) (g : Nat → List Int) : (List.range n).map g ++ [g n] = (List.range (n + 1)).map g := by simp [List.range_succ]
theorem wrap8 {i n : Nat} (h : i < n) (hn : n ≤ 8) : IntKind.wrap .i64 ((i : Int) + 1) = ((i + 1 : Nat) : Int) := by
  rw [wrap_in _ (by omega) (by omega)]
  rfl
theorem map_set (n r : Nat) (g : Nat → Int) (v : Int) : ((List.range n).map g).set r v = (List.range n).map fun j => if j = r then v else g j := by
  apply List.ext_getElem
  · simp
  · intro i h1 h2
    simp only [List.length_set, List.length_map, List.length_range] at h1
    rw [List.getElem_set]
    by_cases e : r = i
    · subst e; simp
    · have e' : ¬ i = r := fun h => e h.symm
      simp [e, e']
theorem own_some (l : List Int) (h : l.length ≤ 1000) : F_spec_l1Own 0 (l, ()) = some (l, ()) := by
  unfold F_spec_l1Own
  have : decide (List.length ([] : List Int) + List.length l ≤ lim) = true := by unfold lim; simp; omega
  simp only [this, if_true, List.nil_append]
end Go.V.W
set_option linter.unusedVariables false
set_option linter.unusedSimpArgs false
namespace Go.V.W
open Go.Proofs
theorem netB_parts {l : List Int} (h : netB l = true) : l = toI (fromI l) ∧ okN l.length (fromI l) ∧ l.length ≤ 8 ∧ ∀ x, x < l.length → (fromI l).getD x 0 < 2 ^ l.length := by
  unfold netB at h
  simp only [Bool.and_eq_true, List.all_eq_true, decide_eq_true_eq] at h
  obtain ⟨h1, h2⟩ := h
  obtain ⟨e, hm, h8⟩ := smallN_nat h1
  refine ⟨e, hm, h8, fun x hx => ?_⟩
  have hx' : x < (fromI l).length := by rw [hm.1]; exact hx
  have h3 := h2 l[x] (List.getElem_mem hx)
  simp only [List.getD_eq_getElem?_getD, List.getElem?_eq_getElem hx', Option.getD_some]
  have e2 : (fromI l)[x] = l[x].toNat := by simp [fromI]
  rw [e2]
  have : 0 < 2 ^ l.length := Nat.two_pow_pos _
  omega
theorem two_lt {x n : Nat} (h : x < n) : 2 ^ x < 2 ^ n := Nat.pow_lt_pow_right (by omega) h
theorem maskM {l : List Int} (h : netB l = true) {x : Nat} (hx : x < l.length) : (fromI l).getD x 0 ||| 2 ^ x < 256 ∧ (fromI l).getD x 0 ||| 2 ^ x < 2 ^ l.length := by
  obtain ⟨e, hm, h8, hb⟩ := netB_parts h
  exact ⟨Nat.or_lt_two_pow (n := 8) (hm.2 x) (pow_small (by omega)), Nat.or_lt_two_pow (hb x hx) (two_lt hx)⟩
theorem ballM_len (l : List Int) (x : Int) : (ballM l x).length ≤ 8 := setF_len
theorem closedM {l : List Int} (h : netB l = true) (u : Unit) {x : Nat} (hx : x < l.length) : F_impl_net_closed 0 ((l, u), (x : Int), ()) = some ((((fromI l).getD x 0 ||| 2 ^ x : Nat) : Int), ()) := by
  obtain ⟨e, hm, h8, hb⟩ := netB_parts h
  unfold F_impl_net_closed
  have i1 : idxIn (x : Int) l.length = true := idxIn_nat hx
  have e1 : at_ I l x = (((fromI l).getD x 0 : Nat) : Int) := by
    have := at_toI (fromI l) x
    rw [← e] at this
    exact this
  simp only [i1, if_true, nonneg_dec, Int.toNat_natCast, e1, shl_one (show x < 8 by omega), bits_or (hm.2 x) (pow_small (show x < 8 by omega))]
theorem setOfM {l : List Int} (h : netB l = true) {x : Nat} (hx : x < l.length) : G_setOf ((((fromI l).getD x 0 ||| 2 ^ x : Nat) : Int), ()) = some (ballM l (x : Int), ()) := by
  have hm := (maskM h hx).1
  unfold G_setOf
  have b2 : decide ((((fromI l).getD x 0 ||| 2 ^ x : Nat) : Int) < 256) = true := by
    simp only [decide_eq_true_eq]
    omega
  simp only [nonneg_dec, b2, Bool.and_self, if_true, Int.toNat_natCast]
  rfl
theorem inB_len {n : Nat} {x : Int} (h : inB 0 ((n : Int) - 1) x = true) : x = (x.toNat : Int) ∧ x.toNat < n := by
  have := inB_iff.1 h
  omega
theorem at_midS (pre : Tab) (x : List Int) (post : Tab) : at_ K_Si (pre ++ x :: post) pre.length = x := by
  rw [at_get (e := K_Si) (by simp)]
  simp
theorem set_midS (pre : Tab) (x y : List Int) (post : Tab) : List.set (pre ++ x :: post) pre.length y = pre ++ y :: post := by simp
theorem netB_net {n : Nat} (hn : n ≤ 8) {es : List E} (h : es.all (edgeB (n : Int)) = true) : netB (toI (netN n es)) = true ∧ (toI (netN n es)).length = n := by
  have hok := netN_ok hn h
  have hl : (toI (netN n es)).length = n := by rw [toI_len, hok.1]
  refine ⟨?_, hl⟩
  unfold netB
  rw [small_toI hok hn, Bool.true_and, List.all_eq_true, hl]
  intro m hm
  unfold toI at hm
  obtain ⟨a, ha, rfl⟩ := List.mem_map.1 hm
  obtain ⟨i, hi, rfl⟩ := List.getElem_of_mem ha
  have hlt : (netN n es)[i] < 2 ^ n := by
    refine Nat.lt_pow_two_of_testBit _ fun j hj => ?_
    have hb := netN_bit hn h i j
    unfold hasN at hb
    simp only [List.getD_eq_getElem?_getD, List.getElem?_eq_getElem hi, Option.getD_some] at hb
    rw [hb, isE_near es h]
    cases hnr : nearI es (i : Int) (j : Int) with
    | false => rfl
    | true => have := near_lt h hnr; omega
  simp only [decide_eq_true_eq]
  omega
theorem ball_same {n : Nat} (hn : n ≤ 8) {es : List E} (h : es.all (edgeB (n : Int)) = true) {x : Nat} (hx : x < n) : ballM (toI (netN n es)) (x : Int) = ballF n es (x : Int) := by
  unfold ballM ballF
  have hok := netN_ok hn h
  have hM : isM n ((netN n es).getD x 0 ||| 2 ^ x) (fun y => nearI es (x : Int) (y : Int) || decide ((y : Int) = (x : Int))) := by
    refine ⟨Nat.or_lt_two_pow (n := 8) (hok.2 x) (pow_small (by omega)), fun w => ?_⟩
    rw [Nat.testBit_or, Nat.testBit_two_pow]
    have hb := netN_bit hn h x w
    unfold hasN at hb
    rw [hb, isE_near es h]
    apply Bool.eq_iff_iff.2
    simp only [Bool.or_eq_true, Bool.and_eq_true, decide_eq_true_eq]
    constructor
    · rintro (h' | h')
      · exact ⟨near_lt h h', .inl h'⟩
      · subst h'
        exact ⟨hx, .inr rfl⟩
    · rintro ⟨h1, h2 | h2⟩
      · exact .inl h2
      · exact .inr (by omega)
  simp only [toI_from, Int.toNat_natCast]
  exact setF_mask hn hM
theorem graph_grB {n : Int} {l : List E} {v : Unit} (h : graphB (n, l, v) = true) (hl : okL l = true) : grB (n, l, v) = true := by
  have h8 := graphB_n h
  have he := (graphB_edges h).1
  unfold grB
  have e1 : decide (0 ≤ n) = true := by simp; omega
  have e2 : decide (n ≤ 8) = true := by simp; omega
  simp only [hl, e1, e2, he, Bool.and_self]
end Go.V.W
set_option linter.unusedVariables false
set_option linter.unusedSimpArgs false
namespace Go.V.W
open Go.Proofs
theorem loop_keep {H O γ α : Type} {L : Nat → H → Option O} {r : (H → Option O) → H → Option O} (hL : ∀ k d, L (k + 1) d = r (L k) d) (l : List γ) {mk : Nat → List α → H} {f : γ → List α} (hf1 : ∀ x, (f x).length ≤ 1) {o : List α → O}
    (hr : ∀ back i (hi : i < l.length) A, A.length ≤ i → r back (mk i A) = back (mk (i + 1) (A ++ f l[i]))) (hf : ∀ back A, A.length ≤ l.length → r back (mk l.length A) = some (o A)) :
    ∀ k, l.length ≤ k → L (k + 1) (mk 0 []) = some (o (l.flatMap f)) := by
  have key : ∀ k i A, i ≤ l.length → l.length ≤ i + k → A.length ≤ i → L (k + 1) (mk i A) = some (o (A ++ (l.drop i).flatMap f)) := by
    intro k
    induction k with
    | zero =>
      intro i A h1 h2 h3
      have e : i = l.length := by omega
      subst e
      rw [hL, hf _ _ h3, List.drop_of_length_le (Nat.le_refl _)]
      simp
    | succ k ih =>
      intro i A h1 h2 h3
      by_cases h : i < l.length
      · have hh := hf1 l[i]
        rw [hL, hr _ i h A h3, ih (i + 1) _ (by omega) (by omega) (by simp; omega), List.drop_eq_getElem_cons h, List.flatMap_cons, List.append_assoc]
      · have e : i = l.length := by omega
        subst e
        rw [hL, hf _ _ h3, List.drop_of_length_le (Nat.le_refl _)]
        simp
  intro k h
  have := key k 0 [] (Nat.zero_le _) (by omega) (Nat.le_refl _)
  simpa using this
theorem flat_filter {α : Type} (p : α → Bool) : ∀ l : List α, (l.flatMap fun y => if p y = true then [y] else []) = l.filter p := by
  intro l
  induction l with
  | nil => rfl
  | cons x l ih =>
    rw [List.flatMap_cons, ih, List.filter_cons]
    split <;> simp
theorem flat_setF (p : Nat → Bool) : ∀ k x, ((List.range' x k).flatMap fun y => if p y = true then [(y : Int)] else []) = setF p k x := by
  intro k
  induction k with
  | zero => intro x; rfl
  | succ k ih =>
    intro x
    rw [List.range'_succ, List.flatMap_cons, ih]
    show _ = if p x = true then (x : Int) :: setF p k (x + 1) else setF p k (x + 1)
    split <;> simp
theorem one_len {α : Type} {c : Prop} [Decidable c] {x : α} : (if c then [x] else []).length ≤ 1 := by split <;> simp
theorem nat_of {n : Int} (h : 0 ≤ n) : ∃ a : Nat, n = (a : Int) := ⟨n.toNat, by omega⟩
theorem l2Bits_lim (d) (r) (h : G_l2Bits d = some r) : ∃ N, F_spec_l2Bits N d = some r := by
  obtain ⟨n, m, _⟩ := d
  unfold G_l2Bits at h
  split at h
  · rename_i hc
    simp only [Bool.and_eq_true] at hc
    obtain ⟨hn, hm⟩ := hc
    have hn := inB_iff.1 hn
    have hm := inB_iff.1 hm
    obtain ⟨a, rfl⟩ := nat_of hn.1
    obtain ⟨b, rfl⟩ := nat_of hm.1
    have h := Option.some.inj h
    subst h
    refine ⟨20, ?_⟩
    unfold F_spec_l2Bits
    have := loop_keep (L := spec_l2Bits_l0 20) (r := spec_l2Bits_l0_r 20) (fun _ _ => rfl) (List.range' 0 a) (mk := fun i A => ((a : Int), (b : Int), A, (i : Int), ())) (f := fun y => if b.testBit y = true then [(y : Int)] else []) (o := fun A => .inl (A, ())) (fun x => one_len) (by
        intro back i hi A hA
        simp only [List.length_range'] at hi
        unfold spec_l2Bits_l0_r
        have hle : decide (A.length + List.length [(i : Int)] ≤ lim) = true := by unfold lim; simp; omega
        simp only [lt_dec hi, if_true, nonneg_dec, has_bit (show b < 256 by omega) (show i < 8 by omega), hle, wrap8 hi (by omega), List.getElem_range', Nat.one_mul, Nat.zero_add]
        by_cases hb : b.testBit i = true
        · simp only [hb, if_true]
        · simp only [hb, if_false, List.append_nil, Bool.false_eq_true])
      (by
        intro back A hA
        unfold spec_l2Bits_l0_r
        simp only [List.length_range', lt_not, Bool.false_eq_true, if_false]) 19 (by simp; omega)
    rw [flat_setF] at this
    simp only [Int.natCast_zero] at this
    simp only [this, Option.bind_some, Int.toNat_natCast]
  · cases h
/-- A list of numbers copied. -/
theorem cloneI_lim (d) (r) (h : G_toIntS d = some r) : ∃ N, F_slices_Clone_Sint_int N d = some r := by
  obtain ⟨l, _⟩ := d
  unfold G_toIntS at h
  split at h
  · rename_i hl
    have hl : l.length ≤ lim := of_decide_eq_true hl
    have h := Option.some.inj h
    subst h
    refine ⟨0, ?_⟩
    unfold F_slices_Clone_Sint_int
    have h1 : decide (List.length ([] : List Int) + l.length ≤ lim) = true := by simp [hl]
    simp only [h1, if_true, List.nil_append]
    split
    · rename_i h0
      have : l = [] := List.length_eq_zero_iff.1 (of_decide_eq_true h0)
      subst this
      simp [both]
    · rfl
  · cases h
end Go.V.W
set_option linter.unusedVariables false
set_option linter.unusedSimpArgs false
namespace Go.V.W
open Go.Proofs
theorem filter_setF (p : Nat → Bool) (q : Int → Bool) : ∀ k x, (setF p k x).filter q = setF (fun y => p y && q (y : Int)) k x := by
  intro k
  induction k with
  | zero => intro x; rfl
  | succ k ih =>
    intro x
    show (if p x = true then (x : Int) :: setF p k (x + 1) else setF p k (x + 1)).filter q = if (p x && q (x : Int)) = true then (x : Int) :: setF (fun y => p y && q (y : Int)) k (x + 1) else setF (fun y => p y && q (y : Int)) k (x + 1)
    cases hp : p x with
    | false => simp [ih]
    | true =>
      simp only [if_true, List.filter_cons, ih, Bool.true_and]
theorem all_mask {n : Nat} (h : n ≤ 8) : IntKind.wrap .i64 (shl .i64 1 (n : Int) - 1) = ((2 ^ n - 1 : Nat) : Int) ∧ 2 ^ n - 1 ≤ 255 := by
  have : n = 0 ∨ n = 1 ∨ n = 2 ∨ n = 3 ∨ n = 4 ∨ n = 5 ∨ n = 6 ∨ n = 7 ∨ n = 8 := by omega
  rcases this with rfl | rfl | rfl | rfl | rfl | rfl | rfl | rfl | rfl <;> decide
theorem all_some {n : Nat} (hn : n ≤ 8) (es : List E) (u v : Unit) : F_spec_l2All 0 (((n : Int), es, u), v) = some (setF (fun _ => true) n 0, ()) := by
  unfold F_spec_l2All
  obtain ⟨m1, m2⟩ := all_mask hn
  have i1 : inB 0 8 (n : Int) = true := inB_iff.2 (by omega)
  have i2 : inB 0 255 ((2 ^ n - 1 : Nat) : Int) = true := inB_iff.2 (by omega)
  simp only [nonneg_dec, if_true, m1, G_l2Bits, i1, i2, Bool.and_self, Option.bind_some, Int.toNat_natCast]
  congr 2
  refine setF_congr fun y _ hy => ?_
  rw [Nat.testBit_two_pow_sub_one]
  exact decide_eq_true (by omega)
theorem find_idx {α : Type} (p : α → Bool) : ∀ l : List α, l.any p = true → ∃ j, ∃ hj : j < l.length, p l[j] = true ∧ (∀ i (hi : i < l.length), i < j → p l[i] = false) ∧ l.find? p = some l[j] := by
  intro l
  induction l with
  | nil => intro h; cases h
  | cons a l ih =>
    intro h
    cases hp : p a with
    | true => exact ⟨0, by simp, hp, fun i hi hij => absurd hij (by omega), by simp [List.find?_cons, hp]⟩
    | false =>
      rw [List.any_cons, hp, Bool.false_or] at h
      obtain ⟨j, hj, h1, h2, h3⟩ := ih h
      refine ⟨j + 1, by simp; exact hj, h1, fun i hi hij => ?_, ?_⟩
      · cases i with
        | zero => exact hp
        | succ i => exact h2 i (by simpa using hi) (by omega)
      · rw [List.find?_cons, hp]
        exact h3
end Go.V.W
set_option linter.unusedVariables false
set_option linter.unusedSimpArgs false
namespace Go.V.W
open Go.Proofs
theorem bit_255 (i : Nat) : (255 : Nat).testBit i = decide (i < 8) := Nat.testBit_two_pow_sub_one 8 i
theorem bits_andNot {a b : Nat} (ha : a < 256) (hb : b < 256) : bits .andNot .i64 (a : Int) (b : Int) = ((a &&& (255 ^^^ b) : Nat) : Int) := by
  have hab : a &&& (255 ^^^ b) ≤ a := Nat.and_le_left
  have e : (BitVec.ofInt IntKind.i64.bits (a : Int) &&& ~~~BitVec.ofInt IntKind.i64.bits (b : Int)).toNat = a &&& (255 ^^^ b) := by
    show (BitVec.ofInt 64 (a : Int) &&& ~~~BitVec.ofInt 64 (b : Int)).toNat = a &&& (255 ^^^ b)
    rw [ofInt_nat, ofInt_nat]
    refine Nat.eq_of_testBit_eq fun i => ?_
    rw [BitVec.testBit_toNat, BitVec.getLsbD_and, BitVec.getLsbD_not, BitVec.getLsbD_ofNat, BitVec.getLsbD_ofNat, Nat.testBit_and, Nat.testBit_xor, bit_255]
    by_cases h : i < 8
    · have h2 : i < 64 := by omega
      simp [h, h2]
    · have : a.testBit i = false := Nat.testBit_lt_two_pow (Nat.lt_of_lt_of_le (show a < 2 ^ 8 from ha) (Nat.pow_le_pow_right (by omega) (by omega)))
      simp [this]
  unfold bits bitI
  simp only [Option.getD_some]
  rw [e]
  exact wrap_nat (by omega)
/-- The bits of a list. -/
theorem maskN_fold (n : Nat) (hn : n ≤ 8) : ∀ (l : List Int) (s : Nat) (p : Nat → Bool), isM n s p → (∀ y ∈ l, 0 ≤ y ∧ y ≤ (n : Int) - 1) → isM n (l.foldl (fun a x => a ||| 2 ^ x.toNat) s) (fun y => p y || hasL l (y : Int)) := by
  intro l
  induction l with
  | nil => intro s p h _; exact ⟨h.1, fun y => by simp [h.2 y, hasL]⟩
  | cons x l ih =>
    intro s p h hl
    have hx := hl x (by simp)
    rw [List.foldl_cons]
    have h2 : isM n (s ||| 2 ^ x.toNat) (fun y => p y || (x == (y : Int))) := by
      refine ⟨Nat.or_lt_two_pow (n := 8) h.1 (pow_small (by omega)), fun y => ?_⟩
      rw [Nat.testBit_or, h.2 y, Nat.testBit_two_pow, Bool.eq_iff_iff]
      simp only [Bool.or_eq_true, Bool.and_eq_true, decide_eq_true_eq, beq_iff_eq]
      constructor
      · rintro (⟨a, b⟩ | a)
        · exact ⟨a, .inl b⟩
        · exact ⟨by omega, .inr (by omega)⟩
      · rintro ⟨a, b | b⟩
        · exact .inl ⟨a, b⟩
        · exact .inr (by omega)
    have := ih _ _ h2 fun y hy => hl y (by simp [hy])
    refine ⟨this.1, fun y => ?_⟩
    rw [this.2 y]
    simp only [hasL, List.any_cons, Bool.or_assoc]
theorem maskN_isM {n : Nat} (hn : n ≤ 8) {l : List Int} (h : ∀ y ∈ l, 0 ≤ y ∧ y ≤ (n : Int) - 1) : isM n (maskN l) (fun y => hasL l (y : Int)) := by
  have := maskN_fold n hn l 0 (fun _ => false) ⟨by omega, fun y => by simp⟩ h
  exact ⟨this.1, fun y => by rw [show maskN l = l.foldl (fun a x => a ||| 2 ^ x.toNat) 0 from rfl, this.2 y]; rfl⟩
theorem maskOf_l0 (N : Nat) (l : List Int) (hl : l.length ≤ lim) (hr : ∀ y ∈ l, 0 ≤ y ∧ y ≤ 7) : ∀ k i f (s : Nat), i + k = l.length → k < f → s < 256 →
    impl_maskOf_l0 N f ((s : Int), l, (l.length : Int), (i : Int), ()) = some (.inl ((((l.drop i).foldl (fun a x => a ||| 2 ^ x.toNat) s : Nat) : Int), ())) := by
  intro k
  induction k with
  | zero =>
    intro i f s e1 e2 e3
    obtain ⟨f, rfl⟩ : ∃ m, f = m + 1 := ⟨f - 1, by omega⟩
    have e : i = l.length := by omega
    subst e
    rw [List.drop_of_length_le (Nat.le_refl _)]
    simp [impl_maskOf_l0, impl_maskOf_l0_r]
  | succ k ih =>
    intro i f s e1 e2 e3
    obtain ⟨f, rfl⟩ : ∃ m, f = m + 1 := ⟨f - 1, by omega⟩
    have hi : i < l.length := by omega
    have hx := hr l[i] (List.getElem_mem hi)
    obtain ⟨y, ey⟩ := nat_of hx.1
    have ea : at_ I l i = (y : Int) := (at_get (e := I) hi).trans ey
    have hy : y < 8 := by omega
    show impl_maskOf_l0_r N (impl_maskOf_l0 N f) _ = _
    unfold impl_maskOf_l0_r
    simp only [lt_dec hi, if_true, idxIn_nat hi, Int.toNat_natCast, ea, nonneg_dec, shl_one hy, bits_or e3 (pow_small hy), wrap_up hi (lim_max hl)]
    rw [ih (i + 1) f _ (by omega) (by omega) (Nat.or_lt_two_pow (n := 8) e3 (pow_small hy)), List.drop_eq_getElem_cons hi, List.foldl_cons, ey, Int.toNat_natCast]
theorem maskOf_lim (d) (r) (h : G_maskOf d = some r) : ∃ N, F_impl_maskOf N d = some r := by
  obtain ⟨l, _⟩ := d
  unfold G_maskOf at h
  split at h
  · rename_i hc
    simp only [Bool.and_eq_true] at hc
    have h := Option.some.inj h
    subst h
    refine ⟨l.length + 1, ?_⟩
    unfold F_impl_maskOf
    have := maskOf_l0 (l.length + 1) l (okL_lim hc.1) (fun y hy => inB_iff.1 (List.all_eq_true.1 hc.2 y hy)) l.length 0 (l.length + 1) 0 (by omega) (by omega) (by omega)
    simp only [Int.natCast_zero, List.drop_zero] at this
    simp only [this, Option.bind_some]
    rfl
  · cases h
theorem has_nodes (n : Int) (es : List E) (v u : Unit) (l : List Int) (ho : okL es = true) (hl : okL l = true) : F_impl_hasNodes 0 ((n, es, v), l, u) = some (graphB (n, es, v) && l.all (inB 0 (n - 1)), ()) := by
  unfold F_impl_hasNodes G_graph G_allWithin
  simp only [ho, hl, if_true, Option.bind_some]
  cases hg : graphB (n, es, v) with
  | false => rfl
  | true =>
    have := graphB_n hg
    have hw : IntKind.wrap .i64 (n - 1) = n - 1 := wrap_in _ (by omega) (by omega)
    simp only [if_true, hw, Bool.true_and, Option.bind_some]
theorem net_some {n : Nat} {es : List E} {v u : Unit} (hg : graphB ((n : Int), es, v) = true) (ho : okL es = true) : G_netOf (((n : Int), es, v), u) = some ((toI (netN n es), ()), ()) := by
  obtain ⟨h0, h8⟩ := graphB_n hg
  obtain ⟨g1, g2⟩ := graphB_edges hg
  unfold G_netOf
  have a1 : (decide (0 ≤ (n : Int)) && decide ((n : Int) ≤ 8) && okL es && es.all (edgeB (n : Int))) = true := by simp only [h0, h8, ho, g1, decide_true, Bool.and_self]
  simp only [a1, if_true, Int.toNat_natCast]
end Go.V.W
set_option linter.unusedVariables false
set_option linter.unusedSimpArgs false
namespace Go.V.W
open Go.Proofs
def InvC (n : Nat) (ball : Int → List Int) (f : Nat → Nat → Int) : Prop := ∀ c r, c < n → r < n → 1 ≤ f c r → ∃ b ∈ ball (c : Int), 0 ≤ afterT ball (tabL n f) b (r : Int) ∧ afterT ball (tabL n f) b (r : Int) + 1 = f c r
theorem after_keep {n : Nat} {ball : Int → List Int} (hb : okBall n ball) {t : Nat} {f : Nat → Nat → Int} {b r : Nat} (hbn : b < n) (hr : r < n) (h : 0 ≤ afterT ball (tabL n f) (b : Int) (r : Int)) :
    afterT ball (tabL n (stepF n ball (t : Int) f)) (b : Int) (r : Int) = afterT ball (tabL n f) (b : Int) (r : Int) := by
  unfold afterT at h ⊢
  by_cases hbr : (b : Int) = (r : Int)
  · rw [if_pos hbr, if_pos hbr]
  · rw [if_neg hbr] at h ⊢
    rw [if_neg hbr]
    rcases worst_spec (tab2 (tabL n f) (b : Int)) (ball (r : Int)) 0 with ⟨_, h'⟩ | ⟨hall, _, _⟩
    · omega
    · refine worst_congr fun x hx => ?_
      obtain ⟨y, hy, rfl⟩ := hb r hr x hx
      have := (hall (y : Int) hx).1
      rw [tab2_tabL _ hbn hy] at this
      rw [tab2_tabL _ hbn hy, tab2_tabL _ hbn hy]
      refine if_neg fun hcan => ?_
      unfold canF at hcan
      simp only [Bool.and_eq_true, decide_eq_true_eq] at hcan
      omega
theorem InvC.next {n : Nat} {ball : Int → List Int} (hb : okBall n ball) {t : Nat} {f : Nat → Nat → Int} (hI : InvT n ball t f) (hC : InvC n ball f) : InvC n ball (stepF n ball (t : Int) f) := by
  intro c r hc hr h
  by_cases hcan : canF n ball f c r = true
  · have e : stepF n ball (t : Int) f c r = (t : Int) := if_pos hcan
    rw [e]
    unfold canF at hcan
    simp only [Bool.and_eq_true, decide_eq_true_eq, List.any_eq_true] at hcan
    obtain ⟨hf, b, hbm, h0⟩ := hcan
    have h1 := hI.none c r hc hr hf b hbm
    have h2 := after_high hb hI hc hr hbm
    obtain ⟨b', hb1, rfl⟩ := hb c hc b hbm
    refine ⟨_, hbm, ?_⟩
    rw [after_keep hb hb1 hr h0]
    omega
  · have e : stepF n ball (t : Int) f c r = f c r := if_neg hcan
    rw [e] at h ⊢
    obtain ⟨b, hbm, h0, h1⟩ := hC c r hc hr h
    obtain ⟨b', hb1, rfl⟩ := hb c hc b hbm
    refine ⟨_, hbm, ?_⟩
    rw [after_keep hb hb1 hr h0]
    exact ⟨h0, h1⟩
end Go.V.W
set_option linter.unusedVariables false
set_option linter.unusedSimpArgs false
namespace Go.V.W
open Go.Proofs
theorem same_drop {α : Type} {l m : List α} {i : Nat} (hi : i < l.length) (hi' : i < m.length) : (l.drop i = m.drop i) = (l[i] = m[i] ∧ l.drop (i + 1) = m.drop (i + 1)) := by
  rw [List.drop_eq_getElem_cons hi, List.drop_eq_getElem_cons hi', List.cons.injEq]
theorem l1Same_lim (d) (r) (h : G_l1Same d = some r) : ∃ N, F_spec_l1Same N d = some r := by
  obtain ⟨l, m, _⟩ := d
  unfold G_l1Same at h
  split at h
  · rename_i hl
    have hl : l.length ≤ lim := of_decide_eq_true hl
    have hmx := lim_max hl
    have h := Option.some.inj h
    subst h
    refine ⟨l.length + 1, ?_⟩
    unfold F_spec_l1Same
    by_cases hm : l.length = m.length
    · have hne : ((List.length l : Int) != (List.length m : Int)) = false := by simp [hm]
      have key : ∀ n i, l.length ≤ i + n → i ≤ l.length → spec_l1Same_l0 (l.length + 1) (n + 1) (l, m, (i : Int), ()) = if l.drop i = m.drop i then some (.inr (.inl ())) else some (.inl (false, ())) := by
        intro n
        induction n with
        | zero =>
          intro i h1 h2
          have e : i = l.length := by omega
          subst e
          rw [List.drop_of_length_le (by omega), List.drop_of_length_le (by omega)]
          simp [spec_l1Same_l0, spec_l1Same_l0_r]
        | succ n ih =>
          intro i h1 h2
          by_cases hi : i < l.length
          · have hi' : i < m.length := by omega
            show spec_l1Same_l0_r _ (spec_l1Same_l0 _ (n + 1)) (l, m, (i : Int), ()) = _
            unfold spec_l1Same_l0_r
            have e1 : at_ I l i = l[i] := at_get (e := I) hi
            have e2 : at_ I m i = m[i] := at_get (e := I) hi'
            simp only [lt_dec hi, if_true, idxIn_nat hi, idxIn_nat hi', Int.toNat_natCast, e1, e2, wrap_up hi hmx, ih (i + 1) (by omega) (by omega), same_drop hi hi']
            by_cases he : l[i] = m[i]
            · simp only [he, bne_self_eq_false, Bool.false_eq_true, if_false, true_and]
            · have he' : (l[i] != m[i]) = true := by simpa using he
              simp only [he', he, if_true, false_and, if_false]
          · have e : i = l.length := by omega
            subst e
            rw [List.drop_of_length_le (by omega), List.drop_of_length_le (by omega)]
            simp [spec_l1Same_l0, spec_l1Same_l0_r]
      have := key l.length 0 (by omega) (by omega)
      simp only [Int.natCast_zero, List.drop_zero] at this
      simp only [hne, Bool.false_eq_true, if_false, this]
      by_cases he : l = m
      · simp [he]
      · simp [he]
    · have hne : ((List.length l : Int) != (List.length m : Int)) = true := by simp; omega
      have he : ¬ l = m := fun e => hm (by rw [e])
      simp [hne, he]
  · cases h
theorem l4Less_lim (d) (r) (h : G_l4Less d = some r) : ∃ N, F_spec_l4Less N d = some r := by
  obtain ⟨l, m, _⟩ := d
  unfold G_l4Less at h
  split at h
  · rename_i hc
    simp only [Bool.and_eq_true, decide_eq_true_eq] at hc
    have hl : l.length ≤ lim := okL_lim hc.1
    have hm : l.length = m.length := hc.2
    have hmx := lim_max hl
    have h := Option.some.inj h
    subst h
    refine ⟨l.length + 1, ?_⟩
    unfold F_spec_l4Less
    have key : ∀ n i, l.length ≤ i + n → i ≤ l.length → ∃ o, spec_l4Less_l0 (l.length + 1) (n + 1) (l, m, (i : Int), ()) = some o ∧ (o = .inl (decide (cmpL (l.drop i) (m.drop i) < 0), ()) ∨ (o = .inr (.inl ()) ∧ decide (cmpL (l.drop i) (m.drop i) < 0) = false)) := by
      intro n
      induction n with
      | zero =>
        intro i h1 h2
        have e : i = l.length := by omega
        subst e
        rw [List.drop_of_length_le (by omega), List.drop_of_length_le (by omega)]
        exact ⟨_, by simp [spec_l4Less_l0, spec_l4Less_l0_r], .inr ⟨rfl, rfl⟩⟩
      | succ n ih =>
        intro i h1 h2
        by_cases hi : i < l.length
        · have hi' : i < m.length := by omega
          show ∃ o, spec_l4Less_l0_r _ (spec_l4Less_l0 _ (n + 1)) (l, m, (i : Int), ()) = some o ∧ _
          unfold spec_l4Less_l0_r
          have e1 : at_ I l i = l[i] := at_get (e := I) hi
          have e2 : at_ I m i = m[i] := at_get (e := I) hi'
          rw [List.drop_eq_getElem_cons hi, List.drop_eq_getElem_cons hi']
          simp only [lt_dec hi, if_true, idxIn_nat hi, idxIn_nat hi', Int.toNat_natCast, e1, e2, wrap_up hi hmx, cmpL]
          by_cases he : l[i] = m[i]
          · have a1 : ¬ l[i] < m[i] := by omega
            have a2 : ¬ m[i] < l[i] := by omega
            simp only [he, bne_self_eq_false, Bool.false_eq_true, if_false, Int.lt_irrefl]
            exact ih (i + 1) (by omega) (by omega)
          · have he' : (l[i] != m[i]) = true := by simpa using he
            simp only [he', if_true]
            refine ⟨_, rfl, .inl ?_⟩
            by_cases a1 : l[i] < m[i]
            · simp [a1]
            · have a2 : m[i] < l[i] := by omega
              simp [a1, a2]
        · have e : i = l.length := by omega
          subst e
          rw [List.drop_of_length_le (by omega), List.drop_of_length_le (by omega)]
          exact ⟨_, by simp [spec_l4Less_l0, spec_l4Less_l0_r], .inr ⟨rfl, rfl⟩⟩
    obtain ⟨o, o1, o2⟩ := key l.length 0 (by omega) (by omega)
    simp only [Int.natCast_zero, List.drop_zero] at o1 o2
    simp only [o1, Option.bind_some]
    rcases o2 with rfl | ⟨rfl, o3⟩
    · rfl
    · rw [o3]
  · cases h
theorem l4At_lim (d) (r) (h : G_l4At d = some r) : ∃ N, F_spec_l4At N d = some r := by
  obtain ⟨xs, x, _⟩ := d
  unfold G_l4At at h
  split at h
  · rename_i hc
    have hc : (okL xs && xs.all okL) = true := hc
    simp only [Bool.and_eq_true] at hc
    have hl : xs.length ≤ lim := okL_lim hc.1
    have hmx := lim_max hl
    have h := Option.some.inj h
    subst h
    refine ⟨xs.length + 1, ?_⟩
    unfold F_spec_l4At
    have := loop_idx (L := spec_l4At_l0 (xs.length + 1)) (r := spec_l4At_l0_r (xs.length + 1)) (fun _ _ => rfl) (e := K_Si) xs (mk := fun i => (xs, x, (i : Int), ())) (q := fun y => decide (y = x)) (o := fun i => .inl ((i : Int), ())) (f := .inr (.inl ()))
      (by
        intro back i hi
        have hx : at_ K_Si xs i = xs[i] := at_get (e := K_Si) hi
        have hs : G_l1Same (xs[i], x, ()) = some (decide (xs[i] = x), ()) := by
          unfold G_l1Same
          rw [if_pos (List.all_eq_true.1 hc.2 xs[i] (List.getElem_mem hi))]
        unfold spec_l4At_l0_r
        simp only [lt_dec hi, if_true, idxIn_nat hi, Int.toNat_natCast, wrap_up hi hmx, hx, hs, Option.bind_some])
      (by intro back; unfold spec_l4At_l0_r; simp only [lt_not, Bool.false_eq_true, if_false]) xs.length 0 (by omega) (by omega)
    simp only [Int.natCast_zero, List.drop_zero] at this
    simp only [this, Option.bind_some]
    cases idxN (fun y => decide (y = x)) xs 0 <;> rfl
  · cases h
end Go.V.W
set_option linter.unusedVariables false
set_option linter.unusedSimpArgs false
namespace Go.V.W
open Go.Proofs
theorem ndB_iff : ∀ l : List Int, ndB l = true ↔ ∀ j, 0 < j → j < l.length → at_ I l (j - 1) ≤ at_ I l j := by
  intro l
  induction l with
  | nil => simp only [ndB, true_iff]; intro j _ h; exact absurd h (by simp)
  | cons a l ih =>
    cases l with
    | nil => simp only [ndB, true_iff]; intro j h1 h2; simp only [List.length_cons, List.length_nil] at h2; omega
    | cons b l =>
      simp only [ndB, Bool.and_eq_true, ih, decide_eq_true_eq]
      constructor
      · rintro ⟨h1, h2⟩ j h3 h4
        by_cases e : j = 1
        · subst e; exact h1
        · have := h2 (j - 1) (by omega) (by simp only [List.length_cons] at h4 ⊢; omega)
          obtain ⟨k, rfl⟩ : ∃ k, j = k + 2 := ⟨j - 2, by omega⟩
          exact this
      · intro h
        refine ⟨h 1 (by omega) (by simp), fun j h1 h2 => ?_⟩
        have := h (j + 1) (by omega) (by simp only [List.length_cons] at h2 ⊢; omega)
        obtain ⟨k, rfl⟩ : ∃ k, j = k + 1 := ⟨j - 1, by omega⟩
        exact this
theorem l4Cops_lim (d) (r) (h : G_l4Cops d = some r) : ∃ N, F_spec_l4Cops N d = some r := by
  obtain ⟨⟨n, es, u⟩, l, _⟩ := d
  unfold G_l4Cops at h
  split at h
  · rename_i hc
    simp only [Bool.and_eq_true, decide_eq_true_eq] at hc
    have hl : l.length ≤ lim := okL_lim hc.1.1
    have h0 : 0 ≤ n := hc.1.2
    have h8 : n ≤ 8 := hc.2
    have hmx := lim_max hl
    have h := Option.some.inj h
    subst h
    refine ⟨l.length + 1, ?_⟩
    unfold F_spec_l4Cops
    have := loop_all (L := fun k d => spec_l4Cops_l0 (l.length + 1) k d) (r := spec_l4Cops_l0_r (l.length + 1)) (fun _ _ => rfl) (n := l.length) (mk := fun i => (l, (n, es, u), (i : Int), ())) (p := fun i => inB 0 (n - 1) (at_ I l i) && (!decide (0 < i) || decide (at_ I l (i - 1) ≤ at_ I l i))) (o := .inl (false, ())) (f := .inr (.inl ()))
      (by
        intro back i hi
        unfold spec_l4Cops_l0_r
        have hn : g_spec_l2Node ((n, es, u), at_ I l i, ()) = (inB 0 (n - 1) (at_ I l i), ()) := by
          unfold g_spec_l2Node
          have hw : IntKind.wrap .i64 (n - 1) = n - 1 := wrap_in _ (by omega) (by omega)
          simp only [hw, l1In_eq]
        simp only [lt_dec hi, if_true, idxIn_nat hi, Int.toNat_natCast, hn, pos_dec, wrap_up hi hmx]
        cases inB 0 (n - 1) (at_ I l i) with
        | false => rfl
        | true =>
          simp only [Bool.not_true, Bool.false_eq_true, if_false, Bool.true_and]
          by_cases h0 : 0 < i
          · have h1 : i - 1 < l.length := by omega
            simp only [h0, decide_true, if_true, wrap_down h0 (show i ≤ maxLen by omega), idxIn_nat h1, Int.toNat_natCast, Bool.not_true, Bool.false_or]
            by_cases hc : at_ I l (i - 1) ≤ at_ I l i
            · have hc' : ¬ (at_ I l (i - 1) > at_ I l i) := Int.not_lt.2 hc
              simp only [hc, hc', decide_true, decide_false, if_true, Bool.false_eq_true, if_false]
            · have hc' : (at_ I l (i - 1) > at_ I l i) := Int.not_le.1 hc
              simp only [hc, hc', decide_true, decide_false, if_true, Bool.false_eq_true, if_false]
          · simp only [h0, decide_false, Bool.false_eq_true, if_false, Bool.not_false, Bool.true_or, if_true])
      (by intro back; unfold spec_l4Cops_l0_r; simp only [lt_not, Bool.false_eq_true, if_false]) l.length 0 (by omega) (by omega)
    simp only [Int.natCast_zero] at this
    simp only [this, Nat.sub_zero]
    have e : allB (fun i => inB 0 (n - 1) (at_ I l i) && (!decide (0 < i) || decide (at_ I l (i - 1) ≤ at_ I l i))) l.length 0 = copsB n l := by
      unfold copsB
      rw [← all_at (e := I) l (inB 0 (n - 1))]
      apply bool_eq_iff
      rw [Bool.and_eq_true, allB_iff, allB_iff, ndB_iff]
      simp only [Bool.and_eq_true, Bool.or_eq_true, Bool.not_eq_true', decide_eq_true_eq, decide_eq_false_iff_not]
      constructor
      · intro h
        exact ⟨fun j h1 h2 => (h j h1 h2).1, fun j h1 h2 => ((h j (by omega) (by omega)).2).resolve_left (by omega)⟩
      · rintro ⟨h1, h2⟩ j h3 h4
        refine ⟨h1 j h3 h4, ?_⟩
        by_cases h0 : 0 < j
        · exact .inr (h2 j h0 (by omega))
        · exact .inl h0
    simp only [e]
    cases copsB n l <;> rfl
  · cases h
theorem equalI_lim (d) (r) (h : G_l1Same d = some r) : ∃ N, F_slices_Equal_Sint_int N d = some r := by
  obtain ⟨l, m, _⟩ := d
  unfold G_l1Same at h
  split at h
  · rename_i hl
    have hl : l.length ≤ lim := of_decide_eq_true hl
    have hmx := lim_max hl
    have h := Option.some.inj h
    subst h
    refine ⟨l.length + 1, ?_⟩
    unfold F_slices_Equal_Sint_int
    by_cases hm : l.length = m.length
    · have hne : ((List.length l : Int) != (List.length m : Int)) = false := by simp [hm]
      have key : ∀ n i, l.length ≤ i + n → i ≤ l.length → slices_Equal_Sint_int_l0 (l.length + 1) (n + 1) (l, m, (l.length : Int), (i : Int), ()) = if l.drop i = m.drop i then some (.inr (.inl ())) else some (.inl (false, ())) := by
        intro n
        induction n with
        | zero =>
          intro i h1 h2
          have e : i = l.length := by omega
          subst e
          rw [List.drop_of_length_le (by omega), List.drop_of_length_le (by omega)]
          simp [slices_Equal_Sint_int_l0, slices_Equal_Sint_int_l0_r]
        | succ n ih =>
          intro i h1 h2
          by_cases hi : i < l.length
          · have hi' : i < m.length := by omega
            show slices_Equal_Sint_int_l0_r _ (slices_Equal_Sint_int_l0 _ (n + 1)) (l, m, (l.length : Int), (i : Int), ()) = _
            unfold slices_Equal_Sint_int_l0_r
            have e1 : at_ I l i = l[i] := at_get (e := I) hi
            have e2 : at_ I m i = m[i] := at_get (e := I) hi'
            simp only [lt_dec hi, if_true, idxIn_nat hi, idxIn_nat hi', Int.toNat_natCast, e1, e2, wrap_up hi hmx, ih (i + 1) (by omega) (by omega), same_drop hi hi']
            by_cases he : l[i] = m[i]
            · simp only [he, bne_self_eq_false, Bool.false_eq_true, if_false, true_and]
            · have he' : (l[i] != m[i]) = true := by simpa using he
              simp only [he', he, if_true, false_and, if_false]
          · have e : i = l.length := by omega
            subst e
            rw [List.drop_of_length_le (by omega), List.drop_of_length_le (by omega)]
            simp [slices_Equal_Sint_int_l0, slices_Equal_Sint_int_l0_r]
      have := key l.length 0 (by omega) (by omega)
      simp only [Int.natCast_zero, List.drop_zero] at this
      simp only [hne, Bool.false_eq_true, if_false, this]
      by_cases he : l = m
      · simp [he]
      · simp [he]
    · have hne : ((List.length l : Int) != (List.length m : Int)) = true := by simp; omega
      have he : ¬ l = m := fun e => hm (by rw [e])
      simp [hne, he]
  · cases h
theorem idxWalk_lim (d) (r) (h : G_idxWalk d = some r) : ∃ N, F_slices_IndexFunc_SSint_Sint_by_impl_isWalk_1 N d = some r := by
  obtain ⟨xs, ⟨v, x, w⟩, _⟩ := d
  unfold G_idxWalk at h
  split at h
  · rename_i hc
    have hc : (okL xs && xs.all okL) = true := hc
    simp only [Bool.and_eq_true] at hc
    have hl : xs.length ≤ lim := okL_lim hc.1
    have hmx := lim_max hl
    have h := Option.some.inj h
    subst h
    refine ⟨xs.length + 1, ?_⟩
    unfold F_slices_IndexFunc_SSint_Sint_by_impl_isWalk_1
    have := loop_idx (L := slices_IndexFunc_SSint_Sint_by_impl_isWalk_1_l0 (xs.length + 1)) (r := slices_IndexFunc_SSint_Sint_by_impl_isWalk_1_l0_r (xs.length + 1)) (fun _ _ => rfl) (e := K_Si) xs (mk := fun i => (xs, (v, x, w), (xs.length : Int), (i : Int), ())) (q := fun y => decide (y = x)) (o := fun i => .inl ((i : Int), ())) (f := .inr (.inl ()))
      (by
        intro back i hi
        have hx : at_ K_Si xs i = xs[i] := at_get (e := K_Si) hi
        have hs : FV_impl_isWalk_1 (xs[i], (v, x, w), ()) = some (decide (xs[i] = x), ()) := by
          unfold FV_impl_isWalk_1 F_impl_isWalk_1 G_l1Same
          have ho := List.all_eq_true.1 hc.2 xs[i] (List.getElem_mem hi)
          simp only [ho, if_true, Option.bind_some]
        unfold slices_IndexFunc_SSint_Sint_by_impl_isWalk_1_l0_r
        simp only [lt_dec hi, if_true, idxIn_nat hi, Int.toNat_natCast, wrap_up hi hmx, hx, hs, Option.bind_some])
      (by intro back; unfold slices_IndexFunc_SSint_Sint_by_impl_isWalk_1_l0_r; simp only [lt_not, Bool.false_eq_true, if_false]) xs.length 0 (by omega) (by omega)
    simp only [Int.natCast_zero, List.drop_zero] at this
    simp only [this, Option.bind_some]
    cases idxN (fun y => decide (y = x)) xs 0 <;> rfl
  · cases h
end Go.V.W
set_option linter.unusedVariables false
set_option linter.unusedSimpArgs false
namespace Go.V.W
open Go.Proofs
theorem putS_low (x : List Int) : ∀ l : List (List Int), ∃ k, k ≤ l.length ∧ (∀ j (hj : j < l.length), j < k → cmpL l[j] x < 0) ∧ (∀ hk : k < l.length, ¬ cmpL l[k] x < 0) ∧
    (∀ hk : k < l.length, l[k] = x → putS x l = l) ∧ ((∀ hk : k < l.length, ¬ l[k] = x) → putS x l = l.take k ++ [x] ++ l.drop k) := by
  intro l
  induction l with
  | nil => exact ⟨0, Nat.le_refl _, fun j hj => absurd hj (by simp), fun hk => absurd hk (by simp), fun hk => absurd hk (by simp), fun _ => rfl⟩
  | cons a l ih =>
    by_cases h : cmpL a x < 0
    · obtain ⟨k, h1, h2, h3, h4, h5⟩ := ih
      refine ⟨k + 1, by simp; exact h1, fun j hj hjk => ?_, fun hk => h3 (by simpa using hk), fun hk e => ?_, fun hne => ?_⟩
      · cases j with
        | zero => exact h
        | succ j => exact h2 j (by simpa using hj) (by omega)
      · simp only [putS, h, if_true]
        rw [h4 (by simpa using hk) e]
      · simp only [putS, h, if_true, List.take_succ_cons, List.drop_succ_cons, List.cons_append]
        rw [h5 fun hk => hne (by simpa using hk)]
    · refine ⟨0, Nat.zero_le _, fun j hj hjk => absurd hjk (by omega), fun hk => h, fun hk e => ?_, fun hne => ?_⟩
      · have e : a = x := e
        unfold putS
        rw [if_neg h, if_pos e]
      · have hne : ¬ a = x := hne (by simp)
        simp only [putS, h, if_false, hne, List.take_zero, List.drop_zero, List.nil_append, List.singleton_append]
theorem l4Put_lim (d) (r) (h : G_l4Put d = some r) : ∃ N, F_spec_l4Put N d = some r := by
  obtain ⟨l, x, _⟩ := d
  unfold G_l4Put at h
  split at h
  · rename_i hc
    simp only [Bool.and_eq_true, decide_eq_true_eq] at hc
    have hl : l.length ≤ 1000 := hc.1.1
    have hox : okL x = true := hc.1.2
    have hal : ∀ y ∈ l, y.length = x.length := fun y hy => of_decide_eq_true (List.all_eq_true.1 hc.2 y hy)
    have hoy : ∀ y ∈ l, okL y = true := fun y hy => decide_eq_true (by rw [hal y hy]; exact okL_lim hox)
    have hmx : l.length ≤ maxLen := by unfold maxLen; omega
    have h := Option.some.inj h
    subst h
    obtain ⟨k, h1, h2, h3, h4, h5⟩ := putS_low x l
    refine ⟨l.length + 2, ?_⟩
    have hless : ∀ j (hj : j < l.length), G_l4Less (l[j], x, ()) = some (decide (cmpL l[j] x < 0), ()) := fun j hj => by
      unfold G_l4Less
      have e1 := hoy l[j] (List.getElem_mem hj)
      have e2 := hal l[j] (List.getElem_mem hj)
      simp only [e1, e2, decide_true, Bool.and_self, if_true]
    have key : ∀ q i f, i + q = k → q < f → spec_l4Put_l0 (l.length + 2) f (l, x, (i : Int), ()) = some (.inl (l, x, (k : Int), ())) := by
      intro q
      induction q with
      | zero =>
        intro i f e1 e2
        obtain ⟨f, rfl⟩ : ∃ m, f = m + 1 := ⟨f - 1, by omega⟩
        have ei : i = k := by omega
        subst ei
        show spec_l4Put_l0_r _ _ _ = _
        unfold spec_l4Put_l0_r
        by_cases hi : i < l.length
        · have ea : at_ K_Si l i = l[i] := at_get (e := K_Si) hi
          simp only [lt_dec hi, if_true, idxIn_nat hi, Int.toNat_natCast, ea, hless i hi, Option.bind_some, h3 hi, decide_false, Bool.false_eq_true, if_false]
        · have ei : i = l.length := by omega
          subst ei
          simp only [lt_not, Bool.false_eq_true, if_false]
      | succ q ih =>
        intro i f e1 e2
        obtain ⟨f, rfl⟩ : ∃ m, f = m + 1 := ⟨f - 1, by omega⟩
        have hi : i < l.length := by omega
        show spec_l4Put_l0_r _ _ _ = _
        unfold spec_l4Put_l0_r
        have ea : at_ K_Si l i = l[i] := at_get (e := K_Si) hi
        simp only [lt_dec hi, if_true, idxIn_nat hi, Int.toNat_natCast, ea, hless i hi, Option.bind_some, h2 i hi (by omega), decide_true, wrap_up hi hmx]
        exact ih (i + 1) f (by omega) (by omega)
    have := key k 0 (l.length + 2) (by omega) (by omega)
    simp only [Int.natCast_zero] at this
    unfold F_spec_l4Put
    have c1 : (decide (0 ≤ (0 : Int)) && decide ((0 : Int) ≤ (k : Int)) && decide ((k : Int) ≤ (l.length : Int))) = true := by simp; omega
    have s1 : sub_ l 0 (k : Int) = l.take k := by unfold sub_; simp
    have s2 : sub_ l (k : Int) (l.length : Int) = l.drop k := by unfold sub_; simp
    have c2 : decide (List.length ([] : List (List Int)) + (l.take k).length ≤ lim) = true := by unfold lim; simp; omega
    have c3 : decide ((([] : List (List Int)) ++ l.take k).length + List.length [x] ≤ lim) = true := by unfold lim; simp; omega
    have c4 : (decide (0 ≤ (k : Int)) && decide ((k : Int) ≤ (l.length : Int)) && decide ((l.length : Int) ≤ (l.length : Int))) = true := by simp; omega
    have c5 : decide ((([] : List (List Int)) ++ l.take k ++ [x]).length + (l.drop k).length ≤ lim) = true := by unfold lim; simp; omega
    simp only [this, Option.bind_some]
    by_cases hk : k < l.length
    · have ea : at_ K_Si l k = l[k] := at_get (e := K_Si) hk
      have hs : G_l1Same (l[k], x, ()) = some (decide (l[k] = x), ()) := by
        unfold G_l1Same
        have := hoy l[k] (List.getElem_mem hk)
        simp only [this, if_true]
      simp only [lt_dec hk, if_true, idxIn_nat hk, Int.toNat_natCast, ea, hs, Option.bind_some]
      by_cases e : l[k] = x
      · simp only [e, decide_true, if_true, h4 hk e]
      · simp only [e, decide_false, Bool.false_eq_true, if_false, c1, if_true, s1, c2, c3, c4, s2, c5]
        rw [h5 fun _ => e]
        simp
    · have hk2 : decide ((k : Int) < (l.length : Int)) = false := decide_eq_false (by omega)
      simp only [hk2, Bool.false_eq_true, if_false, c1, if_true, s1, c2, c3, c4, s2, c5]
      rw [h5 fun h => absurd h hk]
      simp
  · cases h
end Go.V.W
set_option linter.unusedVariables false
set_option linter.unusedSimpArgs false
namespace Go.V.W
open Go.Proofs
def insA (x : Int) : List Int → List Int
  | [] => [x]
  | a :: l => if a ≤ x then a :: insA x l else x :: a :: l
theorem insA_low (x : Int) : ∀ l : List Int, ∃ k, k ≤ l.length ∧ (∀ j (hj : j < l.length), j < k → l[j] ≤ x) ∧ (∀ hk : k < l.length, ¬ l[k] ≤ x) ∧ insA x l = l.take k ++ [x] ++ l.drop k := by
  intro l
  induction l with
  | nil => exact ⟨0, Nat.le_refl _, fun j hj => absurd hj (by simp), fun hk => absurd hk (by simp), rfl⟩
  | cons a l ih =>
    by_cases h : a ≤ x
    · obtain ⟨k, h1, h2, h3, h4⟩ := ih
      refine ⟨k + 1, by simp; exact h1, fun j hj hjk => ?_, fun hk => h3 (by simpa using hk), ?_⟩
      · cases j with
        | zero => exact h
        | succ j => exact h2 j (by simpa using hj) (by omega)
      · simp only [insA, h, if_true, h4, List.take_succ_cons, List.drop_succ_cons, List.cons_append]
    · refine ⟨0, Nat.zero_le _, fun j hj hjk => absurd hjk (by omega), fun hk => h, ?_⟩
      simp only [insA, h, if_false, List.take_zero, List.drop_zero, List.nil_append, List.singleton_append]
theorem insA_len (x : Int) : ∀ l : List Int, (insA x l).length = l.length + 1 := by
  intro l
  induction l with
  | nil => rfl
  | cons a l ih =>
    unfold insA
    split <;> simp [ih]
theorem insA_perm (x : Int) : ∀ l : List Int, (insA x l).Perm (x :: l) := by
  intro l
  induction l with
  | nil => exact .refl _
  | cons a l ih =>
    unfold insA
    split
    · exact (ih.cons a).trans (List.Perm.swap x a l)
    · exact .refl _
theorem insA_sorted (x : Int) : ∀ l : List Int, l.Pairwise (· ≤ ·) → (insA x l).Pairwise (· ≤ ·) := by
  intro l
  induction l with
  | nil => intro _; simp [insA]
  | cons a l ih =>
    intro h
    rw [List.pairwise_cons] at h
    unfold insA
    split
    · rename_i hx
      rw [List.pairwise_cons]
      refine ⟨fun b hb => ?_, ih h.2⟩
      rcases List.mem_cons.1 ((insA_perm x l).mem_iff.1 hb) with rfl | hb
      · exact hx
      · exact h.1 b hb
    · rename_i hx
      rw [List.pairwise_cons, List.pairwise_cons]
      refine ⟨fun b hb => ?_, h⟩
      rcases List.mem_cons.1 hb with rfl | hb
      · omega
      · have := h.1 b hb; omega
theorem int_sorted_eq : ∀ {l m : List Int}, l.Pairwise (· ≤ ·) → m.Pairwise (· ≤ ·) → l.Perm m → l = m := by
  intro l
  induction l with
  | nil => intro m _ _ h; exact List.Perm.nil_eq h
  | cons a l ih =>
    intro m hl hm h
    cases m with
    | nil => exact absurd h.length_eq (by simp)
    | cons b m =>
      rw [List.pairwise_cons] at hl hm
      have e : a = b := by
        rcases List.mem_cons.1 (h.mem_iff.1 (List.mem_cons_self (a := a) (l := l))) with e | ha
        · exact e
        rcases List.mem_cons.1 (h.mem_iff.2 (List.mem_cons_self (a := b) (l := m))) with e | hb
        · exact e.symm
        have h1 := hl.1 b hb
        have h2 := hm.1 a ha
        omega
      subst e
      rw [ih hl.2 hm.2 ((List.perm_cons a).1 h)]
theorem sortI_sorted (l : List Int) : (sortI l).Pairwise (· ≤ ·) := by
  have := List.pairwise_mergeSort (le := fun x y : Int => decide (x ≤ y)) (fun a b c h1 h2 => by simp at h1 h2 ⊢; omega) (fun a b => by simp; omega) l
  unfold sortI
  exact this.imp fun h => by simpa using h
theorem sortI_perm (l : List Int) : (sortI l).Perm l := by
  unfold sortI
  exact List.mergeSort_perm l _
theorem sortA_fold : ∀ (l o : List Int), o.Pairwise (· ≤ ·) → (l.foldl (fun o x => insA x o) o).Pairwise (· ≤ ·) ∧ (l.foldl (fun o x => insA x o) o).Perm (o ++ l) := by
  intro l
  induction l with
  | nil => intro o h; exact ⟨h, by simp⟩
  | cons x l ih =>
    intro o h
    obtain ⟨h1, h2⟩ := ih (insA x o) (insA_sorted x o h)
    refine ⟨h1, h2.trans ?_⟩
    refine ((insA_perm x o).append_right l).trans ?_
    show (x :: (o ++ l)).Perm (o ++ x :: l)
    exact List.perm_middle.symm
theorem sortA_eq (l : List Int) : l.foldl (fun o x => insA x o) [] = sortI l := by
  obtain ⟨h1, h2⟩ := sortA_fold l [] .nil
  exact int_sorted_eq h1 (sortI_sorted l) (h2.trans (sortI_perm l).symm)
theorem l4Sorted_lim (d) (r) (h : G_l4Sorted d = some r) : ∃ N, F_spec_l4Sorted N d = some r := by
  obtain ⟨l, _⟩ := d
  unfold G_l4Sorted at h
  split at h
  · rename_i hc
    have hl : l.length ≤ 1000 := of_decide_eq_true hc
    have hmx : l.length ≤ maxLen := by unfold maxLen; omega
    have h := Option.some.inj h
    subst h
    refine ⟨l.length + 2, ?_⟩
    unfold F_spec_l4Sorted
    have inner : ∀ (i : Nat) (hi : i < l.length) (out : List Int), out.length ≤ l.length → ∀ k, k ≤ out.length → (∀ j (hj : j < out.length), j < k → out[j] ≤ l[i]) → (∀ hk : k < out.length, ¬ out[k] ≤ l[i]) → ∀ q j f, j + q = k → q < f →
        spec_l4Sorted_l2 (l.length + 2) f (l, out, (i : Int), (j : Int), ()) = some (.inl (l, out, (i : Int), (k : Int), ())) := by
      intro i hi out ho k hk h2 h3 q
      have hmo : out.length ≤ maxLen := by omega
      have ei : at_ I l i = l[i] := at_get (e := I) hi
      induction q with
      | zero =>
        intro j f e1 e2
        obtain ⟨f, rfl⟩ : ∃ m, f = m + 1 := ⟨f - 1, by omega⟩
        have e : j = k := by omega
        subst e
        show spec_l4Sorted_l2_r _ _ _ = _
        unfold spec_l4Sorted_l2_r
        by_cases hj : j < out.length
        · have ea : at_ I out j = out[j] := at_get (e := I) hj
          simp only [lt_dec hj, if_true, idxIn_nat hj, idxIn_nat hi, Int.toNat_natCast, ea, ei, h3 hj, decide_false, Bool.false_eq_true, if_false]
        · have e : j = out.length := by omega
          subst e
          simp only [lt_not, Bool.false_eq_true, if_false]
      | succ q ih =>
        intro j f e1 e2
        obtain ⟨f, rfl⟩ : ∃ m, f = m + 1 := ⟨f - 1, by omega⟩
        have hj : j < out.length := by omega
        have ea : at_ I out j = out[j] := at_get (e := I) hj
        show spec_l4Sorted_l2_r _ _ _ = _
        unfold spec_l4Sorted_l2_r
        simp only [lt_dec hj, if_true, idxIn_nat hj, idxIn_nat hi, Int.toNat_natCast, ea, ei, h2 j hj (by omega), decide_true, wrap_up hj hmo]
        exact ih (j + 1) f (by omega) (by omega)
    have key : ∀ q i f (out : List Int), i + q = l.length → q < f → out.length = i → spec_l4Sorted_l0 (l.length + 2) f (l, out, (i : Int), ()) = some (.inl ((l.drop i).foldl (fun o x => insA x o) out, ())) := by
      intro q
      induction q with
      | zero =>
        intro i f out e1 e2 e3
        obtain ⟨f, rfl⟩ : ∃ m, f = m + 1 := ⟨f - 1, by omega⟩
        have e : i = l.length := by omega
        subst e
        rw [List.drop_of_length_le (Nat.le_refl _)]
        show spec_l4Sorted_l0_r _ _ _ = _
        unfold spec_l4Sorted_l0_r
        simp only [lt_not, Bool.false_eq_true, if_false, List.foldl_nil]
      | succ q ih =>
        intro i f out e1 e2 e3
        obtain ⟨f, rfl⟩ : ∃ m, f = m + 1 := ⟨f - 1, by omega⟩
        have hi : i < l.length := by omega
        have ei : at_ I l i = l[i] := at_get (e := I) hi
        obtain ⟨k, h1, h2, h3, h4⟩ := insA_low l[i] out
        have hin := inner i hi out (by omega) k h1 h2 h3 k 0 (l.length + 2) (by omega) (by omega)
        simp only [Int.natCast_zero] at hin
        have c1 : (decide (0 ≤ (0 : Int)) && decide ((0 : Int) ≤ (k : Int)) && decide ((k : Int) ≤ (out.length : Int))) = true := by simp; omega
        have s1 : sub_ out 0 (k : Int) = out.take k := by unfold sub_; simp
        have s2 : sub_ out (k : Int) (out.length : Int) = out.drop k := by unfold sub_; simp
        have c2 : decide (List.length ([] : List Int) + (out.take k).length ≤ lim) = true := by unfold lim; simp; omega
        have c3 : decide ((([] : List Int) ++ out.take k).length + List.length [l[i]] ≤ lim) = true := by unfold lim; simp; omega
        have c4 : (decide (0 ≤ (k : Int)) && decide ((k : Int) ≤ (out.length : Int)) && decide ((out.length : Int) ≤ (out.length : Int))) = true := by simp; omega
        have c5 : decide ((([] : List Int) ++ out.take k ++ [l[i]]).length + (out.drop k).length ≤ lim) = true := by unfold lim; simp; omega
        show spec_l4Sorted_l0_r _ _ _ = _
        unfold spec_l4Sorted_l0_r
        simp only [lt_dec hi, if_true, hin, Option.bind_some, c1, s1, c2, idxIn_nat hi, Int.toNat_natCast, ei, c3, c4, s2, c5, wrap_up hi hmx]
        rw [List.drop_eq_getElem_cons hi, List.foldl_cons, h4]
        have := ih (i + 1) f (insA l[i] out) (by omega) (by omega) (by rw [insA_len, e3])
        rw [h4] at this
        exact this
    have := key l.length 0 (l.length + 2) [] (by omega) (by omega) rfl
    simp only [Int.natCast_zero, List.drop_zero, sortA_eq] at this
    simp only [this, Option.bind_some]
  · cases h
end Go.V.W
set_option linter.unusedVariables false
set_option linter.unusedSimpArgs false
namespace Go.V.W
open Go.Proofs
theorem mv_l4 (N : Nat) (cops : List Int) (g : Gr) (now : List (List Int)) (c : Int) (ball : List Int) (hb : ball.length ≤ 8) (j : Nat) (hj : j < now.length) (hlen : now[j].length ≤ 1000) : ∀ q k f (next : List (List Int)), k + q = ball.length → q < f → next.length + q ≤ 1000 →
    spec_l4Moves_l4 N f (cops, g, now, c, next, ball, (j : Int), (k : Int), ()) = some (.inl (cops, g, now, c, next ++ (ball.drop k).map (fun x => now[j] ++ [x]), ball, (j : Int), ())) := by
  intro q
  induction q with
  | zero =>
    intro k f next e1 e2 e3
    obtain ⟨f, rfl⟩ : ∃ m, f = m + 1 := ⟨f - 1, by omega⟩
    have e : k = ball.length := by omega
    subst e
    rw [List.drop_of_length_le (Nat.le_refl _)]
    show spec_l4Moves_l4_r _ _ _ = _
    unfold spec_l4Moves_l4_r
    simp only [lt_not, Bool.false_eq_true, if_false, List.map_nil, List.append_nil]
  | succ q ih =>
    intro k f next e1 e2 e3
    obtain ⟨f, rfl⟩ : ∃ m, f = m + 1 := ⟨f - 1, by omega⟩
    have hk : k < ball.length := by omega
    have ek : at_ I ball k = ball[k] := at_get (e := I) hk
    have ej : at_ K_Si now j = now[j] := at_get (e := K_Si) hj
    have c1 : decide (now[j].length + List.length [ball[k]] ≤ lim) = true := by unfold lim; simp; omega
    have c2 : decide (next.length + List.length [now[j] ++ [ball[k]]] ≤ lim) = true := by unfold lim; simp; omega
    show spec_l4Moves_l4_r _ _ _ = _
    unfold spec_l4Moves_l4_r
    simp only [lt_dec hk, if_true, idxIn_nat hj, idxIn_nat hk, Int.toNat_natCast, ek, ej, own_some now[j] hlen, Option.bind_some, c1, c2, wrap8 hk hb]
    rw [ih (k + 1) f _ (by omega) (by omega) (by simp; omega), List.drop_eq_getElem_cons hk, List.map_cons, List.append_assoc, List.singleton_append]
theorem mv_l2 (N : Nat) (hN : 10 ≤ N) (cops : List Int) (g : Gr) (now : List (List Int)) (hnow : now.length ≤ 64) (hle : ∀ l ∈ now, l.length ≤ 1000) (c : Int) (ball : List Int) (hb : ball.length ≤ 8) : ∀ q j f (next : List (List Int)), j + q = now.length → q < f → next.length + 8 * q ≤ 900 →
    spec_l4Moves_l2 N f (cops, g, now, c, next, ball, (j : Int), ()) = some (.inl (cops, g, c, next ++ (now.drop j).flatMap (fun l => ball.map fun x => l ++ [x]), ())) := by
  intro q
  induction q with
  | zero =>
    intro j f next e1 e2 e3
    obtain ⟨f, rfl⟩ : ∃ m, f = m + 1 := ⟨f - 1, by omega⟩
    have e : j = now.length := by omega
    subst e
    rw [List.drop_of_length_le (Nat.le_refl _)]
    show spec_l4Moves_l2_r _ _ _ = _
    unfold spec_l4Moves_l2_r
    simp only [lt_not, Bool.false_eq_true, if_false, List.flatMap_nil, List.append_nil]
  | succ q ih =>
    intro j f next e1 e2 e3
    obtain ⟨f, rfl⟩ : ∃ m, f = m + 1 := ⟨f - 1, by omega⟩
    have hj : j < now.length := by omega
    have hin := mv_l4 N cops g now c ball hb j hj (hle _ (List.getElem_mem hj)) ball.length 0 N next (by omega) (by omega) (by omega)
    simp only [Int.natCast_zero, List.drop_zero] at hin
    have hw : IntKind.wrap .i64 ((j : Int) + 1) = ((j + 1 : Nat) : Int) := by
      rw [wrap_in _ (by omega) (by omega)]
      rfl
    show spec_l4Moves_l2_r _ _ _ = _
    unfold spec_l4Moves_l2_r
    simp only [lt_dec hj, if_true, hin, Option.bind_some, hw]
    rw [ih (j + 1) f _ (by omega) (by omega) (by simp; omega), List.drop_eq_getElem_cons hj, List.flatMap_cons, List.append_assoc]
theorem flat_len (ball : List Int) : ∀ now : List (List Int), (now.flatMap fun l => ball.map fun x => l ++ [x]).length = now.length * ball.length := by
  intro now
  induction now with
  | nil => simp
  | cons l now ih =>
    rw [List.flatMap_cons, List.length_append, ih, List.length_map, List.length_cons, Nat.succ_mul]
    omega
theorem flat_each {ball : List Int} {now : List (List Int)} {i : Nat} (h : ∀ l ∈ now, l.length = i) : ∀ l ∈ now.flatMap (fun l => ball.map fun x => l ++ [x]), l.length = i + 1 := by
  intro l hl
  obtain ⟨a, ha, h2⟩ := List.mem_flatMap.1 hl
  obtain ⟨x, _, rfl⟩ := List.mem_map.1 h2
  simp [h a ha]
theorem chL_facts {ball : Int → List Int} : ∀ {cs : List Int} {now : List (List Int)} {i : Nat}, (∀ c ∈ cs, (ball c).length ≤ 8) → (∀ l ∈ now, l.length = i) → (chL ball cs now).length ≤ now.length * 8 ^ cs.length ∧ ∀ l ∈ chL ball cs now, l.length = i + cs.length := by
  intro cs
  induction cs with
  | nil => intro now i _ h; exact ⟨by simp [chL], fun l hl => by simpa using h l hl⟩
  | cons c cs ih =>
    intro now i hb h
    obtain ⟨h1, h2⟩ := ih (fun c hc => hb c (by simp [hc])) (flat_each (ball := ball c) h)
    refine ⟨?_, fun l hl => by rw [h2 l hl]; simp; omega⟩
    refine Nat.le_trans h1 ?_
    rw [flat_len, List.length_cons, Nat.pow_succ, Nat.mul_comm (8 ^ cs.length) 8, ← Nat.mul_assoc]
    exact Nat.mul_le_mul_right _ (Nat.mul_le_mul_left _ (hb c (by simp)))
theorem mv_l0 (N : Nat) (hN : 100 ≤ N) (g : Gr) (hG : grB g = true) (cops : List Int) (h3 : cops.length ≤ 3) (hc : ∀ c ∈ cops, inB 0 (g.1 - 1) c = true) : ∀ q i f (now : List (List Int)), i + q = cops.length → q < f → now.length ≤ 8 ^ i → (∀ l ∈ now, l.length = i) →
    spec_l4Moves_l0 N f (cops, g, now, (i : Int), ()) = some (.inl (chL (ballF g.1.toNat g.2.1) (cops.drop i) now, ())) := by
  obtain ⟨g1, g2, g8, g4⟩ := grB_parts hG
  intro q
  induction q with
  | zero =>
    intro i f now e1 e2 e3 e4
    obtain ⟨f, rfl⟩ : ∃ m, f = m + 1 := ⟨f - 1, by omega⟩
    have e : i = cops.length := by omega
    subst e
    rw [List.drop_of_length_le (Nat.le_refl _)]
    show spec_l4Moves_l0_r _ _ _ = _
    unfold spec_l4Moves_l0_r
    simp only [lt_not, Bool.false_eq_true, if_false, chL]
  | succ q ih =>
    intro i f now e1 e2 e3 e4
    obtain ⟨f, rfl⟩ : ∃ m, f = m + 1 := ⟨f - 1, by omega⟩
    have hi : i < cops.length := by omega
    have ei : at_ I cops i = cops[i] := at_get (e := I) hi
    obtain ⟨b1, b2⟩ := inB_nat g2 (hc _ (List.getElem_mem hi))
    have hb := ball_some hG b2
    rw [← b1] at hb
    have hbl := ballF_len g.1.toNat g.2.1 cops[i]
    have h64 : now.length ≤ 64 := by
      have : 8 ^ i ≤ 8 ^ 2 := Nat.pow_le_pow_right (by omega) (by omega)
      omega
    have hin := mv_l2 N (by omega) cops g now h64 (fun l hl => by rw [e4 l hl]; omega) (i : Int) (ballF g.1.toNat g.2.1 cops[i]) (by omega) now.length 0 N [] (by omega) (by omega) (by simp; omega)
    simp only [Int.natCast_zero, List.drop_zero, List.nil_append] at hin
    have hw : IntKind.wrap .i64 ((i : Int) + 1) = ((i + 1 : Nat) : Int) := by
      rw [wrap_in _ (by omega) (by omega)]
      rfl
    show spec_l4Moves_l0_r _ _ _ = _
    unfold spec_l4Moves_l0_r
    simp only [lt_dec hi, if_true, idxIn_nat hi, Int.toNat_natCast, ei, hb, Option.bind_some, hin, hw]
    rw [List.drop_eq_getElem_cons hi]
    refine ih (i + 1) f _ (by omega) (by omega) ?_ (flat_each e4)
    rw [flat_len, Nat.pow_succ]
    exact Nat.mul_le_mul e3 (by omega)
theorem mv_l6 (N : Nat) (L : List (List Int)) (hL : L.length ≤ 900) (m : Nat) (hm : m ≤ 900) (hal : ∀ l ∈ L, l.length = m) : ∀ q i f (out : List (List Int)), i + q = L.length → q < f → out.length ≤ i → (∀ l ∈ out, l.length = m) →
    spec_l4Moves_l6 N f (L, out, (i : Int), ()) = some (.inl ((L.drop i).foldl (fun o x => putS (sortI x) o) out, ())) := by
  intro q
  induction q with
  | zero =>
    intro i f out e1 e2 e3 e4
    obtain ⟨f, rfl⟩ : ∃ m, f = m + 1 := ⟨f - 1, by omega⟩
    have e : i = L.length := by omega
    subst e
    rw [List.drop_of_length_le (Nat.le_refl _)]
    show spec_l4Moves_l6_r _ _ _ = _
    unfold spec_l4Moves_l6_r
    simp only [lt_not, Bool.false_eq_true, if_false, List.foldl_nil]
  | succ q ih =>
    intro i f out e1 e2 e3 e4
    obtain ⟨f, rfl⟩ : ∃ m, f = m + 1 := ⟨f - 1, by omega⟩
    have hi : i < L.length := by omega
    have ei : at_ K_Si L i = L[i] := at_get (e := K_Si) hi
    have hli := hal _ (List.getElem_mem hi)
    have hs : G_l4Sorted (L[i], ()) = some (sortI L[i], ()) := by
      unfold G_l4Sorted
      rw [if_pos (decide_eq_true (by show L[i].length ≤ 1000; omega))]
    have hsl : (sortI L[i]).length = m := by rw [sort_len, hli]
    have hp : G_l4Put (out, sortI L[i], ()) = some (putS (sortI L[i]) out, ()) := by
      unfold G_l4Put
      have c1 : decide (out.length ≤ 1000) = true := decide_eq_true (by omega)
      have c2 : okL (sortI L[i]) = true := decide_eq_true (by rw [hsl]; unfold lim; omega)
      have c3 : out.all (fun l => decide (l.length = (sortI L[i]).length)) = true := List.all_eq_true.2 fun l hl => decide_eq_true (by rw [e4 l hl, hsl])
      simp only [c1, c2, c3, Bool.and_self, if_true]
    have hw : IntKind.wrap .i64 ((i : Int) + 1) = ((i + 1 : Nat) : Int) := by
      rw [wrap_in _ (by omega) (by omega)]
      rfl
    show spec_l4Moves_l6_r _ _ _ = _
    unfold spec_l4Moves_l6_r
    simp only [lt_dec hi, if_true, idxIn_nat hi, Int.toNat_natCast, ei, hs, Option.bind_some, hp, hw]
    rw [List.drop_eq_getElem_cons hi, List.foldl_cons]
    have hpl : ∀ l : List (List Int), (putS (sortI L[i]) l).length ≤ l.length + 1 := by
      intro l
      induction l with
      | nil => simp [putS]
      | cons a l ih => unfold putS; split <;> (try split) <;> simp <;> omega
    refine ih (i + 1) f _ (by omega) (by omega) (by have := hpl out; omega) fun l hl => ?_
    rcases putS_mem.1 hl with rfl | hl
    · exact hsl
    · exact e4 l hl
theorem nodes_parts {n : Int} {cops : List Int} (h : nodesB n cops = true) : cops.length ≤ 3 ∧ ∀ c ∈ cops, inB 0 (n - 1) c = true := by
  unfold nodesB at h
  simp only [Bool.and_eq_true, decide_eq_true_eq] at h
  exact ⟨h.1, fun c hc => List.all_eq_true.1 h.2 c hc⟩
theorem l4Moves_lim (d) (r) (h : G_l4Moves d = some r) : ∃ N, F_spec_l4Moves N d = some r := by
  obtain ⟨g, cops, _⟩ := d
  unfold G_l4Moves at h
  split at h
  · rename_i hc
    simp only [Bool.and_eq_true] at hc
    obtain ⟨hG, hc⟩ := hc
    have hG : grB g = true := hG
    obtain ⟨h3, hin⟩ := nodes_parts hc
    obtain ⟨g1, g2, g8, g4⟩ := grB_parts hG
    have h := Option.some.inj h
    subst h
    refine ⟨1000, ?_⟩
    unfold F_spec_l4Moves
    have h0 := mv_l0 1000 (by omega) g hG cops h3 hin cops.length 0 1000 [[]] (by omega) (by omega) (by simp) (by simp)
    simp only [Int.natCast_zero, List.drop_zero] at h0
    have hb8 : ∀ c ∈ cops, (ballF g.1.toNat g.2.1 c).length ≤ 8 := fun c _ => Nat.le_trans (ballF_len _ _ _) g8
    obtain ⟨f1, f2⟩ := chL_facts (ball := ballF g.1.toNat g.2.1) (cs := cops) (now := [[]]) (i := 0) hb8 (by simp)
    have hlen : (chL (ballF g.1.toNat g.2.1) cops [[]]).length ≤ 512 := by
      have : 8 ^ cops.length ≤ 8 ^ 3 := Nat.pow_le_pow_right (by omega) h3
      have e : ([[]] : List (List Int)).length = 1 := rfl
      rw [e] at f1
      omega
    have h6 := mv_l6 1000 (chL (ballF g.1.toNat g.2.1) cops [[]]) (by omega) (0 + cops.length) (by omega) f2 (chL (ballF g.1.toNat g.2.1) cops [[]]).length 0 1000 [] (by omega) (by omega) (by simp) (by simp)
    simp only [Int.natCast_zero, List.drop_zero] at h6
    simp only [h0, Option.bind_some, h6]
    show some (_, ()) = some (movesL (ballF g.1.toNat g.2.1) cops, ())
    unfold movesL
    rw [← puts_comp]
    unfold putsS
    rw [List.foldl_map]
  · cases h
end Go.V.W
set_option linter.unusedVariables false
set_option linter.unusedSimpArgs false
namespace Go.V.W
open Go.Proofs
theorem cm_l4 (N : Nat) (net : Nt) (cop : Int) (list cops : List Int) (n17 i : Int) (moves : List (List Int)) (n23 j : Int) (ball : List Int) (hb : ball.length ≤ 8) (hlen : list.length ≤ 1000) : ∀ q k f (next : List (List Int)), k + q = ball.length → q < f → next.length + q ≤ 1000 →
    impl_net_copMoves_l4 N f (net, cop, next, list, cops, n17, i, moves, n23, j, ball, (ball.length : Int), (k : Int), ()) = some (.inl (net, cop, next ++ (ball.drop k).map (fun x => list ++ [x]), cops, n17, i, moves, n23, j, ())) := by
  intro q
  induction q with
  | zero =>
    intro k f next e1 e2 e3
    obtain ⟨f, rfl⟩ : ∃ m, f = m + 1 := ⟨f - 1, by omega⟩
    have e : k = ball.length := by omega
    subst e
    rw [List.drop_of_length_le (Nat.le_refl _)]
    show impl_net_copMoves_l4_r _ _ _ = _
    unfold impl_net_copMoves_l4_r
    simp only [lt_not, Bool.false_eq_true, if_false, List.map_nil, List.append_nil]
  | succ q ih =>
    intro k f next e1 e2 e3
    obtain ⟨f, rfl⟩ : ∃ m, f = m + 1 := ⟨f - 1, by omega⟩
    have hk : k < ball.length := by omega
    have ek : at_ I ball k = ball[k] := at_get (e := I) hk
    have ht : G_toIntS (list, ()) = some (list, ()) := by
      unfold G_toIntS
      rw [if_pos (show okL list = true from decide_eq_true (by unfold lim; omega))]
    have c1 : decide (list.length + List.length [ball[k]] ≤ lim) = true := by unfold lim; simp; omega
    have c2 : decide (next.length + List.length [list ++ [ball[k]]] ≤ lim) = true := by unfold lim; simp; omega
    show impl_net_copMoves_l4_r _ _ _ = _
    unfold impl_net_copMoves_l4_r
    simp only [lt_dec hk, if_true, idxIn_nat hk, Int.toNat_natCast, ek, ht, Option.bind_some, c1, c2, wrap8 hk hb]
    rw [ih (k + 1) f _ (by omega) (by omega) (by simp; omega), List.drop_eq_getElem_cons hk, List.map_cons, List.append_assoc, List.singleton_append]
theorem cm_l2 (N : Nat) (hN : 10 ≤ N) {l : List Int} (hn : netB l = true) (u : Unit) (c : Nat) (hc : c < l.length) (cops : List Int) (n17 i : Int) (now : List (List Int)) (hnow : now.length ≤ 64) (hle : ∀ l ∈ now, l.length ≤ 1000) : ∀ q j f (next : List (List Int)), j + q = now.length → q < f → next.length + 8 * q ≤ 900 →
    impl_net_copMoves_l2 N f ((l, u), (c : Int), next, cops, n17, i, now, (now.length : Int), (j : Int), ()) = some (.inl ((l, u), next ++ (now.drop j).flatMap (fun l' => (ballM l (c : Int)).map fun x => l' ++ [x]), cops, n17, i, ())) := by
  intro q
  have hb := ballM_len l (c : Int)
  induction q with
  | zero =>
    intro j f next e1 e2 e3
    obtain ⟨f, rfl⟩ : ∃ m, f = m + 1 := ⟨f - 1, by omega⟩
    have e : j = now.length := by omega
    subst e
    rw [List.drop_of_length_le (Nat.le_refl _)]
    show impl_net_copMoves_l2_r _ _ _ = _
    unfold impl_net_copMoves_l2_r
    simp only [lt_not, Bool.false_eq_true, if_false, List.flatMap_nil, List.append_nil]
  | succ q ih =>
    intro j f next e1 e2 e3
    obtain ⟨f, rfl⟩ : ∃ m, f = m + 1 := ⟨f - 1, by omega⟩
    have hj : j < now.length := by omega
    have ej : at_ K_Si now j = now[j] := at_get (e := K_Si) hj
    have hin := cm_l4 N (l, u) (c : Int) now[j] cops n17 i now (now.length : Int) (j : Int) (ballM l (c : Int)) hb (hle _ (List.getElem_mem hj)) (ballM l (c : Int)).length 0 N next (by omega) (by omega) (by omega)
    simp only [Int.natCast_zero, List.drop_zero] at hin
    have hw : IntKind.wrap .i64 ((j : Int) + 1) = ((j + 1 : Nat) : Int) := by
      rw [wrap_in _ (by omega) (by omega)]
      rfl
    show impl_net_copMoves_l2_r _ _ _ = _
    unfold impl_net_copMoves_l2_r
    simp only [lt_dec hj, if_true, idxIn_nat hj, Int.toNat_natCast, ej, closedM hn u hc, setOfM hn hc, Option.bind_some, hin, hw]
    rw [ih (j + 1) f _ (by omega) (by omega) (by simp; omega), List.drop_eq_getElem_cons hj, List.flatMap_cons, List.append_assoc]
theorem cm_l0 (N : Nat) (hN : 100 ≤ N) {l : List Int} (hn : netB l = true) (u : Unit) (cops : List Int) (h3 : cops.length ≤ 3) (hc : ∀ c ∈ cops, inB 0 ((l.length : Int) - 1) c = true) : ∀ q i f (now : List (List Int)), i + q = cops.length → q < f → now.length ≤ 8 ^ i → (∀ l ∈ now, l.length = i) →
    impl_net_copMoves_l0 N f ((l, u), now, cops, (cops.length : Int), (i : Int), ()) = some (.inl (chL (ballM l) (cops.drop i) now, ())) := by
  intro q
  induction q with
  | zero =>
    intro i f now e1 e2 e3 e4
    obtain ⟨f, rfl⟩ : ∃ m, f = m + 1 := ⟨f - 1, by omega⟩
    have e : i = cops.length := by omega
    subst e
    rw [List.drop_of_length_le (Nat.le_refl _)]
    show impl_net_copMoves_l0_r _ _ _ = _
    unfold impl_net_copMoves_l0_r
    simp only [lt_not, Bool.false_eq_true, if_false, chL]
  | succ q ih =>
    intro i f now e1 e2 e3 e4
    obtain ⟨f, rfl⟩ : ∃ m, f = m + 1 := ⟨f - 1, by omega⟩
    have hi : i < cops.length := by omega
    have ei : at_ I cops i = cops[i] := at_get (e := I) hi
    obtain ⟨b1, b2⟩ := inB_len (hc _ (List.getElem_mem hi))
    have hbl := ballM_len l cops[i]
    have h64 : now.length ≤ 64 := by
      have : 8 ^ i ≤ 8 ^ 2 := Nat.pow_le_pow_right (by omega) (by omega)
      omega
    have hin := cm_l2 N (by omega) hn u cops[i].toNat b2 cops (cops.length : Int) (i : Int) now h64 (fun l hl => by rw [e4 l hl]; omega) now.length 0 N [] (by omega) (by omega) (by simp; omega)
    rw [← b1] at hin
    simp only [Int.natCast_zero, List.drop_zero, List.nil_append] at hin
    have hw : IntKind.wrap .i64 ((i : Int) + 1) = ((i + 1 : Nat) : Int) := by
      rw [wrap_in _ (by omega) (by omega)]
      rfl
    show impl_net_copMoves_l0_r _ _ _ = _
    unfold impl_net_copMoves_l0_r
    simp only [lt_dec hi, if_true, idxIn_nat hi, Int.toNat_natCast, ei, hin, Option.bind_some, hw]
    rw [List.drop_eq_getElem_cons hi]
    refine ih (i + 1) f _ (by omega) (by omega) ?_ (flat_each e4)
    rw [flat_len, Nat.pow_succ]
    exact Nat.mul_le_mul e3 hbl
theorem cm_l6 (N : Nat) : ∀ (rest pre : List (List Int)) f, rest.length < f → pre.length + rest.length ≤ 900 → (∀ l ∈ rest, l.length ≤ 900) →
    impl_net_copMoves_l6 N f (pre ++ rest, (), ((pre.length + rest.length : Nat) : Int), (pre.length : Int), ()) = some (.inl (pre ++ rest.map sortI, ())) := by
  intro rest
  induction rest with
  | nil =>
    intro pre f e1 e2 e3
    obtain ⟨f, rfl⟩ : ∃ m, f = m + 1 := ⟨f - 1, by omega⟩
    show impl_net_copMoves_l6_r _ _ _ = _
    unfold impl_net_copMoves_l6_r
    simp only [List.length_nil, Nat.add_zero, lt_not, Bool.false_eq_true, if_false, List.map_nil]
  | cons x rest ih =>
    intro pre f e1 e2 e3
    obtain ⟨f, rfl⟩ : ∃ m, f = m + 1 := ⟨f - 1, by omega⟩
    have e2' : pre.length + (rest.length + 1) ≤ 900 := by simpa using e2
    have hlt : decide ((pre.length : Int) < ((pre.length + (x :: rest).length : Nat) : Int)) = true := decide_eq_true (by simp; omega)
    have hix : idxIn (pre.length : Int) (pre ++ x :: rest).length = true := idxIn_nat (by simp)
    have hs : G_sortI (x, ()) = some (sortI x, ()) := by
      unfold G_sortI
      rw [if_pos (decide_eq_true (by have := e3 x (by simp); unfold lim; show x.length ≤ _; omega))]
    have hw : IntKind.wrap .i64 ((pre.length : Int) + 1) = ((pre.length + 1 : Nat) : Int) := by
      rw [wrap_in _ (by omega) (by omega)]
      rfl
    show impl_net_copMoves_l6_r _ _ _ = _
    unfold impl_net_copMoves_l6_r
    simp only [hlt, hix, if_true, Int.toNat_natCast, at_midS, hs, Option.bind_some, set_midS, hw]
    have := ih (pre ++ [sortI x]) f (by simp at e1; omega) (by simp; omega) (fun l hl => e3 l (by simp [hl]))
    simp only [List.length_append, List.length_singleton, List.append_assoc, List.singleton_append] at this
    rw [show ((pre.length + (x :: rest).length : Nat) : Int) = ((pre.length + 1 + rest.length : Nat) : Int) by simp; omega]
    rw [this, List.map_cons]
theorem copMoves47_lim (d) (r) (h : G_copMoves d = some r) : ∃ N, F_impl_net_copMoves N d = some r := by
  obtain ⟨⟨l, u⟩, cops, _⟩ := d
  unfold G_copMoves at h
  split at h
  · rename_i hc
    simp only [Bool.and_eq_true] at hc
    obtain ⟨hn, hc⟩ := hc
    have hn : netB l = true := hn
    obtain ⟨h3, hin⟩ := nodes_parts hc
    have h := Option.some.inj h
    subst h
    refine ⟨1000, ?_⟩
    unfold F_impl_net_copMoves
    have h0 := cm_l0 1000 (by omega) hn u cops h3 hin cops.length 0 1000 [[]] (by omega) (by omega) (by simp) (by simp)
    simp only [Int.natCast_zero, List.drop_zero] at h0
    obtain ⟨f1, f2⟩ := chL_facts (ball := ballM l) (cs := cops) (now := [[]]) (i := 0) (fun c _ => ballM_len l c) (by simp)
    have hlen : (chL (ballM l) cops [[]]).length ≤ 512 := by
      have : 8 ^ cops.length ≤ 8 ^ 3 := Nat.pow_le_pow_right (by omega) h3
      have e : ([[]] : List (List Int)).length = 1 := rfl
      rw [e] at f1
      omega
    have h6 := cm_l6 1000 (chL (ballM l) cops [[]]) [] 1000 (by omega) (by simp; omega) (fun l hl => by rw [f2 l hl]; omega)
    simp only [List.nil_append, List.length_nil, Nat.zero_add, Int.natCast_zero] at h6
    have hok : okLL ((chL (ballM l) cops [[]]).map sortI) = true := by
      unfold okLL
      rw [Bool.and_eq_true]
      refine ⟨decide_eq_true (by rw [List.length_map]; unfold lim; omega), List.all_eq_true.2 fun y hy => ?_⟩
      obtain ⟨x, hx, rfl⟩ := List.mem_map.1 hy
      exact decide_eq_true (by rw [sort_len, f2 x hx]; unfold lim; omega)
    have hok2 : okLL (sortS ((chL (ballM l) cops [[]]).map sortI)) = true := by
      unfold okLL at hok ⊢
      rw [Bool.and_eq_true] at hok ⊢
      refine ⟨decide_eq_true (by rw [sortS_len]; exact okL_lim hok.1), List.all_eq_true.2 fun y hy => ?_⟩
      exact List.all_eq_true.1 hok.2 y ((sortS_perm _).mem_iff.1 hy)
    simp only [h0, Option.bind_some, h6, G_sortF, hok, if_true, G_compactF, hok2]
    rfl
  · cases h
end Go.V.W
set_option linter.unusedVariables false
set_option linter.unusedSimpArgs false
namespace Go.V.W
open Go.Proofs
theorem less_int (a b : Int) (u : Unit) : g_cmp_Less_int (a, b, u) = (decide (a < b), ()) := by
  unfold g_cmp_Less_int g_cmp_isNaN_int
  simp only [bne_self_eq_false, Bool.false_eq_true, if_false]
theorem isSorted_lim (d) (r) (h : G_isSorted d = some r) : ∃ N, F_slices_IsSorted_Sint_int N d = some r := by
  obtain ⟨l, _⟩ := d
  unfold G_isSorted at h
  split at h
  · rename_i hl
    have hl : l.length ≤ lim := of_decide_eq_true hl
    have hmx := lim_max hl
    have h := Option.some.inj h
    subst h
    refine ⟨l.length + 1, ?_⟩
    unfold F_slices_IsSorted_Sint_int
    have key : ∀ i f, i < f → i < l.length → ∃ o, slices_IsSorted_Sint_int_l0 (l.length + 1) f (l, (i : Int), ()) = some o ∧ ((o = .inl (false, ()) ∧ ¬ ∀ j, 0 < j → j ≤ i → at_ I l (j - 1) ≤ at_ I l j) ∨ (o = .inr (.inl ()) ∧ ∀ j, 0 < j → j ≤ i → at_ I l (j - 1) ≤ at_ I l j)) := by
      intro i
      induction i with
      | zero =>
        intro f e1 e2
        obtain ⟨f, rfl⟩ : ∃ m, f = m + 1 := ⟨f - 1, by omega⟩
        refine ⟨.inr (.inl ()), ?_, .inr ⟨rfl, fun j h1 h2 => by omega⟩⟩
        show slices_IsSorted_Sint_int_l0_r _ _ _ = _
        unfold slices_IsSorted_Sint_int_l0_r
        simp
      | succ i ih =>
        intro f e1 e2
        obtain ⟨f, rfl⟩ : ∃ m, f = m + 1 := ⟨f - 1, by omega⟩
        have hg : decide (((i + 1 : Nat) : Int) > 0) = true := decide_eq_true (by omega)
        have hi' : i < l.length := by omega
        show ∃ o, slices_IsSorted_Sint_int_l0_r _ _ _ = some o ∧ _
        unfold slices_IsSorted_Sint_int_l0_r
        simp only [hg, if_true, idxIn_nat e2, wrap_down (show 0 < i + 1 by omega) (show i + 1 ≤ maxLen by omega), Nat.add_sub_cancel, idxIn_nat hi', Int.toNat_natCast, less_int]
        by_cases hc : at_ I l (i + 1) < at_ I l i
        · simp only [hc, decide_true, if_true]
          refine ⟨_, rfl, .inl ⟨rfl, fun hh => ?_⟩⟩
          have := hh (i + 1) (by omega) (Nat.le_refl _)
          exact absurd hc (Int.not_lt.2 this)
        · simp only [hc, decide_false, Bool.false_eq_true, if_false]
          obtain ⟨o, o1, o2⟩ := ih f (by omega) hi'
          refine ⟨o, o1, ?_⟩
          rcases o2 with ⟨rfl, h2⟩ | ⟨rfl, h2⟩
          · exact .inl ⟨rfl, fun hh => h2 fun j h3 h4 => hh j h3 (by omega)⟩
          · refine .inr ⟨rfl, fun j h3 h4 => ?_⟩
            by_cases e : j = i + 1
            · subst e
              exact Int.not_lt.1 hc
            · exact h2 j h3 (by omega)
    by_cases hz : l.length = 0
    · have : l = [] := List.length_eq_zero_iff.1 hz
      subst this
      rfl
    · have hw : IntKind.wrap .i64 ((l.length : Int) - 1) = ((l.length - 1 : Nat) : Int) := wrap_down (by omega) hmx
      obtain ⟨o, o1, o2⟩ := key (l.length - 1) (l.length + 1) (by omega) (by omega)
      simp only [hw, o1, Option.bind_some]
      rcases o2 with ⟨rfl, h2⟩ | ⟨rfl, h2⟩
      · have : ndB l = false := (Bool.not_eq_true _).mp fun hh => h2 fun j h3 h4 => (ndB_iff l).1 hh j h3 (by omega)
        simp only [this]
      · have : ndB l = true := (ndB_iff l).2 fun j h3 h4 => h2 j h3 (by omega)
        simp only [this]
  · cases h
theorem moves_ok {ball : Int → List Int} {cs : List Int} (h3 : cs.length ≤ 3) (hb : ∀ c ∈ cs, (ball c).length ≤ 8) : okLL (movesL ball cs) = true := by
  obtain ⟨f1, f2⟩ := chL_facts (ball := ball) (cs := cs) (now := [[]]) (i := 0) hb (by simp)
  have hlen : (chL ball cs [[]]).length ≤ 512 := by
    have : 8 ^ cs.length ≤ 8 ^ 3 := Nat.pow_le_pow_right (by omega) h3
    have e : ([[]] : List (List Int)).length = 1 := rfl
    rw [e] at f1
    omega
  have hcl : (movesL ball cs).length ≤ 512 := by
    unfold movesL compL
    rw [List.length_map]
    refine Nat.le_trans (keepI_le _ _) ?_
    rw [sortS_len, List.length_map]
    exact hlen
  unfold okLL
  rw [Bool.and_eq_true]
  refine ⟨decide_eq_true (by unfold lim; omega), List.all_eq_true.2 fun y hy => ?_⟩
  have hy2 := (sortS_perm _).mem_iff.1 ((comp_mem y).1 hy)
  obtain ⟨x, hx, rfl⟩ := List.mem_map.1 hy2
  exact decide_eq_true (by rw [sort_len, f2 x hx]; unfold lim; omega)
/-- The steps of a walk from the place i on. -/
def prevAt (w : List (List Int)) : Nat → Option (List Int)
  | 0 => none
  | i + 1 => some (w.getD i [])
theorem cops_nodes {n : Int} {c : List Int} (h : copsB n c = true) (h3 : c.length ≤ 3) : nodesB n c = true := by
  unfold copsB at h
  rw [Bool.and_eq_true] at h
  unfold nodesB
  rw [Bool.and_eq_true]
  exact ⟨decide_eq_true h3, h.1⟩
theorem l11Walk_lim (d) (r) (h : G_l11Walk d = some r) : ∃ N, F_spec_l11Walk N d = some r := by
  obtain ⟨⟨n, es, v⟩, w, _⟩ := d
  unfold G_l11Walk at h
  split at h
  · rename_i hc
    simp only [Bool.and_eq_true] at hc
    obtain ⟨⟨ho, hw⟩, hg⟩ := hc
    have ho : okL es = true := ho
    have hw : (okL w && w.all okL) = true := hw
    have hg : graphB (n, es, v) = true := hg
    rw [Bool.and_eq_true] at hw
    obtain ⟨n0, n8⟩ := graphB_n hg
    have hG := graph_grB hg ho
    have hwl := okL_lim hw.1
    have hmx := lim_max hwl
    have h := Option.some.inj h
    subst h
    refine ⟨w.length + 1, ?_⟩
    unfold F_spec_l11Walk walkB
    simp only [l1In_eq, hg, Bool.true_and]
    cases h40 : inB 1 40 (w.length : Int) with
    | false => rfl
    | true =>
      have hpos : 0 < w.length := by have := inB_iff.1 h40; omega
      have e0 : at_ K_Si w (0 : Int).toNat = w.headD [] := by
        cases w with
        | nil => simp at hpos
        | cons a w => rfl
      have i0 : idxIn (0 : Int) w.length = true := idxIn_nat hpos
      have hf : F_spec_l4Field 0 ((n, es, v), ((w.headD []).length : Int), ()) = some (decide (n > 0) && inB 1 3 ((w.headD []).length : Int), ()) := by
        unfold F_spec_l4Field G_graph
        simp only [ho, if_true, Option.bind_some, hg, l1In_eq]
        cases decide (n > 0) <;> rfl
      simp only [Bool.not_true, Bool.false_eq_true, if_false, i0, if_true, e0, hf, Option.bind_some, Bool.true_and]
      cases hk : decide (n > 0) && inB 1 3 ((w.headD []).length : Int) with
      | false => simp only [Bool.not_false, if_true, Bool.false_and]
      | true =>
        rw [Bool.and_eq_true] at hk
        have hk3 := inB_iff.1 hk.2
        have key : ∀ q i f, i + q = w.length → q < f → (∀ p, prevAt w i = some p → p.length = (w.headD []).length ∧ copsB n p = true) →
            spec_l11Walk_l0 (w.length + 1) f (w, (n, es, v), (i : Int), ()) = some (if restB (ballF n.toNat es) n (w.headD []).length (prevAt w i) (w.drop i) = true then .inr (.inl ()) else .inl (false, ())) := by
          intro q
          induction q with
          | zero =>
            intro i f e1 e2 e3
            obtain ⟨f, rfl⟩ : ∃ m, f = m + 1 := ⟨f - 1, by omega⟩
            have e : i = w.length := by omega
            subst e
            rw [List.drop_of_length_le (Nat.le_refl _)]
            show spec_l11Walk_l0_r _ _ _ = _
            unfold spec_l11Walk_l0_r
            simp only [lt_not, Bool.false_eq_true, if_false, restB, if_true]
          | succ q ih =>
            intro i f e1 e2 e3
            obtain ⟨f, rfl⟩ : ∃ m, f = m + 1 := ⟨f - 1, by omega⟩
            have hi : i < w.length := by omega
            have ei : at_ K_Si w i = w[i] := at_get (e := K_Si) hi
            have hcp : G_l4Cops ((n, es, v), w[i], ()) = some (copsB n w[i], ()) := by
              unfold G_l4Cops
              have c1 := List.all_eq_true.1 hw.2 w[i] (List.getElem_mem hi)
              have c2 : decide (0 ≤ n) = true := decide_eq_true n0
              have c3 : decide (n ≤ 8) = true := decide_eq_true n8
              simp only [c1, c2, c3, Bool.and_self, if_true]
            have hnext : prevAt w (i + 1) = some w[i] := by simp [prevAt, List.getD_eq_getElem?_getD, hi]
            have hiw : IntKind.wrap .i64 ((i : Int) + 1) = ((i + 1 : Nat) : Int) := wrap_up hi hmx
            show spec_l11Walk_l0_r _ _ _ = _
            unfold spec_l11Walk_l0_r
            rw [List.drop_eq_getElem_cons hi]
            simp only [lt_dec hi, if_true, idxIn_nat hi, i0, Int.toNat_natCast, ei, e0, hcp, Option.bind_some, hiw, pos_dec, restB]
            by_cases hlen : w[i].length = (w.headD []).length
            · skip
              simp only [hlen, bne_self_eq_false, decide_true, Bool.false_eq_true, if_false, Bool.true_and]
              cases hco : copsB n w[i] with
              | false => simp only [Bool.not_false, if_true, Bool.false_and, Bool.false_eq_true, if_false]
              | true =>
                simp only [Bool.not_true, Bool.false_eq_true, if_false, Bool.true_and]
                have hih := ih (i + 1) f (by omega) (by omega) (fun p hp => by
                  rw [hnext] at hp
                  obtain rfl := Option.some.inj hp
                  exact ⟨hlen, hco⟩)
                rw [hnext] at hih
                cases i with
                | zero =>
                  simp only [Nat.lt_irrefl, decide_false, Bool.false_eq_true, if_false, prevAt, Bool.true_and]
                  exact hih
                | succ i =>
                  have hi2 : i < w.length := by omega
                  have ei2 : at_ K_Si w i = w.getD i [] := by rw [at_get (e := K_Si) hi2]; simp [List.getD_eq_getElem?_getD, hi2]
                  obtain ⟨p1, p2⟩ := e3 (w.getD i []) rfl
                  have hnd := cops_nodes p2 (by omega)
                  have hmv : G_l4Moves ((n, es, v), w.getD i [], ()) = some (movesL (ballF n.toNat es) (w.getD i []), ()) := by
                    unfold G_l4Moves
                    simp only [hG, hnd, Bool.and_self, if_true]
                  have hat : G_l4At (movesL (ballF n.toNat es) (w.getD i []), w[i + 1], ()) = some (idxI (idxN (fun y => decide (y = w[i + 1])) (movesL (ballF n.toNat es) (w.getD i [])) 0), ()) := by
                    unfold G_l4At
                    have := moves_ok (ball := ballF n.toNat es) (cs := w.getD i []) (by omega) (fun c _ => Nat.le_trans (ballF_len _ _ _) (by omega))
                    simp only [this, if_true]
                  have hd : IntKind.wrap .i64 (((i + 1 : Nat) : Int) - 1) = (i : Int) := wrap_down (show 0 < i + 1 by omega) (show i + 1 ≤ maxLen by omega)
                  have hge := idxI_ge (fun y => decide (y = w[i + 1])) (movesL (ballF n.toNat es) (w.getD i [])) 0
                  simp only [Nat.succ_pos, decide_true, if_true, hd, idxIn_nat hi2, Int.toNat_natCast, ei2, hmv, Option.bind_some, hat, prevAt]
                  by_cases hany : ((movesL (ballF n.toNat es) (w.getD i [])).any fun y => decide (y = w[i + 1])) = true
                  · rw [hany] at hge
                    have : ¬ idxI (idxN (fun y => decide (y = w[i + 1])) (movesL (ballF n.toNat es) (w.getD i [])) 0) < 0 := Int.not_lt.2 (of_decide_eq_true hge)
                    simp only [this, hany, decide_false, Bool.false_eq_true, if_false, Bool.true_and]
                    exact hih
                  · have hany := Bool.eq_false_iff.2 hany
                    rw [hany] at hge
                    have : idxI (idxN (fun y => decide (y = w[i + 1])) (movesL (ballF n.toNat es) (w.getD i [])) 0) < 0 := Int.not_le.1 (of_decide_eq_false hge)
                    simp only [this, hany, decide_true, if_true, Bool.false_and, Bool.false_eq_true, if_false]
            · have b1 : ((w[i].length : Int) != ((w.headD []).length : Int)) = true := bne_iff_ne.2 (by omega)
              simp only [b1, hlen, decide_false, if_true, Bool.false_and, Bool.false_eq_true, if_false]
        have := key w.length 0 (w.length + 1) (by omega) (by omega) (fun p hp => by cases hp)
        simp only [Int.natCast_zero, List.drop_zero] at this
        have e5 : prevAt w 0 = none := rfl
        rw [e5] at this
        simp only [Bool.not_true, Bool.false_eq_true, if_false, this, Option.bind_some]
        cases hr : restB (ballF n.toNat es) n (w.headD []).length none w <;> simp [hr]
  · cases h
end Go.V.W
set_option linter.unusedVariables false
set_option linter.unusedSimpArgs false
namespace Go.V.W
open Go.Proofs
theorem are_cops {n : Int} {es : List E} {v u : Unit} {l : List Int} (hg : graphB (n, es, v) = true) (ho : okL es = true) (hl : okL l = true) : F_impl_areCops 0 ((n, es, v), l, u) = some (decide (n > 0) && inB 1 3 (l.length : Int) && copsB n l, ()) := by
  unfold F_impl_areCops F_impl_isCopGame G_graph G_isSorted copsB
  simp only [ho, hl, hg, if_true, Option.bind_some, within_eq, has_nodes n es v () l ho hl, Bool.true_and]
  cases decide (n > 0) with
  | false => simp only [Bool.false_eq_true, if_false, Option.bind_some, Bool.false_and]
  | true =>
    simp only [if_true, Option.bind_some, Bool.true_and]
    cases inB 1 3 (l.length : Int) with
    | false => simp only [Bool.false_eq_true, if_false, Bool.false_and]
    | true =>
      simp only [if_true, Bool.true_and]
      cases l.all (inB 0 (n - 1)) with
      | false => simp only [Bool.false_eq_true, if_false, Bool.false_and]
      | true => simp only [if_true, Bool.true_and]
theorem isWalk_lim (d) (r) (h : G_walk d = some r) : ∃ N, F_impl_isWalk N d = some r := by
  obtain ⟨⟨n, es, v⟩, w, _⟩ := d
  unfold G_walk at h
  split at h
  · rename_i hc
    rw [Bool.and_eq_true] at hc
    obtain ⟨ho, hw⟩ := hc
    have ho : okL es = true := ho
    have hw : (okL w && w.all okL) = true := hw
    obtain ⟨hwa, hwb⟩ := (Bool.and_eq_true _ _).mp hw
    have hwl := okL_lim hwa
    have hmx := lim_max hwl
    have h := Option.some.inj h
    subst h
    refine ⟨w.length + 1, ?_⟩
    unfold F_impl_isWalk walkB G_graph
    simp only [ho, if_true, Option.bind_some, within_eq]
    cases hg : graphB (n, es, v) with
    | false => rfl
    | true =>
    obtain ⟨n0, n8⟩ := graphB_n hg
    simp only [Bool.true_and, Bool.not_true, Bool.false_eq_true, if_false]
    cases h40 : inB 1 40 (w.length : Int) with
    | false => rfl
    | true =>
      have hpos : 0 < w.length := by have := inB_iff.1 h40; omega
      have e0 : at_ K_Si w (0 : Int).toNat = w.headD [] := by
        cases w with
        | nil => simp at hpos
        | cons a w => rfl
      have i0 : idxIn (0 : Int) w.length = true := idxIn_nat hpos
      obtain ⟨m, rfl⟩ : ∃ m : Nat, n = (m : Int) := ⟨n.toNat, by omega⟩
      obtain ⟨g1, g2⟩ := graphB_edges hg
      have hm8 : m ≤ 8 := by omega
      have hnet := netB_net hm8 g1
      simp only [net_some hg ho, Option.bind_some, Bool.true_and, Bool.not_true, Bool.false_eq_true, if_false, Int.toNat_natCast]
      cases hk : decide ((m : Int) > 0) && inB 1 3 ((w.headD []).length : Int) with
      | false =>
        have hr : impl_isWalk_l0_r (w.length + 1) (impl_isWalk_l0 (w.length + 1) w.length) (w, ((m : Int), es, v), (toI (netN m es), ()), w, (w.length : Int), (0 : Int), ()) = some (.inl (false, ())) := by
          unfold impl_isWalk_l0_r
          have hlt : decide ((0 : Int) < (w.length : Int)) = true := decide_eq_true (by omega)
          have hh : okL (w.headD []) = true := by
            cases w with
            | nil => simp at hpos
            | cons a w => exact List.all_eq_true.1 hwb a (by simp)
          simp only [hlt, if_true, i0, e0, are_cops (u := ()) hg ho hh, hk, Option.bind_some, Bool.false_and, Bool.not_false]
        have hr2 : impl_isWalk_l0 (w.length + 1) (w.length + 1) (w, ((m : Int), es, v), (toI (netN m es), ()), w, (w.length : Int), (0 : Int), ()) = some (.inl (false, ())) := hr
        rw [hr2]
        rfl
      | true =>
        have hk1 := hk
        simp only [pos_dec] at hk1
        rw [Bool.and_eq_true] at hk
        have hk3 := inB_iff.1 hk.2
        have key : ∀ q i f, i + q = w.length → q < f → (∀ p, prevAt w i = some p → p.length = (w.headD []).length ∧ copsB (m : Int) p = true) →
            impl_isWalk_l0 (w.length + 1) f (w, ((m : Int), es, v), (toI (netN m es), ()), w, (w.length : Int), (i : Int), ()) = some (if restB (ballF m es) (m : Int) (w.headD []).length (prevAt w i) (w.drop i) = true then .inr (.inl ()) else .inl (false, ())) := by
          intro q
          induction q with
          | zero =>
            intro i f e1 e2 e3
            obtain ⟨f, rfl⟩ : ∃ m, f = m + 1 := ⟨f - 1, by omega⟩
            have e : i = w.length := by omega
            subst e
            rw [List.drop_of_length_le (Nat.le_refl _)]
            show impl_isWalk_l0_r _ _ _ = _
            unfold impl_isWalk_l0_r
            simp only [lt_not, Bool.false_eq_true, if_false, restB, if_true]
          | succ q ih =>
            intro i f e1 e2 e3
            obtain ⟨f, rfl⟩ : ∃ m, f = m + 1 := ⟨f - 1, by omega⟩
            have hi : i < w.length := by omega
            have ei : at_ K_Si w i = w[i] := at_get (e := K_Si) hi
            have hcp := are_cops (u := ()) hg ho (List.all_eq_true.1 hwb w[i] (List.getElem_mem hi))
            have hnext : prevAt w (i + 1) = some w[i] := by simp [prevAt, List.getD_eq_getElem?_getD, hi]
            have hiw : IntKind.wrap .i64 ((i : Int) + 1) = ((i + 1 : Nat) : Int) := wrap_up hi hmx
            show impl_isWalk_l0_r _ _ _ = _
            unfold impl_isWalk_l0_r
            rw [List.drop_eq_getElem_cons hi]
            simp only [lt_dec hi, if_true, idxIn_nat hi, i0, Int.toNat_natCast, ei, e0, hcp, Option.bind_some, hiw, pos_dec, restB]
            by_cases hlen : w[i].length = (w.headD []).length
            · simp only [hlen, hk1, bne_self_eq_false, decide_true, Bool.false_eq_true, if_false, Bool.true_and]
              cases hco : copsB (m : Int) w[i] with
              | false => simp only [Bool.not_false, if_true, Bool.false_and, Bool.false_eq_true, if_false]
              | true =>
                simp only [Bool.not_true, Bool.false_eq_true, if_false, Bool.true_and]
                have hih := ih (i + 1) f (by omega) (by omega) (fun p hp => by
                  rw [hnext] at hp
                  obtain rfl := Option.some.inj hp
                  exact ⟨hlen, hco⟩)
                rw [hnext] at hih
                cases i with
                | zero =>
                  simp only [Nat.lt_irrefl, decide_false, Bool.false_eq_true, if_false, prevAt, Bool.true_and]
                  exact hih
                | succ i =>
                  have hi2 : i < w.length := by omega
                  have ei2 : at_ K_Si w i = w.getD i [] := by rw [at_get (e := K_Si) hi2]; simp [List.getD_eq_getElem?_getD, hi2]
                  obtain ⟨p1, p2⟩ := e3 (w.getD i []) rfl
                  have hnd := cops_nodes p2 (by omega)
                  have hsame : movesL (ballM (toI (netN m es))) (w.getD i []) = movesL (ballF m es) (w.getD i []) := moves_congr fun c hcm => by
                    have h1 := p2
                    unfold copsB at h1
                    rw [Bool.and_eq_true] at h1
                    have h2 := inB_iff.1 (List.all_eq_true.1 h1.1 c hcm)
                    obtain ⟨x, rfl⟩ : ∃ x : Nat, c = (x : Int) := ⟨c.toNat, by omega⟩
                    exact ball_same hm8 g1 (by omega)
                  have hmv : G_copMoves ((toI (netN m es), ()), w.getD i [], ()) = some (movesL (ballF m es) (w.getD i []), ()) := by
                    unfold G_copMoves
                    simp only [hnet.1, hnet.2, hnd, Bool.and_self, if_true, hsame]
                  have hat : F_slices_ContainsFunc_SSint_Sint_by_impl_isWalk_1 0 (movesL (ballF m es) (w.getD i []), ((), w[i + 1], ()), ()) = some ((movesL (ballF m es) (w.getD i [])).any fun y => decide (y = w[i + 1]), ()) := by
                    unfold F_slices_ContainsFunc_SSint_Sint_by_impl_isWalk_1 G_idxWalk
                    have := moves_ok (ball := ballF m es) (cs := w.getD i []) (by omega) (fun c _ => Nat.le_trans (ballF_len _ _ _) (by omega))
                    have hge := idxI_ge (fun y => decide (y = w[i + 1])) (movesL (ballF m es) (w.getD i [])) 0
                    simp only [this, if_true, Option.bind_some, ge_iff_le, hge]
                  have hd : IntKind.wrap .i64 (((i + 1 : Nat) : Int) - 1) = (i : Int) := wrap_down (show 0 < i + 1 by omega) (show i + 1 ≤ maxLen by omega)
                  simp only [Nat.succ_pos, decide_true, if_true, hd, idxIn_nat hi2, Int.toNat_natCast, ei2, hmv, Option.bind_some, hat, prevAt]
                  by_cases hany : ((movesL (ballF m es) (w.getD i [])).any fun y => decide (y = w[i + 1])) = true
                  · simp only [hany, Bool.not_true, Bool.false_eq_true, if_false, Bool.true_and]
                    exact hih
                  · have hany := Bool.eq_false_iff.2 hany
                    simp only [hany, Bool.not_false, if_true, Bool.false_and, Bool.false_eq_true, if_false]
            · have b1 : ((w[i].length : Int) != ((w.headD []).length : Int)) = true := bne_iff_ne.2 (by omega)
              simp only [b1, hlen, decide_false, if_true, Bool.false_and, Bool.false_eq_true, if_false, ite_self]
        have := key w.length 0 (w.length + 1) (by omega) (by omega) (fun p hp => by cases hp)
        simp only [Int.natCast_zero, List.drop_zero] at this
        have e5 : prevAt w 0 = none := rfl
        rw [e5] at this
        simp only [this, Option.bind_some, Bool.true_and]
        cases hr : restB (ballF m es) (m : Int) (w.headD []).length none w <;> simp [hr]
  · cases h
end Go.V.W
set_option linter.unusedVariables false
set_option linter.unusedSimpArgs false
namespace Go.V.W
open Go.Proofs
theorem has1 {S : List Int} {y : Int} (h : okL S = true) (u : Unit) : G_l1Has (S, y, u) = some (hasL S y, ()) := by
  unfold G_l1Has hasL
  simp only [h, if_true]
end Go.V.W
set_option linter.unusedVariables false
set_option linter.unusedSimpArgs false
namespace Go.V.W
open Go.Proofs
theorem nodeX {m : Nat} {z : Int} (h : inB 0 ((m : Int) - 1) z = true) : ∃ x : Nat, z = (x : Int) ∧ x < m := by
  have := inB_iff.1 h
  exact ⟨z.toNat, by omega, by omega⟩
end Go.V.W
set_option linter.unusedVariables false
set_option linter.unusedSimpArgs false
namespace Go.V.W
open Go.Proofs
theorem l11Rest_lim (d) (r) (h : G_l11Rest d = some r) : ∃ N, F_spec_l11Rest N d = some r := by
  obtain ⟨l, c, _⟩ := d
  unfold G_l11Rest at h
  split at h
  · rename_i hc
    obtain ⟨hl0, hcc⟩ := (Bool.and_eq_true _ _).mp hc
    have hl : l.length ≤ lim := okL_lim hl0
    have h := Option.some.inj h
    subst h
    refine ⟨l.length + 1, ?_⟩
    unfold F_spec_l11Rest
    have := loop_keep (L := spec_l11Rest_l0 (l.length + 1)) (r := spec_l11Rest_l0_r (l.length + 1)) (fun _ _ => rfl) l (mk := fun i A => (l, c, A, (i : Int), ())) (f := fun y => if (!hasL c y) = true then [y] else []) (o := fun A => .inl (A, ())) (fun x => one_len)
      (by
        intro back i hi A hA
        unfold spec_l11Rest_l0_r
        have hle : decide (A.length + List.length [l[i]] ≤ lim) = true := by simp; omega
        have e : at_ I l i = l[i] := at_get (e := I) hi
        simp only [lt_dec hi, if_true, idxIn_nat hi, Int.toNat_natCast, e, has1 hcc, Option.bind_some, hle, wrap_up hi (lim_max hl)]
        by_cases hb : (!hasL c l[i]) = true
        · simp only [hb, if_true]
        · simp only [hb, if_false, List.append_nil, Bool.false_eq_true])
      (by
        intro back A hA
        unfold spec_l11Rest_l0_r
        simp only [lt_not, Bool.false_eq_true, if_false]) l.length (Nat.le_refl _)
    rw [flat_filter] at this
    simp only [Int.natCast_zero] at this
    simp only [this, Option.bind_some]
    rfl
  · cases h
theorem rest_len (c l : List Int) : (restL c l).length ≤ l.length := List.length_filter_le _ _
theorem rest_some {l c : List Int} (hl : okL l = true) (hc : okL c = true) (u : Unit) : G_l11Rest (l, c, u) = some (restL c l, ()) := by
  unfold G_l11Rest
  simp only [hl, hc, Bool.and_self, if_true]
theorem next_l2 (N : Nat) (balls : List (List Int)) (c left : List Int) (s9 : Int) (bs : List Int) (hb : bs.length ≤ 100) : ∀ (k i f : Nat) (o : List Int), i + k = bs.length → k < f → o.length + k ≤ 900 →
    spec_l11Next_l2 N f (balls, c, left, o, s9, bs, (i : Int), ()) = some (.inl (balls, c, left, putAll o (bs.drop i), s9, ())) := by
  have hmx : bs.length ≤ maxLen := by unfold maxLen; omega
  intro k
  induction k with
  | zero =>
    intro i f o h1 h2 h3
    obtain ⟨f, rfl⟩ : ∃ m, f = m + 1 := ⟨f - 1, by omega⟩
    have e : i = bs.length := by omega
    subst e
    rw [List.drop_of_length_le (Nat.le_refl _)]
    simp [spec_l11Next_l2, spec_l11Next_l2_r, putAll]
  | succ k ih =>
    intro i f o h1 h2 h3
    obtain ⟨f, rfl⟩ : ∃ m, f = m + 1 := ⟨f - 1, by omega⟩
    have hi : i < bs.length := by omega
    show spec_l11Next_l2_r N (spec_l11Next_l2 N f) (balls, c, left, o, s9, bs, (i : Int), ()) = _
    unfold spec_l11Next_l2_r
    have e : at_ I bs i = bs[i] := at_get (e := I) hi
    have ho : okS1 o = true := decide_eq_true (by omega)
    have hp := putL_len bs[i] o
    simp only [lt_dec hi, if_true, idxIn_nat hi, Int.toNat_natCast, wrap_up hi hmx, e, G_l1Put, ho, Option.bind_some]
    rw [ih (i + 1) f _ (by omega) (by omega) (by omega), List.drop_eq_getElem_cons hi]
    rfl
theorem next_l0 (N : Nat) (hN : 20 ≤ N) (balls : List (List Int)) (c left : List Int) (hc : okL c = true) (hleft : left.length ≤ 8) (hin : ∀ x ∈ left, inB 0 ((balls.length : Int) - 1) x = true) (hbl : ∀ b ∈ balls, b.length ≤ 9) : ∀ (k i f : Nat) (o : List Int), i + k = left.length → k < f → o.length + 10 * k ≤ 800 →
    spec_l11Next_l0 N f (balls, c, left, o, (i : Int), ()) = some (.inl ((left.drop i).foldl (fun o x => putAll o (restL c (balls.getD x.toNat []))) o, ())) := by
  have hmx : left.length ≤ maxLen := by unfold maxLen; omega
  intro k
  induction k with
  | zero =>
    intro i f o h1 h2 h3
    obtain ⟨f, rfl⟩ : ∃ m, f = m + 1 := ⟨f - 1, by omega⟩
    have e : i = left.length := by omega
    subst e
    rw [List.drop_of_length_le (Nat.le_refl _)]
    simp [spec_l11Next_l0, spec_l11Next_l0_r]
  | succ k ih =>
    intro i f o h1 h2 h3
    obtain ⟨f, rfl⟩ : ∃ m, f = m + 1 := ⟨f - 1, by omega⟩
    have hi : i < left.length := by omega
    show spec_l11Next_l0_r N (spec_l11Next_l0 N f) (balls, c, left, o, (i : Int), ()) = _
    unfold spec_l11Next_l0_r
    have e : at_ I left i = left[i] := at_get (e := I) hi
    obtain ⟨x, hx, hxm⟩ := nodeX (hin _ (List.getElem_mem hi))
    have eb : at_ K_Si balls x = balls.getD x [] := rfl
    have hb9 : (balls.getD x []).length ≤ 9 := by
      rw [List.getD_eq_getElem?_getD, List.getElem?_eq_getElem hxm]
      exact hbl _ (List.getElem_mem hxm)
    have hrl := rest_len c (balls.getD x [])
    have h2' := next_l2 N balls c left (i : Int) (restL c (balls.getD x [])) (by omega) (restL c (balls.getD x [])).length 0 N o (by omega) (by omega) (by omega)
    simp only [Int.natCast_zero, List.drop_zero] at h2'
    simp only [lt_dec hi, if_true, idxIn_nat hi, idxIn_nat hxm, Int.toNat_natCast, wrap_up hi hmx, e, hx, eb, rest_some (okL_of (show (balls.getD x []).length ≤ 1048576 by omega)) hc, Option.bind_some, h2']
    have hpl := putAll_len (restL c (balls.getD x [])) o
    rw [ih (i + 1) f _ (by omega) (by omega) (by omega), List.drop_eq_getElem_cons hi, List.foldl_cons, hx, Int.toNat_natCast]
theorem l11Next_lim (d) (r) (h : G_l11Next d = some r) : ∃ N, F_spec_l11Next N d = some r := by
  obtain ⟨balls, un, c, _⟩ := d
  unfold G_l11Next at h
  split at h
  · rename_i hc
    simp only [Bool.and_eq_true, decide_eq_true_eq] at hc
    obtain ⟨⟨⟨⟨h1, h2⟩, h3⟩, h4⟩, h5⟩ := hc
    have h := Option.some.inj h
    subst h
    have hrl := rest_len c un
    refine ⟨20, ?_⟩
    unfold F_spec_l11Next
    have := next_l0 20 (Nat.le_refl _) balls c (restL c un) h5 (by omega) (fun x hx => List.all_eq_true.1 h2 x ((List.mem_filter.1 hx).1)) (fun b hb => of_decide_eq_true (List.all_eq_true.1 h4 b hb)) (restL c un).length 0 20 [] (by omega) (by omega) (by simp; omega)
    simp only [Int.natCast_zero, List.drop_zero] at this
    simp only [rest_some (okL_of (show un.length ≤ 1048576 by omega)) h5, Option.bind_some, this]
    rfl
  · cases h
end Go.V.W
set_option linter.unusedVariables false
set_option linter.unusedSimpArgs false
namespace Go.V.W
open Go.Proofs
theorem any_set2 (p : Nat → Bool) (f : Int → Bool) (n : Nat) : (setF p n 0).any f = (List.range n).any fun x => p x && f (x : Int) := by
  apply bool_eq_iff
  rw [List.any_eq_true, List.any_eq_true]
  constructor
  · rintro ⟨z, hz, hf⟩
    obtain ⟨y, _, h2, h3, rfl⟩ := setF_mem.1 hz
    exact ⟨y, List.mem_range.2 (by omega), by rw [h3, hf]; rfl⟩
  · rintro ⟨y, hy, hf⟩
    rw [Bool.and_eq_true] at hf
    exact ⟨(y : Int), setF_mem.2 ⟨y, Nat.zero_le _, by have := List.mem_range.1 hy; omega, hf.1, rfl⟩, hf.2⟩
theorem next_fold {n : Nat} (B : Int → List Int) : ∀ (set : List Int) (q : Nat → Bool), (∀ x ∈ set, ∀ z ∈ B x, ∃ y : Nat, y < n ∧ z = (y : Int)) →
    set.foldl (fun o x => putAll o (B x)) (setF q n 0) = setF (fun y => q y || set.any fun x => (B x).any fun z => z == (y : Int)) n 0 := by
  intro set
  induction set with
  | nil => intro q _; exact setF_congr fun y _ _ => by simp
  | cons x set ih =>
    intro q h
    rw [List.foldl_cons, putAll_set _ _ (h x (by simp)), ih _ fun z hz => h z (by simp [hz])]
    exact setF_congr fun y _ _ => by rw [List.any_cons, Bool.or_assoc]
theorem rest_set (c : List Int) (p : Nat → Bool) (n : Nat) : restL c (setF p n 0) = setF (fun y => p y && !hasL c (y : Int)) n 0 := filter_setF p _ n 0
theorem next_set {n : Nat} {es : List E} (c : List Int) (p : Nat → Bool) {balls : List (List Int)} (hb : ∀ x : Nat, x < n → balls.getD x [] = ballF n es (x : Int)) : nextL balls c (restL c (setF p n 0)) = setF (nextP es n c p) n 0 := by
  unfold nextL
  have h0 : ∀ (B : Int → List Int) (l : List Int), l.foldl (fun o x => putAll o (B x)) [] = l.foldl (fun o x => putAll o (B x)) (setF (fun _ => false) n 0) := fun B l => by rw [setF_empty]
  have hu : nextP es n c p = fun y => stepP es n (fun x => p x && !hasL c (x : Int)) y && !hasL c (y : Int) := rfl
  rw [rest_set, hu]
  generalize (fun y : Nat => p y && !hasL c (y : Int)) = q
  rw [h0 (fun x => restL c (balls.getD x.toNat [])), next_fold (fun x => restL c (balls.getD x.toNat []))]
  · refine setF_congr fun y _ hy => ?_
    rw [Bool.false_or, any_set2]
    apply bool_eq_iff
    unfold stepP
    rw [List.any_eq_true, Bool.and_eq_true, Bool.or_eq_true, List.any_eq_true]
    have key : ∀ x : Nat, x < n → ((restL c (balls.getD ((x : Int).toNat) [])).any fun z => z == (y : Int)) = ((nearI es (x : Int) (y : Int) || decide ((y : Int) = (x : Int))) && !hasL c (y : Int)) := by
      intro x hx
      rw [Int.toNat_natCast, hb x hx]
      unfold ballF
      rw [rest_set]
      exact any_setF (by omega)
    constructor
    · rintro ⟨x, hx, h1⟩
      have hx := List.mem_range.1 hx
      rw [Bool.and_eq_true, key x hx, Bool.and_eq_true, Bool.or_eq_true] at h1
      obtain ⟨h1, h2, h3⟩ := h1
      refine ⟨?_, h3⟩
      rcases h2 with h2 | h2
      · exact .inr ⟨x, List.mem_range.2 hx, by rw [h1, h2]; rfl⟩
      · have := of_decide_eq_true h2
        have e : y = x := by omega
        subst e
        exact .inl h1
    · rintro ⟨h1 | ⟨x, hx, h1⟩, h3⟩
      · refine ⟨y, List.mem_range.2 (by omega), ?_⟩
        rw [h1, key y (by omega), h3]
        simp
      · have hx' := List.mem_range.1 hx
        rw [Bool.and_eq_true] at h1
        refine ⟨x, hx, ?_⟩
        rw [key x hx', h1.1, h1.2, h3]
        rfl
  · intro x hx z hz
    obtain ⟨w, _, h2, _, rfl⟩ := setF_mem.1 hx
    rw [Int.toNat_natCast, hb w (by omega)] at hz
    exact setF_nat z ((List.mem_filter.1 hz).1)
theorem sets_l0 (N : Nat) (g : Gr) (n : Nat) (hg : g.1 = (n : Int)) (hn : n ≤ 8) (ho : okL g.2.1 = true) (w out : List (List Int)) : ∀ (k x f : Nat), x + k = n → k < f →
    spec_l11Sets_l0 N f (w, g, out, (List.range x).map (fun x : Nat => ballL n g.2.1 (x : Int)), (x : Int), ()) = some (.inl (w, out, (List.range n).map (fun x : Nat => ballL n g.2.1 (x : Int)), ())) := by
  intro k
  induction k with
  | zero =>
    intro x f h1 h2
    obtain ⟨f, rfl⟩ : ∃ m, f = m + 1 := ⟨f - 1, by omega⟩
    have e : x = n := by omega
    subst e
    simp [spec_l11Sets_l0, spec_l11Sets_l0_r, hg]
  | succ k ih =>
    intro x f h1 h2
    obtain ⟨f, rfl⟩ : ∃ m, f = m + 1 := ⟨f - 1, by omega⟩
    have hx : x < n := by omega
    show spec_l11Sets_l0_r N (spec_l11Sets_l0 N f) (w, g, out, _, (x : Int), ()) = _
    unfold spec_l11Sets_l0_r
    have hl : decide (((List.range x).map (fun x : Nat => ballL n g.2.1 (x : Int))).length + List.length [ballL n g.2.1 (x : Int)] ≤ lim) = true := by unfold lim; simp; omega
    simp only [hg, lt_dec hx, if_true, ball_eq g n hg hn ho, Option.bind_some, hl, wrap8 hx hn, range_snocT x (fun x : Nat => ballL n g.2.1 (x : Int))]
    exact ih (x + 1) f (by omega) (by omega)
theorem unsP_len (es : List E) (n : Nat) : ∀ (w : List (List Int)) (p : Nat → Bool), (unsP es n p w).length = w.length := by
  intro w
  induction w with
  | nil => intro p; rfl
  | cons c w ih => intro p; simp [unsP, ih]
theorem setF_len8 {n : Nat} {p : Nat → Bool} (hn : n ≤ 8) : (setF p n 0).length ≤ 8 := Nat.le_trans setF_len hn
theorem nodes_ok {n : Int} {c : List Int} (h : nodesB n c = true) : okL c = true := okL_of (by have := (nodes_parts h).1; omega)
theorem sets_l2 (N : Nat) (es : List E) (n : Nat) (hn : n ≤ 8) (w : List (List Int)) (hw : w.length ≤ 40) (hc : w.all okL = true) (balls : List (List Int)) (hbl : balls.length = n) (hb9 : balls.all (fun b => decide (b.length ≤ 9)) = true) (hb : ∀ x : Nat, x < n → balls.getD x [] = ballF n es (x : Int)) :
    ∀ (rest : List (List Int)) (i f : Nat) (out : List (List Int)) (p : Nat → Bool), 0 < i → i + rest.length = w.length → w.drop i = rest → rest.length < f → out.length = i → out.getD (i - 1) [] = setF p n 0 →
      spec_l11Sets_l2 N f (w, out, (i : Int), balls, ()) = some (.inl (out ++ (unsP es n p rest).map (fun p => setF p n 0), ())) := by
  have hmx : w.length ≤ maxLen := by unfold maxLen; omega
  intro rest
  induction rest with
  | nil =>
    intro i f out p h0 h1 h2 h3 h4 h5
    obtain ⟨f, rfl⟩ : ∃ m, f = m + 1 := ⟨f - 1, by omega⟩
    have e : i = w.length := by simpa using h1
    subst e
    simp [spec_l11Sets_l2, spec_l11Sets_l2_r, unsP]
  | cons c rest ih =>
    intro i f out p h0 h1 h2 h3 h4 h5
    obtain ⟨f, rfl⟩ : ∃ m, f = m + 1 := ⟨f - 1, by omega⟩
    have hi : i < w.length := by simp at h1; omega
    have hd := List.drop_eq_getElem_cons hi
    rw [h2] at hd
    injection hd with hd1 hd2
    have hcw : at_ K_Si w i = c := by rw [at_get (e := K_Si) hi]; exact hd1.symm
    have ho : at_ K_Si out (i - 1) = setF p n 0 := h5
    have hok : okL c = true := by rw [hd1]; exact List.all_eq_true.1 hc _ (List.getElem_mem hi)
    show spec_l11Sets_l2_r N (spec_l11Sets_l2 N f) (w, out, (i : Int), balls, ()) = _
    unfold spec_l11Sets_l2_r
    have hx : G_l11Next (balls, setF p n 0, c, ()) = some (setF (nextP es n c p) n 0, ()) := by
      unfold G_l11Next
      have a1 : (setF p n 0).all (inB 0 ((balls.length : Int) - 1)) = true := List.all_eq_true.2 fun z hz => by
        obtain ⟨y, h1, rfl⟩ := setF_nat z hz
        rw [hbl]
        exact inB_iff.2 (by omega)
      have a2 : decide (balls.length ≤ 8) = true := decide_eq_true (by omega)
      simp only [a1, a2, hb9, hok, decide_eq_true (setF_len8 (p := p) hn), Bool.and_self, if_true, next_set c p hb]
    have hle : decide (out.length + List.length [setF (nextP es n c p) n 0] ≤ lim) = true := by unfold lim; simp; omega
    have hi2 : i - 1 < out.length := by omega
    simp only [lt_dec hi, if_true, wrap_down h0 (show i ≤ maxLen by omega), idxIn_nat hi2, idxIn_nat hi, Int.toNat_natCast, ho, hcw, hx, Option.bind_some, hle, wrap_up hi hmx]
    rw [ih (i + 1) f _ (nextP es n c p) (by omega) (by simp at h1; omega) hd2.symm (by simp at h3; omega) (by simp [h4]) (by simp [List.getD_eq_getElem?_getD, ← h4])]
    simp [unsP]
theorem l11Sets_lim (d) (r) (h : G_l11Sets d = some r) : ∃ N, F_spec_l11Sets N d = some r := by
  obtain ⟨⟨m, es, v⟩, w, _⟩ := d
  unfold G_l11Sets at h
  split at h
  · rename_i hc
    obtain ⟨hgr, hwk⟩ := (Bool.and_eq_true _ _).mp hc
    have h := Option.some.inj h
    subst h
    have hg0 := hgr
    unfold grB at hg0
    simp only [Bool.and_eq_true, decide_eq_true_eq] at hg0
    obtain ⟨⟨⟨ho, h0⟩, h8⟩, hE⟩ := hg0
    obtain ⟨n, rfl⟩ := nat_of h0
    have hn : n ≤ 8 := by omega
    unfold wkB at hwk
    simp only [Bool.and_eq_true, decide_eq_true_eq] at hwk
    obtain ⟨⟨w1, w40⟩, wn⟩ := hwk
    have hall : w.all okL = true := List.all_eq_true.2 fun c hc => nodes_ok (List.all_eq_true.1 wn c hc)
    cases w with
    | nil => simp at w1
    | cons c0 w =>
    have hc0 : okL c0 = true := List.all_eq_true.1 hall _ (by simp)
    refine ⟨60, ?_⟩
    unfold F_spec_l11Sets
    have hball : ∀ x : Nat, x < n → ((List.range n).map fun x : Nat => ballL n es (x : Int)).getD x [] = ballF n es (x : Int) := by
      intro x hx
      rw [List.getD_eq_getElem?_getD, List.getElem?_map, List.getElem?_range hx]
      show ballL n es (x : Int) = ballF n es (x : Int)
      rw [ballL_set hx]
      unfold ballF
      refine setF_congr fun y _ _ => ?_
      congr 1
      apply bool_eq_iff
      rw [decide_eq_true_eq, decide_eq_true_eq]
      omega
    have e1 := sets_l0 60 ((n : Int), es, v) n rfl hn ho (c0 :: w) [restL c0 (setF (fun _ => true) n 0)] n 0 60 (by omega) (by omega)
    simp only [List.range_zero, List.map_nil, Int.natCast_zero] at e1
    have e2 := sets_l2 60 es n hn (c0 :: w) w40 hall ((List.range n).map fun x : Nat => ballL n es (x : Int)) (by simp) (List.all_eq_true.2 fun b hb => by
      obtain ⟨x, _, rfl⟩ := List.mem_map.1 hb
      have := ball_len (n := n) (es := es) (x := (x : Int))
      exact decide_eq_true (by omega)) hball w 1 60 [restL c0 (setF (fun _ => true) n 0)] (freeP c0) (by omega) (by simp; omega) rfl (by simp at w40; omega) rfl (by
        show restL c0 (setF (fun _ => true) n 0) = _
        rw [rest_set]
        exact setF_congr fun y _ _ => by simp [freeP])
    have e3 : at_ K_Si (c0 :: w) 0 = c0 := rfl
    have e4 : idxIn (0 : Int) (c0 :: w).length = true := idxIn_nat (i := 0) (by simp)
    simp only [all_some hn, Option.bind_some, e4, if_true, Int.toNat_zero, e3, rest_some (okL_of (show (setF (fun _ => true) n 0).length ≤ 1048576 by have := setF_len (p := fun _ => true) (k := n) (x := 0); omega)) hc0, e1]
    rw [show ((1 : Nat) : Int) = 1 from rfl] at e2
    simp only [e2, Option.bind_some]
    unfold setsL walkP
    simp only [List.headD_cons, List.tail_cons, Int.toNat_natCast, List.map_cons]
    rw [rest_set]
    rfl
  · cases h
end Go.V.W
set_option linter.unusedVariables false
set_option linter.unusedSimpArgs false
namespace Go.V.W
open Go.Proofs
theorem nodes7 {n : Nat} (hn : n ≤ 8) {c : List Int} (h : nodesB (n : Int) c = true) : c.all (inB 0 7) = true ∧ ∀ y ∈ c, 0 ≤ y ∧ y ≤ (n : Int) - 1 := by
  obtain ⟨_, h2⟩ := nodes_parts h
  refine ⟨List.all_eq_true.2 fun y hy => ?_, fun y hy => inB_iff.1 (h2 y hy)⟩
  have := inB_iff.1 (h2 y hy)
  exact inB_iff.2 (by omega)
theorem mask_some {n : Nat} (hn : n ≤ 8) {c : List Int} (h : nodesB (n : Int) c = true) (u : Unit) : G_maskOf (c, u) = some ((maskN c : Int), ()) := by
  unfold G_maskOf
  simp only [nodes_ok h, (nodes7 hn h).1, Bool.and_self, if_true]
theorem andN_lt {a b : Nat} (ha : a < 256) : andN a b < 256 := Nat.lt_of_le_of_lt Nat.and_le_left ha
theorem andN_bit (a b y : Nat) (ha : a < 256) : (andN a b).testBit y = (a.testBit y && !b.testBit y) := by
  unfold andN
  rw [Nat.testBit_and, Nat.testBit_xor, bit_255]
  by_cases h : y < 8
  · simp [h]
  · have : a.testBit y = false := Nat.testBit_lt_two_pow (Nat.lt_of_lt_of_le (show a < 2 ^ 8 from ha) (Nat.pow_le_pow_right (by omega) (by omega)))
    simp [this]
theorem isM_andN {n a b : Nat} {p q : Nat → Bool} (ha : isM n a p) (hb : isM n b q) : isM n (andN a b) (fun y => p y && !q y) := by
  refine ⟨andN_lt ha.1, fun y => ?_⟩
  rw [andN_bit _ _ _ ha.1, ha.2 y, hb.2 y]
  cases decide (y < n) <;> simp
theorem mask_lt {n : Nat} (hn : n ≤ 8) {c : List Int} (h : nodesB (n : Int) c = true) : maskN c < 256 := (maskN_isM hn (nodes7 hn h).2).1
theorem arN_lt {l : List Int} (h : netB l = true) {s : Nat} (hs : s < 256) : arN (fromI l) s l.length 0 s < 256 := by
  obtain ⟨_, h2, _, _⟩ := netB_parts h
  exact (arN_bit h2 s l.length 0 s hs).1
theorem netB_small {l : List Int} (h : netB l = true) : smallN l = true := by
  unfold netB at h
  rw [Bool.and_eq_true] at h
  exact h.1
theorem around_some {l : List Int} (h : netB l = true) (u v : Unit) {s : Nat} (hs : s < 256) : G_around ((l, u), (s : Int), v) = some (((arN (fromI l) s l.length 0 s : Nat) : Int), ()) := by
  unfold G_around
  simp only [netB_small h, nonneg_dec, Bool.and_self, Bool.true_and, Int.toNat_natCast, decide_eq_true (show (s : Int) < 256 by omega), if_true]
theorem after_unsafe {l : List Int} (h : netB l = true) (u v : Unit) {m : Nat} (hm : m < 256) {c : List Int} (hc : nodesB (l.length : Int) c = true) :
    F_impl_net_unsafeAfter 0 ((l, u), (m : Int), c, v) = some (((nextM l c m : Nat) : Int), ()) ∧ nextM l c m < 256 := by
  obtain ⟨_, _, h8, _⟩ := netB_parts h
  have hk := mask_lt h8 hc
  have h1 := andN_lt (b := maskN c) hm
  have h2 := arN_lt h h1
  refine ⟨?_, andN_lt h2⟩
  unfold F_impl_net_unsafeAfter
  simp only [mask_some h8 hc, Option.bind_some, bits_andNot hm hk]
  rw [show (m &&& (255 ^^^ maskN c)) = andN m (maskN c) from rfl]
  simp only [around_some h _ _ h1, Option.bind_some, bits_andNot h2 hk]
  rfl
theorem along_l0 (N : Nat) {l : List Int} (h : netB l = true) (u : Unit) (w : List (List Int)) (hw : w.length ≤ 40) (hc : w.all (nodesB (l.length : Int)) = true) : ∀ (rest : List (List Int)) (i f : Nat) (out : List Nat) (m : Nat),
    i + rest.length = w.length → w.drop i = rest → rest.length < f → out.length = i → m < 256 →
      impl_net_unsafeAlong_l0 N f ((l, u), toI (out ++ [m]), w, (w.length : Int), (i : Int), ()) = some (.inl (toI (out ++ m :: unsM l m rest), ())) := by
  have hmx : w.length ≤ maxLen := by unfold maxLen; omega
  intro rest
  induction rest with
  | nil =>
    intro i f out m h1 h2 h3 h4 h5
    obtain ⟨f, rfl⟩ : ∃ m, f = m + 1 := ⟨f - 1, by omega⟩
    have e : i = w.length := by simpa using h1
    subst e
    simp [impl_net_unsafeAlong_l0, impl_net_unsafeAlong_l0_r, unsM]
  | cons c rest ih =>
    intro i f out m h1 h2 h3 h4 h5
    obtain ⟨f, rfl⟩ : ∃ m, f = m + 1 := ⟨f - 1, by omega⟩
    have hi : i < w.length := by simp at h1; omega
    have hd := List.drop_eq_getElem_cons hi
    rw [h2] at hd
    injection hd with hd1 hd2
    have hcw : at_ K_Si w i = c := by rw [at_get (e := K_Si) hi]; exact hd1.symm
    have hcn : nodesB (l.length : Int) c = true := by rw [hd1]; exact List.all_eq_true.1 hc _ (List.getElem_mem hi)
    have hm : at_ I (toI (out ++ [m])) i = (m : Int) := by
      rw [at_toI]
      congr 1
      rw [List.getD_eq_getElem?_getD, ← h4]
      simp
    obtain ⟨a1, a2⟩ := after_unsafe h u () h5 hcn
    show impl_net_unsafeAlong_l0_r N (impl_net_unsafeAlong_l0 N f) ((l, u), toI (out ++ [m]), w, (w.length : Int), (i : Int), ()) = _
    unfold impl_net_unsafeAlong_l0_r
    have hle : decide ((toI (out ++ [m])).length + List.length [((nextM l c m : Nat) : Int)] ≤ lim) = true := by unfold lim; simp [toI]; omega
    have hi2 : i < (toI (out ++ [m])).length := by simp [toI]; omega
    have happ : toI (out ++ [m]) ++ [((nextM l c m : Nat) : Int)] = toI ((out ++ [m]) ++ [nextM l c m]) := by simp [toI]
    simp only [lt_dec hi, if_true, idxIn_nat hi, idxIn_nat hi2, Int.toNat_natCast, hm, hcw, a1, Option.bind_some, hle, wrap_up hi hmx, happ]
    rw [ih (i + 1) f (out ++ [m]) (nextM l c m) (by simp at h1; omega) hd2.symm (by simp at h3; omega) (by simp [h4]) a2]
    simp [unsM]
theorem all_mask2 {l : List Int} (h8 : l.length ≤ 8) (u v : Unit) : F_impl_net_all 0 ((l, u), v) = some (((2 ^ l.length - 1 : Nat) : Int), ()) := by
  unfold F_impl_net_all
  simp only [nonneg_dec, if_true, (all_mask h8).1]
theorem netUns_lim (d) (r) (h : G_netUns d = some r) : ∃ N, F_impl_net_unsafeAlong N d = some r := by
  obtain ⟨⟨l, u⟩, w, _⟩ := d
  unfold G_netUns at h
  split at h
  · rename_i hc
    obtain ⟨hnet, hwk⟩ := (Bool.and_eq_true _ _).mp hc
    have h := Option.some.inj h
    subst h
    have hnet : netB l = true := hnet
    have hwk : wkB (l.length : Int) w = true := hwk
    obtain ⟨_, _, h8, _⟩ := netB_parts hnet
    unfold wkB at hwk
    simp only [Bool.and_eq_true, decide_eq_true_eq] at hwk
    obtain ⟨⟨w1, w40⟩, wn⟩ := hwk
    cases w with
    | nil => simp at w1
    | cons c0 w =>
    have hc0 : nodesB (l.length : Int) c0 = true := List.all_eq_true.1 wn _ (by simp)
    have hwn : w.all (nodesB (l.length : Int)) = true := List.all_eq_true.2 fun c hc => List.all_eq_true.1 wn c (by simp [hc])
    have hm0 : 2 ^ l.length - 1 < 256 := by have := (all_mask h8).2; omega
    refine ⟨60, ?_⟩
    unfold F_impl_net_unsafeAlong
    have e3 : at_ K_Si (c0 :: w) 0 = c0 := rfl
    have e4 : idxIn (0 : Int) (c0 :: w).length = true := idxIn_nat (i := 0) (by simp)
    have e5 : (decide (0 ≤ (1 : Int)) && decide ((1 : Int) ≤ ((c0 :: w).length : Int)) && decide (((c0 :: w).length : Int) ≤ ((c0 :: w).length : Int))) = true := by simp; omega
    have e6 : sub_ (c0 :: w) (1 : Int) ((c0 :: w).length : Int) = w := by
      unfold sub_
      rw [Int.toNat_natCast, List.take_of_length_le (Nat.le_refl _)]
      rfl
    have e7 := along_l0 60 hnet u w (by simp at w40; omega) hwn w 0 60 [] (firstM l (c0 :: w)) (by simp) rfl (by simp at w40; omega) rfl (andN_lt hm0)
    simp only [Int.natCast_zero, List.nil_append] at e7
    have e8 : [((firstM l (c0 :: w) : Nat) : Int)] = toI [firstM l (c0 :: w)] := rfl
    simp only [all_mask2 h8, Option.bind_some, e4, if_true, Int.toNat_zero, e3, mask_some h8 hc0, e5, e6, bits_andNot hm0 (mask_lt h8 hc0)]
    rw [show ((2 ^ l.length - 1) &&& (255 ^^^ maskN c0)) = firstM l (c0 :: w) from rfl, e8]
    simp only [e7, Option.bind_some]
    rfl
  · cases h
theorem next_isM {n : Nat} (hn : n ≤ 8) {es : List E} (h : es.all (edgeB (n : Int)) = true) {c : List Int} (hc : nodesB (n : Int) c = true) {m : Nat} {p : Nat → Bool} (hm : isM n m p) : isM n (nextM (toI (netN n es)) c m) (nextP es n c p) := by
  have hk := maskN_isM hn (nodes7 hn hc).2
  have h1 := isM_andN hm hk
  have h2 := around_isM hn h h1
  have h3 := isM_andN h2 hk
  unfold nextM
  rw [toI_from, toI_len, (netN_ok hn h).1]
  exact h3
theorem uns_masks {n : Nat} (hn : n ≤ 8) {es : List E} (h : es.all (edgeB (n : Int)) = true) : ∀ (w : List (List Int)) (m : Nat) (p : Nat → Bool), isM n m p → w.all (nodesB (n : Int)) = true →
    (unsM (toI (netN n es)) m w).length = w.length ∧ ∀ i, i < w.length → isM n ((unsM (toI (netN n es)) m w).getD i 0) ((unsP es n p w).getD i fun _ => false) := by
  intro w
  induction w with
  | nil => intro m p _ _; exact ⟨rfl, fun i hi => by simp at hi⟩
  | cons c w ih =>
    intro m p hm hc
    rw [List.all_cons, Bool.and_eq_true] at hc
    have h1 := next_isM hn h hc.1 hm
    obtain ⟨k1, k2⟩ := ih _ _ h1 hc.2
    refine ⟨by simp [unsM, k1], fun i hi => ?_⟩
    cases i with
    | zero => exact h1
    | succ i => exact k2 i (by simp at hi; omega)
theorem full_isM {n : Nat} (hn : n ≤ 8) : isM n (2 ^ n - 1) (fun _ => true) := ⟨by have := (all_mask hn).2; omega, fun y => by rw [Nat.testBit_two_pow_sub_one]; simp⟩
theorem walk_masks {n : Nat} (hn : n ≤ 8) {es : List E} {v : Unit} (h : es.all (edgeB (n : Int)) = true) {w : List (List Int)} (hw : wkB (n : Int) w = true) :
    (walkM (toI (netN n es)) w).length = w.length ∧ (walkP ((n : Int), es, v) w).length = w.length ∧ ∀ i, i < w.length → isM n ((walkM (toI (netN n es)) w).getD i 0) ((walkP ((n : Int), es, v) w).getD i fun _ => false) := by
  unfold wkB at hw
  simp only [Bool.and_eq_true, decide_eq_true_eq] at hw
  obtain ⟨⟨w1, w40⟩, wn⟩ := hw
  cases w with
  | nil => simp at w1
  | cons c w =>
    rw [List.all_cons, Bool.and_eq_true] at wn
    have h0 : isM n (firstM (toI (netN n es)) (c :: w)) (freeP c) := by
      have := isM_andN (full_isM hn) (maskN_isM hn (nodes7 hn wn.1).2)
      unfold firstM
      rw [toI_len, (netN_ok hn h).1]
      exact isM_congr (fun y _ => by simp [freeP]) this
    obtain ⟨k1, k2⟩ := uns_masks hn h w _ _ h0 wn.2
    unfold walkM walkP
    simp only [List.headD_cons, List.tail_cons, List.length_cons, k1, unsP_len, Int.toNat_natCast]
    refine ⟨trivial, trivial, fun i hi => ?_⟩
    cases i with
    | zero => exact h0
    | succ i => exact k2 i (by omega)
end Go.V.W
set_option linter.unusedVariables false
set_option linter.unusedSimpArgs false
namespace Go.V.W
open Go.Proofs
theorem rest_nodes {ball : Int → List Int} {n : Int} {k : Nat} (h3 : k ≤ 3) : ∀ (w : List (List Int)) (p : Option (List Int)), restB ball n k p w = true → w.all (nodesB n) = true := by
  intro w
  induction w with
  | nil => intro p _; rfl
  | cons c w ih =>
    intro p h
    simp only [restB, Bool.and_eq_true, decide_eq_true_eq] at h
    obtain ⟨⟨⟨h1, h2⟩, _⟩, h4⟩ := h
    rw [List.all_cons, Bool.and_eq_true]
    exact ⟨cops_nodes h2 (by omega), ih _ h4⟩
theorem walk_wk {g : Gr} {w : List (List Int)} (h : walkB g w = true) : graphB g = true ∧ wkB g.1 w = true := by
  unfold walkB at h
  simp only [Bool.and_eq_true, decide_eq_true_eq] at h
  obtain ⟨⟨⟨⟨h1, h2⟩, _⟩, h3⟩, h4⟩ := h
  have h2 := inB_iff.1 h2
  have h3 := inB_iff.1 h3
  refine ⟨h1, ?_⟩
  unfold wkB
  rw [rest_nodes (by omega) w none h4, decide_eq_true (show 1 ≤ w.length by omega), decide_eq_true (show w.length ≤ 40 by omega)]
  rfl
end Go.V.W
set_option linter.unusedVariables false
set_option linter.unusedSimpArgs false
namespace Go.V.W
open Go.Proofs
def clearB (g : Gr) (w : List (List Int)) : Bool × Bool × Unit := if walkB g w = true then (decide ((setsL g w).getD (w.length - 1) [] = []), true, ()) else (false, false, ())
theorem mask_none {n m : Nat} {p : Nat → Bool} (hn : n ≤ 8) (h : isM n m p) : decide (m = 0) = decide (setF p n 0 = []) := by
  apply bool_eq_iff
  rw [decide_eq_true_eq, decide_eq_true_eq]
  constructor
  · rintro rfl
    cases hs : setF p n 0 with
    | nil => rfl
    | cons a l =>
      obtain ⟨y, _, h2, h3, _⟩ := setF_mem.1 (show a ∈ setF p n 0 by rw [hs]; simp)
      have := h.2 y
      rw [Nat.zero_testBit, h3] at this
      simp at this
      omega
  · intro hs
    refine Nat.eq_of_testBit_eq fun y => ?_
    rw [Nat.zero_testBit, h.2 y]
    cases hy : decide (y < n) && p y with
    | false => rfl
    | true =>
      rw [Bool.and_eq_true, decide_eq_true_eq] at hy
      have : (y : Int) ∈ setF p n 0 := setF_mem.2 ⟨y, Nat.zero_le _, by omega, hy.2, rfl⟩
      rw [hs] at this
      simp at this
theorem specIC {m : Int} {es : List E} {v u : Unit} {w : List (List Int)} (ho : okL es = true) (hw : okLL w = true) : F_spec_IsClearingWalk 0 ((m, es, v), w, u) = some (clearB (m, es, v) w) := by
  unfold F_spec_IsClearingWalk G_graph clearB
  simp only [ho, if_true, Option.bind_some]
  cases hg : graphB (m, es, v) with
  | false =>
    have hb : walkB (m, es, v) w = false := by
      cases hb : walkB (m, es, v) w with
      | false => rfl
      | true => rw [(walk_wk hb).1] at hg; cases hg
    simp only [Bool.not_false, if_true, hb, Bool.false_eq_true, if_false]
  | true =>
    unfold G_l11Walk
    simp only [Bool.not_true, Bool.false_eq_true, if_false, ho, hw, hg, Bool.and_self, if_true, Option.bind_some]
    cases hb : walkB (m, es, v) w with
    | false => simp only [Bool.not_false, if_true, Bool.false_eq_true, if_false]
    | true =>
      have hwk := (walk_wk hb).2
      have hs : G_l11Sets ((m, es, v), w, ()) = some (setsL (m, es, v) w, ()) := by
        unfold G_l11Sets
        simp only [graph_grB hg ho, hwk, Bool.and_self, if_true]
      obtain ⟨h0, h8⟩ := graphB_n hg
      obtain ⟨n, rfl⟩ := nat_of h0
      obtain ⟨g1, _⟩ := graphB_edges hg
      obtain ⟨k1, k2, k3⟩ := walk_masks (show n ≤ 8 by omega) (v := v) g1 hwk
      have hwk2 : wkB (n : Int) w = true := hwk
      unfold wkB at hwk2
      simp only [Bool.and_eq_true, decide_eq_true_eq] at hwk2
      have hlen : (setsL ((n : Int), es, v) w).length = w.length := by
        unfold setsL
        rw [List.length_map, k2]
      have hw1 : IntKind.wrap .i64 ((w.length : Int) - 1) = ((w.length - 1 : Nat) : Int) := wrap_down (by omega) (by unfold maxLen; omega)
      have i1 : idxIn ((w.length - 1 : Nat) : Int) (setsL ((n : Int), es, v) w).length = true := idxIn_nat (by omega)
      have hlt : w.length - 1 < (setsL ((n : Int), es, v) w).length := by omega
      have e : at_ K_Si (setsL ((n : Int), es, v) w) (w.length - 1) = (setsL ((n : Int), es, v) w).getD (w.length - 1) [] := by
        have e : at_ K_Si (setsL ((n : Int), es, v) w) (w.length - 1) = (setsL ((n : Int), es, v) w)[w.length - 1] := at_get (e := K_Si) hlt
        rw [e, List.getD_eq_getElem?_getD, List.getElem?_eq_getElem hlt]
        rfl
      simp only [Bool.not_true, Bool.false_eq_true, if_false, hs, Option.bind_some, if_true, hw1, i1, Int.toNat_natCast, e]
      congr 2
      apply bool_eq_iff
      rw [decide_eq_true_eq, beq_iff_eq, ← List.length_eq_zero_iff]
      constructor
      · intro h; omega
      · intro h; omega
theorem implIC {m : Int} {es : List E} {v u : Unit} {w : List (List Int)} (ho : okL es = true) (hw : okLL w = true) : F_impl_IsClearingWalk 0 ((m, es, v), w, u) = some (clearB (m, es, v) w) := by
  unfold F_impl_IsClearingWalk G_walk clearB
  simp only [ho, hw, Bool.and_self, if_true, Option.bind_some]
  cases hb : walkB (m, es, v) w with
  | false => simp only [Bool.not_false, if_true, Bool.false_eq_true, if_false]
  | true =>
    obtain ⟨hg, hwk⟩ := walk_wk hb
    obtain ⟨h0, h8⟩ := graphB_n hg
    obtain ⟨n, rfl⟩ := nat_of h0
    have hn : n ≤ 8 := by omega
    obtain ⟨g1, _⟩ := graphB_edges hg
    obtain ⟨n1, n2⟩ := netB_net hn g1
    have hwk : wkB (n : Int) w = true := hwk
    obtain ⟨k1, k2, k3⟩ := walk_masks hn (v := v) g1 hwk
    have hu : G_netUns ((toI (netN n es), ()), w, ()) = some (toI (walkM (toI (netN n es)) w), ()) := by
      unfold G_netUns
      simp only [n1, n2, hwk, Bool.and_self, if_true]
    have hwk2 := hwk
    unfold wkB at hwk2
    simp only [Bool.and_eq_true, decide_eq_true_eq] at hwk2
    have hl : (toI (walkM (toI (netN n es)) w)).length = w.length := by rw [toI_len, k1]
    have hw1 : IntKind.wrap .i64 ((w.length : Int) - 1) = ((w.length - 1 : Nat) : Int) := wrap_down (by omega) (by unfold maxLen; omega)
    have i1 : idxIn ((w.length - 1 : Nat) : Int) w.length = true := idxIn_nat (by omega)
    simp only [Bool.not_true, Bool.false_eq_true, if_false, net_some hg ho, Option.bind_some, hu, if_true, hl, hw1, i1, Int.toNat_natCast, at_toI]
    have h3 := k3 (w.length - 1) (by omega)
    have e : (setsL ((n : Int), es, v) w).getD (w.length - 1) [] = setF ((walkP ((n : Int), es, v) w).getD (w.length - 1) fun _ => false) n 0 := by
      unfold setsL
      have hlt : w.length - 1 < (walkP ((n : Int), es, v) w).length := by omega
      rw [List.getD_eq_getElem?_getD, List.getElem?_map, List.getD_eq_getElem?_getD, List.getElem?_eq_getElem hlt]
      rfl
    rw [e, ← mask_none hn h3]
    congr 2
    apply bool_eq_iff
    rw [decide_eq_true_eq, beq_iff_eq]
    exact Int.natCast_eq_zero
theorem law37 : ∀ d, WfD (Kd.tuple ([(K_PiSPiiqq, false), (K_SSi, false)].map (·.1))) d → ∃ out, F_laws_FnExactIsClearingWalk 0 d = some out ∧ (splitT [.bool] [] out).1.1 = true := by
  rintro ⟨⟨n, es, v⟩, l, w⟩ ⟨⟨_, he, _⟩, hl, _⟩
  have he : es.length ≤ maxLen := he.1
  have hl1 : l.length ≤ maxLen := hl.1
  have hl2 : ∀ x ∈ l, x.length ≤ maxLen := fun x hx => (hl.2 x hx).1
  refine ⟨(true, ()), ?_, rfl⟩
  unfold F_laws_FnExactIsClearingWalk
  simp only [szGraph_eq n es v 1048576 () (by omega) (by omega) he]
  by_cases h : szStep 1048576 es.length < 0
  · simp only [h, decide_true, if_true]
  · have h1 := szStep_le h
    have o1 : okMx l.length = true := decide_eq_true hl1
    have o2 : l.all (fun x => okMx x.length) = true := List.all_eq_true.2 fun x hx => decide_eq_true (hl2 x hx)
    have o3 : decide (0 ≤ szStep 1048576 es.length) = true := by simp; omega
    have o4 : decide (szStep 1048576 es.length ≤ 1048576) = true := by simp; omega
    simp only [h, decide_false, if_false, Bool.false_eq_true, G_szIntSS, o1, o2, o3, o4, Bool.and_self, if_true, Option.bind_some]
    by_cases h2 : szStep (szStep 1048576 es.length) l.length < 0
    · simp only [h2, if_true]
      rfl
    · have h3 := szStep_le h2
      simp only [h2, if_false]
      by_cases h4 : szFold (szStep (szStep 1048576 es.length) l.length) l < 0
      · simp only [h4, decide_true, if_true]
      · have ho := okL_of (l := es) (by omega)
        have hw := okLL_small (l := l) (by omega) (szFold_le l _ (by omega) (by omega) h4)
        simp only [h4, decide_false, Bool.false_eq_true, if_false, toGraph_eq n es v _ ho, specIC ho hw, implIC ho hw, G_toIntSS, G_eqIntSS, hw, eqGraph_self n es v v _ ho, Option.bind_some, beq_self_eq_true, Bool.not_true, if_true, decide_true]
end Go.V.W
set_option linter.unusedVariables false
set_option linter.unusedSimpArgs false
namespace Go.V.W
open Go.Proofs
/-- What holds of each table on the way. -/
structure TimI (cf mv : List (List Int)) (ball : Int → List Int) (n : Nat) (T : Tab) : Prop where
  caught : ∀ c x : Nat, c < cf.length → x < n → hasL (cf.getD c []) (x : Int) = true → tab2 T (c : Int) (x : Int) = 0
  some : ∀ c x : Nat, c < cf.length → x < n → 0 ≤ tab2 T (c : Int) (x : Int) → hasL (cf.getD c []) (x : Int) = true ∨ (1 ≤ tab2 T (c : Int) (x : Int) ∧ ∃ d ∈ mv.getD c [], 0 ≤ afterG cf ball T d (x : Int))
end Go.V.W
set_option linter.unusedVariables false
set_option linter.unusedSimpArgs false
namespace Go.V.W
open Go.Proofs
/-- The reference's robber and cops, as the walks below speak of them. -/
structure PlayI (m q : Nat) (es : List E) (v : Unit) : Prop where
  hg : graphB ((m : Int), es, v) = true
  ho : okL es = true
  m1 : 1 ≤ m
  m8 : m ≤ 8
  q3 : q ≤ 3
end Go.V.W
set_option linter.unusedVariables false
set_option linter.unusedSimpArgs false
namespace Go.V.W
/-- What holds of the numbers before each round. -/
structure Inv3 (p n : Nat) (ball : Nat → Int → List Int) (f : Nat → Nat → Nat → Int) : Prop where
  low : ∀ r c q, -1 ≤ f r c q
  home : ∀ r c, f r c c = 0
  away : ∀ r c q, c ≠ q → f r c q ≠ 0
  why : ∀ r c q, r < p → c < n → q < n → 0 ≤ f r c q → c = q ∨ ∃ b ∈ ball r (c : Int), 0 ≤ afterT (ball r) (tabL n (f ((r + 1) % p))) b (q : Int)
theorem Inv3.start (p n : Nat) (ball : Nat → Int → List Int) : Inv3 p n ball start3 := by
  refine ⟨fun r c q => ?_, fun r c => ?_, fun r c q h => ?_, fun r c q _ _ _ h => ?_⟩
  · unfold start3 startF; split <;> omega
  · unfold start3 startF; simp
  · unfold start3 startF; rw [if_neg h]; omega
  · unfold start3 startF at h
    by_cases e : c = q
    · exact .inl e
    · rw [if_neg e] at h; omega
def okBalls (p n : Nat) (ball : Nat → Int → List Int) : Prop := ∀ r, r < p → okBall n (ball r)
/-- Numbers that are there stay. -/
theorem after_mono {n : Nat} {ball : Int → List Int} (hb : okBall n ball) {f g : Nat → Nat → Int} (h : ∀ c q, 0 ≤ f c q → 0 ≤ g c q) {b q : Nat} (hbn : b < n) (hq : q < n) (h0 : 0 ≤ afterT ball (tabL n f) (b : Int) (q : Int)) : 0 ≤ afterT ball (tabL n g) (b : Int) (q : Int) := by
  unfold afterT at h0 ⊢
  by_cases e : (b : Int) = (q : Int)
  · rw [if_pos e]; exact Int.le_refl _
  · rw [if_neg e] at h0 ⊢
    rcases worst_spec (tab2 (tabL n f) (b : Int)) (ball (q : Int)) 0 with ⟨_, h1⟩ | ⟨h1, _, _⟩
    · omega
    · rcases worst_spec (tab2 (tabL n g) (b : Int)) (ball (q : Int)) 0 with ⟨⟨x, hx, h2⟩, _⟩ | ⟨_, h2, _⟩
      · exfalso
        obtain ⟨y, hy, rfl⟩ := hb q hq x hx
        have := (h1 _ hx).1
        rw [tab2_tabL _ hbn hy] at this h2
        have := h _ _ this
        omega
      · exact h2
theorem Inv3.next {p n : Nat} {ball : Nat → Int → List Int} (hb : okBalls p n ball) {t : Int} (ht : 1 ≤ t) {f : Nat → Nat → Nat → Int} (hI : Inv3 p n ball f) : Inv3 p n ball (step3 p n ball t f) := by
  have hkeep : ∀ r c q, 0 ≤ f r c q → step3 p n ball t f r c q = f r c q := fun r c q h => by
    unfold step3 can3
    have : decide (f r c q < 0) = false := by simp; omega
    simp [this]
  have hge : ∀ r c q, 0 ≤ f r c q → 0 ≤ step3 p n ball t f r c q := fun r c q h => by rw [hkeep r c q h]; exact h
  refine ⟨fun r c q => ?_, fun r c => ?_, fun r c q h => ?_, fun r c q hr hc hq h => ?_⟩
  · unfold step3; split
    · omega
    · exact hI.low r c q
  · rw [hkeep r c c (by rw [hI.home]; exact Int.le_refl _)]; exact hI.home r c
  · unfold step3; split
    · omega
    · exact hI.away r c q h
  · have key : (∃ b ∈ ball r (c : Int), 0 ≤ afterT (ball r) (tabL n (f ((r + 1) % p))) b (q : Int)) → ∃ b ∈ ball r (c : Int), 0 ≤ afterT (ball r) (tabL n (step3 p n ball t f ((r + 1) % p))) b (q : Int) := by
      rintro ⟨b, hbm, h1⟩
      obtain ⟨y, hy, rfl⟩ := hb r hr c hc b hbm
      exact ⟨_, hbm, after_mono (hb r hr) (hge _) hy hq h1⟩
    by_cases hf : 0 ≤ f r c q
    · exact (hI.why r c q hr hc hq hf).imp _root_.id key
    · right
      have hcan : can3 p n ball f r c q = true := by
        cases hcan : can3 p n ball f r c q with
        | true => rfl
        | false => unfold step3 at h; rw [if_neg (by rw [hcan]; simp)] at h; exact absurd h hf
      unfold can3 at hcan
      simp only [Bool.and_eq_true, List.any_eq_true, decide_eq_true_eq] at hcan
      exact key hcan.2
end Go.V.W
set_option linter.unusedVariables false
set_option linter.unusedSimpArgs false
namespace Go.V.W
open Go.Proofs
/-- The setting of a round. -/
structure TT (nets : List Nt) (p n : Nat) : Prop where
  ok : netsB n nets = true
  len : nets.length = p
  n8 : n ≤ 8
end Go.V.W
set_option linter.unusedVariables false
set_option linter.unusedSimpArgs false
namespace Go.V.W
open Go.Proofs
structure LogIs (d p : List UInt8) (c : Int) : Prop where
  size : d.length + p.length ≤ 30000
  all : (openL 60 0 (d ++ p)).2 = (d ++ p).length
  durable : (openL 60 0 d).2 = d.length
  count : ((openL 60 0 (d ++ p)).1.length : Int) = c
end Go.V.W
namespace Go.V.W
open Go.Proofs Go.Shelf Go.RowKit
-- import Derived.Shelf.Lays
-- import Derived.Shelf.LaysM
-- import Derived.Test.XvLib3
-- import Derived.Shelf.SortM.Plain
-- import Derived.Shelf.SortM.SortNone
-- import Derived.Shelf.SlSortCmp.NoneTotal
def layg5_ren : Go.Shelf.Ren :=
{
  f := fun x =>
    match x with
    | 5 => 72
    | 8 => 82
    | 7 => 81
    | 19 => 92
    | 20 => 93
    | 10 => 84
    | 11 => 85
    | 12 => 86
    | 13 => 87
    | 14 => 88
    | 15 => 89
    | 16 => 80
    | 17 => 90
    | 18 => 91
    | 30 => 102
    | 31 => 103
    | 32 => 104
    | 33 => 105
    | 34 => 106
    | 35 => 79
    | 40 => 110
    | n => n,
  t := fun x =>
    match x with
    | 23 => 36
    | 25 => 3
    | 3 => 3
    | 32 => 89
    | 22 => 36
    | 0 => 0
    | 44 => 99
    | 46 => 101
    | 4 => 4
    | 36 => 93
    | 35 => 92
    | 41 => 96
    | 5 => 5
    | 9 => 9
    | 53 => 107
    | 57 => 111
    | 63 => 115
    | 64 => 116
    | n => n,
  g := fun x =>
    x }
set_option maxRecDepth 1000000 in
theorem layg5 : Go.Proofs.SlLaysM.n5 Go.Proofs.Try.prog layg5_ren :=
{ mixed := by kernel_rfl,
  f5 := ⟨Go.Proofs.Try.f72.name, of_decide_eq_true (by kernel_rfl), (Go.Proofs.Try.func72).trans (congrArg some (by kernel_rfl))⟩,
  f7 := ⟨Go.Proofs.Try.f81.name, of_decide_eq_true (by kernel_rfl), (Go.Proofs.Try.func81).trans (congrArg some (by kernel_rfl))⟩,
  f8 := (Go.Proofs.Try.func82).trans (congrArg some (by kernel_rfl)),
  f10 := ⟨Go.Proofs.Try.f84.name, of_decide_eq_true (by kernel_rfl), (Go.Proofs.Try.func84).trans (congrArg some (by kernel_rfl))⟩,
  f11 := ⟨Go.Proofs.Try.f85.name, of_decide_eq_true (by kernel_rfl), (Go.Proofs.Try.func85).trans (congrArg some (by kernel_rfl))⟩,
  f12 := ⟨Go.Proofs.Try.f86.name, of_decide_eq_true (by kernel_rfl), (Go.Proofs.Try.func86).trans (congrArg some (by kernel_rfl))⟩,
  f13 := ⟨Go.Proofs.Try.f87.name, of_decide_eq_true (by kernel_rfl), (Go.Proofs.Try.func87).trans (congrArg some (by kernel_rfl))⟩,
  f14 := ⟨Go.Proofs.Try.f88.name, of_decide_eq_true (by kernel_rfl), (Go.Proofs.Try.func88).trans (congrArg some (by kernel_rfl))⟩,
  f15 := ⟨Go.Proofs.Try.f89.name, of_decide_eq_true (by kernel_rfl), (Go.Proofs.Try.func89).trans (congrArg some (by kernel_rfl))⟩,
  f16 := ⟨Go.Proofs.Try.f80.name, of_decide_eq_true (by kernel_rfl), (Go.Proofs.Try.func80).trans (congrArg some (by kernel_rfl))⟩,
  f17 := ⟨Go.Proofs.Try.f90.name, of_decide_eq_true (by kernel_rfl), (Go.Proofs.Try.func90).trans (congrArg some (by kernel_rfl))⟩,
  f18 := ⟨Go.Proofs.Try.f91.name, of_decide_eq_true (by kernel_rfl), (Go.Proofs.Try.func91).trans (congrArg some (by kernel_rfl))⟩,
  f19 := (Go.Proofs.Try.func92).trans (congrArg some (by kernel_rfl)),
  f20 := (Go.Proofs.Try.func93).trans (congrArg some (by kernel_rfl)),
  f30 := ⟨Go.Proofs.Try.f102.name, of_decide_eq_true (by kernel_rfl), (Go.Proofs.Try.func102).trans (congrArg some (by kernel_rfl))⟩,
  f31 := (Go.Proofs.Try.func103).trans (congrArg some (by kernel_rfl)),
  f32 := (Go.Proofs.Try.func104).trans (congrArg some (by kernel_rfl)),
  f33 := ⟨Go.Proofs.Try.f105.name, of_decide_eq_true (by kernel_rfl), (Go.Proofs.Try.func105).trans (congrArg some (by kernel_rfl))⟩,
  f34 := ⟨Go.Proofs.Try.f106.name, of_decide_eq_true (by kernel_rfl), (Go.Proofs.Try.func106).trans (congrArg some (by kernel_rfl))⟩,
  f35 := ⟨Go.Proofs.Try.f79.name, of_decide_eq_true (by kernel_rfl), (Go.Proofs.Try.func79).trans (congrArg some (by kernel_rfl))⟩,
  f40 := ⟨Go.Proofs.Try.f110.name, of_decide_eq_true (by kernel_rfl), (Go.Proofs.Try.func110).trans (congrArg some (by kernel_rfl))⟩,
  t0 := Go.Proofs.Try.underlying0,
  a0 := Go.Proofs.Try.isAgg0,
  z0 := Go.Proofs.Try.sizeOf0,
  v0 := Go.Proofs.Try.zeroValue0,
  t3 := Go.Proofs.Try.underlying3,
  a3 := Go.Proofs.Try.isAgg3,
  z3 := Go.Proofs.Try.sizeOf3,
  v3 := Go.Proofs.Try.zeroValue3,
  t4 := Go.Proofs.Try.underlying4,
  a4 := Go.Proofs.Try.isAgg4,
  z4 := Go.Proofs.Try.sizeOf4,
  v4 := Go.Proofs.Try.zeroValue4,
  t5 := Go.Proofs.Try.underlying5,
  a5 := Go.Proofs.Try.isAgg5,
  z5 := Go.Proofs.Try.sizeOf5,
  v5 := Go.Proofs.Try.zeroValue5,
  t9 := Go.Proofs.Try.underlying9,
  a9 := Go.Proofs.Try.isAgg9,
  z9 := Go.Proofs.Try.sizeOf9,
  v9 := Go.Proofs.Try.zeroValue9,
  t22 := Go.Proofs.Try.underlying36,
  a22 := Go.Proofs.Try.isAgg36,
  z22 := Go.Proofs.Try.sizeOf36,
  v22 := Go.Proofs.Try.zeroValue36,
  t23 := Go.Proofs.Try.underlying36,
  a23 := Go.Proofs.Try.isAgg36,
  z23 := Go.Proofs.Try.sizeOf36,
  v23 := Go.Proofs.Try.zeroValue36,
  t25 := Go.Proofs.Try.underlying3,
  a25 := Go.Proofs.Try.isAgg3,
  z25 := Go.Proofs.Try.sizeOf3,
  v25 := Go.Proofs.Try.zeroValue3,
  t32 := Go.Proofs.Try.underlying89,
  a32 := Go.Proofs.Try.isAgg89,
  z32 := Go.Proofs.Try.sizeOf89,
  v32 := Go.Proofs.Try.zeroValue89,
  t35 := Go.Proofs.Try.underlying92,
  a35 := Go.Proofs.Try.isAgg92,
  z35 := Go.Proofs.Try.sizeOf92,
  v35 := Go.Proofs.Try.zeroValue92,
  t36 := Go.Proofs.Try.underlying93,
  a36 := Go.Proofs.Try.isAgg93,
  z36 := Go.Proofs.Try.sizeOf93,
  v36 := Go.Proofs.Try.zeroValue93,
  t41 := Go.Proofs.Try.underlying96,
  a41 := Go.Proofs.Try.isAgg96,
  z41 := Go.Proofs.Try.sizeOf96,
  v41 := Go.Proofs.Try.zeroValue96,
  t44 := Go.Proofs.Try.underlying99,
  a44 := Go.Proofs.Try.isAgg99,
  z44 := Go.Proofs.Try.sizeOf99,
  v44 := Go.Proofs.Try.zeroValue99,
  t46 := Go.Proofs.Try.underlying101,
  a46 := Go.Proofs.Try.isAgg101,
  z46 := Go.Proofs.Try.sizeOf101,
  v46 := Go.Proofs.Try.zeroValue101,
  t53 := Go.Proofs.Try.underlying107,
  a53 := Go.Proofs.Try.isAgg107,
  z53 := Go.Proofs.Try.sizeOf107,
  v53 := Go.Proofs.Try.zeroValue107,
  t57 := Go.Proofs.Try.underlying111,
  a57 := Go.Proofs.Try.isAgg111,
  z57 := Go.Proofs.Try.sizeOf111,
  v57 := Go.Proofs.Try.zeroValue111,
  t63 := Go.Proofs.Try.underlying115,
  a63 := Go.Proofs.Try.isAgg115,
  z63 := Go.Proofs.Try.sizeOf115,
  v63 := Go.Proofs.Try.zeroValue115,
  t64 := Go.Proofs.Try.underlying116,
  a64 := Go.Proofs.Try.isAgg116,
  z64 := Go.Proofs.Try.sizeOf116,
  v64 := Go.Proofs.Try.zeroValue116 }
def layg6_ren : Go.Shelf.Ren :=
{
  f := fun x =>
    match x with
    | 6 => 73
    | 15 => 82
    | 14 => 83
    | 28 => 92
    | 29 => 93
    | 20 => 94
    | 21 => 95
    | 22 => 96
    | 23 => 97
    | 24 => 98
    | 25 => 99
    | 26 => 100
    | 27 => 101
    | 46 => 107
    | 47 => 103
    | 48 => 104
    | 49 => 108
    | 50 => 109
    | 57 => 111
    | n => n,
  t := fun x =>
    match x with
    | 22 => 25
    | 24 => 36
    | 25 => 63
    | 3 => 3
    | 39 => 89
    | 0 => 0
    | 53 => 99
    | 55 => 101
    | 4 => 4
    | 46 => 93
    | 45 => 92
    | 50 => 96
    | 5 => 5
    | 9 => 9
    | 66 => 107
    | 70 => 111
    | 76 => 115
    | 77 => 116
    | n => n,
  g := fun x =>
    x }
set_option maxRecDepth 1000000 in
theorem layg6 : Go.Proofs.SlLaysF.n6 Go.Proofs.Try.prog layg6_ren :=
{ mixed := by kernel_rfl,
  f6 := ⟨Go.Proofs.Try.f73.name, of_decide_eq_true (by kernel_rfl), (Go.Proofs.Try.func73).trans (congrArg some (by kernel_rfl))⟩,
  f14 := ⟨Go.Proofs.Try.f83.name, of_decide_eq_true (by kernel_rfl), (Go.Proofs.Try.func83).trans (congrArg some (by kernel_rfl))⟩,
  f15 := (Go.Proofs.Try.func82).trans (congrArg some (by kernel_rfl)),
  f20 := ⟨Go.Proofs.Try.f94.name, of_decide_eq_true (by kernel_rfl), (Go.Proofs.Try.func94).trans (congrArg some (by kernel_rfl))⟩,
  f21 := ⟨Go.Proofs.Try.f95.name, of_decide_eq_true (by kernel_rfl), (Go.Proofs.Try.func95).trans (congrArg some (by kernel_rfl))⟩,
  f22 := ⟨Go.Proofs.Try.f96.name, of_decide_eq_true (by kernel_rfl), (Go.Proofs.Try.func96).trans (congrArg some (by kernel_rfl))⟩,
  f23 := ⟨Go.Proofs.Try.f97.name, of_decide_eq_true (by kernel_rfl), (Go.Proofs.Try.func97).trans (congrArg some (by kernel_rfl))⟩,
  f24 := ⟨Go.Proofs.Try.f98.name, of_decide_eq_true (by kernel_rfl), (Go.Proofs.Try.func98).trans (congrArg some (by kernel_rfl))⟩,
  f25 := ⟨Go.Proofs.Try.f99.name, of_decide_eq_true (by kernel_rfl), (Go.Proofs.Try.func99).trans (congrArg some (by kernel_rfl))⟩,
  f26 := ⟨Go.Proofs.Try.f100.name, of_decide_eq_true (by kernel_rfl), (Go.Proofs.Try.func100).trans (congrArg some (by kernel_rfl))⟩,
  f27 := ⟨Go.Proofs.Try.f101.name, of_decide_eq_true (by kernel_rfl), (Go.Proofs.Try.func101).trans (congrArg some (by kernel_rfl))⟩,
  f28 := (Go.Proofs.Try.func92).trans (congrArg some (by kernel_rfl)),
  f29 := (Go.Proofs.Try.func93).trans (congrArg some (by kernel_rfl)),
  f46 := ⟨Go.Proofs.Try.f107.name, of_decide_eq_true (by kernel_rfl), (Go.Proofs.Try.func107).trans (congrArg some (by kernel_rfl))⟩,
  f47 := (Go.Proofs.Try.func103).trans (congrArg some (by kernel_rfl)),
  f48 := (Go.Proofs.Try.func104).trans (congrArg some (by kernel_rfl)),
  f49 := ⟨Go.Proofs.Try.f108.name, of_decide_eq_true (by kernel_rfl), (Go.Proofs.Try.func108).trans (congrArg some (by kernel_rfl))⟩,
  f50 := ⟨Go.Proofs.Try.f109.name, of_decide_eq_true (by kernel_rfl), (Go.Proofs.Try.func109).trans (congrArg some (by kernel_rfl))⟩,
  f57 := ⟨Go.Proofs.Try.f111.name, of_decide_eq_true (by kernel_rfl), (Go.Proofs.Try.func111).trans (congrArg some (by kernel_rfl))⟩,
  t0 := Go.Proofs.Try.underlying0,
  a0 := Go.Proofs.Try.isAgg0,
  z0 := Go.Proofs.Try.sizeOf0,
  v0 := Go.Proofs.Try.zeroValue0,
  t3 := Go.Proofs.Try.underlying3,
  a3 := Go.Proofs.Try.isAgg3,
  z3 := Go.Proofs.Try.sizeOf3,
  v3 := Go.Proofs.Try.zeroValue3,
  t4 := Go.Proofs.Try.underlying4,
  a4 := Go.Proofs.Try.isAgg4,
  z4 := Go.Proofs.Try.sizeOf4,
  v4 := Go.Proofs.Try.zeroValue4,
  t5 := Go.Proofs.Try.underlying5,
  a5 := Go.Proofs.Try.isAgg5,
  z5 := Go.Proofs.Try.sizeOf5,
  v5 := Go.Proofs.Try.zeroValue5,
  t9 := Go.Proofs.Try.underlying9,
  a9 := Go.Proofs.Try.isAgg9,
  z9 := Go.Proofs.Try.sizeOf9,
  v9 := Go.Proofs.Try.zeroValue9,
  t22 := Go.Proofs.Try.underlying25,
  a22 := Go.Proofs.Try.isAgg25,
  z22 := Go.Proofs.Try.sizeOf25,
  v22 := Go.Proofs.Try.zeroValue25,
  a24 := Go.Proofs.Try.isAgg36,
  z24 := Go.Proofs.Try.sizeOf36,
  t25 := Go.Proofs.Try.underlying63,
  a25 := Go.Proofs.Try.isAgg63,
  z25 := Go.Proofs.Try.sizeOf63,
  v25 := Go.Proofs.Try.zeroValue63,
  t39 := Go.Proofs.Try.underlying89,
  a39 := Go.Proofs.Try.isAgg89,
  z39 := Go.Proofs.Try.sizeOf89,
  v39 := Go.Proofs.Try.zeroValue89,
  t45 := Go.Proofs.Try.underlying92,
  a45 := Go.Proofs.Try.isAgg92,
  z45 := Go.Proofs.Try.sizeOf92,
  v45 := Go.Proofs.Try.zeroValue92,
  t46 := Go.Proofs.Try.underlying93,
  a46 := Go.Proofs.Try.isAgg93,
  z46 := Go.Proofs.Try.sizeOf93,
  v46 := Go.Proofs.Try.zeroValue93,
  t50 := Go.Proofs.Try.underlying96,
  a50 := Go.Proofs.Try.isAgg96,
  z50 := Go.Proofs.Try.sizeOf96,
  v50 := Go.Proofs.Try.zeroValue96,
  t53 := Go.Proofs.Try.underlying99,
  a53 := Go.Proofs.Try.isAgg99,
  z53 := Go.Proofs.Try.sizeOf99,
  v53 := Go.Proofs.Try.zeroValue99,
  t55 := Go.Proofs.Try.underlying101,
  a55 := Go.Proofs.Try.isAgg101,
  z55 := Go.Proofs.Try.sizeOf101,
  v55 := Go.Proofs.Try.zeroValue101,
  t66 := Go.Proofs.Try.underlying107,
  a66 := Go.Proofs.Try.isAgg107,
  z66 := Go.Proofs.Try.sizeOf107,
  v66 := Go.Proofs.Try.zeroValue107,
  t70 := Go.Proofs.Try.underlying111,
  a70 := Go.Proofs.Try.isAgg111,
  z70 := Go.Proofs.Try.sizeOf111,
  v70 := Go.Proofs.Try.zeroValue111,
  t76 := Go.Proofs.Try.underlying115,
  a76 := Go.Proofs.Try.isAgg115,
  z76 := Go.Proofs.Try.sizeOf115,
  v76 := Go.Proofs.Try.zeroValue115,
  t77 := Go.Proofs.Try.underlying116,
  a77 := Go.Proofs.Try.isAgg116,
  z77 := Go.Proofs.Try.sizeOf116,
  v77 := Go.Proofs.Try.zeroValue116 }
theorem tab : TabOk Try.prog (assoc tks) (assoc ars) := tab_of (by kernel_rfl)
theorem mixed : Try.prog.follows .mixedOrders = true := by kernel_rfl
theorem C_slices_SortFunc_SSint_Sint_by_slices_Compare_Sint_int : Contract Try.prog 73 S_slices_SortFunc_SSint_Sint_by_slices_Compare_Sint_int :=
  con_sortF (enters_of Try.func73 (by kernel_rfl) rfl) (fun w v1 v2 xs ys h1 h2 l1 l2 => cmpH h1 h2 l1 l2) (fun n enc cf blk off cap w h1 hO hcmp hH hb hs => Any.slices_SortFunc layg6 enc h1 cf hO 44 #[] blk off cap (idA n) w (enters_of Try.func44 (by kernel_rfl) rfl) hcmp hH hb hs) (AnyF.slices_SortFunc_none { layg6 with })
theorem C_slices_Sort_Sint_int : Contract Try.prog 72 S_slices_Sort_Sint_int :=
  con_sortI (enters_of Try.func72 (by kernel_rfl) rfl) (fun blk off cap zs w h1 h2 h3 => AnyM.slices_Sort_int layg5 blk off cap zs w h1 h2 h3) (fun p cap w => AnyM.slices_Sort_int_none layg5 p cap w)
theorem C_laws_szIntA2S_raw (N : Nat) : Contract Try.prog 20 ⟨[(K_SPiiq, false), (I, false)], [I], true, F_laws_szIntA2S N⟩ :=
  have E : Env Try.prog Γ_laws_szIntA2S := env_of tab trivial
  con_of (Pc := []) E rfl mixed Try.func20 (by kernel_rfl) (by kernel_rfl) (by kernel_rfl) (by kernel_rfl) (fun A hA => trivial) (F_laws_szIntA2S_ok N)
theorem C_laws_szIntA2S : Contract Try.prog 20 S_laws_szIntA2S := Contract.less (fun N : Nat => F_laws_szIntA2S N) C_laws_szIntA2S_raw (fun d r h => ⟨0, (F_laws_szIntA2S_tot 0 d).trans h⟩)
theorem C_laws_szGraph_raw (N : Nat) : Contract Try.prog 6 ⟨[(K_PiSPiiqq, false), (I, false)], [I], true, F_laws_szGraph N⟩ :=
  have E : Env Try.prog Γ_laws_szGraph := env_of tab ⟨C_laws_szIntA2S, trivial⟩
  con_of (Pc := []) E rfl mixed Try.func6 (by kernel_rfl) (by kernel_rfl) (by kernel_rfl) (by kernel_rfl) (fun A hA => trivial) (F_laws_szGraph_ok N)
theorem C_laws_szGraph : Contract Try.prog 6 S_laws_szGraph := Contract.less (fun N : Nat => F_laws_szGraph N) C_laws_szGraph_raw (fun d r h => ⟨0, (F_laws_szGraph_tot 0 d).trans h⟩)
theorem C_laws_szIntS_raw (N : Nat) : Contract Try.prog 21 ⟨[(K_Si, false), (I, false)], [I], true, F_laws_szIntS N⟩ :=
  have E : Env Try.prog Γ_laws_szIntS := env_of tab trivial
  con_of (Pc := []) E rfl mixed Try.func21 (by kernel_rfl) (by kernel_rfl) (by kernel_rfl) (by kernel_rfl) (fun A hA => trivial) (F_laws_szIntS_ok N)
theorem C_laws_szIntS : Contract Try.prog 21 S_laws_szIntS := Contract.less (fun N : Nat => F_laws_szIntS N) C_laws_szIntS_raw (fun d r h => ⟨0, (F_laws_szIntS_tot 0 d).trans h⟩)
theorem C_laws_szIntSS_raw (N : Nat) : Contract Try.prog 7 ⟨[(K_SSi, false), (I, false)], [I], true, F_laws_szIntSS N⟩ :=
  have E : Env Try.prog Γ_laws_szIntSS := env_of tab ⟨C_laws_szIntS, trivial⟩
  con_of (Pc := [(0, ⟨laws_szIntSS_l0_h, laws_szIntSS_l0_o, laws_szIntSS_l0 N N⟩)]) E rfl mixed Try.func7 (by kernel_rfl) (by kernel_rfl) (by kernel_rfl) (by kernel_rfl) (fun A hA => ⟨pc_of (inner := []) E mixed hA (by kernel_rfl) (by kernel_rfl) (by kernel_rfl) trivial (fun _ => rfl) (fun m d => (laws_szIntSS_l0_ok N (laws_szIntSS_l0 N m) d).symm) N, trivial⟩) (F_laws_szIntSS_ok N)
theorem C_laws_szIntSS : Contract Try.prog 7 S_laws_szIntSS := Contract.less (fun N : Nat => F_laws_szIntSS N) C_laws_szIntSS_raw szIntSS_lim
theorem C_laws_toIntA2_raw (N : Nat) : Contract Try.prog 42 ⟨[(K_Piiq, false)], [K_Piiq], true, F_laws_toIntA2 N⟩ :=
  have E : Env Try.prog Γ_laws_toIntA2 := env_of tab trivial
  con_of (Pc := [(0, ⟨laws_toIntA2_l0_h, laws_toIntA2_l0_o, laws_toIntA2_l0 N N⟩)]) E rfl mixed Try.func42 (by kernel_rfl) (by kernel_rfl) (by kernel_rfl) (by kernel_rfl) (fun A hA => ⟨pc_of (inner := []) E mixed hA (by kernel_rfl) (by kernel_rfl) (by kernel_rfl) trivial (fun _ => rfl) (fun m d => (laws_toIntA2_l0_ok N (laws_toIntA2_l0 N m) d).symm) N, trivial⟩) (F_laws_toIntA2_ok N)
theorem C_laws_toIntA2 : Contract Try.prog 42 S_laws_toIntA2 := Contract.less (fun N : Nat => F_laws_toIntA2 N) C_laws_toIntA2_raw toIntA2_lim
theorem C_laws_toIntA2S_raw (N : Nat) : Contract Try.prog 24 ⟨[(K_SPiiq, false)], [K_SPiiq], true, F_laws_toIntA2S N⟩ :=
  have E : Env Try.prog Γ_laws_toIntA2S := env_of tab ⟨C_laws_toIntA2, trivial⟩
  con_of (Pc := [(0, ⟨laws_toIntA2S_l0_h, laws_toIntA2S_l0_o, laws_toIntA2S_l0 N N⟩)]) E rfl mixed Try.func24 (by kernel_rfl) (by kernel_rfl) (by kernel_rfl) (by kernel_rfl) (fun A hA => ⟨pc_of (inner := []) E mixed hA (by kernel_rfl) (by kernel_rfl) (by kernel_rfl) trivial (fun _ => rfl) (fun m d => (laws_toIntA2S_l0_ok N (laws_toIntA2S_l0 N m) d).symm) N, trivial⟩) (F_laws_toIntA2S_ok N)
theorem C_laws_toIntA2S : Contract Try.prog 24 S_laws_toIntA2S := Contract.less (fun N : Nat => F_laws_toIntA2S N) C_laws_toIntA2S_raw toIntA2S_lim
theorem C_laws_toGraph_raw (N : Nat) : Contract Try.prog 9 ⟨[(K_PiSPiiqq, false)], [K_PiSPiiqq], true, F_laws_toGraph N⟩ :=
  have E : Env Try.prog Γ_laws_toGraph := env_of tab ⟨C_laws_toIntA2S, trivial⟩
  con_of (Pc := []) E rfl mixed Try.func9 (by kernel_rfl) (by kernel_rfl) (by kernel_rfl) (by kernel_rfl) (fun A hA => trivial) (F_laws_toGraph_ok N)
theorem C_laws_toGraph : Contract Try.prog 9 S_laws_toGraph := C_laws_toGraph_raw 0
theorem C_laws_toIntS_raw (N : Nat) : Contract Try.prog 15 ⟨[(K_Si, false)], [K_Si], true, F_laws_toIntS N⟩ :=
  have E : Env Try.prog Γ_laws_toIntS := env_of tab trivial
  con_of (Pc := [(0, ⟨laws_toIntS_l0_h, laws_toIntS_l0_o, laws_toIntS_l0 N N⟩)]) E rfl mixed Try.func15 (by kernel_rfl) (by kernel_rfl) (by kernel_rfl) (by kernel_rfl) (fun A hA => ⟨pc_of (inner := []) E mixed hA (by kernel_rfl) (by kernel_rfl) (by kernel_rfl) trivial (fun _ => rfl) (fun m d => (laws_toIntS_l0_ok N (laws_toIntS_l0 N m) d).symm) N, trivial⟩) (F_laws_toIntS_ok N)
theorem C_laws_toIntS : Contract Try.prog 15 S_laws_toIntS := Contract.less (fun N : Nat => F_laws_toIntS N) C_laws_toIntS_raw toIntS_lim
theorem C_laws_toIntSS_raw (N : Nat) : Contract Try.prog 10 ⟨[(K_SSi, false)], [K_SSi], true, F_laws_toIntSS N⟩ :=
  have E : Env Try.prog Γ_laws_toIntSS := env_of tab ⟨C_laws_toIntS, trivial⟩
  con_of (Pc := [(0, ⟨laws_toIntSS_l0_h, laws_toIntSS_l0_o, laws_toIntSS_l0 N N⟩)]) E rfl mixed Try.func10 (by kernel_rfl) (by kernel_rfl) (by kernel_rfl) (by kernel_rfl) (fun A hA => ⟨pc_of (inner := []) E mixed hA (by kernel_rfl) (by kernel_rfl) (by kernel_rfl) trivial (fun _ => rfl) (fun m d => (laws_toIntSS_l0_ok N (laws_toIntSS_l0 N m) d).symm) N, trivial⟩) (F_laws_toIntSS_ok N)
theorem C_laws_toIntSS : Contract Try.prog 10 S_laws_toIntSS := Contract.less (fun N : Nat => F_laws_toIntSS N) C_laws_toIntSS_raw toIntSS_lim
theorem C_spec_l1In_raw (N : Nat) : Contract Try.prog 38 ⟨[(I, false), (I, false), (I, false)], [.bool], true, F_spec_l1In N⟩ :=
  have E : Env Try.prog Γ_spec_l1In := env_of tab trivial
  con_of (Pc := []) E rfl mixed Try.func38 (by kernel_rfl) (by kernel_rfl) (by kernel_rfl) (by kernel_rfl) (fun A hA => trivial) (F_spec_l1In_ok N)
theorem C_spec_l1In : Contract Try.prog 38 S_spec_l1In := Contract.less (fun N : Nat => F_spec_l1In N) C_spec_l1In_raw (fun d r h => ⟨0, (F_spec_l1In_tot 0 d).trans h⟩)
theorem C_spec_l2Before_raw (N : Nat) : Contract Try.prog 51 ⟨[(K_Piiq, false), (K_Piiq, false)], [.bool], true, F_spec_l2Before N⟩ :=
  have E : Env Try.prog Γ_spec_l2Before := env_of tab trivial
  con_of (Pc := []) E rfl mixed Try.func51 (by kernel_rfl) (by kernel_rfl) (by kernel_rfl) (by kernel_rfl) (fun A hA => trivial) (F_spec_l2Before_ok N)
theorem C_spec_l2Before : Contract Try.prog 51 S_spec_l2Before := Contract.less (fun N : Nat => F_spec_l2Before N) C_spec_l2Before_raw (fun d r h => ⟨0, (F_spec_l2Before_tot 0 d).trans h⟩)
theorem C_spec_l2Good_raw (N : Nat) : Contract Try.prog 28 ⟨[(K_PiSPiiqq, false)], [.bool], true, F_spec_l2Good N⟩ :=
  have E : Env Try.prog Γ_spec_l2Good := env_of tab ⟨C_spec_l1In, ⟨C_spec_l2Before, trivial⟩⟩
  con_of (Pc := [(0, ⟨spec_l2Good_l0_h, spec_l2Good_l0_o, spec_l2Good_l0 N N⟩)]) E rfl mixed Try.func28 (by kernel_rfl) (by kernel_rfl) (by kernel_rfl) (by kernel_rfl) (fun A hA => ⟨pc_of (inner := []) E mixed hA (by kernel_rfl) (by kernel_rfl) (by kernel_rfl) trivial (fun _ => rfl) (fun m d => (spec_l2Good_l0_ok N (spec_l2Good_l0 N m) d).symm) N, trivial⟩) (F_spec_l2Good_ok N)
theorem C_spec_l2Good : Contract Try.prog 28 S_spec_l2Good := Contract.less (fun N : Nat => F_spec_l2Good N) C_spec_l2Good_raw l2Good_lim
theorem C_spec_l4Field_raw (N : Nat) : Contract Try.prog 22 ⟨[(K_PiSPiiqq, false), (I, false)], [.bool], true, F_spec_l4Field N⟩ :=
  have E : Env Try.prog Γ_spec_l4Field := env_of tab ⟨C_spec_l2Good, ⟨C_spec_l1In, trivial⟩⟩
  con_of (Pc := []) E rfl mixed Try.func22 (by kernel_rfl) (by kernel_rfl) (by kernel_rfl) (by kernel_rfl) (fun A hA => trivial) (F_spec_l4Field_ok N)
theorem C_spec_l4Field : Contract Try.prog 22 S_spec_l4Field := C_spec_l4Field_raw 0
theorem C_spec_l2Node_raw (N : Nat) : Contract Try.prog 29 ⟨[(K_PiSPiiqq, false), (I, false)], [.bool], true, F_spec_l2Node N⟩ :=
  have E : Env Try.prog Γ_spec_l2Node := env_of tab ⟨C_spec_l1In, trivial⟩
  con_of (Pc := []) E rfl mixed Try.func29 (by kernel_rfl) (by kernel_rfl) (by kernel_rfl) (by kernel_rfl) (fun A hA => trivial) (F_spec_l2Node_ok N)
theorem C_spec_l2Node : Contract Try.prog 29 S_spec_l2Node := Contract.less (fun N : Nat => F_spec_l2Node N) C_spec_l2Node_raw (fun d r h => ⟨0, (F_spec_l2Node_tot 0 d).trans h⟩)
theorem C_spec_l4Cops_raw (N : Nat) : Contract Try.prog 39 ⟨[(K_PiSPiiqq, false), (K_Si, false)], [.bool], true, F_spec_l4Cops N⟩ :=
  have E : Env Try.prog Γ_spec_l4Cops := env_of tab ⟨C_spec_l2Node, trivial⟩
  con_of (Pc := [(0, ⟨spec_l4Cops_l0_h, spec_l4Cops_l0_o, spec_l4Cops_l0 N N⟩)]) E rfl mixed Try.func39 (by kernel_rfl) (by kernel_rfl) (by kernel_rfl) (by kernel_rfl) (fun A hA => ⟨pc_of (inner := []) E mixed hA (by kernel_rfl) (by kernel_rfl) (by kernel_rfl) trivial (fun _ => rfl) (fun m d => (spec_l4Cops_l0_ok N (spec_l4Cops_l0 N m) d).symm) N, trivial⟩) (F_spec_l4Cops_ok N)
theorem C_spec_l4Cops : Contract Try.prog 39 S_spec_l4Cops := Contract.less (fun N : Nat => F_spec_l4Cops N) C_spec_l4Cops_raw l4Cops_lim
theorem C_spec_l2Near_raw (N : Nat) : Contract Try.prog 75 ⟨[(K_PiSPiiqq, false), (I, false), (I, false)], [.bool], true, F_spec_l2Near N⟩ :=
  have E : Env Try.prog Γ_spec_l2Near := env_of tab trivial
  con_of (Pc := [(0, ⟨spec_l2Near_l0_h, spec_l2Near_l0_o, spec_l2Near_l0 N N⟩)]) E rfl mixed Try.func75 (by kernel_rfl) (by kernel_rfl) (by kernel_rfl) (by kernel_rfl) (fun A hA => ⟨pc_of (inner := []) E mixed hA (by kernel_rfl) (by kernel_rfl) (by kernel_rfl) trivial (fun _ => rfl) (fun m d => (spec_l2Near_l0_ok N (spec_l2Near_l0 N m) d).symm) N, trivial⟩) (F_spec_l2Near_ok N)
theorem C_spec_l2Near : Contract Try.prog 75 S_spec_l2Near := Contract.less (fun N : Nat => F_spec_l2Near N) C_spec_l2Near_raw l2Near_lim
theorem C_spec_l2Neighbors_raw (N : Nat) : Contract Try.prog 53 ⟨[(K_PiSPiiqq, false), (I, false)], [K_Si], true, F_spec_l2Neighbors N⟩ :=
  have E : Env Try.prog Γ_spec_l2Neighbors := env_of tab ⟨C_spec_l2Near, trivial⟩
  con_of (Pc := [(0, ⟨spec_l2Neighbors_l0_h, spec_l2Neighbors_l0_o, spec_l2Neighbors_l0 N N⟩)]) E rfl mixed Try.func53 (by kernel_rfl) (by kernel_rfl) (by kernel_rfl) (by kernel_rfl) (fun A hA => ⟨pc_of (inner := []) E mixed hA (by kernel_rfl) (by kernel_rfl) (by kernel_rfl) trivial (fun _ => rfl) (fun m d => (spec_l2Neighbors_l0_ok N (spec_l2Neighbors_l0 N m) d).symm) N, trivial⟩) (F_spec_l2Neighbors_ok N)
theorem C_spec_l2Neighbors : Contract Try.prog 53 S_spec_l2Neighbors := Contract.less (fun N : Nat => F_spec_l2Neighbors N) C_spec_l2Neighbors_raw l2Neighbors_lim
theorem C_spec_l1Put_raw (N : Nat) : Contract Try.prog 52 ⟨[(K_Si, false), (I, false)], [K_Si], false, F_spec_l1Put N⟩ :=
  have E : Env Try.prog Γ_spec_l1Put := env_of tab trivial
  con_of (Pc := [(0, ⟨spec_l1Put_l0_h, spec_l1Put_l0_o, spec_l1Put_l0 N N⟩)]) E rfl mixed Try.func52 (by kernel_rfl) (by kernel_rfl) (by kernel_rfl) (by kernel_rfl) (fun A hA => ⟨pc_of (inner := []) E mixed hA (by kernel_rfl) (by kernel_rfl) (by kernel_rfl) trivial (fun _ => rfl) (fun m d => (spec_l1Put_l0_ok N (spec_l1Put_l0 N m) d).symm) N, trivial⟩) (F_spec_l1Put_ok N)
theorem C_spec_l1Put : Contract Try.prog 52 S_spec_l1Put := Contract.less (fun N : Nat => F_spec_l1Put N) C_spec_l1Put_raw l1Put_lim
theorem C_spec_l2Ball_raw (N : Nat) : Contract Try.prog 31 ⟨[(K_PiSPiiqq, false), (I, false)], [K_Si], false, F_spec_l2Ball N⟩ :=
  have E : Env Try.prog Γ_spec_l2Ball := env_of tab ⟨C_spec_l1Put, ⟨C_spec_l2Neighbors, trivial⟩⟩
  con_of (Pc := []) E rfl mixed Try.func31 (by kernel_rfl) (by kernel_rfl) (by kernel_rfl) (by kernel_rfl) (fun A hA => trivial) (F_spec_l2Ball_ok N)
theorem C_spec_l2Ball : Contract Try.prog 31 S_spec_l2Ball := C_spec_l2Ball_raw 0
theorem C_spec_l1Own_raw (N : Nat) : Contract Try.prog 62 ⟨[(K_Si, false)], [K_Si], true, F_spec_l1Own N⟩ :=
  have E : Env Try.prog Γ_spec_l1Own := env_of tab trivial
  con_of (Pc := []) E rfl mixed Try.func62 (by kernel_rfl) (by kernel_rfl) (by kernel_rfl) (by kernel_rfl) (fun A hA => trivial) (F_spec_l1Own_ok N)
theorem C_spec_l1Own : Contract Try.prog 62 S_spec_l1Own := C_spec_l1Own_raw 0
theorem C_spec_l4Sorted_raw (N : Nat) : Contract Try.prog 64 ⟨[(K_Si, false)], [K_Si], false, F_spec_l4Sorted N⟩ :=
  have E : Env Try.prog Γ_spec_l4Sorted := env_ofV tab trivial trivial (fun _ h => by cases h)
  con_of (Pc := [(0, ⟨spec_l4Sorted_l0_h, spec_l4Sorted_l0_o, spec_l4Sorted_l0 N N⟩)]) E rfl mixed Try.func64 (by kernel_rfl) (by kernel_rfl) (by kernel_rfl) (by kernel_rfl) (fun A hA => ⟨pc_of (inner := [(2, ⟨spec_l4Sorted_l2_h, spec_l4Sorted_l2_o, spec_l4Sorted_l2 N N⟩)]) E mixed hA (by kernel_rfl) (by kernel_rfl) (by kernel_rfl) ⟨pc_of (inner := []) E mixed hA (by kernel_rfl) (by kernel_rfl) (by kernel_rfl) trivial (fun _ => rfl) (fun m d => (spec_l4Sorted_l2_ok N (spec_l4Sorted_l2 N m) d).symm) N, trivial⟩ (fun _ => rfl) (fun m d => (spec_l4Sorted_l0_ok N (spec_l4Sorted_l0 N m) d).symm) N, trivial⟩) (F_spec_l4Sorted_ok N)
theorem C_spec_l4Sorted : Contract Try.prog 64 S_spec_l4Sorted := Contract.less (fun N : Nat => F_spec_l4Sorted N) C_spec_l4Sorted_raw l4Sorted_lim
theorem C_spec_l4Less_raw (N : Nat) : Contract Try.prog 78 ⟨[(K_Si, false), (K_Si, false)], [.bool], true, F_spec_l4Less N⟩ :=
  have E : Env Try.prog Γ_spec_l4Less := env_of tab trivial
  con_of (Pc := [(0, ⟨spec_l4Less_l0_h, spec_l4Less_l0_o, spec_l4Less_l0 N N⟩)]) E rfl mixed Try.func78 (by kernel_rfl) (by kernel_rfl) (by kernel_rfl) (by kernel_rfl) (fun A hA => ⟨pc_of (inner := []) E mixed hA (by kernel_rfl) (by kernel_rfl) (by kernel_rfl) trivial (fun _ => rfl) (fun m d => (spec_l4Less_l0_ok N (spec_l4Less_l0 N m) d).symm) N, trivial⟩) (F_spec_l4Less_ok N)
theorem C_spec_l4Less : Contract Try.prog 78 S_spec_l4Less := Contract.less (fun N : Nat => F_spec_l4Less N) C_spec_l4Less_raw l4Less_lim
theorem C_spec_l1Same_raw (N : Nat) : Contract Try.prog 61 ⟨[(K_Si, false), (K_Si, false)], [.bool], true, F_spec_l1Same N⟩ :=
  have E : Env Try.prog Γ_spec_l1Same := env_of tab trivial
  con_of (Pc := [(0, ⟨spec_l1Same_l0_h, spec_l1Same_l0_o, spec_l1Same_l0 N N⟩)]) E rfl mixed Try.func61 (by kernel_rfl) (by kernel_rfl) (by kernel_rfl) (by kernel_rfl) (fun A hA => ⟨pc_of (inner := []) E mixed hA (by kernel_rfl) (by kernel_rfl) (by kernel_rfl) trivial (fun _ => rfl) (fun m d => (spec_l1Same_l0_ok N (spec_l1Same_l0 N m) d).symm) N, trivial⟩) (F_spec_l1Same_ok N)
theorem C_spec_l1Same : Contract Try.prog 61 S_spec_l1Same := Contract.less (fun N : Nat => F_spec_l1Same N) C_spec_l1Same_raw l1Same_lim
theorem C_spec_l4Put_raw (N : Nat) : Contract Try.prog 63 ⟨[(K_SSi, false), (K_Si, false)], [K_SSi], false, F_spec_l4Put N⟩ :=
  have E : Env Try.prog Γ_spec_l4Put := env_of tab ⟨C_spec_l1Same, ⟨C_spec_l4Less, trivial⟩⟩
  con_of (Pc := [(0, ⟨spec_l4Put_l0_h, spec_l4Put_l0_o, spec_l4Put_l0 N N⟩)]) E rfl mixed Try.func63 (by kernel_rfl) (by kernel_rfl) (by kernel_rfl) (by kernel_rfl) (fun A hA => ⟨pc_of (inner := []) E mixed hA (by kernel_rfl) (by kernel_rfl) (by kernel_rfl) trivial (fun _ => rfl) (fun m d => (spec_l4Put_l0_ok N (spec_l4Put_l0 N m) d).symm) N, trivial⟩) (F_spec_l4Put_ok N)
theorem C_spec_l4Put : Contract Try.prog 63 S_spec_l4Put := Contract.less (fun N : Nat => F_spec_l4Put N) C_spec_l4Put_raw l4Put_lim
theorem C_spec_l4Moves_raw (N : Nat) : Contract Try.prog 41 ⟨[(K_PiSPiiqq, false), (K_Si, false)], [K_SSi], false, F_spec_l4Moves N⟩ :=
  have E : Env Try.prog Γ_spec_l4Moves := env_ofV tab ⟨C_spec_l2Ball, ⟨C_spec_l1Own, ⟨C_spec_l4Put, ⟨C_spec_l4Sorted, trivial⟩⟩⟩⟩ trivial (fun _ h => by cases h)
  con_of (Pc := [(0, ⟨spec_l4Moves_l0_h, spec_l4Moves_l0_o, spec_l4Moves_l0 N N⟩), (6, ⟨spec_l4Moves_l6_h, spec_l4Moves_l6_o, spec_l4Moves_l6 N N⟩)]) E rfl mixed Try.func41 (by kernel_rfl) (by kernel_rfl) (by kernel_rfl) (by kernel_rfl) (fun A hA => ⟨pc_of (inner := [(2, ⟨spec_l4Moves_l2_h, spec_l4Moves_l2_o, spec_l4Moves_l2 N N⟩)]) E mixed hA (by kernel_rfl) (by kernel_rfl) (by kernel_rfl) ⟨pc_of (inner := [(4, ⟨spec_l4Moves_l4_h, spec_l4Moves_l4_o, spec_l4Moves_l4 N N⟩)]) E mixed hA (by kernel_rfl) (by kernel_rfl) (by kernel_rfl) ⟨pc_of (inner := []) E mixed hA (by kernel_rfl) (by kernel_rfl) (by kernel_rfl) trivial (fun _ => rfl) (fun m d => (spec_l4Moves_l4_ok N (spec_l4Moves_l4 N m) d).symm) N, trivial⟩ (fun _ => rfl) (fun m d => (spec_l4Moves_l2_ok N (spec_l4Moves_l2 N m) d).symm) N, trivial⟩ (fun _ => rfl) (fun m d => (spec_l4Moves_l0_ok N (spec_l4Moves_l0 N m) d).symm) N, ⟨pc_of (inner := []) E mixed hA (by kernel_rfl) (by kernel_rfl) (by kernel_rfl) trivial (fun _ => rfl) (fun m d => (spec_l4Moves_l6_ok N (spec_l4Moves_l6 N m) d).symm) N, trivial⟩⟩) (F_spec_l4Moves_ok N)
theorem C_spec_l4Moves : Contract Try.prog 41 S_spec_l4Moves := Contract.less (fun N : Nat => F_spec_l4Moves N) C_spec_l4Moves_raw l4Moves_lim
theorem C_spec_l4At_raw (N : Nat) : Contract Try.prog 40 ⟨[(K_SSi, false), (K_Si, false)], [I], true, F_spec_l4At N⟩ :=
  have E : Env Try.prog Γ_spec_l4At := env_of tab ⟨C_spec_l1Same, trivial⟩
  con_of (Pc := [(0, ⟨spec_l4At_l0_h, spec_l4At_l0_o, spec_l4At_l0 N N⟩)]) E rfl mixed Try.func40 (by kernel_rfl) (by kernel_rfl) (by kernel_rfl) (by kernel_rfl) (fun A hA => ⟨pc_of (inner := []) E mixed hA (by kernel_rfl) (by kernel_rfl) (by kernel_rfl) trivial (fun _ => rfl) (fun m d => (spec_l4At_l0_ok N (spec_l4At_l0 N m) d).symm) N, trivial⟩) (F_spec_l4At_ok N)
theorem C_spec_l4At : Contract Try.prog 40 S_spec_l4At := Contract.less (fun N : Nat => F_spec_l4At N) C_spec_l4At_raw l4At_lim
theorem C_spec_l11Walk_raw (N : Nat) : Contract Try.prog 23 ⟨[(K_PiSPiiqq, false), (K_SSi, false)], [.bool], true, F_spec_l11Walk N⟩ :=
  have E : Env Try.prog Γ_spec_l11Walk := env_of tab ⟨C_spec_l4Field, ⟨C_spec_l1In, ⟨C_spec_l4Cops, ⟨C_spec_l4At, ⟨C_spec_l4Moves, trivial⟩⟩⟩⟩⟩
  con_of (Pc := [(0, ⟨spec_l11Walk_l0_h, spec_l11Walk_l0_o, spec_l11Walk_l0 N N⟩)]) E rfl mixed Try.func23 (by kernel_rfl) (by kernel_rfl) (by kernel_rfl) (by kernel_rfl) (fun A hA => ⟨pc_of (inner := []) E mixed hA (by kernel_rfl) (by kernel_rfl) (by kernel_rfl) trivial (fun _ => rfl) (fun m d => (spec_l11Walk_l0_ok N (spec_l11Walk_l0 N m) d).symm) N, trivial⟩) (F_spec_l11Walk_ok N)
theorem C_spec_l11Walk : Contract Try.prog 23 S_spec_l11Walk := Contract.less (fun N : Nat => F_spec_l11Walk N) C_spec_l11Walk_raw l11Walk_lim
theorem C_spec_l2Bits_raw (N : Nat) : Contract Try.prog 76 ⟨[(I, false), (I, false)], [K_Si], true, F_spec_l2Bits N⟩ :=
  have E : Env Try.prog Γ_spec_l2Bits := env_of tab trivial
  con_of (Pc := [(0, ⟨spec_l2Bits_l0_h, spec_l2Bits_l0_o, spec_l2Bits_l0 N N⟩)]) E rfl mixed Try.func76 (by kernel_rfl) (by kernel_rfl) (by kernel_rfl) (by kernel_rfl) (fun A hA => ⟨pc_of (inner := []) E mixed hA (by kernel_rfl) (by kernel_rfl) (by kernel_rfl) trivial (fun _ => rfl) (fun m d => (spec_l2Bits_l0_ok N (spec_l2Bits_l0 N m) d).symm) N, trivial⟩) (F_spec_l2Bits_ok N)
theorem C_spec_l2Bits : Contract Try.prog 76 S_spec_l2Bits := Contract.less (fun N : Nat => F_spec_l2Bits N) C_spec_l2Bits_raw l2Bits_lim
theorem C_spec_l2All_raw (N : Nat) : Contract Try.prog 56 ⟨[(K_PiSPiiqq, false)], [K_Si], true, F_spec_l2All N⟩ :=
  have E : Env Try.prog Γ_spec_l2All := env_of tab ⟨C_spec_l2Bits, trivial⟩
  con_of (Pc := []) E rfl mixed Try.func56 (by kernel_rfl) (by kernel_rfl) (by kernel_rfl) (by kernel_rfl) (fun A hA => trivial) (F_spec_l2All_ok N)
theorem C_spec_l2All : Contract Try.prog 56 S_spec_l2All := C_spec_l2All_raw 0
theorem C_spec_l1Has_raw (N : Nat) : Contract Try.prog 30 ⟨[(K_Si, false), (I, false)], [.bool], true, F_spec_l1Has N⟩ :=
  have E : Env Try.prog Γ_spec_l1Has := env_of tab trivial
  con_of (Pc := [(0, ⟨spec_l1Has_l0_h, spec_l1Has_l0_o, spec_l1Has_l0 N N⟩)]) E rfl mixed Try.func30 (by kernel_rfl) (by kernel_rfl) (by kernel_rfl) (by kernel_rfl) (fun A hA => ⟨pc_of (inner := []) E mixed hA (by kernel_rfl) (by kernel_rfl) (by kernel_rfl) trivial (fun _ => rfl) (fun m d => (spec_l1Has_l0_ok N (spec_l1Has_l0 N m) d).symm) N, trivial⟩) (F_spec_l1Has_ok N)
theorem C_spec_l1Has : Contract Try.prog 30 S_spec_l1Has := Contract.less (fun N : Nat => F_spec_l1Has N) C_spec_l1Has_raw l1Has_lim
theorem C_spec_l11Rest_raw (N : Nat) : Contract Try.prog 55 ⟨[(K_Si, false), (K_Si, false)], [K_Si], true, F_spec_l11Rest N⟩ :=
  have E : Env Try.prog Γ_spec_l11Rest := env_of tab ⟨C_spec_l1Has, trivial⟩
  con_of (Pc := [(0, ⟨spec_l11Rest_l0_h, spec_l11Rest_l0_o, spec_l11Rest_l0 N N⟩)]) E rfl mixed Try.func55 (by kernel_rfl) (by kernel_rfl) (by kernel_rfl) (by kernel_rfl) (fun A hA => ⟨pc_of (inner := []) E mixed hA (by kernel_rfl) (by kernel_rfl) (by kernel_rfl) trivial (fun _ => rfl) (fun m d => (spec_l11Rest_l0_ok N (spec_l11Rest_l0 N m) d).symm) N, trivial⟩) (F_spec_l11Rest_ok N)
theorem C_spec_l11Rest : Contract Try.prog 55 S_spec_l11Rest := Contract.less (fun N : Nat => F_spec_l11Rest N) C_spec_l11Rest_raw l11Rest_lim
theorem C_spec_l11Next_raw (N : Nat) : Contract Try.prog 57 ⟨[(K_SSi, false), (K_Si, false), (K_Si, false)], [K_Si], false, F_spec_l11Next N⟩ :=
  have E : Env Try.prog Γ_spec_l11Next := env_ofV tab ⟨C_spec_l1Put, ⟨C_spec_l11Rest, trivial⟩⟩ trivial (fun _ h => by cases h)
  con_of (Pc := [(0, ⟨spec_l11Next_l0_h, spec_l11Next_l0_o, spec_l11Next_l0 N N⟩)]) E rfl mixed Try.func57 (by kernel_rfl) (by kernel_rfl) (by kernel_rfl) (by kernel_rfl) (fun A hA => ⟨pc_of (inner := [(2, ⟨spec_l11Next_l2_h, spec_l11Next_l2_o, spec_l11Next_l2 N N⟩)]) E mixed hA (by kernel_rfl) (by kernel_rfl) (by kernel_rfl) ⟨pc_of (inner := []) E mixed hA (by kernel_rfl) (by kernel_rfl) (by kernel_rfl) trivial (fun _ => rfl) (fun m d => (spec_l11Next_l2_ok N (spec_l11Next_l2 N m) d).symm) N, trivial⟩ (fun _ => rfl) (fun m d => (spec_l11Next_l0_ok N (spec_l11Next_l0 N m) d).symm) N, trivial⟩) (F_spec_l11Next_ok N)
theorem C_spec_l11Next : Contract Try.prog 57 S_spec_l11Next := Contract.less (fun N : Nat => F_spec_l11Next N) C_spec_l11Next_raw l11Next_lim
theorem C_spec_l11Sets_raw (N : Nat) : Contract Try.prog 36 ⟨[(K_PiSPiiqq, false), (K_SSi, false)], [K_SSi], false, F_spec_l11Sets N⟩ :=
  have E : Env Try.prog Γ_spec_l11Sets := env_of tab ⟨C_spec_l2Ball, ⟨C_spec_l11Rest, ⟨C_spec_l2All, ⟨C_spec_l11Next, trivial⟩⟩⟩⟩
  con_of (Pc := [(0, ⟨spec_l11Sets_l0_h, spec_l11Sets_l0_o, spec_l11Sets_l0 N N⟩), (2, ⟨spec_l11Sets_l2_h, spec_l11Sets_l2_o, spec_l11Sets_l2 N N⟩)]) E rfl mixed Try.func36 (by kernel_rfl) (by kernel_rfl) (by kernel_rfl) (by kernel_rfl) (fun A hA => ⟨pc_of (inner := []) E mixed hA (by kernel_rfl) (by kernel_rfl) (by kernel_rfl) trivial (fun _ => rfl) (fun m d => (spec_l11Sets_l0_ok N (spec_l11Sets_l0 N m) d).symm) N, ⟨pc_of (inner := []) E mixed hA (by kernel_rfl) (by kernel_rfl) (by kernel_rfl) trivial (fun _ => rfl) (fun m d => (spec_l11Sets_l2_ok N (spec_l11Sets_l2 N m) d).symm) N, trivial⟩⟩) (F_spec_l11Sets_ok N)
theorem C_spec_l11Sets : Contract Try.prog 36 S_spec_l11Sets := Contract.less (fun N : Nat => F_spec_l11Sets N) C_spec_l11Sets_raw l11Sets_lim
theorem C_spec_IsClearingWalk_raw (N : Nat) : Contract Try.prog 18 ⟨[(K_PiSPiiqq, false), (K_SSi, false)], [.bool, .bool], true, F_spec_IsClearingWalk N⟩ :=
  have E : Env Try.prog Γ_spec_IsClearingWalk := env_of tab ⟨C_spec_l11Walk, ⟨C_spec_l2Good, ⟨C_spec_l11Sets, trivial⟩⟩⟩
  con_of (Pc := []) E rfl mixed Try.func18 (by kernel_rfl) (by kernel_rfl) (by kernel_rfl) (by kernel_rfl) (fun A hA => trivial) (F_spec_IsClearingWalk_ok N)
theorem C_spec_IsClearingWalk : Contract Try.prog 18 S_spec_IsClearingWalk := C_spec_IsClearingWalk_raw 0
theorem C_impl_within_raw (N : Nat) : Contract Try.prog 43 ⟨[(I, false), (I, false), (I, false)], [.bool], true, F_impl_within N⟩ :=
  have E : Env Try.prog Γ_impl_within := env_of tab trivial
  con_of (Pc := []) E rfl mixed Try.func43 (by kernel_rfl) (by kernel_rfl) (by kernel_rfl) (by kernel_rfl) (fun A hA => trivial) (F_impl_within_ok N)
theorem C_impl_within : Contract Try.prog 43 S_impl_within := Contract.less (fun N : Nat => F_impl_within N) C_impl_within_raw (fun d r h => ⟨0, (F_impl_within_tot 0 d).trans h⟩)
theorem C_cmp_isNaN_int_raw (N : Nat) : Contract Try.prog 79 ⟨[(I, false)], [.bool], true, F_cmp_isNaN_int N⟩ :=
  have E : Env Try.prog Γ_cmp_isNaN_int := env_of tab trivial
  con_of (Pc := []) E rfl mixed Try.func79 (by kernel_rfl) (by kernel_rfl) (by kernel_rfl) (by kernel_rfl) (fun A hA => trivial) (F_cmp_isNaN_int_ok N)
theorem C_cmp_isNaN_int : Contract Try.prog 79 S_cmp_isNaN_int := Contract.less (fun N : Nat => F_cmp_isNaN_int N) C_cmp_isNaN_int_raw (fun d r h => ⟨0, (F_cmp_isNaN_int_tot 0 d).trans h⟩)
theorem C_cmp_Compare_int_raw (N : Nat) : Contract Try.prog 65 ⟨[(I, false), (I, false)], [I], true, F_cmp_Compare_int N⟩ :=
  have E : Env Try.prog Γ_cmp_Compare_int := env_of tab ⟨C_cmp_isNaN_int, trivial⟩
  con_of (Pc := []) E rfl mixed Try.func65 (by kernel_rfl) (by kernel_rfl) (by kernel_rfl) (by kernel_rfl) (fun A hA => trivial) (F_cmp_Compare_int_ok N)
theorem C_cmp_Compare_int : Contract Try.prog 65 S_cmp_Compare_int := Contract.less (fun N : Nat => F_cmp_Compare_int N) C_cmp_Compare_int_raw (fun d r h => ⟨0, (F_cmp_Compare_int_tot 0 d).trans h⟩)
theorem C_slices_Compare_Sint_int_raw (N : Nat) : Contract Try.prog 44 ⟨[(K_Si, false), (K_Si, false)], [I], true, F_slices_Compare_Sint_int N⟩ :=
  have E : Env Try.prog Γ_slices_Compare_Sint_int := env_of tab ⟨C_cmp_Compare_int, trivial⟩
  con_of (Pc := [(0, ⟨slices_Compare_Sint_int_l0_h, slices_Compare_Sint_int_l0_o, slices_Compare_Sint_int_l0 N N⟩)]) E rfl mixed Try.func44 (by kernel_rfl) (by kernel_rfl) (by kernel_rfl) (by kernel_rfl) (fun A hA => ⟨pc_of (inner := []) E mixed hA (by kernel_rfl) (by kernel_rfl) (by kernel_rfl) trivial (fun _ => rfl) (fun m d => (slices_Compare_Sint_int_l0_ok N (slices_Compare_Sint_int_l0 N m) d).symm) N, trivial⟩) (F_slices_Compare_Sint_int_ok N)
theorem C_slices_Compare_Sint_int : Contract Try.prog 44 S_slices_Compare_Sint_int := Contract.less (fun N : Nat => F_slices_Compare_Sint_int N) C_slices_Compare_Sint_int_raw compare_lim
theorem C_impl_IsGraph_raw (N : Nat) : Contract Try.prog 25 ⟨[(K_PiSPiiqq, false)], [.bool], true, F_impl_IsGraph N⟩ :=
  have E : Env Try.prog Γ_impl_IsGraph := env_of tab ⟨C_impl_within, ⟨C_slices_Compare_Sint_int, trivial⟩⟩
  con_of (Pc := [(0, ⟨impl_IsGraph_l0_h, impl_IsGraph_l0_o, impl_IsGraph_l0 N N⟩)]) E rfl mixed Try.func25 (by kernel_rfl) (by kernel_rfl) (by kernel_rfl) (by kernel_rfl) (fun A hA => ⟨pc_of (inner := []) E mixed hA (by kernel_rfl) (by kernel_rfl) (by kernel_rfl) trivial (fun _ => rfl) (fun m d => (impl_IsGraph_l0_ok N (impl_IsGraph_l0 N m) d).symm) N, trivial⟩) (F_impl_IsGraph_ok N)
theorem C_impl_IsGraph : Contract Try.prog 25 S_impl_IsGraph := Contract.less (fun N : Nat => F_impl_IsGraph N) C_impl_IsGraph_raw IsGraph_lim
theorem C_impl_netOf_raw (N : Nat) : Contract Try.prog 33 ⟨[(K_PiSPiiqq, false)], [K_PSiq], true, F_impl_netOf N⟩ :=
  have E : Env Try.prog Γ_impl_netOf := env_of tab trivial
  con_of (Pc := [(0, ⟨impl_netOf_l0_h, impl_netOf_l0_o, impl_netOf_l0 N N⟩)]) E rfl mixed Try.func33 (by kernel_rfl) (by kernel_rfl) (by kernel_rfl) (by kernel_rfl) (fun A hA => ⟨pc_of (inner := []) E mixed hA (by kernel_rfl) (by kernel_rfl) (by kernel_rfl) trivial (fun _ => rfl) (fun m d => (impl_netOf_l0_ok N (impl_netOf_l0 N m) d).symm) N, trivial⟩) (F_impl_netOf_ok N)
theorem C_impl_netOf : Contract Try.prog 33 S_impl_netOf := Contract.less (fun N : Nat => F_impl_netOf N) C_impl_netOf_raw netOf_lim
theorem C_impl_isCopGame_raw (N : Nat) : Contract Try.prog 66 ⟨[(K_PiSPiiqq, false), (I, false)], [.bool], true, F_impl_isCopGame N⟩ :=
  have E : Env Try.prog Γ_impl_isCopGame := env_of tab ⟨C_impl_IsGraph, ⟨C_impl_within, trivial⟩⟩
  con_of (Pc := []) E rfl mixed Try.func66 (by kernel_rfl) (by kernel_rfl) (by kernel_rfl) (by kernel_rfl) (fun A hA => trivial) (F_impl_isCopGame_ok N)
theorem C_impl_isCopGame : Contract Try.prog 66 S_impl_isCopGame := C_impl_isCopGame_raw 0
theorem C_impl_allWithin_raw (N : Nat) : Contract Try.prog 32 ⟨[(K_Si, false), (I, false), (I, false)], [.bool], true, F_impl_allWithin N⟩ :=
  have E : Env Try.prog Γ_impl_allWithin := env_of tab ⟨C_impl_within, trivial⟩
  con_of (Pc := [(0, ⟨impl_allWithin_l0_h, impl_allWithin_l0_o, impl_allWithin_l0 N N⟩)]) E rfl mixed Try.func32 (by kernel_rfl) (by kernel_rfl) (by kernel_rfl) (by kernel_rfl) (fun A hA => ⟨pc_of (inner := []) E mixed hA (by kernel_rfl) (by kernel_rfl) (by kernel_rfl) trivial (fun _ => rfl) (fun m d => (impl_allWithin_l0_ok N (impl_allWithin_l0 N m) d).symm) N, trivial⟩) (F_impl_allWithin_ok N)
theorem C_impl_allWithin : Contract Try.prog 32 S_impl_allWithin := Contract.less (fun N : Nat => F_impl_allWithin N) C_impl_allWithin_raw allWithin_lim
theorem C_impl_hasNodes_raw (N : Nat) : Contract Try.prog 67 ⟨[(K_PiSPiiqq, false), (K_Si, false)], [.bool], true, F_impl_hasNodes N⟩ :=
  have E : Env Try.prog Γ_impl_hasNodes := env_of tab ⟨C_impl_IsGraph, ⟨C_impl_allWithin, trivial⟩⟩
  con_of (Pc := []) E rfl mixed Try.func67 (by kernel_rfl) (by kernel_rfl) (by kernel_rfl) (by kernel_rfl) (fun A hA => trivial) (F_impl_hasNodes_ok N)
theorem C_impl_hasNodes : Contract Try.prog 67 S_impl_hasNodes := C_impl_hasNodes_raw 0
theorem C_cmp_Less_int_raw (N : Nat) : Contract Try.prog 80 ⟨[(I, false), (I, false)], [.bool], true, F_cmp_Less_int N⟩ :=
  have E : Env Try.prog Γ_cmp_Less_int := env_of tab ⟨C_cmp_isNaN_int, trivial⟩
  con_of (Pc := []) E rfl mixed Try.func80 (by kernel_rfl) (by kernel_rfl) (by kernel_rfl) (by kernel_rfl) (fun A hA => trivial) (F_cmp_Less_int_ok N)
theorem C_cmp_Less_int : Contract Try.prog 80 S_cmp_Less_int := Contract.less (fun N : Nat => F_cmp_Less_int N) C_cmp_Less_int_raw (fun d r h => ⟨0, (F_cmp_Less_int_tot 0 d).trans h⟩)
theorem C_slices_IsSorted_Sint_int_raw (N : Nat) : Contract Try.prog 68 ⟨[(K_Si, false)], [.bool], true, F_slices_IsSorted_Sint_int N⟩ :=
  have E : Env Try.prog Γ_slices_IsSorted_Sint_int := env_of tab ⟨C_cmp_Less_int, trivial⟩
  con_of (Pc := [(0, ⟨slices_IsSorted_Sint_int_l0_h, slices_IsSorted_Sint_int_l0_o, slices_IsSorted_Sint_int_l0 N N⟩)]) E rfl mixed Try.func68 (by kernel_rfl) (by kernel_rfl) (by kernel_rfl) (by kernel_rfl) (fun A hA => ⟨pc_of (inner := []) E mixed hA (by kernel_rfl) (by kernel_rfl) (by kernel_rfl) trivial (fun _ => rfl) (fun m d => (slices_IsSorted_Sint_int_l0_ok N (slices_IsSorted_Sint_int_l0 N m) d).symm) N, trivial⟩) (F_slices_IsSorted_Sint_int_ok N)
theorem C_slices_IsSorted_Sint_int : Contract Try.prog 68 S_slices_IsSorted_Sint_int := Contract.less (fun N : Nat => F_slices_IsSorted_Sint_int N) C_slices_IsSorted_Sint_int_raw isSorted_lim
theorem C_impl_areCops_raw (N : Nat) : Contract Try.prog 45 ⟨[(K_PiSPiiqq, false), (K_Si, false)], [.bool], true, F_impl_areCops N⟩ :=
  have E : Env Try.prog Γ_impl_areCops := env_of tab ⟨C_impl_isCopGame, ⟨C_impl_hasNodes, ⟨C_slices_IsSorted_Sint_int, trivial⟩⟩⟩
  con_of (Pc := []) E rfl mixed Try.func45 (by kernel_rfl) (by kernel_rfl) (by kernel_rfl) (by kernel_rfl) (fun A hA => trivial) (F_impl_areCops_ok N)
theorem C_impl_areCops : Contract Try.prog 45 S_impl_areCops := C_impl_areCops_raw 0
theorem C_impl_net_closed_raw (N : Nat) : Contract Try.prog 35 ⟨[(K_PSiq, false), (I, false)], [I], true, F_impl_net_closed N⟩ :=
  have E : Env Try.prog Γ_impl_net_closed := env_of tab trivial
  con_of (Pc := []) E rfl mixed Try.func35 (by kernel_rfl) (by kernel_rfl) (by kernel_rfl) (by kernel_rfl) (fun A hA => trivial) (F_impl_net_closed_ok N)
theorem C_impl_net_closed : Contract Try.prog 35 S_impl_net_closed := C_impl_net_closed_raw 0
theorem C_impl_setOf_raw (N : Nat) : Contract Try.prog 70 ⟨[(I, false)], [K_Si], true, F_impl_setOf N⟩ :=
  have E : Env Try.prog Γ_impl_setOf := env_of tab trivial
  con_of (Pc := [(0, ⟨impl_setOf_l0_h, impl_setOf_l0_o, impl_setOf_l0 N N⟩)]) E rfl mixed Try.func70 (by kernel_rfl) (by kernel_rfl) (by kernel_rfl) (by kernel_rfl) (fun A hA => ⟨pc_of (inner := []) E mixed hA (by kernel_rfl) (by kernel_rfl) (by kernel_rfl) trivial (fun _ => rfl) (fun m d => (impl_setOf_l0_ok N (impl_setOf_l0 N m) d).symm) N, trivial⟩) (F_impl_setOf_ok N)
theorem C_impl_setOf : Contract Try.prog 70 S_impl_setOf := Contract.less (fun N : Nat => F_impl_setOf N) C_impl_setOf_raw setOf_lim
theorem C_slices_Clone_Sint_int_raw (N : Nat) : Contract Try.prog 71 ⟨[(K_Si, false)], [K_Si], true, F_slices_Clone_Sint_int N⟩ :=
  have E : Env Try.prog Γ_slices_Clone_Sint_int := env_of tab trivial
  con_of (Pc := []) E rfl mixed Try.func71 (by kernel_rfl) (by kernel_rfl) (by kernel_rfl) (by kernel_rfl) (fun A hA => trivial) (F_slices_Clone_Sint_int_ok N)
theorem C_slices_Clone_Sint_int : Contract Try.prog 71 S_slices_Clone_Sint_int := Contract.less (fun N : Nat => F_slices_Clone_Sint_int N) C_slices_Clone_Sint_int_raw cloneI_lim
theorem C_slices_Equal_Sint_int_raw (N : Nat) : Contract Try.prog 49 ⟨[(K_Si, false), (K_Si, false)], [.bool], true, F_slices_Equal_Sint_int N⟩ :=
  have E : Env Try.prog Γ_slices_Equal_Sint_int := env_of tab trivial
  con_of (Pc := [(0, ⟨slices_Equal_Sint_int_l0_h, slices_Equal_Sint_int_l0_o, slices_Equal_Sint_int_l0 N N⟩)]) E rfl mixed Try.func49 (by kernel_rfl) (by kernel_rfl) (by kernel_rfl) (by kernel_rfl) (fun A hA => ⟨pc_of (inner := []) E mixed hA (by kernel_rfl) (by kernel_rfl) (by kernel_rfl) trivial (fun _ => rfl) (fun m d => (slices_Equal_Sint_int_l0_ok N (slices_Equal_Sint_int_l0 N m) d).symm) N, trivial⟩) (F_slices_Equal_Sint_int_ok N)
theorem C_slices_Equal_Sint_int : Contract Try.prog 49 S_slices_Equal_Sint_int := Contract.less (fun N : Nat => F_slices_Equal_Sint_int N) C_slices_Equal_Sint_int_raw equalI_lim
theorem C_slices_CompactFunc_SSint_Sint_by_slices_Equal_Sint_int : ContractG Try.prog 74 (S_slices_CompactFunc_SSint_Sint_by_slices_Equal_Sint_int, { gone := [0], deep := [] }) := con_compactF (enters_of Try.func74 (by kernel_rfl) rfl) (fun w v1 v2 xs ys h1 h2 l1 l2 => eqH h1 h2 l1 l2) compact74 compact74_small
theorem C_impl_net_copMoves_raw (N : Nat) : Contract Try.prog 47 ⟨[(K_PSiq, false), (K_Si, false)], [K_SSi], true, F_impl_net_copMoves N⟩ :=
  have E : Env Try.prog Γ_impl_net_copMoves := env_ofG tab ⟨C_impl_net_closed, ⟨C_impl_setOf, ⟨C_slices_Clone_Sint_int, ⟨C_slices_Sort_Sint_int, ⟨C_slices_SortFunc_SSint_Sint_by_slices_Compare_Sint_int, trivial⟩⟩⟩⟩⟩ trivial (fun _ h => by cases h) ⟨C_slices_CompactFunc_SSint_Sint_by_slices_Equal_Sint_int, trivial⟩ (by kernel_rfl)
  con_of (Pc := [(0, ⟨impl_net_copMoves_l0_h, impl_net_copMoves_l0_o, impl_net_copMoves_l0 N N⟩), (6, ⟨impl_net_copMoves_l6_h, impl_net_copMoves_l6_o, impl_net_copMoves_l6 N N⟩)]) E rfl mixed Try.func47 (by kernel_rfl) (by kernel_rfl) (by kernel_rfl) (by kernel_rfl) (fun A hA => ⟨pc_of (inner := [(2, ⟨impl_net_copMoves_l2_h, impl_net_copMoves_l2_o, impl_net_copMoves_l2 N N⟩)]) E mixed hA (by kernel_rfl) (by kernel_rfl) (by kernel_rfl) ⟨pc_of (inner := [(4, ⟨impl_net_copMoves_l4_h, impl_net_copMoves_l4_o, impl_net_copMoves_l4 N N⟩)]) E mixed hA (by kernel_rfl) (by kernel_rfl) (by kernel_rfl) ⟨pc_of (inner := []) E mixed hA (by kernel_rfl) (by kernel_rfl) (by kernel_rfl) trivial (fun _ => rfl) (fun m d => (impl_net_copMoves_l4_ok N (impl_net_copMoves_l4 N m) d).symm) N, trivial⟩ (fun _ => rfl) (fun m d => (impl_net_copMoves_l2_ok N (impl_net_copMoves_l2 N m) d).symm) N, trivial⟩ (fun _ => rfl) (fun m d => (impl_net_copMoves_l0_ok N (impl_net_copMoves_l0 N m) d).symm) N, ⟨pc_of (inner := []) E mixed hA (by kernel_rfl) (by kernel_rfl) (by kernel_rfl) trivial (fun _ => rfl) (fun m d => (impl_net_copMoves_l6_ok N (impl_net_copMoves_l6 N m) d).symm) N, trivial⟩⟩) (F_impl_net_copMoves_ok N)
theorem C_impl_net_copMoves : Contract Try.prog 47 S_impl_net_copMoves := Contract.less (fun N : Nat => F_impl_net_copMoves N) C_impl_net_copMoves_raw copMoves47_lim
theorem C_impl_isWalk_1_raw (N : Nat) : Contract Try.prog 48 ⟨[(K_Si, false), (K_BSi, false)], [.bool], true, F_impl_isWalk_1 N⟩ :=
  have E : Env Try.prog Γ_impl_isWalk_1 := env_of tab ⟨C_slices_Equal_Sint_int, trivial⟩
  con_of (Pc := []) E rfl mixed Try.func48 (by kernel_rfl) (by kernel_rfl) (by kernel_rfl) (by kernel_rfl) (fun A hA => trivial) (F_impl_isWalk_1_ok N)
theorem C_impl_isWalk_1 : Contract Try.prog 48 S_impl_isWalk_1 := C_impl_isWalk_1_raw 0
theorem CV_impl_isWalk_1 : ContractV Try.prog SV_impl_isWalk_1 := conV_0_1_1 C_impl_isWalk_1
theorem C_slices_IndexFunc_SSint_Sint_by_impl_isWalk_1_raw (N : Nat) : Contract Try.prog 69 ⟨[(K_SSi, false), (K_F_impl_isWalk_1_qPBSiq, false)], [I], true, F_slices_IndexFunc_SSint_Sint_by_impl_isWalk_1 N⟩ :=
  have E : Env Try.prog Γ_slices_IndexFunc_SSint_Sint_by_impl_isWalk_1 := env_ofV tab trivial ⟨CV_impl_isWalk_1, trivial⟩ (fun _ h => by cases h)
  con_of (Pc := [(0, ⟨slices_IndexFunc_SSint_Sint_by_impl_isWalk_1_l0_h, slices_IndexFunc_SSint_Sint_by_impl_isWalk_1_l0_o, slices_IndexFunc_SSint_Sint_by_impl_isWalk_1_l0 N N⟩)]) E rfl mixed Try.func69 (by kernel_rfl) (by kernel_rfl) (by kernel_rfl) (by kernel_rfl) (fun A hA => ⟨pc_of (inner := []) E mixed hA (by kernel_rfl) (by kernel_rfl) (by kernel_rfl) trivial (fun _ => rfl) (fun m d => (slices_IndexFunc_SSint_Sint_by_impl_isWalk_1_l0_ok N (slices_IndexFunc_SSint_Sint_by_impl_isWalk_1_l0 N m) d).symm) N, trivial⟩) (F_slices_IndexFunc_SSint_Sint_by_impl_isWalk_1_ok N)
theorem C_slices_IndexFunc_SSint_Sint_by_impl_isWalk_1 : Contract Try.prog 69 S_slices_IndexFunc_SSint_Sint_by_impl_isWalk_1 := Contract.less (fun N : Nat => F_slices_IndexFunc_SSint_Sint_by_impl_isWalk_1 N) C_slices_IndexFunc_SSint_Sint_by_impl_isWalk_1_raw idxWalk_lim
theorem C_slices_ContainsFunc_SSint_Sint_by_impl_isWalk_1_raw (N : Nat) : Contract Try.prog 46 ⟨[(K_SSi, false), (K_F_impl_isWalk_1_qPBSiq, false)], [.bool], true, F_slices_ContainsFunc_SSint_Sint_by_impl_isWalk_1 N⟩ :=
  have E : Env Try.prog Γ_slices_ContainsFunc_SSint_Sint_by_impl_isWalk_1 := env_of tab ⟨C_slices_IndexFunc_SSint_Sint_by_impl_isWalk_1, trivial⟩
  con_of (Pc := []) E rfl mixed Try.func46 (by kernel_rfl) (by kernel_rfl) (by kernel_rfl) (by kernel_rfl) (fun A hA => trivial) (F_slices_ContainsFunc_SSint_Sint_by_impl_isWalk_1_ok N)
theorem C_slices_ContainsFunc_SSint_Sint_by_impl_isWalk_1 : Contract Try.prog 46 S_slices_ContainsFunc_SSint_Sint_by_impl_isWalk_1 := C_slices_ContainsFunc_SSint_Sint_by_impl_isWalk_1_raw 0
theorem C_impl_isWalk_raw (N : Nat) : Contract Try.prog 26 ⟨[(K_PiSPiiqq, false), (K_SSi, false)], [.bool], true, F_impl_isWalk N⟩ :=
  have E : Env Try.prog Γ_impl_isWalk := env_ofV tab ⟨C_impl_IsGraph, ⟨C_impl_netOf, ⟨C_impl_within, ⟨C_impl_areCops, ⟨C_slices_ContainsFunc_SSint_Sint_by_impl_isWalk_1, ⟨C_impl_net_copMoves, trivial⟩⟩⟩⟩⟩⟩ trivial (fun _ h => by cases h)
  con_of (Pc := [(0, ⟨impl_isWalk_l0_h, impl_isWalk_l0_o, impl_isWalk_l0 N N⟩)]) E rfl mixed Try.func26 (by kernel_rfl) (by kernel_rfl) (by kernel_rfl) (by kernel_rfl) (fun A hA => ⟨pc_of (inner := []) E mixed hA (by kernel_rfl) (by kernel_rfl) (by kernel_rfl) trivial (fun _ => rfl) (fun m d => (impl_isWalk_l0_ok N (impl_isWalk_l0 N m) d).symm) N, trivial⟩) (F_impl_isWalk_ok N)
theorem C_impl_isWalk : Contract Try.prog 26 S_impl_isWalk := Contract.less (fun N : Nat => F_impl_isWalk N) C_impl_isWalk_raw isWalk_lim
theorem C_impl_net_all_raw (N : Nat) : Contract Try.prog 58 ⟨[(K_PSiq, false)], [I], true, F_impl_net_all N⟩ :=
  have E : Env Try.prog Γ_impl_net_all := env_of tab trivial
  con_of (Pc := []) E rfl mixed Try.func58 (by kernel_rfl) (by kernel_rfl) (by kernel_rfl) (by kernel_rfl) (fun A hA => trivial) (F_impl_net_all_ok N)
theorem C_impl_net_all : Contract Try.prog 58 S_impl_net_all := C_impl_net_all_raw 0
theorem C_impl_maskOf_raw (N : Nat) : Contract Try.prog 59 ⟨[(K_Si, false)], [I], true, F_impl_maskOf N⟩ :=
  have E : Env Try.prog Γ_impl_maskOf := env_of tab trivial
  con_of (Pc := [(0, ⟨impl_maskOf_l0_h, impl_maskOf_l0_o, impl_maskOf_l0 N N⟩)]) E rfl mixed Try.func59 (by kernel_rfl) (by kernel_rfl) (by kernel_rfl) (by kernel_rfl) (fun A hA => ⟨pc_of (inner := []) E mixed hA (by kernel_rfl) (by kernel_rfl) (by kernel_rfl) trivial (fun _ => rfl) (fun m d => (impl_maskOf_l0_ok N (impl_maskOf_l0 N m) d).symm) N, trivial⟩) (F_impl_maskOf_ok N)
theorem C_impl_maskOf : Contract Try.prog 59 S_impl_maskOf := Contract.less (fun N : Nat => F_impl_maskOf N) C_impl_maskOf_raw maskOf_lim
theorem C_impl_net_around_raw (N : Nat) : Contract Try.prog 77 ⟨[(K_PSiq, false), (I, false)], [I], true, F_impl_net_around N⟩ :=
  have E : Env Try.prog Γ_impl_net_around := env_of tab trivial
  con_of (Pc := [(0, ⟨impl_net_around_l0_h, impl_net_around_l0_o, impl_net_around_l0 N N⟩)]) E rfl mixed Try.func77 (by kernel_rfl) (by kernel_rfl) (by kernel_rfl) (by kernel_rfl) (fun A hA => ⟨pc_of (inner := []) E mixed hA (by kernel_rfl) (by kernel_rfl) (by kernel_rfl) trivial (fun _ => rfl) (fun m d => (impl_net_around_l0_ok N (impl_net_around_l0 N m) d).symm) N, trivial⟩) (F_impl_net_around_ok N)
theorem C_impl_net_around : Contract Try.prog 77 S_impl_net_around := Contract.less (fun N : Nat => F_impl_net_around N) C_impl_net_around_raw around_lim
theorem C_impl_net_unsafeAfter_raw (N : Nat) : Contract Try.prog 60 ⟨[(K_PSiq, false), (I, false), (K_Si, false)], [I], true, F_impl_net_unsafeAfter N⟩ :=
  have E : Env Try.prog Γ_impl_net_unsafeAfter := env_of tab ⟨C_impl_maskOf, ⟨C_impl_net_around, trivial⟩⟩
  con_of (Pc := []) E rfl mixed Try.func60 (by kernel_rfl) (by kernel_rfl) (by kernel_rfl) (by kernel_rfl) (fun A hA => trivial) (F_impl_net_unsafeAfter_ok N)
theorem C_impl_net_unsafeAfter : Contract Try.prog 60 S_impl_net_unsafeAfter := C_impl_net_unsafeAfter_raw 0
theorem C_impl_net_unsafeAlong_raw (N : Nat) : Contract Try.prog 37 ⟨[(K_PSiq, false), (K_SSi, false)], [K_Si], true, F_impl_net_unsafeAlong N⟩ :=
  have E : Env Try.prog Γ_impl_net_unsafeAlong := env_of tab ⟨C_impl_net_all, ⟨C_impl_maskOf, ⟨C_impl_net_unsafeAfter, trivial⟩⟩⟩
  con_of (Pc := [(0, ⟨impl_net_unsafeAlong_l0_h, impl_net_unsafeAlong_l0_o, impl_net_unsafeAlong_l0 N N⟩)]) E rfl mixed Try.func37 (by kernel_rfl) (by kernel_rfl) (by kernel_rfl) (by kernel_rfl) (fun A hA => ⟨pc_of (inner := []) E mixed hA (by kernel_rfl) (by kernel_rfl) (by kernel_rfl) trivial (fun _ => rfl) (fun m d => (impl_net_unsafeAlong_l0_ok N (impl_net_unsafeAlong_l0 N m) d).symm) N, trivial⟩) (F_impl_net_unsafeAlong_ok N)
theorem C_impl_net_unsafeAlong : Contract Try.prog 37 S_impl_net_unsafeAlong := Contract.less (fun N : Nat => F_impl_net_unsafeAlong N) C_impl_net_unsafeAlong_raw netUns_lim
theorem C_impl_IsClearingWalk_raw (N : Nat) : Contract Try.prog 19 ⟨[(K_PiSPiiqq, false), (K_SSi, false)], [.bool, .bool], true, F_impl_IsClearingWalk N⟩ :=
  have E : Env Try.prog Γ_impl_IsClearingWalk := env_of tab ⟨C_impl_isWalk, ⟨C_impl_netOf, ⟨C_impl_net_unsafeAlong, trivial⟩⟩⟩
  con_of (Pc := []) E rfl mixed Try.func19 (by kernel_rfl) (by kernel_rfl) (by kernel_rfl) (by kernel_rfl) (fun A hA => trivial) (F_impl_IsClearingWalk_ok N)
theorem C_impl_IsClearingWalk : Contract Try.prog 19 S_impl_IsClearingWalk := C_impl_IsClearingWalk_raw 0
theorem C_laws_eqIntA2_raw (N : Nat) : Contract Try.prog 50 ⟨[(K_Piiq, false), (K_Piiq, false)], [.bool], true, F_laws_eqIntA2 N⟩ :=
  have E : Env Try.prog Γ_laws_eqIntA2 := env_of tab trivial
  con_of (Pc := [(0, ⟨laws_eqIntA2_l0_h, laws_eqIntA2_l0_o, laws_eqIntA2_l0 N N⟩)]) E rfl mixed Try.func50 (by kernel_rfl) (by kernel_rfl) (by kernel_rfl) (by kernel_rfl) (fun A hA => ⟨pc_of (inner := []) E mixed hA (by kernel_rfl) (by kernel_rfl) (by kernel_rfl) trivial (fun _ => rfl) (fun m d => (laws_eqIntA2_l0_ok N (laws_eqIntA2_l0 N m) d).symm) N, trivial⟩) (F_laws_eqIntA2_ok N)
theorem C_laws_eqIntA2 : Contract Try.prog 50 S_laws_eqIntA2 := Contract.less (fun N : Nat => F_laws_eqIntA2 N) C_laws_eqIntA2_raw eqIntA2_lim
theorem C_laws_eqIntA2S_raw (N : Nat) : Contract Try.prog 27 ⟨[(K_SPiiq, false), (K_SPiiq, false)], [.bool], true, F_laws_eqIntA2S N⟩ :=
  have E : Env Try.prog Γ_laws_eqIntA2S := env_of tab ⟨C_laws_eqIntA2, trivial⟩
  con_of (Pc := [(0, ⟨laws_eqIntA2S_l0_h, laws_eqIntA2S_l0_o, laws_eqIntA2S_l0 N N⟩)]) E rfl mixed Try.func27 (by kernel_rfl) (by kernel_rfl) (by kernel_rfl) (by kernel_rfl) (fun A hA => ⟨pc_of (inner := []) E mixed hA (by kernel_rfl) (by kernel_rfl) (by kernel_rfl) trivial (fun _ => rfl) (fun m d => (laws_eqIntA2S_l0_ok N (laws_eqIntA2S_l0 N m) d).symm) N, trivial⟩) (F_laws_eqIntA2S_ok N)
theorem C_laws_eqIntA2S : Contract Try.prog 27 S_laws_eqIntA2S := Contract.less (fun N : Nat => F_laws_eqIntA2S N) C_laws_eqIntA2S_raw eqIntA2S_lim
theorem C_laws_eqGraph_raw (N : Nat) : Contract Try.prog 12 ⟨[(K_PiSPiiqq, false), (K_PiSPiiqq, false)], [.bool], true, F_laws_eqGraph N⟩ :=
  have E : Env Try.prog Γ_laws_eqGraph := env_of tab ⟨C_laws_eqIntA2S, trivial⟩
  con_of (Pc := []) E rfl mixed Try.func12 (by kernel_rfl) (by kernel_rfl) (by kernel_rfl) (by kernel_rfl) (fun A hA => trivial) (F_laws_eqGraph_ok N)
theorem C_laws_eqGraph : Contract Try.prog 12 S_laws_eqGraph := C_laws_eqGraph_raw 0
theorem C_laws_eqIntS_raw (N : Nat) : Contract Try.prog 17 ⟨[(K_Si, false), (K_Si, false)], [.bool], true, F_laws_eqIntS N⟩ :=
  have E : Env Try.prog Γ_laws_eqIntS := env_of tab trivial
  con_of (Pc := [(0, ⟨laws_eqIntS_l0_h, laws_eqIntS_l0_o, laws_eqIntS_l0 N N⟩)]) E rfl mixed Try.func17 (by kernel_rfl) (by kernel_rfl) (by kernel_rfl) (by kernel_rfl) (fun A hA => ⟨pc_of (inner := []) E mixed hA (by kernel_rfl) (by kernel_rfl) (by kernel_rfl) trivial (fun _ => rfl) (fun m d => (laws_eqIntS_l0_ok N (laws_eqIntS_l0 N m) d).symm) N, trivial⟩) (F_laws_eqIntS_ok N)
theorem C_laws_eqIntS : Contract Try.prog 17 S_laws_eqIntS := Contract.less (fun N : Nat => F_laws_eqIntS N) C_laws_eqIntS_raw eqIntS_lim
theorem C_laws_eqIntSS_raw (N : Nat) : Contract Try.prog 13 ⟨[(K_SSi, false), (K_SSi, false)], [.bool], true, F_laws_eqIntSS N⟩ :=
  have E : Env Try.prog Γ_laws_eqIntSS := env_of tab ⟨C_laws_eqIntS, trivial⟩
  con_of (Pc := [(0, ⟨laws_eqIntSS_l0_h, laws_eqIntSS_l0_o, laws_eqIntSS_l0 N N⟩)]) E rfl mixed Try.func13 (by kernel_rfl) (by kernel_rfl) (by kernel_rfl) (by kernel_rfl) (fun A hA => ⟨pc_of (inner := []) E mixed hA (by kernel_rfl) (by kernel_rfl) (by kernel_rfl) trivial (fun _ => rfl) (fun m d => (laws_eqIntSS_l0_ok N (laws_eqIntSS_l0 N m) d).symm) N, trivial⟩) (F_laws_eqIntSS_ok N)
theorem C_laws_eqIntSS : Contract Try.prog 13 S_laws_eqIntSS := Contract.less (fun N : Nat => F_laws_eqIntSS N) C_laws_eqIntSS_raw eqIntSS_lim
theorem C_laws_FnExactIsClearingWalk_raw (N : Nat) : Contract Try.prog 5 ⟨[(K_PiSPiiqq, false), (K_SSi, false)], [.bool], true, F_laws_FnExactIsClearingWalk N⟩ :=
  have E : Env Try.prog Γ_laws_FnExactIsClearingWalk := env_of tab ⟨C_laws_szGraph, ⟨C_laws_szIntSS, ⟨C_laws_toGraph, ⟨C_laws_toIntSS, ⟨C_laws_eqGraph, ⟨C_laws_eqIntSS, ⟨C_spec_IsClearingWalk, ⟨C_impl_IsClearingWalk, trivial⟩⟩⟩⟩⟩⟩⟩⟩
  con_of (Pc := []) E rfl mixed Try.func5 (by kernel_rfl) (by kernel_rfl) (by kernel_rfl) (by kernel_rfl) (fun A hA => trivial) (F_laws_FnExactIsClearingWalk_ok N)
theorem C_laws_FnExactIsClearingWalk : Contract Try.prog 5 S_laws_FnExactIsClearingWalk := C_laws_FnExactIsClearingWalk_raw 0
end Go.V.W
