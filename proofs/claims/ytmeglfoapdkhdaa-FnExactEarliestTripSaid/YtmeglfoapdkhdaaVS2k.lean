/- Nets, open edges and their graphs, told plainly; the law FnExactOpenGraph on plain data. -/
import Derived.Test.YtmeglfoapdkhdaaVS2j
import Derived.Test.YtmeglfoapdkhdaaVN1
set_option linter.unusedVariables false
set_option linter.unusedSimpArgs false
namespace Go.V.W
open Go.Proofs

theorem edge_nat {n : Nat} {e : E} (h : edgeB (n : Int) e = true) : ∃ a b : Nat, a < b ∧ b < n ∧ e = ((a : Int), (b : Int), ()) := by
  obtain ⟨h1, h2, h3, h4⟩ := edgeB_nat h
  exact ⟨_, _, h1, h2, by rw [← h3, ← h4]⟩
theorem toI_zero (n : Nat) : List.replicate n (0 : Int) = toI (List.replicate n 0) := by simp [toI]
theorem nonneg_dec (y : Nat) : decide (0 ≤ (y : Int)) = true := by simp
theorem netOf_l0 (N : Nat) (n : Nat) (hn : n ≤ 8) (z : Nt) (u : Unit) (es : List E) (hl : es.length ≤ lim) (he : es.all (edgeB (n : Int)) = true) : ∀ k j (ms : List Nat), okN n ms → es.length ≤ j + k → j ≤ es.length →
    impl_netOf_l0 N (k + 1) (z, (toI ms, u), es, (es.length : Int), (j : Int), ()) = some (.inl (z, (toI ((es.drop j).foldl addN ms), u), ())) := by
  intro k
  induction k with
  | zero =>
    intro j ms hm h1 h2
    have e : j = es.length := by omega
    subst e
    rw [List.drop_of_length_le (Nat.le_refl _)]
    simp [impl_netOf_l0, impl_netOf_l0_r]
  | succ k ih =>
    intro j ms hm h1 h2
    by_cases hj : j < es.length
    · have hee : edgeB (n : Int) (at_ K_Piiq es j) = true := all_at_of (e := K_Piiq) he hj
      have hat : at_ K_Piiq es j = es[j] := at_get (e := K_Piiq) hj
      obtain ⟨a, b, hab, hb, hx⟩ := edge_nat hee
      have k1 := addN_ok hn hm hee
      have ha8 : a < 8 := by omega
      have hb8 : b < 8 := by omega
      have o1 := orN_ok hm (show a < n by omega) hb8
      show impl_netOf_l0_r N (impl_netOf_l0 N (k + 1)) (z, (toI ms, u), es, (es.length : Int), (j : Int), ()) = _
      unfold impl_netOf_l0_r
      have i1 : idxIn (a : Int) ms.length = true := idxIn_nat (by rw [hm.1]; omega)
      have i2 : idxIn (b : Int) ms.length = true := idxIn_nat (by rw [hm.1]; omega)
      have p1 := pow_small hb8
      have p2 := pow_small ha8
      simp only [lt_dec hj, if_true, idxIn_nat hj, Int.toNat_natCast, wrap_up hj (lim_max hl), hx, toI_len, i1, i2, nonneg_dec, shl_one hb8, shl_one ha8, at_toI, bits_or (hm.2 a) p1, toI_set, List.length_set]
      have hb2 : (ms.set a (ms.getD a 0 ||| 2 ^ b)).getD b 0 < 256 := o1.2 b
      simp only [bits_or hb2 p2, toI_set]
      rw [List.drop_eq_getElem_cons hj, List.foldl_cons, ← hat, hx]
      have hadd : addN ms ((a : Int), (b : Int), ()) = (ms.set a (ms.getD a 0 ||| 2 ^ b)).set b ((ms.set a (ms.getD a 0 ||| 2 ^ b)).getD b 0 ||| 2 ^ a) := by
        simp only [addN, orN, Int.toNat_natCast]
      rw [hx] at k1
      rw [hadd] at k1 ⊢
      exact ih (j + 1) _ k1 (by omega) (by omega)
    · have e : j = es.length := by omega
      subst e
      rw [List.drop_of_length_le (Nat.le_refl _)]
      simp [impl_netOf_l0, impl_netOf_l0_r]
theorem netOf_lim (d) (r) (h : G_netOf d = some r) : ∃ N, F_impl_netOf N d = some r := by
  obtain ⟨⟨n, es, u⟩, w⟩ := d
  unfold G_netOf at h
  split at h
  · rename_i hc
    simp only [Bool.and_eq_true, decide_eq_true_eq] at hc
    obtain ⟨⟨⟨h0, h8⟩, hl⟩, he⟩ := hc
    have h := Option.some.inj h
    subst h
    obtain ⟨m, rfl⟩ : ∃ m : Nat, n = (m : Int) := ⟨n.toNat, by omega⟩
    have hm8 : m ≤ 8 := by omega
    refine ⟨es.length + 1, ?_⟩
    unfold F_impl_netOf
    have hc : (decide (0 ≤ (m : Int)) && decide ((m : Int) ≤ (m : Int)) && decide ((m : Int) ≤ (lim : Int))) = true := by
      have a1 : (m : Int) ≤ (lim : Int) := by unfold lim; omega
      simp only [a1, nonneg_dec, decide_true, Bool.and_self, Int.le_refl]
    have := netOf_l0 (es.length + 1) m hm8 (([] : List Int), ()) () es (okL_lim hl) he es.length 0 _ (okN_zero m) (by omega) (by omega)
    simp only [Int.natCast_zero, List.drop_zero] at this
    simp only [hc, if_true, Int.toNat_natCast, toI_zero, this, Option.bind_some]
    rfl
  · cases h

/-! ### membership -/
theorem l1Has_lim (d) (r) (h : G_l1Has d = some r) : ∃ N, F_spec_l1Has N d = some r := by
  obtain ⟨l, x, _⟩ := d
  unfold G_l1Has at h
  split at h
  · rename_i hl
    have hl : l.length ≤ lim := okL_lim hl
    have h := Option.some.inj h
    subst h
    refine ⟨l.length + 1, ?_⟩
    unfold F_spec_l1Has
    have := loop_idx (L := spec_l1Has_l0 (l.length + 1)) (r := spec_l1Has_l0_r (l.length + 1)) (fun _ _ => rfl) (e := I) l (mk := fun i => (l, x, (i : Int), ())) (q := fun y => y == x) (o := fun _ => .inl (true, ())) (f := .inr (.inl ()))
      (by
        intro back i hi
        unfold spec_l1Has_l0_r
        simp only [lt_dec hi, if_true, idxIn_nat hi, Int.toNat_natCast, wrap_up hi (lim_max hl)])
      (by intro back; unfold spec_l1Has_l0_r; simp only [lt_not, Bool.false_eq_true, if_false]) l.length 0 (by omega) (by omega)
    simp only [Int.natCast_zero, List.drop_zero] at this
    have hge := idxI_ge (fun y => y == x) l 0
    simp only [this, Option.bind_some, ← hge]
    cases idxN (fun y => y == x) l 0 with
    | none => rfl
    | some j => simp [idxI]
  · cases h
theorem index_lim (d) (r) (h : G_index d = some r) : ∃ N, F_slices_Index_Sint_int N d = some r := by
  obtain ⟨l, x, _⟩ := d
  unfold G_index at h
  split at h
  · rename_i hl
    have hl : l.length ≤ lim := okL_lim hl
    have h := Option.some.inj h
    subst h
    refine ⟨l.length + 1, ?_⟩
    unfold F_slices_Index_Sint_int
    have := loop_idx (L := slices_Index_Sint_int_l0 (l.length + 1)) (r := slices_Index_Sint_int_l0_r (l.length + 1)) (fun _ _ => rfl) (e := I) l (mk := fun i => (l, x, (l.length : Int), (i : Int), ())) (q := fun y => x == y) (o := fun i => .inl ((i : Int), ())) (f := .inr (.inl ()))
      (by
        intro back i hi
        unfold slices_Index_Sint_int_l0_r
        simp only [lt_dec hi, if_true, idxIn_nat hi, Int.toNat_natCast, wrap_up hi (lim_max hl)])
      (by intro back; unfold slices_Index_Sint_int_l0_r; simp only [lt_not, Bool.false_eq_true, if_false]) l.length 0 (by omega) (by omega)
    simp only [Int.natCast_zero, List.drop_zero] at this
    simp only [this, Option.bind_some]
    cases idxN (fun y => x == y) l 0 <;> rfl
  · cases h
theorem contains_eq (l : List Int) (x : Int) (u : Unit) (h : okL l = true) : F_slices_Contains_Sint_int 0 (l, x, u) = some (l.any (fun y => y == x), ()) := by
  unfold F_slices_Contains_Sint_int G_index
  simp only [h, if_true, Option.bind_some, idxI_ge]
  congr 3
  funext y
  exact bool_eq_iff (by rw [beq_iff_eq, beq_iff_eq]; exact eq_comm)

/-! ### open edges -/
theorem timeB_parts {t : Tt} (h : timeB t = true) : graphB t.1 = true ∧ 0 < t.1.1 ∧ inB 1 4 t.2.1 = true ∧ t.2.2.1.length = t.1.2.1.length := by
  unfold timeB at h
  simp only [Bool.and_eq_true, decide_eq_true_eq] at h
  exact ⟨h.1.1.1.1, h.1.1.1.2, h.1.1.2, h.1.2⟩
theorem okT_parts {t : Tt} (h : okT t = true) : okL t.1.2.1 = true ∧ okL t.2.2.1 = true ∧ t.2.2.1.all okL = true := by
  unfold okT at h
  simp only [Bool.and_eq_true] at h
  exact ⟨h.1, okLL_of h.2⟩
theorem inB_iff {lo hi x : Int} : inB lo hi x = true ↔ lo ≤ x ∧ x ≤ hi := by simp [inB]
theorem sel_step {es : List E} {ts : List (List Int)} {r : Int} {i : Nat} (h1 : i < es.length) (h2 : i < ts.length) : selE (es.drop i) (ts.drop i) r = if (at_ K_Si ts i).any (fun y => y == r) = true then at_ K_Piiq es i :: selE (es.drop (i + 1)) (ts.drop (i + 1)) r else selE (es.drop (i + 1)) (ts.drop (i + 1)) r := by
  rw [List.drop_eq_getElem_cons h1, List.drop_eq_getElem_cons h2]
  simp only [selE]
  have e1 : at_ K_Si ts i = ts[i] := at_get (e := K_Si) h2
  have e2 : at_ K_Piiq es i = es[i] := at_get (e := K_Piiq) h1
  rw [e1, e2]
theorem l11Open_l0 (N : Nat) (t : Tt) (c : Int) (z : Gr) (n' : Int) (hL : t.1.2.1.length ≤ lim) (hT : t.2.2.1.length = t.1.2.1.length) (hA : t.2.2.1.all okL = true) (hp : t.2.1 ≠ 0) : ∀ k i (A : List E), A.length ≤ i → t.1.2.1.length ≤ i + k → i ≤ t.1.2.1.length →
    spec_l11Open_l0 N (k + 1) (c, t, z, (n', A, ()), (i : Int), ()) = some (.inl (z, (n', A ++ selE (t.1.2.1.drop i) (t.2.2.1.drop i) (c.tmod t.2.1), ()), ())) := by
  intro k
  induction k with
  | zero =>
    intro i A hA' h1 h2
    have e : i = t.1.2.1.length := by omega
    subst e
    rw [List.drop_of_length_le (Nat.le_refl _)]
    simp [spec_l11Open_l0, spec_l11Open_l0_r, selE]
  | succ k ih =>
    intro i A hA' h1 h2
    by_cases hi : i < t.1.2.1.length
    · have hi2 : i < t.2.2.1.length := by omega
      have hx : okL (at_ K_Si t.2.2.1 i) = true := all_at_of (e := K_Si) hA hi2
      have hp' : (t.2.1 != 0) = true := by simpa using hp
      show spec_l11Open_l0_r N (spec_l11Open_l0 N (k + 1)) (c, t, z, (n', A, ()), (i : Int), ()) = _
      unfold spec_l11Open_l0_r
      have hle : decide (A.length + List.length [at_ K_Piiq t.1.2.1 i] ≤ lim) = true := by simp; omega
      simp only [lt_dec hi, if_true, idxIn_nat hi, idxIn_nat hi2, Int.toNat_natCast, wrap_up hi (lim_max hL), hp', G_l1Has, hx, Option.bind_some, hle]
      rw [sel_step hi hi2]
      by_cases hh : (at_ K_Si t.2.2.1 i).any (fun y => y == c.tmod t.2.1) = true
      · rw [if_pos hh, if_pos hh, ih (i + 1) _ (by simp; omega) (by omega) (by omega)]
        simp
      · rw [if_neg hh, if_neg hh]
        exact ih (i + 1) A (by omega) (by omega) (by omega)
    · have e : i = t.1.2.1.length := by omega
      subst e
      rw [List.drop_of_length_le (Nat.le_refl _)]
      simp [spec_l11Open_l0, spec_l11Open_l0_r, selE]
theorem l11Open_lim (d) (r) (h : G_l11Open d = some r) : ∃ N, F_spec_l11Open N d = some r := by
  obtain ⟨t, c, _⟩ := d
  unfold G_l11Open at h
  split at h
  · rename_i hc
    simp only [Bool.and_eq_true, decide_eq_true_eq] at hc
    obtain ⟨⟨⟨h1, h2⟩, h3⟩, _⟩ := hc
    obtain ⟨g1, g2, g3, g4⟩ := timeB_parts h1
    obtain ⟨o1, o2, o3⟩ := okT_parts h2
    have g3 := inB_iff.1 g3
    have h := Option.some.inj h
    subst h
    refine ⟨t.1.2.1.length + 1, ?_⟩
    unfold F_spec_l11Open
    have := l11Open_l0 (t.1.2.1.length + 1) t c (0, [], ()) t.1.1 (okL_lim o1) g4 o3 (by omega) t.1.2.1.length 0 [] (by simp) (by omega) (by omega)
    simp only [Int.natCast_zero, List.drop_zero, List.nil_append] at this
    simp only [this, Option.bind_some]
    rfl
  · cases h

/-! ### nets that are open -/
theorem at_midN (pre : List Nt) (x : Nt) (post : List Nt) : at_ K_PSiq (pre ++ x :: post) pre.length = x := by
  rw [at_get (e := K_PSiq) (by simp)]
  simp
theorem set_midN (pre : List Nt) (x y : Nt) (post : List Nt) : List.set (pre ++ x :: post) pre.length y = pre ++ y :: post := by simp
theorem openNets_l2 (N : Nat) (t : Tt) (n : Nat) (hn : n ≤ 8) (pre post : List Nt) (u : Unit) (s11 s12 : Int) (hl : t.1.2.1.length ≤ lim) (hT : t.2.2.1.length = t.1.2.1.length) (hA : t.2.2.1.all okL = true) (he : t.1.2.1.all (edgeB (n : Int)) = true) : ∀ k j (ms : List Nat), okN n ms → t.1.2.1.length ≤ j + k → j ≤ t.1.2.1.length →
    impl_openNets_l2 N (k + 1) (t, pre ++ (toI ms, u) :: post, (pre.length : Int), s11, s12, t.1.2.1, (t.1.2.1.length : Int), (j : Int), ()) =
      some (.inl (t, pre ++ (toI ((selE (t.1.2.1.drop j) (t.2.2.1.drop j) (pre.length : Int)).foldl addN ms), u) :: post, s11, s12, ())) := by
  intro k
  induction k with
  | zero =>
    intro j ms hm h1 h2
    have e : j = t.1.2.1.length := by omega
    subst e
    rw [List.drop_of_length_le (Nat.le_refl _)]
    simp [impl_openNets_l2, impl_openNets_l2_r, selE]
  | succ k ih =>
    intro j ms hm h1 h2
    by_cases hj : j < t.1.2.1.length
    · have hj2 : j < t.2.2.1.length := by omega
      have hx : okL (at_ K_Si t.2.2.1 j) = true := all_at_of (e := K_Si) hA hj2
      have hee : edgeB (n : Int) (at_ K_Piiq t.1.2.1 j) = true := all_at_of (e := K_Piiq) he hj
      obtain ⟨a, b, hab, hb, hxe⟩ := edge_nat hee
      have k1 := addN_ok hn hm hee
      have ha8 : a < 8 := by omega
      have hb8 : b < 8 := by omega
      have o1 := orN_ok hm (show a < n by omega) hb8
      rw [sel_step hj hj2]
      show impl_openNets_l2_r N (impl_openNets_l2 N (k + 1)) (t, pre ++ (toI ms, u) :: post, (pre.length : Int), s11, s12, t.1.2.1, (t.1.2.1.length : Int), (j : Int), ()) = _
      unfold impl_openNets_l2_r
      simp only [lt_dec hj, if_true, idxIn_nat hj, idxIn_nat hj2, Int.toNat_natCast, wrap_up hj (lim_max hl), contains_eq _ _ _ hx, Option.bind_some]
      by_cases hh : (at_ K_Si t.2.2.1 j).any (fun y => y == (pre.length : Int)) = true
      · rw [if_pos hh, if_pos hh]
        have i0 : ∀ x : Nt, idxIn (pre.length : Int) (pre ++ x :: post).length = true := fun x => idxIn_nat (by simp)
        have i1 : idxIn (a : Int) ms.length = true := idxIn_nat (by rw [hm.1]; omega)
        have i2 : idxIn (b : Int) ms.length = true := idxIn_nat (by rw [hm.1]; omega)
        have p1 := pow_small hb8
        have p2 := pow_small ha8
        simp only [hxe, i0, if_true, Int.toNat_natCast, at_midN, set_midN, toI_len, i1, i2, nonneg_dec, shl_one hb8, shl_one ha8, at_toI, bits_or (hm.2 a) p1, toI_set, List.length_set]
        have hb2 : (ms.set a (ms.getD a 0 ||| 2 ^ b)).getD b 0 < 256 := o1.2 b
        simp only [bits_or hb2 p2, toI_set]
        rw [List.foldl_cons]
        have hadd : addN ms ((a : Int), (b : Int), ()) = (ms.set a (ms.getD a 0 ||| 2 ^ b)).set b ((ms.set a (ms.getD a 0 ||| 2 ^ b)).getD b 0 ||| 2 ^ a) := by
          simp only [addN, orN, Int.toNat_natCast]
        rw [hxe] at k1
        rw [hadd] at k1 ⊢
        exact ih (j + 1) _ k1 (by omega) (by omega)
      · rw [if_neg hh, if_neg hh]
        exact ih (j + 1) ms hm (by omega) (by omega)
    · have e : j = t.1.2.1.length := by omega
      subst e
      rw [List.drop_of_length_le (Nat.le_refl _)]
      simp [impl_openNets_l2, impl_openNets_l2_r, selE]
theorem graphB_edges {n : Int} {l : List E} {u : Unit} (h : graphB (n, l, u) = true) : l.all (edgeB n) = true ∧ risingE l = true := by
  unfold graphB at h
  simp only [Bool.and_eq_true] at h
  exact ⟨h.1.2, h.2⟩
theorem openNets_l0 (M : Nat) (t : Tt) (n : Nat) (hn : n ≤ 8) (hN : t.1.1 = (n : Int)) (hl : t.1.2.1.length ≤ lim) (hT : t.2.2.1.length = t.1.2.1.length) (hA : t.2.2.1.all okL = true) (he : t.1.2.1.all (edgeB (n : Int)) = true) (p : Nat) (hp : p ≤ 4) : ∀ k (pre : List Nt) (f : Nat), pre.length + k = p → k < f →
    impl_openNets_l0 (t.1.2.1.length + 1 + M) f (t, pre ++ List.replicate k ([], ()), (p : Int), (pre.length : Int), ()) = some (.inl (pre ++ (List.range' pre.length k).map (fun r : Nat => ((toI (netN n (openE t (r : Int))), ()) : Nt)), ())) := by
  intro k
  induction k with
  | zero =>
    intro pre f h hf
    have e : p = pre.length := by omega
    subst e
    obtain ⟨f, rfl⟩ : ∃ m, f = m + 1 := ⟨f - 1, by omega⟩
    simp [impl_openNets_l0, impl_openNets_l0_r]
  | succ k ih =>
    intro pre f h hf
    have hlt : pre.length < p := by omega
    obtain ⟨f, rfl⟩ : ∃ m, f = m + 1 := ⟨f - 1, by omega⟩
    show impl_openNets_l0_r (t.1.2.1.length + 1 + M) (impl_openNets_l0 (t.1.2.1.length + 1 + M) f) (t, pre ++ List.replicate (k + 1) ([], ()), (p : Int), (pre.length : Int), ()) = _
    unfold impl_openNets_l0_r
    have hg : G_netOf ((t.1.1, ([] : List E), ()), ()) = some ((toI (List.replicate n 0), ()), ()) := by
      unfold G_netOf
      have : (decide (0 ≤ t.1.1) && decide (t.1.1 ≤ 8) && okL ([] : List E) && List.all ([] : List E) (edgeB t.1.1)) = true := by
        rw [okL_nil, hN]
        simp
        omega
      rw [if_pos this, hN]
      rfl
    have i0 : idxIn (pre.length : Int) (pre ++ ([], ()) :: List.replicate k (([], ()) : Nt)).length = true := idxIn_nat (by simp)
    have hw : IntKind.wrap .i64 ((pre.length : Int) + 1) = ((pre.length + 1 : Nat) : Int) := by
      rw [wrap_in _ (by omega) (by omega)]
      rfl
    have hin := openNets_l2 (t.1.2.1.length + 1 + M) t n hn pre (List.replicate k ([], ())) () (p : Int) (pre.length : Int) hl hT hA he (t.1.2.1.length + M) 0 _ (okN_zero n) (by omega) (by omega)
    have hf : t.1.2.1.length + M + 1 = t.1.2.1.length + 1 + M := by omega
    rw [hf] at hin
    simp only [Int.natCast_zero, List.drop_zero] at hin
    have hd : decide ((pre.length : Int) < (p : Int)) = true := by simp; omega
    simp only [List.replicate_succ, hd, if_true, hg, Option.bind_some, i0, Int.toNat_natCast, set_midN, hin, hw]
    have := ih (pre ++ [((toI (netN n (openE t (pre.length : Int))), ()) : Nt)]) f (by simp; omega) (by omega)
    simp only [List.length_append, List.length_singleton, List.append_assoc, List.singleton_append] at this
    rw [List.range'_succ, List.map_cons]
    exact this
theorem openNets_lim (d) (r) (h : G_openNets d = some r) : ∃ N, F_impl_openNets N d = some r := by
  obtain ⟨t, _⟩ := d
  unfold G_openNets at h
  split at h
  · rename_i hc
    simp only [Bool.and_eq_true] at hc
    obtain ⟨h1, h2⟩ := hc
    obtain ⟨g1, g2, g3, g4⟩ := timeB_parts h1
    obtain ⟨o1, o2, o3⟩ := okT_parts h2
    have g3 := inB_iff.1 g3
    have hn := graphB_n (n := t.1.1) (l := t.1.2.1) (u := t.1.2.2) g1
    have hE := (graphB_edges (n := t.1.1) (l := t.1.2.1) (u := t.1.2.2) g1).1
    have h := Option.some.inj h
    subst h
    have hN : t.1.1 = (t.1.1.toNat : Int) := by omega
    have hP : t.2.1 = (t.2.1.toNat : Int) := by omega
    refine ⟨t.1.2.1.length + 1 + (t.2.1.toNat + 1), ?_⟩
    unfold F_impl_openNets
    have hcc : (decide (0 ≤ t.2.1) && decide (t.2.1 ≤ t.2.1) && decide (t.2.1 ≤ (lim : Int))) = true := by
      have a1 : t.2.1 ≤ (lim : Int) := by unfold lim; omega
      have a2 : 0 ≤ t.2.1 := by omega
      simp only [a1, a2, decide_true, Bool.and_self, Int.le_refl]
    rw [hN] at hE
    have key := openNets_l0 (t.2.1.toNat + 1) t t.1.1.toNat (by omega) hN (okL_lim o1) g4 o3 hE t.2.1.toNat (by omega) t.2.1.toNat [] (t.1.2.1.length + 1 + (t.2.1.toNat + 1)) (by simp) (by omega)
    simp only [List.nil_append, List.length_nil, Int.natCast_zero] at key
    have hlen : (List.replicate t.2.1.toNat (([] : List Int), ())).length = t.2.1.toNat := by simp
    simp only [hcc, if_true, hlen, key, Option.bind_some, netsL, List.range_eq_range']
  · cases h
end Go.V.W
