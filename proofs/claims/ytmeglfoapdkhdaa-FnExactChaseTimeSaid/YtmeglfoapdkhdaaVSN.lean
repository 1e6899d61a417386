/- The printed functions told plainly: one text out of several. -/
import Derived.Test.YtmeglfoapdkhdaaVS0
import Derived.Test.YtmeglfoapdkhdaaVSM
/- Nets of bits and lists of edges: plain facts. -/
set_option linter.unusedVariables false
set_option linter.unusedSimpArgs false
namespace Go.V.W

/-! ### bits -/
theorem wrap_nat {m : Nat} (h : m < 9223372036854775808) : IntKind.wrap .i64 (m : Int) = (m : Int) := Go.IntWalk.i64_in _ (by omega)
theorem ofInt_nat (m : Nat) : BitVec.ofInt 64 (m : Int) = BitVec.ofNat 64 m := by simp
theorem bits_or {a b : Nat} (ha : a < 256) (hb : b < 256) : bits .or .i64 (a : Int) (b : Int) = ((a ||| b : Nat) : Int) := by
  have hab : a ||| b < 256 := Nat.or_lt_two_pow (n := 8) ha hb
  have e : (BitVec.ofInt IntKind.i64.bits (a : Int) ||| BitVec.ofInt IntKind.i64.bits (b : Int)).toNat = a ||| b := by
    show (BitVec.ofInt 64 (a : Int) ||| BitVec.ofInt 64 (b : Int)).toNat = a ||| b
    rw [ofInt_nat, ofInt_nat, BitVec.toNat_or, BitVec.toNat_ofNat, BitVec.toNat_ofNat, Nat.mod_eq_of_lt (by omega), Nat.mod_eq_of_lt (by omega)]
  unfold bits bitI
  simp only [Option.getD_some]
  rw [e]
  exact wrap_nat (by omega)
theorem bits_and {a b : Nat} (ha : a < 256) (hb : b < 256) : bits .and .i64 (a : Int) (b : Int) = ((a &&& b : Nat) : Int) := by
  have hab : a &&& b ≤ a := Nat.and_le_left
  have e : (BitVec.ofInt IntKind.i64.bits (a : Int) &&& BitVec.ofInt IntKind.i64.bits (b : Int)).toNat = a &&& b := by
    show (BitVec.ofInt 64 (a : Int) &&& BitVec.ofInt 64 (b : Int)).toNat = a &&& b
    rw [ofInt_nat, ofInt_nat, BitVec.toNat_and, BitVec.toNat_ofNat, BitVec.toNat_ofNat, Nat.mod_eq_of_lt (by omega), Nat.mod_eq_of_lt (by omega)]
  unfold bits bitI
  simp only [Option.getD_some]
  rw [e]
  exact wrap_nat (by omega)
theorem shl_one {y : Nat} (h : y < 8) : shl .i64 1 (y : Int) = ((2 ^ y : Nat) : Int) := by
  have : y = 0 ∨ y = 1 ∨ y = 2 ∨ y = 3 ∨ y = 4 ∨ y = 5 ∨ y = 6 ∨ y = 7 := by omega
  rcases this with rfl | rfl | rfl | rfl | rfl | rfl | rfl | rfl <;> decide
theorem pow_small {y : Nat} (h : y < 8) : 2 ^ y < 256 := by
  have : y = 0 ∨ y = 1 ∨ y = 2 ∨ y = 3 ∨ y = 4 ∨ y = 5 ∨ y = 6 ∨ y = 7 := by omega
  rcases this with rfl | rfl | rfl | rfl | rfl | rfl | rfl | rfl <;> decide
theorem shr_nat {m y : Nat} (h : y < 8) : shr .i64 (m : Int) (y : Int) = ((m >>> y : Nat) : Int) := by
  unfold shr
  have e : min (y : Int).toNat IntKind.i64.bits = y := by
    show min (y : Int).toNat 64 = y
    rw [Int.toNat_natCast]
    omega
  rw [e, Nat.shiftRight_eq_div_pow, Int.fdiv_eq_ediv_of_nonneg _ (by
    have := Nat.two_pow_pos y
    exact_mod_cast Nat.zero_le (2 ^ y))]
  norm_cast
theorem has_bit {m y : Nat} (hm : m < 256) (h : y < 8) : (bits .and .i64 (shr .i64 (m : Int) (y : Int)) 1 == (1 : Int)) = m.testBit y := by
  have h1 : m >>> y < 256 := by
    rw [Nat.shiftRight_eq_div_pow]
    exact Nat.lt_of_le_of_lt (Nat.div_le_self _ _) hm
  rw [shr_nat h]
  have := bits_and h1 (show 1 < 256 by omega)
  rw [show ((1 : Nat) : Int) = 1 from rfl] at this
  rw [this, Nat.testBit_eq_decide_div_mod_eq, Nat.shiftRight_eq_div_pow, Nat.and_one_is_mod]
  have : m / 2 ^ y % 2 = 0 ∨ m / 2 ^ y % 2 = 1 := by omega
  rcases this with h | h <;> simp [h]

/-! ### nets -/
def okN (n : Nat) (ms : List Nat) : Prop := ms.length = n ∧ ∀ x, ms.getD x 0 < 256
theorem okN_zero (n : Nat) : okN n (List.replicate n 0) := by
  refine ⟨by simp, fun x => ?_⟩
  simp only [List.getD_eq_getElem?_getD, List.getElem?_replicate]
  split <;> simp
theorem getD_set (ms : List Nat) (a x v : Nat) (h : a < ms.length) : (ms.set a v).getD x 0 = if x = a then v else ms.getD x 0 := by
  simp only [List.getD_eq_getElem?_getD, List.getElem?_set]
  by_cases e : x = a
  · subst e; simp [h]
  · simp [e, Ne.symm e]
theorem orN_ok {n : Nat} {ms : List Nat} (h : okN n ms) {a b : Nat} (ha : a < n) (hb : b < 8) : okN n (orN ms a b) := by
  refine ⟨by simp [orN, h.1], fun x => ?_⟩
  unfold orN
  rw [getD_set _ _ _ _ (by rw [h.1]; exact ha)]
  split
  · exact Nat.or_lt_two_pow (n := 8) (h.2 a) (pow_small hb)
  · exact h.2 x
theorem orN_bit {n : Nat} {ms : List Nat} (h : okN n ms) {a b : Nat} (ha : a < n) (x y : Nat) : ((orN ms a b).getD x 0).testBit y = ((ms.getD x 0).testBit y || (decide (x = a) && decide (y = b))) := by
  unfold orN
  rw [getD_set _ _ _ _ (by rw [h.1]; exact ha)]
  by_cases e : x = a
  · subst e
    simp only [if_true, Nat.testBit_or, Nat.testBit_two_pow, decide_true, Bool.true_and]
    congr 1
    by_cases e : y = b
    · simp [e]
    · simp [e, Ne.symm e]
  · simp [e]
/-- An edge of n nodes. -/
theorem edgeB_nat {n : Nat} {e : E} (h : edgeB (n : Int) e = true) : e.1.toNat < e.2.1.toNat ∧ e.2.1.toNat < n ∧ e.1 = (e.1.toNat : Int) ∧ e.2.1 = (e.2.1.toNat : Int) := by
  unfold edgeB at h
  simp only [Bool.and_eq_true, decide_eq_true_eq] at h
  omega
theorem addN_ok {n : Nat} {ms : List Nat} (hn : n ≤ 8) (h : okN n ms) {e : E} (he : edgeB (n : Int) e = true) : okN n (addN ms e) := by
  obtain ⟨h1, h2, _, _⟩ := edgeB_nat he
  exact orN_ok (orN_ok h (by omega) (by omega)) h2 (by omega)
def isE (e : E) (x y : Nat) : Bool := (decide (x = e.1.toNat) && decide (y = e.2.1.toNat)) || (decide (x = e.2.1.toNat) && decide (y = e.1.toNat))
theorem foldN_ok {n : Nat} (hn : n ≤ 8) : ∀ (es : List E) (ms : List Nat), okN n ms → es.all (edgeB (n : Int)) = true → okN n (es.foldl addN ms) ∧ ∀ x y, ((es.foldl addN ms).getD x 0).testBit y = ((ms.getD x 0).testBit y || es.any (fun e => isE e x y)) := by
  intro es
  induction es with
  | nil => intro ms h _; exact ⟨h, fun x y => by simp⟩
  | cons e es ih =>
    intro ms h he
    simp only [List.all_cons, Bool.and_eq_true] at he
    obtain ⟨h1, h2, _, _⟩ := edgeB_nat he.1
    obtain ⟨k1, k2⟩ := ih (addN ms e) (addN_ok hn h he.1) he.2
    refine ⟨k1, fun x y => ?_⟩
    rw [List.foldl_cons, k2 x y]
    unfold addN
    rw [orN_bit (orN_ok h (show e.1.toNat < n by omega) (by omega)) h2, orN_bit h (show e.1.toNat < n by omega)]
    simp only [List.any_cons, isE, Bool.or_assoc]
theorem netN_ok {n : Nat} (hn : n ≤ 8) {es : List E} (h : es.all (edgeB (n : Int)) = true) : okN n (netN n es) := (foldN_ok hn es _ (okN_zero n) h).1
theorem netN_bit {n : Nat} (hn : n ≤ 8) {es : List E} (h : es.all (edgeB (n : Int)) = true) (x y : Nat) : hasN (netN n es) x y = es.any (fun e => isE e x y) := by
  unfold hasN netN
  rw [(foldN_ok hn es _ (okN_zero n) h).2 x y]
  have : ((List.replicate n 0).getD x 0).testBit y = false := by
    simp only [List.getD_eq_getElem?_getD, List.getElem?_replicate]
    split <;> simp
  rw [this, Bool.false_or]

/-! ### lists in order -/
theorem lessE_trans {a b c : E} (h1 : lessE a b = true) (h2 : lessE b c = true) : lessE a c = true := by
  simp only [lessE, Bool.or_eq_true, Bool.and_eq_true, decide_eq_true_eq] at h1 h2 ⊢
  omega
theorem lessE_irr (a : E) : lessE a a = false := by simp [lessE]
theorem rising_pair : ∀ {l : List E}, risingE l = true → l.Pairwise fun a b => lessE a b = true := by
  intro l
  induction l with
  | nil => intro _; exact .nil
  | cons a l ih =>
    intro h
    cases l with
    | nil => simp
    | cons b l =>
      simp only [risingE, Bool.and_eq_true] at h
      have := ih h.2
      rw [List.pairwise_cons] at this ⊢
      refine ⟨fun c hc => ?_, by rw [List.pairwise_cons]; exact this⟩
      rcases List.mem_cons.1 hc with rfl | hc
      · exact h.1
      · exact lessE_trans h.1 (this.1 c hc)
theorem sorted_ext : ∀ {l m : List E}, (l.Pairwise fun a b => lessE a b = true) → (m.Pairwise fun a b => lessE a b = true) → (∀ x, x ∈ l ↔ x ∈ m) → l = m := by
  intro l
  induction l with
  | nil =>
    intro m _ _ h
    cases m with
    | nil => rfl
    | cons b m => exact absurd ((h b).2 (by simp)) (by simp)
  | cons a l ih =>
    intro m hl hm h
    cases m with
    | nil => exact absurd ((h a).1 (by simp)) (by simp)
    | cons b m =>
      rw [List.pairwise_cons] at hl hm
      have e : a = b := by
        rcases List.mem_cons.1 ((h a).1 (by simp)) with e | ha
        · exact e
        rcases List.mem_cons.1 ((h b).2 (by simp)) with e | hb
        · exact e.symm
        have := lessE_trans (hl.1 b hb) (hm.1 a ha)
        rw [lessE_irr] at this
        cases this
      subst e
      congr 1
      refine ih hl.2 hm.2 fun x => ⟨fun hx => ?_, fun hx => ?_⟩
      · rcases List.mem_cons.1 ((h x).1 (by simp [hx])) with e | hx'
        · subst e
          have := hl.1 x hx
          rw [lessE_irr] at this
          cases this
        · exact hx'
      · rcases List.mem_cons.1 ((h x).2 (by simp [hx])) with e | hx'
        · subst e
          have := hm.1 x hx
          rw [lessE_irr] at this
          cases this
        · exact hx'
theorem rowE_mem {p : Nat → Nat → Bool} {x : Nat} : ∀ {m y : Nat} {e : E}, e ∈ rowE p x m y ↔ ∃ z, y ≤ z ∧ z < y + m ∧ p x z = true ∧ e = ((x : Int), (z : Int), ()) := by
  intro m
  induction m with
  | zero => intro y e; simp only [rowE, List.not_mem_nil, false_iff]; rintro ⟨z, h1, h2, _⟩; omega
  | succ m ih =>
    intro y e
    unfold rowE
    by_cases h : p x y = true
    · simp only [h, if_true, List.mem_cons, ih]
      constructor
      · rintro (rfl | ⟨z, h1, h2, h3, h4⟩)
        · exact ⟨y, Nat.le_refl _, by omega, h, rfl⟩
        · exact ⟨z, by omega, by omega, h3, h4⟩
      · rintro ⟨z, h1, h2, h3, h4⟩
        by_cases e : z = y
        · subst e; exact .inl h4
        · exact .inr ⟨z, by omega, by omega, h3, h4⟩
    · rw [if_neg h, ih]
      constructor
      · rintro ⟨z, h1, h2, h3, h4⟩
        exact ⟨z, by omega, by omega, h3, h4⟩
      · rintro ⟨z, h1, h2, h3, h4⟩
        by_cases e : z = y
        · subst e; exact absurd h3 h
        · exact ⟨z, by omega, by omega, h3, h4⟩
theorem rowE_pair {p : Nat → Nat → Bool} {x : Nat} : ∀ {m y : Nat}, (rowE p x m y).Pairwise fun a b => lessE a b = true := by
  intro m
  induction m with
  | zero => intro y; exact .nil
  | succ m ih =>
    intro y
    unfold rowE
    split
    · rw [List.pairwise_cons]
      refine ⟨fun b hb => ?_, ih⟩
      obtain ⟨z, h1, h2, h3, rfl⟩ := rowE_mem.1 hb
      simp [lessE]
      omega
    · exact ih
theorem allE_mem {p : Nat → Nat → Bool} {n : Nat} : ∀ {m x : Nat} {e : E}, e ∈ allE p n m x ↔ ∃ u z, x ≤ u ∧ u < x + m ∧ u < z ∧ z < n ∧ p u z = true ∧ e = ((u : Int), (z : Int), ()) := by
  intro m
  induction m with
  | zero => intro x e; simp only [allE, List.not_mem_nil, false_iff]; rintro ⟨u, z, h1, h2, _⟩; omega
  | succ m ih =>
    intro x e
    simp only [allE, List.mem_append, rowE_mem, ih]
    constructor
    · rintro (⟨z, h1, h2, h3, h4⟩ | ⟨u, z, h1, h2, h3, h4, h5, h6⟩)
      · exact ⟨x, z, Nat.le_refl _, by omega, by omega, by omega, h3, h4⟩
      · exact ⟨u, z, by omega, by omega, h3, h4, h5, h6⟩
    · rintro ⟨u, z, h1, h2, h3, h4, h5, h6⟩
      by_cases e : u = x
      · subst e; exact .inl ⟨z, by omega, by omega, h5, h6⟩
      · exact .inr ⟨u, z, by omega, by omega, h3, h4, h5, h6⟩
theorem allE_pair {p : Nat → Nat → Bool} {n : Nat} : ∀ {m x : Nat}, (allE p n m x).Pairwise fun a b => lessE a b = true := by
  intro m
  induction m with
  | zero => intro x; exact .nil
  | succ m ih =>
    intro x
    simp only [allE]
    rw [List.pairwise_append]
    refine ⟨rowE_pair, ih, fun a ha b hb => ?_⟩
    obtain ⟨z, _, _, _, rfl⟩ := rowE_mem.1 ha
    obtain ⟨u, z', h1, _, _, _, _, rfl⟩ := allE_mem.1 hb
    simp [lessE]
    omega
/-- The edges of a net are the edges that it was made of. -/
theorem allE_net {n : Nat} (hn : n ≤ 8) {es : List E} (h : es.all (edgeB (n : Int)) = true) (hp : es.Pairwise fun a b => lessE a b = true) : allE (hasN (netN n es)) n n 0 = es := by
  refine sorted_ext allE_pair hp fun e => ?_
  rw [allE_mem]
  constructor
  · rintro ⟨u, z, _, h2, h3, h4, h5, rfl⟩
    rw [netN_bit hn h] at h5
    obtain ⟨e, he, h6⟩ := List.any_eq_true.1 h5
    obtain ⟨k1, k2, k3, k4⟩ := edgeB_nat (List.all_eq_true.1 h e he)
    simp only [isE, Bool.or_eq_true, Bool.and_eq_true, decide_eq_true_eq] at h6
    rcases h6 with ⟨rfl, rfl⟩ | ⟨h6, h7⟩
    · rw [← k3, ← k4]
      exact he
    · omega
  · intro he
    obtain ⟨k1, k2, k3, k4⟩ := edgeB_nat (List.all_eq_true.1 h e he)
    refine ⟨e.1.toNat, e.2.1.toNat, Nat.zero_le _, by omega, k1, k2, ?_, by rw [← k3, ← k4]⟩
    rw [netN_bit hn h]
    exact List.any_eq_true.2 ⟨e, he, by simp [isE]⟩
theorem selE_sub : ∀ (es : List E) (ts : List (List Int)) (r : Int), (selE es ts r).Sublist es := by
  intro es
  induction es with
  | nil => intro ts r; cases ts <;> simp [selE]
  | cons e es ih =>
    intro ts r
    cases ts with
    | nil => simp [selE]
    | cons t ts =>
      simp only [selE]
      split
      · exact (ih ts r).cons_cons e
      · exact (ih ts r).cons e
theorem toI_from (ms : List Nat) : fromI (toI ms) = ms := by
  unfold fromI toI
  rw [List.map_map]
  exact List.map_id' _
theorem at_toI (ms : List Nat) (x : Nat) : at_ (.int .i64) (toI ms) x = ((ms.getD x 0 : Nat) : Int) := by
  unfold at_ toI
  simp only [List.getD_eq_getElem?_getD, List.getElem?_map]
  cases ms[x]? <;> rfl
theorem toI_set (ms : List Nat) (x v : Nat) : List.set (toI ms) x (v : Int) = toI (ms.set x v) := by
  simp [toI, List.map_set]
theorem toI_len (ms : List Nat) : (toI ms).length = ms.length := by simp [toI]
end Go.V.W

/- Nets, open edges and their graphs, told plainly; the law FnExactOpenGraph on plain data. -/
set_option linter.unusedVariables false
set_option linter.unusedSimpArgs false
namespace Go.V.W
open Go.Proofs

theorem edge_nat {n : Nat} {e : E} (h : edgeB (n : Int) e = true) : ∃ a b : Nat, a < b ∧ b < n ∧ e = ((a : Int), (b : Int), ()) := by
  obtain ⟨h1, h2, h3, h4⟩ := edgeB_nat h
  exact ⟨_, _, h1, h2, by rw [← h3, ← h4]⟩
theorem toI_zero (n : Nat) : List.replicate n (0 : Int) = toI (List.replicate n 0) := by simp [toI]
theorem nonneg_dec (y : Nat) : decide (0 ≤ (y : Int)) = true := by simp
theorem netOf_l0 (N : Nat) (n : Nat) (hn : n ≤ 8) (z : Nt) (u : Unit) (es : List E) (hl : es.length ≤ lim) (he : es.all (edgeB (n : Int)) = true) : ∀ k j (ms : List Nat), okN n ms → es.length ≤ j + k → j ≤ es.length →
    impl_netOf_l0 N (k + 1) (z, (toI ms, u), es, (es.length : Int), (j : Int), ()) = some (.inl (z, (toI ((es.drop j).foldl addN ms), u), ())) := by
  intro k
  induction k with
  | zero =>
    intro j ms hm h1 h2
    have e : j = es.length := by omega
    subst e
    rw [List.drop_of_length_le (Nat.le_refl _)]
    simp [impl_netOf_l0, impl_netOf_l0_r]
  | succ k ih =>
    intro j ms hm h1 h2
    by_cases hj : j < es.length
    · have hee : edgeB (n : Int) (at_ K_Piiq es j) = true := all_at_of (e := K_Piiq) he hj
      have hat : at_ K_Piiq es j = es[j] := at_get (e := K_Piiq) hj
      obtain ⟨a, b, hab, hb, hx⟩ := edge_nat hee
      have k1 := addN_ok hn hm hee
      have ha8 : a < 8 := by omega
      have hb8 : b < 8 := by omega
      have o1 := orN_ok hm (show a < n by omega) hb8
      show impl_netOf_l0_r N (impl_netOf_l0 N (k + 1)) (z, (toI ms, u), es, (es.length : Int), (j : Int), ()) = _
      unfold impl_netOf_l0_r
      have i1 : idxIn (a : Int) ms.length = true := idxIn_nat (by rw [hm.1]; omega)
      have i2 : idxIn (b : Int) ms.length = true := idxIn_nat (by rw [hm.1]; omega)
      have p1 := pow_small hb8
      have p2 := pow_small ha8
      simp only [lt_dec hj, if_true, idxIn_nat hj, Int.toNat_natCast, wrap_up hj (lim_max hl), hx, toI_len, i1, i2, nonneg_dec, shl_one hb8, shl_one ha8, at_toI, bits_or (hm.2 a) p1, toI_set, List.length_set]
      have hb2 : (ms.set a (ms.getD a 0 ||| 2 ^ b)).getD b 0 < 256 := o1.2 b
      simp only [bits_or hb2 p2, toI_set]
      rw [List.drop_eq_getElem_cons hj, List.foldl_cons, ← hat, hx]
      have hadd : addN ms ((a : Int), (b : Int), ()) = (ms.set a (ms.getD a 0 ||| 2 ^ b)).set b ((ms.set a (ms.getD a 0 ||| 2 ^ b)).getD b 0 ||| 2 ^ a) := by
        simp only [addN, orN, Int.toNat_natCast]
      rw [hx] at k1
      rw [hadd] at k1 ⊢
      exact ih (j + 1) _ k1 (by omega) (by omega)
    · have e : j = es.length := by omega
      subst e
      rw [List.drop_of_length_le (Nat.le_refl _)]
      simp [impl_netOf_l0, impl_netOf_l0_r]
theorem netOf_lim (d) (r) (h : G_netOf d = some r) : ∃ N, F_impl_netOf N d = some r := by
  obtain ⟨⟨n, es, u⟩, w⟩ := d
  unfold G_netOf at h
  split at h
  · rename_i hc
    simp only [Bool.and_eq_true, decide_eq_true_eq] at hc
    obtain ⟨⟨⟨h0, h8⟩, hl⟩, he⟩ := hc
    have h := Option.some.inj h
    subst h
    obtain ⟨m, rfl⟩ : ∃ m : Nat, n = (m : Int) := ⟨n.toNat, by omega⟩
    have hm8 : m ≤ 8 := by omega
    refine ⟨es.length + 1, ?_⟩
    unfold F_impl_netOf
    have hc : (decide (0 ≤ (m : Int)) && decide ((m : Int) ≤ (m : Int)) && decide ((m : Int) ≤ (lim : Int))) = true := by
      have a1 : (m : Int) ≤ (lim : Int) := by unfold lim; omega
      simp only [a1, nonneg_dec, decide_true, Bool.and_self, Int.le_refl]
    have := netOf_l0 (es.length + 1) m hm8 (([] : List Int), ()) () es (okL_lim hl) he es.length 0 _ (okN_zero m) (by omega) (by omega)
    simp only [Int.natCast_zero, List.drop_zero] at this
    simp only [hc, if_true, Int.toNat_natCast, toI_zero, this, Option.bind_some]
    rfl
  · cases h

/-! ### membership -/
theorem l1Has_lim (d) (r) (h : G_l1Has d = some r) : ∃ N, F_spec_l1Has N d = some r := by
  obtain ⟨l, x, _⟩ := d
  unfold G_l1Has at h
  split at h
  · rename_i hl
    have hl : l.length ≤ lim := okL_lim hl
    have h := Option.some.inj h
    subst h
    refine ⟨l.length + 1, ?_⟩
    unfold F_spec_l1Has
    have := loop_idx (L := spec_l1Has_l0 (l.length + 1)) (r := spec_l1Has_l0_r (l.length + 1)) (fun _ _ => rfl) (e := I) l (mk := fun i => (l, x, (i : Int), ())) (q := fun y => y == x) (o := fun _ => .inl (true, ())) (f := .inr (.inl ()))
      (by
        intro back i hi
        unfold spec_l1Has_l0_r
        simp only [lt_dec hi, if_true, idxIn_nat hi, Int.toNat_natCast, wrap_up hi (lim_max hl)])
      (by intro back; unfold spec_l1Has_l0_r; simp only [lt_not, Bool.false_eq_true, if_false]) l.length 0 (by omega) (by omega)
    simp only [Int.natCast_zero, List.drop_zero] at this
    have hge := idxI_ge (fun y => y == x) l 0
    simp only [this, Option.bind_some, ← hge]
    cases idxN (fun y => y == x) l 0 with
    | none => rfl
    | some j => simp [idxI]
  · cases h
theorem index_lim (d) (r) (h : G_index d = some r) : ∃ N, F_slices_Index_Sint_int N d = some r := by
  obtain ⟨l, x, _⟩ := d
  unfold G_index at h
  split at h
  · rename_i hl
    have hl : l.length ≤ lim := okL_lim hl
    have h := Option.some.inj h
    subst h
    refine ⟨l.length + 1, ?_⟩
    unfold F_slices_Index_Sint_int
    have := loop_idx (L := slices_Index_Sint_int_l0 (l.length + 1)) (r := slices_Index_Sint_int_l0_r (l.length + 1)) (fun _ _ => rfl) (e := I) l (mk := fun i => (l, x, (l.length : Int), (i : Int), ())) (q := fun y => x == y) (o := fun i => .inl ((i : Int), ())) (f := .inr (.inl ()))
      (by
        intro back i hi
        unfold slices_Index_Sint_int_l0_r
        simp only [lt_dec hi, if_true, idxIn_nat hi, Int.toNat_natCast, wrap_up hi (lim_max hl)])
      (by intro back; unfold slices_Index_Sint_int_l0_r; simp only [lt_not, Bool.false_eq_true, if_false]) l.length 0 (by omega) (by omega)
    simp only [Int.natCast_zero, List.drop_zero] at this
    simp only [this, Option.bind_some]
    cases idxN (fun y => x == y) l 0 <;> rfl
  · cases h
theorem contains_eq (l : List Int) (x : Int) (u : Unit) (h : okL l = true) : F_slices_Contains_Sint_int 0 (l, x, u) = some (l.any (fun y => y == x), ()) := by
  unfold F_slices_Contains_Sint_int G_index
  simp only [h, if_true, Option.bind_some, idxI_ge]
  congr 3
  funext y
  exact bool_eq_iff (by rw [beq_iff_eq, beq_iff_eq]; exact eq_comm)

/-! ### open edges -/
theorem timeB_parts {t : Tt} (h : timeB t = true) : graphB t.1 = true ∧ 0 < t.1.1 ∧ inB 1 4 t.2.1 = true ∧ t.2.2.1.length = t.1.2.1.length := by
  unfold timeB at h
  simp only [Bool.and_eq_true, decide_eq_true_eq] at h
  exact ⟨h.1.1.1.1, h.1.1.1.2, h.1.1.2, h.1.2⟩
theorem okT_parts {t : Tt} (h : okT t = true) : okL t.1.2.1 = true ∧ okL t.2.2.1 = true ∧ t.2.2.1.all okL = true := by
  unfold okT at h
  simp only [Bool.and_eq_true] at h
  exact ⟨h.1, okLL_of h.2⟩
theorem inB_iff {lo hi x : Int} : inB lo hi x = true ↔ lo ≤ x ∧ x ≤ hi := by simp [inB]
theorem sel_step {es : List E} {ts : List (List Int)} {r : Int} {i : Nat} (h1 : i < es.length) (h2 : i < ts.length) : selE (es.drop i) (ts.drop i) r = if (at_ K_Si ts i).any (fun y => y == r) = true then at_ K_Piiq es i :: selE (es.drop (i + 1)) (ts.drop (i + 1)) r else selE (es.drop (i + 1)) (ts.drop (i + 1)) r := by
  rw [List.drop_eq_getElem_cons h1, List.drop_eq_getElem_cons h2]
  simp only [selE]
  have e1 : at_ K_Si ts i = ts[i] := at_get (e := K_Si) h2
  have e2 : at_ K_Piiq es i = es[i] := at_get (e := K_Piiq) h1
  rw [e1, e2]
theorem l11Open_l0 (N : Nat) (t : Tt) (c : Int) (z : Gr) (n' : Int) (hL : t.1.2.1.length ≤ lim) (hT : t.2.2.1.length = t.1.2.1.length) (hA : t.2.2.1.all okL = true) (hp : t.2.1 ≠ 0) : ∀ k i (A : List E), A.length ≤ i → t.1.2.1.length ≤ i + k → i ≤ t.1.2.1.length →
    spec_l11Open_l0 N (k + 1) (c, t, z, (n', A, ()), (i : Int), ()) = some (.inl (z, (n', A ++ selE (t.1.2.1.drop i) (t.2.2.1.drop i) (c.tmod t.2.1), ()), ())) := by
  intro k
  induction k with
  | zero =>
    intro i A hA' h1 h2
    have e : i = t.1.2.1.length := by omega
    subst e
    rw [List.drop_of_length_le (Nat.le_refl _)]
    simp [spec_l11Open_l0, spec_l11Open_l0_r, selE]
  | succ k ih =>
    intro i A hA' h1 h2
    by_cases hi : i < t.1.2.1.length
    · have hi2 : i < t.2.2.1.length := by omega
      have hx : okL (at_ K_Si t.2.2.1 i) = true := all_at_of (e := K_Si) hA hi2
      have hp' : (t.2.1 != 0) = true := by simpa using hp
      show spec_l11Open_l0_r N (spec_l11Open_l0 N (k + 1)) (c, t, z, (n', A, ()), (i : Int), ()) = _
      unfold spec_l11Open_l0_r
      have hle : decide (A.length + List.length [at_ K_Piiq t.1.2.1 i] ≤ lim) = true := by simp; omega
      simp only [lt_dec hi, if_true, idxIn_nat hi, idxIn_nat hi2, Int.toNat_natCast, wrap_up hi (lim_max hL), hp', G_l1Has, hx, Option.bind_some, hle]
      rw [sel_step hi hi2]
      by_cases hh : (at_ K_Si t.2.2.1 i).any (fun y => y == c.tmod t.2.1) = true
      · rw [if_pos hh, if_pos hh, ih (i + 1) _ (by simp; omega) (by omega) (by omega)]
        simp
      · rw [if_neg hh, if_neg hh]
        exact ih (i + 1) A (by omega) (by omega) (by omega)
    · have e : i = t.1.2.1.length := by omega
      subst e
      rw [List.drop_of_length_le (Nat.le_refl _)]
      simp [spec_l11Open_l0, spec_l11Open_l0_r, selE]
theorem l11Open_lim (d) (r) (h : G_l11Open d = some r) : ∃ N, F_spec_l11Open N d = some r := by
  obtain ⟨t, c, _⟩ := d
  unfold G_l11Open at h
  split at h
  · rename_i hc
    simp only [Bool.and_eq_true, decide_eq_true_eq] at hc
    obtain ⟨⟨⟨h1, h2⟩, h3⟩, _⟩ := hc
    obtain ⟨g1, g2, g3, g4⟩ := timeB_parts h1
    obtain ⟨o1, o2, o3⟩ := okT_parts h2
    have g3 := inB_iff.1 g3
    have h := Option.some.inj h
    subst h
    refine ⟨t.1.2.1.length + 1, ?_⟩
    unfold F_spec_l11Open
    have := l11Open_l0 (t.1.2.1.length + 1) t c (0, [], ()) t.1.1 (okL_lim o1) g4 o3 (by omega) t.1.2.1.length 0 [] (by simp) (by omega) (by omega)
    simp only [Int.natCast_zero, List.drop_zero, List.nil_append] at this
    simp only [this, Option.bind_some]
    rfl
  · cases h

/-! ### nets that are open -/
theorem at_midN (pre : List Nt) (x : Nt) (post : List Nt) : at_ K_PSiq (pre ++ x :: post) pre.length = x := by
  rw [at_get (e := K_PSiq) (by simp)]
  simp
theorem set_midN (pre : List Nt) (x y : Nt) (post : List Nt) : List.set (pre ++ x :: post) pre.length y = pre ++ y :: post := by simp
theorem openNets_l2 (N : Nat) (t : Tt) (n : Nat) (hn : n ≤ 8) (pre post : List Nt) (u : Unit) (s11 s12 : Int) (hl : t.1.2.1.length ≤ lim) (hT : t.2.2.1.length = t.1.2.1.length) (hA : t.2.2.1.all okL = true) (he : t.1.2.1.all (edgeB (n : Int)) = true) : ∀ k j (ms : List Nat), okN n ms → t.1.2.1.length ≤ j + k → j ≤ t.1.2.1.length →
    impl_openNets_l2 N (k + 1) (t, pre ++ (toI ms, u) :: post, (pre.length : Int), s11, s12, t.1.2.1, (t.1.2.1.length : Int), (j : Int), ()) =
      some (.inl (t, pre ++ (toI ((selE (t.1.2.1.drop j) (t.2.2.1.drop j) (pre.length : Int)).foldl addN ms), u) :: post, s11, s12, ())) := by
  intro k
  induction k with
  | zero =>
    intro j ms hm h1 h2
    have e : j = t.1.2.1.length := by omega
    subst e
    rw [List.drop_of_length_le (Nat.le_refl _)]
    simp [impl_openNets_l2, impl_openNets_l2_r, selE]
  | succ k ih =>
    intro j ms hm h1 h2
    by_cases hj : j < t.1.2.1.length
    · have hj2 : j < t.2.2.1.length := by omega
      have hx : okL (at_ K_Si t.2.2.1 j) = true := all_at_of (e := K_Si) hA hj2
      have hee : edgeB (n : Int) (at_ K_Piiq t.1.2.1 j) = true := all_at_of (e := K_Piiq) he hj
      obtain ⟨a, b, hab, hb, hxe⟩ := edge_nat hee
      have k1 := addN_ok hn hm hee
      have ha8 : a < 8 := by omega
      have hb8 : b < 8 := by omega
      have o1 := orN_ok hm (show a < n by omega) hb8
      rw [sel_step hj hj2]
      show impl_openNets_l2_r N (impl_openNets_l2 N (k + 1)) (t, pre ++ (toI ms, u) :: post, (pre.length : Int), s11, s12, t.1.2.1, (t.1.2.1.length : Int), (j : Int), ()) = _
      unfold impl_openNets_l2_r
      simp only [lt_dec hj, if_true, idxIn_nat hj, idxIn_nat hj2, Int.toNat_natCast, wrap_up hj (lim_max hl), contains_eq _ _ _ hx, Option.bind_some]
      by_cases hh : (at_ K_Si t.2.2.1 j).any (fun y => y == (pre.length : Int)) = true
      · rw [if_pos hh, if_pos hh]
        have i0 : ∀ x : Nt, idxIn (pre.length : Int) (pre ++ x :: post).length = true := fun x => idxIn_nat (by simp)
        have i1 : idxIn (a : Int) ms.length = true := idxIn_nat (by rw [hm.1]; omega)
        have i2 : idxIn (b : Int) ms.length = true := idxIn_nat (by rw [hm.1]; omega)
        have p1 := pow_small hb8
        have p2 := pow_small ha8
        simp only [hxe, i0, if_true, Int.toNat_natCast, at_midN, set_midN, toI_len, i1, i2, nonneg_dec, shl_one hb8, shl_one ha8, at_toI, bits_or (hm.2 a) p1, toI_set, List.length_set]
        have hb2 : (ms.set a (ms.getD a 0 ||| 2 ^ b)).getD b 0 < 256 := o1.2 b
        simp only [bits_or hb2 p2, toI_set]
        rw [List.foldl_cons]
        have hadd : addN ms ((a : Int), (b : Int), ()) = (ms.set a (ms.getD a 0 ||| 2 ^ b)).set b ((ms.set a (ms.getD a 0 ||| 2 ^ b)).getD b 0 ||| 2 ^ a) := by
          simp only [addN, orN, Int.toNat_natCast]
        rw [hxe] at k1
        rw [hadd] at k1 ⊢
        exact ih (j + 1) _ k1 (by omega) (by omega)
      · rw [if_neg hh, if_neg hh]
        exact ih (j + 1) ms hm (by omega) (by omega)
    · have e : j = t.1.2.1.length := by omega
      subst e
      rw [List.drop_of_length_le (Nat.le_refl _)]
      simp [impl_openNets_l2, impl_openNets_l2_r, selE]
theorem graphB_edges {n : Int} {l : List E} {u : Unit} (h : graphB (n, l, u) = true) : l.all (edgeB n) = true ∧ risingE l = true := by
  unfold graphB at h
  simp only [Bool.and_eq_true] at h
  exact ⟨h.1.2, h.2⟩
theorem openNets_l0 (M : Nat) (t : Tt) (n : Nat) (hn : n ≤ 8) (hN : t.1.1 = (n : Int)) (hl : t.1.2.1.length ≤ lim) (hT : t.2.2.1.length = t.1.2.1.length) (hA : t.2.2.1.all okL = true) (he : t.1.2.1.all (edgeB (n : Int)) = true) (p : Nat) (hp : p ≤ 4) : ∀ k (pre : List Nt) (f : Nat), pre.length + k = p → k < f →
    impl_openNets_l0 (t.1.2.1.length + 1 + M) f (t, pre ++ List.replicate k ([], ()), (p : Int), (pre.length : Int), ()) = some (.inl (pre ++ (List.range' pre.length k).map (fun r : Nat => ((toI (netN n (openE t (r : Int))), ()) : Nt)), ())) := by
  intro k
  induction k with
  | zero =>
    intro pre f h hf
    have e : p = pre.length := by omega
    subst e
    obtain ⟨f, rfl⟩ : ∃ m, f = m + 1 := ⟨f - 1, by omega⟩
    simp [impl_openNets_l0, impl_openNets_l0_r]
  | succ k ih =>
    intro pre f h hf
    have hlt : pre.length < p := by omega
    obtain ⟨f, rfl⟩ : ∃ m, f = m + 1 := ⟨f - 1, by omega⟩
    show impl_openNets_l0_r (t.1.2.1.length + 1 + M) (impl_openNets_l0 (t.1.2.1.length + 1 + M) f) (t, pre ++ List.replicate (k + 1) ([], ()), (p : Int), (pre.length : Int), ()) = _
    unfold impl_openNets_l0_r
    have hg : G_netOf ((t.1.1, ([] : List E), ()), ()) = some ((toI (List.replicate n 0), ()), ()) := by
      unfold G_netOf
      have : (decide (0 ≤ t.1.1) && decide (t.1.1 ≤ 8) && okL ([] : List E) && List.all ([] : List E) (edgeB t.1.1)) = true := by
        rw [okL_nil, hN]
        simp
        omega
      rw [if_pos this, hN]
      rfl
    have i0 : idxIn (pre.length : Int) (pre ++ ([], ()) :: List.replicate k (([], ()) : Nt)).length = true := idxIn_nat (by simp)
    have hw : IntKind.wrap .i64 ((pre.length : Int) + 1) = ((pre.length + 1 : Nat) : Int) := by
      rw [wrap_in _ (by omega) (by omega)]
      rfl
    have hin := openNets_l2 (t.1.2.1.length + 1 + M) t n hn pre (List.replicate k ([], ())) () (p : Int) (pre.length : Int) hl hT hA he (t.1.2.1.length + M) 0 _ (okN_zero n) (by omega) (by omega)
    have hf : t.1.2.1.length + M + 1 = t.1.2.1.length + 1 + M := by omega
    rw [hf] at hin
    simp only [Int.natCast_zero, List.drop_zero] at hin
    have hd : decide ((pre.length : Int) < (p : Int)) = true := by simp; omega
    simp only [List.replicate_succ, hd, if_true, hg, Option.bind_some, i0, Int.toNat_natCast, set_midN, hin, hw]
    have := ih (pre ++ [((toI (netN n (openE t (pre.length : Int))), ()) : Nt)]) f (by simp; omega) (by omega)
    simp only [List.length_append, List.length_singleton, List.append_assoc, List.singleton_append] at this
    rw [List.range'_succ, List.map_cons]
    exact this
theorem openNets_lim (d) (r) (h : G_openNets d = some r) : ∃ N, F_impl_openNets N d = some r := by
  obtain ⟨t, _⟩ := d
  unfold G_openNets at h
  split at h
  · rename_i hc
    simp only [Bool.and_eq_true] at hc
    obtain ⟨h1, h2⟩ := hc
    obtain ⟨g1, g2, g3, g4⟩ := timeB_parts h1
    obtain ⟨o1, o2, o3⟩ := okT_parts h2
    have g3 := inB_iff.1 g3
    have hn := graphB_n (n := t.1.1) (l := t.1.2.1) (u := t.1.2.2) g1
    have hE := (graphB_edges (n := t.1.1) (l := t.1.2.1) (u := t.1.2.2) g1).1
    have h := Option.some.inj h
    subst h
    have hN : t.1.1 = (t.1.1.toNat : Int) := by omega
    have hP : t.2.1 = (t.2.1.toNat : Int) := by omega
    refine ⟨t.1.2.1.length + 1 + (t.2.1.toNat + 1), ?_⟩
    unfold F_impl_openNets
    have hcc : (decide (0 ≤ t.2.1) && decide (t.2.1 ≤ t.2.1) && decide (t.2.1 ≤ (lim : Int))) = true := by
      have a1 : t.2.1 ≤ (lim : Int) := by unfold lim; omega
      have a2 : 0 ≤ t.2.1 := by omega
      simp only [a1, a2, decide_true, Bool.and_self, Int.le_refl]
    rw [hN] at hE
    have key := openNets_l0 (t.2.1.toNat + 1) t t.1.1.toNat (by omega) hN (okL_lim o1) g4 o3 hE t.2.1.toNat (by omega) t.2.1.toNat [] (t.1.2.1.length + 1 + (t.2.1.toNat + 1)) (by simp) (by omega)
    simp only [List.nil_append, List.length_nil, Int.natCast_zero] at key
    have hlen : (List.replicate t.2.1.toNat (([] : List Int), ())).length = t.2.1.toNat := by simp
    simp only [hcc, if_true, hlen, key, Option.bind_some, netsL, List.range_eq_range']
  · cases h
end Go.V.W

/- The law FnExactOpenGraph on plain data. -/
set_option linter.unusedVariables false
set_option linter.unusedSimpArgs false
namespace Go.V.W
open Go.Proofs

theorem smallN_nat {l : List Int} (h : smallN l = true) : l = toI (fromI l) ∧ okN l.length (fromI l) ∧ l.length ≤ 8 := by
  unfold smallN at h
  simp only [Bool.and_eq_true, decide_eq_true_eq, List.all_eq_true] at h
  refine ⟨?_, ⟨by simp [fromI], fun x => ?_⟩, h.1⟩
  · unfold toI fromI
    rw [List.map_map]
    have : ∀ m ∈ l, ((fun m : Nat => (m : Int)) ∘ Int.toNat) m = m := fun m hm => by
      have := h.2 m hm
      simp only [Function.comp]
      omega
    exact (List.map_congr_left this).trans (List.map_id' l) |>.symm
  · unfold fromI
    simp only [List.getD_eq_getElem?_getD, List.getElem?_map]
    cases hx : l[x]? with
    | none => simp
    | some m =>
      have := h.2 m (List.mem_of_getElem? hx)
      simp only [Option.map_some, Option.getD_some]
      omega
theorem hasV (ms : List Nat) (n : Nat) (hm : okN n ms) (hn : n ≤ 8) (u v w z : Unit) (x y : Nat) (hx : x < n) (hy : y < n) : FV_impl_net_has ((x : Int), (y : Int), (((toI ms, u), v), w), z) = some (hasN ms x y, ()) := by
  unfold FV_impl_net_has F_impl_net_has
  have i1 : idxIn (x : Int) ms.length = true := idxIn_nat (by rw [hm.1]; exact hx)
  simp only [toI_len, i1, if_true, nonneg_dec, Int.toNat_natCast, at_toI, has_bit (hm.2 x) (show y < 8 by omega)]
  rfl
theorem rowE_len {p : Nat → Nat → Bool} {x : Nat} : ∀ {m y : Nat}, (rowE p x m y).length ≤ m := by
  intro m
  induction m with
  | zero => intro y; simp [rowE]
  | succ m ih =>
    intro y
    unfold rowE
    split
    · have := ih (y := y + 1); simp; omega
    · have := ih (y := y + 1); omega
theorem graphBy_l2 (N : Nat) (ms : List Nat) (n : Nat) (hm : okN n ms) (hn : n ≤ 8) (u v w : Unit) (z : Gr) (n' : Int) (x : Nat) (hx : x < n) (s10 s11 : Int) : ∀ k y f (A : List E), y + k = n → k < f → A.length + k ≤ 1000 →
    impl_graphBy_f135_l2 N f ((n : Int), (((toI ms, u), v), w), z, (n', A, ()), (x : Int), (y : Int), s10, s11, ()) = some (.inl ((n : Int), (((toI ms, u), v), w), z, (n', A ++ rowE (hasN ms) x k y, ()), s10, s11, ())) := by
  intro k
  induction k with
  | zero =>
    intro y f A h1 h2 h3
    obtain ⟨f, rfl⟩ : ∃ m, f = m + 1 := ⟨f - 1, by omega⟩
    have e : y = n := by omega
    subst e
    simp [impl_graphBy_f135_l2, impl_graphBy_f135_l2_r, rowE]
  | succ k ih =>
    intro y f A h1 h2 h3
    obtain ⟨f, rfl⟩ : ∃ m, f = m + 1 := ⟨f - 1, by omega⟩
    have hy : y < n := by omega
    show impl_graphBy_f135_l2_r N (impl_graphBy_f135_l2 N f) ((n : Int), (((toI ms, u), v), w), z, (n', A, ()), (x : Int), (y : Int), s10, s11, ()) = _
    unfold impl_graphBy_f135_l2_r
    have hw : IntKind.wrap .i64 ((y : Int) + 1) = ((y + 1 : Nat) : Int) := by
      rw [wrap_in _ (by omega) (by omega)]
      rfl
    have hle : decide (A.length + List.length [(((x : Int), (y : Int), ()) : E)] ≤ lim) = true := by
      unfold lim
      simp
      omega
    simp only [lt_dec hy, if_true, hasV ms n hm hn u v w () x y hx hy, Option.bind_some, hle, hw]
    unfold rowE
    by_cases hh : hasN ms x y = true
    · rw [if_pos hh, if_pos hh, ih (y + 1) f _ (by omega) (by omega) (by simp; omega)]
      simp
    · rw [if_neg hh, if_neg hh]
      exact ih (y + 1) f A (by omega) (by omega) (by omega)
theorem graphBy_l0 (N : Nat) (hN : 9 ≤ N) (ms : List Nat) (n : Nat) (hm : okN n ms) (hn : n ≤ 8) (u v w : Unit) (z : Gr) (n' : Int) : ∀ k x f (A : List E), x + k = n → k < f → A.length + 10 * k ≤ 900 →
    impl_graphBy_f135_l0 N f ((n : Int), (((toI ms, u), v), w), z, (n', A, ()), (n : Int), (x : Int), ()) = some (.inl (z, (n', A ++ allE (hasN ms) n k x, ()), ())) := by
  intro k
  induction k with
  | zero =>
    intro x f A h1 h2 h3
    obtain ⟨f, rfl⟩ : ∃ m, f = m + 1 := ⟨f - 1, by omega⟩
    have e : x = n := by omega
    subst e
    simp [impl_graphBy_f135_l0, impl_graphBy_f135_l0_r, allE]
  | succ k ih =>
    intro x f A h1 h2 h3
    obtain ⟨f, rfl⟩ : ∃ m, f = m + 1 := ⟨f - 1, by omega⟩
    have hx : x < n := by omega
    show impl_graphBy_f135_l0_r N (impl_graphBy_f135_l0 N f) ((n : Int), (((toI ms, u), v), w), z, (n', A, ()), (n : Int), (x : Int), ()) = _
    unfold impl_graphBy_f135_l0_r
    have hw : IntKind.wrap .i64 ((x : Int) + 1) = ((x + 1 : Nat) : Int) := by
      rw [wrap_in _ (by omega) (by omega)]
      rfl
    have hin := graphBy_l2 N ms n hm hn u v w z n' x hx (n : Int) (x : Int) (n - (x + 1)) (x + 1) N A (by omega) (by omega) (by omega)
    simp only [lt_dec hx, if_true, hw, hin, Option.bind_some]
    have := rowE_len (p := hasN ms) (x := x) (m := n - (x + 1)) (y := x + 1)
    rw [ih (x + 1) f _ (by omega) (by omega) (by simp; omega)]
    simp [allE]
theorem graphBy135_lim (d) (r) (h : G_graphBy135 d = some r) : ∃ N, F_impl_graphBy_f135 N d = some r := by
  obtain ⟨n', ⟨⟨⟨l, u⟩, v⟩, w⟩, q⟩ := d
  unfold G_graphBy135 at h
  split at h
  · rename_i hc
    simp only [Bool.and_eq_true, decide_eq_true_eq] at hc
    obtain ⟨h1, h2⟩ := hc
    obtain ⟨e, hm, h8⟩ := smallN_nat h1
    have h := Option.some.inj h
    subst h
    have h2 : n' = (l.length : Int) := h2
    subst h2
    refine ⟨20, ?_⟩
    unfold F_impl_graphBy_f135
    have := graphBy_l0 20 (by omega) (fromI l) l.length hm h8 u v w (0, [], ()) (l.length : Int) l.length 0 20 [] (by omega) (by omega) (by simp; omega)
    rw [← e] at this
    simp only [Int.natCast_zero, List.nil_append] at this
    simp only [this, Option.bind_some, Int.toNat_natCast]
  · cases h

/-! ### the law -/
def ogB (t : Tt) (c : Int) : Gr × Bool × Unit := if (timeB t && inB 0 1000 c) = true then ((t.1.1, openE t (c.tmod t.2.1), ()), true, ()) else ((0, [], ()), false, ())
theorem clock_spec (c : Int) (u : Unit) : g_spec_l11Clock (c, u) = (inB 0 1000 c, ()) := by
  unfold g_spec_l11Clock
  simp only [l1In_eq]
theorem clock_impl (c : Int) (u : Unit) : g_impl_isClock (c, u) = (inB 0 1000 c, ()) := by
  unfold g_impl_isClock
  simp only [within_eq]
theorem specOG (t : Tt) (c : Int) (w : Unit) (h : okT t = true) : F_spec_OpenGraph 0 (t, c, w) = some (ogB t c) := by
  unfold F_spec_OpenGraph G_l11Good ogB
  simp only [h, if_true, Option.bind_some, clock_spec]
  cases ht : timeB t with
  | false => rfl
  | true =>
    cases hc : inB 0 1000 c with
    | false => rfl
    | true =>
      have := inB_iff.1 hc
      have e1 : decide (0 ≤ c) = true := by simp; omega
      have e2 : decide (c ≤ 5000) = true := by simp; omega
      simp only [G_l11Open, ht, h, e1, e2, Bool.and_self, Bool.not_true, Bool.false_eq_true, if_false, if_true, Option.bind_some]
theorem openE_ok {t : Tt} {n : Nat} (h1 : t.1.2.1.all (edgeB (n : Int)) = true) (h2 : risingE t.1.2.1 = true) (r : Int) : (openE t r).all (edgeB (n : Int)) = true ∧ ((openE t r).Pairwise fun a b => lessE a b = true) := by
  have hs := selE_sub t.1.2.1 t.2.2.1 r
  refine ⟨List.all_eq_true.2 fun e he => List.all_eq_true.1 h1 e (hs.mem he), (rising_pair h2).sublist hs⟩
theorem tmod_lt {c p : Int} (hc : 0 ≤ c) (hp : 0 < p) : 0 ≤ c.tmod p ∧ c.tmod p < p := by
  rw [Int.tmod_eq_emod_of_nonneg hc]
  exact ⟨Int.emod_nonneg _ (by omega), Int.emod_lt_of_pos _ hp⟩
theorem implOG (t : Tt) (c : Int) (w : Unit) (h : okT t = true) : F_impl_OpenGraph 0 (t, c, w) = some (ogB t c) := by
  unfold F_impl_OpenGraph ogB
  simp only [implT t _ h, Option.bind_some, clock_impl]
  cases ht : timeB t with
  | false => rfl
  | true =>
    cases hc : inB 0 1000 c with
    | false => rfl
    | true =>
      obtain ⟨g1, g2, g3, g4⟩ := timeB_parts ht
      have g3 := inB_iff.1 g3
      have hcc := inB_iff.1 hc
      have hn := graphB_n (n := t.1.1) (l := t.1.2.1) (u := t.1.2.2) g1
      obtain ⟨hE, hR⟩ := graphB_edges (n := t.1.1) (l := t.1.2.1) (u := t.1.2.2) g1
      have hN : t.1.1 = (t.1.1.toNat : Int) := by omega
      rw [hN] at hE
      obtain ⟨m1, m2⟩ := tmod_lt (c := c) (p := t.2.1) (by omega) (by omega)
      obtain ⟨o1, o2⟩ := openE_ok hE hR (c.tmod t.2.1)
      have hp : (t.2.1 != 0) = true := by simp; omega
      have hlen : (netsL t).length = t.2.1.toNat := by simp [netsL]
      have hi : idxIn (c.tmod t.2.1) (netsL t).length = true := by
        rw [hlen]
        unfold idxIn
        simp
        omega
      have hat : at_ K_PSiq (netsL t) (c.tmod t.2.1).toNat = (toI (netN t.1.1.toNat (openE t (c.tmod t.2.1))), ()) := by
        have hlt : (c.tmod t.2.1).toNat < (netsL t).length := by rw [hlen]; omega
        rw [at_get (e := K_PSiq) hlt]
        simp only [netsL, List.get_eq_getElem, List.getElem_map, List.getElem_range]
        rw [show (((c.tmod t.2.1).toNat : Nat) : Int) = c.tmod t.2.1 by omega]
      have hok := netN_ok (n := t.1.1.toNat) (by omega) o1
      have hG : F_impl_net_graph 0 ((toI (netN t.1.1.toNat (openE t (c.tmod t.2.1))), ()), ()) = some ((t.1.1, openE t (c.tmod t.2.1), ()), ()) := by
        unfold F_impl_net_graph g_impl_net_size G_graphBy135
        have hs : smallN (toI (netN t.1.1.toNat (openE t (c.tmod t.2.1)))) = true := by
          unfold smallN
          simp only [toI_len, hok.1, Bool.and_eq_true, decide_eq_true_eq, List.all_eq_true]
          refine ⟨by omega, fun m hm => ?_⟩
          unfold toI at hm
          obtain ⟨x, hx, rfl⟩ := List.mem_map.1 hm
          obtain ⟨i, hi, rfl⟩ := List.getElem_of_mem hx
          have := hok.2 i
          simp only [List.getD_eq_getElem?_getD, List.getElem?_eq_getElem hi, Option.getD_some] at this
          omega
        simp only [hs, decide_true, Bool.and_self, if_true, Option.bind_some, toI_len, hok.1, toI_from, Int.toNat_natCast, allE_net (show t.1.1.toNat ≤ 8 by omega) o1 o2]
        rw [← hN]
      have hO : G_openNets (t, ()) = some (netsL t, ()) := by
        unfold G_openNets
        rw [if_pos (by rw [ht, h]; rfl)]
      simp only [hO, hp, hi, hat, hG, Bool.not_true, Bool.false_eq_true, if_false, if_true, Option.bind_some, Bool.and_self]
theorem sumL_le : ∀ (l : List (List Int)), l.all (fun x => decide (x.length ≤ 1048576)) = true → sumL l ≤ 1048576 * l.length := by
  intro l
  induction l with
  | nil => intro _; simp [sumL]
  | cons x l ih =>
    intro h
    simp only [List.all_cons, Bool.and_eq_true, decide_eq_true_eq] at h
    have := ih h.2
    simp only [sumL, List.length_cons]
    omega
theorem selE_len (es : List E) (ts : List (List Int)) (r : Int) : (selE es ts r).length ≤ es.length := (selE_sub es ts r).length_le
theorem heldGraph_marked (n : Int) (l : List E) (v w : Unit) (k : Int) (hl : okL l = true) (hk : okK k = true) (hk2 : okK (k + 2 * (l.length : Int)) = true) : F_laws_heldGraph 0 ((n, markA k l, v), k, w) = some (k + 2 * (l.length : Int), ()) := by
  have h1 := okK_of hk2
  unfold F_laws_heldGraph G_heldIntA2S
  have c1 : decide (k + 2 * (l.length : Int) < 0) = false := by simp; omega
  simp only [markA_ok hl, hk, Bool.and_self, if_true, Option.bind_some, held_markA, c1, Bool.false_eq_true, if_false]
theorem law7 : ∀ d, WfD (Kd.tuple ([(K_PPiSPiiqqiSSiq, false), (I, false)].map (·.1))) d → ∃ out, F_laws_FnExactOpenGraph 0 d = some out ∧ (splitT [.bool] [] out).1.1 = true := by
  rintro ⟨⟨⟨n, es, v⟩, p, l, u⟩, c, w⟩ ⟨⟨⟨_, he, _⟩, _, hl, _⟩, _⟩
  have he : es.length ≤ maxLen := he.1
  have hl1 : l.length ≤ maxLen := hl.1
  have hl2 : ∀ x ∈ l, x.length ≤ maxLen := fun x hx => (hl.2 x hx).1
  refine ⟨(true, ()), ?_, rfl⟩
  unfold F_laws_FnExactOpenGraph
  obtain ⟨r, h1, h2⟩ := szTimetable_neg n es v p l u () he hl1 hl2
  simp only [h1, Option.bind_some]
  rcases h2 with h2 | ⟨h2, h3, h4⟩
  · simp only [h2, decide_true, if_true]
  · have g1 := okL_of h2
    have g2 := okLL_small h3 h4
    have g3 : okT ((n, es, v), p, l, ()) = true := by simp only [okT, g1, g2, Bool.and_self]
    have hs := sumL_le l h4
    have hs0 := sumL_nonneg l
    have hmt := markTimetable_eq n es v p l () () 1 g1 g2 (by decide) (okK_small (by omega) (by omega)) (okK_small (by omega) (by omega))
    have hk1 : decide ((1 : Int) + 2 * (es.length : Int) + sumL l < 0) = false := by simp; omega
    -- the result
    have hR : ∃ (n' : Int) (es' : List E), (ogB ((n, es, v), p, l, ()) c).1 = (n', es', ()) ∧ es'.length ≤ 1048576 := by
      unfold ogB
      split
      · exact ⟨_, _, rfl, Nat.le_trans (selE_len _ _ _) h2⟩
      · exact ⟨_, _, rfl, by simp⟩
    obtain ⟨n', es', e1, e2⟩ := hR
    have ho := okL_of e2
    have hk2 : decide ((1 : Int) + 2 * (es'.length : Int) < 0) = false := by simp; omega
    have hh := heldGraph_marked n' es' () () 1 ho (by decide) (okK_small (by omega) (by omega))
    simp only [toTimetable_eq n es v p l u _ g1 g2, specOG _ _ _ g3, implOG _ _ _ g3, e1, eqGraph_self n' es' () () _ ho, eqTimetable_self n es v p l () _ g1 g2, hmt, hk1, markGraph_eq n' es' () _ 1 ho (by decide), hh, hk2, Option.bind_some, beq_self_eq_true, bne_self_eq_false, Bool.not_true, Bool.false_eq_true, if_false]
    split <;> rfl
end Go.V.W

/- Sets of nodes as lists and as bits: plain facts. -/
set_option linter.unusedVariables false
set_option linter.unusedSimpArgs false
namespace Go.V.W

theorem setF_congr {p q : Nat → Bool} : ∀ {k x : Nat}, (∀ y, x ≤ y → y < x + k → p y = q y) → setF p k x = setF q k x := by
  intro k
  induction k with
  | zero => intro x _; rfl
  | succ k ih =>
    intro x h
    simp only [setF, h x (Nat.le_refl _) (by omega), ih (x := x + 1) fun y h1 h2 => h y (by omega) (by omega)]
theorem setF_mem {p : Nat → Bool} : ∀ {k x : Nat} {z : Int}, z ∈ setF p k x ↔ ∃ y : Nat, x ≤ y ∧ y < x + k ∧ p y = true ∧ z = (y : Int) := by
  intro k
  induction k with
  | zero => intro x z; simp only [setF, List.not_mem_nil, false_iff]; rintro ⟨y, h1, h2, _⟩; omega
  | succ k ih =>
    intro x z
    unfold setF
    by_cases h : p x = true
    · rw [if_pos h, List.mem_cons, ih]
      constructor
      · rintro (rfl | ⟨y, h1, h2, h3, h4⟩)
        · exact ⟨x, Nat.le_refl _, by omega, h, rfl⟩
        · exact ⟨y, by omega, by omega, h3, h4⟩
      · rintro ⟨y, h1, h2, h3, h4⟩
        by_cases e : y = x
        · subst e; exact .inl h4
        · exact .inr ⟨y, by omega, by omega, h3, h4⟩
    · rw [if_neg h, ih]
      constructor
      · rintro ⟨y, h1, h2, h3, h4⟩
        exact ⟨y, by omega, by omega, h3, h4⟩
      · rintro ⟨y, h1, h2, h3, h4⟩
        by_cases e : y = x
        · subst e; exact absurd h3 h
        · exact ⟨y, by omega, by omega, h3, h4⟩
theorem setF_len {p : Nat → Bool} : ∀ {k x : Nat}, (setF p k x).length ≤ k := by
  intro k
  induction k with
  | zero => intro x; simp [setF]
  | succ k ih =>
    intro x
    unfold setF
    split
    · have := ih (x := x + 1); simp; omega
    · have := ih (x := x + 1); omega
theorem putL_low {p : Nat → Bool} {z : Nat} : ∀ {k y : Nat}, z < y → putL (z : Int) (setF p k y) = (z : Int) :: setF p k y := by
  intro k
  induction k with
  | zero => intro y _; rfl
  | succ k ih =>
    intro y h
    unfold setF
    split
    · have h1 : ¬ (y : Int) < (z : Int) := by omega
      have h2 : ¬ (y : Int) = (z : Int) := by omega
      simp only [putL, h1, h2, if_false]
    · exact ih (by omega)
theorem putL_set {p : Nat → Bool} {z : Nat} : ∀ {k x : Nat}, x ≤ z → z < x + k → putL (z : Int) (setF p k x) = setF (fun y => p y || decide (y = z)) k x := by
  intro k
  induction k with
  | zero => intro x h1 h2; omega
  | succ k ih =>
    intro x h1 h2
    by_cases e : x = z
    · subst e
      have hc : setF (fun y => p y || decide (y = x)) k (x + 1) = setF p k (x + 1) := setF_congr fun y h1 h2 => by
        have : ¬ y = x := by omega
        simp [this]
      by_cases hp : p x = true
      · simp only [setF, hp, if_true, decide_true, Bool.or_self, hc, putL]
        have : ¬ (x : Int) < (x : Int) := by omega
        simp only [this, if_false, if_true]
      · have hp' : p x = false := by simpa using hp
        simp only [setF, hp', Bool.false_eq_true, if_false, decide_true, Bool.or_true, if_true, hc]
        exact putL_low (by omega)
    · have hd : decide (x = z) = false := by simp [e]
      have hlt : (x : Int) < (z : Int) := by omega
      by_cases hp : p x = true
      · simp only [setF, hp, if_true, hd, Bool.or_false, putL, hlt, ih (x := x + 1) (by omega) (by omega)]
      · have hp' : p x = false := by simpa using hp
        simp only [setF, hp', hd, Bool.or_false, Bool.false_eq_true, if_false, ih (x := x + 1) (by omega) (by omega)]
theorem putAll_set {n : Nat} : ∀ (bs : List Int) (p : Nat → Bool), (∀ z ∈ bs, ∃ y : Nat, y < n ∧ z = (y : Int)) → putAll (setF p n 0) bs = setF (fun y => p y || bs.any (fun z => z == (y : Int))) n 0 := by
  intro bs
  induction bs with
  | nil => intro p _; exact setF_congr fun y _ _ => by simp
  | cons z bs ih =>
    intro p h
    obtain ⟨y0, h1, rfl⟩ := h z (by simp)
    show putAll (putL (y0 : Int) (setF p n 0)) bs = _
    rw [putL_set (Nat.zero_le _) (by omega), ih _ fun z hz => h z (by simp [hz])]
    refine setF_congr fun y _ _ => ?_
    simp only [List.any_cons, Bool.or_assoc]
    congr 2
    by_cases e : y = y0
    · simp [e]
    · have : ¬ (y0 : Int) = (y : Int) := by omega
      simp [e, this]
theorem any_setF {p : Nat → Bool} {n y : Nat} (hy : y < n) : (setF p n 0).any (fun z => z == (y : Int)) = p y := by
  apply Bool.eq_iff_iff.2
  rw [List.any_eq_true]
  constructor
  · rintro ⟨z, hz, h⟩
    obtain ⟨u, _, h2, h3, rfl⟩ := setF_mem.1 hz
    have : (u : Int) = (y : Int) := by simpa using h
    have : u = y := by omega
    subst this
    exact h3
  · intro h
    exact ⟨(y : Int), setF_mem.2 ⟨y, Nat.zero_le _, by omega, h, rfl⟩, by simp⟩
theorem ballL_set {n : Nat} {es : List E} {x : Nat} (hx : x < n) : ballL n es (x : Int) = setF (fun y => nearI es (x : Int) (y : Int) || decide (y = x)) n 0 := by
  unfold ballL
  exact putL_set (Nat.zero_le _) (by omega)
theorem setF_nat {p : Nat → Bool} {n : Nat} : ∀ z ∈ setF p n 0, ∃ y : Nat, y < n ∧ z = (y : Int) := by
  intro z hz
  obtain ⟨y, _, h2, _, h4⟩ := setF_mem.1 hz
  exact ⟨y, by omega, h4⟩
theorem reach_fold {n : Nat} {es : List E} : ∀ (set : List Int) (q : Nat → Bool), (∀ z ∈ set, ∃ y : Nat, y < n ∧ z = (y : Int)) →
    set.foldl (fun o x => putAll o (ballL n es x)) (setF q n 0) = setF (fun y => q y || set.any (fun z => nearI es z (y : Int) || z == (y : Int))) n 0 := by
  intro set
  induction set with
  | nil => intro q _; exact setF_congr fun y _ _ => by simp
  | cons z set ih =>
    intro q h
    obtain ⟨x, hx, rfl⟩ := h z (by simp)
    rw [List.foldl_cons, ballL_set hx, putAll_set _ _ setF_nat, ih _ fun z hz => h z (by simp [hz])]
    refine setF_congr fun y _ hy => ?_
    rw [any_setF (by omega)]
    simp only [List.any_cons, Bool.or_assoc]
    congr 2
    by_cases e : y = x
    · simp [e]
    · have : ¬ (x : Int) = (y : Int) := by omega
      simp [e, this]
theorem setF_empty {n x : Nat} : setF (fun _ => false) n x = [] := by
  induction n generalizing x with
  | zero => rfl
  | succ n ih => simp [setF, ih]
theorem reachL_set {n : Nat} {es : List E} (p : Nat → Bool) : reachL n es (setF p n 0) = setF (stepP es n p) n 0 := by
  unfold reachL
  have := reach_fold (n := n) (es := es) (setF p n 0) (fun _ => false) setF_nat
  rw [setF_empty] at this
  rw [this]
  refine setF_congr fun y _ hy => ?_
  unfold stepP
  apply Bool.eq_iff_iff.2
  simp only [Bool.false_or, List.any_eq_true, Bool.or_eq_true, Bool.and_eq_true, List.mem_range, beq_iff_eq]
  constructor
  · rintro ⟨z, hz, h⟩
    obtain ⟨u, _, h2, h3, rfl⟩ := setF_mem.1 hz
    rcases h with h | h
    · exact .inr ⟨u, by omega, h3, h⟩
    · have : u = y := by omega
      subst this
      exact .inl h3
  · rintro (h | ⟨u, h1, h2, h3⟩)
    · exact ⟨(y : Int), setF_mem.2 ⟨y, Nat.zero_le _, by omega, h, rfl⟩, .inr rfl⟩
    · exact ⟨(u : Int), setF_mem.2 ⟨u, Nat.zero_le _, by omega, h2, rfl⟩, .inl h3⟩
theorem setF_one {n x : Nat} (hx : x < n) : setF (fun y => decide ((y : Int) = (x : Int))) n 0 = [(x : Int)] := by
  have h := putL_set (p := fun _ => false) (z := x) (k := n) (x := 0) (Nat.zero_le _) (by omega)
  rw [setF_empty] at h
  rw [show putL (x : Int) [] = [(x : Int)] from rfl] at h
  rw [h]
  exact setF_congr fun y _ _ => by
    apply Bool.eq_iff_iff.2
    simp only [Bool.false_or, decide_eq_true_eq]
    omega

/-! ### bits -/
/-- Bits that stand for a set of nodes. -/
def isM (n : Nat) (m : Nat) (p : Nat → Bool) : Prop := m < 256 ∧ ∀ y, m.testBit y = (decide (y < n) && p y)
theorem arN_bit {n : Nat} {ms : List Nat} (hm : okN n ms) (s : Nat) : ∀ k x o, o < 256 → arN ms s k x o < 256 ∧ ∀ y, (arN ms s k x o).testBit y = (o.testBit y || (List.range' x k).any fun u => s.testBit u && (ms.getD u 0).testBit y) := by
  intro k
  induction k with
  | zero => intro x o h; exact ⟨h, fun y => by simp [arN]⟩
  | succ k ih =>
    intro x o h
    have ho : (if s.testBit x = true then o ||| ms.getD x 0 else o) < 256 := by
      split
      · exact Nat.or_lt_two_pow (n := 8) h (hm.2 x)
      · exact h
    obtain ⟨k1, k2⟩ := ih (x + 1) _ ho
    refine ⟨k1, fun y => ?_⟩
    show (arN ms s k (x + 1) (if s.testBit x = true then o ||| ms.getD x 0 else o)).testBit y = _
    rw [k2 y, List.range'_succ, List.any_cons, ← Bool.or_assoc]
    congr 1
    by_cases hs : s.testBit x = true
    · simp [hs]
    · simp [hs]
theorem isE_near (es : List E) {n : Nat} (h : es.all (edgeB (n : Int)) = true) (x y : Nat) : es.any (fun e => isE e x y) = nearI es (x : Int) (y : Int) := by
  unfold nearI
  apply Bool.eq_iff_iff.2
  simp only [List.any_eq_true, isE, Bool.or_eq_true, Bool.and_eq_true, decide_eq_true_eq, beq_iff_eq]
  constructor
  · rintro ⟨e, he, h1⟩
    obtain ⟨k1, k2, k3, k4⟩ := edgeB_nat (List.all_eq_true.1 h e he)
    exact ⟨e, he, by omega⟩
  · rintro ⟨e, he, h1⟩
    obtain ⟨k1, k2, k3, k4⟩ := edgeB_nat (List.all_eq_true.1 h e he)
    exact ⟨e, he, by omega⟩
theorem near_lt {es : List E} {n : Nat} (h : es.all (edgeB (n : Int)) = true) {x y : Nat} (hn : nearI es (x : Int) (y : Int) = true) : y < n := by
  unfold nearI at hn
  simp only [List.any_eq_true, Bool.or_eq_true, Bool.and_eq_true, beq_iff_eq] at hn
  obtain ⟨e, he, h1⟩ := hn
  obtain ⟨k1, k2, k3, k4⟩ := edgeB_nat (List.all_eq_true.1 h e he)
  omega
theorem around_isM {n : Nat} (hn : n ≤ 8) {es : List E} (h : es.all (edgeB (n : Int)) = true) {m : Nat} {p : Nat → Bool} (hm : isM n m p) : isM n (arN (netN n es) m n 0 m) (stepP es n p) := by
  obtain ⟨k1, k2⟩ := arN_bit (netN_ok hn h) m n 0 m hm.1
  refine ⟨k1, fun y => ?_⟩
  rw [k2 y, hm.2 y]
  unfold stepP
  rw [← List.range_eq_range']
  apply Bool.eq_iff_iff.2
  simp only [Bool.or_eq_true, Bool.and_eq_true, List.any_eq_true, List.mem_range, decide_eq_true_eq]
  have hb : ∀ u, ((netN n es).getD u 0).testBit y = nearI es (u : Int) (y : Int) := fun u => by
    have := netN_bit hn h u y
    unfold hasN at this
    rw [this, isE_near es h]
  constructor
  · rintro (⟨h1, h2⟩ | ⟨u, h1, h2, h3⟩)
    · exact ⟨h1, .inl h2⟩
    · rw [hb] at h3
      rw [hm.2 u] at h2
      simp only [Bool.and_eq_true, decide_eq_true_eq] at h2
      exact ⟨near_lt h h3, .inr ⟨u, h1, h2.2, h3⟩⟩
  · rintro ⟨h1, h2 | ⟨u, h2, h3, h4⟩⟩
    · exact .inl ⟨h1, h2⟩
    · refine .inr ⟨u, h2, ?_, by rw [hb]; exact h4⟩
      rw [hm.2 u]
      simp [h2, h3]
theorem one_isM {n x : Nat} (hn : n ≤ 8) (hx : x < n) : isM n (2 ^ x) (fun y => decide ((y : Int) = (x : Int))) := by
  refine ⟨pow_small (by omega), fun y => ?_⟩
  rw [Nat.testBit_two_pow]
  apply Bool.eq_iff_iff.2
  simp only [Bool.and_eq_true, decide_eq_true_eq]
  omega
theorem setF_split {p : Nat → Bool} : ∀ (a b x : Nat), setF p (a + b) x = setF p a x ++ setF p b (x + a) := by
  intro a
  induction a with
  | zero => intro b x; simp [setF]
  | succ a ih =>
    intro b x
    rw [show a + 1 + b = (a + b) + 1 by omega]
    simp only [setF, ih, show x + 1 + a = x + (a + 1) by omega]
    split <;> simp
theorem setF_mask {n m : Nat} {p : Nat → Bool} (hn : n ≤ 8) (hm : isM n m p) : setF (fun y => m.testBit y) 8 0 = setF p n 0 := by
  rw [show 8 = n + (8 - n) by omega, setF_split]
  have h1 : setF (fun y => m.testBit y) n 0 = setF p n 0 := setF_congr fun y _ h => by
    rw [hm.2 y]
    have : y < n := by omega
    simp [this]
  have h2 : setF (fun y => m.testBit y) (8 - n) (0 + n) = [] := by
    rw [← setF_empty (n := 8 - n) (x := 0 + n)]
    exact setF_congr fun y h _ => by
      rw [hm.2 y]
      have : ¬ y < n := by omega
      simp [this]
  rw [h1, h2, List.append_nil]
end Go.V.W

/- Reaching over open edges, told plainly; the law FnExactReachedBy on plain data. -/
set_option linter.unusedVariables false
set_option linter.unusedSimpArgs false
namespace Go.V.W
open Go.Proofs

theorem l2Near_lim (d) (r) (h : G_l2Near d = some r) : ∃ N, F_spec_l2Near N d = some r := by
  obtain ⟨g, a, b, _⟩ := d
  unfold G_l2Near at h
  split at h
  · rename_i hl
    have hl : g.2.1.length ≤ lim := okL_lim hl
    have h := Option.some.inj h
    subst h
    refine ⟨g.2.1.length + 1, ?_⟩
    unfold F_spec_l2Near
    have := loop_idx (L := spec_l2Near_l0 (g.2.1.length + 1)) (r := spec_l2Near_l0_r (g.2.1.length + 1)) (fun _ _ => rfl) (e := K_Piiq) g.2.1 (mk := fun i => (a, b, g, (i : Int), ())) (q := fun e => (e.1 == a && e.2.1 == b) || (e.1 == b && e.2.1 == a)) (o := fun _ => .inl (true, ())) (f := .inr (.inl ()))
      (by
        intro back i hi
        unfold spec_l2Near_l0_r
        simp only [lt_dec hi, if_true, idxIn_nat hi, Int.toNat_natCast, wrap_up hi (lim_max hl)]
        rcases Bool.eq_false_or_eq_true ((at_ K_Piiq g.2.1 i).1 == a) with c1 | c1 <;> rcases Bool.eq_false_or_eq_true ((at_ K_Piiq g.2.1 i).2.1 == b) with c2 | c2 <;> rcases Bool.eq_false_or_eq_true ((at_ K_Piiq g.2.1 i).1 == b) with c3 | c3 <;> rcases Bool.eq_false_or_eq_true ((at_ K_Piiq g.2.1 i).2.1 == a) with c4 | c4 <;>
          simp only [c1, c2, c3, c4, if_true, if_false, Bool.false_eq_true, Bool.and_true, Bool.and_false, Bool.or_true, Bool.or_false, Bool.true_or, Bool.or_self, Bool.and_self])
      (by intro back; unfold spec_l2Near_l0_r; simp only [lt_not, Bool.false_eq_true, if_false]) g.2.1.length 0 (by omega) (by omega)
    simp only [Int.natCast_zero, List.drop_zero] at this
    have hge := idxI_ge (fun e : E => (e.1 == a && e.2.1 == b) || (e.1 == b && e.2.1 == a)) g.2.1 0
    simp only [this, Option.bind_some, nearI, ← hge]
    cases idxN (fun e : E => (e.1 == a && e.2.1 == b) || (e.1 == b && e.2.1 == a)) g.2.1 0 with
    | none => rfl
    | some j => simp [idxI]
  · cases h
theorem l2Neighbors_l0 (N : Nat) (g : Gr) (x : Int) (n : Nat) (hN : g.1 = (n : Int)) (hn : n ≤ 8) (ho : okL g.2.1 = true) : ∀ (k y f : Nat) (A : List Int), y + k = n → k < f → A.length + k ≤ 1000 →
    spec_l2Neighbors_l0 N f (x, g, A, (y : Int), ()) = some (.inl (A ++ setF (fun y => nearI g.2.1 x (y : Int)) k y, ())) := by
  intro k
  induction k with
  | zero =>
    intro y f A h1 h2 h3
    obtain ⟨f, rfl⟩ : ∃ m, f = m + 1 := ⟨f - 1, by omega⟩
    have e : y = n := by omega
    subst e
    simp [spec_l2Neighbors_l0, spec_l2Neighbors_l0_r, setF, hN]
  | succ k ih =>
    intro y f A h1 h2 h3
    obtain ⟨f, rfl⟩ : ∃ m, f = m + 1 := ⟨f - 1, by omega⟩
    have hy : y < n := by omega
    show spec_l2Neighbors_l0_r N (spec_l2Neighbors_l0 N f) (x, g, A, (y : Int), ()) = _
    unfold spec_l2Neighbors_l0_r
    have hw : IntKind.wrap .i64 ((y : Int) + 1) = ((y + 1 : Nat) : Int) := by
      rw [wrap_in _ (by omega) (by omega)]
      rfl
    have hle : decide (A.length + List.length [(y : Int)] ≤ lim) = true := by
      unfold lim
      simp
      omega
    simp only [hN, lt_dec hy, if_true, G_l2Near, ho, Option.bind_some, hle, hw]
    unfold setF
    by_cases hh : nearI g.2.1 x (y : Int) = true
    · rw [if_pos hh, if_pos hh, ih (y + 1) f _ (by omega) (by omega) (by simp; omega)]
      simp
    · rw [if_neg hh, if_neg hh]
      exact ih (y + 1) f A (by omega) (by omega) (by omega)
theorem l2Neighbors_lim (d) (r) (h : G_l2Neighbors d = some r) : ∃ N, F_spec_l2Neighbors N d = some r := by
  obtain ⟨g, x, _⟩ := d
  unfold G_l2Neighbors at h
  split at h
  · rename_i hc
    simp only [Bool.and_eq_true, decide_eq_true_eq] at hc
    obtain ⟨⟨h1, h2⟩, h3⟩ := hc
    have h := Option.some.inj h
    subst h
    refine ⟨20, ?_⟩
    unfold F_spec_l2Neighbors
    have := l2Neighbors_l0 20 g x g.1.toNat (by omega) (by omega) h1 g.1.toNat 0 20 [] (by omega) (by omega) (by simp; omega)
    simp only [Int.natCast_zero, List.nil_append] at this
    simp only [this, Option.bind_some]
  · cases h

/-! ### l1Put -/
def lowN (x : Int) : List Int → Nat
  | [] => 0
  | a :: l => if a < x then lowN x l + 1 else 0
theorem lowN_le (x : Int) : ∀ l, lowN x l ≤ l.length := by
  intro l
  induction l with
  | nil => simp [lowN]
  | cons a l ih => simp only [lowN]; split <;> simp; omega
theorem l1Put_l0 (N : Nat) (l : List Int) (x : Int) (hl : l.length ≤ 1000) : ∀ (k i f : Nat), i + k = l.length → k < f → spec_l1Put_l0 N f (l, x, (i : Int), ()) = some (.inl (l, x, ((i + lowN x (l.drop i) : Nat) : Int), ())) := by
  have hmx : l.length ≤ maxLen := by unfold maxLen; omega
  intro k
  induction k with
  | zero =>
    intro i f h1 h2
    obtain ⟨f, rfl⟩ : ∃ m, f = m + 1 := ⟨f - 1, by omega⟩
    have e : i = l.length := by omega
    subst e
    rw [List.drop_of_length_le (Nat.le_refl _)]
    simp [spec_l1Put_l0, spec_l1Put_l0_r, lowN]
  | succ k ih =>
    intro i f h1 h2
    obtain ⟨f, rfl⟩ : ∃ m, f = m + 1 := ⟨f - 1, by omega⟩
    have hi : i < l.length := by omega
    show spec_l1Put_l0_r N (spec_l1Put_l0 N f) (l, x, (i : Int), ()) = _
    unfold spec_l1Put_l0_r
    have e : at_ I l i = l[i] := at_get (e := I) hi
    rw [List.drop_eq_getElem_cons hi]
    simp only [lt_dec hi, if_true, idxIn_nat hi, Int.toNat_natCast, wrap_up hi hmx, e, lowN]
    by_cases c : l[i] < x
    · simp only [c, decide_true, if_true]
      rw [ih (i + 1) f (by omega) (by omega)]
      congr 5
      omega
    · simp only [c, decide_false, Bool.false_eq_true, if_false, Nat.add_zero]
theorem putL_low' (x : Int) : ∀ l : List Int, putL x l = if h : lowN x l < l.length then (if l[lowN x l] = x then l else l.take (lowN x l) ++ [x] ++ l.drop (lowN x l)) else l ++ [x] := by
  intro l
  induction l with
  | nil => rfl
  | cons a l ih =>
    simp only [putL, lowN]
    by_cases c : a < x
    · simp only [c, if_true, ih, List.length_cons, Nat.add_lt_add_iff_right, List.getElem_cons_succ, List.take_succ_cons, List.drop_succ_cons]
      split
      · split <;> simp
      · simp
    · by_cases c2 : a = x
      · simp [c, c2]
      · simp [c, c2]
theorem l1Put_lim (d) (r) (h : G_l1Put d = some r) : ∃ N, F_spec_l1Put N d = some r := by
  obtain ⟨l, x, _⟩ := d
  unfold G_l1Put at h
  split at h
  · rename_i hl
    have hl : l.length ≤ 1000 := of_decide_eq_true hl
    have h := Option.some.inj h
    subst h
    refine ⟨l.length + 1, ?_⟩
    unfold F_spec_l1Put
    have := l1Put_l0 (l.length + 1) l x hl l.length 0 (l.length + 1) (by omega) (by omega)
    simp only [Int.natCast_zero, List.drop_zero, Nat.zero_add] at this
    have hk := lowN_le x l
    generalize hkk : lowN x l = k at this hk
    simp only [this, Option.bind_some, putL_low', hkk]
    have hL : (lim : Int) = 1099511627776 := rfl
    have c0 : (decide (0 ≤ (0 : Int)) && decide ((0 : Int) ≤ (k : Int)) && decide ((k : Int) ≤ (l.length : Int))) = true := by simp; omega
    have c1 : decide (List.length ([] : List Int) + List.length (sub_ l (0 : Int) (k : Int)) ≤ lim) = true := by unfold lim sub_; simp; omega
    have c2 : decide (List.length (([] : List Int) ++ sub_ l (0 : Int) (k : Int)) + List.length [x] ≤ lim) = true := by unfold lim sub_; simp; omega
    have c3 : (decide (0 ≤ (k : Int)) && decide ((k : Int) ≤ (l.length : Int)) && decide ((l.length : Int) ≤ (l.length : Int))) = true := by simp; omega
    have c4 : decide (List.length (([] : List Int) ++ sub_ l (0 : Int) (k : Int) ++ [x]) + List.length (sub_ l (k : Int) (l.length : Int)) ≤ lim) = true := by unfold lim sub_; simp; omega
    have e1 : sub_ l (0 : Int) (k : Int) = l.take k := by simp [sub_]
    have e2 : sub_ l (k : Int) (l.length : Int) = l.drop k := by simp [sub_]
    by_cases hlt : k < l.length
    · have e : at_ I l k = l[k] := at_get (e := I) hlt
      simp only [lt_dec hlt, if_true, idxIn_nat hlt, Int.toNat_natCast, e, hlt, dite_true, c0, c1, c2, c3, c4]
      by_cases c : l[k] = x
      · simp [c]
      · have c' : (l[k] == x) = false := by simpa using c
        simp only [c', c, Bool.false_eq_true, if_false, e1, e2, List.nil_append]
    · have hlt' : decide ((k : Int) < (l.length : Int)) = false := by simp; omega
      have ek : k = l.length := by omega
      simp only [hlt', Bool.false_eq_true, if_false, c0, c1, c2, c3, c4, if_true, hlt, dite_false, e1, e2, List.nil_append]
      subst ek
      simp
      unfold lim
      omega
  · cases h

/-! ### l11Reached -/
theorem putL_len (x : Int) : ∀ l : List Int, (putL x l).length ≤ l.length + 1 := by
  intro l
  induction l with
  | nil => simp [putL]
  | cons a l ih =>
    simp only [putL]
    split
    · simp; omega
    · split <;> simp
theorem reached_l2 (N : Nat) (s : List Int) (g : Gr) (s9 : Int) (bs : List Int) (hb : bs.length ≤ 100) : ∀ (k i f : Nat) (o : List Int), i + k = bs.length → k < f → o.length + k ≤ 900 →
    spec_l11Reached_l2 N f (s, g, o, s9, bs, (i : Int), ()) = some (.inl (s, g, putAll o (bs.drop i), s9, ())) := by
  have hmx : bs.length ≤ maxLen := by unfold maxLen; omega
  intro k
  induction k with
  | zero =>
    intro i f o h1 h2 h3
    obtain ⟨f, rfl⟩ : ∃ m, f = m + 1 := ⟨f - 1, by omega⟩
    have e : i = bs.length := by omega
    subst e
    rw [List.drop_of_length_le (Nat.le_refl _)]
    simp [spec_l11Reached_l2, spec_l11Reached_l2_r, putAll]
  | succ k ih =>
    intro i f o h1 h2 h3
    obtain ⟨f, rfl⟩ : ∃ m, f = m + 1 := ⟨f - 1, by omega⟩
    have hi : i < bs.length := by omega
    show spec_l11Reached_l2_r N (spec_l11Reached_l2 N f) (s, g, o, s9, bs, (i : Int), ()) = _
    unfold spec_l11Reached_l2_r
    have e : at_ I bs i = bs[i] := at_get (e := I) hi
    have ho : okS1 o = true := decide_eq_true (by omega)
    have hp := putL_len bs[i] o
    simp only [lt_dec hi, if_true, idxIn_nat hi, Int.toNat_natCast, wrap_up hi hmx, e, G_l1Put, ho, Option.bind_some]
    rw [ih (i + 1) f _ (by omega) (by omega) (by omega), List.drop_eq_getElem_cons hi]
    rfl
theorem ball_len {n : Nat} {es : List E} {x : Int} : (ballL n es x).length ≤ n + 1 := by
  unfold ballL
  have h1 := putL_len x (setF (fun y => nearI es x (y : Int)) n 0)
  have h2 := setF_len (p := fun y => nearI es x (y : Int)) (k := n) (x := 0)
  omega
theorem putAll_len : ∀ (bs o : List Int), (putAll o bs).length ≤ o.length + bs.length := by
  intro bs
  induction bs with
  | nil => intro o; simp [putAll]
  | cons z bs ih =>
    intro o
    have h1 := ih (putL z o)
    have h2 := putL_len z o
    show (putAll (putL z o) bs).length ≤ _
    simp only [List.length_cons]
    omega
theorem reached_l0 (N : Nat) (hN : 20 ≤ N) (g : Gr) (n : Nat) (hg : g.1 = (n : Int)) (hn : n ≤ 8) (ho : okL g.2.1 = true) (set : List Int) (hs : set.length ≤ 8) : ∀ (k i f : Nat) (o : List Int), i + k = set.length → k < f → o.length + 10 * k ≤ 800 →
    spec_l11Reached_l0 N f (set, g, o, (i : Int), ()) = some (.inl ((set.drop i).foldl (fun o x => putAll o (ballL n g.2.1 x)) o, ())) := by
  have hmx : set.length ≤ maxLen := by unfold maxLen; omega
  intro k
  induction k with
  | zero =>
    intro i f o h1 h2 h3
    obtain ⟨f, rfl⟩ : ∃ m, f = m + 1 := ⟨f - 1, by omega⟩
    have e : i = set.length := by omega
    subst e
    rw [List.drop_of_length_le (Nat.le_refl _)]
    simp [spec_l11Reached_l0, spec_l11Reached_l0_r]
  | succ k ih =>
    intro i f o h1 h2 h3
    obtain ⟨f, rfl⟩ : ∃ m, f = m + 1 := ⟨f - 1, by omega⟩
    have hi : i < set.length := by omega
    show spec_l11Reached_l0_r N (spec_l11Reached_l0 N f) (set, g, o, (i : Int), ()) = _
    unfold spec_l11Reached_l0_r
    have e : at_ I set i = set[i] := at_get (e := I) hi
    have hball : F_spec_l2Ball 0 (g, set[i], ()) = some (ballL n g.2.1 set[i], ()) := by
      unfold F_spec_l2Ball G_l2Neighbors G_l1Put
      have a1 : (okL g.2.1 && decide (0 ≤ g.1) && decide (g.1 ≤ 8)) = true := by
        rw [ho, hg]
        simp
        omega
      have a2 : okS1 (setF (fun y => nearI g.2.1 set[i] (y : Int)) n 0) = true := by
        have := setF_len (p := fun y => nearI g.2.1 set[i] (y : Int)) (k := n) (x := 0)
        exact decide_eq_true (by omega)
      simp only [a1, if_true, hg, Int.toNat_natCast, Option.bind_some, a2]
      have a3 : (okL g.2.1 && decide (0 ≤ (n : Int)) && decide ((n : Int) ≤ 8)) = true := by rw [← hg]; exact a1
      simp only [a3, if_true, Option.bind_some, a2, ballL]
    have hbl := ball_len (n := n) (es := g.2.1) (x := set[i])
    have hin := reached_l2 N set g (i : Int) (ballL n g.2.1 set[i]) (by omega) (ballL n g.2.1 set[i]).length 0 N o (by omega) (by omega) (by omega)
    simp only [Int.natCast_zero, List.drop_zero] at hin
    simp only [lt_dec hi, if_true, idxIn_nat hi, Int.toNat_natCast, wrap_up hi hmx, e, hball, Option.bind_some, hin]
    have hpl := putAll_len (ballL n g.2.1 set[i]) o
    rw [ih (i + 1) f _ (by omega) (by omega) (by omega), List.drop_eq_getElem_cons hi, List.foldl_cons]
theorem l11Reached_lim (d) (r) (h : G_l11Reached d = some r) : ∃ N, F_spec_l11Reached N d = some r := by
  obtain ⟨t, set, c, _⟩ := d
  unfold G_l11Reached at h
  split at h
  · rename_i hc
    simp only [Bool.and_eq_true, decide_eq_true_eq] at hc
    obtain ⟨⟨⟨⟨h1, h2⟩, h3⟩, h4⟩, h5⟩ := hc
    obtain ⟨g1, g2, g3, g4⟩ := timeB_parts h1
    obtain ⟨o1, o2, o3⟩ := okT_parts h2
    have hn := graphB_n (n := t.1.1) (l := t.1.2.1) (u := t.1.2.2) g1
    unfold okSet at h5
    simp only [Bool.and_eq_true, decide_eq_true_eq] at h5
    have h := Option.some.inj h
    subst h
    refine ⟨30, ?_⟩
    unfold F_spec_l11Reached
    have hO : G_l11Open (t, c, ()) = some ((t.1.1, openE t (c.tmod t.2.1), ()), ()) := by
      unfold G_l11Open
      have e1 : decide (0 ≤ c) = true := by simp; omega
      have e2 : decide (c ≤ 5000) = true := by simp; omega
      rw [if_pos (by simp only [h1, h2, e1, e2, Bool.and_self])]
    have hlen := selE_len t.1.2.1 t.2.2.1 (c.tmod t.2.1)
    have ho : okL (openE t (c.tmod t.2.1)) = true := by
      have := okL_lim o1
      exact decide_eq_true (Nat.le_trans hlen this)
    have := reached_l0 30 (by omega) (t.1.1, openE t (c.tmod t.2.1), ()) t.1.1.toNat (by show t.1.1 = _; omega) (by omega) ho set h5.1 set.length 0 30 [] (by omega) (by omega) (by simp; omega)
    simp only [Int.natCast_zero, List.drop_zero] at this
    simp only [hO, Option.bind_some, this]
    rfl
  · cases h

/-! ### bits -/
theorem shr_bit {m y : Nat} (hm : m < 256) (h : y < 8) : (bits .and .i64 (shr .i64 (m : Int) (y : Int)) 1 == (1 : Int)) = m.testBit y := has_bit hm h
theorem around_l0 (N : Nat) (ms : List Nat) (n : Nat) (hm : okN n ms) (hn : n ≤ 8) (s : Nat) (hs : s < 256) : ∀ (k x f o : Nat), o < 256 → x + k = n → k < f →
    impl_net_around_l0 N f ((s : Int), (o : Int), toI ms, (n : Int), (x : Int), ()) = some (.inl (((arN ms s k x o : Nat) : Int), ())) := by
  intro k
  induction k with
  | zero =>
    intro x f o h0 h1 h2
    obtain ⟨f, rfl⟩ : ∃ m, f = m + 1 := ⟨f - 1, by omega⟩
    have e : x = n := by omega
    subst e
    simp [impl_net_around_l0, impl_net_around_l0_r, arN]
  | succ k ih =>
    intro x f o h0 h1 h2
    obtain ⟨f, rfl⟩ : ∃ m, f = m + 1 := ⟨f - 1, by omega⟩
    have hx : x < n := by omega
    show impl_net_around_l0_r N (impl_net_around_l0 N f) ((s : Int), (o : Int), toI ms, (n : Int), (x : Int), ()) = _
    unfold impl_net_around_l0_r
    have hw : IntKind.wrap .i64 ((x : Int) + 1) = ((x + 1 : Nat) : Int) := by
      rw [wrap_in _ (by omega) (by omega)]
      rfl
    have i1 : idxIn (x : Int) ms.length = true := idxIn_nat (by rw [hm.1]; exact hx)
    simp only [lt_dec hx, if_true, toI_len, i1, nonneg_dec, shr_bit hs (show x < 8 by omega), Int.toNat_natCast, at_toI, bits_or h0 (hm.2 x), hw, arN]
    by_cases hb : s.testBit x = true
    · rw [if_pos hb, if_pos hb]
      exact ih (x + 1) f _ (Nat.or_lt_two_pow (n := 8) h0 (hm.2 x)) (by omega) (by omega)
    · rw [if_neg hb, if_neg hb]
      exact ih (x + 1) f o h0 (by omega) (by omega)
theorem around_lim (d) (r) (h : G_around d = some r) : ∃ N, F_impl_net_around N d = some r := by
  obtain ⟨⟨l, u⟩, s, _⟩ := d
  unfold G_around at h
  split at h
  · rename_i hc
    simp only [Bool.and_eq_true, decide_eq_true_eq] at hc
    obtain ⟨⟨h1, h2⟩, h3⟩ := hc
    obtain ⟨e, hm, h8⟩ := smallN_nat h1
    have h := Option.some.inj h
    subst h
    refine ⟨20, ?_⟩
    unfold F_impl_net_around
    have hs : s = (s.toNat : Int) := by omega
    have := around_l0 20 (fromI l) l.length hm h8 s.toNat (by omega) l.length 0 20 s.toNat (by omega) (by omega) (by omega)
    rw [← e, ← hs] at this
    simp only [Int.natCast_zero] at this
    simp only [this, Option.bind_some]
  · cases h
theorem setOf_l0 (N : Nat) (s : Nat) (hs : s < 256) : ∀ (k x f : Nat) (A : List Int), x + k = 8 → k < f → A.length + k ≤ 100 →
    impl_setOf_l0 N f ((s : Int), A, (x : Int), ()) = some (.inl (A ++ setF (fun y => s.testBit y) k x, ())) := by
  intro k
  induction k with
  | zero =>
    intro x f A h1 h2 h3
    obtain ⟨f, rfl⟩ : ∃ m, f = m + 1 := ⟨f - 1, by omega⟩
    have e : x = 8 := by omega
    subst e
    have : shr .i64 (s : Int) ((8 : Nat) : Int) = 0 := by
      unfold shr
      have e : min ((8 : Nat) : Int).toNat IntKind.i64.bits = 8 := by decide
      rw [e, Int.fdiv_eq_ediv_of_nonneg _ (by decide)]
      omega
    show impl_setOf_l0_r N (impl_setOf_l0 N f) ((s : Int), A, ((8 : Nat) : Int), ()) = _
    unfold impl_setOf_l0_r
    have h8 : decide (0 ≤ ((8 : Nat) : Int)) = true := by decide
    have hz : ((0 : Int) != 0) = false := by decide
    simp only [h8, if_true, this, hz, Bool.false_eq_true, if_false, setF, List.append_nil]
  | succ k ih =>
    intro x f A h1 h2 h3
    obtain ⟨f, rfl⟩ : ∃ m, f = m + 1 := ⟨f - 1, by omega⟩
    have hx : x < 8 := by omega
    show impl_setOf_l0_r N (impl_setOf_l0 N f) ((s : Int), A, (x : Int), ()) = _
    unfold impl_setOf_l0_r
    have hw : IntKind.wrap .i64 ((x : Int) + 1) = ((x + 1 : Nat) : Int) := by
      rw [wrap_in _ (by omega) (by omega)]
      rfl
    have hle : decide (A.length + List.length [(x : Int)] ≤ lim) = true := by
      unfold lim
      simp
      omega
    simp only [nonneg_dec, if_true, shr_bit hs hx, hle, hw]
    by_cases hz : s >>> x = 0
    · have e1 : (shr .i64 (s : Int) (x : Int) != (0 : Int)) = false := by rw [shr_nat hx, hz]; decide
      simp only [e1, Bool.false_eq_true, if_false]
      have e2 : setF (fun y => s.testBit y) (k + 1) x = [] := by
        rw [← setF_empty (n := k + 1) (x := x)]
        refine setF_congr fun y h _ => ?_
        have : s < 2 ^ x := by
          rw [Nat.shiftRight_eq_div_pow] at hz
          exact (Nat.div_eq_zero_iff_lt (Nat.two_pow_pos x)).1 hz
        exact Nat.testBit_lt_two_pow (Nat.lt_of_lt_of_le this (Nat.pow_le_pow_right (by omega) h))
      rw [e2, List.append_nil]
    · have e1 : (shr .i64 (s : Int) (x : Int) != (0 : Int)) = true := by
        rw [shr_nat hx]
        have : ((s >>> x : Nat) : Int) ≠ 0 := fun e => hz (by exact_mod_cast e)
        simpa using this
      simp only [e1, if_true]
      unfold setF
      by_cases hb : s.testBit x = true
      · rw [if_pos hb, if_pos hb, ih (x + 1) f _ (by omega) (by omega) (by simp; omega)]
        simp
      · rw [if_neg hb, if_neg hb]
        exact ih (x + 1) f A (by omega) (by omega) (by omega)
theorem setOf_lim (d) (r) (h : G_setOf d = some r) : ∃ N, F_impl_setOf N d = some r := by
  obtain ⟨s, _⟩ := d
  unfold G_setOf at h
  split at h
  · rename_i hc
    simp only [Bool.and_eq_true, decide_eq_true_eq] at hc
    have h := Option.some.inj h
    subst h
    refine ⟨20, ?_⟩
    unfold F_impl_setOf
    have := setOf_l0 20 s.toNat (by omega) 8 0 20 [] (by omega) (by omega) (by simp)
    rw [show ((s.toNat : Nat) : Int) = s by omega] at this
    simp only [Int.natCast_zero, List.nil_append] at this
    simp only [this, Option.bind_some]
  · cases h
end Go.V.W

/- The law FnExactReachedBy on plain data. -/
set_option linter.unusedVariables false
set_option linter.unusedSimpArgs false
namespace Go.V.W
open Go.Proofs

theorem small_toI {n : Nat} {ms : List Nat} (hok : okN n ms) (hn : n ≤ 8) : smallN (toI ms) = true := by
  unfold smallN
  simp only [toI_len, hok.1, Bool.and_eq_true, decide_eq_true_eq, List.all_eq_true]
  refine ⟨hn, fun m hm => ?_⟩
  unfold toI at hm
  obtain ⟨x, hx, rfl⟩ := List.mem_map.1 hm
  obtain ⟨i, hi, rfl⟩ := List.getElem_of_mem hx
  have := hok.2 i
  simp only [List.getD_eq_getElem?_getD, List.getElem?_eq_getElem hi, Option.getD_some] at this
  omega
/-- What a timetable gives at a time. -/
theorem time_facts {t : Tt} (ht : timeB t = true) {c : Int} (hc : 0 ≤ c) :
    t.1.1 = (t.1.1.toNat : Int) ∧ 0 < t.1.1.toNat ∧ t.1.1.toNat ≤ 8 ∧ (t.2.1 != 0) = true ∧ idxIn (c.tmod t.2.1) (netsL t).length = true ∧
    at_ K_PSiq (netsL t) (c.tmod t.2.1).toNat = (toI (netN t.1.1.toNat (openE t (c.tmod t.2.1))), ()) ∧ (openE t (c.tmod t.2.1)).all (edgeB (t.1.1.toNat : Int)) = true := by
  obtain ⟨g1, g2, g3, g4⟩ := timeB_parts ht
  have g3 := inB_iff.1 g3
  have hn := graphB_n (n := t.1.1) (l := t.1.2.1) (u := t.1.2.2) g1
  obtain ⟨hE, hR⟩ := graphB_edges (n := t.1.1) (l := t.1.2.1) (u := t.1.2.2) g1
  have hN : t.1.1 = (t.1.1.toNat : Int) := by omega
  rw [hN] at hE
  obtain ⟨m1, m2⟩ := tmod_lt (c := c) (p := t.2.1) (by omega) (by omega)
  obtain ⟨o1, o2⟩ := openE_ok hE hR (c.tmod t.2.1)
  have hp : (t.2.1 != 0) = true := by simp; omega
  have hlen : (netsL t).length = t.2.1.toNat := by simp [netsL]
  refine ⟨hN, by omega, by omega, hp, ?_, ?_, o1⟩
  · rw [hlen]
    unfold idxIn
    simp
    omega
  · have hlt : (c.tmod t.2.1).toNat < (netsL t).length := by rw [hlen]; omega
    rw [at_get (e := K_PSiq) hlt]
    simp only [netsL, List.get_eq_getElem, List.getElem_map, List.getElem_range]
    rw [show (((c.tmod t.2.1).toNat : Nat) : Int) = c.tmod t.2.1 by omega]
theorem specRB_l0 (N : Nat) (t : Tt) (c x : Int) (s : Nat) (ht : timeB t = true) (ho : okT t = true) (h0 : 0 ≤ c) (h1 : c ≤ 1000) (hs : s ≤ 1000) : ∀ (k i f : Nat), i + k = s → k < f →
    spec_ReachedBy_l0 N f (c, (s : Int), t, setF (iterP t c x i) t.1.1.toNat 0, (i : Int), ()) = some (.inl (setF (iterP t c x s) t.1.1.toNat 0, ())) := by
  intro k
  induction k with
  | zero =>
    intro i f e1 e2
    obtain ⟨f, rfl⟩ : ∃ m, f = m + 1 := ⟨f - 1, by omega⟩
    have e : i = s := by omega
    subst e
    simp [spec_ReachedBy_l0, spec_ReachedBy_l0_r]
  | succ k ih =>
    intro i f e1 e2
    obtain ⟨f, rfl⟩ : ∃ m, f = m + 1 := ⟨f - 1, by omega⟩
    have hi : i < s := by omega
    obtain ⟨n1, n2, n3, n4, n5, n6, n7⟩ := time_facts ht h0
    show spec_ReachedBy_l0_r N (spec_ReachedBy_l0 N f) (c, (s : Int), t, setF (iterP t c x i) t.1.1.toNat 0, (i : Int), ()) = _
    unfold spec_ReachedBy_l0_r
    have hw : IntKind.wrap .i64 ((i : Int) + 1) = ((i + 1 : Nat) : Int) := by
      rw [wrap_in _ (by omega) (by omega)]
      rfl
    have hw2 : IntKind.wrap .i64 (c + (i : Int)) = c + (i : Int) := wrap_in _ (by omega) (by omega)
    have hset : okSet t.1.1 (setF (iterP t c x i) t.1.1.toNat 0) = true := by
      unfold okSet
      have := setF_len (p := iterP t c x i) (k := t.1.1.toNat) (x := 0)
      simp only [Bool.and_eq_true, decide_eq_true_eq, List.all_eq_true]
      refine ⟨by omega, fun z hz => ?_⟩
      obtain ⟨y, hy, rfl⟩ := setF_nat z hz
      exact inB_iff.2 (by omega)
    have a1 : decide (0 ≤ c + (i : Int)) = true := by simp; omega
    have a2 : decide (c + (i : Int) ≤ 5000) = true := by simp; omega
    simp only [lt_dec hi, if_true, hw, hw2, G_l11Reached, ht, ho, a1, a2, hset, Bool.and_self, Option.bind_some, reachL_set]
    exact ih (i + 1) f (by omega) (by omega)
theorem node_spec (g : Gr) (x : Int) (u : Unit) (hg : 0 < g.1) (h8 : g.1 ≤ 8) : g_spec_l2Node (g, x, u) = (inB 0 (g.1 - 1) x, ()) := by
  unfold g_spec_l2Node
  have hw : IntKind.wrap .i64 (g.1 - 1) = g.1 - 1 := wrap_in _ (by omega) (by omega)
  simp only [hw, l1In_eq]
theorem specRB_lim (d) (r) (h : G_reachedBy d = some r) : ∃ N, F_spec_ReachedBy N d = some r := by
  obtain ⟨t, x, c, s, _⟩ := d
  unfold G_reachedBy at h
  split at h
  · rename_i ho
    have ho : okT t = true := ho
    have h := Option.some.inj h
    subst h
    refine ⟨2000, ?_⟩
    unfold F_spec_ReachedBy G_l11Good rbB
    simp only [ho, if_true, Option.bind_some, clock_spec]
    cases ht : timeB t with
    | false => rfl
    | true =>
      obtain ⟨n1, n2, n3, n4, n5, n6, n7⟩ := time_facts ht (Int.le_refl 0)
      simp only [node_spec t.1 x () (by omega) (by omega)]
      cases hx : inB 0 (t.1.1 - 1) x with
      | false => rfl
      | true =>
        cases hc : inB 0 1000 c with
        | false => rfl
        | true =>
          cases hs : inB 0 1000 s with
          | false => rfl
          | true =>
            have hc' := inB_iff.1 hc
            have hs' := inB_iff.1 hs
            have hx' := inB_iff.1 hx
            have hx1 : x = (x.toNat : Int) := by omega
            have hs1 : s = (s.toNat : Int) := by omega
            have := specRB_l0 2000 t c x s.toNat ht ho hc'.1 hc'.2 (by omega) s.toNat 0 2000 (by omega) (by omega)
            have e0 : setF (iterP t c x 0) t.1.1.toNat 0 = [x] := by
              have := setF_one (n := t.1.1.toNat) (x := x.toNat) (by omega)
              rw [← hx1] at this
              exact this
            rw [e0, ← hs1] at this
            simp only [Int.natCast_zero] at this
            simp only [Bool.not_true, Bool.false_eq_true, if_false, Bool.and_self, if_true, this, Option.bind_some]
  · cases h

/-! ### impl -/
theorem implRB_l0 (N : Nat) (t : Tt) (c x : Int) (s : Nat) (ht : timeB t = true) (h0 : 0 ≤ c) (h1 : c ≤ 1000) (hs : s ≤ 1000) : ∀ (k i f m : Nat), i + k = s → k < f → isM t.1.1.toNat m (iterP t c x i) →
    ∃ m', impl_ReachedBy_l0 N f (c, t, netsL t, (m : Int), (s : Int), (i : Int), ()) = some (.inl ((m' : Nat), ())) ∧ isM t.1.1.toNat m' (iterP t c x s) := by
  intro k
  induction k with
  | zero =>
    intro i f m e1 e2 hm
    obtain ⟨f, rfl⟩ : ∃ m, f = m + 1 := ⟨f - 1, by omega⟩
    have e : i = s := by omega
    subst e
    exact ⟨m, by simp [impl_ReachedBy_l0, impl_ReachedBy_l0_r], hm⟩
  | succ k ih =>
    intro i f m e1 e2 hm
    obtain ⟨f, rfl⟩ : ∃ m, f = m + 1 := ⟨f - 1, by omega⟩
    have hi : i < s := by omega
    obtain ⟨n1, n2, n3, n4, n5, n6, n7⟩ := time_facts (c := c + (i : Int)) ht (by omega)
    have hw : IntKind.wrap .i64 ((i : Int) + 1) = ((i + 1 : Nat) : Int) := by
      rw [wrap_in _ (by omega) (by omega)]
      rfl
    have hw2 : IntKind.wrap .i64 (c + (i : Int)) = c + (i : Int) := wrap_in _ (by omega) (by omega)
    have hok := netN_ok (n := t.1.1.toNat) (by omega) n7
    have hsm := small_toI hok n3
    have b1 : decide (0 ≤ (m : Int)) = true := nonneg_dec m
    have b2 : decide ((m : Int) < 256) = true := by
      have := hm.1
      simp
      omega
    obtain ⟨m', k1, k2⟩ := ih (i + 1) f _ (by omega) (by omega) (around_isM n3 n7 hm)
    refine ⟨m', ?_, k2⟩
    rw [← k1]
    show impl_ReachedBy_l0_r N (impl_ReachedBy_l0 N f) (c, t, netsL t, (m : Int), (s : Int), (i : Int), ()) = _
    unfold impl_ReachedBy_l0_r
    simp only [lt_dec hi, if_true, n4, hw2, n5, n6, G_around, hsm, b1, b2, Bool.and_self, Option.bind_some, hw, toI_from, toI_len, hok.1, Int.toNat_natCast]
theorem timedB (t : Tt) (c x : Int) (w : Unit) (ho : okT t = true) : F_impl_isTimed 0 (t, c, [x], w) = some (timeB t && inB 0 1000 c && inB 0 (t.1.1 - 1) x, ()) := by
  unfold F_impl_isTimed
  simp only [implT t _ ho, Option.bind_some, clock_impl]
  cases ht : timeB t with
  | false => rfl
  | true =>
    obtain ⟨n1, n2, n3, n4, n5, n6, n7⟩ := time_facts ht (Int.le_refl 0)
    cases hc : inB 0 1000 c with
    | false => rfl
    | true =>
      have hw : IntKind.wrap .i64 (t.1.1 - 1) = t.1.1 - 1 := wrap_in _ (by omega) (by omega)
      have : okL [x] = true := okL_of (by simp)
      simp only [hw, G_allWithin, this, if_true, Option.bind_some, List.all_cons, List.all_nil, Bool.and_true, Bool.true_and]
theorem implRB_lim (d) (r) (h : G_reachedBy d = some r) : ∃ N, F_impl_ReachedBy N d = some r := by
  obtain ⟨t, x, c, s, _⟩ := d
  unfold G_reachedBy at h
  split at h
  · rename_i ho
    have ho : okT t = true := ho
    have h := Option.some.inj h
    subst h
    refine ⟨2000, ?_⟩
    unfold F_impl_ReachedBy rbB
    simp only [timedB t c x _ ho, Option.bind_some, clock_impl]
    cases ht : timeB t with
    | false => rfl
    | true =>
      obtain ⟨n1, n2, n3, n4, n5, n6, n7⟩ := time_facts ht (Int.le_refl 0)
      cases hx : inB 0 (t.1.1 - 1) x with
      | false => cases inB 0 1000 c <;> rfl
      | true =>
        cases hc : inB 0 1000 c with
        | false => rfl
        | true =>
          cases hs : inB 0 1000 s with
          | false => rfl
          | true =>
            have hc' := inB_iff.1 hc
            have hs' := inB_iff.1 hs
            have hx' := inB_iff.1 hx
            have hx1 : x = (x.toNat : Int) := by omega
            have hs1 : s = (s.toNat : Int) := by omega
            have hO : G_openNets (t, ()) = some (netsL t, ()) := by
              unfold G_openNets
              rw [if_pos (by rw [ht, ho]; rfl)]
            have hsh : shl .i64 1 x = ((2 ^ x.toNat : Nat) : Int) := by
              rw [hx1]
              exact shl_one (by omega)
            have one := one_isM (n := t.1.1.toNat) (x := x.toNat) n3 (by omega)
            rw [← hx1] at one
            obtain ⟨m', k1, k2⟩ := implRB_l0 2000 t c x s.toNat ht hc'.1 hc'.2 (by omega) s.toNat 0 2000 (2 ^ x.toNat) (by omega) (by omega) one
            rw [← hs1] at k1
            simp only [Int.natCast_zero] at k1
            have hx0 : decide (0 ≤ x) = true := by simp; omega
            have b1 : decide (0 ≤ (m' : Int)) = true := nonneg_dec m'
            have b2 : decide ((m' : Int) < 256) = true := by
              have := k2.1
              simp
              omega
            simp only [Bool.not_true, Bool.false_eq_true, if_false, Bool.and_self, if_true, hO, hx0, hsh, k1, Option.bind_some, G_setOf, b1, b2, Int.toNat_natCast, setF_mask n3 k2]
  · cases h

/-! ### the law -/
theorem rbB_len (t : Tt) (x c s : Int) : (rbB t x c s).1.length ≤ 8 := by
  unfold rbB
  split
  · rename_i h
    simp only [Bool.and_eq_true] at h
    obtain ⟨n1, n2, n3, n4, n5, n6, n7⟩ := time_facts h.1.1.1 (Int.le_refl 0)
    exact Nat.le_trans setF_len n3
  · simp
theorem law10 : ∀ d, WfD (Kd.tuple ([(K_PPiSPiiqqiSSiq, false), (I, false), (I, false), (I, false)].map (·.1))) d → ∃ out, F_laws_FnExactReachedBy 0 d = some out ∧ (splitT [.bool] [] out).1.1 = true := by
  rintro ⟨⟨⟨n, es, v⟩, p, l, u⟩, x, c, s, w⟩ ⟨⟨⟨_, he, _⟩, _, hl, _⟩, _⟩
  have he : es.length ≤ maxLen := he.1
  have hl1 : l.length ≤ maxLen := hl.1
  have hl2 : ∀ x ∈ l, x.length ≤ maxLen := fun x hx => (hl.2 x hx).1
  refine ⟨(true, ()), ?_, rfl⟩
  unfold F_laws_FnExactReachedBy
  obtain ⟨r, h1, h2⟩ := szTimetable_neg n es v p l u () he hl1 hl2
  simp only [h1, Option.bind_some]
  rcases h2 with h2 | ⟨h2, h3, h4⟩
  · simp only [h2, decide_true, if_true]
  · have g1 := okL_of h2
    have g2 := okLL_small h3 h4
    have g3 : okT ((n, es, v), p, l, ()) = true := by simp only [okT, g1, g2, Bool.and_self]
    have hs := sumL_le l h4
    have hs0 := sumL_nonneg l
    have hmt := markTimetable_eq n es v p l () () 1 g1 g2 (by decide) (okK_small (by omega) (by omega)) (okK_small (by omega) (by omega))
    have hk1 : decide ((1 : Int) + 2 * (es.length : Int) + sumL l < 0) = false := by simp; omega
    have hlen := rbB_len ((n, es, v), p, l, ()) x c s
    have ho : okL (rbB ((n, es, v), p, l, ()) x c s).1 = true := okL_of (by omega)
    have hk : okK 1 = true := by decide
    have hk2 : decide ((1 : Int) + ((rbB ((n, es, v), p, l, ()) x c s).1.length : Int) < 0) = false := by simp; omega
    simp only [toTimetable_eq n es v p l u _ g1 g2, G_reachedBy, g3, if_true, Option.bind_some, G_eqIntS, ho, decide_true, eqTimetable_self n es v p l () _ g1 g2, hmt, hk1, G_markIntS, G_heldIntS, hk, Bool.and_self, markL_ok ho, held_markL, hk2, beq_self_eq_true, bne_self_eq_false, Bool.not_true, Bool.false_eq_true, if_false]
    split <;> rfl
end Go.V.W

/- When a node is reached first, and over which nodes: plain facts. -/
set_option linter.unusedVariables false
set_option linter.unusedSimpArgs false
namespace Go.V.W

/-! ### the first number -/
theorem findF_cases (q : Nat → Bool) : ∀ (k i : Nat), (findF q k i = -1 ∧ ∀ j, i ≤ j → j < i + k → q j = false) ∨ ∃ j : Nat, findF q k i = (j : Int) ∧ i ≤ j ∧ j < i + k ∧ q j = true ∧ ∀ m, i ≤ m → m < j → q m = false := by
  intro k
  induction k with
  | zero => intro i; exact .inl ⟨rfl, fun j h1 h2 => by omega⟩
  | succ k ih =>
    intro i
    unfold findF
    by_cases h : q i = true
    · rw [if_pos h]
      exact .inr ⟨i, rfl, Nat.le_refl _, by omega, h, fun m h1 h2 => by omega⟩
    · rw [if_neg h]
      have h' : q i = false := by simpa using h
      rcases ih (i + 1) with ⟨h1, h2⟩ | ⟨j, h1, h2, h3, h4, h5⟩
      · refine .inl ⟨h1, fun j h3 h4 => ?_⟩
        by_cases e : j = i
        · rw [e]; exact h'
        · exact h2 j (by omega) (by omega)
      · refine .inr ⟨j, h1, by omega, by omega, h4, fun m h6 h7 => ?_⟩
        by_cases e : m = i
        · rw [e]; exact h'
        · exact h5 m (by omega) h7
/-- What holds somewhere before `a` and holds no later than `b` is found by both. -/
theorem findF_cap (q : Nat → Bool) {a b : Nat} (hab : a ≤ b) (hq : ∀ j, j < b → q j = true → ∃ m, m < a ∧ q m = true) : findF q a 0 = findF q b 0 := by
  rcases findF_cases q a 0 with ⟨h1, h2⟩ | ⟨j, h1, h2, h3, h4, h5⟩ <;> rcases findF_cases q b 0 with ⟨k1, k2⟩ | ⟨m, k1, k2, k3, k4, k5⟩
  · rw [h1, k1]
  · obtain ⟨m', h6, h7⟩ := hq m (by omega) k4
    rw [h2 m' (by omega) (by omega)] at h7
    cases h7
  · rw [k2 j (by omega) (by omega)] at h4
    cases h4
  · rw [h1, k1]
    have : j = m := by
      rcases Nat.lt_trichotomy j m with h | h | h
      · rw [k5 j (by omega) h] at h4
        cases h4
      · exact h
      · rw [h5 m (by omega) h] at k4
        cases k4
    rw [this]
theorem findF_eq (q : Nat → Bool) {k j : Nat} (h1 : j < k) (h2 : q j = true) (h3 : ∀ m, m < j → q m = false) : findF q k 0 = (j : Int) := by
  rcases findF_cases q k 0 with ⟨k1, k2⟩ | ⟨m, k1, k2, k3, k4, k5⟩
  · rw [k2 j (by omega) (by omega)] at h2
    cases h2
  · rw [k1]
    rcases Nat.lt_trichotomy j m with h | h | h
    · rw [k5 j (by omega) h] at h2
      cases h2
    · rw [h]
    · rw [h3 m h] at k4
      cases k4

/-! ### sets grow -/
theorem iter_mono {t : Tt} {c x : Int} {i y : Nat} (h : iterP t c x i y = true) : iterP t c x (i + 1) y = true := by
  show stepP _ _ _ y = true
  unfold stepP
  rw [h, Bool.true_or]
theorem iter_le {t : Tt} {c x : Int} {i j y : Nat} (hij : i ≤ j) (h : iterP t c x i y = true) : iterP t c x j y = true := by
  induction hij with
  | refl => exact h
  | step _ ih => exact iter_mono ih
theorem setF_sub {p q : Nat → Bool} : ∀ {k x : Nat}, (∀ y, x ≤ y → y < x + k → p y = true → q y = true) → (setF p k x).length ≤ (setF q k x).length ∧ ((setF p k x).length = (setF q k x).length → ∀ y, x ≤ y → y < x + k → p y = q y) := by
  intro k
  induction k with
  | zero => intro x _; exact ⟨Nat.le_refl _, fun _ y h1 h2 => by omega⟩
  | succ k ih =>
    intro x h
    obtain ⟨i1, i2⟩ := ih (x := x + 1) fun y h1 h2 => h y (by omega) (by omega)
    have hx := h x (Nat.le_refl _) (by omega)
    unfold setF
    by_cases hp : p x = true
    · have hq := hx hp
      rw [if_pos hp, if_pos hq]
      refine ⟨by simp; omega, fun e y h1 h2 => ?_⟩
      by_cases ey : y = x
      · rw [ey, hp, hq]
      · exact i2 (by simpa using e) y (by omega) (by omega)
    · have hp' : p x = false := by simpa using hp
      rw [if_neg hp]
      by_cases hq : q x = true
      · rw [if_pos hq]
        refine ⟨by simp; omega, fun e y h1 h2 => ?_⟩
        simp only [List.length_cons] at e
        omega
      · have hq' : q x = false := by simpa using hq
        rw [if_neg hq]
        refine ⟨i1, fun e y h1 h2 => ?_⟩
        by_cases ey : y = x
        · rw [ey, hp', hq']
        · exact i2 e y (by omega) (by omega)
theorem step_congr {es : List E} {n : Nat} {p q : Nat → Bool} (h : ∀ y, y < n → p y = q y) {y : Nat} (hy : y < n) : stepP es n p y = stepP es n q y := by
  unfold stepP
  rw [h y hy]
  congr 1
  apply Bool.eq_iff_iff.2
  simp only [List.any_eq_true, List.mem_range]
  constructor
  · rintro ⟨x, hx, h2⟩
    exact ⟨x, hx, by rw [← h x hx]; exact h2⟩
  · rintro ⟨x, hx, h2⟩
    exact ⟨x, hx, by rw [h x hx]; exact h2⟩
theorem tmod_add {c p : Int} (hc : 0 ≤ c) (hp : 0 ≤ p) : (c + p).tmod p = c.tmod p := by
  rw [Int.tmod_eq_emod_of_nonneg (by omega), Int.tmod_eq_emod_of_nonneg hc, Int.add_emod_right]
/-- A set that is the same a period later stays. -/
theorem iter_stay {t : Tt} {c x : Int} (hc : 0 ≤ c) {n p : Nat} (hn : n = t.1.1.toNat) (hp : t.2.1 = (p : Int)) (hp0 : 0 < p) {i : Nat} (h : ∀ y, y < n → iterP t c x (i + p) y = iterP t c x i y) : ∀ j y, y < n → iterP t c x (i + j) y = iterP t c x i y := by
  intro j
  induction j using Nat.strongRecOn with
  | ind j ih =>
    intro y hy
    by_cases hj : j ≤ p
    · apply Bool.eq_iff_iff.2
      constructor
      · intro h1
        rw [← h y hy]
        exact iter_le (by omega) h1
      · exact iter_le (by omega)
    · obtain ⟨m, rfl⟩ : ∃ m, j = m + p + 1 := ⟨j - p - 1, by omega⟩
      have e1 := ih (m + p) (by omega)
      have e2 := ih m (by omega)
      have e3 := ih (m + 1) (by omega) y hy
      rw [← e3]
      show stepP (openE t ((c + ((i + (m + p) : Nat) : Int)).tmod t.2.1)) t.1.1.toNat (iterP t c x (i + (m + p))) y = stepP (openE t ((c + ((i + m : Nat) : Int)).tmod t.2.1)) t.1.1.toNat (iterP t c x (i + m)) y
      have ec : (c + ((i + (m + p) : Nat) : Int)).tmod t.2.1 = (c + ((i + m : Nat) : Int)).tmod t.2.1 := by
        rw [show c + ((i + (m + p) : Nat) : Int) = (c + ((i + m : Nat) : Int)) + t.2.1 by rw [hp]; omega]
        exact tmod_add (by omega) (by omega)
      rw [ec]
      refine step_congr (fun y hy => ?_) (by omega)
      rw [e1 y (by omega), e2 y (by omega)]
/-- What is reached is reached within so many steps. -/
theorem iter_cap {t : Tt} {c x : Int} (hc : 0 ≤ c) {n p : Nat} (hn : n = t.1.1.toNat) (hp : t.2.1 = (p : Int)) (hp0 : 0 < p) (hx : 0 ≤ x) (hxn : x.toNat < n) {j y : Nat} (hy : y < n) (h : iterP t c x j y = true) : iterP t c x (n * p) y = true := by
  have key : ∀ k, (∀ j y, y < n → iterP t c x (k * p + j) y = iterP t c x (k * p) y) ∨ k + 1 ≤ (setF (iterP t c x (k * p)) n 0).length := by
    intro k
    induction k with
    | zero =>
      refine .inr ?_
      have h1 := setF_one (n := n) (x := x.toNat) hxn
      have h2 : setF (iterP t c x (0 * p)) n 0 = [((x.toNat : Nat) : Int)] := by
        rw [← h1]
        refine setF_congr fun y _ _ => ?_
        rw [Nat.zero_mul]
        show decide ((y : Int) = x) = _
        rw [show ((x.toNat : Nat) : Int) = x by omega]
      rw [h2]
      simp
    | succ k ih =>
      have e : (k + 1) * p = k * p + p := Nat.succ_mul k p
      rcases ih with ih | ih
      · refine .inl fun j y hy => ?_
        rw [e, Nat.add_assoc, ih _ y hy, ih _ y hy]
      · have hs := setF_sub (p := iterP t c x (k * p)) (q := iterP t c x ((k + 1) * p)) (k := n) (x := 0) fun y _ _ => iter_le (by omega)
        by_cases hl : (setF (iterP t c x (k * p)) n 0).length = (setF (iterP t c x ((k + 1) * p)) n 0).length
        · have hst := iter_stay (t := t) (c := c) (x := x) hc hn hp hp0 (i := k * p) fun y hy => by
            rw [← e]
            exact (hs.2 hl y (by omega) (by omega)).symm
          refine .inl fun j y hy => ?_
          rw [e, Nat.add_assoc, hst _ y hy, hst _ y hy]
        · exact .inr (by omega)
  rcases key n with hk | hk
  · by_cases hj : j ≤ n * p
    · exact iter_le hj h
    · have := hk (j - n * p) y hy
      rw [show n * p + (j - n * p) = j by omega] at this
      rw [← this]
      exact h
  · have := setF_len (p := iterP t c x (n * p)) (k := n) (x := 0)
    omega
/-- The greatest number of rounds that counts. -/
theorem arr_cap {t : Tt} {c x : Int} (hc : 0 ≤ c) {n p : Nat} (hn : n = t.1.1.toNat) (hp : t.2.1 = (p : Int)) (hp0 : 0 < p) (hn8 : n ≤ 8) (hp4 : p ≤ 4) (hx : 0 ≤ x) (hxn : x.toNat < n) {y : Nat} (hy : y < n) : findF (fun i => iterP t c x i y) (n * p + 1) 0 = findF (fun i => iterP t c x i y) 33 0 := by
  have : n * p ≤ 8 * 4 := Nat.mul_le_mul hn8 hp4
  exact findF_cap _ (by omega) fun j _ h => ⟨n * p, by omega, iter_cap hc hn hp hp0 hx hxn hy h⟩

/-! ### one step ahead -/
/-- From the first step on. -/
theorem iter_front {t : Tt} {n : Nat} (hn : n = t.1.1.toNat) : ∀ (k : Nat) (c : Int) (x y : Nat), x < n → y < n →
    (iterP t c (x : Int) (k + 1) y = true ↔ ∃ w : Nat, w < n ∧ (nearI (openE t (c.tmod t.2.1)) (x : Int) (w : Int) || decide (w = x)) = true ∧ iterP t (c + 1) (w : Int) k y = true) := by
  intro k
  induction k with
  | zero =>
    intro c x y hx hy
    show stepP (openE t ((c + ((0 : Nat) : Int)).tmod t.2.1)) t.1.1.toNat (fun y : Nat => decide ((y : Int) = (x : Int))) y = true ↔ _
    rw [show c + ((0 : Nat) : Int) = c by omega]
    unfold stepP
    simp only [Bool.or_eq_true, List.any_eq_true, List.mem_range, Bool.and_eq_true, decide_eq_true_eq]
    constructor
    · rintro (h | ⟨u, h1, h2, h3⟩)
      · exact ⟨y, hy, .inr (by omega), decide_eq_true rfl⟩
      · rw [h2] at h3
        exact ⟨y, hy, .inl h3, decide_eq_true rfl⟩
    · rintro ⟨w, h1, h2, h3⟩
      have e : w = y := by
        have : (y : Int) = (w : Int) := of_decide_eq_true h3
        omega
      subst e
      rcases h2 with h2 | h2
      · exact .inr ⟨x, by omega, rfl, h2⟩
      · exact .inl (by omega)
  | succ k ih =>
    intro c x y hx hy
    have ec : c + ((k + 1 : Nat) : Int) = c + 1 + (k : Int) := by omega
    have e1 : iterP t c (x : Int) (k + 1 + 1) y = stepP (openE t ((c + 1 + (k : Int)).tmod t.2.1)) t.1.1.toNat (iterP t c (x : Int) (k + 1)) y := by
      rw [← ec]
      rfl
    have e2 : ∀ w : Nat, iterP t (c + 1) (w : Int) (k + 1) y = stepP (openE t ((c + 1 + (k : Int)).tmod t.2.1)) t.1.1.toNat (iterP t (c + 1) (w : Int) k) y := fun w => rfl
    rw [e1]
    unfold stepP
    simp only [e2]
    unfold stepP
    simp only [Bool.or_eq_true, List.any_eq_true, List.mem_range, Bool.and_eq_true]
    constructor
    · rintro (h | ⟨u, h1, h2, h3⟩)
      · obtain ⟨w, k1, k2, k3⟩ := (ih c x y hx hy).1 h
        exact ⟨w, k1, by simpa using k2, .inl k3⟩
      · obtain ⟨w, k1, k2, k3⟩ := (ih c x u hx (by omega)).1 h2
        exact ⟨w, k1, by simpa using k2, .inr ⟨u, h1, k3, h3⟩⟩
    · rintro ⟨w, h1, h2, h3 | ⟨u, h3, h4, h5⟩⟩
      · exact .inl ((ih c x y hx hy).2 ⟨w, h1, by simpa using h2, h3⟩)
      · exact .inr ⟨u, h3, (ih c x u hx (by omega)).2 ⟨w, h1, by simpa using h2, h4⟩, h5⟩
theorem near_symm (es : List E) (a b : Int) : nearI es a b = nearI es b a := by
  unfold nearI
  congr 1
  funext e
  cases (e.1 == a && e.2.1 == b) <;> cases (e.1 == b && e.2.1 == a) <;> rfl
/-- The set from which a node is reached in so many steps, one step further back. -/
theorem back_step {t : Tt} {n : Nat} (hn : n = t.1.1.toNat) (c : Int) (k : Nat) {y : Nat} (hy : y < n) {z : Nat} (hz : z < n) :
    stepP (openE t (c.tmod t.2.1)) n (fun w => iterP t (c + 1) (w : Int) k y) z = iterP t c (z : Int) (k + 1) y := by
  apply Bool.eq_iff_iff.2
  rw [iter_front hn k c z y hz hy]
  unfold stepP
  simp only [Bool.or_eq_true, List.any_eq_true, List.mem_range, Bool.and_eq_true, decide_eq_true_eq]
  constructor
  · rintro (h | ⟨u, h1, h2, h3⟩)
    · exact ⟨z, hz, .inr rfl, h⟩
    · exact ⟨u, h1, .inl (by rw [near_symm]; exact h3), h2⟩
  · rintro ⟨w, h1, h2 | h2, h3⟩
    · exact .inr ⟨w, h1, h3, by rw [near_symm]; exact h2⟩
    · subst h2
      exact .inl h3
theorem isM_congr {n m : Nat} {p q : Nat → Bool} (h : ∀ y, y < n → p y = q y) (hm : isM n m p) : isM n m q := by
  refine ⟨hm.1, fun y => ?_⟩
  rw [hm.2 y]
  by_cases hy : y < n
  · rw [h y hy]
  · simp [hy]

/-! ### the first of a set -/
theorem firstF_spec {p : Nat → Bool} : ∀ {k x : Nat}, (∃ y, x ≤ y ∧ y < x + k ∧ p y = true) → x ≤ firstF p k x ∧ firstF p k x < x + k ∧ p (firstF p k x) = true := by
  intro k
  induction k with
  | zero => rintro x ⟨y, h1, h2, _⟩; omega
  | succ k ih =>
    rintro x ⟨y, h1, h2, h3⟩
    unfold firstF
    by_cases h : p x = true
    · rw [if_pos h]
      exact ⟨Nat.le_refl _, by omega, h⟩
    · rw [if_neg h]
      have : y ≠ x := fun e => h (e ▸ h3)
      obtain ⟨k1, k2, k3⟩ := ih (x := x + 1) ⟨y, by omega, by omega, h3⟩
      exact ⟨by omega, by omega, k3⟩
theorem firstF_congr {p q : Nat → Bool} : ∀ {k x : Nat}, (∀ y, x ≤ y → y < x + k → p y = q y) → firstF p k x = firstF q k x := by
  intro k
  induction k with
  | zero => intro x _; rfl
  | succ k ih =>
    intro x h
    unfold firstF
    rw [h x (Nat.le_refl _) (by omega), ih (x := x + 1) fun y h1 h2 => h y (by omega) (by omega)]
theorem setF_first {p : Nat → Bool} : ∀ {k x : Nat}, (∃ y, x ≤ y ∧ y < x + k ∧ p y = true) → ∃ tl, setF p k x = (firstF p k x : Int) :: tl := by
  intro k
  induction k with
  | zero => rintro x ⟨y, h1, h2, _⟩; omega
  | succ k ih =>
    rintro x ⟨y, h1, h2, h3⟩
    unfold firstF setF
    by_cases h : p x = true
    · rw [if_pos h, if_pos h]
      exact ⟨_, rfl⟩
    · rw [if_neg h, if_neg h]
      have : y ≠ x := fun e => h (e ▸ h3)
      exact ih (x := x + 1) ⟨y, by omega, by omega, h3⟩
/-- The first of a set's list with a property. -/
theorem setF_find {p q : Nat → Bool} : ∀ {k x : Nat}, (∃ y, x ≤ y ∧ y < x + k ∧ (p y && q y) = true) →
    ∃ j, j < (setF p k x).length ∧ (setF p k x)[j]? = some (firstF (fun y => p y && q y) k x : Int) ∧ ∀ m, m < j → ∃ w : Nat, x ≤ w ∧ w < x + k ∧ (setF p k x)[m]? = some (w : Int) ∧ p w = true ∧ q w = false := by
  intro k
  induction k with
  | zero => rintro x ⟨y, h1, h2, _⟩; omega
  | succ k ih =>
    rintro x ⟨y, h1, h2, h3⟩
    unfold firstF setF
    by_cases h : (p x && q x) = true
    · have hp : p x = true := (Bool.and_eq_true _ _ ▸ h).1
      rw [if_pos h, if_pos hp]
      exact ⟨0, by simp, by simp, fun m hm => by omega⟩
    · rw [if_neg h]
      have : y ≠ x := fun e => h (e ▸ h3)
      obtain ⟨j, k1, k2, k3⟩ := ih (x := x + 1) ⟨y, by omega, by omega, h3⟩
      by_cases hp : p x = true
      · rw [if_pos hp]
        have hq : q x = false := by
          cases hq : q x with
          | false => rfl
          | true => rw [hp, hq] at h; exact absurd rfl h
        refine ⟨j + 1, by simp; omega, by simpa using k2, fun m hm => ?_⟩
        cases m with
        | zero => exact ⟨x, Nat.le_refl _, by omega, by simp, hp, hq⟩
        | succ m =>
          obtain ⟨w, w1, w2, w3, w4, w5⟩ := k3 m (by omega)
          exact ⟨w, by omega, by omega, by simpa using w3, w4, w5⟩
      · rw [if_neg hp]
        refine ⟨j, k1, k2, fun m hm => ?_⟩
        obtain ⟨w, w1, w2, w3, w4, w5⟩ := k3 m hm
        exact ⟨w, by omega, by omega, w3, w4, w5⟩
end Go.V.W

/- Arriving, told plainly; the law FnExactEarliestArrival on plain data. -/
set_option linter.unusedVariables false
set_option linter.unusedSimpArgs false
namespace Go.V.W
open Go.Proofs

theorem ends_spec (t : Tt) (x y c : Int) (w : Unit) (ho : okT t = true) : F_spec_l11Ends 0 (t, x, y, c, w) = some (endsB t x y && inB 0 1000 c, ()) := by
  unfold F_spec_l11Ends G_l11Good endsB
  simp only [ho, if_true, Option.bind_some, clock_spec]
  cases ht : timeB t with
  | false => rfl
  | true =>
    obtain ⟨n1, n2, n3, n4, n5, n6, n7⟩ := time_facts ht (Int.le_refl 0)
    simp only [node_spec t.1 x () (by omega) (by omega), node_spec t.1 y () (by omega) (by omega)]
    cases inB 0 (t.1.1 - 1) x <;> cases inB 0 (t.1.1 - 1) y <;> rfl
theorem ends_impl (t : Tt) (x y c : Int) (w : Unit) (ho : okT t = true) : F_impl_isTimed 0 (t, c, [x, y], w) = some (endsB t x y && inB 0 1000 c, ()) := by
  unfold F_impl_isTimed endsB
  simp only [implT t _ ho, Option.bind_some, clock_impl]
  cases ht : timeB t with
  | false => rfl
  | true =>
    obtain ⟨n1, n2, n3, n4, n5, n6, n7⟩ := time_facts ht (Int.le_refl 0)
    have hw : IntKind.wrap .i64 (t.1.1 - 1) = t.1.1 - 1 := wrap_in _ (by omega) (by omega)
    have : okL [x, y] = true := okL_of (by simp)
    cases hc : inB 0 1000 c with
    | false => cases inB 0 (t.1.1 - 1) x <;> cases inB 0 (t.1.1 - 1) y <;> rfl
    | true => simp only [hw, G_allWithin, this, if_true, Option.bind_some, List.all_cons, List.all_nil, Bool.and_true, Bool.true_and]
theorem ends_parts {t : Tt} {x y : Int} (h : endsB t x y = true) : timeB t = true ∧ x = (x.toNat : Int) ∧ y = (y.toNat : Int) ∧ x.toNat < t.1.1.toNat ∧ y.toNat < t.1.1.toNat := by
  unfold endsB at h
  simp only [Bool.and_eq_true] at h
  obtain ⟨⟨h1, h2⟩, h3⟩ := h
  obtain ⟨n1, n2, n3, n4, n5, n6, n7⟩ := time_facts h1 (Int.le_refl 0)
  have h2 := inB_iff.1 h2
  have h3 := inB_iff.1 h3
  exact ⟨h1, by omega, by omega, by omega, by omega⟩
theorem reached_step {t : Tt} {c x : Int} (ht : timeB t = true) (ho : okT t = true) (h0 : 0 ≤ c) (i : Nat) (h1 : c + (i : Int) ≤ 5000) :
    G_l11Reached (t, setF (iterP t c x i) t.1.1.toNat 0, c + (i : Int), ()) = some (setF (iterP t c x (i + 1)) t.1.1.toNat 0, ()) := by
  obtain ⟨n1, n2, n3, n4, n5, n6, n7⟩ := time_facts ht h0
  have hset : okSet t.1.1 (setF (iterP t c x i) t.1.1.toNat 0) = true := by
    unfold okSet
    have := setF_len (p := iterP t c x i) (k := t.1.1.toNat) (x := 0)
    simp only [Bool.and_eq_true, decide_eq_true_eq, List.all_eq_true]
    refine ⟨by omega, fun z hz => ?_⟩
    obtain ⟨y, hy, rfl⟩ := setF_nat z hz
    exact inB_iff.2 (by omega)
  have a1 : decide (0 ≤ c + (i : Int)) = true := by simp; omega
  have a2 : decide (c + (i : Int) ≤ 5000) = true := by simp; omega
  simp only [G_l11Reached, ht, ho, a1, a2, hset, Bool.and_self, if_true, reachL_set]
  rfl
theorem has_setF {p : Nat → Bool} {n y : Nat} (hn : n ≤ 8) (hy : y < n) : G_l1Has (setF p n 0, (y : Int), ()) = some (p y, ()) := by
  have := setF_len (p := p) (k := n) (x := 0)
  have ho : okL (setF p n 0) = true := okL_of (by omega)
  simp only [G_l1Has, ho, if_true, any_setF hy]
theorem l11Arrive_l0 (N : Nat) (t : Tt) (c x : Int) (y p : Nat) (ht : timeB t = true) (ho : okT t = true) (h0 : 0 ≤ c) (h1 : c ≤ 2000) (hy : y < t.1.1.toNat) (hp : t.2.1 = (p : Int)) (hp4 : p ≤ 4) : ∀ (k i f : Nat), i + k = t.1.1.toNat * p + 1 → k < f →
    spec_l11Arrive_l0 N f ((y : Int), c, t, setF (iterP t c x i) t.1.1.toNat 0, (i : Int), ()) = if findF (fun i => iterP t c x i y) k i < 0 then some (.inr (.inl ())) else some (.inl (findF (fun i => iterP t c x i y) k i, ())) := by
  obtain ⟨n1, n2, n3, n4, n5, n6, n7⟩ := time_facts ht h0
  have hnp : t.1.1.toNat * p ≤ 8 * 4 := Nat.mul_le_mul n3 hp4
  have hm : IntKind.wrap .i64 (t.1.1 * t.2.1) = ((t.1.1.toNat * p : Nat) : Int) := by
    rw [hp, n1, Int.toNat_natCast, ← Int.natCast_mul]
    exact wrap_in _ (by omega) (by omega)
  intro k
  induction k with
  | zero =>
    intro i f e1 e2
    obtain ⟨f, rfl⟩ : ∃ m, f = m + 1 := ⟨f - 1, by omega⟩
    show spec_l11Arrive_l0_r N (spec_l11Arrive_l0 N f) ((y : Int), c, t, setF (iterP t c x i) t.1.1.toNat 0, (i : Int), ()) = _
    unfold spec_l11Arrive_l0_r
    have : decide ((i : Int) ≤ ((t.1.1.toNat * p : Nat) : Int)) = false := by simp only [decide_eq_false_iff_not]; omega
    simp only [hm, this, Bool.false_eq_true, if_false, findF]
    rfl
  | succ k ih =>
    intro i f e1 e2
    obtain ⟨f, rfl⟩ : ∃ m, f = m + 1 := ⟨f - 1, by omega⟩
    show spec_l11Arrive_l0_r N (spec_l11Arrive_l0 N f) ((y : Int), c, t, setF (iterP t c x i) t.1.1.toNat 0, (i : Int), ()) = _
    unfold spec_l11Arrive_l0_r
    have hle : decide ((i : Int) ≤ ((t.1.1.toNat * p : Nat) : Int)) = true := by simp only [decide_eq_true_eq]; omega
    have hw : IntKind.wrap .i64 ((i : Int) + 1) = ((i + 1 : Nat) : Int) := by
      rw [wrap_in _ (by omega) (by omega)]
      rfl
    have hw2 : IntKind.wrap .i64 (c + (i : Int)) = c + (i : Int) := wrap_in _ (by omega) (by omega)
    simp only [hm, hle, if_true, has_setF n3 hy, Option.bind_some, hw, hw2, reached_step ht ho h0 i (by omega), findF]
    by_cases hh : iterP t c x i y = true
    · have : ¬ (i : Int) < 0 := by omega
      simp only [hh, if_true, this, if_false]
    · simp only [hh, if_false]
      exact ih (i + 1) f (by omega) (by omega)
theorem one_set {t : Tt} {c x : Int} (hx : x = (x.toNat : Int)) (hxn : x.toNat < t.1.1.toNat) : setF (iterP t c x 0) t.1.1.toNat 0 = [x] := by
  have := setF_one (n := t.1.1.toNat) (x := x.toNat) hxn
  rw [← hx] at this
  exact this
theorem l11Arrive_lim (d) (r) (h : G_l11Arrive d = some r) : ∃ N, F_spec_l11Arrive N d = some r := by
  obtain ⟨t, x, y, c, _⟩ := d
  unfold G_l11Arrive at h
  split at h
  · rename_i hc
    simp only [Bool.and_eq_true] at hc
    obtain ⟨⟨ho, he⟩, hc⟩ := hc
    have hc := inB_iff.1 hc
    obtain ⟨ht, ex, ey, hx, hy⟩ := ends_parts he
    have h := Option.some.inj h
    subst h
    obtain ⟨g1, g2, g3, g4⟩ := timeB_parts ht
    have g3 := inB_iff.1 g3
    obtain ⟨n1, n2, n3, n4, n5, n6, n7⟩ := time_facts ht (Int.le_refl 0)
    have hp : t.2.1 = (t.2.1.toNat : Int) := by omega
    have hnp : t.1.1.toNat * t.2.1.toNat ≤ 8 * 4 := Nat.mul_le_mul n3 (by omega)
    refine ⟨100, ?_⟩
    unfold F_spec_l11Arrive
    have := l11Arrive_l0 100 t c x y.toNat t.2.1.toNat ht ho hc.1 hc.2 hy hp (by omega) (t.1.1.toNat * t.2.1.toNat + 1) 0 100 (by omega) (by omega)
    rw [one_set ex hx, ← ey, arr_cap hc.1 rfl hp (by omega) n3 (by omega) (by omega) hx hy] at this
    simp only [Int.natCast_zero] at this
    simp only [this]
    show Option.bind (if arrI t c x y < 0 then _ else _) _ = some (arrI t c x y, ())
    rcases findF_cases (fun i => iterP t c x i y.toNat) 33 0 with ⟨k1, k2⟩ | ⟨j, k1, k2, k3, k4, k5⟩
    · have e : arrI t c x y = -1 := k1
      rw [e]
      rfl
    · have e : arrI t c x y = (j : Int) := k1
      have : ¬ (j : Int) < 0 := by omega
      rw [e, if_neg this]
      simp only [Option.bind_some]
      exact congrArg (fun z : Int => some (z, ())) k1
  · cases h
theorem earliestArrival_l0 (N : Nat) (t : Tt) (c x : Int) (y : Nat) (ht : timeB t = true) (h0 : 0 ≤ c) (h1 : c ≤ 1000) (hy : y < t.1.1.toNat) : ∀ (k i f m : Nat), i + k = 33 → k < f → isM t.1.1.toNat m (iterP t c x i) →
    impl_earliestArrival_l0 N f ((y : Int), c, t, netsL t, (m : Int), (i : Int), ()) = if findF (fun i => iterP t c x i y) k i < 0 then some (.inr (.inl ())) else some (.inl (findF (fun i => iterP t c x i y) k i, true, ())) := by
  intro k
  induction k with
  | zero =>
    intro i f m e1 e2 hm
    obtain ⟨f, rfl⟩ : ∃ m, f = m + 1 := ⟨f - 1, by omega⟩
    have e : i = 33 := by omega
    subst e
    rfl
  | succ k ih =>
    intro i f m e1 e2 hm
    obtain ⟨f, rfl⟩ : ∃ m, f = m + 1 := ⟨f - 1, by omega⟩
    obtain ⟨n1, n2, n3, n4, n5, n6, n7⟩ := time_facts (c := c + (i : Int)) ht (by omega)
    show impl_earliestArrival_l0_r N (impl_earliestArrival_l0 N f) ((y : Int), c, t, netsL t, (m : Int), (i : Int), ()) = _
    unfold impl_earliestArrival_l0_r
    have hlt : decide ((i : Int) < 33) = true := by simp only [decide_eq_true_eq]; omega
    have hw : IntKind.wrap .i64 ((i : Int) + 1) = ((i + 1 : Nat) : Int) := by
      rw [wrap_in _ (by omega) (by omega)]
      rfl
    have hw2 : IntKind.wrap .i64 (c + (i : Int)) = c + (i : Int) := wrap_in _ (by omega) (by omega)
    have hok := netN_ok (n := t.1.1.toNat) (by omega) n7
    have hsm := small_toI hok n3
    have b1 : decide (0 ≤ (m : Int)) = true := nonneg_dec m
    have b2 : decide ((m : Int) < 256) = true := by
      have := hm.1
      simp
      omega
    have hbit : m.testBit y = iterP t c x i y := by
      rw [hm.2 y]
      simp [hy]
    simp only [hlt, if_true, nonneg_dec, shr_bit hm.1 (show y < 8 by omega), hbit, n4, hw2, n5, n6, G_around, hsm, b1, b2, Bool.and_self, Option.bind_some, hw, toI_from, toI_len, hok.1, Int.toNat_natCast, findF]
    by_cases hh : iterP t c x i y = true
    · have : ¬ (i : Int) < 0 := by omega
      simp only [hh, if_true, this, if_false]
    · simp only [hh, if_false]
      exact ih (i + 1) f _ (by omega) (by omega) (around_isM n3 n7 hm)
theorem one_mask {t : Tt} {c x : Int} (ht : timeB t = true) (hx : x = (x.toNat : Int)) (hxn : x.toNat < t.1.1.toNat) : shl .i64 1 x = ((2 ^ x.toNat : Nat) : Int) ∧ isM t.1.1.toNat (2 ^ x.toNat) (iterP t c x 0) := by
  obtain ⟨n1, n2, n3, n4, n5, n6, n7⟩ := time_facts ht (Int.le_refl 0)
  constructor
  · rw [hx]
    exact shl_one (by omega)
  · have one := one_isM (n := t.1.1.toNat) (x := x.toNat) n3 hxn
    rw [← hx] at one
    exact one
theorem openNets_some {t : Tt} (ht : timeB t = true) (ho : okT t = true) : G_openNets (t, ()) = some (netsL t, ()) := by
  unfold G_openNets
  rw [if_pos (by rw [ht, ho]; rfl)]
theorem earliestArrival_lim (d) (r) (h : G_earliestArrival d = some r) : ∃ N, F_impl_earliestArrival N d = some r := by
  obtain ⟨t, x, y, c, _⟩ := d
  unfold G_earliestArrival at h
  split at h
  · rename_i hc
    simp only [Bool.and_eq_true] at hc
    obtain ⟨⟨ho, he⟩, hc⟩ := hc
    have hc := inB_iff.1 hc
    obtain ⟨ht, ex, ey, hx, hy⟩ := ends_parts he
    have h := Option.some.inj h
    subst h
    obtain ⟨hsh, one⟩ := one_mask (c := c) ht ex hx
    refine ⟨100, ?_⟩
    unfold F_impl_earliestArrival
    have := earliestArrival_l0 100 t c x y.toNat ht hc.1 hc.2 hy 33 0 100 _ (by omega) (by omega) one
    rw [← ey, ← hsh] at this
    simp only [Int.natCast_zero] at this
    have hx0 : decide (0 ≤ x) = true := by simp; omega
    simp only [openNets_some ht ho, Option.bind_some, hx0, if_true, this]
    show Option.bind (if arrI t c x y < 0 then _ else _) _ = some (if arrI t c x y < 0 then _ else _)
    by_cases e : arrI t c x y < 0
    · rw [if_pos e, if_pos e]
      rfl
    · rw [if_neg e, if_neg e]
      rfl
  · cases h

/-! ### the law -/
def earB (t : Tt) (x y c : Int) : Int × Bool × Unit := if (endsB t x y && inB 0 1000 c) = true then eaB t x y c else (0, false, ())
theorem specEA (t : Tt) (x y c : Int) (w : Unit) (ho : okT t = true) : F_spec_EarliestArrival 0 (t, x, y, c, w) = some (earB t x y c) := by
  unfold F_spec_EarliestArrival earB
  simp only [ends_spec t x y c _ ho, Option.bind_some]
  cases he : endsB t x y with
  | false => rfl
  | true =>
    cases hc : inB 0 1000 c with
    | false => rfl
    | true =>
      have hc' := inB_iff.1 hc
      have h2 : inB 0 2000 c = true := inB_iff.2 (by omega)
      simp only [Bool.and_self, Bool.not_true, Bool.false_eq_true, if_false, if_true, G_l11Arrive, ho, he, h2, Option.bind_some, eaB]
      by_cases e : arrI t c x y < 0
      · have : decide (arrI t c x y ≥ 0) = false := by simp; omega
        rw [if_pos e, this]
        rfl
      · have : decide (arrI t c x y ≥ 0) = true := by simp; omega
        rw [if_neg e, this]
        rfl
theorem implEA (t : Tt) (x y c : Int) (w : Unit) (ho : okT t = true) : F_impl_EarliestArrival 0 (t, x, y, c, w) = some (earB t x y c) := by
  unfold F_impl_EarliestArrival earB
  simp only [ends_impl t x y c _ ho, Option.bind_some]
  cases he : endsB t x y with
  | false => rfl
  | true =>
    cases hc : inB 0 1000 c with
    | false => rfl
    | true => simp only [Bool.and_self, Bool.not_true, Bool.false_eq_true, if_false, if_true, G_earliestArrival, ho, he, hc, Option.bind_some]
theorem law9 : ∀ d, WfD (Kd.tuple ([(K_PPiSPiiqqiSSiq, false), (I, false), (I, false), (I, false)].map (·.1))) d → ∃ out, F_laws_FnExactEarliestArrival 0 d = some out ∧ (splitT [.bool] [] out).1.1 = true := by
  rintro ⟨⟨⟨n, es, v⟩, p, l, u⟩, x, y, c, w⟩ ⟨⟨⟨_, he, _⟩, _, hl, _⟩, _⟩
  have he : es.length ≤ maxLen := he.1
  have hl1 : l.length ≤ maxLen := hl.1
  have hl2 : ∀ x ∈ l, x.length ≤ maxLen := fun x hx => (hl.2 x hx).1
  refine ⟨(true, ()), ?_, rfl⟩
  unfold F_laws_FnExactEarliestArrival
  obtain ⟨r, h1, h2⟩ := szTimetable_neg n es v p l u () he hl1 hl2
  simp only [h1, Option.bind_some]
  rcases h2 with h2 | ⟨h2, h3, h4⟩
  · simp only [h2, decide_true, if_true]
  · have g1 := okL_of h2
    have g2 := okLL_small h3 h4
    have g3 : okT ((n, es, v), p, l, ()) = true := by simp only [okT, g1, g2, Bool.and_self]
    simp only [toTimetable_eq n es v p l u _ g1 g2, specEA _ _ _ _ _ g3, implEA _ _ _ _ _ g3, eqTimetable_self n es v p l () _ g1 g2, Option.bind_some, beq_self_eq_true, bne_self_eq_false, Bool.not_true, Bool.false_eq_true, if_false]
    split <;> rfl
end Go.V.W

/- Trips, told plainly; the law FnExactEarliestTrip on plain data. -/
set_option linter.unusedVariables false
set_option linter.unusedSimpArgs false
namespace Go.V.W
open Go.Proofs

theorem ends_of {t : Tt} (ht : timeB t = true) {x y : Nat} (hx : x < t.1.1.toNat) (hy : y < t.1.1.toNat) : endsB t (x : Int) (y : Int) = true := by
  obtain ⟨n1, n2, n3, n4, n5, n6, n7⟩ := time_facts ht (Int.le_refl 0)
  unfold endsB
  have h1 : inB 0 (t.1.1 - 1) (x : Int) = true := inB_iff.2 (by omega)
  have h2 : inB 0 (t.1.1 - 1) (y : Int) = true := inB_iff.2 (by omega)
  simp only [ht, h1, h2, Bool.and_self]
/-- A node is reached first after so many steps. -/
def isA (t : Tt) (c : Int) (z y k : Nat) : Prop := iterP t c (z : Int) k y = true ∧ ∀ m, m < k → iterP t c (z : Int) m y = false
def stepB (t : Tt) (c : Int) (z : Nat) (w : Nat) : Bool := nearI (openE t (c.tmod t.2.1)) (z : Int) (w : Int) || decide (w = z)
theorem isA_arr {t : Tt} {c : Int} {z y k : Nat} (hk : k < 33) (h : isA t c z y k) : arrI t c (z : Int) (y : Int) = (k : Int) := by
  unfold arrI
  simp only [Int.toNat_natCast]
  exact findF_eq _ hk h.1 h.2
theorem arr_isA {t : Tt} {c : Int} {z y k : Nat} (h : arrI t c (z : Int) (y : Int) = (k : Int)) : k < 33 ∧ isA t c z y k := by
  unfold arrI at h
  simp only [Int.toNat_natCast] at h
  rcases findF_cases (fun i => iterP t c (z : Int) i y) 33 0 with ⟨k1, k2⟩ | ⟨j, k1, k2, k3, k4, k5⟩
  · omega
  · have : j = k := by omega
    subst this
    exact ⟨by omega, k4, fun m hm => k5 m (by omega) hm⟩
theorem isA_next {t : Tt} {c : Int} {z y k : Nat} (hz : z < t.1.1.toNat) (hy : y < t.1.1.toNat) (h : isA t c z y (k + 1)) {v : Nat} (hv : v < t.1.1.toNat) (hb : stepB t c z v = true) (hi : iterP t (c + 1) (v : Int) k y = true) : isA t (c + 1) v y k := by
  refine ⟨hi, fun m hm => ?_⟩
  cases hh : iterP t (c + 1) (v : Int) m y with
  | false => rfl
  | true =>
    have := (iter_front rfl m c z y hz hy).2 ⟨v, hv, hb, hh⟩
    rw [h.2 (m + 1) (by omega)] at this
    cases this
theorem isA_some {t : Tt} {c : Int} {z y k : Nat} (hz : z < t.1.1.toNat) (hy : y < t.1.1.toNat) (h : isA t c z y (k + 1)) : ∃ w, 0 ≤ w ∧ w < 0 + t.1.1.toNat ∧ (stepB t c z w && iterP t (c + 1) (w : Int) k y) = true := by
  obtain ⟨w, h1, h2, h3⟩ := (iter_front rfl k c z y hz hy).1 h.1
  exact ⟨w, Nat.zero_le _, by omega, by rw [Bool.and_eq_true]; exact ⟨h2, h3⟩⟩
def nextW (t : Tt) (c : Int) (z y k : Nat) : Nat := firstF (fun w => stepB t c z w && iterP t (c + 1) (w : Int) k y) t.1.1.toNat 0
theorem nextW_spec {t : Tt} {c : Int} {z y k : Nat} (hz : z < t.1.1.toNat) (hy : y < t.1.1.toNat) (h : isA t c z y (k + 1)) : nextW t c z y k < t.1.1.toNat ∧ isA t (c + 1) (nextW t c z y k) y k := by
  have hs := firstF_spec (isA_some hz hy h)
  have e : firstF (fun w => stepB t c z w && iterP t (c + 1) (w : Int) k y) t.1.1.toNat 0 = nextW t c z y k := rfl
  rw [e] at hs
  obtain ⟨h1, h2, h3⟩ := hs
  simp only [Bool.and_eq_true] at h3
  exact ⟨by omega, isA_next hz hy h (by omega) h3.1 h3.2⟩
theorem tripL_succ (t : Tt) (y k : Nat) (c : Int) (z : Nat) : tripL t (y : Int) (k + 1) c z = (nextW t c z y k : Int) :: tripL t (y : Int) k (c + 1) (nextW t c z y k) := rfl

/-! ### the reference -/
theorem at_some {l : List Int} {j : Nat} {v : Int} (h : l[j]? = some v) : at_ I l j = v ∧ j < l.length := by
  have hj : j < l.length := by
    rcases Nat.lt_or_ge j l.length with h' | h'
    · exact h'
    · rw [List.getElem?_eq_none h'] at h
      cases h
  refine ⟨?_, hj⟩
  have e : at_ I l j = l[j] := at_get (e := I) hj
  rw [e]
  rw [List.getElem?_eq_getElem hj] at h
  exact Option.some.inj h
theorem ball_eq (g : Gr) (n : Nat) (hg : g.1 = (n : Int)) (hn : n ≤ 8) (ho : okL g.2.1 = true) (z : Int) : F_spec_l2Ball 0 (g, z, ()) = some (ballL n g.2.1 z, ()) := by
  unfold F_spec_l2Ball G_l2Neighbors G_l1Put
  have a2 : okS1 (setF (fun y => nearI g.2.1 z (y : Int)) n 0) = true := by
    have := setF_len (p := fun y => nearI g.2.1 z (y : Int)) (k := n) (x := 0)
    exact decide_eq_true (by omega)
  have a3 : (okL g.2.1 && decide (0 ≤ (n : Int)) && decide ((n : Int) ≤ 8)) = true := by
    rw [ho]
    simp
    omega
  simp only [hg, a3, if_true, Int.toNat_natCast, Option.bind_some, a2, ballL]
theorem specTrip_l2 (N : Nat) (t : Tt) (c : Int) (y i k z : Nat) (out ball : List Int) (j0 : Nat) (ht : timeB t = true) (ho : okT t = true) (h0 : 0 ≤ c) (h1 : c ≤ 1000) (hi : i ≤ 40) (hk : k < 33) (hy : y < t.1.1.toNat) (hz : z < t.1.1.toNat) (hA : isA t (c + (i : Int)) z y (k + 1)) (hl : ball.length ≤ 8)
    (hj0 : ball[j0]? = some (nextW t (c + (i : Int)) z y k : Int)) (hpre : ∀ m, m < j0 → ∃ w : Nat, w < t.1.1.toNat ∧ ball[m]? = some (w : Int) ∧ iterP t (c + (i : Int) + 1) (w : Int) k y = false) : ∀ (q j f : Nat), j + q = j0 → q < f →
    spec_EarliestTrip_l2 N f ((y : Int), c, t, ((i + 1 + k : Nat) : Int), out, (i : Int), ball, (j : Int), ()) = some (.inl ((y : Int), c, t, ((i + 1 + k : Nat) : Int), out, (i : Int), ball, (j0 : Int), ())) := by
  have hw1 : IntKind.wrap .i64 (c + (i : Int)) = c + (i : Int) := wrap_in _ (by omega) (by omega)
  have hw2 : IntKind.wrap .i64 (c + (i : Int) + 1) = c + (i : Int) + 1 := wrap_in _ (by omega) (by omega)
  have hw3 : IntKind.wrap .i64 (((i + 1 + k : Nat) : Int) - (i : Int)) = (k : Int) + 1 := by
    rw [wrap_in _ (by omega) (by omega)]
    omega
  have hw4 : IntKind.wrap .i64 ((k : Int) + 1 - 1) = (k : Int) := by
    rw [wrap_in _ (by omega) (by omega)]
    omega
  have hc2 : inB 0 2000 (c + (i : Int) + 1) = true := inB_iff.2 (by omega)
  intro q
  induction q with
  | zero =>
    intro j f e1 e2
    obtain ⟨f, rfl⟩ : ∃ m, f = m + 1 := ⟨f - 1, by omega⟩
    have e : j = j0 := by omega
    subst e
    obtain ⟨a1, a2⟩ := at_some hj0
    obtain ⟨w1, w2⟩ := nextW_spec hz hy hA
    show spec_EarliestTrip_l2_r N (spec_EarliestTrip_l2 N f) ((y : Int), c, t, ((i + 1 + k : Nat) : Int), out, (i : Int), ball, (j : Int), ()) = _
    unfold spec_EarliestTrip_l2_r
    simp only [idxIn_nat a2, if_true, hw1, hw2, hw3, hw4, Int.toNat_natCast, a1, G_l11Arrive, ho, ends_of ht w1 hy, hc2, Bool.and_self, Option.bind_some, isA_arr hk w2, bne_self_eq_false, Bool.false_eq_true, if_false]
  | succ q ih =>
    intro j f e1 e2
    obtain ⟨f, rfl⟩ : ∃ m, f = m + 1 := ⟨f - 1, by omega⟩
    obtain ⟨w, w1, w2, w3⟩ := hpre j (by omega)
    obtain ⟨a1, a2⟩ := at_some w2
    have hne : (arrI t (c + (i : Int) + 1) (w : Int) (y : Int) != (k : Int)) = true := by
      rw [bne_iff_ne]
      intro e
      have := (arr_isA e).2.1
      rw [w3] at this
      cases this
    have hw : IntKind.wrap .i64 ((j : Int) + 1) = ((j + 1 : Nat) : Int) := by
      rw [wrap_in _ (by omega) (by omega)]
      rfl
    show spec_EarliestTrip_l2_r N (spec_EarliestTrip_l2 N f) ((y : Int), c, t, ((i + 1 + k : Nat) : Int), out, (i : Int), ball, (j : Int), ()) = _
    unfold spec_EarliestTrip_l2_r
    simp only [idxIn_nat a2, if_true, hw1, hw2, hw3, hw4, Int.toNat_natCast, a1, G_l11Arrive, ho, ends_of ht w1 hy, hc2, Bool.and_self, Option.bind_some, hne, hw]
    exact ih (j + 1) f (by omega) (by omega)
theorem at_last {pre : List Int} {z : Int} : at_ I (pre ++ [z]) pre.length = z := (at_some (by simp)).1
theorem open_some {t : Tt} (ht : timeB t = true) (ho : okT t = true) {c : Int} (h0 : 0 ≤ c) (h1 : c ≤ 5000) : G_l11Open (t, c, ()) = some ((t.1.1, openE t (c.tmod t.2.1), ()), ()) := by
  unfold G_l11Open
  have e1 : decide (0 ≤ c) = true := by simp; omega
  have e2 : decide (c ≤ 5000) = true := by simp; omega
  rw [if_pos (by simp only [ht, ho, e1, e2, Bool.and_self])]
theorem openE_okL {t : Tt} (ho : okT t = true) (r : Int) : okL (openE t r) = true := by
  have hlen := selE_len t.1.2.1 t.2.2.1 r
  have := okL_lim (okT_parts ho).1
  exact decide_eq_true (Nat.le_trans hlen this)
theorem specTrip_l0 (N : Nat) (hN : 50 ≤ N) (t : Tt) (c : Int) (y a : Nat) (ht : timeB t = true) (ho : okT t = true) (h0 : 0 ≤ c) (h1 : c ≤ 1000) (ha : a < 33) (hy : y < t.1.1.toNat) : ∀ (k : Nat) (pre : List Int) (z f : Nat), pre.length + k = a → k < f → z < t.1.1.toNat → isA t (c + (pre.length : Int)) z y k →
    spec_EarliestTrip_l0 N f ((y : Int), c, t, (a : Int), pre ++ [(z : Int)], (pre.length : Int), ()) = some (.inl (pre ++ [(z : Int)] ++ tripL t (y : Int) k (c + (pre.length : Int)) z, ())) := by
  intro k
  induction k with
  | zero =>
    intro pre z f e1 e2 hz hA
    obtain ⟨f, rfl⟩ : ∃ m, f = m + 1 := ⟨f - 1, by omega⟩
    have e : a = pre.length := by omega
    subst e
    simp [spec_EarliestTrip_l0, spec_EarliestTrip_l0_r, tripL]
  | succ k ih =>
    intro pre z f e1 e2 hz hA
    obtain ⟨f, rfl⟩ : ∃ m, f = m + 1 := ⟨f - 1, by omega⟩
    obtain ⟨n1, n2, n3, n4, n5, n6, n7⟩ := time_facts ht (c := c + (pre.length : Int)) (by omega)
    obtain ⟨w1, w2⟩ := nextW_spec hz hy hA
    have hi : pre.length < a := by omega
    have ea : a = pre.length + 1 + k := by omega
    have hw1 : IntKind.wrap .i64 (c + (pre.length : Int)) = c + (pre.length : Int) := wrap_in _ (by omega) (by omega)
    have hw : IntKind.wrap .i64 ((pre.length : Int) + 1) = ((pre.length + 1 : Nat) : Int) := by
      rw [wrap_in _ (by omega) (by omega)]
      rfl
    have hball : F_spec_l2Ball 0 ((t.1.1, openE t ((c + (pre.length : Int)).tmod t.2.1), ()), (z : Int), ()) = some (setF (stepB t (c + (pre.length : Int)) z) t.1.1.toNat 0, ()) := by
      rw [ball_eq (t.1.1, openE t ((c + (pre.length : Int)).tmod t.2.1), ()) t.1.1.toNat n1 n3 (openE_okL ho _) (z : Int)]
      show some (ballL t.1.1.toNat (openE t ((c + (pre.length : Int)).tmod t.2.1)) (z : Int), ()) = _
      rw [ballL_set hz]
      rfl
    obtain ⟨j0, j1, j2, j3⟩ := setF_find (p := stepB t (c + (pre.length : Int)) z) (q := fun w => iterP t (c + (pre.length : Int) + 1) (w : Int) k y) (isA_some hz hy hA)
    have hlen := setF_len (p := stepB t (c + (pre.length : Int)) z) (k := t.1.1.toNat) (x := 0)
    have hin := specTrip_l2 N t c y pre.length k z (pre ++ [(z : Int)]) (setF (stepB t (c + (pre.length : Int)) z) t.1.1.toNat 0) j0 ht ho h0 h1 (by omega) (by omega) hy hz hA (by omega) j2 (fun m hm => by
      obtain ⟨w, b1, b2, b3, b4, b5⟩ := j3 m hm
      exact ⟨w, by omega, b3, b5⟩) j0 0 N (by omega) (by omega)
    rw [← ea] at hin
    simp only [Int.natCast_zero] at hin
    have hle : ∀ v : Int, decide (List.length (pre ++ [(z : Int)]) + List.length [v] ≤ lim) = true := fun v => by
      unfold lim
      simp
      omega
    have hidx : idxIn (pre.length : Int) (List.length (pre ++ [(z : Int)])) = true := idxIn_nat (by simp)
    show spec_EarliestTrip_l0_r N (spec_EarliestTrip_l0 N f) ((y : Int), c, t, (a : Int), pre ++ [(z : Int)], (pre.length : Int), ()) = _
    unfold spec_EarliestTrip_l0_r
    simp only [lt_dec hi, if_true, hw1, open_some ht ho (show 0 ≤ c + (pre.length : Int) by omega) (show c + (pre.length : Int) ≤ 5000 by omega), Option.bind_some, hidx, Int.toNat_natCast, at_last, hball, hin, idxIn_nat j1, (at_some j2).1, hle, hw]
    have := ih (pre ++ [(z : Int)]) (nextW t (c + (pre.length : Int)) z y k) f (by simp; omega) (by omega) w1 (by
      rw [show c + ((pre ++ [(z : Int)]).length : Int) = c + (pre.length : Int) + 1 by simp; omega]
      exact w2)
    rw [show c + ((pre ++ [(z : Int)]).length : Int) = c + (pre.length : Int) + 1 by simp; omega] at this
    rw [tripL_succ]
    simp only [List.length_append, List.length_singleton] at this
    refine this.trans ?_
    simp
theorem specTrip_lim (d) (r) (h : G_earliestTrip d = some r) : ∃ N, F_spec_EarliestTrip N d = some r := by
  obtain ⟨t, x, y, c, _⟩ := d
  unfold G_earliestTrip at h
  split at h
  · rename_i ho
    have ho : okT t = true := ho
    have h := Option.some.inj h
    subst h
    refine ⟨100, ?_⟩
    unfold F_spec_EarliestTrip tripB
    simp only [ends_spec t x y c _ ho, Option.bind_some]
    cases he : endsB t x y with
    | false => rfl
    | true =>
      cases hc : inB 0 1000 c with
      | false => rfl
      | true =>
        have hc' := inB_iff.1 hc
        have h2 : inB 0 2000 c = true := inB_iff.2 (by omega)
        obtain ⟨ht, ex, ey, hx, hy⟩ := ends_parts he
        simp only [Bool.and_self, Bool.not_true, Bool.false_eq_true, if_false, G_l11Arrive, ho, he, h2, if_true, Option.bind_some, Bool.true_and]
        by_cases e : arrI t c x y < 0
        · have a1 : decide (0 ≤ arrI t c x y) = false := by simp; omega
          have a2 : decide (arrI t c x y < 0) = true := by simp; omega
          simp only [a1, a2, if_true, Bool.false_eq_true, if_false]
        · have a1 : decide (0 ≤ arrI t c x y) = true := by simp; omega
          have a2 : decide (arrI t c x y < 0) = false := by simp; omega
          simp only [a1, a2, if_true, Bool.false_eq_true, if_false]
          have ea : arrI t c x y = ((arrI t c x y).toNat : Int) := by omega
          have hA : arrI t c ((x.toNat : Nat) : Int) ((y.toNat : Nat) : Int) = ((arrI t c x y).toNat : Int) := by
            rw [← ex, ← ey]
            exact ea
          obtain ⟨k1, k2⟩ := arr_isA hA
          have := specTrip_l0 100 (by omega) t c y.toNat (arrI t c x y).toNat ht ho hc'.1 hc'.2 k1 hy (arrI t c x y).toNat [] x.toNat 100 (by simp) (by omega) hx (by simpa using k2)
          simp only [List.length_nil, Int.natCast_zero, List.nil_append, Int.add_zero] at this
          rw [← ea, ← ex, ← ey] at this
          simp only [this, Option.bind_some, List.singleton_append]
  · cases h

/-! ### the program -/
theorem getD_set_ne {l : List Nat} {i j v : Nat} (h : i ≠ j) : (l.set i v).getD j 0 = l.getD j 0 := by
  simp [List.getD_eq_getElem?_getD, List.getElem?_set, h]
theorem getD_set_eq {l : List Nat} {i v : Nat} (h : i < l.length) : (l.set i v).getD i 0 = v := by
  simp [List.getD_eq_getElem?_getD, List.getElem?_set, h]
def goodP (t : Tt) (c : Int) (a y j : Nat) (z : Nat) : Bool := iterP t (c + (j : Int)) (z : Int) (a - j) y
theorem implTrip_l0 (N : Nat) (t : Tt) (c x : Int) (a y : Nat) (ht : timeB t = true) (h0 : 0 ≤ c) (h1 : c ≤ 1000) (ha : a < 33) (hy : y < t.1.1.toNat) : ∀ (k f : Nat) (gs : List Nat), k ≤ a → k < f → gs.length = a + 1 → (∀ j, k ≤ j → j ≤ a → isM t.1.1.toNat (gs.getD j 0) (goodP t c a y j)) →
    ∃ gs', impl_EarliestTrip_l0 N f (x, c, t, (a : Int), netsL t, toI gs, (k : Int) - 1, ()) = some (.inl (x, c, t, (a : Int), netsL t, toI gs', ())) ∧ gs'.length = a + 1 ∧ ∀ j, j ≤ a → isM t.1.1.toNat (gs'.getD j 0) (goodP t c a y j) := by
  intro k
  induction k with
  | zero =>
    intro f gs e1 e2 e3 hg
    obtain ⟨f, rfl⟩ : ∃ m, f = m + 1 := ⟨f - 1, by omega⟩
    exact ⟨gs, rfl, e3, fun j hj => hg j (by omega) hj⟩
  | succ k ih =>
    intro f gs e1 e2 e3 hg
    obtain ⟨f, rfl⟩ : ∃ m, f = m + 1 := ⟨f - 1, by omega⟩
    obtain ⟨n1, n2, n3, n4, n5, n6, n7⟩ := time_facts (c := c + (k : Int)) ht (by omega)
    have hok := netN_ok (n := t.1.1.toNat) (by omega) n7
    have hsm := small_toI hok n3
    have hm := hg (k + 1) (by omega) (by omega)
    have b1 : decide (0 ≤ ((gs.getD (k + 1) 0 : Nat) : Int)) = true := nonneg_dec _
    have b2 : decide (((gs.getD (k + 1) 0 : Nat) : Int) < 256) = true := by
      have := hm.1
      simp only [decide_eq_true_eq]
      omega
    have hnew : isM t.1.1.toNat (arN (netN t.1.1.toNat (openE t ((c + (k : Int)).tmod t.2.1))) (gs.getD (k + 1) 0) t.1.1.toNat 0 (gs.getD (k + 1) 0)) (goodP t c a y k) := by
      refine isM_congr (fun z hz => ?_) (around_isM n3 n7 hm)
      have hb := back_step (t := t) (n := t.1.1.toNat) rfl (c + (k : Int)) (a - (k + 1)) hy hz
      rw [show a - (k + 1) + 1 = a - k by omega] at hb
      unfold goodP
      rw [← hb, show c + ((k + 1 : Nat) : Int) = c + (k : Int) + 1 by omega]
    obtain ⟨gs', g1, g2, g3⟩ := ih f (gs.set k (arN (netN t.1.1.toNat (openE t ((c + (k : Int)).tmod t.2.1))) (gs.getD (k + 1) 0) t.1.1.toNat 0 (gs.getD (k + 1) 0))) (by omega) (by omega) (by simpa using e3) (fun j hj1 hj2 => by
      by_cases ej : j = k
      · subst ej
        rw [getD_set_eq (by omega)]
        exact hnew
      · rw [getD_set_ne (by omega)]
        exact hg j (by omega) hj2)
    refine ⟨gs', ?_, g2, g3⟩
    rw [← g1]
    have ek : ((k + 1 : Nat) : Int) - 1 = (k : Int) := by omega
    have hw : IntKind.wrap .i64 ((k : Int) + 1) = ((k + 1 : Nat) : Int) := by
      rw [wrap_in _ (by omega) (by omega)]
      rfl
    have hw1 : IntKind.wrap .i64 (c + (k : Int)) = c + (k : Int) := wrap_in _ (by omega) (by omega)
    have hw3 : IntKind.wrap .i64 ((k : Int) - 1) = (k : Int) - 1 := wrap_in _ (by omega) (by omega)
    have i1 : idxIn ((k + 1 : Nat) : Int) gs.length = true := idxIn_nat (by omega)
    have i2 : idxIn (k : Int) gs.length = true := idxIn_nat (by omega)
    have hge : decide ((k : Int) ≥ 0) = true := nonneg_dec k
    rw [ek]
    show impl_EarliestTrip_l0_r N (impl_EarliestTrip_l0 N f) (x, c, t, (a : Int), netsL t, toI gs, (k : Int), ()) = _
    unfold impl_EarliestTrip_l0_r
    simp only [hge, if_true, n4, hw1, n5, n6, hw, hw3, toI_len, i1, i2, Int.toNat_natCast, at_toI, G_around, hsm, b1, b2, Bool.and_self, Option.bind_some, toI_from, hok.1, toI_set]
theorem closed_eq {t : Tt} (ht : timeB t = true) {c : Int} (h0 : 0 ≤ c) {z : Nat} (hz : z < t.1.1.toNat) :
    ∃ m : Nat, F_impl_net_closed 0 ((toI (netN t.1.1.toNat (openE t (c.tmod t.2.1))), ()), (z : Int), ()) = some ((m : Int), ()) ∧ isM t.1.1.toNat m (stepB t c z) := by
  obtain ⟨n1, n2, n3, n4, n5, n6, n7⟩ := time_facts (c := c) ht h0
  have hok := netN_ok (n := t.1.1.toNat) (by omega) n7
  have hp := pow_small (show z < 8 by omega)
  refine ⟨(netN t.1.1.toNat (openE t (c.tmod t.2.1))).getD z 0 ||| 2 ^ z, ?_, Nat.or_lt_two_pow (n := 8) (hok.2 z) hp, fun w => ?_⟩
  · unfold F_impl_net_closed
    have i1 : idxIn (z : Int) (netN t.1.1.toNat (openE t (c.tmod t.2.1))).length = true := idxIn_nat (by rw [hok.1]; exact hz)
    simp only [toI_len, i1, if_true, nonneg_dec, Int.toNat_natCast, at_toI, shl_one (show z < 8 by omega), bits_or (hok.2 z) hp]
  · rw [Nat.testBit_or, Nat.testBit_two_pow]
    have hb := netN_bit n3 n7 z w
    unfold hasN at hb
    rw [hb, isE_near _ n7]
    unfold stepB
    apply Bool.eq_iff_iff.2
    simp only [Bool.or_eq_true, Bool.and_eq_true, decide_eq_true_eq]
    constructor
    · rintro (h | h)
      · exact ⟨near_lt n7 h, .inl h⟩
      · subst h
        exact ⟨hz, .inr rfl⟩
    · rintro ⟨h1, h2 | h2⟩
      · exact .inl h2
      · exact .inr h2.symm
theorem isM_and {n m m' : Nat} {p q : Nat → Bool} (h1 : isM n m p) (h2 : isM n m' q) : isM n (m &&& m') (fun y => p y && q y) := by
  refine ⟨Nat.lt_of_le_of_lt Nat.and_le_left h1.1, fun y => ?_⟩
  rw [Nat.testBit_and, h1.2 y, h2.2 y]
  show _ = (decide (y < n) && (p y && q y))
  cases decide (y < n) <;> cases p y <;> cases q y <;> rfl
theorem implTrip_l2 (N : Nat) (t : Tt) (c : Int) (y a : Nat) (gs : List Nat) (ht : timeB t = true) (h0 : 0 ≤ c) (h1 : c ≤ 1000) (ha : a < 33) (hy : y < t.1.1.toNat) (hgl : gs.length = a + 1) (hgs : ∀ j, j ≤ a → isM t.1.1.toNat (gs.getD j 0) (goodP t c a y j)) : ∀ (k i z f : Nat) (out : List Int), i + k = a → k < f → out.length + k ≤ 100 → z < t.1.1.toNat → isA t (c + (i : Int)) z y k →
    impl_EarliestTrip_l2 N f ((z : Int), c, t, netsL t, toI gs, out, (a : Int), (i : Int), ()) = some (.inl (out ++ tripL t (y : Int) k (c + (i : Int)) z, ())) := by
  intro k
  induction k with
  | zero =>
    intro i z f out e1 e2 e3 hz hA
    obtain ⟨f, rfl⟩ : ∃ m, f = m + 1 := ⟨f - 1, by omega⟩
    have e : i = a := by omega
    subst e
    simp [impl_EarliestTrip_l2, impl_EarliestTrip_l2_r, tripL]
  | succ k ih =>
    intro i z f out e1 e2 e3 hz hA
    obtain ⟨f, rfl⟩ : ∃ m, f = m + 1 := ⟨f - 1, by omega⟩
    obtain ⟨n1, n2, n3, n4, n5, n6, n7⟩ := time_facts (c := c + (i : Int)) ht (by omega)
    obtain ⟨w1, w2⟩ := nextW_spec hz hy hA
    have hi : i < a := by omega
    have hw : IntKind.wrap .i64 ((i : Int) + 1) = ((i + 1 : Nat) : Int) := by
      rw [wrap_in _ (by omega) (by omega)]
      rfl
    have hw1 : IntKind.wrap .i64 (c + (i : Int)) = c + (i : Int) := wrap_in _ (by omega) (by omega)
    obtain ⟨m, c1, c2⟩ := closed_eq (c := c + (i : Int)) ht (by omega) hz
    have hg := hgs (i + 1) (by omega)
    have hM := isM_and c2 hg
    have i1 : idxIn ((i + 1 : Nat) : Int) gs.length = true := idxIn_nat (by omega)
    have b1 : decide (0 ≤ ((m &&& gs.getD (i + 1) 0 : Nat) : Int)) = true := nonneg_dec _
    have b2 : decide (((m &&& gs.getD (i + 1) 0 : Nat) : Int) < 256) = true := by
      have := hM.1
      simp only [decide_eq_true_eq]
      omega
    have hset : ∃ tl, setF (fun w => (m &&& gs.getD (i + 1) 0).testBit w) 8 0 = (nextW t (c + (i : Int)) z y k : Int) :: tl := by
      rw [setF_mask n3 hM]
      have ef : setF (fun w => stepB t (c + (i : Int)) z w && goodP t c a y (i + 1) w) t.1.1.toNat 0 = setF (fun w => stepB t (c + (i : Int)) z w && iterP t (c + (i : Int) + 1) (w : Int) k y) t.1.1.toNat 0 := by
        refine setF_congr fun w _ _ => ?_
        unfold goodP
        rw [show c + ((i + 1 : Nat) : Int) = c + (i : Int) + 1 by omega, show a - (i + 1) = k by omega]
      rw [ef]
      exact setF_first (isA_some hz hy hA)
    obtain ⟨tl, htl⟩ := hset
    have hle : ∀ v : Int, decide (List.length out + List.length [v] ≤ lim) = true := fun v => by
      unfold lim
      simp
      omega
    have hidx : ∀ v : Int, idxIn (0 : Int) (List.length (v :: tl)) = true := fun v => idxIn_nat (i := 0) (by simp)
    have hat : ∀ v : Int, at_ I (v :: tl) (0 : Int).toNat = v := fun v => (at_some (j := 0) (by simp)).1
    show impl_EarliestTrip_l2_r N (impl_EarliestTrip_l2 N f) ((z : Int), c, t, netsL t, toI gs, out, (a : Int), (i : Int), ()) = _
    unfold impl_EarliestTrip_l2_r
    simp only [lt_dec hi, if_true, n4, hw1, n5, n6, c1, Option.bind_some, hw, toI_len, i1, Int.toNat_natCast, at_toI, bits_and c2.1 hg.1, G_setOf, b1, b2, Bool.and_self, htl, hidx, hle, hat]
    have := ih (i + 1) (nextW t (c + (i : Int)) z y k) f (out ++ [(nextW t (c + (i : Int)) z y k : Int)]) (by omega) (by omega) (by simp; omega) w1 (by
      rw [show c + ((i + 1 : Nat) : Int) = c + (i : Int) + 1 by omega]
      exact w2)
    rw [show c + ((i + 1 : Nat) : Int) = c + (i : Int) + 1 by omega] at this
    rw [tripL_succ]
    refine this.trans ?_
    simp
theorem implTrip_lim (d) (r) (h : G_earliestTrip d = some r) : ∃ N, F_impl_EarliestTrip N d = some r := by
  obtain ⟨t, x, y, c, _⟩ := d
  unfold G_earliestTrip at h
  split at h
  · rename_i ho
    have ho : okT t = true := ho
    have h := Option.some.inj h
    subst h
    refine ⟨100, ?_⟩
    unfold F_impl_EarliestTrip tripB
    simp only [ends_impl t x y c _ ho, Option.bind_some]
    cases he : endsB t x y with
    | false => rfl
    | true =>
      cases hc : inB 0 1000 c with
      | false => rfl
      | true =>
        have hc' := inB_iff.1 hc
        obtain ⟨ht, ex, ey, hx, hy⟩ := ends_parts he
        obtain ⟨n1, n2, n3, n4, n5, n6, n7⟩ := time_facts ht (Int.le_refl 0)
        simp only [Bool.and_self, Bool.not_true, Bool.false_eq_true, if_false, G_earliestArrival, ho, he, hc, if_true, Option.bind_some, Bool.true_and, eaB]
        by_cases e : arrI t c x y < 0
        · have a1 : decide (0 ≤ arrI t c x y) = false := by simp; omega
          simp only [a1, e, if_true, Bool.not_false, Bool.false_eq_true, if_false]
        · have a1 : decide (0 ≤ arrI t c x y) = true := by simp; omega
          simp only [a1, e, if_true, Bool.not_true, Bool.false_eq_true, if_false, openNets_some ht ho, Option.bind_some]
          have hA : arrI t c ((x.toNat : Nat) : Int) ((y.toNat : Nat) : Int) = ((arrI t c x y).toNat : Int) := by
            rw [← ex, ← ey]
            omega
          obtain ⟨k1, k2⟩ := arr_isA hA
          have ea : arrI t c x y = ((arrI t c x y).toNat : Int) := by omega
          rw [ea]
          simp only [Int.toNat_natCast]
          generalize (arrI t c x y).toNat = a at k1 k2
          have hw : IntKind.wrap .i64 ((a : Int) + 1) = ((a + 1 : Nat) : Int) := by
            rw [wrap_in _ (by omega) (by omega)]
            rfl
          have hw3 : IntKind.wrap .i64 ((a : Int) - 1) = (a : Int) - 1 := wrap_in _ (by omega) (by omega)
          have hlim : decide (((a + 1 : Nat) : Int) ≤ (lim : Int)) = true := by
            unfold lim
            simp only [decide_eq_true_eq]
            omega
          have hle : decide (((a + 1 : Nat) : Int) ≤ ((a + 1 : Nat) : Int)) = true := decide_eq_true (Int.le_refl _)
          have hy0 : decide (0 ≤ y) = true := by simp; omega
          have hidx : idxIn (a : Int) (List.replicate (a + 1) 0).length = true := idxIn_nat (by simp)
          have hsh : shl .i64 1 y = ((2 ^ y.toNat : Nat) : Int) := (one_mask (c := c) ht ey hy).1
          have hone : isM t.1.1.toNat (2 ^ y.toNat) (goodP t c a y.toNat a) := by
            refine isM_congr (fun z hz => ?_) (one_isM n3 hy)
            unfold goodP
            rw [Nat.sub_self]
            show decide ((z : Int) = (y.toNat : Int)) = decide ((y.toNat : Int) = (z : Int))
            exact decide_eq_decide.2 eq_comm
          obtain ⟨gs, g1, g2, g3⟩ := implTrip_l0 100 t c x a y.toNat ht hc'.1 hc'.2 k1 hy a 100 ((List.replicate (a + 1) 0).set a (2 ^ y.toNat)) (Nat.le_refl _) (by omega) (by simp) (fun j hj1 hj2 => by
            have : j = a := by omega
            subst this
            rw [getD_set_eq (by simp)]
            exact hone)
          have h2 := implTrip_l2 100 t c y.toNat a gs ht hc'.1 hc'.2 k1 hy g2 g3 a 0 x.toNat 100 [x] (by omega) (by omega) (by simp; omega) hx (by simpa using k2)
          simp only [Int.natCast_zero, Int.add_zero] at h2
          rw [← ex, ← ey] at h2
          simp only [hw, hw3, nonneg_dec, hle, hlim, Bool.and_self, if_true, Int.toNat_natCast, hy0, hidx, hsh, toI_zero, toI_len, toI_set, List.length_replicate, idxIn_nat (show a < a + 1 by omega), g1, Option.bind_some, h2, List.singleton_append]
  · cases h

/-! ### the law -/
theorem tripL_len (t : Tt) (y : Int) : ∀ (k : Nat) (c : Int) (z : Nat), (tripL t y k c z).length = k := by
  intro k
  induction k with
  | zero => intro c z; rfl
  | succ k ih => intro c z; simp [tripL, ih]
theorem tripB_len (t : Tt) (x y c : Int) : (tripB t x y c).1.length ≤ 34 := by
  unfold tripB
  split
  · have : arrI t c x y < 33 := by
      rcases findF_cases (fun i => iterP t c x i y.toNat) 33 0 with ⟨k1, k2⟩ | ⟨j, k1, k2, k3, k4, k5⟩
      · have e : arrI t c x y = -1 := k1
        omega
      · have e : arrI t c x y = (j : Int) := k1
        omega
    simp only [List.length_cons, tripL_len]
    omega
  · simp
theorem law12 : ∀ d, WfD (Kd.tuple ([(K_PPiSPiiqqiSSiq, false), (I, false), (I, false), (I, false)].map (·.1))) d → ∃ out, F_laws_FnExactEarliestTrip 0 d = some out ∧ (splitT [.bool] [] out).1.1 = true := by
  rintro ⟨⟨⟨n, es, v⟩, p, l, u⟩, x, y, c, w⟩ ⟨⟨⟨_, he, _⟩, _, hl, _⟩, _⟩
  have he : es.length ≤ maxLen := he.1
  have hl1 : l.length ≤ maxLen := hl.1
  have hl2 : ∀ x ∈ l, x.length ≤ maxLen := fun x hx => (hl.2 x hx).1
  refine ⟨(true, ()), ?_, rfl⟩
  unfold F_laws_FnExactEarliestTrip
  obtain ⟨r, h1, h2⟩ := szTimetable_neg n es v p l u () he hl1 hl2
  simp only [h1, Option.bind_some]
  rcases h2 with h2 | ⟨h2, h3, h4⟩
  · simp only [h2, decide_true, if_true]
  · have g1 := okL_of h2
    have g2 := okLL_small h3 h4
    have g3 : okT ((n, es, v), p, l, ()) = true := by simp only [okT, g1, g2, Bool.and_self]
    have hs := sumL_le l h4
    have hs0 := sumL_nonneg l
    have hmt := markTimetable_eq n es v p l () () 1 g1 g2 (by decide) (okK_small (by omega) (by omega)) (okK_small (by omega) (by omega))
    have hk1 : decide ((1 : Int) + 2 * (es.length : Int) + sumL l < 0) = false := by simp; omega
    have hlen := tripB_len ((n, es, v), p, l, ()) x y c
    have ho : okL (tripB ((n, es, v), p, l, ()) x y c).1 = true := okL_of (by omega)
    have hk : okK 1 = true := by decide
    have hk2 : decide ((1 : Int) + ((tripB ((n, es, v), p, l, ()) x y c).1.length : Int) < 0) = false := by simp; omega
    simp only [toTimetable_eq n es v p l u _ g1 g2, G_earliestTrip, g3, if_true, Option.bind_some, G_eqIntS, ho, decide_true, eqTimetable_self n es v p l () _ g1 g2, hmt, hk1, G_markIntS, G_heldIntS, hk, Bool.and_self, markL_ok ho, held_markL, hk2, beq_self_eq_true, bne_self_eq_false, Bool.not_true, Bool.false_eq_true, if_false]
    split <;> rfl
end Go.V.W

/- Tables of times: plain facts. -/
set_option linter.unusedVariables false
set_option linter.unusedSimpArgs false
namespace Go.V.W

theorem tabL_len (n : Nat) (f : Nat → Nat → Int) : (tabL n f).length = n := by simp [tabL]
theorem tabL_row {n c : Nat} (f : Nat → Nat → Int) (h : c < n) : (tabL n f)[c]? = some ((List.range n).map fun r => f c r) := by
  unfold tabL
  rw [List.getElem?_map, List.getElem?_range h]
  rfl
theorem rowR_get {n r : Nat} (g : Nat → Int) (h : r < n) : ((List.range n).map g)[r]? = some (g r) := by
  rw [List.getElem?_map, List.getElem?_range h]
  rfl
theorem tab2_tabL {n c r : Nat} (f : Nat → Nat → Int) (hc : c < n) (hr : r < n) : tab2 (tabL n f) (c : Int) (r : Int) = f c r := by
  unfold tab2
  simp only [Int.toNat_natCast, List.getD_eq_getElem?_getD, tabL_row f hc, Option.getD_some, rowR_get _ hr]
theorem tabL_congr {n : Nat} {f g : Nat → Nat → Int} (h : ∀ c r, c < n → r < n → f c r = g c r) : tabL n f = tabL n g := by
  unfold tabL
  refine List.map_congr_left fun c hc => List.map_congr_left fun r hr => h c r (List.mem_range.1 hc) (List.mem_range.1 hr)

/-! ### worst and best -/
theorem worst_congr {f g : Int → Int} : ∀ {l : List Int} {m : Int}, (∀ x ∈ l, f x = g x) → worstL f l m = worstL g l m := by
  intro l
  induction l with
  | nil => intro m _; rfl
  | cons b bs ih =>
    intro m h
    simp only [worstL, h b (by simp)]
    rw [ih fun x hx => h x (by simp [hx])]
/-- The greatest of all, or -1. -/
theorem worst_spec (f : Int → Int) : ∀ (l : List Int) (m : Int), (∃ x ∈ l, f x < 0) ∧ worstL f l m = -1 ∨ (∀ x ∈ l, 0 ≤ f x ∧ f x ≤ worstL f l m) ∧ m ≤ worstL f l m ∧ (worstL f l m = m ∨ ∃ x ∈ l, worstL f l m = f x) := by
  intro l
  induction l with
  | nil => intro m; exact .inr ⟨fun x hx => by simp at hx, Int.le_refl _, .inl rfl⟩
  | cons b bs ih =>
    intro m
    simp only [worstL]
    by_cases hb : f b < 0
    · rw [if_pos hb]
      exact .inl ⟨⟨b, by simp, hb⟩, rfl⟩
    · rw [if_neg hb]
      rcases ih (if m < f b then f b else m) with ⟨⟨x, hx, h1⟩, h2⟩ | ⟨h1, h2, h3⟩
      · exact .inl ⟨⟨x, by simp [hx], h1⟩, h2⟩
      · have hge : m ≤ (if m < f b then f b else m) ∧ f b ≤ (if m < f b then f b else m) := by split <;> omega
        refine .inr ⟨fun x hx => ?_, by omega, ?_⟩
        · rcases List.mem_cons.1 hx with rfl | hx
          · omega
          · exact h1 x hx
        · rcases h3 with h3 | ⟨x, hx, h3⟩
          · by_cases hm : m < f b
            · rw [if_pos hm] at h3 ⊢
              exact .inr ⟨b, by simp, h3⟩
            · rw [if_neg hm] at h3 ⊢
              exact .inl h3
          · exact .inr ⟨x, by simp [hx], h3⟩
theorem best_spec (g : Int → Int) : ∀ (l : List Int) (b : Int), (bestL g l b = b ∨ ∃ x ∈ l, 0 ≤ g x ∧ bestL g l b = g x) ∧ ((∃ x ∈ l, 0 ≤ g x) → 0 ≤ bestL g l b) := by
  intro l
  induction l with
  | nil => intro b; exact ⟨.inl rfl, fun ⟨x, hx, _⟩ => by simp at hx⟩
  | cons x xs ih =>
    intro b
    simp only [bestL]
    by_cases h : g x ≥ 0 ∧ (b < 0 ∨ g x < b)
    · rw [if_pos h]
      obtain ⟨h1, h2⟩ := ih (g x)
      refine ⟨?_, fun _ => ?_⟩
      · rcases h1 with h1 | ⟨y, hy, h3, h4⟩
        · exact .inr ⟨x, by simp, h.1, h1⟩
        · exact .inr ⟨y, by simp [hy], h3, h4⟩
      · rcases h1 with h1 | ⟨y, hy, h3, h4⟩ <;> omega
    · rw [if_neg h]
      obtain ⟨h1, h2⟩ := ih b
      refine ⟨?_, fun ⟨y, hy, h3⟩ => ?_⟩
      · rcases h1 with h1 | ⟨y, hy, h3, h4⟩
        · exact .inl h1
        · exact .inr ⟨y, by simp [hy], h3, h4⟩
      · rcases List.mem_cons.1 hy with rfl | hy
        · have : 0 ≤ b := by omega
          rcases h1 with h1 | ⟨z, hz, h4, h5⟩ <;> omega
        · exact h2 ⟨y, hy, h3⟩

/-! ### the rounds -/
/-- The balls hold nodes alone. -/
def okBall (n : Nat) (ball : Int → List Int) : Prop := ∀ x : Nat, x < n → ∀ z ∈ ball (x : Int), ∃ y : Nat, y < n ∧ z = (y : Int)
/-- What holds before the round t. -/
structure InvT (n : Nat) (ball : Int → List Int) (t : Nat) (f : Nat → Nat → Int) : Prop where
  pos : 1 ≤ t
  low : ∀ c r, c < n → r < n → -1 ≤ f c r
  high : ∀ c r, c < n → r < n → f c r < (t : Int)
  none : ∀ c r, c < n → r < n → f c r < 0 → ∀ b ∈ ball (c : Int), ¬ (0 ≤ afterT ball (tabL n f) b (r : Int) ∧ afterT ball (tabL n f) b (r : Int) < (t : Int) - 1)
theorem after_high {n : Nat} {ball : Int → List Int} (hb : okBall n ball) {t : Nat} {f : Nat → Nat → Int} (hI : InvT n ball t f) {c r : Nat} (hc : c < n) (hr : r < n) {b : Int} (hbm : b ∈ ball (c : Int)) : afterT ball (tabL n f) b (r : Int) ≤ (t : Int) - 1 := by
  have hp := hI.pos
  unfold afterT
  split
  · omega
  · obtain ⟨b', hb1, rfl⟩ := hb c hc b hbm
    rcases worst_spec (tab2 (tabL n f) (b' : Int)) (ball (r : Int)) 0 with ⟨_, h⟩ | ⟨_, _, h | ⟨x, hx, h⟩⟩
    · omega
    · omega
    · obtain ⟨y, hy, rfl⟩ := hb r hr x hx
      rw [tab2_tabL f hb1 hy] at h
      have := hI.high b' y hb1 hy
      omega
theorem best_round {n : Nat} {ball : Int → List Int} (hb : okBall n ball) {t : Nat} {f : Nat → Nat → Int} (hI : InvT n ball t f) {c r : Nat} (hc : c < n) (hr : r < n) (hf : f c r < 0) :
    (canF n ball f c r = true ∧ bestL (fun b => afterT ball (tabL n f) b (r : Int)) (ball (c : Int)) (-1) = (t : Int) - 1) ∨ (canF n ball f c r = false ∧ bestL (fun b => afterT ball (tabL n f) b (r : Int)) (ball (c : Int)) (-1) = -1) := by
  have hp := hI.pos
  obtain ⟨h1, h2⟩ := best_spec (fun b => afterT ball (tabL n f) b (r : Int)) (ball (c : Int)) (-1)
  have hcan : canF n ball f c r = (ball (c : Int)).any fun b => decide (0 ≤ afterT ball (tabL n f) b (r : Int)) := by
    unfold canF
    simp [hf]
  by_cases h : ∃ x ∈ ball (c : Int), 0 ≤ afterT ball (tabL n f) x (r : Int)
  · refine .inl ⟨?_, ?_⟩
    · rw [hcan, List.any_eq_true]
      obtain ⟨x, hx, h3⟩ := h
      exact ⟨x, hx, decide_eq_true h3⟩
    · have h3 := h2 h
      rcases h1 with h1 | ⟨x, hx, h4, h5⟩
      · omega
      · have h6 := hI.none c r hc hr hf x hx
        have h7 := after_high hb hI hc hr hx
        have h5' : bestL (fun b => afterT ball (tabL n f) b (r : Int)) (ball (c : Int)) (-1) = afterT ball (tabL n f) x (r : Int) := h5
        omega
  · refine .inr ⟨?_, ?_⟩
    · rw [hcan]
      cases ha : (ball (c : Int)).any fun b => decide (0 ≤ afterT ball (tabL n f) b (r : Int)) with
      | false => rfl
      | true =>
        rw [List.any_eq_true] at ha
        obtain ⟨x, hx, h3⟩ := ha
        exact absurd ⟨x, hx, of_decide_eq_true h3⟩ h
    · rcases h1 with h1 | ⟨x, hx, h4, h5⟩
      · exact h1
      · exact absurd ⟨x, hx, h4⟩ h
theorem InvT.next {n : Nat} {ball : Int → List Int} (hb : okBall n ball) {t : Nat} {f : Nat → Nat → Int} (hI : InvT n ball t f) : InvT n ball (t + 1) (stepF n ball (t : Int) f) := by
  have hp := hI.pos
  refine ⟨by omega, fun c r hc hr => ?_, fun c r hc hr => ?_, fun c r hc hr hf b hbm => ?_⟩
  · unfold stepF
    split
    · omega
    · exact hI.low c r hc hr
  · unfold stepF
    split
    · omega
    · have := hI.high c r hc hr; omega
  · rintro ⟨h1, h2⟩
    have hst : stepF n ball (t : Int) f c r = f c r ∧ canF n ball f c r = false := by
      unfold stepF at hf ⊢
      by_cases hcan : canF n ball f c r = true
      · rw [if_pos hcan] at hf; omega
      · rw [if_neg hcan]
        exact ⟨rfl, by simpa using hcan⟩
    rw [hst.1] at hf
    have hno : ∀ b ∈ ball (c : Int), ¬ 0 ≤ afterT ball (tabL n f) b (r : Int) := by
      intro b hbm h
      have := hst.2
      unfold canF at this
      simp only [hf, decide_true, Bool.true_and] at this
      have ht : ((ball (c : Int)).any fun b => decide (0 ≤ afterT ball (tabL n f) b (r : Int))) = true := List.any_eq_true.2 ⟨b, hbm, decide_eq_true h⟩
      rw [ht] at this
      cases this
    refine hno b hbm ?_
    unfold afterT at h1 h2 ⊢
    by_cases hbr : b = (r : Int)
    · rw [if_pos hbr]
      exact Int.le_refl _
    · rw [if_neg hbr] at h1 h2 ⊢
      obtain ⟨b', hb1, rfl⟩ := hb c hc b hbm
      rcases worst_spec (tab2 (tabL n (stepF n ball (t : Int) f)) (b' : Int)) (ball (r : Int)) 0 with ⟨_, h⟩ | ⟨hall, _, _⟩
      · omega
      · have e : worstL (tab2 (tabL n f) (b' : Int)) (ball (r : Int)) 0 = worstL (tab2 (tabL n (stepF n ball (t : Int) f)) (b' : Int)) (ball (r : Int)) 0 := by
          refine worst_congr fun x hx => ?_
          obtain ⟨y, hy, rfl⟩ := hb r hr x hx
          have := hall (y : Int) hx
          rw [tab2_tabL _ hb1 hy] at this
          rw [tab2_tabL _ hb1 hy, tab2_tabL _ hb1 hy]
          by_cases hcan : canF n ball f b' y = true
          · have e : stepF n ball (t : Int) f b' y = (t : Int) := if_pos hcan
            rw [e] at this
            omega
          · exact (if_neg hcan).symm
        rw [e]
        exact h1
theorem InvT.start (n : Nat) (ball : Int → List Int) : InvT n ball 1 startF := by
  refine ⟨Nat.le_refl _, fun c r _ _ => ?_, fun c r _ _ => ?_, fun c r _ _ _ b _ h => ?_⟩
  · unfold startF; split <;> omega
  · unfold startF; split <;> omega
  · omega

/-! ### they end -/
def negs (n : Nat) (f : Nat → Nat → Int) : Nat := (List.range (n * n)).countP fun i => decide (f (i / n) (i % n) < 0)
theorem countP_lt {α : Type} {p q : α → Bool} : ∀ {l : List α}, (∀ x ∈ l, q x = true → p x = true) → l.countP q ≤ l.countP p ∧ ((∃ x ∈ l, p x = true ∧ q x = false) → l.countP q < l.countP p) := by
  intro l
  induction l with
  | nil => intro _; exact ⟨Nat.le_refl _, fun ⟨x, hx, _⟩ => by simp at hx⟩
  | cons a l ih =>
    intro h
    obtain ⟨h1, h2⟩ := ih fun x hx => h x (by simp [hx])
    have ha := h a (by simp)
    simp only [List.countP_cons]
    cases hq : q a with
    | true =>
      rw [ha hq]
      refine ⟨by simp; exact h1, fun ⟨x, hx, h3, h4⟩ => ?_⟩
      rcases List.mem_cons.1 hx with rfl | hx
      · rw [hq] at h4; cases h4
      · have := h2 ⟨x, hx, h3, h4⟩
        simp
        exact this
    | false =>
      cases hp : p a with
      | true => refine ⟨by simp; omega, fun _ => by simp; omega⟩
      | false =>
        refine ⟨by simpa using h1, fun ⟨x, hx, h3, h4⟩ => ?_⟩
        rcases List.mem_cons.1 hx with rfl | hx
        · rw [hp] at h3; cases h3
        · simpa using h2 ⟨x, hx, h3, h4⟩
theorem anyF_spec {n : Nat} {p : Nat → Nat → Bool} : anyF n p = true ↔ ∃ c r, c < n ∧ r < n ∧ p c r = true := by
  unfold anyF
  simp only [List.any_eq_true, List.mem_range]
  constructor
  · rintro ⟨c, hc, r, hr, h⟩
    exact ⟨c, r, hc, hr, h⟩
  · rintro ⟨c, r, hc, hr, h⟩
    exact ⟨c, hc, r, hr, h⟩
theorem negs_step {n : Nat} {ball : Int → List Int} {t : Int} (ht : 0 ≤ t) {f : Nat → Nat → Int} (h : anyF n (canF n ball f) = true) : negs n (stepF n ball t f) < negs n f := by
  obtain ⟨c, r, hc, hr, hcan⟩ := anyF_spec.1 h
  have hsub := countP_lt (p := fun i => decide (f (i / n) (i % n) < 0)) (q := fun i => decide (stepF n ball t f (i / n) (i % n) < 0)) (l := List.range (n * n)) (fun i _ hi => by
    have hi := of_decide_eq_true hi
    unfold stepF at hi
    split at hi
    · omega
    · exact decide_eq_true hi)
  refine hsub.2 ⟨c * n + r, ?_, ?_, ?_⟩
  · rw [List.mem_range]
    have : (c + 1) * n ≤ n * n := Nat.mul_le_mul_right _ hc
    rw [Nat.succ_mul] at this
    omega
  all_goals
    have e1 : (c * n + r) / n = c := by
      rw [Nat.mul_comm, Nat.mul_add_div (by omega), Nat.div_eq_of_lt hr]
      omega
    have e2 : (c * n + r) % n = r := by
      rw [Nat.mul_comm, Nat.mul_add_mod, Nat.mod_eq_of_lt hr]
    rw [e1, e2]
  · unfold canF at hcan
    simp only [Bool.and_eq_true] at hcan
    exact hcan.1
  · unfold stepF
    rw [if_pos hcan]
    simpa using ht
theorem negs_le (n : Nat) (f : Nat → Nat → Int) : negs n f ≤ n * n := by
  unfold negs
  have := List.countP_le_length (p := fun i => decide (f (i / n) (i % n) < 0)) (l := List.range (n * n))
  simpa using this
end Go.V.W

/- Times of one cop by the reference, told plainly. -/
set_option linter.unusedVariables false
set_option linter.unusedSimpArgs false
namespace Go.V.W
open Go.Proofs

theorem sqL_parts {n : Nat} {T : Tab} (h : sqL n T = true) : T.length = n ∧ ∀ c, c < n → (at_ K_Si T c).length = n := by
  unfold sqL at h
  simp only [Bool.and_eq_true, decide_eq_true_eq, List.all_eq_true] at h
  refine ⟨h.1, fun c hc => ?_⟩
  have hlt : c < T.length := by omega
  have e : at_ K_Si T c = T[c] := at_get (e := K_Si) hlt
  rw [e]
  exact h.2 _ (List.getElem_mem hlt)
theorem tab2_at {n : Nat} {T : Tab} (h : sqL n T = true) {c r : Nat} (hc : c < n) (hr : r < n) : at_ I (at_ K_Si T c) r = tab2 T (c : Int) (r : Int) := by
  obtain ⟨h1, h2⟩ := sqL_parts h
  have hlt : c < T.length := by omega
  have e : at_ K_Si T c = T[c] := at_get (e := K_Si) hlt
  have h3 := h2 c hc
  rw [e] at h3 ⊢
  have e2 : at_ I T[c] r = T[c][r] := at_get (e := I) (by omega)
  rw [e2]
  unfold tab2
  simp only [Int.toNat_natCast, List.getD_eq_getElem?_getD, List.getElem?_eq_getElem hlt, Option.getD_some]
  rw [List.getElem?_eq_getElem (by omega)]
  rfl
theorem tabL_sq (n : Nat) (f : Nat → Nat → Int) : sqL n (tabL n f) = true := by
  unfold sqL tabL
  simp
theorem tabL_sqB {n : Nat} {f : Nat → Nat → Int} (h : ∀ c r, c < n → r < n → -1 ≤ f c r ∧ f c r ≤ 1000) : sqB n (tabL n f) = true := by
  unfold sqB
  rw [tabL_sq, Bool.true_and]
  unfold tabL
  simp only [List.all_map, List.all_eq_true, Function.comp, List.mem_range, Bool.and_eq_true, decide_eq_true_eq]
  intro c hc r hr
  exact h c r hc hr
theorem most_eq (m v : Int) : g_spec_l1Most (m, v, ()) = ((if m < v then v else m), ()) := by
  unfold g_spec_l1Most
  by_cases h : m > v
  · have h2 : ¬ m < v := by omega
    simp [h, h2]
  · simp only [h, decide_false, Bool.false_eq_true, if_false]
    by_cases h2 : m < v
    · rw [if_pos h2]
    · have e : m = v := by omega
      rw [if_neg h2, e]
theorem worst_l0 (N n : Nat) (T : Tab) (hT : sqL n T = true) (c : Nat) (hc : c < n) (ball : List Int) (hb : ∀ z ∈ ball, ∃ y : Nat, y < n ∧ z = (y : Int)) (hl : ball.length ≤ 1000) : ∀ (k i f : Nat) (m : Int), i + k = ball.length → k < f →
    spec_l3Worst_l0 N f (T, (c : Int), m, ball, (i : Int), ()) = some (.inl (worstL (tab2 T c) (ball.drop i) m, ())) ∨ spec_l3Worst_l0 N f (T, (c : Int), m, ball, (i : Int), ()) = some (.inr (.inl (worstL (tab2 T c) (ball.drop i) m, ()))) := by
  have hmx : ball.length ≤ maxLen := by unfold maxLen; omega
  obtain ⟨t1, t2⟩ := sqL_parts hT
  intro k
  induction k with
  | zero =>
    intro i f m h1 h2
    obtain ⟨f, rfl⟩ : ∃ m, f = m + 1 := ⟨f - 1, by omega⟩
    have e : i = ball.length := by omega
    subst e
    rw [List.drop_of_length_le (Nat.le_refl _)]
    right
    simp [spec_l3Worst_l0, spec_l3Worst_l0_r, worstL]
  | succ k ih =>
    intro i f m h1 h2
    obtain ⟨f, rfl⟩ : ∃ m, f = m + 1 := ⟨f - 1, by omega⟩
    have hi : i < ball.length := by omega
    obtain ⟨y, hy, ey⟩ := hb ball[i] (List.getElem_mem hi)
    have e : at_ I ball i = (y : Int) := (at_get (e := I) hi).trans ey
    have i1 : idxIn (c : Int) T.length = true := idxIn_nat (by omega)
    have i2 : idxIn (y : Int) (at_ K_Si T c).length = true := idxIn_nat (by rw [t2 c hc]; exact hy)
    have hv := tab2_at hT hc hy
    have hd : ball.drop i = (y : Int) :: ball.drop (i + 1) := by rw [List.drop_eq_getElem_cons hi, ey]
    have step : spec_l3Worst_l0 N (f + 1) (T, (c : Int), m, ball, (i : Int), ()) = if tab2 T c y < 0 then some (.inl (-1, ())) else spec_l3Worst_l0 N f (T, (c : Int), (if m < tab2 T c y then tab2 T c y else m), ball, ((i + 1 : Nat) : Int), ()) := by
      show spec_l3Worst_l0_r N (spec_l3Worst_l0 N f) (T, (c : Int), m, ball, (i : Int), ()) = _
      unfold spec_l3Worst_l0_r
      simp only [lt_dec hi, if_true, i1, idxIn_nat hi, Int.toNat_natCast, e, i2, hv, most_eq, wrap_up hi hmx]
      by_cases h : tab2 T c y < 0
      · simp only [h, decide_true, if_true]
      · simp only [h, decide_false, Bool.false_eq_true, if_false]
    rw [step, hd]
    simp only [worstL]
    by_cases h : tab2 T c y < 0
    · rw [if_pos h, if_pos h]
      exact .inl rfl
    · rw [if_neg h, if_neg h]
      exact ih (i + 1) f _ (by omega) (by omega)
theorem grB_parts {g : Gr} (h : grB g = true) : okL g.2.1 = true ∧ g.1 = (g.1.toNat : Int) ∧ g.1.toNat ≤ 8 ∧ g.2.1.all (edgeB (g.1.toNat : Int)) = true := by
  unfold grB at h
  simp only [Bool.and_eq_true, decide_eq_true_eq] at h
  obtain ⟨⟨⟨h1, h2⟩, h3⟩, h4⟩ := h
  have e : g.1 = (g.1.toNat : Int) := by omega
  exact ⟨h1, e, by omega, by rw [← e]; exact h4⟩
theorem ballF_ok (n : Nat) (es : List E) : okBall n (ballF n es) := fun x _ z hz => setF_nat z hz
theorem ballF_len (n : Nat) (es : List E) (x : Int) : (ballF n es x).length ≤ n := setF_len
theorem ball_some {g : Gr} (h : grB g = true) {x : Nat} (hx : x < g.1.toNat) : F_spec_l2Ball 0 (g, (x : Int), ()) = some (ballF g.1.toNat g.2.1 (x : Int), ()) := by
  obtain ⟨h1, h2, h3, h4⟩ := grB_parts h
  rw [ball_eq g g.1.toNat h2 h3 h1, ballL_set hx]
  show some (setF _ _ _, ()) = some (setF _ _ _, ())
  congr 2
  exact setF_congr fun y _ _ => by
    congr 1
    exact decide_eq_decide.2 (by omega)
theorem inB_nat {n : Int} {x : Int} (hn : n = (n.toNat : Int)) (h : inB 0 (n - 1) x = true) : x = (x.toNat : Int) ∧ x.toNat < n.toNat := by
  have := inB_iff.1 h
  omega
theorem l3Worst_lim (d) (r) (h : G_l3Worst d = some r) : ∃ N, F_spec_l3Worst N d = some r := by
  obtain ⟨g, T, c, q, _⟩ := d
  unfold G_l3Worst at h
  split at h
  · rename_i hc
    simp only [Bool.and_eq_true] at hc
    obtain ⟨⟨⟨hg, hT⟩, hc⟩, hq⟩ := hc
    obtain ⟨g1, g2, g3, g4⟩ := grB_parts hg
    obtain ⟨c1, c2⟩ := inB_nat g2 hc
    obtain ⟨q1, q2⟩ := inB_nat g2 hq
    have h := Option.some.inj h
    subst h
    have hT : sqL g.1.toNat T = true := by
      have hT : sqB g.1.toNat T = true := hT
      unfold sqB at hT
      simp only [Bool.and_eq_true] at hT
      exact hT.1
    refine ⟨20, ?_⟩
    unfold F_spec_l3Worst
    have hbl := ballF_len g.1.toNat g.2.1 (q.toNat : Int)
    have := worst_l0 20 g.1.toNat T hT c.toNat c2 (ballF g.1.toNat g.2.1 (q.toNat : Int)) (ballF_ok _ _ q.toNat q2) (by omega) (ballF g.1.toNat g.2.1 (q.toNat : Int)).length 0 20 0 (by omega) (by omega)
    simp only [Int.natCast_zero, List.drop_zero] at this
    have hb := ball_some hg q2
    rw [← q1] at hb this
    rw [← c1] at this
    simp only [hb, Option.bind_some]
    rcases this with h | h
    · simp only [h, Option.bind_some]
    · simp only [h, Option.bind_some]
  · cases h
theorem after_some {g : Gr} (h : grB g = true) {T : Tab} (hT : sqB g.1.toNat T = true) {b q : Nat} (hb : b < g.1.toNat) (hq : q < g.1.toNat) : F_spec_l3After 0 (g, T, (b : Int), (q : Int), ()) = some (afterT (ballF g.1.toNat g.2.1) T (b : Int) (q : Int), ()) := by
  obtain ⟨g1, g2, g3, g4⟩ := grB_parts h
  unfold F_spec_l3After afterT
  have i1 : inB 0 (g.1 - 1) (b : Int) = true := inB_iff.2 (by omega)
  have i2 : inB 0 (g.1 - 1) (q : Int) = true := inB_iff.2 (by omega)
  by_cases e : (b : Int) = (q : Int)
  · simp only [e, beq_self_eq_true, if_true]
  · have e' : ((b : Int) == (q : Int)) = false := by simpa using e
    simp only [e', Bool.false_eq_true, if_false, e, G_l3Worst, h, hT, i1, i2, Bool.and_self, if_true, Option.bind_some]
theorem best_l0 (N : Nat) (g : Gr) (h : grB g = true) (T : Tab) (hT : sqB g.1.toNat T = true) (q : Nat) (hq : q < g.1.toNat) (ball : List Int) (hb : ∀ z ∈ ball, ∃ y : Nat, y < g.1.toNat ∧ z = (y : Int)) (hl : ball.length ≤ 1000) : ∀ (k i f : Nat) (m : Int), i + k = ball.length → k < f →
    spec_l3Best_l0 N f (T, (q : Int), g, m, ball, (i : Int), ()) = some (.inl (bestL (fun b => afterT (ballF g.1.toNat g.2.1) T b (q : Int)) (ball.drop i) m, ())) := by
  have hmx : ball.length ≤ maxLen := by unfold maxLen; omega
  intro k
  induction k with
  | zero =>
    intro i f m h1 h2
    obtain ⟨f, rfl⟩ : ∃ m, f = m + 1 := ⟨f - 1, by omega⟩
    have e : i = ball.length := by omega
    subst e
    rw [List.drop_of_length_le (Nat.le_refl _)]
    simp [spec_l3Best_l0, spec_l3Best_l0_r, bestL]
  | succ k ih =>
    intro i f m h1 h2
    obtain ⟨f, rfl⟩ : ∃ m, f = m + 1 := ⟨f - 1, by omega⟩
    have hi : i < ball.length := by omega
    obtain ⟨y, hy, ey⟩ := hb ball[i] (List.getElem_mem hi)
    have e : at_ I ball i = (y : Int) := (at_get (e := I) hi).trans ey
    have hd : ball.drop i = (y : Int) :: ball.drop (i + 1) := by rw [List.drop_eq_getElem_cons hi, ey]
    show spec_l3Best_l0_r N (spec_l3Best_l0 N f) (T, (q : Int), g, m, ball, (i : Int), ()) = _
    unfold spec_l3Best_l0_r
    rw [hd]
    simp only [lt_dec hi, if_true, idxIn_nat hi, Int.toNat_natCast, e, after_some h hT hy hq, Option.bind_some, wrap_up hi hmx, bestL]
    generalize afterT (ballF g.1.toNat g.2.1) T (y : Int) (q : Int) = v
    by_cases h1' : v ≥ 0
    · by_cases h2' : m < 0
      · simp only [h1', h2', decide_true, if_true, true_or, and_self]
        exact ih (i + 1) f _ (by omega) (by omega)
      · by_cases h3' : v < m
        · simp only [h1', h2', h3', decide_true, decide_false, Bool.false_eq_true, if_true, if_false, or_true, and_self]
          exact ih (i + 1) f _ (by omega) (by omega)
        · simp only [h1', h2', h3', decide_true, decide_false, Bool.false_eq_true, if_true, if_false, or_self, and_false]
          exact ih (i + 1) f _ (by omega) (by omega)
    · simp only [h1', decide_false, Bool.false_eq_true, if_false, false_and]
      exact ih (i + 1) f _ (by omega) (by omega)
theorem l3Best_lim (d) (r) (h : G_l3Best d = some r) : ∃ N, F_spec_l3Best N d = some r := by
  obtain ⟨g, T, c, q, _⟩ := d
  unfold G_l3Best at h
  split at h
  · rename_i hc
    simp only [Bool.and_eq_true] at hc
    obtain ⟨⟨⟨hg, hT⟩, hc⟩, hq⟩ := hc
    obtain ⟨g1, g2, g3, g4⟩ := grB_parts hg
    obtain ⟨c1, c2⟩ := inB_nat g2 hc
    obtain ⟨q1, q2⟩ := inB_nat g2 hq
    have h := Option.some.inj h
    subst h
    refine ⟨20, ?_⟩
    unfold F_spec_l3Best
    have hbl := ballF_len g.1.toNat g.2.1 (c.toNat : Int)
    have := best_l0 20 g hg T hT q.toNat q2 (ballF g.1.toNat g.2.1 (c.toNat : Int)) (ballF_ok _ _ c.toNat c2) (by omega) (ballF g.1.toNat g.2.1 (c.toNat : Int)).length 0 20 (-1) (by omega) (by omega)
    simp only [Int.natCast_zero, List.drop_zero] at this
    have hb := ball_some hg c2
    rw [← c1] at hb this
    rw [← q1] at this
    simp only [hb, Option.bind_some, this]
  · cases h

/-! ### the table -/
theorem sign_eq (c r : Nat) : g_spec_l3Sign ((c : Int) == (r : Int), ()) = (startF c r, ()) := by
  unfold g_spec_l3Sign startF
  by_cases h : c = r
  · subst h; simp
  · have : ¬ (c : Int) = (r : Int) := by omega
    have h2 : ((c : Int) == (r : Int)) = false := by simpa using this
    simp [h, h2]
theorem range_snoc (n : Nat) (g : Nat → Int) : (List.range n).map g ++ [g n] = (List.range (n + 1)).map g := by simp [List.range_succ]
theorem range_snocT (n : Nat) (g : Nat → List Int) : (List.range n).map g ++ [g n] = (List.range (n + 1)).map g := by simp [List.range_succ]
theorem wrap8 {i n : Nat} (h : i < n) (hn : n ≤ 8) : IntKind.wrap .i64 ((i : Int) + 1) = ((i + 1 : Nat) : Int) := by
  rw [wrap_in _ (by omega) (by omega)]
  rfl
theorem times_l2 (N : Nat) (g : Gr) (n : Nat) (hg : g.1 = (n : Int)) (hn : n ≤ 8) (now : Tab) (c : Nat) : ∀ (k r f : Nat), r + k = n → k < f →
    spec_l3Times_l2 N f (g, now, (c : Int), (List.range r).map (startF c), (r : Int), ()) = some (.inl (g, now, (c : Int), (List.range n).map (startF c), ())) := by
  intro k
  induction k with
  | zero =>
    intro r f h1 h2
    obtain ⟨f, rfl⟩ : ∃ m, f = m + 1 := ⟨f - 1, by omega⟩
    have e : r = n := by omega
    subst e
    simp [spec_l3Times_l2, spec_l3Times_l2_r, hg]
  | succ k ih =>
    intro r f h1 h2
    obtain ⟨f, rfl⟩ : ∃ m, f = m + 1 := ⟨f - 1, by omega⟩
    have hr : r < n := by omega
    show spec_l3Times_l2_r N (spec_l3Times_l2 N f) (g, now, (c : Int), (List.range r).map (startF c), (r : Int), ()) = _
    unfold spec_l3Times_l2_r
    have hle : ∀ v : Int, decide (((List.range r).map (startF c)).length + List.length [v] ≤ lim) = true := fun v => by
      unfold lim
      simp
      omega
    simp only [hg, lt_dec hr, if_true, sign_eq, hle, wrap8 hr hn, range_snoc]
    exact ih (r + 1) f (by omega) (by omega)
theorem times_l0 (N : Nat) (hN : 10 ≤ N) (g : Gr) (n : Nat) (hg : g.1 = (n : Int)) (hn : n ≤ 8) : ∀ (k c f : Nat), c + k = n → k < f →
    spec_l3Times_l0 N f (g, (List.range c).map (fun c => (List.range n).map (startF c)), (c : Int), ()) = some (.inl (g, tabL n startF, ())) := by
  intro k
  induction k with
  | zero =>
    intro c f h1 h2
    obtain ⟨f, rfl⟩ : ∃ m, f = m + 1 := ⟨f - 1, by omega⟩
    have e : c = n := by omega
    subst e
    simp [spec_l3Times_l0, spec_l3Times_l0_r, hg, tabL]
  | succ k ih =>
    intro c f h1 h2
    obtain ⟨f, rfl⟩ : ∃ m, f = m + 1 := ⟨f - 1, by omega⟩
    have hc : c < n := by omega
    show spec_l3Times_l0_r N (spec_l3Times_l0 N f) (g, (List.range c).map (fun c => (List.range n).map (startF c)), (c : Int), ()) = _
    unfold spec_l3Times_l0_r
    have hin := times_l2 N g n hg hn ((List.range c).map (fun c => (List.range n).map (startF c))) c n 0 N (by omega) (by omega)
    simp only [List.range_zero, List.map_nil, Int.natCast_zero] at hin
    have hle : ∀ v : List Int, decide (((List.range c).map (fun c => (List.range n).map (startF c))).length + List.length [v] ≤ lim) = true := fun v => by
      unfold lim
      simp
      omega
    simp only [hg, lt_dec hc, if_true, hin, Option.bind_some, hle, wrap8 hc hn, range_snocT c (fun c => (List.range n).map (startF c))]
    exact ih (c + 1) f (by omega) (by omega)

/-! ### the rounds -/
def rowS (n : Nat) (ball : Int → List Int) (t : Int) (f : Nat → Nat → Int) (c r : Nat) : List Int := (List.range n).map fun j => if j < r then stepF n ball t f c j else f c j
theorem rowS_len (n : Nat) (ball : Int → List Int) (t : Int) (f : Nat → Nat → Int) (c r : Nat) : (rowS n ball t f c r).length = n := by simp [rowS]
theorem rowS_at {n : Nat} {ball : Int → List Int} {t : Int} {f : Nat → Nat → Int} {c r : Nat} (hr : r < n) : at_ I (rowS n ball t f c r) r = f c r := by
  have : (rowS n ball t f c r)[r]? = some (f c r) := by
    unfold rowS
    rw [rowR_get _ hr, if_neg (by omega)]
  exact (at_some this).1
theorem map_set (n r : Nat) (g : Nat → Int) (v : Int) : ((List.range n).map g).set r v = (List.range n).map fun j => if j = r then v else g j := by
  apply List.ext_getElem
  · simp
  · intro i h1 h2
    simp only [List.length_set, List.length_map, List.length_range] at h1
    rw [List.getElem_set]
    by_cases e : r = i
    · subst e; simp
    · have e' : ¬ i = r := fun h => e h.symm
      simp [e, e']
theorem rowS_next {n : Nat} {ball : Int → List Int} {t : Int} {f : Nat → Nat → Int} {c r : Nat} (hr : r < n) :
    (canF n ball f c r = true → (rowS n ball t f c r).set r t = rowS n ball t f c (r + 1)) ∧ (canF n ball f c r = false → rowS n ball t f c r = rowS n ball t f c (r + 1)) := by
  constructor
  · intro h
    unfold rowS
    rw [map_set]
    refine List.map_congr_left fun j _ => ?_
    by_cases e : j = r
    · subst e
      have : stepF n ball t f c j = t := if_pos h
      simp [this]
    · by_cases e2 : j < r
      · have : j < r + 1 := by omega
        simp [e, e2, this]
      · have : ¬ j < r + 1 := by omega
        simp [e, e2, this]
  · intro h
    unfold rowS
    refine List.map_congr_left fun j _ => ?_
    by_cases e : j = r
    · subst e
      have : stepF n ball t f c j = f c j := if_neg (by rw [h]; simp)
      simp [this]
    · by_cases e2 : j < r
      · have : j < r + 1 := by omega
        simp [e2, this]
      · have : ¬ j < r + 1 := by omega
        simp [e2, this]
theorem rowS_zero (n : Nat) (ball : Int → List Int) (t : Int) (f : Nat → Nat → Int) (c : Nat) : rowS n ball t f c 0 = (List.range n).map (f c) := by
  unfold rowS
  exact List.map_congr_left fun j _ => if_neg (by omega)
theorem rowS_full (n : Nat) (ball : Int → List Int) (t : Int) (f : Nat → Nat → Int) (c : Nat) : rowS n ball t f c n = (List.range n).map (stepF n ball t f c) := by
  unfold rowS
  exact List.map_congr_left fun j hj => if_pos (List.mem_range.1 hj)
theorem times_l8 (N : Nat) (g : Gr) (hG : grB g = true) (t : Nat) (ht : t ≤ 900) (f : Nat → Nat → Int) (hI : InvT g.1.toNat (ballF g.1.toNat g.2.1) t f) (next : Tab) (c : Nat) (hc : c < g.1.toNat) : ∀ (k r fu : Nat) (ch : Bool), r + k = g.1.toNat → k < fu →
    spec_l3Times_l8 N fu (g, tabL g.1.toNat f, ch, next, (c : Int), rowS g.1.toNat (ballF g.1.toNat g.2.1) (t : Int) f c r, (r : Int), ()) =
      some (.inl (g, tabL g.1.toNat f, ch || (List.range' r k).any (fun j => canF g.1.toNat (ballF g.1.toNat g.2.1) f c j), next, (c : Int), rowS g.1.toNat (ballF g.1.toNat g.2.1) (t : Int) f c g.1.toNat, ())) := by
  obtain ⟨g1, g2, g3, g4⟩ := grB_parts hG
  have hb := ballF_ok g.1.toNat g.2.1
  have hsq : sqB g.1.toNat (tabL g.1.toNat f) = true := tabL_sqB fun c r hc hr => ⟨hI.low c r hc hr, by have := hI.high c r hc hr; omega⟩
  intro k
  induction k with
  | zero =>
    intro r fu ch h1 h2
    obtain ⟨fu, rfl⟩ : ∃ m, fu = m + 1 := ⟨fu - 1, by omega⟩
    have e : r = g.1.toNat := by omega
    subst e
    show spec_l3Times_l8_r N (spec_l3Times_l8 N fu) _ = _
    unfold spec_l3Times_l8_r
    have : decide (((g.1.toNat : Nat) : Int) < g.1) = false := by simp; omega
    simp only [this, Bool.false_eq_true, if_false, List.range'_zero, List.any_nil, Bool.or_false]
  | succ k ih =>
    intro r fu ch h1 h2
    obtain ⟨fu, rfl⟩ : ∃ m, fu = m + 1 := ⟨fu - 1, by omega⟩
    have hr : r < g.1.toNat := by omega
    have hlt : decide ((r : Int) < g.1) = true := by simp; omega
    have i1 : inB 0 (g.1 - 1) (c : Int) = true := inB_iff.2 (by omega)
    have i2 : inB 0 (g.1 - 1) (r : Int) = true := inB_iff.2 (by omega)
    have hidx : idxIn (r : Int) (rowS g.1.toNat (ballF g.1.toNat g.2.1) (t : Int) f c r).length = true := idxIn_nat (by rw [rowS_len]; exact hr)
    obtain ⟨s1, s2⟩ := rowS_next (n := g.1.toNat) (ball := ballF g.1.toNat g.2.1) (t := (t : Int)) (f := f) (c := c) hr
    show spec_l3Times_l8_r N (spec_l3Times_l8 N fu) _ = _
    unfold spec_l3Times_l8_r
    simp only [hlt, if_true, G_l3Best, hG, hsq, i1, i2, Bool.and_self, Option.bind_some, hidx, Int.toNat_natCast, rowS_at hr, wrap8 hr g3]
    rw [List.range'_succ, List.any_cons]
    by_cases hf : f c r < 0
    · rcases best_round hb hI hc hr hf with ⟨b1, b2⟩ | ⟨b1, b2⟩
      · have hp := hI.pos
        have h0 : decide ((t : Int) - 1 ≥ 0) = true := by simp; omega
        have hw : IntKind.wrap .i64 ((t : Int) - 1 + 1) = (t : Int) := by
          rw [wrap_in _ (by omega) (by omega)]
          omega
        simp only [hf, decide_true, if_true, b2, h0, hw, s1 b1, b1, Bool.true_or, Bool.or_true]
        have := ih (r + 1) fu true (by omega) (by omega)
        simpa using this
      · have h0 : decide ((-1 : Int) ≥ 0) = false := by decide
        simp only [hf, decide_true, if_true, b2, h0, Bool.false_eq_true, if_false, s2 b1, b1, Bool.false_or]
        exact ih (r + 1) fu ch (by omega) (by omega)
    · have hcan : canF g.1.toNat (ballF g.1.toNat g.2.1) f c r = false := by
        unfold canF
        simp [hf]
      simp only [hf, decide_false, Bool.false_eq_true, if_false, s2 hcan, hcan, Bool.false_or]
      exact ih (r + 1) fu ch (by omega) (by omega)
theorem own_some (l : List Int) (h : l.length ≤ 1000) : F_spec_l1Own 0 (l, ()) = some (l, ()) := by
  unfold F_spec_l1Own
  have : decide (List.length ([] : List Int) + List.length l ≤ lim) = true := by unfold lim; simp; omega
  simp only [this, if_true, List.nil_append]
theorem times_l6 (N : Nat) (hN : 10 ≤ N) (g : Gr) (hG : grB g = true) (t : Nat) (ht : t ≤ 900) (f : Nat → Nat → Int) (hI : InvT g.1.toNat (ballF g.1.toNat g.2.1) t f) : ∀ (k c fu : Nat) (ch : Bool), c + k = g.1.toNat → k < fu →
    spec_l3Times_l6 N fu (g, tabL g.1.toNat f, ch, (List.range c).map (fun c => (List.range g.1.toNat).map (stepF g.1.toNat (ballF g.1.toNat g.2.1) (t : Int) f c)), (c : Int), ()) =
      some (.inl (g, ch || (List.range' c k).any (fun c => (List.range g.1.toNat).any fun j => canF g.1.toNat (ballF g.1.toNat g.2.1) f c j), tabL g.1.toNat (stepF g.1.toNat (ballF g.1.toNat g.2.1) (t : Int) f), ())) := by
  obtain ⟨g1, g2, g3, g4⟩ := grB_parts hG
  intro k
  induction k with
  | zero =>
    intro c fu ch h1 h2
    obtain ⟨fu, rfl⟩ : ∃ m, fu = m + 1 := ⟨fu - 1, by omega⟩
    have e : c = g.1.toNat := by omega
    subst e
    show spec_l3Times_l6_r N (spec_l3Times_l6 N fu) _ = _
    unfold spec_l3Times_l6_r
    have : decide (((g.1.toNat : Nat) : Int) < g.1) = false := by simp; omega
    simp only [this, Bool.false_eq_true, if_false, List.range'_zero, List.any_nil, Bool.or_false]
    rfl
  | succ k ih =>
    intro c fu ch h1 h2
    obtain ⟨fu, rfl⟩ : ∃ m, fu = m + 1 := ⟨fu - 1, by omega⟩
    have hc : c < g.1.toNat := by omega
    have hlt : decide ((c : Int) < g.1) = true := by simp; omega
    have hidx : idxIn (c : Int) (tabL g.1.toNat f).length = true := idxIn_nat (by rw [tabL_len]; exact hc)
    have hat : at_ K_Si (tabL g.1.toNat f) c = (List.range g.1.toNat).map (f c) := by
      have hl : c < (tabL g.1.toNat f).length := by rw [tabL_len]; exact hc
      have e : at_ K_Si (tabL g.1.toNat f) c = (tabL g.1.toNat f)[c] := at_get (e := K_Si) hl
      rw [e]
      have := tabL_row f hc
      rw [List.getElem?_eq_getElem hl] at this
      exact Option.some.inj this
    have hin := times_l8 N g hG t ht f hI ((List.range c).map (fun c => (List.range g.1.toNat).map (stepF g.1.toNat (ballF g.1.toNat g.2.1) (t : Int) f c))) c hc g.1.toNat 0 N ch (by omega) (by omega)
    rw [rowS_zero, rowS_full] at hin
    simp only [Int.natCast_zero] at hin
    have hle : ∀ v : List Int, decide (((List.range c).map (fun c => (List.range g.1.toNat).map (stepF g.1.toNat (ballF g.1.toNat g.2.1) (t : Int) f c))).length + List.length [v] ≤ lim) = true := fun v => by
      unfold lim
      simp
      omega
    show spec_l3Times_l6_r N (spec_l3Times_l6 N fu) _ = _
    unfold spec_l3Times_l6_r
    simp only [hlt, if_true, hidx, Int.toNat_natCast, hat, own_some ((List.range g.1.toNat).map (f c)) (by simp; omega), Option.bind_some, hin, hle, wrap8 hc g3, range_snocT c (fun c => (List.range g.1.toNat).map (stepF g.1.toNat (ballF g.1.toNat g.2.1) (t : Int) f c))]
    rw [ih (c + 1) fu _ (by omega) (by omega), List.range'_succ, List.any_cons, Bool.or_assoc, List.range_eq_range']
theorem times_l4 (N : Nat) (hN : 10 ≤ N) (g : Gr) (hG : grB g = true) : ∀ (k t : Nat) (f : Nat → Nat → Int), InvT g.1.toNat (ballF g.1.toNat g.2.1) t f → t + k ≤ 900 → negs g.1.toNat f < k → ∀ fu, k + 1 ≤ fu →
    spec_l3Times_l4 N fu (g, tabL g.1.toNat f, true, ()) = some (.inl (tabL g.1.toNat (timesF g.1.toNat (ballF g.1.toNat g.2.1) k (t : Int) f), ())) := by
  obtain ⟨g1, g2, g3, g4⟩ := grB_parts hG
  have hb := ballF_ok g.1.toNat g.2.1
  intro k
  induction k with
  | zero => intro t f _ _ h; omega
  | succ k ih =>
    intro t f hI ht hn fu hfu
    obtain ⟨fu, rfl⟩ : ∃ m, fu = m + 1 := ⟨fu - 1, by omega⟩
    have hin := times_l6 N hN g hG t (by omega) f hI g.1.toNat 0 N false (by omega) (by omega)
    simp only [List.range_zero, List.map_nil, Int.natCast_zero, Bool.false_or, ← List.range_eq_range'] at hin
    show spec_l3Times_l4_r N (spec_l3Times_l4 N fu) _ = _
    unfold spec_l3Times_l4_r
    simp only [if_true, hin, Option.bind_some, timesF]
    by_cases ha : anyF g.1.toNat (canF g.1.toNat (ballF g.1.toNat g.2.1) f) = true
    · have ha' : ((List.range g.1.toNat).any fun c => (List.range g.1.toNat).any fun j => canF g.1.toNat (ballF g.1.toNat g.2.1) f c j) = true := ha
      rw [if_pos ha, ha']
      have := negs_step (t := (t : Int)) (by omega) ha
      have := ih (t + 1) _ (hI.next hb) (by omega) (by omega) fu (by omega)
      exact this
    · have ha' : ((List.range g.1.toNat).any fun c => (List.range g.1.toNat).any fun j => canF g.1.toNat (ballF g.1.toNat g.2.1) f c j) = false := (Bool.not_eq_true _).mp ha
      rw [if_neg ha, ha']
      obtain ⟨fu, rfl⟩ : ∃ m, fu = m + 1 := ⟨fu - 1, by omega⟩
      have e : tabL g.1.toNat (stepF g.1.toNat (ballF g.1.toNat g.2.1) (t : Int) f) = tabL g.1.toNat f := tabL_congr fun c r hc hr => by
        refine if_neg fun h => ha ?_
        exact anyF_spec.2 ⟨c, r, hc, hr, h⟩
      rw [e]
      rfl
theorem l3Times_lim (d) (r) (h : G_l3Times d = some r) : ∃ N, F_spec_l3Times N d = some r := by
  obtain ⟨g, _⟩ := d
  unfold G_l3Times at h
  split at h
  · rename_i hG
    have hG : grB g = true := hG
    obtain ⟨g1, g2, g3, g4⟩ := grB_parts hG
    have h := Option.some.inj h
    subst h
    refine ⟨100, ?_⟩
    unfold F_spec_l3Times
    have h0 := times_l0 100 (by omega) g g.1.toNat g2 g3 g.1.toNat 0 100 (by omega) (by omega)
    simp only [List.range_zero, List.map_nil, Int.natCast_zero] at h0
    have hnn : g.1.toNat * g.1.toNat ≤ 8 * 8 := Nat.mul_le_mul g3 g3
    have hneg := negs_le g.1.toNat startF
    have h4 := times_l4 100 (by omega) g hG 65 1 startF (InvT.start _ _) (by omega) (by omega) 100 (by omega)
    simp only [h0, Option.bind_some, h4]
    rfl
  · cases h
end Go.V.W

/- Times of one cop by the program, told plainly; the law FnExactChaseTime on plain data. -/
set_option linter.unusedVariables false
set_option linter.unusedSimpArgs false
namespace Go.V.W
open Go.Proofs

theorem netB_parts {l : List Int} (h : netB l = true) : l = toI (fromI l) ∧ okN l.length (fromI l) ∧ l.length ≤ 8 ∧ ∀ x, x < l.length → (fromI l).getD x 0 < 2 ^ l.length := by
  unfold netB at h
  simp only [Bool.and_eq_true, List.all_eq_true, decide_eq_true_eq] at h
  obtain ⟨h1, h2⟩ := h
  obtain ⟨e, hm, h8⟩ := smallN_nat h1
  refine ⟨e, hm, h8, fun x hx => ?_⟩
  have hx' : x < (fromI l).length := by rw [hm.1]; exact hx
  have h3 := h2 l[x] (List.getElem_mem hx)
  simp only [List.getD_eq_getElem?_getD, List.getElem?_eq_getElem hx', Option.getD_some]
  have e2 : (fromI l)[x] = l[x].toNat := by simp [fromI]
  rw [e2]
  have : 0 < 2 ^ l.length := Nat.two_pow_pos _
  omega
theorem two_lt {x n : Nat} (h : x < n) : 2 ^ x < 2 ^ n := Nat.pow_lt_pow_right (by omega) h
theorem maskM {l : List Int} (h : netB l = true) {x : Nat} (hx : x < l.length) : (fromI l).getD x 0 ||| 2 ^ x < 256 ∧ (fromI l).getD x 0 ||| 2 ^ x < 2 ^ l.length := by
  obtain ⟨e, hm, h8, hb⟩ := netB_parts h
  exact ⟨Nat.or_lt_two_pow (n := 8) (hm.2 x) (pow_small (by omega)), Nat.or_lt_two_pow (hb x hx) (two_lt hx)⟩
theorem ballM_ok {l : List Int} (h : netB l = true) : okBall l.length (ballM l) := by
  intro x hx z hz
  unfold ballM at hz
  obtain ⟨y, _, _, h3, h4⟩ := setF_mem.1 hz
  refine ⟨y, ?_, h4⟩
  rcases Nat.lt_or_ge y l.length with h5 | h5
  · exact h5
  · rw [Int.toNat_natCast] at h3
    rw [Nat.testBit_lt_two_pow (Nat.lt_of_lt_of_le (maskM h hx).2 (Nat.pow_le_pow_right (by omega) h5))] at h3
    cases h3
theorem ballM_len (l : List Int) (x : Int) : (ballM l x).length ≤ 8 := setF_len
theorem closedM {l : List Int} (h : netB l = true) (u : Unit) {x : Nat} (hx : x < l.length) : F_impl_net_closed 0 ((l, u), (x : Int), ()) = some ((((fromI l).getD x 0 ||| 2 ^ x : Nat) : Int), ()) := by
  obtain ⟨e, hm, h8, hb⟩ := netB_parts h
  unfold F_impl_net_closed
  have i1 : idxIn (x : Int) l.length = true := idxIn_nat hx
  have e1 : at_ I l x = (((fromI l).getD x 0 : Nat) : Int) := by
    have := at_toI (fromI l) x
    rw [← e] at this
    exact this
  simp only [i1, if_true, nonneg_dec, Int.toNat_natCast, e1, shl_one (show x < 8 by omega), bits_or (hm.2 x) (pow_small (show x < 8 by omega))]
theorem setOfM {l : List Int} (h : netB l = true) {x : Nat} (hx : x < l.length) : G_setOf ((((fromI l).getD x 0 ||| 2 ^ x : Nat) : Int), ()) = some (ballM l (x : Int), ()) := by
  have hm := (maskM h hx).1
  unfold G_setOf
  have b2 : decide ((((fromI l).getD x 0 ||| 2 ^ x : Nat) : Int) < 256) = true := by
    simp only [decide_eq_true_eq]
    omega
  simp only [nonneg_dec, b2, Bool.and_self, if_true, Int.toNat_natCast]
  rfl
theorem inB_len {n : Nat} {x : Int} (h : inB 0 ((n : Int) - 1) x = true) : x = (x.toNat : Int) ∧ x.toNat < n := by
  have := inB_iff.1 h
  omega
theorem after_l0 (N n : Nat) (row : List Int) (hrow : row.length = n) (ball : List Int) (hb : ∀ z ∈ ball, ∃ y : Nat, y < n ∧ z = (y : Int)) (hl : ball.length ≤ 1000) : ∀ (k i f : Nat) (m : Int), i + k = ball.length → k < f →
    impl_net_timeAfter_l0 N f (row, m, ball, (ball.length : Int), (i : Int), ()) = some (.inl (worstL (fun z => row.getD z.toNat 0) (ball.drop i) m, ())) ∨ impl_net_timeAfter_l0 N f (row, m, ball, (ball.length : Int), (i : Int), ()) = some (.inr (.inl (worstL (fun z => row.getD z.toNat 0) (ball.drop i) m, ()))) := by
  have hmx : ball.length ≤ maxLen := by unfold maxLen; omega
  intro k
  induction k with
  | zero =>
    intro i f m h1 h2
    obtain ⟨f, rfl⟩ : ∃ m, f = m + 1 := ⟨f - 1, by omega⟩
    have e : i = ball.length := by omega
    subst e
    rw [List.drop_of_length_le (Nat.le_refl _)]
    right
    simp [impl_net_timeAfter_l0, impl_net_timeAfter_l0_r, worstL]
  | succ k ih =>
    intro i f m h1 h2
    obtain ⟨f, rfl⟩ : ∃ m, f = m + 1 := ⟨f - 1, by omega⟩
    have hi : i < ball.length := by omega
    obtain ⟨y, hy, ey⟩ := hb ball[i] (List.getElem_mem hi)
    have e : at_ I ball i = (y : Int) := (at_get (e := I) hi).trans ey
    have i2 : idxIn (y : Int) row.length = true := idxIn_nat (by omega)
    have hy' : y < row.length := by omega
    have hv : at_ I row y = row.getD y 0 := by
      rw [at_get (e := I) hy']
      simp [List.getD_eq_getElem?_getD, hy']
    have hd : ball.drop i = (y : Int) :: ball.drop (i + 1) := by rw [List.drop_eq_getElem_cons hi, ey]
    have step : impl_net_timeAfter_l0 N (f + 1) (row, m, ball, (ball.length : Int), (i : Int), ()) = if row.getD y 0 < 0 then some (.inl (-1, ())) else impl_net_timeAfter_l0 N f (row, (if m < row.getD y 0 then row.getD y 0 else m), ball, (ball.length : Int), ((i + 1 : Nat) : Int), ()) := by
      show impl_net_timeAfter_l0_r N (impl_net_timeAfter_l0 N f) (row, m, ball, (ball.length : Int), (i : Int), ()) = _
      unfold impl_net_timeAfter_l0_r
      simp only [lt_dec hi, if_true, idxIn_nat hi, Int.toNat_natCast, e, i2, hv, wrap_up hi hmx]
      by_cases h : row.getD y 0 < 0
      · simp only [h, decide_true, if_true]
      · simp only [h, decide_false, Bool.false_eq_true, if_false]
    rw [step, hd]
    simp only [worstL, Int.toNat_natCast]
    by_cases h : row.getD y 0 < 0
    · rw [if_pos h, if_pos h]
      exact .inl rfl
    · rw [if_neg h, if_neg h]
      exact ih (i + 1) f _ (by omega) (by omega)
theorem timeAfter_lim (d) (r) (h : G_timeAfter d = some r) : ∃ N, F_impl_net_timeAfter N d = some r := by
  obtain ⟨⟨l, u⟩, row, q, _⟩ := d
  unfold G_timeAfter at h
  split at h
  · rename_i hc
    simp only [Bool.and_eq_true, decide_eq_true_eq] at hc
    obtain ⟨⟨hn, hrow⟩, hq⟩ := hc
    obtain ⟨q1, q2⟩ := inB_len hq
    have h := Option.some.inj h
    subst h
    refine ⟨20, ?_⟩
    unfold F_impl_net_timeAfter
    have hbl := ballM_len l (q.toNat : Int)
    have hc := closedM hn u q2
    have hs := setOfM hn q2
    have := after_l0 20 l.length row hrow (ballM l (q.toNat : Int)) (ballM_ok hn q.toNat q2) (by omega) (ballM l (q.toNat : Int)).length 0 20 0 (by omega) (by omega)
    simp only [Int.natCast_zero, List.drop_zero] at this
    rw [← q1] at hc hs this
    simp only [hc, Option.bind_some, hs]
    rcases this with h | h
    · simp only [h, Option.bind_some]
    · simp only [h, Option.bind_some]
  · cases h
theorem can1_some {l : List Int} (hn : netB l = true) (u v w : Unit) {T : Tab} (hT : sqL l.length T = true) {b q : Nat} (hb : b < l.length) (hq : q < l.length) : FV_impl_net_copCan_1 ((b : Int), (v, (q : Int), (l, u), T, w), ()) = some (decide (0 ≤ afterT (ballM l) T (b : Int) (q : Int)), ()) := by
  obtain ⟨t1, t2⟩ := sqL_parts hT
  unfold FV_impl_net_copCan_1 F_impl_net_copCan_1 afterT
  by_cases e : (b : Int) = (q : Int)
  · simp [e]
  · have e' : ((b : Int) == (q : Int)) = false := by simpa using e
    have i1 : idxIn (b : Int) T.length = true := idxIn_nat (by omega)
    have i2 : inB 0 ((l.length : Int) - 1) (q : Int) = true := inB_iff.2 (by omega)
    have hlen : decide ((at_ K_Si T b).length = l.length) = true := decide_eq_true (t2 b hb)
    simp only [e', e, Bool.false_eq_true, if_false, i1, if_true, Int.toNat_natCast, G_timeAfter, hn, hlen, i2, Bool.and_self, Option.bind_some]
    have hw : worstL (fun z => (at_ K_Si T b).getD z.toNat 0) (ballM l (q : Int)) 0 = worstL (tab2 T (b : Int)) (ballM l (q : Int)) 0 := worst_congr fun z hz => by
      have hlt : b < T.length := by omega
      have ea : at_ K_Si T b = T[b] := at_get (e := K_Si) hlt
      unfold tab2
      simp only [ea, Int.toNat_natCast, List.getD_eq_getElem?_getD, List.getElem?_eq_getElem hlt, Option.getD_some]
    rw [hw]
theorem index154_lim (d) (r) (h : G_index154 d = some r) : ∃ N, F_slices_IndexFunc_Sint_int_f154 N d = some r := by
  obtain ⟨xs, ⟨v, q, ⟨l, u⟩, T, w⟩, _⟩ := d
  unfold G_index154 at h
  split at h
  · rename_i hc
    simp only [Bool.and_eq_true] at hc
    obtain ⟨⟨⟨⟨hn, hT⟩, hq⟩, hxs⟩, hlen⟩ := hc
    have hlen : xs.length ≤ 1000 := of_decide_eq_true hlen
    obtain ⟨q1, q2⟩ := inB_len hq
    have h := Option.some.inj h
    subst h
    have hmx : xs.length ≤ maxLen := by unfold maxLen; omega
    refine ⟨xs.length + 1, ?_⟩
    unfold F_slices_IndexFunc_Sint_int_f154
    have := loop_idx (L := slices_IndexFunc_Sint_int_f154_l0 (xs.length + 1)) (r := slices_IndexFunc_Sint_int_f154_l0_r (xs.length + 1)) (fun _ _ => rfl) (e := I) xs (mk := fun i => (xs, (v, q, (l, u), T, w), (xs.length : Int), (i : Int), ())) (q := fun b => decide (0 ≤ afterT (ballM l) T b q)) (o := fun i => .inl ((i : Int), ())) (f := .inr (.inl ()))
      (by
        intro back i hi
        have hx : at_ I xs i = xs[i] := at_get (e := I) hi
        obtain ⟨b1, b2⟩ := inB_len (List.all_eq_true.1 hxs xs[i] (List.getElem_mem hi))
        have hcan := can1_some hn u v w hT b2 q2
        rw [← b1, ← q1] at hcan
        unfold slices_IndexFunc_Sint_int_f154_l0_r
        simp only [lt_dec hi, if_true, idxIn_nat hi, Int.toNat_natCast, wrap_up hi hmx, hx, hcan, Option.bind_some])
      (by intro back; unfold slices_IndexFunc_Sint_int_f154_l0_r; simp only [lt_not, Bool.false_eq_true, if_false]) xs.length 0 (by omega) (by omega)
    simp only [Int.natCast_zero, List.drop_zero] at this
    simp only [this, Option.bind_some]
    cases idxN (fun b => decide (0 ≤ afterT (ballM l) T b q)) xs 0 <;> rfl
  · cases h
theorem copCan_some {l : List Int} (hn : netB l = true) (u : Unit) {T : Tab} (hT : sqL l.length T = true) {c q : Nat} (hc : c < l.length) (hq : q < l.length) : F_impl_net_copCan 0 ((l, u), T, (c : Int), (q : Int), ()) = some ((ballM l (c : Int)).any (fun b => decide (0 ≤ afterT (ballM l) T b (q : Int))), ()) := by
  unfold F_impl_net_copCan F_slices_ContainsFunc_Sint_int_f154
  have i2 : inB 0 ((l.length : Int) - 1) (q : Int) = true := inB_iff.2 (by omega)
  have hall : (ballM l (c : Int)).all (inB 0 ((l.length : Int) - 1)) = true := List.all_eq_true.2 fun z hz => by
    obtain ⟨y, hy, rfl⟩ := ballM_ok hn c hc z hz
    exact inB_iff.2 (by omega)
  have hbl := ballM_len l (c : Int)
  have hs1 : okS1 (ballM l (c : Int)) = true := decide_eq_true (by omega)
  simp only [closedM hn u hc, setOfM hn hc, Option.bind_some, G_index154, hn, hT, i2, hall, hs1, Bool.and_self, if_true, idxI_ge]

/-! ### the table -/
theorem row_start (n c : Nat) (hc : c < n) : (List.replicate n (-1 : Int)).set c 0 = (List.range n).map (startF c) := by
  apply List.ext_getElem
  · simp
  · intro i h1 h2
    rw [List.getElem_set]
    simp only [List.getElem_replicate, List.getElem_map, List.getElem_range, startF]
theorem at_midS (pre : Tab) (x : List Int) (post : Tab) : at_ K_Si (pre ++ x :: post) pre.length = x := by
  rw [at_get (e := K_Si) (by simp)]
  simp
theorem set_midS (pre : Tab) (x y : List Int) (post : Tab) : List.set (pre ++ x :: post) pre.length y = pre ++ y :: post := by simp
theorem cop_l0 (N : Nat) (w : Nt) (n : Nat) (hn : n ≤ 8) : ∀ (k : Nat) (pre : Tab) (f : Nat), pre.length + k = n → k < f → pre = (List.range pre.length).map (fun c => (List.range n).map (startF c)) →
    impl_net_copTimes_l0 N f (w, (n : Int), pre ++ List.replicate k [], (n : Int), (pre.length : Int), ()) = some (.inl (w, (n : Int), tabL n startF, ())) := by
  intro k
  induction k with
  | zero =>
    intro pre f h1 h2 h3
    obtain ⟨f, rfl⟩ : ∃ m, f = m + 1 := ⟨f - 1, by omega⟩
    have e : n = pre.length := by omega
    subst e
    show impl_net_copTimes_l0_r N (impl_net_copTimes_l0 N f) _ = _
    unfold impl_net_copTimes_l0_r
    have : decide ((pre.length : Int) < (pre.length : Int)) = false := by simp
    simp only [this, Bool.false_eq_true, if_false, List.replicate_zero, List.append_nil]
    have e : pre = tabL pre.length startF := h3
    rw [← e]
  | succ k ih =>
    intro pre f h1 h2 h3
    obtain ⟨f, rfl⟩ : ∃ m, f = m + 1 := ⟨f - 1, by omega⟩
    have hc : pre.length < n := by omega
    show impl_net_copTimes_l0_r N (impl_net_copTimes_l0 N f) _ = _
    unfold impl_net_copTimes_l0_r
    have hr : G_repeat ([-1], (n : Int), ()) = some (List.replicate n (-1), ()) := by
      unfold G_repeat
      have e1 : decide (1 ≤ (n : Int)) = true := by simp; omega
      have e2 : decide ((n : Int) ≤ 8) = true := by simp; omega
      simp only [List.length_singleton, decide_true, e1, e2, Bool.and_self, if_true, Int.toNat_natCast, List.headD_cons]
    have i1 : idxIn (pre.length : Int) (pre ++ [] :: List.replicate k ([] : List Int)).length = true := idxIn_nat (by simp)
    have i2 : idxIn (pre.length : Int) (pre ++ List.replicate n (-1) :: List.replicate k ([] : List Int)).length = true := idxIn_nat (by simp)
    have i3 : idxIn (pre.length : Int) (List.replicate n (-1 : Int)).length = true := idxIn_nat (by simp; exact hc)
    simp only [List.replicate_succ, lt_dec hc, if_true, hr, Option.bind_some, i1, Int.toNat_natCast, set_midS, i2, at_midS, i3, wrap8 hc hn, row_start n pre.length hc]
    have := ih (pre ++ [(List.range n).map (startF pre.length)]) f (by simp; omega) (by omega) (by
      simp only [List.length_append, List.length_singleton]
      rw [← range_snocT pre.length (fun c => (List.range n).map (startF c)), ← h3])
    simp only [List.length_append, List.length_singleton, List.append_assoc, List.singleton_append] at this
    exact this

/-! ### the rounds -/
theorem cop_l6 (N : Nat) (l : List Int) (hn : netB l = true) (u : Unit) (f : Nat → Nat → Int) (t : Int) (fd : Bool) (c : Nat) (hc : c < l.length) (s38 s39 : Int) : ∀ (k r fu : Nat) (fresh : List E), r + k = l.length → k < fu → fresh.length + k ≤ 1000 →
    impl_net_copTimes_l6 N fu ((l, u), (l.length : Int), tabL l.length f, t, fd, fresh, (c : Int), s38, s39, (l.length : Int), (r : Int), ()) =
      some (.inl ((l, u), (l.length : Int), tabL l.length f, t, fd, fresh ++ rowE (canF l.length (ballM l) f) c k r, s38, s39, ())) := by
  obtain ⟨e, hm, h8, hb⟩ := netB_parts hn
  intro k
  induction k with
  | zero =>
    intro r fu fresh h1 h2 h3
    obtain ⟨fu, rfl⟩ : ∃ m, fu = m + 1 := ⟨fu - 1, by omega⟩
    have e : r = l.length := by omega
    subst e
    show impl_net_copTimes_l6_r N (impl_net_copTimes_l6 N fu) _ = _
    unfold impl_net_copTimes_l6_r
    have : decide ((l.length : Int) < (l.length : Int)) = false := by simp
    simp only [this, Bool.false_eq_true, if_false, rowE, List.append_nil]
  | succ k ih =>
    intro r fu fresh h1 h2 h3
    obtain ⟨fu, rfl⟩ : ∃ m, fu = m + 1 := ⟨fu - 1, by omega⟩
    have hr : r < l.length := by omega
    have hsq := tabL_sq l.length f
    obtain ⟨t1, t2⟩ := sqL_parts hsq
    have i1 : idxIn (c : Int) (tabL l.length f).length = true := idxIn_nat (by omega)
    have i2 : idxIn (r : Int) (at_ K_Si (tabL l.length f) c).length = true := idxIn_nat (by rw [t2 c hc]; exact hr)
    have hv : at_ I (at_ K_Si (tabL l.length f) c) r = f c r := (tab2_at hsq hc hr).trans (tab2_tabL f hc hr)
    have hle : decide (fresh.length + List.length [(((c : Int), (r : Int), ()) : E)] ≤ lim) = true := by
      unfold lim
      simp
      omega
    show impl_net_copTimes_l6_r N (impl_net_copTimes_l6 N fu) _ = _
    unfold impl_net_copTimes_l6_r
    simp only [lt_dec hr, if_true, i1, Int.toNat_natCast, i2, hv, wrap8 hr h8, copCan_some hn u hsq hc hr, Option.bind_some, hle, rowE]
    by_cases hf : f c r < 0
    · cases hany : (ballM l (c : Int)).any (fun b => decide (0 ≤ afterT (ballM l) (tabL l.length f) b (r : Int))) with
      | true =>
        have hcan : canF l.length (ballM l) f c r = true := by
          unfold canF
          simp only [hf, decide_true, hany, Bool.and_self]
        simp only [hf, decide_true, if_true, hcan]
        rw [ih (r + 1) fu _ (by omega) (by omega) (by simp; omega)]
        simp
      | false =>
        have hcan : canF l.length (ballM l) f c r = false := by
          unfold canF
          simp only [hf, decide_true, hany, Bool.and_false]
        simp only [hf, decide_true, if_true, hcan, Bool.false_eq_true, if_false]
        exact ih (r + 1) fu fresh (by omega) (by omega) (by omega)
    · have hcan : canF l.length (ballM l) f c r = false := by
        unfold canF
        simp only [hf, decide_false, Bool.false_and]
      simp only [hf, decide_false, Bool.false_eq_true, if_false, hcan]
      exact ih (r + 1) fu fresh (by omega) (by omega) (by omega)
def allP (p : Nat → Nat → Bool) (n : Nat) : Nat → Nat → List E
  | 0, _ => []
  | k + 1, c => rowE p c n 0 ++ allP p n k (c + 1)
theorem cop_l4 (N : Nat) (hN : 10 ≤ N) (l : List Int) (hn : netB l = true) (u : Unit) (f : Nat → Nat → Int) (t : Int) (fd : Bool) : ∀ (k c fu : Nat) (fresh : List E), c + k = l.length → k < fu → fresh.length + 8 * k ≤ 900 →
    impl_net_copTimes_l4 N fu ((l, u), (l.length : Int), tabL l.length f, t, fd, fresh, (l.length : Int), (c : Int), ()) =
      some (.inl ((l, u), (l.length : Int), tabL l.length f, t, fd, fresh ++ allP (canF l.length (ballM l) f) l.length k c, ())) := by
  obtain ⟨e, hm, h8, hb⟩ := netB_parts hn
  intro k
  induction k with
  | zero =>
    intro c fu fresh h1 h2 h3
    obtain ⟨fu, rfl⟩ : ∃ m, fu = m + 1 := ⟨fu - 1, by omega⟩
    have e : c = l.length := by omega
    subst e
    show impl_net_copTimes_l4_r N (impl_net_copTimes_l4 N fu) _ = _
    unfold impl_net_copTimes_l4_r
    have : decide ((l.length : Int) < (l.length : Int)) = false := by simp
    simp only [this, Bool.false_eq_true, if_false, allP, List.append_nil]
  | succ k ih =>
    intro c fu fresh h1 h2 h3
    obtain ⟨fu, rfl⟩ : ∃ m, fu = m + 1 := ⟨fu - 1, by omega⟩
    have hc : c < l.length := by omega
    have hin := cop_l6 N l hn u f t fd c hc (l.length : Int) (c : Int) l.length 0 N fresh (by omega) (by omega) (by omega)
    simp only [Int.natCast_zero] at hin
    have hrl := rowE_len (p := canF l.length (ballM l) f) (x := c) (m := l.length) (y := 0)
    show impl_net_copTimes_l4_r N (impl_net_copTimes_l4 N fu) _ = _
    unfold impl_net_copTimes_l4_r
    simp only [lt_dec hc, if_true, hin, Option.bind_some, wrap8 hc h8, allP]
    rw [ih (c + 1) fu _ (by omega) (by omega) (by simp; omega), List.append_assoc]
theorem rowE_mem2 {p : Nat → Nat → Bool} {x : Nat} : ∀ {m y : Nat} {e : E}, e ∈ rowE p x m y ↔ ∃ z : Nat, y ≤ z ∧ z < y + m ∧ p x z = true ∧ e = ((x : Int), (z : Int), ()) := by
  intro m
  induction m with
  | zero => intro y e; simp only [rowE, List.not_mem_nil, false_iff]; rintro ⟨z, h1, h2, _⟩; omega
  | succ m ih =>
    intro y e
    unfold rowE
    by_cases h : p x y = true
    · rw [if_pos h, List.mem_cons, ih]
      constructor
      · rintro (rfl | ⟨z, h1, h2, h3⟩)
        · exact ⟨y, Nat.le_refl _, by omega, h, rfl⟩
        · exact ⟨z, by omega, by omega, h3⟩
      · rintro ⟨z, h1, h2, h3, h4⟩
        by_cases ez : z = y
        · subst ez; exact .inl h4
        · exact .inr ⟨z, by omega, by omega, h3, h4⟩
    · rw [if_neg h, ih]
      constructor
      · rintro ⟨z, h1, h2, h3⟩
        exact ⟨z, by omega, by omega, h3⟩
      · rintro ⟨z, h1, h2, h3, h4⟩
        by_cases ez : z = y
        · subst ez; exact absurd h3 h
        · exact ⟨z, by omega, by omega, h3, h4⟩
theorem allP_mem {p : Nat → Nat → Bool} {n : Nat} : ∀ {k c : Nat} {e : E}, e ∈ allP p n k c ↔ ∃ x z : Nat, c ≤ x ∧ x < c + k ∧ z < n ∧ p x z = true ∧ e = ((x : Int), (z : Int), ()) := by
  intro k
  induction k with
  | zero => intro c e; simp only [allP, List.not_mem_nil, false_iff]; rintro ⟨x, z, h1, h2, _⟩; omega
  | succ k ih =>
    intro c e
    simp only [allP, List.mem_append, rowE_mem2, ih]
    constructor
    · rintro (⟨z, h1, h2, h3, h4⟩ | ⟨x, z, h1, h2, h3, h4, h5⟩)
      · exact ⟨c, z, Nat.le_refl _, by omega, by omega, h3, h4⟩
      · exact ⟨x, z, by omega, by omega, h3, h4, h5⟩
    · rintro ⟨x, z, h1, h2, h3, h4, h5⟩
      by_cases ex : x = c
      · subst ex; exact .inl ⟨z, by omega, by omega, h4, h5⟩
      · exact .inr ⟨x, z, by omega, by omega, h3, h4, h5⟩
def isP (c r : Nat) (e : E) : Bool := e.1 == (c : Int) && e.2.1 == (r : Int)
theorem tabL_set {n : Nat} {g : Nat → Nat → Int} {x z : Nat} (hx : x < n) (hz : z < n) (t : Int) : List.set (tabL n g) x (List.set (at_ K_Si (tabL n g) x) z t) = tabL n fun c r => if c = x ∧ r = z then t else g c r := by
  have hl : x < (tabL n g).length := by rw [tabL_len]; exact hx
  have e : at_ K_Si (tabL n g) x = (tabL n g)[x] := at_get (e := K_Si) hl
  have hrow := tabL_row g hx
  rw [List.getElem?_eq_getElem hl] at hrow
  rw [e, Option.some.inj hrow, map_set]
  apply List.ext_getElem
  · simp [tabL]
  · intro i h1 h2
    rw [List.getElem_set]
    by_cases ei : x = i
    · subst ei
      simp only [if_true, tabL, List.getElem_map, List.getElem_range, true_and]
    · have ei' : ¬ i = x := fun h => ei h.symm
      simp only [ei, if_false, tabL, List.getElem_map, List.getElem_range, ei', false_and]
theorem cop_l8 (N : Nat) (w : Nt) (n : Nat) (t : Int) (fresh : List E) (hfr : ∀ e ∈ fresh, ∃ x z : Nat, x < n ∧ z < n ∧ e = ((x : Int), (z : Int), ())) (hl : fresh.length ≤ 900) : ∀ (k i fu : Nat) (g : Nat → Nat → Int) (fd : Bool), i + k = fresh.length → k < fu →
    impl_net_copTimes_l8 N fu (w, (n : Int), tabL n g, t, fd, fresh, (fresh.length : Int), (i : Int), ()) =
      some (.inl (w, (n : Int), tabL n (fun c r => if (fresh.drop i).any (isP c r) = true then t else g c r), t, fd || decide (0 < k), ())) := by
  have hmx : fresh.length ≤ maxLen := by unfold maxLen; omega
  intro k
  induction k with
  | zero =>
    intro i fu g fd h1 h2
    obtain ⟨fu, rfl⟩ : ∃ m, fu = m + 1 := ⟨fu - 1, by omega⟩
    have e : i = fresh.length := by omega
    subst e
    show impl_net_copTimes_l8_r N (impl_net_copTimes_l8 N fu) _ = _
    unfold impl_net_copTimes_l8_r
    have : decide ((fresh.length : Int) < (fresh.length : Int)) = false := by simp
    rw [List.drop_of_length_le (Nat.le_refl _)]
    simp only [this, Bool.false_eq_true, if_false, List.any_nil, Nat.lt_irrefl, decide_false, Bool.or_false]
  | succ k ih =>
    intro i fu g fd h1 h2
    obtain ⟨fu, rfl⟩ : ∃ m, fu = m + 1 := ⟨fu - 1, by omega⟩
    have hi : i < fresh.length := by omega
    obtain ⟨x, z, hx, hz, ee⟩ := hfr fresh[i] (List.getElem_mem hi)
    have e : at_ K_Piiq fresh i = ((x : Int), (z : Int), ()) := (at_get (e := K_Piiq) hi).trans ee
    obtain ⟨t1, t2⟩ := sqL_parts (tabL_sq n g)
    have i1 : idxIn (x : Int) (tabL n g).length = true := idxIn_nat (by omega)
    have i2 : idxIn (z : Int) (at_ K_Si (tabL n g) x).length = true := idxIn_nat (by rw [t2 x hx]; exact hz)
    show impl_net_copTimes_l8_r N (impl_net_copTimes_l8 N fu) _ = _
    unfold impl_net_copTimes_l8_r
    simp only [lt_dec hi, if_true, idxIn_nat hi, Int.toNat_natCast, e, i1, i2, wrap_up hi hmx, tabL_set hx hz]
    rw [ih (i + 1) fu _ true (by omega) (by omega), List.drop_eq_getElem_cons hi, ee]
    have et : tabL n (fun c r => if (fresh.drop (i + 1)).any (isP c r) = true then t else if c = x ∧ r = z then t else g c r) = tabL n fun c r => if (((x : Int), (z : Int), ()) :: fresh.drop (i + 1)).any (isP c r) = true then t else g c r := tabL_congr fun c r _ _ => by
      rw [List.any_cons]
      by_cases h3 : (fresh.drop (i + 1)).any (isP c r) = true
      · simp [h3]
      · have h3' : (fresh.drop (i + 1)).any (isP c r) = false := by simpa using h3
        by_cases h4 : c = x ∧ r = z
        · have : isP c r ((x : Int), (z : Int), ()) = true := by
            unfold isP
            simp [h4.1, h4.2]
          rw [if_neg h3, if_pos h4, this, Bool.true_or, if_pos rfl]
        · have : isP c r ((x : Int), (z : Int), ()) = false := by
            unfold isP
            simp only [Bool.and_eq_false_iff, beq_eq_false_iff_ne, ne_eq]
            by_cases h5 : c = x
            · exact .inr fun h => h4 ⟨h5, by omega⟩
            · exact .inl fun h => h5 (by omega)
          simp [h3', h4, this]
    rw [et]
    simp
theorem allP_len {p : Nat → Nat → Bool} {n : Nat} : ∀ {k c : Nat}, (allP p n k c).length ≤ n * k := by
  intro k
  induction k with
  | zero => intro c; simp [allP]
  | succ k ih =>
    intro c
    have h1 := rowE_len (p := p) (x := c) (m := n) (y := 0)
    have h2 := ih (c := c + 1)
    simp only [allP, List.length_append, Nat.mul_succ]
    omega
theorem allP_any {p : Nat → Nat → Bool} {n c r : Nat} (hc : c < n) (hr : r < n) : (allP p n n 0).any (isP c r) = p c r := by
  apply Bool.eq_iff_iff.2
  rw [List.any_eq_true]
  constructor
  · rintro ⟨e, he, h⟩
    obtain ⟨x, z, h1, h2, h3, h4, rfl⟩ := allP_mem.1 he
    unfold isP at h
    simp only [Bool.and_eq_true, beq_iff_eq] at h
    have e1 : x = c := by omega
    have e2 : z = r := by omega
    subst e1 e2
    exact h4
  · intro h
    exact ⟨((c : Int), (r : Int), ()), allP_mem.2 ⟨c, r, Nat.zero_le _, by omega, hr, h, rfl⟩, by unfold isP; simp⟩
theorem allP_pos {p : Nat → Nat → Bool} {n : Nat} : decide (0 < (allP p n n 0).length) = anyF n p := by
  apply Bool.eq_iff_iff.2
  rw [decide_eq_true_eq, anyF_spec]
  constructor
  · intro h
    obtain ⟨x, z, h1, h2, h3, h4, _⟩ := allP_mem.1 (List.getElem_mem h)
    exact ⟨x, z, by omega, h3, h4⟩
  · rintro ⟨c, r, hc, hr, h⟩
    exact List.length_pos_of_mem (allP_mem.2 ⟨c, r, Nat.zero_le _, by omega, hr, h, rfl⟩)
theorem cop_l2 (N : Nat) (hN : 100 ≤ N) (l : List Int) (hn : netB l = true) (u : Unit) : ∀ (k t : Nat) (f : Nat → Nat → Int), t + k ≤ 900 → negs l.length f < k → ∀ fu, k + 1 ≤ fu →
    impl_net_copTimes_l2 N fu ((l, u), (l.length : Int), tabL l.length f, (t : Int), true, ()) = some (.inl (tabL l.length (timesF l.length (ballM l) k (t : Int) f), ())) := by
  obtain ⟨e, hm, h8, hb⟩ := netB_parts hn
  intro k
  induction k with
  | zero => intro t f _ h; omega
  | succ k ih =>
    intro t f ht hng fu hfu
    obtain ⟨fu, rfl⟩ : ∃ m, fu = m + 1 := ⟨fu - 1, by omega⟩
    have h4 := cop_l4 N (by omega) l hn u f (t : Int) false l.length 0 N [] (by omega) (by omega) (by simp; omega)
    simp only [Int.natCast_zero, List.nil_append] at h4
    have hlen := allP_len (p := canF l.length (ballM l) f) (n := l.length) (k := l.length) (c := 0)
    have hnn : l.length * l.length ≤ 8 * 8 := Nat.mul_le_mul h8 h8
    have h8' := cop_l8 N (l, u) l.length (t : Int) (allP (canF l.length (ballM l) f) l.length l.length 0) (fun e he => by
      obtain ⟨x, z, _, h2, h3, _, h5⟩ := allP_mem.1 he
      exact ⟨x, z, by omega, h3, h5⟩) (by omega) (allP (canF l.length (ballM l) f) l.length l.length 0).length 0 N f false (by omega) (by omega)
    simp only [Int.natCast_zero, List.drop_zero, Bool.false_or, allP_pos] at h8'
    have et : tabL l.length (fun c r => if (allP (canF l.length (ballM l) f) l.length l.length 0).any (isP c r) = true then (t : Int) else f c r) = tabL l.length (stepF l.length (ballM l) (t : Int) f) := tabL_congr fun c r hc hr => by
      rw [allP_any hc hr]
      rfl
    rw [et] at h8'
    have hw : IntKind.wrap .i64 ((t : Int) + 1) = ((t + 1 : Nat) : Int) := by
      rw [wrap_in _ (by omega) (by omega)]
      rfl
    show impl_net_copTimes_l2_r N (impl_net_copTimes_l2 N fu) _ = _
    unfold impl_net_copTimes_l2_r
    simp only [if_true, h4, Option.bind_some, h8', hw, timesF]
    by_cases ha : anyF l.length (canF l.length (ballM l) f) = true
    · rw [if_pos ha, ha]
      have := negs_step (t := (t : Int)) (by omega) ha
      exact ih (t + 1) _ (by omega) (by omega) fu (by omega)
    · have ha' : anyF l.length (canF l.length (ballM l) f) = false := (Bool.not_eq_true _).mp ha
      rw [if_neg ha, ha']
      obtain ⟨fu, rfl⟩ : ∃ m, fu = m + 1 := ⟨fu - 1, by omega⟩
      have e : tabL l.length (stepF l.length (ballM l) (t : Int) f) = tabL l.length f := tabL_congr fun c r hc hr => by
        refine if_neg fun h => ha ?_
        exact anyF_spec.2 ⟨c, r, hc, hr, h⟩
      rw [e]
      rfl
theorem copTimes_lim (d) (r) (h : G_copTimes d = some r) : ∃ N, F_impl_net_copTimes N d = some r := by
  obtain ⟨⟨l, u⟩, _⟩ := d
  unfold G_copTimes at h
  split at h
  · rename_i hn
    have hn : netB l = true := hn
    obtain ⟨e, hm, h8, hb⟩ := netB_parts hn
    have h := Option.some.inj h
    subst h
    refine ⟨100, ?_⟩
    unfold F_impl_net_copTimes g_impl_net_size
    have hc : (decide (0 ≤ (l.length : Int)) && decide ((l.length : Int) ≤ (l.length : Int)) && decide ((l.length : Int) ≤ (lim : Int))) = true := by
      have a1 : (l.length : Int) ≤ (lim : Int) := by unfold lim; omega
      simp only [a1, nonneg_dec, decide_true, Bool.and_self, Int.le_refl]
    have h0 := cop_l0 100 (l, u) l.length h8 l.length [] 100 (by simp) (by omega) rfl
    simp only [List.nil_append, List.length_nil, Int.natCast_zero] at h0
    have hnn : l.length * l.length ≤ 8 * 8 := Nat.mul_le_mul h8 h8
    have hneg := negs_le l.length startF
    have h2 := cop_l2 100 (by omega) l hn u 65 1 startF (by omega) (by omega) 100 (by omega)
    simp only [Int.natCast_one] at h2
    simp only [hc, if_true, Int.toNat_natCast, List.length_replicate, h0, Option.bind_some, h2]
    rfl
  · cases h

/-! ### the law -/
theorem netB_net {n : Nat} (hn : n ≤ 8) {es : List E} (h : es.all (edgeB (n : Int)) = true) : netB (toI (netN n es)) = true ∧ (toI (netN n es)).length = n := by
  have hok := netN_ok hn h
  have hl : (toI (netN n es)).length = n := by rw [toI_len, hok.1]
  refine ⟨?_, hl⟩
  unfold netB
  rw [small_toI hok hn, Bool.true_and, List.all_eq_true, hl]
  intro m hm
  unfold toI at hm
  obtain ⟨a, ha, rfl⟩ := List.mem_map.1 hm
  obtain ⟨i, hi, rfl⟩ := List.getElem_of_mem ha
  have hlt : (netN n es)[i] < 2 ^ n := by
    refine Nat.lt_pow_two_of_testBit _ fun j hj => ?_
    have hb := netN_bit hn h i j
    unfold hasN at hb
    simp only [List.getD_eq_getElem?_getD, List.getElem?_eq_getElem hi, Option.getD_some] at hb
    rw [hb, isE_near es h]
    cases hnr : nearI es (i : Int) (j : Int) with
    | false => rfl
    | true => have := near_lt h hnr; omega
  simp only [decide_eq_true_eq]
  omega
theorem ball_same {n : Nat} (hn : n ≤ 8) {es : List E} (h : es.all (edgeB (n : Int)) = true) {x : Nat} (hx : x < n) : ballM (toI (netN n es)) (x : Int) = ballF n es (x : Int) := by
  unfold ballM ballF
  have hok := netN_ok hn h
  have hM : isM n ((netN n es).getD x 0 ||| 2 ^ x) (fun y => nearI es (x : Int) (y : Int) || decide ((y : Int) = (x : Int))) := by
    refine ⟨Nat.or_lt_two_pow (n := 8) (hok.2 x) (pow_small (by omega)), fun w => ?_⟩
    rw [Nat.testBit_or, Nat.testBit_two_pow]
    have hb := netN_bit hn h x w
    unfold hasN at hb
    rw [hb, isE_near es h]
    apply Bool.eq_iff_iff.2
    simp only [Bool.or_eq_true, Bool.and_eq_true, decide_eq_true_eq]
    constructor
    · rintro (h' | h')
      · exact ⟨near_lt h h', .inl h'⟩
      · subst h'
        exact ⟨hx, .inr rfl⟩
    · rintro ⟨h1, h2 | h2⟩
      · exact .inl h2
      · exact .inr (by omega)
  simp only [toI_from, Int.toNat_natCast]
  exact setF_mask hn hM
theorem canF_congr {n : Nat} {b1 b2 : Int → List Int} (hb : ∀ x : Nat, x < n → b1 (x : Int) = b2 (x : Int)) {f g : Nat → Nat → Int} (h : ∀ c r, c < n → r < n → f c r = g c r) {c r : Nat} (hc : c < n) (hr : r < n) : canF n b1 f c r = canF n b2 g c r := by
  unfold canF afterT
  rw [h c r hc hr, tabL_congr h, hb c hc, hb r hr]
theorem timesF_congr {n : Nat} {b1 b2 : Int → List Int} (hb : ∀ x : Nat, x < n → b1 (x : Int) = b2 (x : Int)) : ∀ (k : Nat) (t : Int) (f g : Nat → Nat → Int), (∀ c r, c < n → r < n → f c r = g c r) → ∀ c r, c < n → r < n → timesF n b1 k t f c r = timesF n b2 k t g c r := by
  intro k
  induction k with
  | zero => intro t f g h c r hc hr; exact h c r hc hr
  | succ k ih =>
    intro t f g h c r hc hr
    have ha : anyF n (canF n b1 f) = anyF n (canF n b2 g) := by
      apply Bool.eq_iff_iff.2
      rw [anyF_spec, anyF_spec]
      constructor
      · rintro ⟨c, r, hc, hr, hh⟩
        exact ⟨c, r, hc, hr, by rw [← canF_congr hb h hc hr]; exact hh⟩
      · rintro ⟨c, r, hc, hr, hh⟩
        exact ⟨c, r, hc, hr, by rw [canF_congr hb h hc hr]; exact hh⟩
    simp only [timesF, ha]
    split
    · refine ih (t + 1) _ _ (fun c r hc hr => ?_) c r hc hr
      unfold stepF
      rw [canF_congr hb h hc hr, h c r hc hr]
    · exact h c r hc hr
theorem graph_grB {n : Int} {l : List E} {v : Unit} (h : graphB (n, l, v) = true) (hl : okL l = true) : grB (n, l, v) = true := by
  have h8 := graphB_n h
  have he := (graphB_edges h).1
  unfold grB
  have e1 : decide (0 ≤ n) = true := by simp; omega
  have e2 : decide (n ≤ 8) = true := by simp; omega
  simp only [hl, e1, e2, he, Bool.and_self]
def chB (w : Wk) : Int × Bool × Unit := if (workB w && decide (0 ≤ w.2.1) && decide (0 ≤ w.2.2.1)) = true then (tab2 (timesT w.1.1.toNat (ballF w.1.1.toNat w.1.2.1)) w.2.1 w.2.2.1, true, ()) else (0, false, ())
theorem good_eq (w : Wk) (u : Unit) : F_spec_IsWorkshop 0 (w, u) = F_spec_l12Good 0 (w, u) := by
  show (F_spec_l12Good 0 (w, ())).bind (fun r1 => some (r1.1, ())) = F_spec_l12Good 0 (w, ())
  cases F_spec_l12Good 0 (w, ()) <;> rfl
theorem work_parts {n : Int} {l : List E} {v : Unit} {p q : Int} {m : List Int} {t : Int} {u : Unit} (h : workB ((n, l, v), p, q, m, t, u) = true) : graphB (n, l, v) = true ∧ p ≤ n - 1 ∧ q ≤ n - 1 := by
  unfold workB at h
  simp only [Bool.and_eq_true] at h
  obtain ⟨⟨⟨⟨h1, h2⟩, h3⟩, _⟩, _⟩ := h
  have h2 := inB_iff.1 h2
  have h3 := inB_iff.1 h3
  exact ⟨h1, h2.2, h3.2⟩
theorem specCh (n : Int) (l : List E) (v : Unit) (p q : Int) (m : List Int) (t : Int) (u w : Unit) (hl : okL l = true) (hm : okL m = true) : F_spec_ChaseTime 0 (((n, l, v), p, q, m, t, u), w) = some (chB ((n, l, v), p, q, m, t, u)) := by
  unfold F_spec_ChaseTime chB
  have hW := specW n l v p q m t u () hl hm
  rw [good_eq] at hW
  simp only [hW, Option.bind_some]
  cases hw : workB ((n, l, v), p, q, m, t, u) with
  | false => rfl
  | true =>
    obtain ⟨hg, hp, hq⟩ := work_parts hw
    simp only [Bool.not_true, Bool.false_eq_true, if_false, Bool.true_and]
    unfold F_spec_l12Time
    by_cases p0 : p < 0
    · have : decide (0 ≤ p) = false := by simp; omega
      simp only [p0, decide_true, if_true, this, Bool.false_and, Bool.false_eq_true, if_false, Option.bind_some]
    · have e1 : decide (0 ≤ p) = true := by simp; omega
      by_cases q0 : q < 0
      · have : decide (0 ≤ q) = false := by simp; omega
        simp only [p0, q0, decide_true, decide_false, if_true, this, Bool.and_false, Bool.false_eq_true, if_false, Option.bind_some]
      · have e2 : decide (0 ≤ q) = true := by simp; omega
        have hG := graph_grB hg hl
        obtain ⟨g1, g2, g3, g4⟩ := grB_parts hG
        have g2 : n = (n.toNat : Int) := g2
        have ep : p = (p.toNat : Int) := by omega
        have eq : q = (q.toNat : Int) := by omega
        have hpn : p.toNat < n.toNat := by omega
        have hqn : q.toNat < n.toNat := by omega
        have hsq : sqL n.toNat (timesT n.toNat (ballF n.toNat l)) = true := tabL_sq _ _
        obtain ⟨t1, t2⟩ := sqL_parts hsq
        have i1 : idxIn p (timesT n.toNat (ballF n.toNat l)).length = true := by rw [ep]; exact idxIn_nat (by omega)
        have i2 : idxIn q (at_ K_Si (timesT n.toNat (ballF n.toNat l)) p.toNat).length = true := by rw [eq]; exact idxIn_nat (by rw [t2 _ hpn]; exact hqn)
        have hat := tab2_at hsq hpn hqn
        rw [← ep, ← eq] at hat
        simp only [p0, q0, decide_false, Bool.false_eq_true, if_false, G_l3Times, hG, if_true, Option.bind_some, i1, i2, e1, e2, Bool.and_self, hat]
theorem implCh (n : Int) (l : List E) (v : Unit) (p q : Int) (m : List Int) (t : Int) (u w : Unit) (hl : okL l = true) (hm : okL m = true) : F_impl_ChaseTime 0 (((n, l, v), p, q, m, t, u), w) = some (chB ((n, l, v), p, q, m, t, u)) := by
  unfold F_impl_ChaseTime chB
  simp only [implW n l v p q m t u _ hl hm, Option.bind_some]
  cases hw : workB ((n, l, v), p, q, m, t, u) with
  | false => rfl
  | true =>
    obtain ⟨hg, hp, hq⟩ := work_parts hw
    simp only [Bool.not_true, Bool.false_eq_true, if_false, Bool.true_and]
    by_cases p0 : p < 0
    · have : decide (0 ≤ p) = false := by simp; omega
      simp only [p0, decide_true, if_true, this, Bool.false_and, Bool.false_eq_true, if_false]
    · have e1 : decide (0 ≤ p) = true := by simp; omega
      by_cases q0 : q < 0
      · have : decide (0 ≤ q) = false := by simp; omega
        simp only [p0, q0, decide_true, decide_false, if_true, this, Bool.and_false, Bool.false_eq_true, if_false]
      · have e2 : decide (0 ≤ q) = true := by simp; omega
        have hG := graph_grB hg hl
        obtain ⟨g1, g2, g3, g4⟩ := grB_parts hG
        have g2 : n = (n.toNat : Int) := g2
        have g3 : n.toNat ≤ 8 := g3
        have g4 : l.all (edgeB (n.toNat : Int)) = true := g4
        have ep : p = (p.toNat : Int) := by omega
        have eq : q = (q.toNat : Int) := by omega
        have hpn : p.toNat < n.toNat := by omega
        have hqn : q.toNat < n.toNat := by omega
        obtain ⟨nb, nl⟩ := netB_net g3 g4
        have hT : timesT (toI (netN n.toNat l)).length (ballM (toI (netN n.toNat l))) = timesT n.toNat (ballF n.toNat l) := by
          rw [nl]
          exact tabL_congr (timesF_congr (fun x hx => ball_same g3 g4 hx) 65 1 startF startF fun _ _ _ _ => rfl)
        have hsq : sqL n.toNat (timesT n.toNat (ballF n.toNat l)) = true := tabL_sq _ _
        obtain ⟨t1, t2⟩ := sqL_parts hsq
        have i1 : idxIn p (timesT n.toNat (ballF n.toNat l)).length = true := by rw [ep]; exact idxIn_nat (by omega)
        have i2 : idxIn q (at_ K_Si (timesT n.toNat (ballF n.toNat l)) p.toNat).length = true := by rw [eq]; exact idxIn_nat (by rw [t2 _ hpn]; exact hqn)
        have hat := tab2_at hsq hpn hqn
        rw [← ep, ← eq] at hat
        have a1 : (decide (0 ≤ n) && decide (n ≤ 8) && okL l && l.all (edgeB n)) = true := by
          have b1 : decide (0 ≤ n) = true := by simp; omega
          have b2 : decide (n ≤ 8) = true := by simp; omega
          rw [← g2] at g4
          simp only [b1, b2, hl, g4, Bool.and_self]
        simp only [p0, q0, decide_false, Bool.false_eq_true, if_false, G_netOf, a1, G_copTimes, nb, hT, if_true, Option.bind_some, i1, i2, e1, e2, Bool.and_self, hat]
theorem law11 : ∀ d, WfD (Kd.tuple ([(K_PPiSPiiqqiiSiiq, false)].map (·.1))) d → ∃ out, F_laws_FnExactChaseTime 0 d = some out ∧ (splitT [.bool] [] out).1.1 = true := by
  rintro ⟨⟨⟨n, l, v⟩, p, q, m, t, u⟩, w⟩ ⟨⟨⟨_, hl, _⟩, _, _, hm, _⟩, _⟩
  have hl : l.length ≤ maxLen := hl.1
  have hm : m.length ≤ maxLen := hm.1
  refine ⟨(true, ()), ?_, rfl⟩
  unfold F_laws_FnExactChaseTime
  rcases szWorkshop_neg n l v p q m t u hl hm with h | ⟨h1, h2⟩
  · simp only [h, decide_true, if_true]
  · have h1 := okL_of h1
    have h2 := okL_of h2
    simp only [toWorkshop_eq n l v p q m t u _ h1 h2, specCh n l v p q m t u _ h1 h2, implCh n l v p q m t u _ h1 h2, eqWorkshop_self n l v p q m t u _ h1 h2, Option.bind_some, beq_self_eq_true, bne_self_eq_false, Bool.not_true, Bool.false_eq_true, if_false]
    split <;> rfl
end Go.V.W
