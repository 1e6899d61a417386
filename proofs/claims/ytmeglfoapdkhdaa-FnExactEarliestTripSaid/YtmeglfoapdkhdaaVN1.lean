/- Nets of bits and lists of edges: plain facts. -/
import Derived.Test.YtmeglfoapdkhdaaVS0
set_option linter.unusedVariables false
set_option linter.unusedSimpArgs false
namespace Go.V.W

/-! ### bits -/
theorem wrap_nat {m : Nat} (h : m < 9223372036854775808) : IntKind.wrap .i64 (m : Int) = (m : Int) := Go.IntWalk.i64_in _ (by omega)
theorem ofInt_nat (m : Nat) : BitVec.ofInt 64 (m : Int) = BitVec.ofNat 64 m := by simp
theorem bits_or {a b : Nat} (ha : a < 256) (hb : b < 256) : bits .or .i64 (a : Int) (b : Int) = ((a ||| b : Nat) : Int) := by
  have hab : a ||| b < 256 := Nat.or_lt_two_pow (n := 8) ha hb
  have e : (BitVec.ofInt IntKind.i64.bits (a : Int) ||| BitVec.ofInt IntKind.i64.bits (b : Int)).toNat = a ||| b := by
    show (BitVec.ofInt 64 (a : Int) ||| BitVec.ofInt 64 (b : Int)).toNat = a ||| b
    rw [ofInt_nat, ofInt_nat, BitVec.toNat_or, BitVec.toNat_ofNat, BitVec.toNat_ofNat, Nat.mod_eq_of_lt (by omega), Nat.mod_eq_of_lt (by omega)]
  unfold bits bitI
  simp only [Option.getD_some]
  rw [e]
  exact wrap_nat (by omega)
theorem bits_and {a b : Nat} (ha : a < 256) (hb : b < 256) : bits .and .i64 (a : Int) (b : Int) = ((a &&& b : Nat) : Int) := by
  have hab : a &&& b ≤ a := Nat.and_le_left
  have e : (BitVec.ofInt IntKind.i64.bits (a : Int) &&& BitVec.ofInt IntKind.i64.bits (b : Int)).toNat = a &&& b := by
    show (BitVec.ofInt 64 (a : Int) &&& BitVec.ofInt 64 (b : Int)).toNat = a &&& b
    rw [ofInt_nat, ofInt_nat, BitVec.toNat_and, BitVec.toNat_ofNat, BitVec.toNat_ofNat, Nat.mod_eq_of_lt (by omega), Nat.mod_eq_of_lt (by omega)]
  unfold bits bitI
  simp only [Option.getD_some]
  rw [e]
  exact wrap_nat (by omega)
theorem shl_one {y : Nat} (h : y < 8) : shl .i64 1 (y : Int) = ((2 ^ y : Nat) : Int) := by
  have : y = 0 ∨ y = 1 ∨ y = 2 ∨ y = 3 ∨ y = 4 ∨ y = 5 ∨ y = 6 ∨ y = 7 := by omega
  rcases this with rfl | rfl | rfl | rfl | rfl | rfl | rfl | rfl <;> decide
theorem pow_small {y : Nat} (h : y < 8) : 2 ^ y < 256 := by
  have : y = 0 ∨ y = 1 ∨ y = 2 ∨ y = 3 ∨ y = 4 ∨ y = 5 ∨ y = 6 ∨ y = 7 := by omega
  rcases this with rfl | rfl | rfl | rfl | rfl | rfl | rfl | rfl <;> decide
theorem shr_nat {m y : Nat} (h : y < 8) : shr .i64 (m : Int) (y : Int) = ((m >>> y : Nat) : Int) := by
  unfold shr
  have e : min (y : Int).toNat IntKind.i64.bits = y := by
    show min (y : Int).toNat 64 = y
    rw [Int.toNat_natCast]
    omega
  rw [e, Nat.shiftRight_eq_div_pow, Int.fdiv_eq_ediv_of_nonneg _ (by
    have := Nat.two_pow_pos y
    exact_mod_cast Nat.zero_le (2 ^ y))]
  norm_cast
theorem has_bit {m y : Nat} (hm : m < 256) (h : y < 8) : (bits .and .i64 (shr .i64 (m : Int) (y : Int)) 1 == (1 : Int)) = m.testBit y := by
  have h1 : m >>> y < 256 := by
    rw [Nat.shiftRight_eq_div_pow]
    exact Nat.lt_of_le_of_lt (Nat.div_le_self _ _) hm
  rw [shr_nat h]
  have := bits_and h1 (show 1 < 256 by omega)
  rw [show ((1 : Nat) : Int) = 1 from rfl] at this
  rw [this, Nat.testBit_eq_decide_div_mod_eq, Nat.shiftRight_eq_div_pow, Nat.and_one_is_mod]
  have : m / 2 ^ y % 2 = 0 ∨ m / 2 ^ y % 2 = 1 := by omega
  rcases this with h | h <;> simp [h]

/-! ### nets -/
def okN (n : Nat) (ms : List Nat) : Prop := ms.length = n ∧ ∀ x, ms.getD x 0 < 256
theorem okN_zero (n : Nat) : okN n (List.replicate n 0) := by
  refine ⟨by simp, fun x => ?_⟩
  simp only [List.getD_eq_getElem?_getD, List.getElem?_replicate]
  split <;> simp
theorem getD_set (ms : List Nat) (a x v : Nat) (h : a < ms.length) : (ms.set a v).getD x 0 = if x = a then v else ms.getD x 0 := by
  simp only [List.getD_eq_getElem?_getD, List.getElem?_set]
  by_cases e : x = a
  · subst e; simp [h]
  · simp [e, Ne.symm e]
theorem orN_ok {n : Nat} {ms : List Nat} (h : okN n ms) {a b : Nat} (ha : a < n) (hb : b < 8) : okN n (orN ms a b) := by
  refine ⟨by simp [orN, h.1], fun x => ?_⟩
  unfold orN
  rw [getD_set _ _ _ _ (by rw [h.1]; exact ha)]
  split
  · exact Nat.or_lt_two_pow (n := 8) (h.2 a) (pow_small hb)
  · exact h.2 x
theorem orN_bit {n : Nat} {ms : List Nat} (h : okN n ms) {a b : Nat} (ha : a < n) (x y : Nat) : ((orN ms a b).getD x 0).testBit y = ((ms.getD x 0).testBit y || (decide (x = a) && decide (y = b))) := by
  unfold orN
  rw [getD_set _ _ _ _ (by rw [h.1]; exact ha)]
  by_cases e : x = a
  · subst e
    simp only [if_true, Nat.testBit_or, Nat.testBit_two_pow, decide_true, Bool.true_and]
    congr 1
    by_cases e : y = b
    · simp [e]
    · simp [e, Ne.symm e]
  · simp [e]
/-- An edge of n nodes. -/
theorem edgeB_nat {n : Nat} {e : E} (h : edgeB (n : Int) e = true) : e.1.toNat < e.2.1.toNat ∧ e.2.1.toNat < n ∧ e.1 = (e.1.toNat : Int) ∧ e.2.1 = (e.2.1.toNat : Int) := by
  unfold edgeB at h
  simp only [Bool.and_eq_true, decide_eq_true_eq] at h
  omega
theorem addN_ok {n : Nat} {ms : List Nat} (hn : n ≤ 8) (h : okN n ms) {e : E} (he : edgeB (n : Int) e = true) : okN n (addN ms e) := by
  obtain ⟨h1, h2, _, _⟩ := edgeB_nat he
  exact orN_ok (orN_ok h (by omega) (by omega)) h2 (by omega)
def isE (e : E) (x y : Nat) : Bool := (decide (x = e.1.toNat) && decide (y = e.2.1.toNat)) || (decide (x = e.2.1.toNat) && decide (y = e.1.toNat))
theorem foldN_ok {n : Nat} (hn : n ≤ 8) : ∀ (es : List E) (ms : List Nat), okN n ms → es.all (edgeB (n : Int)) = true → okN n (es.foldl addN ms) ∧ ∀ x y, ((es.foldl addN ms).getD x 0).testBit y = ((ms.getD x 0).testBit y || es.any (fun e => isE e x y)) := by
  intro es
  induction es with
  | nil => intro ms h _; exact ⟨h, fun x y => by simp⟩
  | cons e es ih =>
    intro ms h he
    simp only [List.all_cons, Bool.and_eq_true] at he
    obtain ⟨h1, h2, _, _⟩ := edgeB_nat he.1
    obtain ⟨k1, k2⟩ := ih (addN ms e) (addN_ok hn h he.1) he.2
    refine ⟨k1, fun x y => ?_⟩
    rw [List.foldl_cons, k2 x y]
    unfold addN
    rw [orN_bit (orN_ok h (show e.1.toNat < n by omega) (by omega)) h2, orN_bit h (show e.1.toNat < n by omega)]
    simp only [List.any_cons, isE, Bool.or_assoc]
theorem netN_ok {n : Nat} (hn : n ≤ 8) {es : List E} (h : es.all (edgeB (n : Int)) = true) : okN n (netN n es) := (foldN_ok hn es _ (okN_zero n) h).1
theorem netN_bit {n : Nat} (hn : n ≤ 8) {es : List E} (h : es.all (edgeB (n : Int)) = true) (x y : Nat) : hasN (netN n es) x y = es.any (fun e => isE e x y) := by
  unfold hasN netN
  rw [(foldN_ok hn es _ (okN_zero n) h).2 x y]
  have : ((List.replicate n 0).getD x 0).testBit y = false := by
    simp only [List.getD_eq_getElem?_getD, List.getElem?_replicate]
    split <;> simp
  rw [this, Bool.false_or]

/-! ### lists in order -/
theorem lessE_trans {a b c : E} (h1 : lessE a b = true) (h2 : lessE b c = true) : lessE a c = true := by
  simp only [lessE, Bool.or_eq_true, Bool.and_eq_true, decide_eq_true_eq] at h1 h2 ⊢
  omega
theorem lessE_irr (a : E) : lessE a a = false := by simp [lessE]
theorem rising_pair : ∀ {l : List E}, risingE l = true → l.Pairwise fun a b => lessE a b = true := by
  intro l
  induction l with
  | nil => intro _; exact .nil
  | cons a l ih =>
    intro h
    cases l with
    | nil => simp
    | cons b l =>
      simp only [risingE, Bool.and_eq_true] at h
      have := ih h.2
      rw [List.pairwise_cons] at this ⊢
      refine ⟨fun c hc => ?_, by rw [List.pairwise_cons]; exact this⟩
      rcases List.mem_cons.1 hc with rfl | hc
      · exact h.1
      · exact lessE_trans h.1 (this.1 c hc)
theorem sorted_ext : ∀ {l m : List E}, (l.Pairwise fun a b => lessE a b = true) → (m.Pairwise fun a b => lessE a b = true) → (∀ x, x ∈ l ↔ x ∈ m) → l = m := by
  intro l
  induction l with
  | nil =>
    intro m _ _ h
    cases m with
    | nil => rfl
    | cons b m => exact absurd ((h b).2 (by simp)) (by simp)
  | cons a l ih =>
    intro m hl hm h
    cases m with
    | nil => exact absurd ((h a).1 (by simp)) (by simp)
    | cons b m =>
      rw [List.pairwise_cons] at hl hm
      have e : a = b := by
        rcases List.mem_cons.1 ((h a).1 (by simp)) with e | ha
        · exact e
        rcases List.mem_cons.1 ((h b).2 (by simp)) with e | hb
        · exact e.symm
        have := lessE_trans (hl.1 b hb) (hm.1 a ha)
        rw [lessE_irr] at this
        cases this
      subst e
      congr 1
      refine ih hl.2 hm.2 fun x => ⟨fun hx => ?_, fun hx => ?_⟩
      · rcases List.mem_cons.1 ((h x).1 (by simp [hx])) with e | hx'
        · subst e
          have := hl.1 x hx
          rw [lessE_irr] at this
          cases this
        · exact hx'
      · rcases List.mem_cons.1 ((h x).2 (by simp [hx])) with e | hx'
        · subst e
          have := hm.1 x hx
          rw [lessE_irr] at this
          cases this
        · exact hx'
theorem rowE_mem {p : Nat → Nat → Bool} {x : Nat} : ∀ {m y : Nat} {e : E}, e ∈ rowE p x m y ↔ ∃ z, y ≤ z ∧ z < y + m ∧ p x z = true ∧ e = ((x : Int), (z : Int), ()) := by
  intro m
  induction m with
  | zero => intro y e; simp only [rowE, List.not_mem_nil, false_iff]; rintro ⟨z, h1, h2, _⟩; omega
  | succ m ih =>
    intro y e
    unfold rowE
    by_cases h : p x y = true
    · simp only [h, if_true, List.mem_cons, ih]
      constructor
      · rintro (rfl | ⟨z, h1, h2, h3, h4⟩)
        · exact ⟨y, Nat.le_refl _, by omega, h, rfl⟩
        · exact ⟨z, by omega, by omega, h3, h4⟩
      · rintro ⟨z, h1, h2, h3, h4⟩
        by_cases e : z = y
        · subst e; exact .inl h4
        · exact .inr ⟨z, by omega, by omega, h3, h4⟩
    · rw [if_neg h, ih]
      constructor
      · rintro ⟨z, h1, h2, h3, h4⟩
        exact ⟨z, by omega, by omega, h3, h4⟩
      · rintro ⟨z, h1, h2, h3, h4⟩
        by_cases e : z = y
        · subst e; exact absurd h3 h
        · exact ⟨z, by omega, by omega, h3, h4⟩
theorem rowE_pair {p : Nat → Nat → Bool} {x : Nat} : ∀ {m y : Nat}, (rowE p x m y).Pairwise fun a b => lessE a b = true := by
  intro m
  induction m with
  | zero => intro y; exact .nil
  | succ m ih =>
    intro y
    unfold rowE
    split
    · rw [List.pairwise_cons]
      refine ⟨fun b hb => ?_, ih⟩
      obtain ⟨z, h1, h2, h3, rfl⟩ := rowE_mem.1 hb
      simp [lessE]
      omega
    · exact ih
theorem allE_mem {p : Nat → Nat → Bool} {n : Nat} : ∀ {m x : Nat} {e : E}, e ∈ allE p n m x ↔ ∃ u z, x ≤ u ∧ u < x + m ∧ u < z ∧ z < n ∧ p u z = true ∧ e = ((u : Int), (z : Int), ()) := by
  intro m
  induction m with
  | zero => intro x e; simp only [allE, List.not_mem_nil, false_iff]; rintro ⟨u, z, h1, h2, _⟩; omega
  | succ m ih =>
    intro x e
    simp only [allE, List.mem_append, rowE_mem, ih]
    constructor
    · rintro (⟨z, h1, h2, h3, h4⟩ | ⟨u, z, h1, h2, h3, h4, h5, h6⟩)
      · exact ⟨x, z, Nat.le_refl _, by omega, by omega, by omega, h3, h4⟩
      · exact ⟨u, z, by omega, by omega, h3, h4, h5, h6⟩
    · rintro ⟨u, z, h1, h2, h3, h4, h5, h6⟩
      by_cases e : u = x
      · subst e; exact .inl ⟨z, by omega, by omega, h5, h6⟩
      · exact .inr ⟨u, z, by omega, by omega, h3, h4, h5, h6⟩
theorem allE_pair {p : Nat → Nat → Bool} {n : Nat} : ∀ {m x : Nat}, (allE p n m x).Pairwise fun a b => lessE a b = true := by
  intro m
  induction m with
  | zero => intro x; exact .nil
  | succ m ih =>
    intro x
    simp only [allE]
    rw [List.pairwise_append]
    refine ⟨rowE_pair, ih, fun a ha b hb => ?_⟩
    obtain ⟨z, _, _, _, rfl⟩ := rowE_mem.1 ha
    obtain ⟨u, z', h1, _, _, _, _, rfl⟩ := allE_mem.1 hb
    simp [lessE]
    omega
/-- The edges of a net are the edges that it was made of. -/
theorem allE_net {n : Nat} (hn : n ≤ 8) {es : List E} (h : es.all (edgeB (n : Int)) = true) (hp : es.Pairwise fun a b => lessE a b = true) : allE (hasN (netN n es)) n n 0 = es := by
  refine sorted_ext allE_pair hp fun e => ?_
  rw [allE_mem]
  constructor
  · rintro ⟨u, z, _, h2, h3, h4, h5, rfl⟩
    rw [netN_bit hn h] at h5
    obtain ⟨e, he, h6⟩ := List.any_eq_true.1 h5
    obtain ⟨k1, k2, k3, k4⟩ := edgeB_nat (List.all_eq_true.1 h e he)
    simp only [isE, Bool.or_eq_true, Bool.and_eq_true, decide_eq_true_eq] at h6
    rcases h6 with ⟨rfl, rfl⟩ | ⟨h6, h7⟩
    · rw [← k3, ← k4]
      exact he
    · omega
  · intro he
    obtain ⟨k1, k2, k3, k4⟩ := edgeB_nat (List.all_eq_true.1 h e he)
    refine ⟨e.1.toNat, e.2.1.toNat, Nat.zero_le _, by omega, k1, k2, ?_, by rw [← k3, ← k4]⟩
    rw [netN_bit hn h]
    exact List.any_eq_true.2 ⟨e, he, by simp [isE]⟩
theorem selE_sub : ∀ (es : List E) (ts : List (List Int)) (r : Int), (selE es ts r).Sublist es := by
  intro es
  induction es with
  | nil => intro ts r; cases ts <;> simp [selE]
  | cons e es ih =>
    intro ts r
    cases ts with
    | nil => simp [selE]
    | cons t ts =>
      simp only [selE]
      split
      · exact (ih ts r).cons_cons e
      · exact (ih ts r).cons e
theorem toI_from (ms : List Nat) : fromI (toI ms) = ms := by
  unfold fromI toI
  rw [List.map_map]
  exact List.map_id' _
theorem at_toI (ms : List Nat) (x : Nat) : at_ (.int .i64) (toI ms) x = ((ms.getD x 0 : Nat) : Int) := by
  unfold at_ toI
  simp only [List.getD_eq_getElem?_getD, List.getElem?_map]
  cases ms[x]? <;> rfl
theorem toI_set (ms : List Nat) (x v : Nat) : List.set (toI ms) x (v : Int) = toI (ms.set x v) := by
  simp [toI, List.map_set]
theorem toI_len (ms : List Nat) : (toI ms).length = ms.length := by simp [toI]
end Go.V.W
