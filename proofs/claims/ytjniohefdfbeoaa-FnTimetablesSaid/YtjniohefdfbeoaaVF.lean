/- What the law FnTimetables leans on, part 6: an interpreter of the model as plain data, its soundness, the functions as it tells them, and their laws. -/
import Derived.Shelf.Lays
import Derived.Shelf.LaysM
import Derived.Shelf.SortM.Plain
import Derived.Shelf.SortM.SortNone
import Derived.Shelf.SlSortCmp.NoneTotal
import Derived.Test.YtjniohefdfbeoaaVE
set_option linter.unusedVariables false
set_option linter.unusedSimpArgs false
set_option maxRecDepth 100000
set_option linter.unusedVariables false
set_option linter.unusedSimpArgs false
namespace Go.V.W
open Go.Proofs
theorem after_ext {n : Nat} {ball : Int -> List Int} (hb : okBall n ball) {f g : Nat -> Nat -> Int} {t : Int} (ht : 1 <= t) (hf : ∀ c q, c < n -> q < n -> f c q < t) (hg : ∀ c q, c < n -> q < n -> g c q = f c q \/ (f c q < 0 /\ g c q = t)) {b q : Nat} (hbn : b < n) (hq : q < n) :
  (0 <= afterT ball (tabL n f) (b : Int) (q : Int) -> afterT ball (tabL n g) (b : Int) (q : Int) = afterT ball (tabL n f) (b : Int) (q : Int)) /\
  (0 <= afterT ball (tabL n g) (b : Int) (q : Int) -> afterT ball (tabL n g) (b : Int) (q : Int) = afterT ball (tabL n f) (b : Int) (q : Int) \/ afterT ball (tabL n g) (b : Int) (q : Int) = t) := by
 unfold afterT
 by_cases e : (b : Int) = (q : Int)
 ·rw [if_pos e, if_pos e]
  exact ⟨fun _ => rfl, fun _ => .inl rfl⟩
 ·simp only [if_neg e]
  have key : (∀ x ∈ ball (q : Int), 0 <= tab2 (tabL n f) (b : Int) x) -> worstL (tab2 (tabL n g) (b : Int)) (ball (q : Int)) 0 = worstL (tab2 (tabL n f) (b : Int)) (ball (q : Int)) 0 := fun h => worst_congr fun x hx => by
   obtain ⟨y, hy, rfl⟩ := hb q hq x hx
   have := h _ hx
   rw [tab2_tabL _ hbn hy] at this |-
   rw [tab2_tabL _ hbn hy]
   rcases hg b y hbn hy with h1 | ⟨h1, _⟩
   ·exact h1
   ·omega
  constructor
  ·intro h0
   rcases worst_spec (tab2 (tabL n f) (b : Int)) (ball (q : Int)) 0 with ⟨_, h1⟩ | ⟨h1, _, _⟩
   ·omega
   ·exact key fun x hx => (h1 x hx).1
  ·intro h0
   rcases worst_spec (tab2 (tabL n g) (b : Int)) (ball (q : Int)) 0 with ⟨_, h1⟩ | ⟨h1, h2, h3⟩
   ·omega
   ·by_cases ha : ∀ x ∈ ball (q : Int), 0 <= tab2 (tabL n f) (b : Int) x
    ·exact .inl (key ha)
    ·right
     obtain ⟨x, hx, hn⟩ : ∃ x ∈ ball (q : Int), ¬ 0 <= tab2 (tabL n f) (b : Int) x := Classical.byContradiction fun hc => ha fun x hx => Classical.byContradiction fun h => hc ⟨x, hx, h⟩
     obtain ⟨y, hy, rfl⟩ := hb q hq x hx
     rw [tab2_tabL _ hbn hy] at hn
     have hy1 := h1 _ hx
     rw [tab2_tabL _ hbn hy] at hy1
     have hyt : g b y = t := by
      rcases hg b y hbn hy with h4 | ⟨_, h4⟩
      ·omega
      ·exact h4
     have hle : worstL (tab2 (tabL n g) (b : Int)) (ball (q : Int)) 0 <= t := by
      rcases h3 with h3 | ⟨z, hz, h3⟩
      ·omega
      ·obtain ⟨y2, hy2, rfl⟩ := hb q hq z hz
       rw [h3, tab2_tabL _ hbn hy2]
       rcases hg b y2 hbn hy2 with h4 | ⟨_, h4⟩
       ·have := hf b y2 hbn hy2
        omega
       ·omega
     omega
structure Exa3 (p n : Nat) (ball : Nat -> Int -> List Int) (t : Int) (f : Nat -> Nat -> Nat -> Int) : Prop where
 pos : 1 <= t
 high : ∀ r c q, r < p -> c < n -> q < n -> f r c q < t
 none : ∀ r c q, r < p -> c < n -> q < n -> f r c q < 0 -> ∀ b ∈ ball r (c : Int), ¬ (0 <= afterT (ball r) (tabL n (f ((r + 1) % p))) b (q : Int) /\ afterT (ball r) (tabL n (f ((r + 1) % p))) b (q : Int) < t - 1)
 some : ∀ r c q, r < p -> c < n -> q < n -> 1 <= f r c q -> ∃ b ∈ ball r (c : Int), 0 <= afterT (ball r) (tabL n (f ((r + 1) % p))) b (q : Int) /\ afterT (ball r) (tabL n (f ((r + 1) % p))) b (q : Int) + 1 = f r c q
 best : ∀ r c q, r < p -> c < n -> q < n -> 0 <= f r c q -> ∀ b ∈ ball r (c : Int), 0 <= afterT (ball r) (tabL n (f ((r + 1) % p))) b (q : Int) -> f r c q <= afterT (ball r) (tabL n (f ((r + 1) % p))) b (q : Int) + 1
theorem after_lt {n : Nat} {ball : Int -> List Int} (hb : okBall n ball) {f : Nat -> Nat -> Int} {t : Int} (ht : 1 <= t) (hf : ∀ c q, c < n -> q < n -> f c q < t) {b q : Nat} (hbn : b < n) (hq : q < n) : afterT ball (tabL n f) (b : Int) (q : Int) <= t - 1 := by
 unfold afterT
 split
 ·omega
 ·rcases worst_spec (tab2 (tabL n f) (b : Int)) (ball (q : Int)) 0 with ⟨_, h⟩ | ⟨_, _, h | ⟨x, hx, h⟩⟩
  ·omega
  ·omega
  ·obtain ⟨y, hy, rfl⟩ := hb q hq x hx
   rw [tab2_tabL f hbn hy] at h
   have := hf b y hbn hy
   omega
theorem Exa3.next {p n : Nat} {ball : Nat -> Int -> List Int} (hp : 0 < p) (hb : okBalls p n ball) {t : Int} {f : Nat -> Nat -> Nat -> Int} (hI : Exa3 p n ball t f) : Exa3 p n ball (t + 1) (step3 p n ball t f) := by
 have ht := hI.pos
 have hstep : ∀ r c q, step3 p n ball t f r c q = f r c q \/ (f r c q < 0 /\ step3 p n ball t f r c q = t) := fun r c q => by
  unfold step3
  split
  ·rename_i h
   unfold can3 at h
   rw [Bool.and_eq_true, decide_eq_true_eq] at h
   exact .inr ⟨h.1, rfl⟩
  ·exact .inl rfl
 have hm : ∀ r, (r + 1) % p < p := fun r => Nat.mod_lt _ hp
 have hext : ∀ r b q, r < p -> b < n -> q < n -> _ := fun r b q hr hbn hq => after_ext (f := f ((r + 1) % p)) (g := step3 p n ball t f ((r + 1) % p)) (hb r hr) ht (fun c q hc hq => hI.high ((r + 1) % p) c q (hm r) hc hq) (fun c q _ _ => hstep ((r + 1) % p) c q) hbn hq
 have hlt : ∀ r b q, r < p -> b < n -> q < n -> _ := fun r b q hr hbn hq => after_lt (f := f ((r + 1) % p)) (hb r hr) ht (fun c q hc hq => hI.high ((r + 1) % p) c q (hm r) hc hq) (b := b) (q := q) hbn hq
 refine ⟨by omega, fun r c q hr hc hq => ?_, fun r c q hr hc hq h b hbm => ?_, fun r c q hr hc hq h => ?_, fun r c q hr hc hq h b hbm h0 => ?_⟩
 ·rcases hstep r c q with h | ⟨_, h⟩
  ·have := hI.high r c q hr hc hq; omega
  ·omega
 ·obtain ⟨b, hbn, rfl⟩ := hb r hr c hc b hbm
  have hcan : can3 p n ball f r c q = false := by
   cases hcc : can3 p n ball f r c q with
   | false => rfl
   | true =>
    have : step3 p n ball t f r c q = t := by unfold step3; rw [if_pos hcc]
    omega
  have hfr : f r c q < 0 := by
   rcases hstep r c q with h1 | ⟨h1, _⟩
   ·omega
   ·exact h1
  unfold can3 at hcan
  rw [decide_eq_true hfr, Bool.true_and, List.any_eq_false] at hcan
  have hno := hcan _ hbm
  simp only [decide_eq_true_eq] at hno
  rintro ⟨h1, h2⟩
  rcases (hext r b q hr hbn hq).2 h1 with h3 | h3
  ·rw [h3] at h1
   exact hno h1
  ·omega
 ·rcases hstep r c q with h1 | ⟨h1, h2⟩
  ·rw [h1] at h |-
   obtain ⟨b, hbm, k0, k1⟩ := hI.some r c q hr hc hq h
   obtain ⟨b', hbn, rfl⟩ := hb r hr c hc b hbm
   have := (hext r b' q hr hbn hq).1 k0
   exact ⟨_, hbm, by rw [this]; exact k0, by rw [this]; exact k1⟩
  ·have hcc : can3 p n ball f r c q = true := by
    cases hcc : can3 p n ball f r c q with
    | true => rfl
    | false =>
     have : step3 p n ball t f r c q = f r c q := by unfold step3; rw [if_neg (by simp [hcc])]
     omega
   unfold can3 at hcc
   rw [Bool.and_eq_true, List.any_eq_true] at hcc
   obtain ⟨_, b, hbm, hb0⟩ := hcc
   have hb0 := of_decide_eq_true hb0
   obtain ⟨b', hbn, rfl⟩ := hb r hr c hc b hbm
   have h3 := (hext r b' q hr hbn hq).1 hb0
   have h4 := hlt r b' q hr hbn hq
   have h5 := hI.none r c q hr hc hq h1 _ hbm
   exact ⟨_, hbm, by rw [h3]; exact hb0, by rw [h3, h2]; omega⟩
 ·obtain ⟨b', hbn, rfl⟩ := hb r hr c hc b hbm
  rcases (hext r b' q hr hbn hq).2 h0 with h3 | h3
  ·rw [h3] at h0 |-
   rcases hstep r c q with h1 | ⟨h1, h2⟩
   ·rw [h1] at h |-
    exact hI.best r c q hr hc hq h _ hbm h0
   ·have h5 := hI.none r c q hr hc hq h1 _ hbm
    omega
  ·rcases hstep r c q with h1 | ⟨h1, h2⟩
   ·have := hI.high r c q hr hc hq
    omega
   ·omega
theorem Exa3.start {p n : Nat} {ball : Nat -> Int -> List Int} (hb : okBalls p n ball) : Exa3 p n ball 1 start3 := by
 refine ⟨by omega, fun r c q _ _ _ => ?_, fun r c q _ _ _ _ b _ h => by omega, fun r c q _ _ _ h => ?_, fun r c q _ _ _ _ b _ h0 => ?_⟩
 ·unfold start3 startF; split <;> omega
 ·unfold start3 startF at h; split at h <;> omega
 ·have : start3 r c q <= 0 := by unfold start3 startF; split <;> omega
  omega
end Go.V.W
set_option linter.unusedVariables false
set_option linter.unusedSimpArgs false
namespace Go.V.W
open Go.Proofs
theorem selE_static : ∀ es : List E, selE es (List.replicate es.length [0]) 0 = es := by
 intro es
 induction es with
 | nil => rfl
 | cons e es ih =>
  rw [List.length_cons, List.replicate_succ]
  unfold selE
  rw [if_pos (by simp), ih]
end Go.V.W
set_option linter.unusedVariables false
set_option linter.unusedSimpArgs false
namespace Go.V.W
open Go.Proofs
theorem and255 (x : Int) : 0 <= bits .and .u64 x 255 /\ bits .and .u64 x 255 <= 255 := by
 have h : bits .and .u64 x 255 = IntKind.wrap .u64 ((BitVec.ofInt 64 x &&& BitVec.ofInt 64 255).toNat : Int) := rfl
 have e : (BitVec.ofInt 64 x &&& BitVec.ofInt 64 255).toNat <= 255 := by
  rw [BitVec.toNat_and]
  have : (BitVec.ofInt 64 255).toNat = 255 := by decide
  rw [this]
  exact Nat.and_le_right
 rw [h]
 generalize (BitVec.ofInt 64 x &&& BitVec.ofInt 64 255).toNat = m at e
 unfold IntKind.wrap
 simp [IntKind.bits, IntKind.signed]
 omega
theorem next_ok {c : Cur} {u : Unit} (h : CurB c) (hf : c.2.1 <= far_) : Ok (F_q34q 0 (c, u)) fun r => 0 <= r.1 /\ r.1 <= 255 /\ Adv 1 c r.2.1 := by
 obtain ⟨l, a, s, _⟩ := c
 obtain ⟨hb, ha⟩ := h
 simp only at hb ha hf
 unfold far_ at hf
 have w1 : IntKind.wrap .i64 (a + 1) = a + 1 := wrap_in _ (by omega) (by omega)
 have hx := and255
 have w2 : ∀ x : Int, IntKind.wrap .i64 (bits .and .u64 x 255) = bits .and .u64 x 255 := fun x => wrap_in _ (by have := (hx x).1; omega) (by have := (hx x).2; omega)
 have adv : ∀ s', Adv 1 (l, a, s, ()) (l, a + 1, s', ()) := fun s' => ⟨⟨hb, by simp only; omega⟩, by simp only; omega⟩
 unfold F_q34q
 simp only [w1, w2]
 refine Ok.ite (fun h1 => ?_) (fun h1 => ?_)
 ·have h1 : a < l.length := of_decide_eq_true h1
  refine Ok.pos (by unfold idxIn; simp; omega) ?_
  obtain ⟨v, hv⟩ : ∃ v : Int, at_ (.int .u8) l a.toNat = v := ⟨_, rfl⟩
  have hv' : 0 <= v /\ v <= 255 := by
   have hlt : a.toNat < l.length := by omega
   rw [at_get (e := .int .u8) hlt] at hv
   rw [<- hv]
   exact hb _ (List.getElem_mem hlt)
  rw [hv]
  have w3 : IntKind.wrap .i64 v = v := wrap_in _ (by omega) (by omega)
  simp only [w3]
  refine Ok.ite (fun _ => Ok.some ⟨hv'.1, hv'.2, adv _⟩) (fun _ => Ok.pos rfl (Ok.some ⟨(hx _).1, (hx _).2, adv _⟩))
 ·refine Ok.ite (fun _ => Ok.some ⟨by simp, by simp, adv _⟩) (fun _ => Ok.pos rfl (Ok.some ⟨(hx _).1, (hx _).2, adv _⟩))
theorem tmod_in {x n : Int} (h : 0 <= x) (hn : 0 < n) : 0 <= x.tmod n /\ x.tmod n < n := by
 rw [Int.tmod_eq_emod_of_nonneg h]
 exact ⟨Int.emod_nonneg _ (by omega), Int.emod_lt_of_pos _ hn⟩
theorem pick_ok {c : Cur} {n : Int} {u : Unit} (h : CurB c) (hf : c.2.1 + 2 <= far_) : Ok (F_q42q 0 (c, n, u)) fun r => 0 <= r.1 /\ (r.1 < n \/ r.1 = 0) /\ Adv 2 c r.2.1 := by
 unfold F_q42q
 simp only
 refine Ok.ite (fun h1 => Ok.some ⟨Int.le_refl _, .inr rfl, h, by simp only; omega⟩) (fun h1 => ?_)
 have h1 : ¬ n <= 1 := of_decide_eq_false h1
 have hn : (n != 0) = true := by simp; omega
 refine Ok.bind (next_ok h (by omega)) fun r hr => ?_
 obtain ⟨r1, r2, r3⟩ := hr
 refine Ok.ite (fun h2 => ?_) (fun h2 => ?_)
 ·have w1 : IntKind.wrap .i64 (r.1 * 256) = r.1 * 256 := wrap_in _ (by omega) (by omega)
  refine Ok.bind (next_ok r3.1 (by have := r3.2; omega)) fun q hq => ?_
  obtain ⟨q1, q2, q3⟩ := hq
  have w2 : IntKind.wrap .i64 (r.1 * 256 + q.1) = r.1 * 256 + q.1 := wrap_in _ (by omega) (by omega)
  refine Ok.pos hn (Ok.some ?_)
  rw [w1, w2]
  have := tmod_in (x := r.1 * 256 + q.1) (n := n) (by omega) (by omega)
  exact ⟨this.1, .inl this.2, (r3.trans q3).le (by omega)⟩
 ·refine Ok.pos hn (Ok.some ?_)
  have := tmod_in (x := r.1) (n := n) (by omega) (by omega)
  exact ⟨this.1, .inl this.2, r3.le (by omega)⟩
theorem one_ok {c : Cur} {n : Int} {u : Unit} (h : CurB c) (hf : c.2.1 + 2 <= far_) : Ok (F_q51q 0 (c, n, u)) fun r => Adv 2 c r.2.1 := by
 unfold F_q51q
 simp only
 exact Ok.bind (pick_ok h hf) fun r hr => Ok.some hr.2.2
theorem among_ok {c : Cur} {l : List Int} {u : Unit} (h : CurB c) (hf : c.2.1 + 2 <= far_) (hl : 0 < l.length) : Ok (F_q25q 0 (c, l, u)) fun r => r.1 ∈ l /\ Adv 2 c r.2.1 := by
 unfold F_q25q
 simp only
 refine Ok.bind (pick_ok h hf) fun r hr => ?_
 obtain ⟨r1, r2, r3⟩ := hr
 have hlt : r.1.toNat < l.length := by omega
 refine Ok.pos (by unfold idxIn; simp; omega) (Ok.some ⟨?_, r3⟩)
 rw [at_get (e := I) hlt]
 exact List.getElem_mem hlt
end Go.V.W
set_option linter.unusedVariables false
set_option linter.unusedSimpArgs false
namespace Go.V.W
open Go.Proofs
theorem pa_l0 (N : Nat) (n : Nat) (hn : n <= 8) (z : Gr) (a : Int) : ∀ k x f (es : List E), x + k = n -> k < f -> es.length <= x -> ∃ es', q74q_l0 N f ((n : Int), z, (a, es, ()), (x : Int), ()) = some (.inl (z, (a, es', ()), ())) /\ es'.length <= 100 := by
 intro k
 induction k with
 | zero =>
  intro x f es h1 h2 h3
  obtain ⟨f, rfl⟩ : ∃ m, f = m + 1 := ⟨f - 1, by omega⟩
  refine ⟨es, ?_, by omega⟩
  have hlt : decide (((x + 1 : Nat) : Int) < (n : Int)) = false := decide_eq_false (by omega)
  show q74q_l0_r _ _ _ = _
  unfold q74q_l0_r
  simp only [small_wrap (show x <= 100000 by omega), hlt, Bool.false_eq_true, if_false]
 | succ k ih =>
  intro x f es h1 h2 h3
  obtain ⟨f, rfl⟩ : ∃ m, f = m + 1 := ⟨f - 1, by omega⟩
  by_cases hx : x + 1 < n
  ·have hlt : decide (((x + 1 : Nat) : Int) < (n : Int)) = true := decide_eq_true (by omega)
   have hle : ∀ e : E, decide (es.length + List.length [e] <= lim) = true := fun e => by unfold lim; simp; omega
   obtain ⟨es', e1, e2⟩ := ih (x + 1) f (es ++ [((x : Int), ((x + 1 : Nat) : Int), ())]) (by omega) (by omega) (by simp; omega)
   refine ⟨es', ?_, e2⟩
   rw [<- e1]
   show q74q_l0_r _ _ _ = _
   unfold q74q_l0_r
   simp only [small_wrap (show x <= 100000 by omega), hlt, if_true, hle]
  ·refine ⟨es, ?_, by omega⟩
   have hlt : decide (((x + 1 : Nat) : Int) < (n : Int)) = false := decide_eq_false (by omega)
   show q74q_l0_r _ _ _ = _
   unfold q74q_l0_r
   simp only [small_wrap (show x <= 100000 by omega), hlt, Bool.false_eq_true, if_false]
theorem path_ok (n : Nat) (hn : n <= 8) : Ok (pickF F_q74q P_path ((n : Int), ())) (P_path ((n : Int), ())) := by
 refine Ok.pick 20 ?_
 obtain ⟨es, e1, e2⟩ := pa_l0 20 n hn (0, [], ()) (n : Int) n 0 20 [] (by omega) (by omega) (by simp)
 refine ⟨(((n : Int), es, ()), ()), ?_, e2⟩
 unfold F_q74q
 simp only [Int.natCast_zero] at e1
 simp only [e1, Option.bind_some]
theorem wh_l2 (N : Nat) (n : Nat) (hn : n <= 8) (z : Gr) (a : Int) (x : Int) : ∀ k y f (es : List E), y + k = n -> k < f -> es.length + k <= 1000 -> ∃ es', q37q_l2 N f ((n : Int), z, (a, es, ()), x, (y : Int), ()) = some (.inl ((n : Int), z, (a, es', ()), x, ())) /\ es'.length = es.length + k := by
 intro k
 induction k with
 | zero =>
  intro y f es h1 h2 h3
  obtain ⟨f, rfl⟩ : ∃ m, f = m + 1 := ⟨f - 1, by omega⟩
  refine ⟨es, ?_, by omega⟩
  have hlt : decide ((y : Int) < (n : Int)) = false := decide_eq_false (by omega)
  show q37q_l2_r _ _ _ = _
  unfold q37q_l2_r
  simp only [hlt, Bool.false_eq_true, if_false]
 | succ k ih =>
  intro y f es h1 h2 h3
  obtain ⟨f, rfl⟩ : ∃ m, f = m + 1 := ⟨f - 1, by omega⟩
  have hlt : decide ((y : Int) < (n : Int)) = true := decide_eq_true (by omega)
  have hle : ∀ e : E, decide (es.length + List.length [e] <= lim) = true := fun e => by unfold lim; simp; omega
  obtain ⟨es', e1, e2⟩ := ih (y + 1) f (es ++ [(x, (y : Int), ())]) (by omega) (by omega) (by simp; omega)
  refine ⟨es', ?_, by rw [e2]; simp; omega⟩
  rw [<- e1]
  show q37q_l2_r _ _ _ = _
  unfold q37q_l2_r
  simp only [hlt, if_true, hle, small_wrap (show y <= 100000 by omega)]
theorem wh_l0 (N : Nat) (hN : 20 <= N) (n : Nat) (hn : n <= 8) (z : Gr) (a : Int) : ∀ k x f (es : List E), x + k = n -> k < f -> es.length <= 8 * x -> ∃ es', q37q_l0 N f ((n : Int), z, (a, es, ()), (x : Int), ()) = some (.inl (z, (a, es', ()), ())) /\ es'.length <= 100 := by
 intro k
 induction k with
 | zero =>
  intro x f es h1 h2 h3
  obtain ⟨f, rfl⟩ : ∃ m, f = m + 1 := ⟨f - 1, by omega⟩
  refine ⟨es, ?_, by omega⟩
  have hlt : decide ((x : Int) < (n : Int)) = false := decide_eq_false (by omega)
  show q37q_l0_r _ _ _ = _
  unfold q37q_l0_r
  simp only [hlt, Bool.false_eq_true, if_false]
 | succ k ih =>
  intro x f es h1 h2 h3
  obtain ⟨f, rfl⟩ : ∃ m, f = m + 1 := ⟨f - 1, by omega⟩
  have hlt : decide ((x : Int) < (n : Int)) = true := decide_eq_true (by omega)
  obtain ⟨e1, q1, q2⟩ := wh_l2 N n hn z a (x : Int) (n - (x + 1)) (x + 1) N es (by omega) (by omega) (by omega)
  obtain ⟨es', r1, r2⟩ := ih (x + 1) f e1 (by omega) (by omega) (by omega)
  refine ⟨es', ?_, r2⟩
  rw [<- r1]
  show q37q_l0_r _ _ _ = _
  unfold q37q_l0_r
  simp only [hlt, if_true, small_wrap (show x <= 100000 by omega), q1, Option.bind_some]
theorem whole_ok (n : Nat) (hn : n <= 8) : Ok (pickF F_q37q P_path ((n : Int), ())) (P_path ((n : Int), ())) := by
 refine Ok.pick 20 ?_
 obtain ⟨es, e1, e2⟩ := wh_l0 20 (by omega) n hn (0, [], ()) (n : Int) n 0 20 [] (by omega) (by omega) (by simp)
 refine ⟨(((n : Int), es, ()), ()), ?_, e2⟩
 unfold F_q37q
 simp only [Int.natCast_zero] at e1
 simp only [e1, Option.bind_some]
end Go.V.W
set_option linter.unusedVariables false
set_option linter.unusedSimpArgs false
namespace Go.V.W
open Go.Proofs
theorem marred_ok {c : Cur} {n : Int} {es : List E} {v u : Unit} (h : CurB c) (hf : c.2.1 + 20 <= far_) (hl : es.length <= 150) : Ok (F_q23q 0 (c, (n, es, v), u)) fun r => r.1.2.1.length <= es.length + 1 /\ Adv 10 c r.2.1 := by
 unfold F_q23q
 simp only
 have hle : ∀ e : E, decide (es.length + List.length [e] <= lim) = true := fun e => by unfold lim; simp; omega
 refine Ok.bind (pick_ok h (by omega)) fun r hr => ?_
 obtain ⟨r1, r2, r3⟩ := hr
 have q3 := r3.2
 refine Ok.ite (fun _ => ?_) fun _ => Ok.ite (fun _ => ?_) fun _ => Ok.ite (fun _ => ?_) fun _ => ?_
 ·refine Ok.bind (among_ok r3.1 (by omega) (by simp)) fun s hs => Ok.some ⟨by simp, (r3.trans hs.2).le (by omega)⟩
 ·refine Ok.bind (pick_ok r3.1 (by omega)) fun s hs => ?_
  have s3 := hs.2.2.2
  refine Ok.bind (pick_ok hs.2.2.1 (by omega)) fun t ht => ?_
  refine Ok.pos (hle _) (Ok.some ⟨by simp, ((r3.trans hs.2.2).trans ht.2.2).le (by omega)⟩)
 ·refine Ok.ite (fun hp => ?_) fun _ => Ok.some ⟨by simp, r3.le (by omega)⟩
  have hp := of_decide_eq_true hp
  refine Ok.bind (pick_ok r3.1 (by omega)) fun s hs => ?_
  obtain ⟨s1, s2, s3⟩ := hs
  refine Ok.pos (by unfold idxIn; simp; omega) (Ok.pos (hle _) (Ok.some ⟨by simp, (r3.trans s3).le (by omega)⟩))
 ·exact Ok.some ⟨by simp, r3.le (by omega)⟩
end Go.V.W
set_option linter.unusedVariables false
set_option linter.unusedSimpArgs false
namespace Go.V.W
open Go.Proofs
theorem insE_lenU (e : E) : ∀ l : List E, (insE e l).length = l.length + 1 := by
 intro l
 induction l with
 | nil => rfl
 | cons a l ih => unfold insE; split <;> simp [ih]
theorem put_ok {es : List E} {e : E} {u : Unit} (h : es.length <= 1000) : Ok (G_l2Put (es, e, u)) fun r => r.1.length = es.length + 1 := by
 unfold G_l2Put
 rw [if_pos (decide_eq_true h)]
 exact Ok.some (insE_lenU _ _)
theorem near_ok {g : Gr} {x y : Int} {u : Unit} (h : g.2.1.length <= 1000) : Ok (G_l2Near (g, x, y, u)) fun _ => True := by
 unfold G_l2Near
 rw [if_pos (show okL g.2.1 = true from decide_eq_true (by unfold lim; omega))]
 exact Ok.some trivial
theorem cycle_ok (n : Nat) (hn : n <= 8) : Ok (F_q70q 0 ((n : Int), ())) fun r => r.1.2.1.length <= 101 := by
 unfold F_q70q
 simp only
 refine Ok.bind (path_ok n hn) fun r hr => ?_
 have hr : r.1.2.1.length <= 100 := hr
 refine Ok.bind (put_ok (by omega)) fun q hq => Ok.some ?_
 simp only
 omega
theorem sg_l3 (N : Nat) (n : Nat) (hn : n <= 8) (z : Gr) (a w : Int) (b : Bool) (x : Int) : ∀ k y f (c : Cur) (es : List E), y + k = n -> k < f -> CurB c -> c.2.1 + 2 * (k : Int) <= far_ -> es.length + k <= 1000 ->
  Ok (q17q_l3 N f (c, z, (n : Int), (a, es, ()), w, b, x, (y : Int), ())) fun o => ∃ c' es', o = .inl (c', z, (n : Int), (a, es', ()), w, b, x, ()) /\ Adv (2 * (k : Int)) c c' /\ es'.length <= es.length + k := by
 intro k
 induction k with
 | zero =>
  intro y f c es h1 h2 h3 h4 h5
  obtain ⟨f, rfl⟩ : ∃ m, f = m + 1 := ⟨f - 1, by omega⟩
  have hlt : decide ((y : Int) < (n : Int)) = false := decide_eq_false (by omega)
  show Ok (q17q_l3_r _ _ _) _
  unfold q17q_l3_r
  simp only [hlt, Bool.false_eq_true, if_false]
  exact Ok.some ⟨c, es, rfl, ⟨h3, by omega⟩, by omega⟩
 | succ k ih =>
  intro y f c es h1 h2 h3 h4 h5
  obtain ⟨f, rfl⟩ : ∃ m, f = m + 1 := ⟨f - 1, by omega⟩
  have hlt : decide ((y : Int) < (n : Int)) = true := decide_eq_true (by omega)
  show Ok (q17q_l3_r _ _ _) _
  unfold q17q_l3_r
  simp only [hlt, if_true, small_wrap (show y <= 100000 by omega)]
  refine Ok.bind (pick_ok h3 (by omega)) fun r hr => ?_
  have r3 := hr.2.2.2
  refine Ok.ite (fun _ => ?_) (fun _ => ?_)
  ·refine Ok.bind (put_ok (by omega)) fun q hq => ?_
   refine (ih (y + 1) f r.2.1 q.1 (by omega) (by omega) hr.2.2.1 (by omega) (by omega)).mono fun o ho => ?_
   obtain ⟨c', es', e1, e2, e3⟩ := ho
   exact ⟨c', es', e1, (hr.2.2.trans e2).le (by omega), by omega⟩
  ·refine (ih (y + 1) f r.2.1 es (by omega) (by omega) hr.2.2.1 (by omega) (by omega)).mono fun o ho => ?_
   obtain ⟨c', es', e1, e2, e3⟩ := ho
   exact ⟨c', es', e1, (hr.2.2.trans e2).le (by omega), by omega⟩
theorem sg_l1 (N : Nat) (hN : 20 <= N) (n : Nat) (hn : n <= 8) (z : Gr) (a w : Int) (b : Bool) : ∀ k x f (c : Cur) (es : List E), x + k = n -> k < f -> CurB c -> c.2.1 + 20 * (k : Int) <= far_ -> es.length <= 10 * x ->
  Ok (q17q_l1 N f (c, z, (n : Int), (a, es, ()), w, b, (x : Int), ())) fun o => ∃ c' es', o = .inl (c', z, (a, es', ()), ()) /\ Adv (20 * (k : Int)) c c' /\ es'.length <= 10 * n := by
 intro k
 induction k with
 | zero =>
  intro x f c es h1 h2 h3 h4 h5
  obtain ⟨f, rfl⟩ : ∃ m, f = m + 1 := ⟨f - 1, by omega⟩
  have hlt : decide ((x : Int) < (n : Int)) = false := decide_eq_false (by omega)
  show Ok (q17q_l1_r _ _ _) _
  unfold q17q_l1_r
  simp only [hlt, Bool.false_eq_true, if_false]
  exact Ok.some ⟨c, es, rfl, ⟨h3, by omega⟩, by omega⟩
 | succ k ih =>
  intro x f c es h1 h2 h3 h4 h5
  obtain ⟨f, rfl⟩ : ∃ m, f = m + 1 := ⟨f - 1, by omega⟩
  have hlt : decide ((x : Int) < (n : Int)) = true := decide_eq_true (by omega)
  show Ok (q17q_l1_r _ _ _) _
  unfold q17q_l1_r
  simp only [hlt, if_true, small_wrap (show x <= 100000 by omega)]
  refine Ok.bind (sg_l3 N n hn z a w b (x : Int) (n - (x + 1)) (x + 1) N c es (by omega) (by omega) h3 (by omega) (by omega)) fun o ho => ?_
  obtain ⟨c1, e1, rfl, a1, l1⟩ := ho
  have b1 := a1.2
  simp only [small_wrap (show x <= 100000 by omega)]
  refine Ok.bind (pick_ok a1.1 (by omega)) fun r hr => ?_
  have r3 := hr.2.2.2
  have more : ∀ es2 : List E, es2.length <= 10 * (x + 1) -> Ok (q17q_l1 N f (r.2.1, z, (n : Int), (a, es2, ()), w, b, ((x + 1 : Nat) : Int), ())) fun o => ∃ c' es', o = .inl (c', z, (a, es', ()), ()) /\ Adv (20 * ((k + 1 : Nat) : Int)) c c' /\ es'.length <= 10 * n := fun es2 h => by
   refine (ih (x + 1) f r.2.1 es2 (by omega) (by omega) hr.2.2.1 (by omega) (by omega)).mono fun o ho => ?_
   obtain ⟨c', es', e1, e2, e3⟩ := ho
   exact ⟨c', es', e1, ((a1.trans hr.2.2).trans e2).le (by omega), by omega⟩
  refine Ok.ite (fun _ => Ok.ite (fun _ => ?_) fun _ => more _ (by omega)) fun _ => more _ (by omega)
  refine Ok.bind (near_ok (by simp only; omega)) fun _ _ => Ok.ite (fun _ => ?_) fun _ => more _ (by omega)
  refine Ok.bind (put_ok (by omega)) fun q hq => more _ (by omega)
noncomputable def sgTail (N : Nat) (c : Cur) (n : Int) : Option (Gr × Cur × Unit) :=
  ((F_q42q 0) ((c, ((8 : Int), ())))).bind fun r49 =>
  if (r49.1 == (0 : Int)) = true then
   ((pickF F_q74q P_path) (n, ())).bind fun r50 =>
   ((F_q23q 0) ((r49.2.1, (r50.1, ())))).bind fun r51 =>
   some ((r51.1, (r51.2.1, ())))
  else
   if (r49.1 == (1 : Int)) = true then
    if (decide (n > (2 : Int))) = true then
     ((F_q70q 0) (n, ())).bind fun r52 =>
     ((F_q23q 0) ((r49.2.1, (r52.1, ())))).bind fun r53 =>
     some ((r53.1, (r53.2.1, ())))
    else
     ((F_q23q 0) ((r49.2.1, ((n, (([] : List (Int × Int × Unit)), ())), ())))).bind fun r54 =>
     some ((r54.1, (r54.2.1, ())))
   else
    if (r49.1 == (2 : Int)) = true then
     ((pickF F_q37q P_path) (n, ())).bind fun r55 =>
     ((F_q23q 0) ((r49.2.1, (r55.1, ())))).bind fun r56 =>
     some ((r56.1, (r56.2.1, ())))
    else
     ((F_q25q 0) ((r49.2.1, ([(3 : Int), (4 : Int), (6 : Int)], ())))).bind fun r57 =>
     ((F_q51q 0) ((r57.2.1, ((6 : Int), ())))).bind fun r58 =>
     (q17q_l1 N N ((r58.2.1, (((0 : Int), (([] : List (Int × Int × Unit)), ())), (n, ((n, (([] : List (Int × Int × Unit)), ())), (r57.1, (r58.1, ((0 : Int), ()))))))))).bind fun o59 => match o59 with
     | .inl d60 =>
      ((F_q23q 0) ((d60.1, (d60.2.2.1, ())))).bind fun r61 =>
      some ((r61.1, (r61.2.1, ())))
theorem sgTail_ok {c : Cur} {n : Int} {m : Nat} (hm : m <= 8) (he : n = m) (h : CurB c) (hf : c.2.1 + 250 <= far_) : Ok (sgTail 20 c n) fun r => Adv 200 c r.2.1 /\ r.1.2.1.length <= 200 := by
 subst he
 have mar : ∀ (c1 : Cur) (g : Gr), Adv 180 c c1 -> g.2.1.length <= 150 -> Ok ((F_q23q 0 (c1, g, ())).bind fun r => some (r.1, r.2.1, ())) fun r => Adv 200 c r.2.1 /\ r.1.2.1.length <= 200 := by
  intro c1 g h1 h2
  have := h1.2
  obtain ⟨n, es, u⟩ := g
  refine Ok.bind (marred_ok h1.1 (by omega) h2) fun r hr => Ok.some ⟨(h1.trans hr.2).le (by omega), ?_⟩
  have := hr.1
  simp only at h2 |-
  omega
 unfold sgTail
 refine Ok.bind (pick_ok h (by omega)) fun r hr => ?_
 have a1 := hr.2.2
 have b1 := a1.2
 refine Ok.ite (fun _ => ?_) fun _ => Ok.ite (fun _ => Ok.ite (fun _ => ?_) fun _ => mar _ _ (a1.le (by omega)) (by simp)) fun _ => Ok.ite (fun _ => ?_) fun _ => ?_
 ·refine Ok.bind (path_ok m hm) fun q hq => mar _ _ (a1.le (by omega)) ?_
  have : q.1.2.1.length <= 100 := hq
  omega
 ·refine Ok.bind (cycle_ok m hm) fun q hq => mar _ _ (a1.le (by omega)) (by omega)
 ·refine Ok.bind (whole_ok m hm) fun q hq => mar _ _ (a1.le (by omega)) ?_
  have : q.1.2.1.length <= 100 := hq
  omega
 ·refine Ok.bind (among_ok a1.1 (by omega) (by simp)) fun q hq => ?_
  have a2 := a1.trans hq.2
  have b2 := a2.2
  refine Ok.bind (one_ok a2.1 (by omega)) fun s hs => ?_
  have a3 := a2.trans hs
  have b3 := a3.2
  have hl := sg_l1 20 (by omega) m hm (0, [], ()) (m : Int) q.1 s.1 m 0 20 s.2.1 [] (by omega) (by omega) a3.1 (by omega) (by simp)
  simp only [Int.natCast_zero] at hl
  refine Ok.bind hl fun o ho => ?_
  obtain ⟨c', es', rfl, e2, e3⟩ := ho
  exact mar _ _ ((a3.trans e2).le (by omega)) (by simp only; omega)
theorem least_in {x y : Int} {u : Unit} (h : 0 <= x) (h2 : 0 <= y) (h3 : y <= 8) : ∃ m : Nat, m <= 8 /\ (g_q62q (x, y, u)).1 = (m : Int) := by
 unfold g_q62q
 simp only
 split
 ·rename_i hh
  have := of_decide_eq_true hh
  exact ⟨x.toNat, by omega, by simp only; omega⟩
 ·exact ⟨y.toNat, by omega, by simp only; omega⟩
theorem someGraph_ok {c : Cur} {a : Int} (h : CurB c) (hf : c.2.1 + 300 <= far_) (h0 : 0 <= a) (h8 : a <= 8) : Ok (pickF F_q17q P_someG (c, a, ())) (P_someG (c, a, ())) := by
 refine Ok.pick 20 ?_
 have fin : ∀ (c1 : Cur) (n : Int) (m : Nat), m <= 8 -> n = m -> Adv 50 c c1 -> Ok (sgTail 20 c1 n) (P_someG (c, a, ())) := fun c1 n m hm he h1 => by
  have := h1.2
  exact (sgTail_ok hm he h1.1 (by omega)).mono fun r hr => ⟨(h1.trans hr.1).le (by omega), hr.2⟩
 unfold F_q17q
 simp only
 refine Ok.bind (among_ok h (by omega) (by simp)) fun r hr => ?_
 have r0 : 0 <= r.1 := by
  have := hr.1
  simp at this
  omega
 have a1 := hr.2
 have b1 := a1.2
 refine Ok.ite (fun _ => ?_) fun _ => ?_
 ·refine Ok.bind (one_ok a1.1 (by omega)) fun s hs => ?_
  have a2 := a1.trans hs
  have b2 := a2.2
  refine Ok.ite (fun _ => ?_) fun _ => ?_
  ·refine Ok.bind (pick_ok a2.1 (by omega)) fun t ht => ?_
   have a3 := a2.trans ht.2.2
   have w : IntKind.wrap .i64 ((7 : Int) + t.1) = 7 + t.1 := wrap_in _ (by have := ht.1; omega) (by have := ht.2.1; omega)
   obtain ⟨m, hm, em⟩ := least_in (x := IntKind.wrap .i64 ((7 : Int) + t.1)) (u := ()) (by rw [w]; have := ht.1; omega) h0 h8
   exact fin _ _ m hm em (a3.le (by omega))
  ·obtain ⟨m, hm, em⟩ := least_in (u := ()) r0 h0 h8
   exact fin _ _ m hm em (a2.le (by omega))
 ·obtain ⟨m, hm, em⟩ := least_in (u := ()) r0 h0 h8
  exact fin _ _ m hm em (a1.le (by omega))
theorem bigGraph_ok {c : Cur} {u : Unit} (h : CurB c) (hf : c.2.1 + 300 <= far_) : Ok (F_q18q 0 (c, u)) fun r => Adv 300 c r.2.1 /\ r.1.2.1.length <= 200 := by
 unfold F_q18q
 simp only
 exact Ok.bind (someGraph_ok h hf (by omega) (by omega)) fun r hr => Ok.some hr
end Go.V.W
set_option linter.unusedVariables false
set_option linter.unusedSimpArgs false
namespace Go.V.W
open Go.Proofs
theorem law54 : ∀ d, WfD (Kd.tuple ([(K_Su8, false)].map (·.1))) d -> ∃ out, G_law d = some out /\ (splitT [.bool] [] out).1.1 = true := by
 rintro ⟨code, _⟩ ⟨⟨hl, hc⟩, _⟩
 refine ⟨(true, ()), ?_, rfl⟩
 unfold G_law
 rw [if_pos]
 simp only [Bool.and_eq_true, List.all_eq_true, decide_eq_true_eq]
 refine ⟨fun x hx => ?_, hl⟩
 have := hc x hx
 simp [WfD, Lit.wf, IntKind.min, IntKind.max, IntKind.signed, IntKind.bits] at this
 unfold inB
 simp
 omega
end Go.V.W
set_option linter.unusedVariables false
set_option linter.unusedSimpArgs false
namespace Go.V.W
open Go.Proofs
theorem node_ok {c : Cur} {g : Gr} {u : Unit} (h : CurB c) (hf : c.2.1 + 10 <= far_) : Ok (F_q36q 0 (c, g, u)) fun r => r.1 <= 9223372036854775807 /\ (r.1 = -1 \/ 0 <= r.1) /\ Adv 10 c r.2.1 := by
 have lst : ∀ (c1 : Cur), Adv 4 c c1 -> Ok ((F_q25q 0 (c1, [(-1 : Int), (0 : Int), (8 : Int), (4611686018427387904 : Int)], ())).bind fun r => some (r.1, r.2.1, ())) fun r => r.1 <= 9223372036854775807 /\ (r.1 = -1 \/ 0 <= r.1) /\ Adv 10 c r.2.1 := fun c1 h1 => by
  have := h1.2
  refine Ok.bind (among_ok h1.1 (by omega) (by simp)) fun r hr => Ok.some ⟨?_, ?_, (h1.trans hr.2).le (by omega)⟩
  ·have := hr.1
   simp at this
   omega
  ·have := hr.1
   simp at this
   omega
 have a0 : Adv 4 c c := ⟨h, by omega⟩
 unfold F_q36q
 simp only
 refine Ok.ite (fun _ => lst c a0) fun h1 => Ok.ite (fun _ => lst c a0) fun h2 => ?_
 have h2 := of_decide_eq_false h2
 have h2 : ¬ g.1 > 8 := h2
 refine Ok.bind (one_ok h (by omega)) fun r hr => ?_
 have b := hr.2
 refine Ok.ite (fun _ => lst _ (hr.le (by omega))) fun _ => ?_
 refine Ok.bind (pick_ok hr.1 (by omega)) fun s hs => Ok.some ⟨?_, .inr hs.1, (hr.trans hs.2.2).le (by omega)⟩
 rcases hs.2.1 with h3 | h3
 ·have h3 : s.1 < g.1 := h3
  show s.1 <= _
  omega
 ·show s.1 <= _
  omega
end Go.V.W
set_option linter.unusedVariables false
set_option linter.unusedSimpArgs false
namespace Go.V.W
open Go.Proofs
structure Sts (m cfn : Nat) (st : List St) : Prop where
 at_ : ∀ j (h : j < st.length), (∃ c : Nat, st[j].1 = (c : Int) /\ c < cfn) /\ (∃ p : Nat -> Bool, st[j].2.1 = setF p m 0) /\ -1 <= st[j].2.2.1 /\ st[j].2.2.1 < (j : Int)
theorem Sts.push {m cfn : Nat} {st : List St} (h : Sts m cfn st) {c : Nat} (hc : c < cfn) (p : Nat -> Bool) {b : Int} (h1 : -1 <= b) (h2 : b < (st.length : Int)) : Sts m cfn (st ++ [((c : Int), setF p m 0, b, ())]) := by
 refine ⟨fun j hj => ?_⟩
 by_cases hl : j < st.length
 ·rw [List.getElem_append_left hl]
  exact h.at_ j hl
 ·have e : j = st.length := by simp at hj; omega
  subst e
  rw [List.getElem_append_right (by omega)]
  simp only [Nat.sub_self, List.getElem_cons_zero]
  exact ⟨⟨c, rfl, hc⟩, ⟨p, rfl⟩, h1, h2⟩
def cntT (l : List Bool) : Nat := l.foldr (fun b s => (if b = true then 1 else 0) + s) 0
structure ShI (m cfn : Nat) (st : List St) (sn : List Bool) : Prop where
 sts : Sts m cfn st
 len : sn.length = cfn * 2 ^ m
 cnt : st.length <= cfn + cntT sn
end Go.V.W
set_option linter.unusedVariables false
set_option linter.unusedSimpArgs false
namespace Go.V.W
open Go.Proofs
def GWalk (g : Gr) (w : List (List Int)) : Prop := g.2.1.length <= 200 /\ w.length <= 60 /\ ∀ l ∈ w, l.length <= 10
theorem GWalk.ok {g : Gr} {w : List (List Int)} (h : GWalk g w) : okL g.2.1 = true /\ okLL w = true := ⟨okL_of (by have := h.1; omega), okLL_small (by have := h.2.1; omega) (List.all_eq_true.2 fun l hl => decide_eq_true (by have := h.2.2 l hl; omega))⟩
end Go.V.W
set_option linter.unusedVariables false
set_option linter.unusedSimpArgs false
namespace Go.V.W
open Go.Proofs
theorem bits_ok {t x : Int} {u : Unit} (h1 : 0 <= t) (h2 : t <= 8) (h3 : 0 <= x) (h4 : x <= 255) : Ok (G_l2Bits (t, x, u)) fun r => r.1.length <= 8 := by
 unfold G_l2Bits
 have e1 : inB 0 8 t = true := inB_iff.2 ⟨h1, h2⟩
 have e2 : inB 0 255 x = true := inB_iff.2 ⟨h3, h4⟩
 simp only [e1, e2, Bool.and_self, if_true]
 exact Ok.some (Nat.le_trans setF_len (by omega))
theorem table_l0 (N : Nat) (z : Tt) (g : Gr) (p : Int) (hp : 1 <= p /\ p <= 4) (hg : g.2.1.length <= 200) : ∀ (k i f : Nat) (c : Cur) (ts : List (List Int)), i + k = g.2.1.length -> k < f -> CurB c -> c.2.1 + 6 * (k : Int) <= far_ -> ts.length <= i -> (∀ l ∈ ts, l.length <= 8) ->
  Ok (q15q_l0 N f (c, z, g, (g, p, ts, ()), (i : Int), ())) fun o => ∃ c' ts', o = .inl (c', z, (g, p, ts', ()), ()) /\ Adv (6 * (k : Int)) c c' /\ ts'.length <= 200 /\ ∀ l ∈ ts', l.length <= 8 := by
 intro k
 induction k with
 | zero =>
  intro i f c ts h1 h2 h3 h4 h5 h6
  obtain ⟨f, rfl⟩ : ∃ m, f = m + 1 := ⟨f - 1, by omega⟩
  have hlt : decide ((i : Int) < (g.2.1.length : Int)) = false := decide_eq_false (by omega)
  show Ok (q15q_l0_r _ _ _) _
  unfold q15q_l0_r
  simp only [hlt, Bool.false_eq_true, if_false]
  exact Ok.some ⟨c, ts, rfl, ⟨h3, by omega⟩, by omega, h6⟩
 | succ k ih =>
  intro i f c ts h1 h2 h3 h4 h5 h6
  obtain ⟨f, rfl⟩ : ∃ m, f = m + 1 := ⟨f - 1, by omega⟩
  have hlt : decide ((i : Int) < (g.2.1.length : Int)) = true := decide_eq_true (by omega)
  have more : ∀ (c1 : Cur) (l : List Int), Adv 4 c c1 -> l.length <= 8 -> Ok (q15q_l0 N f (c1, z, g, (g, p, ts ++ [l], ()), ((i + 1 : Nat) : Int), ())) fun o => ∃ c' ts', o = .inl (c', z, (g, p, ts', ()), ()) /\ Adv (6 * ((k + 1 : Nat) : Int)) c c' /\ ts'.length <= 200 /\ ∀ l ∈ ts', l.length <= 8 := fun c1 l a1 hl => by
   have := a1.2
   refine (ih (i + 1) f c1 (ts ++ [l]) (by omega) (by omega) a1.1 (by omega) (by simp; omega) (fun x hx => by
    rcases List.mem_append.1 hx with hx | hx
    ·exact h6 x hx
    ·rw [List.mem_singleton.1 hx]; exact hl)).mono fun o ho => ?_
   obtain ⟨c', ts', e1, e2, e3⟩ := ho
   exact ⟨c', ts', e1, (a1.trans e2).le (by omega), e3⟩
  have hle : ∀ l : List Int, decide (ts.length + List.length [l] <= lim) = true := fun l => by unfold lim; simp; omega
  show Ok (q15q_l0_r _ _ _) _
  unfold q15q_l0_r
  simp only [hlt, if_true, small_wrap (show i <= 100000 by omega)]
  refine Ok.bind (pick_ok h3 (by omega)) fun r hr => ?_
  obtain ⟨r1, r2, r3⟩ := hr
  have b3 := r3.2
  have w : IntKind.wrap .i64 ((1 : Int) + r.1) = 1 + r.1 := wrap_in _ (by omega) (by omega)
  rw [w]
  refine Ok.bind (bits_ok (by omega) (by omega) (by omega) (by omega)) fun q hq => ?_
  refine Ok.ite (fun _ => ?_) fun _ => Ok.pos (hle _) (more _ _ (r3.le (by omega)) hq)
  refine Ok.bind (one_ok r3.1 (by omega)) fun s hs => ?_
  have a2 := (r3.trans hs).le (show (2 : Int) + 2 <= 4 by omega)
  exact Ok.ite (fun _ => Ok.pos (hle _) (more _ _ a2 (by simp))) fun _ => Ok.pos (hle _) (more _ _ a2 hq)
noncomputable def tbTail (c : Cur) (t : Tt) : Option (Tt × Cur × Unit) :=
   ((F_q42q 0) ((c, ((30 : Int), ())))).bind fun r24 =>
   if (r24.1 == (0 : Int)) = true then
    ((F_q25q 0) ((r24.2.1, ([(0 : Int), (5 : Int), (-1 : Int)], ())))).bind fun r25 =>
    some (((t.1, (r25.1, t.2.2)), (r25.2.1, ())))
   else
    if (r24.1 == (1 : Int)) = true then
     if (decide (List.length t.2.2.1 + List.length ([[(0 : Int)]]) <= lim)) = true then
     let x26 : List (List Int) := t.2.2.1 ++ ([[(0 : Int)]])
     some (((t.1, (t.2.1, (x26, t.2.2.2))), (r24.2.1, ())))
     else none
    else
     if (r24.1 == (2 : Int)) = true then
      if (decide ((List.length t.2.2.1 : Int) > (0 : Int))) = true then
       if (idxIn (0 : Int) (List.length t.2.2.1)) = true then
       ((F_q25q 0) ((r24.2.1, ([(4 : Int), (0 : Int), (-1 : Int)], ())))).bind fun r27 =>
       if (decide (List.length (at_ K_Si t.2.2.1 (0 : Int).toNat) + List.length ([r27.1]) <= lim)) = true then
       let x28 : List Int := (at_ K_Si t.2.2.1 (0 : Int).toNat) ++ ([r27.1])
       if (idxIn (0 : Int) (List.length t.2.2.1)) = true then
       if (((Nat.beq (0 : Int).toNat (0 : Int).toNat) && true)) = true then
       some (((t.1, (t.2.1, (List.set t.2.2.1 (0 : Int).toNat x28, t.2.2.2))), (r27.2.1, ())))
       else none
       else none
       else none
       else none
      else
       some ((t, (r24.2.1, ())))
     else
      some ((t, (r24.2.1, ())))
theorem tbTail_ok {c : Cur} {g : Gr} {p : Int} {ts : List (List Int)} {v : Unit} (h : CurB c) (hf : c.2.1 + 10 <= far_) (hg : g.2.1.length <= 200) (h1 : ts.length <= 200) (h2 : ∀ l ∈ ts, l.length <= 8) :
  Ok (tbTail c (g, p, ts, v)) fun r => Adv 10 c r.2.1 /\ r.1.1.2.1.length <= 200 /\ r.1.2.2.1.length <= 300 /\ ∀ l ∈ r.1.2.2.1, l.length <= 10 := by
 have h2' : ∀ l ∈ ts, l.length <= 10 := fun l hl => by have := h2 l hl; omega
 unfold tbTail
 simp only
 refine Ok.bind (pick_ok h (by omega)) fun r hr => ?_
 have a := hr.2.2
 have b := a.2
 refine Ok.ite (fun _ => ?_) fun _ => Ok.ite (fun _ => ?_) fun _ => Ok.ite (fun _ => Ok.ite (fun h0 => ?_) fun _ => Ok.some ⟨a.le (by omega), hg, by show ts.length <= 300; omega, h2'⟩) fun _ => Ok.some ⟨a.le (by omega), hg, by show ts.length <= 300; omega, h2'⟩
 ·exact Ok.bind (among_ok a.1 (by omega) (by simp)) fun s hs => Ok.some ⟨(a.trans hs.2).le (by omega), hg, by show ts.length <= 300; omega, h2'⟩
 ·refine Ok.pos (by unfold lim; simp; omega) (Ok.some ⟨a.le (by omega), hg, ?_, fun l hl => ?_⟩)
  ·show (ts ++ [[(0 : Int)]]).length <= 300
   rw [List.length_append]
   have : List.length [[(0 : Int)]] = 1 := rfl
   omega
  ·rcases List.mem_append.1 hl with hl | hl
   ·exact h2' l hl
   ·rw [List.mem_singleton.1 hl]; simp
 ·have h0 := of_decide_eq_true h0
  have hlt : 0 < ts.length := by omega
  have e0 : at_ K_Si ts (0 : Int).toNat = ts[0] := at_get (e := K_Si) hlt
  have i0 : idxIn (0 : Int) ts.length = true := idxIn_nat hlt
  have l0 := h2 ts[0] (List.getElem_mem hlt)
  refine Ok.pos i0 (Ok.bind (among_ok a.1 (by omega) (by simp)) fun s hs => ?_)
  rw [e0]
  refine Ok.pos (by unfold lim; simp; omega) (Ok.pos i0 (Ok.pos rfl (Ok.some ⟨(a.trans hs.2).le (by omega), hg, ?_, fun l hl => ?_⟩)))
  ·show (List.set ts (0 : Int).toNat (ts[0] ++ [s.1])).length <= 300
   rw [List.length_set]; omega
  ·rcases List.mem_or_eq_of_mem_set hl with hl | rfl
   ·exact h2' l hl
   ·have e : (ts[0] ++ [s.1]).length = ts[0].length + 1 := by simp
    omega
theorem timetable_ok {c : Cur} {u : Unit} (h : CurB c) (hf : c.2.1 + 3000 <= far_) : Ok (pickF F_q15q P_table (c, u)) (P_table (c, u)) := by
 refine Ok.pick 300 ?_
 have fin : ∀ (c1 : Cur) (g : Gr) (p : Int), Adv 1000 c c1 -> g.2.1.length <= 200 -> 1 <= p /\ p <= 4 -> Ok ((q15q_l0 300 300 (c1, (((0 : Int), (([] : List (Int × Int × Unit)), ())), ((0 : Int), (([] : List (List Int)), ()))), g, (g, p, [], ()), (0 : Int), ())).bind fun o13 => match o13 with
   | .inl d => tbTail d.1 d.2.2.1) (P_table (c, u)) := fun c1 g p h1 hg hp => by
  have b := h1.2
  have hl := table_l0 300 (((0 : Int), (([] : List (Int × Int × Unit)), ())), ((0 : Int), (([] : List (List Int)), ()))) g p hp hg g.2.1.length 0 300 c1 [] (by omega) (by omega) h1.1 (by omega) (by simp) (by simp)
  simp only [Int.natCast_zero] at hl
  refine Ok.bind hl fun o ho => ?_
  obtain ⟨c', ts', rfl, e2, e3, e4⟩ := ho
  have a2 := h1.trans e2
  have b2 := a2.2
  exact (tbTail_ok a2.1 (by omega) hg e3 e4).mono fun r hr => ⟨(a2.trans hr.1).le (by omega), hr.2⟩
 have w : ∀ x : Int, 0 <= x -> (x < 4 \/ x = 0) -> 1 <= IntKind.wrap .i64 ((1 : Int) + x) /\ IntKind.wrap .i64 ((1 : Int) + x) <= 4 := fun x h1 h2 => by
  have w : IntKind.wrap .i64 ((1 : Int) + x) = 1 + x := wrap_in _ (by omega) (by omega)
  rw [w]; omega
 unfold F_q15q
 simp only
 refine Ok.bind (someGraph_ok h (by omega) (by omega) (by omega)) fun r hr => ?_
 have a1 : Adv 300 c r.2.1 := hr.1
 have b1 := a1.2
 refine Ok.bind (one_ok a1.1 (by omega)) fun s hs => ?_
 have a2 := a1.trans hs
 have b2 := a2.2
 refine Ok.ite (fun _ => ?_) fun _ => ?_
 ·refine Ok.bind (bigGraph_ok a2.1 (by omega)) fun q hq => ?_
  have a3 := a2.trans hq.1
  have b3 := a3.2
  refine Ok.bind (pick_ok a3.1 (by omega)) fun x hx => ?_
  exact fin _ _ _ ((a3.trans hx.2.2).le (by omega)) hq.2 (w _ hx.1 hx.2.1)
 ·refine Ok.bind (pick_ok a2.1 (by omega)) fun x hx => ?_
  exact fin _ _ _ ((a2.trans hx.2.2).le (by omega)) hr.2 (w _ hx.1 hx.2.1)
theorem okT_small {t : Tt} (h1 : t.1.2.1.length <= 200) (h2 : t.2.2.1.length <= 300) (h3 : ∀ l ∈ t.2.2.1, l.length <= 10) : okT t = true := by
 unfold okT
 rw [Bool.and_eq_true]
 exact ⟨okL_of (by omega), okLL_small (by omega) (List.all_eq_true.2 fun l hl => decide_eq_true (by have := h3 l hl; omega))⟩
end Go.V.W
set_option linter.unusedVariables false
set_option linter.unusedSimpArgs false
namespace Go.V.W
open Go.Proofs
theorem pair_rising : ∀ {l : List E}, (l.Pairwise fun a b => lessE a b = true) -> risingE l = true := by
 intro l
 induction l with
 | nil => intro _; rfl
 | cons a l ih =>
  intro h
  match l, ih, h with
  | [], _, _ => rfl
  | b :: l, ih, h =>
   unfold risingE
   rw [List.pairwise_cons] at h
   rw [Bool.and_eq_true]
   exact ⟨h.1 b (List.mem_cons_self ..), ih h.2⟩
theorem open_graphB {t : Tt} (ht : timeB t = true) (r : Int) : graphB ((t.1.1.toNat : Int), openE t r, ()) = true := by
 obtain ⟨e, h1, h2, _, _, _, h3, h4⟩ := time_n ht
 obtain ⟨o1, o2⟩ := openE_ok (t := t) (n := t.1.1.toNat) h3 h4 r
 unfold graphB
 simp only [Bool.and_eq_true, decide_eq_true_eq]
 exact ⟨⟨⟨by omega, by omega⟩, o1⟩, pair_rising o2⟩
theorem static_timeB {n : Nat} {es : List E} {u : Unit} (hg : graphB ((n : Int), es, u) = true) (hn : 0 < n) (v w : Unit) : timeB (((n : Int), es, v), 1, List.replicate es.length [0], w) = true := by
 have hg2 : graphB ((n : Int), es, v) = true := hg
 have e1 : inB 1 4 (1 : Int) = true := rfl
 have e2 : (List.replicate es.length [(0 : Int)]).any (badT (((n : Int), es, v), 1, List.replicate es.length [0], w)) = false := by
  rw [List.any_eq_false]
  intro x hx
  rw [(List.mem_replicate.1 hx).2]
  have : badT (((n : Int), es, v), 1, List.replicate es.length [0], w) [0] = false := rfl
  simp [this]
 have hn2 : (n : Int) > 0 := by omega
 unfold timeB
 simp only [hg2, e1, e2, hn2, List.length_replicate, decide_true, Bool.not_false, Bool.and_self]
end Go.V.W
set_option linter.unusedVariables false
set_option linter.unusedSimpArgs false
namespace Go.V.W
open Go.Proofs
theorem rGraph_lim (d) (r) (h : G_rGraph d = some r) : ∃ N, F_q71q N d = some r := by
 obtain ⟨⟨n, l, v⟩, ⟨m, l2, v2⟩, u⟩ := d
 unfold G_rGraph at h
 split at h
 ·rename_i hl
  simp only [Bool.and_eq_true, decide_eq_true_eq] at hl
  obtain ⟨⟨h1, rfl⟩, rfl⟩ := hl
  have hmx := lim_max (okL_lim h1)
  cases h
  have key : ∀ k i f, i + k = l.length -> k < f -> q71q_l0 (l.length + 1) f ((n, l, v), (n, l, v2), (i : Int), ()) = some (.inr (.inl ())) := by
   intro k
   induction k with
   | zero =>
    intro i f h1 h2
    obtain ⟨f, rfl⟩ : ∃ m, f = m + 1 := ⟨f - 1, by omega⟩
    have hlt : decide ((i : Int) < (l.length : Int)) = false := decide_eq_false (by omega)
    show q71q_l0_r _ _ _ = _
    unfold q71q_l0_r
    simp only [hlt, Bool.false_eq_true, if_false]
   | succ k ih =>
    intro i f h1 h2
    obtain ⟨f, rfl⟩ : ∃ m, f = m + 1 := ⟨f - 1, by omega⟩
    have hi : i < l.length := by omega
    show q71q_l0_r _ _ _ = _
    unfold q71q_l0_r
    simp only [lt_dec hi, if_true, idxIn_nat hi, Int.toNat_natCast, eqB_e, Bool.not_true, Bool.false_eq_true, if_false, wrap_up hi hmx]
    exact ih (i + 1) f (by omega) (by omega)
  refine ⟨l.length + 1, ?_⟩
  unfold F_q71q
  have hk := key l.length 0 (l.length + 1) (by omega) (by omega)
  simp only [Int.natCast_zero] at hk
  simp only [bne_self_eq_false, Bool.false_eq_true, if_false, hk, Option.bind_some]
 ·cases h
theorem ballK_lt {n : Nat} {ms : List Nat} (hm : okN n ms) {x : Nat} (hx : x < 8) : ∀ r, ballK ms x r < 256 := by
 intro r
 induction r with
 | zero => exact Nat.lt_of_lt_of_le (Nat.pow_lt_pow_right (by omega) hx) (by omega)
 | succ r ih => exact (arN_bit hm _ _ _ _ ih).1
theorem ballK_fix {ms : List Nat} {x i : Nat} (h : ballK ms x (i + 1) = ballK ms x i) : ∀ j, ballK ms x (i + j) = ballK ms x i := by
 intro j
 induction j with
 | zero => rfl
 | succ j ih =>
  show arN ms (ballK ms x (i + j)) ms.length 0 (ballK ms x (i + j)) = _
  rw [ih]
  exact h
theorem around_arN {l : List Int} {u v : Unit} (hn : netB l = true) {m : Nat} (hm : m < 256) : G_around ((l, u), (m : Int), v) = some (((arN (fromI l) m (fromI l).length 0 m : Nat) : Int), ()) := by
 obtain ⟨e, hk, h8, hb⟩ := netB_parts hn
 have hs : smallN l = true := by unfold netB at hn; rw [Bool.and_eq_true] at hn; exact hn.1
 have hl : (fromI l).length = l.length := hk.1
 unfold G_around
 simp only [hs, nonneg_dec, decide_eq_true (show (m : Int) < 256 by omega), Bool.and_self, if_true, Int.toNat_natCast, hl]
theorem netBall_l0 (N : Nat) {l : List Int} (hn : netB l = true) (u : Unit) {x : Nat} (hx : x < 8) : ∀ (k i f : Nat), k <= 8 -> k < f ->
  q52q_l0 N f ((k : Int), (l, u), ((ballK (fromI l) x i : Nat) : Int), ()) = some (.inl (((ballK (fromI l) x (i + k) : Nat) : Int), ())) := by
 obtain ⟨e, hk, h8, hb⟩ := netB_parts hn
 intro k
 induction k with
 | zero =>
  intro i f _ h2
  obtain ⟨f, rfl⟩ : ∃ m, f = m + 1 := ⟨f - 1, by omega⟩
  show q52q_l0_r _ _ _ = _
  unfold q52q_l0_r
  have e0 : decide (((0 : Nat) : Int) > 0) = false := rfl
  simp only [e0, Bool.false_eq_true, if_false, Nat.add_zero]
 | succ k ih =>
  intro i f h1 h2
  obtain ⟨f, rfl⟩ : ∃ m, f = m + 1 := ⟨f - 1, by omega⟩
  have hlt := ballK_lt hk hx i
  have e1 : decide (((k + 1 : Nat) : Int) > 0) = true := decide_eq_true (by omega)
  have w1 : IntKind.wrap .i64 (((k + 1 : Nat) : Int) - 1) = (k : Int) := by rw [wrap_in _ (by omega) (by omega)]; omega
  have ea : arN (fromI l) (ballK (fromI l) x i) (fromI l).length 0 (ballK (fromI l) x i) = ballK (fromI l) x (i + 1) := rfl
  show q52q_l0_r _ _ _ = _
  unfold q52q_l0_r
  simp only [e1, if_true, around_arN hn hlt, Option.bind_some, ea, w1]
  by_cases hq : ballK (fromI l) x (i + 1) = ballK (fromI l) x i
  ·have e2 : (((ballK (fromI l) x (i + 1) : Nat) : Int) == ((ballK (fromI l) x i : Nat) : Int)) = true := by simp [hq]
   rw [if_pos e2, ballK_fix hq]
  ·have e2 : ¬ (((ballK (fromI l) x (i + 1) : Nat) : Int) == ((ballK (fromI l) x i : Nat) : Int)) = true := by simp; omega
   rw [if_neg e2, ih (i + 1) f (by omega) (by omega), show i + 1 + k = i + (k + 1) by omega]
theorem netBall_lim (d) (r) (h : G_netBall d = some r) : ∃ N, F_q52q N d = some r := by
 obtain ⟨⟨l, u⟩, x, k, w⟩ := d
 unfold G_netBall at h
 split at h
 ·rename_i hc
  simp only [Bool.and_eq_true] at hc
  obtain ⟨⟨hn, hx⟩, hk⟩ := hc
  cases h
  obtain ⟨e, hm, h8, hb⟩ := netB_parts hn
  have hx := inB_iff.1 hx
  have hk := inB_iff.1 hk
  obtain ⟨x, rfl⟩ := nat_of hx.1
  obtain ⟨k, rfl⟩ := nat_of hk.1
  have hx8 : x < 8 := by omega
  refine ⟨20, ?_⟩
  unfold F_q52q
  have hs : shl .i64 1 (x : Int) = ((2 ^ x : Nat) : Int) := shl_one hx8
  have key := netBall_l0 20 hn u hx8 k 0 20 (by omega) (by omega)
  have e0 : ballK (fromI l) x 0 = 2 ^ x := rfl
  rw [e0, Nat.zero_add] at key
  simp only [nonneg_dec, if_true, hs, key, Option.bind_some, Int.toNat_natCast]
 ·cases h
theorem rowF_set {n z : Nat} (g : Nat -> Int) (hz : z < n) (v : Int) : List.set ((List.range n).map g) z v = (List.range n).map fun y => if y = z then v else g y := by
 apply List.ext_getElem
 ·simp
 ·intro i h1 h2
  rw [List.getElem_set]
  simp only [List.getElem_map, List.getElem_range]
  by_cases e : z = i
  ·rw [if_pos e, if_pos e.symm]
  ·rw [if_neg e, if_neg (fun h => e h.symm)]
theorem findF_end (q : Nat -> Bool) : ∀ (k i : Nat), findF q (k + 1) i = if findF q k i < 0 then (if q (i + k) = true then ((i + k : Nat) : Int) else -1) else findF q k i := by
 intro k
 induction k with
 | zero => intro i; simp [findF]
 | succ k ih =>
  intro i
  by_cases h : q i = true
  ·have e1 : findF q (k + 1 + 1) i = (i : Int) := by rw [findF, if_pos h]
   have e2 : findF q (k + 1) i = (i : Int) := by rw [findF, if_pos h]
   rw [e1, e2, if_neg (by omega)]
  ·have e1 : findF q (k + 1 + 1) i = findF q (k + 1) (i + 1) := by rw [findF, if_neg h]
   have e2 : findF q (k + 1) i = findF q k (i + 1) := by rw [findF, if_neg h]
   rw [e1, e2, ih (i + 1), show i + 1 + k = i + (k + 1) by omega]
theorem findF_low (q : Nat -> Bool) (k : Nat) : -1 <= findF q k 0 /\ findF q k 0 < (k : Int) := by
 rcases findF_cases q k 0 with ⟨h, _⟩ | ⟨j, h, _, h2, _⟩ <;> omega
theorem dist_l4 (N : Nat) (w : Nt) (x n : Nat) (v a b : Int) (ys : List Int) (hy : ys.length <= 8) : ∀ (k i f : Nat) (T : Tab) (g : Nat -> Int), i + k = ys.length -> k < f -> x < T.length -> (∀ z ∈ ys, ∃ y : Nat, y < n /\ z = (y : Int)) -> at_ K_Si T x = (List.range n).map g ->
  q19q_l4 N f (w, T, (x : Int), v, a, b, ys, (ys.length : Int), (i : Int), ()) = some (.inl (w, List.set T x ((List.range n).map fun y : Nat => if (ys.drop i).any (fun z => z == (y : Int)) = true then v else g y), (x : Int), v, a, b, ())) := by
 intro k
 induction k with
 | zero =>
  intro i f T g h1 h2 hx hys hg
  obtain ⟨f, rfl⟩ : ∃ m, f = m + 1 := ⟨f - 1, by omega⟩
  have e : i = ys.length := by omega
  subst e
  have hT : List.set T x ((List.range n).map g) = T := by
   rw [<- hg, at_get (e := K_Si) hx]
   exact List.set_getElem_self hx
  show q19q_l4_r _ _ _ = _
  unfold q19q_l4_r
  simp only [lt_not, Bool.false_eq_true, if_false, List.drop_of_length_le (Nat.le_refl _), List.any_nil, hT]
 | succ k ih =>
  intro i f T g h1 h2 hx hys hg
  obtain ⟨f, rfl⟩ : ∃ m, f = m + 1 := ⟨f - 1, by omega⟩
  have hi : i < ys.length := by omega
  obtain ⟨y, hyn, ey⟩ := hys ys[i] (List.getElem_mem hi)
  have hlen : (at_ K_Si T x).length = n := by rw [hg]; simp
  have hyl : y < (at_ K_Si T x).length := by omega
  have hd : ys.drop i = (y : Int) :: ys.drop (i + 1) := by rw [List.drop_eq_getElem_cons hi, ey]
  have hx2 : x < (List.set T x (List.set (at_ K_Si T x) y v)).length := by rw [List.length_set]; exact hx
  have hg2 : at_ K_Si (List.set T x (List.set (at_ K_Si T x) y v)) x = (List.range n).map fun z => if z = y then v else g z := by
   rw [at_get (e := K_Si) hx2, List.get_eq_getElem, List.getElem_set_self, hg, rowF_set g hyn]
  have key := ih (i + 1) f _ _ (by omega) (by omega) hx2 hys hg2
  show q19q_l4_r _ _ _ = _
  unfold q19q_l4_r
  simp only [lt_dec hi, if_true, idxIn_nat hi, idxIn_nat hx, Int.toNat_natCast, at_l (e := I) hi, ey, idxIn_nat hyl, small_wrap (show i <= 100000 by omega)]
  refine key.trans ?_
  rw [List.set_set, hd]
  congr 6
  funext z
  simp only [List.any_cons]
  by_cases e : z = y
  ·subst e
   simp
  ·have e2 : ((y : Int) == (z : Int)) = false := by simp; omega
   simp only [e2, Bool.false_or, if_neg e]
theorem dist_l2 (N : Nat) (hN : 20 <= N) {l : List Int} (hn : netB l = true) (u : Unit) {x : Nat} (hx : x < l.length) (a b : Int) : ∀ (k f : Nat) (T : Tab) (g : Nat -> Int), k <= 9 -> k < f -> x < T.length -> at_ K_Si T x = (List.range l.length).map g ->
  q19q_l2 N f ((l, u), T, (x : Int), ((k : Int) - 1), a, b, ()) = some (.inl ((l, u), List.set T x ((List.range l.length).map fun y => if findF (fun r => (ballK (fromI l) x r).testBit y) k 0 < 0 then g y else findF (fun r => (ballK (fromI l) x r).testBit y) k 0), a, b, ())) := by
 obtain ⟨e, hm, h8, hb⟩ := netB_parts hn
 intro k
 induction k with
 | zero =>
  intro f T g h1 h2 hxT hg
  obtain ⟨f, rfl⟩ : ∃ m, f = m + 1 := ⟨f - 1, by omega⟩
  have hT : List.set T x ((List.range l.length).map g) = T := by
   rw [<- hg, at_get (e := K_Si) hxT]
   exact List.set_getElem_self hxT
  have e0 : decide ((((0 : Nat) : Int) - 1) >= 0) = false := rfl
  have e1 : ((-1 : Int) < 0) := by omega
  show q19q_l2_r _ _ _ = _
  unfold q19q_l2_r
  simp only [e0, Bool.false_eq_true, if_false, findF, e1, if_true, hT]
 | succ k ih =>
  intro f T g h1 h2 hxT hg
  obtain ⟨f, rfl⟩ : ∃ m, f = m + 1 := ⟨f - 1, by omega⟩
  have ek : (((k + 1 : Nat) : Int) - 1) = (k : Int) := by omega
  have hk0 : decide ((k : Int) >= 0) = true := decide_eq_true (by omega)
  have hxi : inB 0 ((l.length : Int) - 1) (x : Int) = true := inB_iff.2 (by omega)
  have hki : inB 0 8 (k : Int) = true := inB_iff.2 (by omega)
  have gb : G_netBall ((l, u), (x : Int), (k : Int), ()) = some (((ballK (fromI l) x k : Nat) : Int), ()) := by
   unfold G_netBall
   simp only [hn, hxi, hki, Bool.and_self, if_true, Int.toNat_natCast]
  have hlt := ballK_lt hm (show x < 8 by omega) k
  -- the ball holds nodes alone
  have hin : ∀ r y, (ballK (fromI l) x r).testBit y = true -> y < l.length := by
   intro r
   induction r with
   | zero =>
    intro y hy
    have : (2 ^ x).testBit y = true := hy
    rw [Nat.testBit_two_pow] at this
    have := of_decide_eq_true this
    omega
   | succ r ihr =>
    intro y hy
    have hlt2 := ballK_lt hm (show x < 8 by omega) r
    have hy : (arN (fromI l) (ballK (fromI l) x r) (fromI l).length 0 (ballK (fromI l) x r)).testBit y = true := hy
    rw [(arN_bit hm _ _ _ _ hlt2).2 y, Bool.or_eq_true, List.any_eq_true] at hy
    rcases hy with hy | ⟨z, hz, hy⟩
    ·exact ihr y hy
    ·rw [Bool.and_eq_true] at hy
     have hzl : z < l.length := by
      have := List.mem_range'_1.1 hz
      rw [hm.1] at this
      omega
     have h3 := hb z hzl
     apply Classical.byContradiction
     intro hge
     have : (fromI l).getD z 0 < 2 ^ y := Nat.lt_of_lt_of_le h3 (Nat.pow_le_pow_right (by omega) (by omega))
     rw [Nat.testBit_lt_two_pow this] at hy
     cases hy.2
  have hys : ∀ z ∈ setF (fun y => (ballK (fromI l) x k).testBit y) 8 0, ∃ y : Nat, y < l.length /\ z = (y : Int) := fun z hz => by
   obtain ⟨y, _, _, h5, rfl⟩ := setF_mem.1 hz
   exact ⟨y, hin k y h5, rfl⟩
  have hlen : (setF (fun y => (ballK (fromI l) x k).testBit y) 8 0).length <= 8 := setF_len
  have h4 := dist_l4 N (l, u) x l.length (k : Int) a b _ hlen _ 0 N T g (Nat.zero_add _) (by omega) hxT hys hg
  simp only [Int.natCast_zero, List.drop_zero] at h4
  have hx2 : ∀ R, x < (List.set T x R).length := fun R => by rw [List.length_set]; exact hxT
  have hg2 : ∀ g' : Nat -> Int, at_ K_Si (List.set T x ((List.range l.length).map g')) x = (List.range l.length).map g' := fun g' => by rw [at_get (e := K_Si) (hx2 _), List.get_eq_getElem, List.getElem_set_self]
  have key := ih f _ _ (by omega) (by omega) (hx2 _) (hg2 fun y => if (setF (fun y => (ballK (fromI l) x k).testBit y) 8 0).any (fun z => z == (y : Int)) = true then (k : Int) else g y)
  have w1 : IntKind.wrap .i64 ((k : Int) - 1) = (k : Int) - 1 := wrap_in _ (by omega) (by omega)
  show q19q_l2_r _ _ _ = _
  unfold q19q_l2_r
  simp only [ek, hk0, if_true, gb, Option.bind_some, setOf_some hlt, h4, w1]
  refine key.trans ?_
  rw [List.set_set]
  congr 5
  refine List.map_congr_left fun y hy => ?_
  have hy8 : y < 8 := by have := List.mem_range.1 hy; omega
  rw [findF_end, any_setF hy8, Nat.zero_add]
  by_cases h5 : findF (fun r => (ballK (fromI l) x r).testBit y) k 0 < 0
  ·rw [if_pos h5, if_pos h5]
   by_cases h6 : (ballK (fromI l) x k).testBit y = true
   ·rw [if_pos h6, if_pos h6, if_neg (show ¬ ((k : Nat) : Int) < 0 by omega)]
   ·rw [if_neg h6, if_neg h6, if_pos (show (-1 : Int) < 0 by omega)]
  ·rw [if_neg h5, if_neg h5, if_neg h5]
theorem dist_l0 (N : Nat) (hN : 20 <= N) {l : List Int} (hn : netB l = true) (u : Unit) : ∀ (k x f : Nat) (T : Tab), x + k = l.length -> k < f -> T.length = l.length -> (∀ i, i < x -> at_ K_Si T i = (List.range l.length).map (distM (fromI l) i)) ->
  q19q_l0 N f ((l, u), T, (l.length : Int), (x : Int), ()) = some (.inl (tabL l.length (distM (fromI l)), ())) := by
 obtain ⟨e, hm, h8, hb⟩ := netB_parts hn
 intro k
 induction k with
 | zero =>
  intro x f T h1 h2 hT hp
  obtain ⟨f, rfl⟩ : ∃ m, f = m + 1 := ⟨f - 1, by omega⟩
  have e : x = l.length := by omega
  subst e
  have hTe : T = tabL l.length (distM (fromI l)) := by
   apply List.ext_getElem
   ·rw [tabL_len, hT]
   ·intro i h3 h4
    have := hp i (by omega)
    rw [at_get (e := K_Si) h3] at this
    have e5 := tabL_at (distM (fromI l)) (show i < l.length by omega)
    rw [at_get (e := K_Si) h4] at e5
    exact this.trans e5.symm
  show q19q_l0_r _ _ _ = _
  unfold q19q_l0_r
  simp only [lt_not, Bool.false_eq_true, if_false, <- hTe]
 | succ k ih =>
  intro x f T h1 h2 hT hp
  obtain ⟨f, rfl⟩ : ∃ m, f = m + 1 := ⟨f - 1, by omega⟩
  have hx : x < l.length := by omega
  have hxT : x < T.length := by omega
  have hx2 : x < (List.set T x (List.replicate l.length (-1))).length := by rw [List.length_set]; exact hxT
  have hg : at_ K_Si (List.set T x (List.replicate l.length (-1))) x = (List.range l.length).map fun _ => (-1 : Int) := by
   rw [at_get (e := K_Si) hx2, List.get_eq_getElem, List.getElem_set_self]
   apply List.ext_getElem <;> simp
  have h3 := dist_l2 N hN hn u hx (l.length : Int) (x : Int) (l.length + 1) N _ _ (by omega) (by omega) hx2 hg
  have e1 : (((l.length + 1 : Nat) : Int) - 1) = (l.length : Int) := by omega
  rw [e1, List.set_set] at h3
  have hrow : ((List.range l.length).map fun y => if findF (fun r => (ballK (fromI l) x r).testBit y) (l.length + 1) 0 < 0 then (-1 : Int) else findF (fun r => (ballK (fromI l) x r).testBit y) (l.length + 1) 0) = (List.range l.length).map (distM (fromI l) x) := by
   refine List.map_congr_left fun y _ => ?_
   unfold distM
   rw [show (fromI l).length = l.length from hm.1]
   have := findF_low (fun r => (ballK (fromI l) x r).testBit y) (l.length + 1)
   split <;> omega
  rw [hrow] at h3
  show q19q_l0_r _ _ _ = _
  unfold q19q_l0_r g_q58q
  simp only [lt_dec hx, if_true, repeat_some (show 1 <= l.length by omega) h8, Option.bind_some, idxIn_nat hxT, Int.toNat_natCast, h3, wrap8 hx h8]
  refine ih (x + 1) f _ (by omega) (by omega) (by rw [List.length_set]; exact hT) fun i hi => ?_
  have hiT : i < (List.set T x ((List.range l.length).map (distM (fromI l) x))).length := by rw [List.length_set]; omega
  rw [at_get (e := K_Si) hiT, List.get_eq_getElem, List.getElem_set]
  by_cases e : x = i
  ·rw [if_pos e, e]
  ·rw [if_neg e]
   have := hp i (by omega)
   rw [at_get (e := K_Si) (show i < T.length by omega)] at this
   exact this
theorem netDists_lim (d) (r) (h : G_dists d = some r) : ∃ N, F_q19q N d = some r := by
 obtain ⟨⟨l, u⟩, _⟩ := d
 unfold G_dists at h
 split at h
 ·rename_i hn
  have hn : netB l = true := hn
  obtain ⟨e, hm, h8, hb⟩ := netB_parts hn
  cases h
  refine ⟨20, ?_⟩
  unfold F_q19q g_q58q
  have hc : (decide (0 <= (l.length : Int)) && decide ((l.length : Int) <= (l.length : Int)) && decide ((l.length : Int) <= (lim : Int))) = true := by
   have a1 : (l.length : Int) <= (lim : Int) := by unfold lim; omega
   simp only [a1, nonneg_dec, decide_true, Bool.and_self, Int.le_refl]
  have h0 := dist_l0 20 (by omega) hn u l.length 0 20 (List.replicate l.length []) (by omega) (by omega) (by simp) (fun i hi => by omega)
  simp only [Int.natCast_zero] at h0
  simp only [hc, if_true, Int.toNat_natCast, List.length_replicate, h0, Option.bind_some]
 ·cases h
end Go.V.W
set_option linter.unusedVariables false
set_option linter.unusedSimpArgs false
namespace Go.V.W
open Go.Proofs
def dS (n : Nat) (es : List E) (x d y : Nat) : Int := findF (fun k => iterS n es x k y) (d + 1) 0
theorem iterS_step {n : Nat} {es : List E} {x k y : Nat} : iterS n es x (k + 1) y = true ↔ iterS n es x k y = true \/ ∃ z, z < n /\ iterS n es x k z = true /\ nearI es (z : Int) (y : Int) = true := by
 show stepP es n (iterS n es x k) y = true ↔ _
 unfold stepP
 rw [Bool.or_eq_true, List.any_eq_true]
 constructor
 ·rintro (h | ⟨z, hz, h⟩)
  ·exact .inl h
  ·rw [Bool.and_eq_true] at h
   exact .inr ⟨z, List.mem_range.1 hz, h.1, h.2⟩
 ·rintro (h | ⟨z, hz, h1, h2⟩)
  ·exact .inl h
  ·exact .inr ⟨z, List.mem_range.2 hz, by rw [h1, h2]; rfl⟩
theorem dS_next {n : Nat} {es : List E} {x d z : Nat} : dS n es x (d + 1) z = if dS n es x d z < 0 /\ ∃ y, y < n /\ dS n es x d y = (d : Int) /\ nearI es (y : Int) (z : Int) = true then (d : Int) + 1 else dS n es x d z := by
 unfold dS
 rw [findF_end _ (d + 1) 0, Nat.zero_add]
 rcases findF_cases (fun k => iterS n es x k z) (d + 1) 0 with ⟨h1, h2⟩ | ⟨j, h1, _, h3, h4, h5⟩
 ·rw [h1, if_pos (show (-1 : Int) < 0 by omega)]
  by_cases hs : iterS n es x (d + 1) z = true
  ·have hex : ∃ y, y < n /\ findF (fun k => iterS n es x k y) (d + 1) 0 = (d : Int) /\ nearI es (y : Int) (z : Int) = true := by
    have h0 := h2 d (Nat.zero_le _) (by omega)
    rcases iterS_step.1 hs with h | ⟨y, hy, h6, h7⟩
    ·rw [h0] at h; cases h
    ·refine ⟨y, hy, ?_, h7⟩
     refine findF_eq _ (Nat.lt_succ_self d) h6 fun m hm => ?_
     cases h8 : iterS n es x m y with
     | false => rfl
     | true =>
      have := iterS_step.2 (.inr ⟨y, hy, h8, h7⟩)
      have h9 := h2 (m + 1) (Nat.zero_le _) (by omega)
      rw [this] at h9
      cases h9
   rw [if_pos hs, if_pos ⟨by omega, hex⟩]
   rfl
  ·rw [if_neg hs, if_neg]
   rintro ⟨_, y, hy, h6, h7⟩
   rcases findF_cases (fun k => iterS n es x k y) (d + 1) 0 with ⟨h8, _⟩ | ⟨j, h8, _, _, h9, _⟩
   ·omega
   ·have hj : j = d := by omega
    subst hj
    exact hs (iterS_step.2 (.inr ⟨y, hy, h9, h7⟩))
 ·rw [h1, if_neg (show ¬ (j : Int) < 0 by omega), if_neg (fun h => by have := h.1; omega)]
theorem ld_l2 (N : Nat) (g : Gr) (n : Nat) (hg : g.1 = (n : Int)) (hn : n <= 8) (T : Tab) (x : Int) : ∀ (k i f : Nat), i + k = n -> k < f ->
  q80q_l2 N f (g, T, x, List.replicate i (-1), (i : Int), ()) = some (.inl (g, T, x, List.replicate n (-1), ())) := by
 intro k
 induction k with
 | zero =>
  intro i f h1 h2
  obtain ⟨f, rfl⟩ : ∃ m, f = m + 1 := ⟨f - 1, by omega⟩
  have e : i = n := by omega
  subst e
  show q80q_l2_r _ _ _ = _
  unfold q80q_l2_r
  simp only [hg, lt_not, Bool.false_eq_true, if_false]
 | succ k ih =>
  intro i f h1 h2
  obtain ⟨f, rfl⟩ : ∃ m, f = m + 1 := ⟨f - 1, by omega⟩
  have hi : i < n := by omega
  have hl : decide ((List.replicate i (-1 : Int)).length + List.length [(-1 : Int)] <= lim) = true := decide_eq_true (by unfold lim; simp; omega)
  have hr : List.replicate i (-1 : Int) ++ [(-1 : Int)] = List.replicate (i + 1) (-1) := by rw [List.replicate_succ']
  show q80q_l2_r _ _ _ = _
  unfold q80q_l2_r
  simp only [hg, lt_dec hi, hl, if_true, hr, wrap8 hi hn]
  exact ih (i + 1) f (by omega) (by omega)
theorem near_G {g : Gr} (ho : okL g.2.1 = true) (a b : Int) (u : Unit) : G_l2Near (g, a, b, u) = some (nearI g.2.1 a b, ()) := by
 unfold G_l2Near
 simp only [ho, if_true]
theorem ld_l8 (N : Nat) (g : Gr) (n : Nat) (hg : g.1 = (n : Int)) (hn : n <= 8) (ho : okL g.2.1 = true) (T : Tab) (x : Int) (d y : Nat) (hd : d < n) (hy : y < n) (R : Nat -> Int) : ∀ (k i f : Nat), i + k = n -> k < f ->
  q80q_l8 N f (g, T, x, (List.range n).map (fun z => if z < i /\ R y = (d : Int) /\ R z < 0 /\ nearI g.2.1 (y : Int) (z : Int) = true then (d : Int) + 1 else R z), (d : Int), (y : Int), (i : Int), ()) =
   some (.inl (g, T, x, (List.range n).map (fun z => if R y = (d : Int) /\ R z < 0 /\ nearI g.2.1 (y : Int) (z : Int) = true then (d : Int) + 1 else R z), (d : Int), (y : Int), ())) := by
 intro k
 induction k with
 | zero =>
  intro i f h1 h2
  obtain ⟨f, rfl⟩ : ∃ m, f = m + 1 := ⟨f - 1, by omega⟩
  have e : i = n := by omega
  subst e
  have hm : ((List.range i).map fun z => if z < i /\ R y = (d : Int) /\ R z < 0 /\ nearI g.2.1 (y : Int) (z : Int) = true then (d : Int) + 1 else R z) = (List.range i).map fun z => if R y = (d : Int) /\ R z < 0 /\ nearI g.2.1 (y : Int) (z : Int) = true then (d : Int) + 1 else R z :=
   List.map_congr_left fun z hz => by
    have := List.mem_range.1 hz
    simp only [this, true_and]
  rw [hm]
  show q80q_l8_r _ _ _ = _
  unfold q80q_l8_r
  simp only [hg, lt_not, Bool.false_eq_true, if_false]
 | succ k ih =>
  intro i f h1 h2
  obtain ⟨f, rfl⟩ : ∃ m, f = m + 1 := ⟨f - 1, by omega⟩
  have hi : i < n := by omega
  have hih := ih (i + 1) f (by omega) (by omega)
  have hyl : ∀ F : Nat -> Int, y < ((List.range n).map F).length := fun F => by simpa using hy
  have hil : ∀ F : Nat -> Int, i < ((List.range n).map F).length := fun F => by simpa using hi
  have ey : ∀ F : Nat -> Int, at_ I ((List.range n).map F) y = F y := fun F => by rw [at_get (e := I) (hyl F)]; simp
  have ei : ∀ F : Nat -> Int, at_ I ((List.range n).map F) i = F i := fun F => by rw [at_get (e := I) (hil F)]; simp
  have hw : IntKind.wrap .i64 ((d : Int) + 1) = (d : Int) + 1 := wrap_in _ (by omega) (by omega)
  -- the row of the next round
  have same : ∀ F : Nat -> Int, (∀ z, z < n -> F z = if z < i + 1 /\ R y = (d : Int) /\ R z < 0 /\ nearI g.2.1 (y : Int) (z : Int) = true then (d : Int) + 1 else R z) -> (List.range n).map F = (List.range n).map fun z => if z < i + 1 /\ R y = (d : Int) /\ R z < 0 /\ nearI g.2.1 (y : Int) (z : Int) = true then (d : Int) + 1 else R z := fun F hF => List.map_congr_left fun z hz => hF z (List.mem_range.1 hz)
  have keep : (¬ (R y = (d : Int) /\ R i < 0 /\ nearI g.2.1 (y : Int) (i : Int) = true)) -> ((List.range n).map fun z => if z < i /\ R y = (d : Int) /\ R z < 0 /\ nearI g.2.1 (y : Int) (z : Int) = true then (d : Int) + 1 else R z) = (List.range n).map fun z => if z < i + 1 /\ R y = (d : Int) /\ R z < 0 /\ nearI g.2.1 (y : Int) (z : Int) = true then (d : Int) + 1 else R z := fun hno => same _ fun z hz => by
   by_cases e : z = i
   ·subst e
    rw [if_neg (fun h => by omega), if_neg (fun h => hno h.2)]
   ·have : (z < i + 1) = (z < i) := propext ⟨fun h => by omega, fun h => by omega⟩
    simp only [this]
  have hy1 : (if y < i /\ R y = (d : Int) /\ R y < 0 /\ nearI g.2.1 (y : Int) (y : Int) = true then (d : Int) + 1 else R y) = R y := if_neg fun h => by omega
  have hi1 : (if i < i /\ R y = (d : Int) /\ R i < 0 /\ nearI g.2.1 (y : Int) (i : Int) = true then (d : Int) + 1 else R i) = R i := if_neg fun h => by omega
  show q80q_l8_r _ _ _ = _
  unfold q80q_l8_r
  simp only [hg, lt_dec hi, if_true, idxIn_nat (hyl _), Int.toNat_natCast, ey, hy1, idxIn_nat (hil _), ei, hi1, near_G ho, Option.bind_some, hw, wrap8 hi hn]
  by_cases c1 : R y = (d : Int)
  ·have b1 : (R y == (d : Int)) = true := by simpa using c1
   by_cases c2 : R i < 0
   ·by_cases c3 : nearI g.2.1 (y : Int) (i : Int) = true
    ·rw [if_pos b1, if_pos (decide_eq_true c2), if_pos c3]
     refine Eq.trans ?_ hih
     congr 4
     rw [rowF_set _ hi]
     refine congrArg (fun L => (L, (d : Int), (y : Int), ((i + 1 : Nat) : Int), ())) (same _ fun z hz => ?_)
     by_cases e : z = i
     ·subst e
      rw [if_pos rfl, if_pos ⟨by omega, c1, c2, c3⟩]
     ·rw [if_neg e]
      have : (z < i + 1) = (z < i) := propext ⟨fun h => by omega, fun h => by omega⟩
      simp only [this]
    ·rw [if_pos b1, if_pos (decide_eq_true c2), if_neg c3, keep fun h => c3 h.2.2]
     exact hih
   ·rw [if_pos b1, if_neg (by simpa using c2), keep fun h => c2 h.2.1]
    exact hih
  ·have b1 : ¬ (R y == (d : Int)) = true := by simpa using c1
   rw [if_neg b1, keep fun h => c1 h.1]
   exact hih
theorem ld_l6 (N : Nat) (hN : 20 <= N) (g : Gr) (n : Nat) (hg : g.1 = (n : Int)) (hn : n <= 8) (ho : okL g.2.1 = true) (T : Tab) (x : Int) (d : Nat) (hd : d < n) (R : Nat -> Int) : ∀ (k i f : Nat), i + k = n -> k < f ->
  q80q_l6 N f (g, T, x, (List.range n).map (fun z => if R z < 0 /\ ∃ y, y < i /\ R y = (d : Int) /\ nearI g.2.1 (y : Int) (z : Int) = true then (d : Int) + 1 else R z), (d : Int), (i : Int), ()) =
   some (.inl (g, T, x, (List.range n).map (fun z => if R z < 0 /\ ∃ y, y < n /\ R y = (d : Int) /\ nearI g.2.1 (y : Int) (z : Int) = true then (d : Int) + 1 else R z), (d : Int), ())) := by
 intro k
 induction k with
 | zero =>
  intro i f h1 h2
  obtain ⟨f, rfl⟩ : ∃ m, f = m + 1 := ⟨f - 1, by omega⟩
  have e : i = n := by omega
  subst e
  show q80q_l6_r _ _ _ = _
  unfold q80q_l6_r
  simp only [hg, lt_not, Bool.false_eq_true, if_false]
 | succ k ih =>
  intro i f h1 h2
  obtain ⟨f, rfl⟩ : ∃ m, f = m + 1 := ⟨f - 1, by omega⟩
  have hi : i < n := by omega
  have h8 := ld_l8 N g n hg hn ho T x d i hd hi (fun z => if R z < 0 /\ ∃ y, y < i /\ R y = (d : Int) /\ nearI g.2.1 (y : Int) (z : Int) = true then (d : Int) + 1 else R z) n 0 N (by omega) (by omega)
  have hz : ((List.range n).map fun z => if z < 0 /\ (if R i < 0 /\ ∃ y, y < i /\ R y = (d : Int) /\ nearI g.2.1 (y : Int) (i : Int) = true then (d : Int) + 1 else R i) = (d : Int) /\ (if R z < 0 /\ ∃ y, y < i /\ R y = (d : Int) /\ nearI g.2.1 (y : Int) (z : Int) = true then (d : Int) + 1 else R z) < 0 /\ nearI g.2.1 (i : Int) (z : Int) = true then (d : Int) + 1 else (if R z < 0 /\ ∃ y, y < i /\ R y = (d : Int) /\ nearI g.2.1 (y : Int) (z : Int) = true then (d : Int) + 1 else R z)) =
    (List.range n).map fun z => if R z < 0 /\ ∃ y, y < i /\ R y = (d : Int) /\ nearI g.2.1 (y : Int) (z : Int) = true then (d : Int) + 1 else R z := List.map_congr_left fun z _ => if_neg fun h => by omega
  rw [hz] at h8
  simp only [Int.natCast_zero] at h8
  have hih := ih (i + 1) f (by omega) (by omega)
  show q80q_l6_r _ _ _ = _
  unfold q80q_l6_r
  simp only [hg, lt_dec hi, if_true, h8, Option.bind_some, wrap8 hi hn]
  refine Eq.trans ?_ hih
  congr 4
  refine congrArg (fun L => (L, (d : Int), ((i + 1 : Nat) : Int), ())) (List.map_congr_left fun z hz => ?_)
  by_cases c2 : R z < 0
  ·by_cases c1 : ∃ y, y < i /\ R y = (d : Int) /\ nearI g.2.1 (y : Int) (z : Int) = true
   ·obtain ⟨y, y1, y2, y3⟩ := c1
    rw [if_pos (⟨c2, y, y1, y2, y3⟩ : R z < 0 /\ ∃ y, y < i /\ R y = (d : Int) /\ nearI g.2.1 (y : Int) (z : Int) = true), if_neg (fun h => by have := h.2.1; omega), if_pos ⟨c2, y, by omega, y2, y3⟩]
   ·rw [if_neg (show ¬ (R z < 0 /\ ∃ y, y < i /\ R y = (d : Int) /\ nearI g.2.1 (y : Int) (z : Int) = true) from fun h => c1 h.2)]
    by_cases c3 : R i = (d : Int) /\ nearI g.2.1 (i : Int) (z : Int) = true
    ·have hRi : (if R i < 0 /\ ∃ y, y < i /\ R y = (d : Int) /\ nearI g.2.1 (y : Int) (i : Int) = true then (d : Int) + 1 else R i) = (d : Int) := by
      rw [if_neg (fun h => by have := h.1; have := c3.1; omega)]
      exact c3.1
     rw [if_pos ⟨hRi, c2, c3.2⟩, if_pos ⟨c2, i, by omega, c3.1, c3.2⟩]
    ·rw [if_neg, if_neg]
     ·rintro ⟨_, y, y1, y2, y3⟩
      by_cases e : y = i
      ·subst e; exact c3 ⟨y2, y3⟩
      ·exact c1 ⟨y, by omega, y2, y3⟩
     ·rintro ⟨h3, h4, h5⟩
      refine c3 ⟨?_, h5⟩
      split at h3
      ·omega
      ·exact h3
  ·have e1 : (if R z < 0 /\ ∃ y, y < i /\ R y = (d : Int) /\ nearI g.2.1 (y : Int) (z : Int) = true then (d : Int) + 1 else R z) = R z := if_neg fun h => c2 h.1
   rw [e1, if_neg (fun h => c2 h.2.1), if_neg (fun h => c2 h.1)]
theorem ld_l4 (N : Nat) (hN : 20 <= N) (g : Gr) (n : Nat) (hg : g.1 = (n : Int)) (hn : n <= 8) (ho : okL g.2.1 = true) (T : Tab) (x : Nat) : ∀ (k i f : Nat), i + k = n -> k < f ->
  q80q_l4 N f (g, T, (x : Int), (List.range n).map (dS n g.2.1 x i), (i : Int), ()) = some (.inl (g, T, (x : Int), (List.range n).map (dS n g.2.1 x n), ())) := by
 intro k
 induction k with
 | zero =>
  intro i f h1 h2
  obtain ⟨f, rfl⟩ : ∃ m, f = m + 1 := ⟨f - 1, by omega⟩
  have e : i = n := by omega
  subst e
  show q80q_l4_r _ _ _ = _
  unfold q80q_l4_r
  simp only [hg, lt_not, Bool.false_eq_true, if_false]
 | succ k ih =>
  intro i f h1 h2
  obtain ⟨f, rfl⟩ : ∃ m, f = m + 1 := ⟨f - 1, by omega⟩
  have hi : i < n := by omega
  have h6 := ld_l6 N hN g n hg hn ho T (x : Int) i hi (dS n g.2.1 x i) n 0 N (by omega) (by omega)
  have hz : ((List.range n).map fun z => if dS n g.2.1 x i z < 0 /\ ∃ y, y < 0 /\ dS n g.2.1 x i y = (i : Int) /\ nearI g.2.1 (y : Int) (z : Int) = true then (i : Int) + 1 else dS n g.2.1 x i z) = (List.range n).map (dS n g.2.1 x i) := List.map_congr_left fun z _ => if_neg fun h => by obtain ⟨_, y, hy, _⟩ := h; omega
  have hz2 : ((List.range n).map fun z => if dS n g.2.1 x i z < 0 /\ ∃ y, y < n /\ dS n g.2.1 x i y = (i : Int) /\ nearI g.2.1 (y : Int) (z : Int) = true then (i : Int) + 1 else dS n g.2.1 x i z) = (List.range n).map (dS n g.2.1 x (i + 1)) := List.map_congr_left fun z _ => dS_next.symm
  rw [hz, hz2] at h6
  simp only [Int.natCast_zero] at h6
  show q80q_l4_r _ _ _ = _
  unfold q80q_l4_r
  simp only [hg, lt_dec hi, if_true, h6, Option.bind_some, wrap8 hi hn]
  exact ih (i + 1) f (by omega) (by omega)
theorem ld_l0 (N : Nat) (hN : 20 <= N) (g : Gr) (n : Nat) (hg : g.1 = (n : Int)) (hn : n <= 8) (ho : okL g.2.1 = true) : ∀ (k x f : Nat), x + k = n -> k < f ->
  q80q_l0 N f (g, (List.range x).map (fun x => (List.range n).map (distI n g.2.1 x)), (x : Int), ()) = some (.inl (tabL n (distI n g.2.1), ())) := by
 intro k
 induction k with
 | zero =>
  intro x f h1 h2
  obtain ⟨f, rfl⟩ : ∃ m, f = m + 1 := ⟨f - 1, by omega⟩
  have e : x = n := by omega
  subst e
  show q80q_l0_r _ _ _ = _
  unfold q80q_l0_r
  simp only [hg, lt_not, Bool.false_eq_true, if_false]
  rfl
 | succ k ih =>
  intro x f h1 h2
  obtain ⟨f, rfl⟩ : ∃ m, f = m + 1 := ⟨f - 1, by omega⟩
  have hx : x < n := by omega
  have h3 := ld_l2 N g n hg hn ((List.range x).map (fun x => (List.range n).map (distI n g.2.1 x))) (x : Int) n 0 N (by omega) (by omega)
  simp only [List.replicate_zero, Int.natCast_zero] at h3
  have hxl : x < (List.replicate n (-1 : Int)).length := by simpa using hx
  have hrow : List.set (List.replicate n (-1 : Int)) x 0 = (List.range n).map (dS n g.2.1 x 0) := by
   have e1 : List.replicate n (-1 : Int) = (List.range n).map fun _ => (-1 : Int) := by apply List.ext_getElem <;> simp
   rw [e1, rowF_set _ hx]
   refine List.map_congr_left fun y _ => ?_
   unfold dS
   simp only [findF, iterS]
   by_cases e : y = x
   ·simp [e]
   ·simp [e]
  have h4 := ld_l4 N hN g n hg hn ho ((List.range x).map (fun x => (List.range n).map (distI n g.2.1 x))) x n 0 N (by omega) (by omega)
  simp only [Int.natCast_zero] at h4
  have hl : decide (((List.range x).map (fun x => (List.range n).map (distI n g.2.1 x))).length + List.length [(List.range n).map (dS n g.2.1 x n)] <= lim) = true := decide_eq_true (by unfold lim; simp; omega)
  have hap : (List.range x).map (fun x => (List.range n).map (distI n g.2.1 x)) ++ [(List.range n).map (dS n g.2.1 x n)] = (List.range (x + 1)).map (fun x => (List.range n).map (distI n g.2.1 x)) := by
   rw [List.range_succ, List.map_append]
   rfl
  show q80q_l0_r _ _ _ = _
  unfold q80q_l0_r
  simp only [hg, lt_dec hx, if_true, h3, Option.bind_some, idxIn_nat hxl, Int.toNat_natCast, hrow, h4, hl, hap, wrap8 hx hn]
  exact ih (x + 1) f (by omega) (by omega)
theorem l2Dist_lim (d) (r) (h : G_l2Dist d = some r) : ∃ N, F_q80q N d = some r := by
 obtain ⟨⟨n, es, v⟩, u⟩ := d
 unfold G_l2Dist at h
 split at h
 ·rename_i hg
  cases h
  have hg : grB (n, es, v) = true := hg
  unfold grB at hg
  simp only [Bool.and_eq_true, decide_eq_true_eq] at hg
  obtain ⟨⟨⟨ho, h0⟩, h8⟩, _⟩ := hg
  obtain ⟨m, rfl⟩ := nat_of h0
  refine ⟨20, ?_⟩
  unfold F_q80q
  have key := ld_l0 20 (by omega) ((m : Int), es, v) m rfl (by omega) ho m 0 20 (by omega) (by omega)
  simp only [List.range_zero, List.map_nil, Int.natCast_zero] at key
  simp only [key, Option.bind_some, Int.toNat_natCast]
 ·cases h
theorem ballK_isM {n : Nat} (hn : n <= 8) {es : List E} (h : es.all (edgeB (n : Int)) = true) {x : Nat} (hx : x < n) : ∀ k, isM n (ballK (netN n es) x k) (iterS n es x k) := by
 intro k
 induction k with
 | zero =>
  have := one_isM hn hx
  exact isM_congr (fun y _ => by show decide ((y : Int) = (x : Int)) = decide (y = x); exact decide_eq_decide.2 ⟨fun h => by omega, fun h => by omega⟩) this
 | succ k ih =>
  have hl : (netN n es).length = n := (netN_ok hn h).1
  have := around_isM hn h ih
  show isM n (arN (netN n es) (ballK (netN n es) x k) (netN n es).length 0 (ballK (netN n es) x k)) _
  rw [hl]
  exact this
theorem fromI_toI (ms : List Nat) : fromI (toI ms) = ms := by
 unfold fromI toI
 rw [List.map_map]
 have : (Int.toNat ∘ fun m : Nat => (m : Int)) = id := by funext m; simp
 rw [this, List.map_id]
theorem distM_eq {n : Nat} (hn : n <= 8) {es : List E} (h : es.all (edgeB (n : Int)) = true) : tabL n (distM (netN n es)) = tabL n (distI n es) := tabL_congr fun x y hx hy => by
 unfold distM distI
 rw [(netN_ok hn h).1]
 have : ∀ k, (ballK (netN n es) x k).testBit y = iterS n es x k y := fun k => by
  have := (ballK_isM hn h hx k).2 y
  rw [this, decide_eq_true hy, Bool.true_and]
 simp only [this]
def distB (g : Gr) : Tab × Bool × Unit := if graphB g = true then (tabL g.1.toNat (distI g.1.toNat g.2.1), true, ()) else ([], false, ())
theorem implDist {n : Int} {es : List E} {v : Unit} (ho : okL es = true) (u : Unit) : F_q32q 0 ((n, es, v), u) = some (distB (n, es, v)) := by
 unfold F_q32q G_graph distB
 simp only [ho, if_true, Option.bind_some]
 cases hg : graphB (n, es, v) with
 | false => simp only [Bool.not_false, if_true, Bool.false_eq_true, if_false]
 | true =>
  obtain ⟨n0, n8⟩ := graphB_n hg
  obtain ⟨m, rfl⟩ := nat_of n0
  have m8 : m <= 8 := by omega
  obtain ⟨g1, _⟩ := graphB_edges hg
  obtain ⟨b1, b2⟩ := netB_net m8 g1
  simp only [Bool.not_true, Bool.false_eq_true, if_false, net_some hg ho, Option.bind_some, G_dists, b1, if_true, b2, fromI_toI, distM_eq m8 g1, Int.toNat_natCast]
theorem specDist {n : Int} {es : List E} {v : Unit} (ho : okL es = true) (u : Unit) : F_q29q 0 ((n, es, v), u) = some (distB (n, es, v)) := by
 unfold F_q29q G_graph distB
 simp only [ho, if_true, Option.bind_some]
 cases hg : graphB (n, es, v) with
 | false => simp only [Bool.not_false, if_true, Bool.false_eq_true, if_false]
 | true => simp only [Bool.not_true, Bool.false_eq_true, if_false, G_l2Dist, graph_grB hg ho, if_true, Option.bind_some]
end Go.V.W
set_option linter.unusedVariables false
set_option linter.unusedSimpArgs false
namespace Go.V.W
open Go.Proofs
theorem trip_walk {t : Tt} {y : Nat} (hy : y < t.1.1.toNat) : ∀ (k : Nat) (c : Int) (z : Nat), z < t.1.1.toNat -> isA t c z y k ->
  (∀ j, j <= k -> ∃ w : Nat, w < t.1.1.toNat /\ at_ I ((z : Int) :: tripL t (y : Int) k c z) j = (w : Int)) /\
  (∀ j, j < k -> ∀ u w : Nat, at_ I ((z : Int) :: tripL t (y : Int) k c z) j = (u : Int) -> at_ I ((z : Int) :: tripL t (y : Int) k c z) (j + 1) = (w : Int) -> stepB t (c + (j : Int)) u w = true) /\
  at_ I ((z : Int) :: tripL t (y : Int) k c z) k = (y : Int) := by
 intro k
 induction k with
 | zero =>
  intro c z hz h
  refine ⟨fun j hj => ⟨z, hz, ?_⟩, fun j hj => by omega, ?_⟩
  ·have : j = 0 := by omega
   subst this
   rfl
  ·have h1 : decide ((y : Int) = (z : Int)) = true := h.1
   have h1 := of_decide_eq_true h1
   show (z : Int) = (y : Int)
   exact h1.symm
 | succ k ih =>
  intro c z hz h
  obtain ⟨n1, n2⟩ := nextW_spec hz hy h
  have hs := (firstF_spec (isA_some hz hy h)).2.2
  have e : firstF (fun w => stepB t c z w && iterP t (c + 1) (w : Int) k y) t.1.1.toNat 0 = nextW t c z y k := rfl
  rw [e, Bool.and_eq_true] at hs
  obtain ⟨i1, i2, i3⟩ := ih (c + 1) (nextW t c z y k) n1 n2
  rw [tripL_succ]
  generalize nextW t c z y k = v at n1 hs i1 i2 i3
  refine ⟨fun j hj => ?_, fun j hj u w hu hw => ?_, i3⟩
  ·match j with
   | 0 => exact ⟨z, hz, rfl⟩
   | j + 1 => exact i1 j (by omega)
  ·match j with
   | 0 =>
    have e1 : (z : Int) = (u : Int) := hu
    have e2 : (v : Int) = (w : Int) := hw
    have e1 : z = u := by omega
    have e2 : v = w := by omega
    subst e1 e2
    simpa using hs.1
   | j + 1 =>
    have := i2 j (by omega) u w hu hw
    have e3 : c + 1 + (j : Int) = c + ((j + 1 : Nat) : Int) := by omega
    rw [e3] at this
    exact this
theorem rGraph_same {n : Int} {l : List E} (v w u : Unit) (h : okL l = true) : G_rGraph ((n, l, v), (n, l, w), u) = some (true, ()) := by
 unfold G_rGraph
 simp only [h, decide_true, Bool.and_self, if_true]
theorem rInts_same {l : List Int} (u : Unit) (h : okL l = true) : G_rInts (l, l, u) = some (true, ()) := by
 unfold G_rInts
 simp only [h, decide_true, if_true]
theorem rTable_same {l : Tab} (u : Unit) (h : okLL l = true) : G_rTable (l, l, u) = some (true, ()) := by
 unfold G_rTable
 simp only [h, decide_true, if_true]
theorem tt_l0 (N : Nat) {t : Tt} (ht : timeB t = true) (ho : okT t = true) (code : List Int) (x0 y0 : Int) {c : Int} (h0 : 0 <= c) (h1 : c <= 1000) (L : List Int) (a : Nat) (ha : a <= 33) (hL : L.length = a + 1)
  (hn : ∀ j, j <= a -> ∃ w : Nat, w < t.1.1.toNat /\ at_ I L j = (w : Int)) (hs : ∀ j, j < a -> ∀ u w : Nat, at_ I L j = (u : Int) -> at_ I L (j + 1) = (w : Int) -> stepB t (c + (j : Int)) u w = true) : ∀ k i f : Nat, i + k = a -> k < f ->
  laws_FnTimetables_l0 N f (code, t, x0, y0, c, L, (a : Int), (i : Int), ()) = some (.inr (.inl (code, t, x0, y0, c, (a : Int), ()))) := by
 obtain ⟨n1, n2, n3, p1, p2, p3, _⟩ := time_n ht
 intro k
 induction k with
 | zero =>
  intro i f k1 k2
  obtain ⟨f, rfl⟩ : ∃ m, f = m + 1 := ⟨f - 1, by omega⟩
  have e : i = a := by omega
  subst e
  show laws_FnTimetables_l0_r _ _ _ = _
  unfold laws_FnTimetables_l0_r
  simp only [lt_not, Bool.false_eq_true, if_false]
 | succ k ih =>
  intro i f k1 k2
  obtain ⟨f, rfl⟩ : ∃ m, f = m + 1 := ⟨f - 1, by omega⟩
  have hi : i < a := by omega
  have hih := ih (i + 1) f (by omega) (by omega)
  have w1 : IntKind.wrap .i64 (c + (i : Int)) = c + (i : Int) := wrap_in _ (by omega) (by omega)
  show laws_FnTimetables_l0_r _ _ _ = _
  unfold laws_FnTimetables_l0_r
  simp only [lt_dec hi, if_true, w1]
  by_cases hc : c + (i : Int) <= 1000
  ·have hcb : inB 0 1000 (c + (i : Int)) = true := inB_iff.2 (by omega)
   obtain ⟨c0, c1, c2⟩ := clock_ok ht hcb
   have eog : ogB t (c + (i : Int)) = ((((t.1.1.toNat : Nat) : Int), openE t ((clockN t (c + (i : Int)) : Nat) : Int), ()), true, ()) := by
    unfold ogB
    simp only [ht, hcb, Bool.and_self, if_true]
    rw [c1, <- n1]
   have hk := openE_okL ho ((clockN t (c + (i : Int)) : Nat) : Int)
   obtain ⟨u, hu, eu⟩ := hn i (by omega)
   obtain ⟨w, hw, ew⟩ := hn (i + 1) (by omega)
   have hst := hs i hi u w eu ew
   have enb := implNB (open_graphB ht ((clockN t (c + (i : Int)) : Nat) : Int)) hk hu ()
   have hiL : i < L.length := by omega
   have hiL2 : i + 1 < L.length := by omega
   simp only [decide_eq_true hc, if_true, implOG t _ () ho, specOG t _ () ho, eog, Option.bind_some, Bool.not_true, Bool.false_eq_true, if_false, rGraph_same () () () hk, idxIn_nat hiL, Int.toNat_natCast, eu, enb, small_wrap (show i <= 100000 by omega), idxIn_nat hiL2, ew]
   by_cases huw : (w : Int) = (u : Int)
   ·have e1 : ¬ ((w : Int) != (u : Int)) = true := by simpa using huw
    rw [if_neg e1]
    exact hih
   ·have e1 : ((w : Int) != (u : Int)) = true := by simpa using huw
    have hnear : nearI (openE t ((clockN t (c + (i : Int)) : Nat) : Int)) (u : Int) (w : Int) = true := by
     unfold stepB at hst
     rw [c1, Bool.or_eq_true, decide_eq_true_eq] at hst
     rcases hst with h | h
     ·exact h
     ·exact absurd (by rw [h]) huw
    have hhas : G_rHas (setF (fun y => nearI (openE t ((clockN t (c + (i : Int)) : Nat) : Int)) (u : Int) (y : Int)) t.1.1.toNat 0, (w : Int), ()) = some (true, ()) := by
     have hl : okL (setF (fun y => nearI (openE t ((clockN t (c + (i : Int)) : Nat) : Int)) (u : Int) (y : Int)) t.1.1.toNat 0) = true := okL_of (Nat.le_trans setF_len (by omega))
     unfold G_rHas hasL
     simp only [hl, if_true]
     rw [any_setF hw, hnear]
    simp only [e1, if_true, hhas, Option.bind_some, Bool.not_true, Bool.false_eq_true, if_false]
    exact hih
  ·simp only [decide_eq_false hc, Bool.false_eq_true, if_false]
theorem iter_static {n : Nat} (es : List E) (v w : Unit) (x : Nat) : ∀ k y, iterP (((n : Int), es, v), 1, List.replicate es.length [0], w) 7 (x : Int) k y = iterS n es x k y := by
 intro k
 induction k with
 | zero =>
  intro y
  show decide ((y : Int) = (x : Int)) = decide (y = x)
  exact decide_eq_decide.2 ⟨fun h => by omega, fun h => by omega⟩
 | succ k ih =>
  intro y
  have h0 : ((7 : Int) + (k : Int)).tmod 1 = 0 := Int.tmod_one _
  have he : openE (((n : Int), es, v), 1, List.replicate es.length [0], w) 0 = es := selE_static es
  have hf : iterP (((n : Int), es, v), 1, List.replicate es.length [0], w) 7 (x : Int) k = iterS n es x k := funext ih
  show stepP (openE (((n : Int), es, v), 1, List.replicate es.length [0], w) (((7 : Int) + (k : Int)).tmod 1)) ((n : Int)).toNat (iterP (((n : Int), es, v), 1, List.replicate es.length [0], w) 7 (x : Int) k) y = _
  rw [h0, he, hf, Int.toNat_natCast]
  rfl
theorem arr_static {n : Nat} (hn : n <= 8) (es : List E) (v w : Unit) {x y : Nat} (hx : x < n) (hy : y < n) : arrI (((n : Int), es, v), 1, List.replicate es.length [0], w) 7 (x : Int) (y : Int) = distI n es x y := by
 have := arr_cap (t := (((n : Int), es, v), 1, List.replicate es.length [0], w)) (c := 7) (x := (x : Int)) (by omega) (n := n) (p := 1) (by simp) rfl (by omega) hn (by omega) (by omega) (by simpa using hx) hy
 unfold arrI distI
 simp only [Int.toNat_natCast]
 rw [<- this, Nat.mul_one]
 simp only [iter_static]
theorem tt_l4 (N : Nat) {n : Nat} {es : List E} {v : Unit} (hg : graphB ((n : Int), es, v) = true) (hn : 0 < n) (ho : okL es = true) {t : Tt} (et : t = (((n : Int), es, ()), 1, List.replicate es.length [0], ())) (os : okT t = true) {x : Nat} (hx : x < n) : ∀ k i f : Nat, i + k = n -> k < f ->
  laws_FnTimetables_l4 N f (((n : Int), es, v), t, tabL n (distI n es), (x : Int), (i : Int), ()) = some (.inr (.inl (((n : Int), es, v), t, tabL n (distI n es), (x : Int), ()))) := by
 obtain ⟨n0, n8⟩ := graphB_n hg
 have hn8 : n <= 8 := by omega
 have ht : timeB t = true := by rw [et]; exact static_timeB hg hn () ()
 have hsq : sqL n (tabL n (distI n es)) = true := tabL_sq _ _
 obtain ⟨t1, t2⟩ := sqL_parts hsq
 have hxT : x < (tabL n (distI n es)).length := by omega
 intro k
 induction k with
 | zero =>
  intro i f k1 k2
  obtain ⟨f, rfl⟩ : ∃ m, f = m + 1 := ⟨f - 1, by omega⟩
  have e : i = n := by omega
  subst e
  show laws_FnTimetables_l4_r _ _ _ = _
  unfold laws_FnTimetables_l4_r
  simp only [lt_not, Bool.false_eq_true, if_false]
 | succ k ih =>
  intro i f k1 k2
  obtain ⟨f, rfl⟩ : ∃ m, f = m + 1 := ⟨f - 1, by omega⟩
  have hi : i < n := by omega
  have hih := ih (i + 1) f (by omega) (by omega)
  have hcell : at_ I (at_ K_Si (tabL n (distI n es)) x) i = distI n es x i := by rw [tab2_at hsq hx hi, tab2_tabL _ hx hi]
  have hiT : i < (at_ K_Si (tabL n (distI n es)) x).length := by rw [t2 x hx]; exact hi
  have hend : endsB t (x : Int) (i : Int) = true := ends_of ht (by rw [et]; simpa using hx) (by rw [et]; simpa using hi)
  have hc7 : inB 0 1000 (7 : Int) = true := rfl
  have ha : arrI t 7 (x : Int) (i : Int) = distI n es x i := by rw [et]; exact arr_static hn8 es () () hx hi
  have hea : F_q14q 0 (t, (x : Int), (i : Int), 7, ()) = some (if distI n es x i < 0 then (0, false, ()) else (distI n es x i, true, ())) := by
   rw [implEA t _ _ _ () os]
   unfold earB eaB
   simp only [hend, hc7, Bool.and_self, if_true, ha]
  show laws_FnTimetables_l4_r _ _ _ = _
  unfold laws_FnTimetables_l4_r
  simp only [lt_dec hi, if_true, hea, Option.bind_some, idxIn_nat hxT, Int.toNat_natCast, idxIn_nat hiT, hcell, wrap8 hi hn8]
  by_cases hd : distI n es x i < 0
  ·have d1 : decide (distI n es x i >= 0) = false := decide_eq_false (by omega)
   simp only [if_pos hd, d1, beq_self_eq_true, Bool.not_true, Bool.false_eq_true, if_false]
   exact hih
  ·have d1 : decide (distI n es x i >= 0) = true := decide_eq_true (by omega)
   simp only [if_neg hd, d1, beq_self_eq_true, bne_self_eq_false, Bool.not_true, Bool.false_eq_true, if_false, if_true]
   exact hih
theorem tt_l2 (N : Nat) (hN : 20 <= N) {n : Nat} {es : List E} {v : Unit} (hg : graphB ((n : Int), es, v) = true) (hn : 0 < n) (ho : okL es = true) {t : Tt} (et : t = (((n : Int), es, ()), 1, List.replicate es.length [0], ())) (os : okT t = true) : ∀ k i f : Nat, i + k = n -> k < f ->
  laws_FnTimetables_l2 N f (((n : Int), es, v), t, tabL n (distI n es), (i : Int), ()) = some (.inr (.inl ())) := by
 obtain ⟨n0, n8⟩ := graphB_n hg
 intro k
 induction k with
 | zero =>
  intro i f k1 k2
  obtain ⟨f, rfl⟩ : ∃ m, f = m + 1 := ⟨f - 1, by omega⟩
  have e : i = n := by omega
  subst e
  show laws_FnTimetables_l2_r _ _ _ = _
  unfold laws_FnTimetables_l2_r
  simp only [lt_not, Bool.false_eq_true, if_false]
 | succ k ih =>
  intro i f k1 k2
  obtain ⟨f, rfl⟩ : ∃ m, f = m + 1 := ⟨f - 1, by omega⟩
  have hi : i < n := by omega
  have h4 := tt_l4 N hg hn ho et os hi n 0 N (by omega) (by omega)
  simp only [Int.natCast_zero] at h4
  show laws_FnTimetables_l2_r _ _ _ = _
  unfold laws_FnTimetables_l2_r
  simp only [lt_dec hi, if_true, h4, Option.bind_some, small_wrap (show i <= 100000 by omega)]
  exact ih (i + 1) f (by omega) (by omega)
theorem drawTrip_ok {code : List Int} {u : Unit} (hb : ∀ x ∈ code, 0 <= x /\ x <= 255) : Ok (F_q9q 0 (code, u)) fun r => okT r.1 = true := by
 have hc : CurB (code, (0 : Int), (0 : Int), ()) := ⟨hb, Int.le_refl _⟩
 unfold F_q9q F_q5q F_q31q
 simp only
 refine Ok.bind (Q := fun r => okT r.1 = true) (Ok.bind (timetable_ok hc (by unfold far_; simp)) fun r hr => ?_) fun r hr => Ok.some hr
 obtain ⟨a, r1, r2, r3⟩ := hr
 have b : r.2.1.2.1 <= 0 + 3000 := a.2
 refine Ok.bind (node_ok a.1 (by unfold far_; omega)) fun x hx => ?_
 have b2 := hx.2.2.2
 refine Ok.bind (node_ok hx.2.2.1 (by unfold far_; omega)) fun y hy => ?_
 have b3 := hy.2.2.2
 refine Ok.bind (Q := fun s => True) (Ok.bind (among_ok hy.2.2.1 (by unfold far_; omega) (by simp)) fun s hs => Ok.some trivial) fun s _ => Ok.some (okT_small r1 r2 r3)
theorem drawRB_ok {code : List Int} {u : Unit} (hb : ∀ x ∈ code, 0 <= x /\ x <= 255) : Ok (F_q21q 0 (code, u)) fun r => okT r.1 = true := by
 have hc : CurB (code, (0 : Int), (0 : Int), ()) := ⟨hb, Int.le_refl _⟩
 unfold F_q21q F_q31q
 simp only
 refine Ok.bind (timetable_ok hc (by unfold far_; simp)) fun r hr => ?_
 obtain ⟨a, r1, r2, r3⟩ := hr
 have b : r.2.1.2.1 <= 0 + 3000 := a.2
 refine Ok.bind (node_ok a.1 (by unfold far_; omega)) fun x hx => ?_
 have b2 := hx.2.2.2
 refine Ok.bind (Q := fun s => Adv 2 x.2.1 s.2.1) (Ok.bind (among_ok hx.2.2.1 (by unfold far_; omega) (by simp)) fun s hs => Ok.some hs.2) fun s hs => ?_
 have b3 := hs.2
 exact Ok.bind (among_ok hs.1 (by unfold far_; omega) (by simp)) fun q hq => Ok.some (okT_small r1 r2 r3)
theorem drawSt_ok {code : List Int} {u : Unit} (hb : ∀ x ∈ code, 0 <= x /\ x <= 255) : Ok (F_q4q 0 (code, u)) fun r => okL r.1.2.1 = true := by
 have hc : CurB (code, (0 : Int), (0 : Int), ()) := ⟨hb, Int.le_refl _⟩
 unfold F_q4q F_q33q
 simp only
 exact Ok.bind (Q := fun r => okL r.1.2.1 = true) (Ok.bind (bigGraph_ok hc (by unfold far_; simp)) fun r hr => Ok.some (okL_of (Nat.le_trans hr.2 (by omega)))) fun r hr => Ok.some hr
noncomputable def ttTail (N : Nat) (a0 : List Int) : Option (Bool × Unit) :=
 ((F_q21q 0) (a0, ())).bind fun r69 =>
 (G_reachedBy ((r69.1, (r69.2.1, (r69.2.2.1, (r69.2.2.2.1, ())))))).bind fun r70 =>
 (G_reachedBy ((r69.1, (r69.2.1, (r69.2.2.1, (r69.2.2.2.1, ())))))).bind fun r71 =>
 if (!(r70.2.1 == r71.2.1)) = true then
  some (false, ())
 else
  (G_rInts ((r70.1, (r71.1, ())))).bind fun r72 =>
  if (!r72.1) = true then
   some (false, ())
  else
   ((F_q27q 0) (r69.1, ())).bind fun r73 =>
   ((F_q28q 0) (r69.1, ())).bind fun r74 =>
   if (!(r73.1 == r74.1)) = true then
    some (false, ())
   else
    ((F_q4q 0) (a0, ())).bind fun r75 =>
    (G_static (r75.1, ())).bind fun r76 =>
    (G_static (r75.1, ())).bind fun r77 =>
    if (!(r76.2.1 == r77.2.1)) = true then
     some (false, ())
    else
     if (r76.1.2.1 != r77.1.2.1) = true then
      some (false, ())
     else
      (G_rGraph ((r76.1.1, (r77.1.1, ())))).bind fun r78 =>
      if (!r78.1) = true then
       some (false, ())
      else
       (G_rTable ((r76.1.2.2.1, (r77.1.2.2.1, ())))).bind fun r79 =>
       if (!r79.1) = true then
        some (false, ())
       else
        if (!r76.2.1) = true then
         some (true, ())
        else
         ((F_q32q 0) (r75.1, ())).bind fun r80 =>
         if (!r80.2.1) = true then
          some (false, ())
         else
          ((F_q38q 0) ((r75.1, (r80.1, ())))).bind fun r81 =>
          if (!r81.1) = true then
           some (false, ())
          else
           (laws_FnTimetables_l2 N N ((r75.1, (r76.1, (r80.1, ((0 : Int), ())))))).bind fun o82 => match o82 with
           | .inl d83 =>
            some (d83.1, ())
           | .inr (.inl d84) =>
            some (true, ())
theorem ttTail_ok {code : List Int} {t : Tt} {x c s : Int} {w : Unit} (d1 : F_q21q 0 (code, ()) = some (t, x, c, s, w)) (o1 : okT t = true) {n : Int} {es : List E} {v w2 : Unit} (d2 : F_q4q 0 (code, ()) = some ((n, es, v), w2)) (o2 : okL es = true) : ttTail 100 code = some (true, ()) := by
 have gr : G_reachedBy (t, x, c, s, ()) = some (rbB t x c s) := by unfold G_reachedBy; simp only [o1, if_true]
 have hri := rInts_same (l := (rbB t x c s).1) () (okL_of (Nat.le_trans (rbB_len t x c s) (by omega)))
 unfold ttTail
 simp only [d1, gr, Option.bind_some, beq_self_eq_true, Bool.not_true, Bool.false_eq_true, if_false, hri, implT t () o1, specT t () o1, d2]
 by_cases hg : (graphB (n, es, v) && decide (n > 0)) = true
 ·rw [Bool.and_eq_true, decide_eq_true_eq] at hg
  obtain ⟨hg, hn⟩ := hg
  obtain ⟨n0, n8⟩ := graphB_n hg
  obtain ⟨m, rfl⟩ := nat_of n0
  have hm : 0 < m := by omega
  have hm8 : m <= 8 := by omega
  have hm0 : decide ((m : Int) > 0) = true := decide_eq_true (by omega)
  have hrep : okLL (List.replicate es.length [(0 : Int)]) = true := by
   unfold okLL
   rw [Bool.and_eq_true]
   refine ⟨?_, List.all_eq_true.2 fun x hx => ?_⟩
   ·have := okL_lim o2
    unfold okL
    rw [List.length_replicate]
    exact decide_eq_true this
   ·rw [(List.mem_replicate.1 hx).2]
    exact okL_of (by simp)
  have gs : G_static (((m : Int), es, v), ()) = some ((((m : Int), es, ()), 1, List.replicate es.length [0], ()), true, ()) := by
   unfold G_static staticT
   simp only [o2, hg, hm0, Bool.and_self, if_true]
  have os : okT (((m : Int), es, ()), 1, List.replicate es.length [0], ()) = true := by
   unfold okT
   simp only [o2, hrep, Bool.and_self]
  have ed : distB ((m : Int), es, v) = (tabL m (distI m es), true, ()) := by unfold distB; rw [if_pos hg]; rfl
  have hsq : okLL (tabL m (distI m es)) = true := (sq_ok hm8 (tabL_sq _ _)).1
  have erd : F_q38q 0 (((m : Int), es, v), tabL m (distI m es), ()) = some (true, ()) := by
   unfold F_q38q
   simp only [specDist o2, ed, Option.bind_some, if_true, rTable_same () hsq]
  have l2 := tt_l2 100 (by omega) hg hm o2 rfl os m 0 100 (by omega) (by omega)
  simp only [Int.natCast_zero] at l2
  simp only [gs, Option.bind_some, beq_self_eq_true, bne_self_eq_false, Bool.not_true, Bool.false_eq_true, if_false, rGraph_same () () () o2, rTable_same () hrep, implDist o2, ed, erd, l2]
 ·have gs : G_static ((n, es, v), ()) = some (((0, [], ()), 0, [], ()), false, ()) := by
   unfold G_static staticT
   simp only [o2, if_true]
   rw [if_neg hg]
  have r1 : G_rGraph (((0 : Int), ([] : List E), ()), ((0 : Int), ([] : List E), ()), ()) = some (true, ()) := rfl
  have r2 : G_rTable (([] : Tab), ([] : Tab), ()) = some (true, ()) := rfl
  simp only [gs, Option.bind_some, beq_self_eq_true, bne_self_eq_false, Bool.not_true, Bool.not_false, Bool.false_eq_true, if_false, if_true, r1, r2]
theorem lawTT_of {code : List Int} {u0 : Unit} (hbig : (g_laws_rBig (code, ())).1 = false) {t : Tt} {x y c : Int} {w0 : Unit} (d0 : F_q9q 0 (code, ()) = some (t, x, y, c, w0)) (o0 : okT t = true)
  {t1 : Tt} {x1 c1 s1 : Int} {w : Unit} (d1 : F_q21q 0 (code, ()) = some (t1, x1, c1, s1, w)) (o1 : okT t1 = true) {n : Int} {es : List E} {v w2 : Unit} (d2 : F_q4q 0 (code, ()) = some ((n, es, v), w2)) (o2 : okL es = true) : F_laws_FnTimetables 100 (code, u0) = some (true, ()) := by
 have tail := ttTail_ok d1 o1 d2 o2
 have gt : G_earliestTrip (t, x, y, c, ()) = some (tripB t x y c) := by unfold G_earliestTrip; simp only [o0, if_true]
 have hri := rInts_same (l := (tripB t x y c).1) () (okL_of (Nat.le_trans (tripB_len t x y c) (by omega)))
 unfold F_laws_FnTimetables
 simp only [hbig, Bool.false_eq_true, if_false, d0, gt, Option.bind_some, beq_self_eq_true, bne_self_eq_false, Bool.not_true, hri, implEA t x y c () o0, specEA t x y c () o0]
 by_cases hh : (endsB t x y && inB 0 1000 c && decide (0 <= arrI t c x y)) = true
 ·have eb : tripB t x y c = (x :: tripL t y (arrI t c x y).toNat c x.toNat, true, ()) := by unfold tripB; rw [if_pos hh]
  simp only [Bool.and_eq_true, decide_eq_true_eq] at hh
  obtain ⟨⟨he, hc⟩, ha⟩ := hh
  obtain ⟨ht, ex, ey, hx, hy⟩ := ends_parts he
  obtain ⟨x', rfl⟩ : ∃ x' : Nat, x = (x' : Int) := ⟨_, ex⟩
  obtain ⟨y', rfl⟩ : ∃ y' : Nat, y = (y' : Int) := ⟨_, ey⟩
  obtain ⟨a, ea⟩ : ∃ a : Nat, arrI t c (x' : Int) (y' : Int) = (a : Int) := nat_of ha
  have hcb := inB_iff.1 hc
  simp only [Int.toNat_natCast] at hx hy
  obtain ⟨n1, n2, n3, p1, p2, p3, _⟩ := time_n ht
  obtain ⟨ha33, hA⟩ := arr_isA ea
  have ee : earB t (x' : Int) (y' : Int) c = ((a : Int), true, ()) := by
   unfold earB eaB
   simp only [he, hc, Bool.and_self, if_true, ea]
   rw [if_neg (by omega)]
  obtain ⟨w1, w2', w3⟩ := trip_walk hy a c x' hx hA
  have hlen : ((x' : Int) :: tripL t (y' : Int) a c x').length = a + 1 := by rw [List.length_cons, tripL_len]
  have h0 : at_ I ((x' : Int) :: tripL t (y' : Int) a c x') (0 : Int).toNat = (x' : Int) := rfl
  rw [eb, ea, ee]
  simp only [Int.toNat_natCast] at hlen |-
  generalize (x' : Int) :: tripL t (y' : Int) a c x' = L at w1 w2' w3 hlen h0
  have l0 := tt_l0 100 ht o0 code (x' : Int) (y' : Int) hcb.1 hcb.2 L a (by omega) hlen w1 w2' a 0 100 (by omega) (by omega)
  simp only [Int.natCast_zero] at l0
  have wa : IntKind.wrap .i64 ((a : Int) + 1) = ((a + 1 : Nat) : Int) := small_wrap (by omega)
  have i0 : idxIn (0 : Int) L.length = true := idxIn_nat (n := L.length) (show 0 < L.length by omega)
  have ia : idxIn ((a : Nat) : Int) L.length = true := idxIn_nat (by omega)
  have hlenI : ((L.length : Int) != ((a + 1 : Nat) : Int)) = false := by rw [hlen]; simp
  simp only [beq_self_eq_true, Bool.not_true, Bool.false_eq_true, if_false, if_true, wa, hlenI, i0, h0, bne_self_eq_false, ia, Int.toNat_natCast, w3, implT t () o0, ht, Option.bind_some, l0]
  by_cases hp : 0 < a
  ·have ep : decide ((a : Int) > 0) = true := decide_eq_true (by omega)
   have wm : IntKind.wrap .i64 ((a : Int) - 1) = ((a - 1 : Nat) : Int) := by rw [wrap_in _ (by omega) (by omega)]; omega
   have hxi : inB 0 (t.1.1 - 1) (x' : Int) = true := inB_iff.2 (by omega)
   have rb : ∀ s : Nat, s <= 33 -> G_reachedBy (t, (x' : Int), c, (s : Int), ()) = some (setF (iterP t c (x' : Int) s) t.1.1.toNat 0, true, ()) := fun s hs => by
    have hsi : inB 0 1000 (s : Int) = true := inB_iff.2 (by omega)
    unfold G_reachedBy rbB
    simp only [o0, if_true, ht, hxi, hc, hsi, Bool.and_self, Int.toNat_natCast]
   have okS : ∀ s : Nat, okL (setF (iterP t c (x' : Int) s) t.1.1.toNat 0) = true := fun s => okL_of (Nat.le_trans setF_len (by omega))
   have has : ∀ s : Nat, G_rHas (setF (iterP t c (x' : Int) s) t.1.1.toNat 0, (y' : Int), ()) = some (iterP t c (x' : Int) s y', ()) := fun s => by
    unfold G_rHas hasL
    simp only [okS s, if_true]
    rw [any_setF hy]
   have hno : iterP t c (x' : Int) (a - 1) y' = false := hA.2 (a - 1) (by omega)
   have hpart : G_rPart (setF (iterP t c (x' : Int) (a - 1)) t.1.1.toNat 0, setF (iterP t c (x' : Int) a) t.1.1.toNat 0, ()) = some (true, ()) := by
    unfold G_rPart
    simp only [okS, Bool.and_self, if_true]
    congr 2
    refine List.all_eq_true.2 fun z hz => ?_
    obtain ⟨q, q1, q2, q3, rfl⟩ := setF_mem.1 hz
    unfold hasL
    rw [any_setF (show q < t.1.1.toNat by omega)]
    exact iter_le (show a - 1 <= a by omega) q3
   simp only [ep, if_true, wm, rb _ (show a - 1 <= 33 by omega), rb a (by omega), Option.bind_some, Bool.not_true, Bool.false_eq_true, if_false, rInts_same () (okS a), has, hno, hA.1, hpart]
   exact tail
  ·have ep : decide ((a : Int) > 0) = false := decide_eq_false (by omega)
   simp only [ep, Bool.false_eq_true, if_false]
   exact tail
 ·have eb : tripB t x y c = ([], false, ()) := by unfold tripB; rw [if_neg hh]
  have ee : (earB t x y c).2.1 = false := by
   unfold earB eaB
   split
   ·rename_i h1
    rw [h1, Bool.true_and, decide_eq_true_eq] at hh
    rw [if_pos (by omega)]
   ·rfl
  rw [eb]
  simp only [ee, beq_self_eq_true, Bool.not_true, Bool.false_eq_true, if_false]
  exact tail
theorem lawTT_lim (d : List Int × Unit) (r : Bool × Unit) (h : G_law d = some r) : ∃ N, F_laws_FnTimetables N d = some r := by
 obtain ⟨code, u⟩ := d
 unfold G_law at h
 split at h
 ·rename_i hh
  cases Option.some.inj h
  simp only [Bool.and_eq_true, List.all_eq_true] at hh
  have hb : ∀ x ∈ code, 0 <= x /\ x <= 255 := fun x hx => by
   have := hh.1 x hx
   unfold inB at this
   simpa using this
  cases hbig : (g_laws_rBig (code, ())).1 with
  | true =>
   refine ⟨0, ?_⟩
   unfold F_laws_FnTimetables
   simp only [hbig, if_true]
  | false =>
   obtain ⟨⟨t, x, y, c, w0⟩, d0, o0⟩ := drawTrip_ok (u := ()) hb
   obtain ⟨⟨t1, x1, c1, s1, w1⟩, d1, o1⟩ := drawRB_ok (u := ()) hb
   obtain ⟨⟨⟨n, es, v⟩, w2⟩, d2, o2⟩ := drawSt_ok (u := ()) hb
   exact ⟨100, lawTT_of hbig d0 o0 d1 o1 d2 o2⟩
 ·cases h
end Go.V.W
set_option linter.unusedVariables false
set_option linter.unusedSimpArgs false
namespace Go.V.W
open Go.Proofs
structure LogIs (d p : List UInt8) (c : Int) : Prop where
 size : d.length + p.length <= 30000
 all : (openL 60 0 (d ++ p)).2 = (d ++ p).length
 durable : (openL 60 0 d).2 = d.length
 count : ((openL 60 0 (d ++ p)).1.length : Int) = c
end Go.V.W
namespace Go.V.W
open Go.Proofs Go.Shelf Go.RowKit
-- import Derived.Shelf.Lays
-- import Derived.Shelf.LaysM
-- import Derived.Test.XvLib3
-- import Derived.Shelf.SortM.Plain
-- import Derived.Shelf.SortM.SortNone
-- import Derived.Shelf.SlSortCmp.NoneTotal
theorem tab : TabOk Try.prog (assoc tks) (assoc ars) := tab_of (by kernel_rfl)
theorem mixed : Try.prog.follows .mixedOrders = true := by kernel_rfl
theorem C_laws_rBig_raw (N : Nat) : Contract Try.prog 5 ⟨[(K_Su8, false)], [.bool], true, F_laws_rBig N⟩ :=
  have E : Env Try.prog Γ_laws_rBig := env_of tab trivial
  con_of (Pc := []) E rfl mixed Try.func5 (by kernel_rfl) (by kernel_rfl) (by kernel_rfl) (by kernel_rfl) (fun A hA => trivial) (F_laws_rBig_ok N)
theorem C_laws_rBig : Contract Try.prog 5 S_laws_rBig := Contract.less (fun N : Nat => F_laws_rBig N) C_laws_rBig_raw (fun d r h => ⟨0, (F_laws_rBig_tot 0 d).trans h⟩)
theorem C_q34q_raw (N : Nat) : Contract Try.prog 114 ⟨[(K_BPSu8iu64q, true)], [I], true, F_q34q N⟩ :=
  have E : Env Try.prog Γ_q34q := env_of tab trivial
  con_of (Pc := []) E rfl mixed Try.func114 (by kernel_rfl) (by kernel_rfl) (by kernel_rfl) (by kernel_rfl) (fun A hA => trivial) (F_q34q_ok N)
theorem C_q34q : Contract Try.prog 114 S_q34q := C_q34q_raw 0
theorem C_q42q_raw (N : Nat) : Contract Try.prog 88 ⟨[(K_BPSu8iu64q, true), (I, false)], [I], true, F_q42q N⟩ :=
  have E : Env Try.prog Γ_q42q := env_of tab ⟨C_q34q, trivial⟩
  con_of (Pc := []) E rfl mixed Try.func88 (by kernel_rfl) (by kernel_rfl) (by kernel_rfl) (by kernel_rfl) (fun A hA => trivial) (F_q42q_ok N)
theorem C_q42q : Contract Try.prog 88 S_q42q := C_q42q_raw 0
theorem C_q25q_raw (N : Nat) : Contract Try.prog 62 ⟨[(K_BPSu8iu64q, true), (K_Si, false)], [I], true, F_q25q N⟩ :=
  have E : Env Try.prog Γ_q25q := env_of tab ⟨C_q42q, trivial⟩
  con_of (Pc := []) E rfl mixed Try.func62 (by kernel_rfl) (by kernel_rfl) (by kernel_rfl) (by kernel_rfl) (fun A hA => trivial) (F_q25q_ok N)
theorem C_q25q : Contract Try.prog 62 S_q25q := C_q25q_raw 0
theorem C_q51q_raw (N : Nat) : Contract Try.prog 86 ⟨[(K_BPSu8iu64q, true), (I, false)], [.bool], true, F_q51q N⟩ :=
  have E : Env Try.prog Γ_q51q := env_of tab ⟨C_q42q, trivial⟩
  con_of (Pc := []) E rfl mixed Try.func86 (by kernel_rfl) (by kernel_rfl) (by kernel_rfl) (by kernel_rfl) (fun A hA => trivial) (F_q51q_ok N)
theorem C_q51q : Contract Try.prog 86 S_q51q := C_q51q_raw 0
theorem C_q62q_raw (N : Nat) : Contract Try.prog 107 ⟨[(I, false), (I, false)], [I], true, F_q62q N⟩ :=
  have E : Env Try.prog Γ_q62q := env_of tab trivial
  con_of (Pc := []) E rfl mixed Try.func107 (by kernel_rfl) (by kernel_rfl) (by kernel_rfl) (by kernel_rfl) (fun A hA => trivial) (F_q62q_ok N)
theorem C_q62q : Contract Try.prog 107 S_q62q := Contract.less (fun N : Nat => F_q62q N) C_q62q_raw (fun d r h => ⟨0, (F_q62q_tot 0 d).trans h⟩)
theorem C_q74q_raw (N : Nat) : Contract Try.prog 108 ⟨[(I, false)], [K_PiSPiiqq], true, F_q74q N⟩ :=
  have E : Env Try.prog Γ_q74q := env_of tab trivial
  con_of (Pc := [(0, ⟨q74q_l0_h, q74q_l0_o, q74q_l0 N N⟩)]) E rfl mixed Try.func108 (by kernel_rfl) (by kernel_rfl) (by kernel_rfl) (by kernel_rfl) (fun A hA => ⟨pc_of (inner := []) E mixed hA (by kernel_rfl) (by kernel_rfl) (by kernel_rfl) trivial (fun _ => rfl) (fun m d => (q74q_l0_ok N (q74q_l0 N m) d).symm) N, trivial⟩) (F_q74q_ok N)
theorem C_q74q : Contract Try.prog 108 S_q74q := Contract.less (fun N : Nat => F_q74q N) C_q74q_raw pickF_lim
theorem C_q55q_raw (N : Nat) : Contract Try.prog 115 ⟨[(K_Piiq, false), (K_Piiq, false)], [.bool], true, F_q55q N⟩ :=
  have E : Env Try.prog Γ_q55q := env_of tab trivial
  con_of (Pc := []) E rfl mixed Try.func115 (by kernel_rfl) (by kernel_rfl) (by kernel_rfl) (by kernel_rfl) (fun A hA => trivial) (F_q55q_ok N)
theorem C_q55q : Contract Try.prog 115 S_q55q := Contract.less (fun N : Nat => F_q55q N) C_q55q_raw (fun d r h => ⟨0, (F_q55q_tot 0 d).trans h⟩)
theorem C_spec_l2Put_raw (N : Nat) : Contract Try.prog 111 ⟨[(K_SPiiq, false), (K_Piiq, false)], [K_SPiiq], true, F_spec_l2Put N⟩ :=
  have E : Env Try.prog Γ_spec_l2Put := env_of tab ⟨C_q55q, trivial⟩
  con_of (Pc := [(0, ⟨spec_l2Put_l0_h, spec_l2Put_l0_o, spec_l2Put_l0 N N⟩)]) E rfl mixed Try.func111 (by kernel_rfl) (by kernel_rfl) (by kernel_rfl) (by kernel_rfl) (fun A hA => ⟨pc_of (inner := []) E mixed hA (by kernel_rfl) (by kernel_rfl) (by kernel_rfl) trivial (fun _ => rfl) (fun m d => (spec_l2Put_l0_ok N (spec_l2Put_l0 N m) d).symm) N, trivial⟩) (F_spec_l2Put_ok N)
theorem C_spec_l2Put : Contract Try.prog 111 S_spec_l2Put := Contract.less (fun N : Nat => F_spec_l2Put N) C_spec_l2Put_raw l2Put_lim
theorem C_q70q_raw (N : Nat) : Contract Try.prog 109 ⟨[(I, false)], [K_PiSPiiqq], true, F_q70q N⟩ :=
  have E : Env Try.prog Γ_q70q := env_of tab ⟨C_q74q, ⟨C_spec_l2Put, trivial⟩⟩
  con_of (Pc := []) E rfl mixed Try.func109 (by kernel_rfl) (by kernel_rfl) (by kernel_rfl) (by kernel_rfl) (fun A hA => trivial) (F_q70q_ok N)
theorem C_q70q : Contract Try.prog 109 S_q70q := C_q70q_raw 0
theorem C_q37q_raw (N : Nat) : Contract Try.prog 110 ⟨[(I, false)], [K_PiSPiiqq], true, F_q37q N⟩ :=
  have E : Env Try.prog Γ_q37q := env_of tab trivial
  con_of (Pc := [(0, ⟨q37q_l0_h, q37q_l0_o, q37q_l0 N N⟩)]) E rfl mixed Try.func110 (by kernel_rfl) (by kernel_rfl) (by kernel_rfl) (by kernel_rfl) (fun A hA => ⟨pc_of (inner := [(2, ⟨q37q_l2_h, q37q_l2_o, q37q_l2 N N⟩)]) E mixed hA (by kernel_rfl) (by kernel_rfl) (by kernel_rfl) ⟨pc_of (inner := []) E mixed hA (by kernel_rfl) (by kernel_rfl) (by kernel_rfl) trivial (fun _ => rfl) (fun m d => (q37q_l2_ok N (q37q_l2 N m) d).symm) N, trivial⟩ (fun _ => rfl) (fun m d => (q37q_l0_ok N (q37q_l0 N m) d).symm) N, trivial⟩) (F_q37q_ok N)
theorem C_q37q : Contract Try.prog 110 S_q37q := Contract.less (fun N : Nat => F_q37q N) C_q37q_raw pickF_lim
theorem C_q73q_raw (N : Nat) : Contract Try.prog 112 ⟨[(I, false), (I, false)], [I], true, F_q73q N⟩ :=
  have E : Env Try.prog Γ_q73q := env_of tab trivial
  con_of (Pc := []) E rfl mixed Try.func112 (by kernel_rfl) (by kernel_rfl) (by kernel_rfl) (by kernel_rfl) (fun A hA => trivial) (F_q73q_ok N)
theorem C_q73q : Contract Try.prog 112 S_q73q := Contract.less (fun N : Nat => F_q73q N) C_q73q_raw (fun d r h => ⟨0, (F_q73q_tot 0 d).trans h⟩)
theorem C_q72q_raw (N : Nat) : Contract Try.prog 105 ⟨[(K_PiSPiiqq, false), (I, false), (I, false)], [.bool], true, F_q72q N⟩ :=
  have E : Env Try.prog Γ_q72q := env_of tab trivial
  con_of (Pc := [(0, ⟨q72q_l0_h, q72q_l0_o, q72q_l0 N N⟩)]) E rfl mixed Try.func105 (by kernel_rfl) (by kernel_rfl) (by kernel_rfl) (by kernel_rfl) (fun A hA => ⟨pc_of (inner := []) E mixed hA (by kernel_rfl) (by kernel_rfl) (by kernel_rfl) trivial (fun _ => rfl) (fun m d => (q72q_l0_ok N (q72q_l0 N m) d).symm) N, trivial⟩) (F_q72q_ok N)
theorem C_q72q : Contract Try.prog 105 S_q72q := Contract.less (fun N : Nat => F_q72q N) C_q72q_raw l2Near_lim
theorem C_q23q_raw (N : Nat) : ContractG Try.prog 113 (⟨[(K_BPSu8iu64q, true), (K_PiSPiiqq, true)], [K_PiSPiiqq], true, F_q23q N⟩, { gone := [1], deep := [] }) :=
  have E : Env Try.prog Γ_q23q := env_ofG tab ⟨C_q25q, ⟨C_q42q, trivial⟩⟩ trivial (fun _ h => by cases h) trivial (by kernel_rfl)
  con_ofG (Pc := []) E mixed Try.func113 (by kernel_rfl) (by kernel_rfl) (by kernel_rfl) (by kernel_rfl) (fun A hA => trivial) (F_q23q_ok N)
theorem C_q23q : ContractG Try.prog 113 (S_q23q, { gone := [1], deep := [] }) := C_q23q_raw 0
theorem C_q17q_raw (N : Nat) : Contract Try.prog 85 ⟨[(K_BPSu8iu64q, true), (I, false)], [K_PiSPiiqq], true, F_q17q N⟩ :=
  have E : Env Try.prog Γ_q17q := env_ofG tab ⟨C_q25q, ⟨C_q51q, ⟨C_q42q, ⟨C_q72q, ⟨C_q62q, ⟨C_q74q, ⟨C_q70q, ⟨C_q37q, ⟨C_spec_l2Put, ⟨C_q73q, trivial⟩⟩⟩⟩⟩⟩⟩⟩⟩⟩ trivial (fun _ h => by cases h) ⟨C_q23q, trivial⟩ (by kernel_rfl)
  con_of (Pc := [(1, ⟨q17q_l1_h, q17q_l1_o, q17q_l1 N N⟩)]) E rfl mixed Try.func85 (by kernel_rfl) (by kernel_rfl) (by kernel_rfl) (by kernel_rfl) (fun A hA => ⟨pc_of (inner := [(3, ⟨q17q_l3_h, q17q_l3_o, q17q_l3 N N⟩)]) E mixed hA (by kernel_rfl) (by kernel_rfl) (by kernel_rfl) ⟨pc_of (inner := []) E mixed hA (by kernel_rfl) (by kernel_rfl) (by kernel_rfl) trivial (fun _ => rfl) (fun m d => (q17q_l3_ok N (q17q_l3 N m) d).symm) N, trivial⟩ (fun _ => rfl) (fun m d => (q17q_l1_ok N (q17q_l1 N m) d).symm) N, trivial⟩) (F_q17q_ok N)
theorem C_q17q : Contract Try.prog 85 S_q17q := Contract.less (fun N : Nat => F_q17q N) C_q17q_raw pickF_lim
theorem C_q18q_raw (N : Nat) : Contract Try.prog 87 ⟨[(K_BPSu8iu64q, true)], [K_PiSPiiqq], true, F_q18q N⟩ :=
  have E : Env Try.prog Γ_q18q := env_of tab ⟨C_q17q, trivial⟩
  con_of (Pc := []) E rfl mixed Try.func87 (by kernel_rfl) (by kernel_rfl) (by kernel_rfl) (by kernel_rfl) (fun A hA => trivial) (F_q18q_ok N)
theorem C_q18q : Contract Try.prog 87 S_q18q := C_q18q_raw 0
theorem C_q76q_raw (N : Nat) : Contract Try.prog 89 ⟨[(I, false), (I, false)], [K_Si], true, F_q76q N⟩ :=
  have E : Env Try.prog Γ_q76q := env_of tab trivial
  con_of (Pc := [(0, ⟨q76q_l0_h, q76q_l0_o, q76q_l0 N N⟩)]) E rfl mixed Try.func89 (by kernel_rfl) (by kernel_rfl) (by kernel_rfl) (by kernel_rfl) (fun A hA => ⟨pc_of (inner := []) E mixed hA (by kernel_rfl) (by kernel_rfl) (by kernel_rfl) trivial (fun _ => rfl) (fun m d => (q76q_l0_ok N (q76q_l0 N m) d).symm) N, trivial⟩) (F_q76q_ok N)
theorem C_q76q : Contract Try.prog 89 S_q76q := Contract.less (fun N : Nat => F_q76q N) C_q76q_raw l2Bits_lim
theorem tabLz : TabOk Try.prog (assoc tksLz) (assoc arsLz) := tab_of (by kernel_rfl)
theorem C_q15q_raw (N : Nat) : Contract Try.prog 59 ⟨[(K_BPSu8iu64q, true)], [K_PPiZPiiqqiSSiq], true, F_q15q N⟩ :=
  have E : Env Try.prog Γ_q15q := env_of tabLz ⟨C_q25q, ⟨C_q17q, ⟨C_q51q, ⟨C_q18q, ⟨C_q42q, ⟨C_q76q, trivial⟩⟩⟩⟩⟩⟩
  con_of (Pc := [(0, ⟨q15q_l0_h, q15q_l0_o, q15q_l0 N N⟩)]) E rfl mixed Try.func59 (by kernel_rfl) (by kernel_rfl) (by kernel_rfl) (by kernel_rfl) (fun A hA => ⟨pc_of (inner := []) E mixed hA (by kernel_rfl) (by kernel_rfl) (by kernel_rfl) trivial (fun _ => rfl) (fun m d => (q15q_l0_ok N (q15q_l0 N m) d).symm) N, trivial⟩) (F_q15q_ok N)
theorem C_q15q : Contract Try.prog 59 S_q15q := Contract.same (Contract.hard (k := K_PPiZPiiqqiSSiq) (Contract.less (fun N : Nat => F_q15q N) C_q15q_raw pickF_lim)) (fun d => map_eta ((pickF F_q15q P_table) d) _ fun _ => rfl)
theorem C_q36q_raw (N : Nat) : Contract Try.prog 60 ⟨[(K_BPSu8iu64q, true), (K_PiSPiiqq, false)], [I], true, F_q36q N⟩ :=
  have E : Env Try.prog Γ_q36q := env_of tab ⟨C_q25q, ⟨C_q51q, ⟨C_q42q, trivial⟩⟩⟩
  con_of (Pc := []) E rfl mixed Try.func60 (by kernel_rfl) (by kernel_rfl) (by kernel_rfl) (by kernel_rfl) (fun A hA => trivial) (F_q36q_ok N)
theorem C_q36q : Contract Try.prog 60 S_q36q := C_q36q_raw 0
theorem C_q31q_raw (N : Nat) : Contract Try.prog 61 ⟨[(K_BPSu8iu64q, true)], [I], true, F_q31q N⟩ :=
  have E : Env Try.prog Γ_q31q := env_of tab ⟨C_q25q, trivial⟩
  con_of (Pc := []) E rfl mixed Try.func61 (by kernel_rfl) (by kernel_rfl) (by kernel_rfl) (by kernel_rfl) (fun A hA => trivial) (F_q31q_ok N)
theorem C_q31q : Contract Try.prog 61 S_q31q := C_q31q_raw 0
theorem C_q5q_raw (N : Nat) : Contract Try.prog 34 ⟨[(K_Su8, false)], [K_PPiSPiiqqiSSiq, I, I, I], false, F_q5q N⟩ :=
  have E : Env Try.prog Γ_q5q := env_of tab ⟨C_q15q, ⟨C_q36q, ⟨C_q31q, trivial⟩⟩⟩
  con_of (Pc := []) E rfl mixed Try.func34 (by kernel_rfl) (by kernel_rfl) (by kernel_rfl) (by kernel_rfl) (fun A hA => trivial) (F_q5q_ok N)
theorem C_q5q : Contract Try.prog 34 S_q5q := C_q5q_raw 0
theorem C_q9q_raw (N : Nat) : Contract Try.prog 6 ⟨[(K_Su8, false)], [K_PPiSPiiqqiSSiq, I, I, I], false, F_q9q N⟩ :=
  have E : Env Try.prog Γ_q9q := env_of tab ⟨C_q5q, trivial⟩
  con_of (Pc := []) E rfl mixed Try.func6 (by kernel_rfl) (by kernel_rfl) (by kernel_rfl) (by kernel_rfl) (fun A hA => trivial) (F_q9q_ok N)
theorem C_q9q : Contract Try.prog 6 S_q9q := C_q9q_raw 0
theorem C_q79q_raw (N : Nat) : Contract Try.prog 46 ⟨[(I, false), (I, false), (I, false)], [.bool], true, F_q79q N⟩ :=
  have E : Env Try.prog Γ_q79q := env_of tab trivial
  con_of (Pc := []) E rfl mixed Try.func46 (by kernel_rfl) (by kernel_rfl) (by kernel_rfl) (by kernel_rfl) (fun A hA => trivial) (F_q79q_ok N)
theorem C_q79q : Contract Try.prog 46 S_q79q := Contract.less (fun N : Nat => F_q79q N) C_q79q_raw (fun d r h => ⟨0, (F_q79q_tot 0 d).trans h⟩)
theorem C_q57q_raw (N : Nat) : Contract Try.prog 126 ⟨[(I, false)], [.bool], true, F_q57q N⟩ :=
  have E : Env Try.prog Γ_q57q := env_of tab trivial
  con_of (Pc := []) E rfl mixed Try.func126 (by kernel_rfl) (by kernel_rfl) (by kernel_rfl) (by kernel_rfl) (fun A hA => trivial) (F_q57q_ok N)
theorem C_q57q : Contract Try.prog 126 S_q57q := Contract.less (fun N : Nat => F_q57q N) C_q57q_raw (fun d r h => ⟨0, (F_q57q_tot 0 d).trans h⟩)
theorem C_q41q_raw (N : Nat) : Contract Try.prog 106 ⟨[(I, false), (I, false)], [I], true, F_q41q N⟩ :=
  have E : Env Try.prog Γ_q41q := env_of tab ⟨C_q57q, trivial⟩
  con_of (Pc := []) E rfl mixed Try.func106 (by kernel_rfl) (by kernel_rfl) (by kernel_rfl) (by kernel_rfl) (fun A hA => trivial) (F_q41q_ok N)
theorem C_q41q : Contract Try.prog 106 S_q41q := Contract.less (fun N : Nat => F_q41q N) C_q41q_raw (fun d r h => ⟨0, (F_q41q_tot 0 d).trans h⟩)
theorem C_q7q_raw (N : Nat) : Contract Try.prog 78 ⟨[(K_Si, false), (K_Si, false)], [I], true, F_q7q N⟩ :=
  have E : Env Try.prog Γ_q7q := env_of tab ⟨C_q41q, trivial⟩
  con_of (Pc := [(0, ⟨q7q_l0_h, q7q_l0_o, q7q_l0 N N⟩)]) E rfl mixed Try.func78 (by kernel_rfl) (by kernel_rfl) (by kernel_rfl) (by kernel_rfl) (fun A hA => ⟨pc_of (inner := []) E mixed hA (by kernel_rfl) (by kernel_rfl) (by kernel_rfl) trivial (fun _ => rfl) (fun m d => (q7q_l0_ok N (q7q_l0 N m) d).symm) N, trivial⟩) (F_q7q_ok N)
theorem C_q7q : Contract Try.prog 78 S_q7q := Contract.less (fun N : Nat => F_q7q N) C_q7q_raw compare_lim
theorem C_q61q_raw (N : Nat) : Contract Try.prog 45 ⟨[(K_PiSPiiqq, false)], [.bool], true, F_q61q N⟩ :=
  have E : Env Try.prog Γ_q61q := env_of tab ⟨C_q79q, ⟨C_q7q, trivial⟩⟩
  con_of (Pc := [(0, ⟨q61q_l0_h, q61q_l0_o, q61q_l0 N N⟩)]) E rfl mixed Try.func45 (by kernel_rfl) (by kernel_rfl) (by kernel_rfl) (by kernel_rfl) (fun A hA => ⟨pc_of (inner := []) E mixed hA (by kernel_rfl) (by kernel_rfl) (by kernel_rfl) trivial (fun _ => rfl) (fun m d => (q61q_l0_ok N (q61q_l0 N m) d).symm) N, trivial⟩) (F_q61q_ok N)
theorem C_q61q : Contract Try.prog 45 S_q61q := Contract.less (fun N : Nat => F_q61q N) C_q61q_raw IsGraph_lim
theorem C_q35q_raw (N : Nat) : Contract Try.prog 49 ⟨[(K_Si, false)], [.bool], true, F_q35q N⟩ :=
  have E : Env Try.prog Γ_q35q := env_of tab trivial
  con_of (Pc := [(0, ⟨q35q_l0_h, q35q_l0_o, q35q_l0 N N⟩)]) E rfl mixed Try.func49 (by kernel_rfl) (by kernel_rfl) (by kernel_rfl) (by kernel_rfl) (fun A hA => ⟨pc_of (inner := []) E mixed hA (by kernel_rfl) (by kernel_rfl) (by kernel_rfl) trivial (fun _ => rfl) (fun m d => (q35q_l0_ok N (q35q_l0 N m) d).symm) N, trivial⟩) (F_q35q_ok N)
theorem C_q35q : Contract Try.prog 49 S_q35q := Contract.less (fun N : Nat => F_q35q N) C_q35q_raw increasing_lim
theorem C_q46q_raw (N : Nat) : Contract Try.prog 50 ⟨[(K_Si, false), (I, false), (I, false)], [.bool], true, F_q46q N⟩ :=
  have E : Env Try.prog Γ_q46q := env_of tab ⟨C_q79q, trivial⟩
  con_of (Pc := [(0, ⟨q46q_l0_h, q46q_l0_o, q46q_l0 N N⟩)]) E rfl mixed Try.func50 (by kernel_rfl) (by kernel_rfl) (by kernel_rfl) (by kernel_rfl) (fun A hA => ⟨pc_of (inner := []) E mixed hA (by kernel_rfl) (by kernel_rfl) (by kernel_rfl) trivial (fun _ => rfl) (fun m d => (q46q_l0_ok N (q46q_l0 N m) d).symm) N, trivial⟩) (F_q46q_ok N)
theorem C_q46q : Contract Try.prog 50 S_q46q := Contract.less (fun N : Nat => F_q46q N) C_q46q_raw allWithin_lim
theorem C_q20q_raw (N : Nat) : Contract Try.prog 48 ⟨[(K_Si, false), (K_BPPiSPiiqqiSSiq, false)], [.bool], true, F_q20q N⟩ :=
  have E : Env Try.prog Γ_q20q := env_of tab ⟨C_q35q, ⟨C_q46q, trivial⟩⟩
  con_of (Pc := []) E rfl mixed Try.func48 (by kernel_rfl) (by kernel_rfl) (by kernel_rfl) (by kernel_rfl) (fun A hA => trivial) (F_q20q_ok N)
theorem C_q20q : Contract Try.prog 48 S_q20q := C_q20q_raw 0
theorem CV_q20q : ContractV Try.prog SV_q20q := conV_0_1_1 C_q20q
theorem C_q1q_raw (N : Nat) : Contract Try.prog 79 ⟨[(K_SSi, false), (K_F_q20q_qPBPPiSPiiqqiSSiqq, false)], [I], true, F_q1q N⟩ :=
  have E : Env Try.prog Γ_q1q := env_ofV tab trivial ⟨CV_q20q, trivial⟩ (fun _ h => by cases h)
  con_of (Pc := [(0, ⟨q1q_l0_h, q1q_l0_o, q1q_l0 N N⟩)]) E rfl mixed Try.func79 (by kernel_rfl) (by kernel_rfl) (by kernel_rfl) (by kernel_rfl) (fun A hA => ⟨pc_of (inner := []) E mixed hA (by kernel_rfl) (by kernel_rfl) (by kernel_rfl) trivial (fun _ => rfl) (fun m d => (q1q_l0_ok N (q1q_l0 N m) d).symm) N, trivial⟩) (F_q1q_ok N)
theorem C_q1q : Contract Try.prog 79 S_q1q := Contract.less (fun N : Nat => F_q1q N) C_q1q_raw index84_lim
theorem C_q0q_raw (N : Nat) : Contract Try.prog 47 ⟨[(K_SSi, false), (K_F_q20q_qPBPPiSPiiqqiSSiqq, false)], [.bool], true, F_q0q N⟩ :=
  have E : Env Try.prog Γ_q0q := env_of tab ⟨C_q1q, trivial⟩
  con_of (Pc := []) E rfl mixed Try.func47 (by kernel_rfl) (by kernel_rfl) (by kernel_rfl) (by kernel_rfl) (fun A hA => trivial) (F_q0q_ok N)
theorem C_q0q : Contract Try.prog 47 S_q0q := C_q0q_raw 0
theorem C_q27q_raw (N : Nat) : Contract Try.prog 12 ⟨[(K_PPiSPiiqqiSSiq, false)], [.bool], true, F_q27q N⟩ :=
  have E : Env Try.prog Γ_q27q := env_ofV tab ⟨C_q61q, ⟨C_q79q, ⟨C_q0q, trivial⟩⟩⟩ trivial (fun _ h => by cases h)
  con_of (Pc := []) E rfl mixed Try.func12 (by kernel_rfl) (by kernel_rfl) (by kernel_rfl) (by kernel_rfl) (fun A hA => trivial) (F_q27q_ok N)
theorem C_q27q : Contract Try.prog 12 S_q27q := C_q27q_raw 0
theorem C_q63q_raw (N : Nat) : Contract Try.prog 51 ⟨[(I, false)], [.bool], true, F_q63q N⟩ :=
  have E : Env Try.prog Γ_q63q := env_of tab ⟨C_q79q, trivial⟩
  con_of (Pc := []) E rfl mixed Try.func51 (by kernel_rfl) (by kernel_rfl) (by kernel_rfl) (by kernel_rfl) (fun A hA => trivial) (F_q63q_ok N)
theorem C_q63q : Contract Try.prog 51 S_q63q := Contract.less (fun N : Nat => F_q63q N) C_q63q_raw (fun d r h => ⟨0, (F_q63q_tot 0 d).trans h⟩)
theorem C_q65q_raw (N : Nat) : Contract Try.prog 35 ⟨[(K_PPiSPiiqqiSSiq, false), (I, false), (K_Si, false)], [.bool], true, F_q65q N⟩ :=
  have E : Env Try.prog Γ_q65q := env_of tab ⟨C_q27q, ⟨C_q46q, ⟨C_q63q, trivial⟩⟩⟩
  con_of (Pc := []) E rfl mixed Try.func35 (by kernel_rfl) (by kernel_rfl) (by kernel_rfl) (by kernel_rfl) (fun A hA => trivial) (F_q65q_ok N)
theorem C_q65q : Contract Try.prog 35 S_q65q := C_q65q_raw 0
theorem C_impl_netOf_raw (N : Nat) : Contract Try.prog 56 ⟨[(K_PiSPiiqq, false)], [K_PSiq], true, F_impl_netOf N⟩ :=
  have E : Env Try.prog Γ_impl_netOf := env_of tab trivial
  con_of (Pc := [(0, ⟨impl_netOf_l0_h, impl_netOf_l0_o, impl_netOf_l0 N N⟩)]) E rfl mixed Try.func56 (by kernel_rfl) (by kernel_rfl) (by kernel_rfl) (by kernel_rfl) (fun A hA => ⟨pc_of (inner := []) E mixed hA (by kernel_rfl) (by kernel_rfl) (by kernel_rfl) trivial (fun _ => rfl) (fun m d => (impl_netOf_l0_ok N (impl_netOf_l0 N m) d).symm) N, trivial⟩) (F_impl_netOf_ok N)
theorem C_impl_netOf : Contract Try.prog 56 S_impl_netOf := Contract.less (fun N : Nat => F_impl_netOf N) C_impl_netOf_raw netOf_lim
theorem C_q10q_raw (N : Nat) : Contract Try.prog 104 ⟨[(K_Si, false), (I, false)], [I], true, F_q10q N⟩ :=
  have E : Env Try.prog Γ_q10q := env_of tab trivial
  con_of (Pc := [(0, ⟨q10q_l0_h, q10q_l0_o, q10q_l0 N N⟩)]) E rfl mixed Try.func104 (by kernel_rfl) (by kernel_rfl) (by kernel_rfl) (by kernel_rfl) (fun A hA => ⟨pc_of (inner := []) E mixed hA (by kernel_rfl) (by kernel_rfl) (by kernel_rfl) trivial (fun _ => rfl) (fun m d => (q10q_l0_ok N (q10q_l0 N m) d).symm) N, trivial⟩) (F_q10q_ok N)
theorem C_q10q : Contract Try.prog 104 S_q10q := Contract.less (fun N : Nat => F_q10q N) C_q10q_raw index_lim
theorem C_q6q_raw (N : Nat) : Contract Try.prog 74 ⟨[(K_Si, false), (I, false)], [.bool], true, F_q6q N⟩ :=
  have E : Env Try.prog Γ_q6q := env_of tab ⟨C_q10q, trivial⟩
  con_of (Pc := []) E rfl mixed Try.func74 (by kernel_rfl) (by kernel_rfl) (by kernel_rfl) (by kernel_rfl) (fun A hA => trivial) (F_q6q_ok N)
theorem C_q6q : Contract Try.prog 74 S_q6q := C_q6q_raw 0
theorem C_q53q_raw (N : Nat) : Contract Try.prog 37 ⟨[(K_PPiSPiiqqiSSiq, false)], [K_SPSiq], true, F_q53q N⟩ :=
  have E : Env Try.prog Γ_q53q := env_of tab ⟨C_impl_netOf, ⟨C_q6q, trivial⟩⟩
  con_of (Pc := [(0, ⟨q53q_l0_h, q53q_l0_o, q53q_l0 N N⟩)]) E rfl mixed Try.func37 (by kernel_rfl) (by kernel_rfl) (by kernel_rfl) (by kernel_rfl) (fun A hA => ⟨pc_of (inner := [(2, ⟨q53q_l2_h, q53q_l2_o, q53q_l2 N N⟩)]) E mixed hA (by kernel_rfl) (by kernel_rfl) (by kernel_rfl) ⟨pc_of (inner := []) E mixed hA (by kernel_rfl) (by kernel_rfl) (by kernel_rfl) trivial (fun _ => rfl) (fun m d => (q53q_l2_ok N (q53q_l2 N m) d).symm) N, trivial⟩ (fun _ => rfl) (fun m d => (q53q_l0_ok N (q53q_l0 N m) d).symm) N, trivial⟩) (F_q53q_ok N)
theorem C_q53q : Contract Try.prog 37 S_q53q := Contract.less (fun N : Nat => F_q53q N) C_q53q_raw openNets_lim
theorem C_q43q_raw (N : Nat) : Contract Try.prog 38 ⟨[(K_PSiq, false), (I, false)], [I], true, F_q43q N⟩ :=
  have E : Env Try.prog Γ_q43q := env_of tab trivial
  con_of (Pc := [(0, ⟨q43q_l0_h, q43q_l0_o, q43q_l0 N N⟩)]) E rfl mixed Try.func38 (by kernel_rfl) (by kernel_rfl) (by kernel_rfl) (by kernel_rfl) (fun A hA => ⟨pc_of (inner := []) E mixed hA (by kernel_rfl) (by kernel_rfl) (by kernel_rfl) trivial (fun _ => rfl) (fun m d => (q43q_l0_ok N (q43q_l0 N m) d).symm) N, trivial⟩) (F_q43q_ok N)
theorem C_q43q : Contract Try.prog 38 S_q43q := Contract.less (fun N : Nat => F_q43q N) C_q43q_raw around_lim
theorem C_q11q_raw (N : Nat) : Contract Try.prog 36 ⟨[(K_PPiSPiiqqiSSiq, false), (I, false), (I, false), (I, false)], [I, .bool], true, F_q11q N⟩ :=
  have E : Env Try.prog Γ_q11q := env_of tab ⟨C_q53q, ⟨C_q43q, trivial⟩⟩
  con_of (Pc := [(0, ⟨q11q_l0_h, q11q_l0_o, q11q_l0 N N⟩)]) E rfl mixed Try.func36 (by kernel_rfl) (by kernel_rfl) (by kernel_rfl) (by kernel_rfl) (fun A hA => ⟨pc_of (inner := []) E mixed hA (by kernel_rfl) (by kernel_rfl) (by kernel_rfl) trivial (fun _ => rfl) (fun m d => (q11q_l0_ok N (q11q_l0 N m) d).symm) N, trivial⟩) (F_q11q_ok N)
theorem C_q11q : Contract Try.prog 36 S_q11q := Contract.less (fun N : Nat => F_q11q N) C_q11q_raw earliestArrival_lim
theorem C_q40q_raw (N : Nat) : Contract Try.prog 40 ⟨[(K_PSiq, false), (I, false)], [I], true, F_q40q N⟩ :=
  have E : Env Try.prog Γ_q40q := env_of tab trivial
  con_of (Pc := []) E rfl mixed Try.func40 (by kernel_rfl) (by kernel_rfl) (by kernel_rfl) (by kernel_rfl) (fun A hA => trivial) (F_q40q_ok N)
theorem C_q40q : Contract Try.prog 40 S_q40q := C_q40q_raw 0
theorem C_impl_setOf_raw (N : Nat) : Contract Try.prog 39 ⟨[(I, false)], [K_Si], true, F_impl_setOf N⟩ :=
  have E : Env Try.prog Γ_impl_setOf := env_of tab trivial
  con_of (Pc := [(0, ⟨impl_setOf_l0_h, impl_setOf_l0_o, impl_setOf_l0 N N⟩)]) E rfl mixed Try.func39 (by kernel_rfl) (by kernel_rfl) (by kernel_rfl) (by kernel_rfl) (fun A hA => ⟨pc_of (inner := []) E mixed hA (by kernel_rfl) (by kernel_rfl) (by kernel_rfl) trivial (fun _ => rfl) (fun m d => (impl_setOf_l0_ok N (impl_setOf_l0 N m) d).symm) N, trivial⟩) (F_impl_setOf_ok N)
theorem C_impl_setOf : Contract Try.prog 39 S_impl_setOf := Contract.less (fun N : Nat => F_impl_setOf N) C_impl_setOf_raw setOf_lim
theorem C_q24q_raw (N : Nat) : Contract Try.prog 7 ⟨[(K_PPiSPiiqqiSSiq, false), (I, false), (I, false), (I, false)], [K_Si, .bool], true, F_q24q N⟩ :=
  have E : Env Try.prog Γ_q24q := env_of tab ⟨C_q65q, ⟨C_q11q, ⟨C_q53q, ⟨C_q43q, ⟨C_impl_setOf, ⟨C_q40q, trivial⟩⟩⟩⟩⟩⟩
  con_of (Pc := [(0, ⟨q24q_l0_h, q24q_l0_o, q24q_l0 N N⟩), (2, ⟨q24q_l2_h, q24q_l2_o, q24q_l2 N N⟩)]) E rfl mixed Try.func7 (by kernel_rfl) (by kernel_rfl) (by kernel_rfl) (by kernel_rfl) (fun A hA => ⟨pc_of (inner := []) E mixed hA (by kernel_rfl) (by kernel_rfl) (by kernel_rfl) trivial (fun _ => rfl) (fun m d => (q24q_l0_ok N (q24q_l0 N m) d).symm) N, ⟨pc_of (inner := []) E mixed hA (by kernel_rfl) (by kernel_rfl) (by kernel_rfl) trivial (fun _ => rfl) (fun m d => (q24q_l2_ok N (q24q_l2 N m) d).symm) N, trivial⟩⟩) (F_q24q_ok N)
theorem C_q24q : Contract Try.prog 7 S_q24q := Contract.less (fun N : Nat => F_q24q N) C_q24q_raw implTrip_lim
theorem C_spec_l1In_raw (N : Nat) : Contract Try.prog 84 ⟨[(I, false), (I, false), (I, false)], [.bool], true, F_spec_l1In N⟩ :=
  have E : Env Try.prog Γ_spec_l1In := env_of tab trivial
  con_of (Pc := []) E rfl mixed Try.func84 (by kernel_rfl) (by kernel_rfl) (by kernel_rfl) (by kernel_rfl) (fun A hA => trivial) (F_spec_l1In_ok N)
theorem C_spec_l1In : Contract Try.prog 84 S_spec_l1In := Contract.less (fun N : Nat => F_spec_l1In N) C_spec_l1In_raw (fun d r h => ⟨0, (F_spec_l1In_tot 0 d).trans h⟩)
theorem C_q56q_raw (N : Nat) : Contract Try.prog 83 ⟨[(K_Si, false), (I, false), (I, false)], [.bool], true, F_q56q N⟩ :=
  have E : Env Try.prog Γ_q56q := env_of tab ⟨C_spec_l1In, trivial⟩
  con_of (Pc := [(0, ⟨q56q_l0_h, q56q_l0_o, q56q_l0 N N⟩)]) E rfl mixed Try.func83 (by kernel_rfl) (by kernel_rfl) (by kernel_rfl) (by kernel_rfl) (fun A hA => ⟨pc_of (inner := []) E mixed hA (by kernel_rfl) (by kernel_rfl) (by kernel_rfl) trivial (fun _ => rfl) (fun m d => (q56q_l0_ok N (q56q_l0 N m) d).symm) N, trivial⟩) (F_q56q_ok N)
theorem C_q56q : Contract Try.prog 83 S_q56q := Contract.less (fun N : Nat => F_q56q N) C_q56q_raw l1Rising_lim
theorem C_q81q_raw (N : Nat) : Contract Try.prog 90 ⟨[(K_PiSPiiqq, false)], [.bool], true, F_q81q N⟩ :=
  have E : Env Try.prog Γ_q81q := env_of tab ⟨C_spec_l1In, ⟨C_q55q, trivial⟩⟩
  con_of (Pc := [(0, ⟨q81q_l0_h, q81q_l0_o, q81q_l0 N N⟩)]) E rfl mixed Try.func90 (by kernel_rfl) (by kernel_rfl) (by kernel_rfl) (by kernel_rfl) (fun A hA => ⟨pc_of (inner := []) E mixed hA (by kernel_rfl) (by kernel_rfl) (by kernel_rfl) trivial (fun _ => rfl) (fun m d => (q81q_l0_ok N (q81q_l0 N m) d).symm) N, trivial⟩) (F_q81q_ok N)
theorem C_q81q : Contract Try.prog 90 S_q81q := Contract.less (fun N : Nat => F_q81q N) C_q81q_raw l2Good_lim
theorem C_q69q_raw (N : Nat) : Contract Try.prog 65 ⟨[(K_PiSPiiqq, false), (I, false)], [.bool], true, F_q69q N⟩ :=
  have E : Env Try.prog Γ_q69q := env_of tab ⟨C_spec_l1In, ⟨C_q81q, trivial⟩⟩
  con_of (Pc := []) E rfl mixed Try.func65 (by kernel_rfl) (by kernel_rfl) (by kernel_rfl) (by kernel_rfl) (fun A hA => trivial) (F_q69q_ok N)
theorem C_q69q : Contract Try.prog 65 S_q69q := C_q69q_raw 0
theorem C_q66q_raw (N : Nat) : Contract Try.prog 53 ⟨[(K_PPiSPiiqqiSSiq, false)], [.bool], true, F_q66q N⟩ :=
  have E : Env Try.prog Γ_q66q := env_of tab ⟨C_q69q, ⟨C_q56q, ⟨C_spec_l1In, trivial⟩⟩⟩
  con_of (Pc := [(0, ⟨q66q_l0_h, q66q_l0_o, q66q_l0 N N⟩)]) E rfl mixed Try.func53 (by kernel_rfl) (by kernel_rfl) (by kernel_rfl) (by kernel_rfl) (fun A hA => ⟨pc_of (inner := []) E mixed hA (by kernel_rfl) (by kernel_rfl) (by kernel_rfl) trivial (fun _ => rfl) (fun m d => (q66q_l0_ok N (q66q_l0 N m) d).symm) N, trivial⟩) (F_q66q_ok N)
theorem C_q66q : Contract Try.prog 53 S_q66q := Contract.less (fun N : Nat => F_q66q N) C_q66q_raw l11Good_lim
theorem C_q77q_raw (N : Nat) : Contract Try.prog 57 ⟨[(K_PiSPiiqq, false), (I, false)], [.bool], true, F_q77q N⟩ :=
  have E : Env Try.prog Γ_q77q := env_of tab ⟨C_spec_l1In, trivial⟩
  con_of (Pc := []) E rfl mixed Try.func57 (by kernel_rfl) (by kernel_rfl) (by kernel_rfl) (by kernel_rfl) (fun A hA => trivial) (F_q77q_ok N)
theorem C_q77q : Contract Try.prog 57 S_q77q := Contract.less (fun N : Nat => F_q77q N) C_q77q_raw (fun d r h => ⟨0, (F_q77q_tot 0 d).trans h⟩)
theorem C_q59q_raw (N : Nat) : Contract Try.prog 54 ⟨[(I, false)], [.bool], true, F_q59q N⟩ :=
  have E : Env Try.prog Γ_q59q := env_of tab ⟨C_spec_l1In, trivial⟩
  con_of (Pc := []) E rfl mixed Try.func54 (by kernel_rfl) (by kernel_rfl) (by kernel_rfl) (by kernel_rfl) (fun A hA => trivial) (F_q59q_ok N)
theorem C_q59q : Contract Try.prog 54 S_q59q := Contract.less (fun N : Nat => F_q59q N) C_q59q_raw (fun d r h => ⟨0, (F_q59q_tot 0 d).trans h⟩)
theorem C_q68q_raw (N : Nat) : Contract Try.prog 41 ⟨[(K_PPiSPiiqqiSSiq, false), (I, false), (I, false), (I, false)], [.bool], true, F_q68q N⟩ :=
  have E : Env Try.prog Γ_q68q := env_of tab ⟨C_q66q, ⟨C_q59q, ⟨C_q77q, trivial⟩⟩⟩
  con_of (Pc := []) E rfl mixed Try.func41 (by kernel_rfl) (by kernel_rfl) (by kernel_rfl) (by kernel_rfl) (fun A hA => trivial) (F_q68q_ok N)
theorem C_q68q : Contract Try.prog 41 S_q68q := C_q68q_raw 0
theorem C_spec_l1Has_raw (N : Nat) : Contract Try.prog 75 ⟨[(K_Si, false), (I, false)], [.bool], true, F_spec_l1Has N⟩ :=
  have E : Env Try.prog Γ_spec_l1Has := env_of tab trivial
  con_of (Pc := [(0, ⟨spec_l1Has_l0_h, spec_l1Has_l0_o, spec_l1Has_l0 N N⟩)]) E rfl mixed Try.func75 (by kernel_rfl) (by kernel_rfl) (by kernel_rfl) (by kernel_rfl) (fun A hA => ⟨pc_of (inner := []) E mixed hA (by kernel_rfl) (by kernel_rfl) (by kernel_rfl) trivial (fun _ => rfl) (fun m d => (spec_l1Has_l0_ok N (spec_l1Has_l0 N m) d).symm) N, trivial⟩) (F_spec_l1Has_ok N)
theorem C_spec_l1Has : Contract Try.prog 75 S_spec_l1Has := Contract.less (fun N : Nat => F_spec_l1Has N) C_spec_l1Has_raw l1Has_lim
theorem C_q64q_raw (N : Nat) : Contract Try.prog 44 ⟨[(K_PPiSPiiqqiSSiq, false), (I, false)], [K_PiSPiiqq], true, F_q64q N⟩ :=
  have E : Env Try.prog Γ_q64q := env_of tab ⟨C_spec_l1Has, trivial⟩
  con_of (Pc := [(0, ⟨q64q_l0_h, q64q_l0_o, q64q_l0 N N⟩)]) E rfl mixed Try.func44 (by kernel_rfl) (by kernel_rfl) (by kernel_rfl) (by kernel_rfl) (fun A hA => ⟨pc_of (inner := []) E mixed hA (by kernel_rfl) (by kernel_rfl) (by kernel_rfl) trivial (fun _ => rfl) (fun m d => (q64q_l0_ok N (q64q_l0 N m) d).symm) N, trivial⟩) (F_q64q_ok N)
theorem C_q64q : Contract Try.prog 44 S_q64q := Contract.less (fun N : Nat => F_q64q N) C_q64q_raw l11Open_lim
theorem C_q30q_raw (N : Nat) : Contract Try.prog 77 ⟨[(K_PiSPiiqq, false), (I, false)], [K_Si], true, F_q30q N⟩ :=
  have E : Env Try.prog Γ_q30q := env_of tab ⟨C_q72q, trivial⟩
  con_of (Pc := [(0, ⟨q30q_l0_h, q30q_l0_o, q30q_l0 N N⟩)]) E rfl mixed Try.func77 (by kernel_rfl) (by kernel_rfl) (by kernel_rfl) (by kernel_rfl) (fun A hA => ⟨pc_of (inner := []) E mixed hA (by kernel_rfl) (by kernel_rfl) (by kernel_rfl) trivial (fun _ => rfl) (fun m d => (q30q_l0_ok N (q30q_l0 N m) d).symm) N, trivial⟩) (F_q30q_ok N)
theorem C_q30q : Contract Try.prog 77 S_q30q := Contract.less (fun N : Nat => F_q30q N) C_q30q_raw l2Neighbors_lim
theorem C_spec_l1Put_raw (N : Nat) : Contract Try.prog 76 ⟨[(K_Si, false), (I, false)], [K_Si], false, F_spec_l1Put N⟩ :=
  have E : Env Try.prog Γ_spec_l1Put := env_of tab trivial
  con_of (Pc := [(0, ⟨spec_l1Put_l0_h, spec_l1Put_l0_o, spec_l1Put_l0 N N⟩)]) E rfl mixed Try.func76 (by kernel_rfl) (by kernel_rfl) (by kernel_rfl) (by kernel_rfl) (fun A hA => ⟨pc_of (inner := []) E mixed hA (by kernel_rfl) (by kernel_rfl) (by kernel_rfl) trivial (fun _ => rfl) (fun m d => (spec_l1Put_l0_ok N (spec_l1Put_l0 N m) d).symm) N, trivial⟩) (F_spec_l1Put_ok N)
theorem C_spec_l1Put : Contract Try.prog 76 S_spec_l1Put := Contract.less (fun N : Nat => F_spec_l1Put N) C_spec_l1Put_raw l1Put_lim
theorem C_q60q_raw (N : Nat) : ContractG Try.prog 76 (⟨[(K_Si, true), (I, false)], [K_Si], true, F_q60q N⟩, { gone := [0], deep := [] }) :=
  have E : Env Try.prog Γ_q60q := env_ofG tab trivial trivial (fun _ h => by cases h) trivial (by kernel_rfl)
  con_ofG (Pc := [(0, ⟨q60q_l0_h, q60q_l0_o, q60q_l0 N N⟩)]) E mixed Try.func76 (by kernel_rfl) (by kernel_rfl) (by kernel_rfl) (by kernel_rfl) (fun A hA => ⟨pc_of (inner := []) E mixed hA (by kernel_rfl) (by kernel_rfl) (by kernel_rfl) trivial (fun _ => rfl) (fun m d => (q60q_l0_ok N (q60q_l0 N m) d).symm) N, trivial⟩) (F_q60q_ok N)
theorem C_q60q : ContractG Try.prog 76 (S_q60q, { gone := [0], deep := [] }) := ContractG.less (fun N : Nat => F_q60q N) C_q60q_raw l1PutW_lim
theorem C_q78q_raw (N : Nat) : Contract Try.prog 43 ⟨[(K_PiSPiiqq, false), (I, false)], [K_Si], true, F_q78q N⟩ :=
  have E : Env Try.prog Γ_q78q := env_ofG tab ⟨C_q30q, trivial⟩ trivial (fun _ h => by cases h) ⟨C_q60q, trivial⟩ (by kernel_rfl)
  con_of (Pc := []) E rfl mixed Try.func43 (by kernel_rfl) (by kernel_rfl) (by kernel_rfl) (by kernel_rfl) (fun A hA => trivial) (F_q78q_ok N)
theorem C_q78q : Contract Try.prog 43 S_q78q := C_q78q_raw 0
theorem C_q39q_raw (N : Nat) : Contract Try.prog 58 ⟨[(K_PPiSPiiqqiSSiq, false), (K_Si, false), (I, false)], [K_Si], false, F_q39q N⟩ :=
  have E : Env Try.prog Γ_q39q := env_ofV tab ⟨C_q78q, ⟨C_q64q, ⟨C_spec_l1Put, trivial⟩⟩⟩ trivial (fun _ h => by cases h)
  con_of (Pc := [(0, ⟨q39q_l0_h, q39q_l0_o, q39q_l0 N N⟩)]) E rfl mixed Try.func58 (by kernel_rfl) (by kernel_rfl) (by kernel_rfl) (by kernel_rfl) (fun A hA => ⟨pc_of (inner := [(2, ⟨q39q_l2_h, q39q_l2_o, q39q_l2 N N⟩)]) E mixed hA (by kernel_rfl) (by kernel_rfl) (by kernel_rfl) ⟨pc_of (inner := []) E mixed hA (by kernel_rfl) (by kernel_rfl) (by kernel_rfl) trivial (fun _ => rfl) (fun m d => (q39q_l2_ok N (q39q_l2 N m) d).symm) N, trivial⟩ (fun _ => rfl) (fun m d => (q39q_l0_ok N (q39q_l0 N m) d).symm) N, trivial⟩) (F_q39q_ok N)
theorem C_q39q : Contract Try.prog 58 S_q39q := Contract.less (fun N : Nat => F_q39q N) C_q39q_raw l11Reached_lim
theorem C_q49q_raw (N : Nat) : Contract Try.prog 42 ⟨[(K_PPiSPiiqqiSSiq, false), (I, false), (I, false), (I, false)], [I], true, F_q49q N⟩ :=
  have E : Env Try.prog Γ_q49q := env_ofV tab ⟨C_q39q, ⟨C_spec_l1Has, trivial⟩⟩ trivial (fun _ h => by cases h)
  con_of (Pc := [(0, ⟨q49q_l0_h, q49q_l0_o, q49q_l0 N N⟩)]) E rfl mixed Try.func42 (by kernel_rfl) (by kernel_rfl) (by kernel_rfl) (by kernel_rfl) (fun A hA => ⟨pc_of (inner := []) E mixed hA (by kernel_rfl) (by kernel_rfl) (by kernel_rfl) trivial (fun _ => rfl) (fun m d => (q49q_l0_ok N (q49q_l0 N m) d).symm) N, trivial⟩) (F_q49q_ok N)
theorem C_q49q : Contract Try.prog 42 S_q49q := Contract.less (fun N : Nat => F_q49q N) C_q49q_raw l11Arrive_lim
theorem C_q22q_raw (N : Nat) : Contract Try.prog 8 ⟨[(K_PPiSPiiqqiSSiq, false), (I, false), (I, false), (I, false)], [K_Si, .bool], true, F_q22q N⟩ :=
  have E : Env Try.prog Γ_q22q := env_of tab ⟨C_q68q, ⟨C_q49q, ⟨C_q78q, ⟨C_q64q, trivial⟩⟩⟩⟩
  con_of (Pc := [(0, ⟨q22q_l0_h, q22q_l0_o, q22q_l0 N N⟩)]) E rfl mixed Try.func8 (by kernel_rfl) (by kernel_rfl) (by kernel_rfl) (by kernel_rfl) (fun A hA => ⟨pc_of (inner := [(2, ⟨q22q_l2_h, q22q_l2_o, q22q_l2 N N⟩)]) E mixed hA (by kernel_rfl) (by kernel_rfl) (by kernel_rfl) ⟨pc_of (inner := []) E mixed hA (by kernel_rfl) (by kernel_rfl) (by kernel_rfl) trivial (fun _ => rfl) (fun m d => (q22q_l2_ok N (q22q_l2 N m) d).symm) N, trivial⟩ (fun _ => rfl) (fun m d => (q22q_l0_ok N (q22q_l0 N m) d).symm) N, trivial⟩) (F_q22q_ok N)
theorem C_q22q : Contract Try.prog 8 S_q22q := Contract.less (fun N : Nat => F_q22q N) C_q22q_raw specTrip_lim
theorem C_laws_rInts_raw (N : Nat) : Contract Try.prog 9 ⟨[(K_Si, false), (K_Si, false)], [.bool], true, F_laws_rInts N⟩ :=
  have E : Env Try.prog Γ_laws_rInts := env_of tab trivial
  con_of (Pc := [(0, ⟨laws_rInts_l0_h, laws_rInts_l0_o, laws_rInts_l0 N N⟩)]) E rfl mixed Try.func9 (by kernel_rfl) (by kernel_rfl) (by kernel_rfl) (by kernel_rfl) (fun A hA => ⟨pc_of (inner := []) E mixed hA (by kernel_rfl) (by kernel_rfl) (by kernel_rfl) trivial (fun _ => rfl) (fun m d => (laws_rInts_l0_ok N (laws_rInts_l0 N m) d).symm) N, trivial⟩) (F_laws_rInts_ok N)
theorem C_laws_rInts : Contract Try.prog 9 S_laws_rInts := Contract.less (fun N : Nat => F_laws_rInts N) C_laws_rInts_raw rInts_lim
theorem C_q14q_raw (N : Nat) : Contract Try.prog 10 ⟨[(K_PPiSPiiqqiSSiq, false), (I, false), (I, false), (I, false)], [I, .bool], true, F_q14q N⟩ :=
  have E : Env Try.prog Γ_q14q := env_of tab ⟨C_q65q, ⟨C_q11q, trivial⟩⟩
  con_of (Pc := []) E rfl mixed Try.func10 (by kernel_rfl) (by kernel_rfl) (by kernel_rfl) (by kernel_rfl) (fun A hA => trivial) (F_q14q_ok N)
theorem C_q14q : Contract Try.prog 10 S_q14q := C_q14q_raw 0
theorem C_q16q_raw (N : Nat) : Contract Try.prog 11 ⟨[(K_PPiSPiiqqiSSiq, false), (I, false), (I, false), (I, false)], [I, .bool], true, F_q16q N⟩ :=
  have E : Env Try.prog Γ_q16q := env_of tab ⟨C_q68q, ⟨C_q49q, trivial⟩⟩
  con_of (Pc := []) E rfl mixed Try.func11 (by kernel_rfl) (by kernel_rfl) (by kernel_rfl) (by kernel_rfl) (fun A hA => trivial) (F_q16q_ok N)
theorem C_q16q : Contract Try.prog 11 S_q16q := C_q16q_raw 0
theorem C_q58q_raw (N : Nat) : Contract Try.prog 81 ⟨[(K_PSiq, false)], [I], true, F_q58q N⟩ :=
  have E : Env Try.prog Γ_q58q := env_of tab trivial
  con_of (Pc := []) E rfl mixed Try.func81 (by kernel_rfl) (by kernel_rfl) (by kernel_rfl) (by kernel_rfl) (fun A hA => trivial) (F_q58q_ok N)
theorem C_q58q : Contract Try.prog 81 S_q58q := Contract.less (fun N : Nat => F_q58q N) C_q58q_raw (fun d r h => ⟨0, (F_q58q_tot 0 d).trans h⟩)
theorem C_q67q_raw (N : Nat) : Contract Try.prog 82 ⟨[(K_PSiq, false), (I, false), (I, false)], [.bool], true, F_q67q N⟩ :=
  have E : Env Try.prog Γ_q67q := env_of tab trivial
  con_of (Pc := []) E rfl mixed Try.func82 (by kernel_rfl) (by kernel_rfl) (by kernel_rfl) (by kernel_rfl) (fun A hA => trivial) (F_q67q_ok N)
theorem C_q67q : Contract Try.prog 82 S_q67q := C_q67q_raw 0
theorem CV_q67q : ContractV Try.prog SV_q67q := conV_1_2_0 C_q67q
theorem C_q2q_raw (N : Nat) : Contract Try.prog 80 ⟨[(I, false), (K_F_q67q_PPSiqqq, false)], [K_PiSPiiqq], true, F_q2q N⟩ :=
  have E : Env Try.prog Γ_q2q := env_ofV tab trivial ⟨CV_q67q, trivial⟩ (fun _ h => by cases h)
  con_of (Pc := [(0, ⟨q2q_l0_h, q2q_l0_o, q2q_l0 N N⟩)]) E rfl mixed Try.func80 (by kernel_rfl) (by kernel_rfl) (by kernel_rfl) (by kernel_rfl) (fun A hA => ⟨pc_of (inner := [(2, ⟨q2q_l2_h, q2q_l2_o, q2q_l2 N N⟩)]) E mixed hA (by kernel_rfl) (by kernel_rfl) (by kernel_rfl) ⟨pc_of (inner := []) E mixed hA (by kernel_rfl) (by kernel_rfl) (by kernel_rfl) trivial (fun _ => rfl) (fun m d => (q2q_l2_ok N (q2q_l2 N m) d).symm) N, trivial⟩ (fun _ => rfl) (fun m d => (q2q_l0_ok N (q2q_l0 N m) d).symm) N, trivial⟩) (F_q2q_ok N)
theorem C_q2q : Contract Try.prog 80 S_q2q := Contract.less (fun N : Nat => F_q2q N) C_q2q_raw graphBy135_lim
theorem C_q45q_raw (N : Nat) : Contract Try.prog 52 ⟨[(K_PSiq, false)], [K_PiSPiiqq], true, F_q45q N⟩ :=
  have E : Env Try.prog Γ_q45q := env_of tab ⟨C_q2q, ⟨C_q58q, trivial⟩⟩
  con_of (Pc := []) E rfl mixed Try.func52 (by kernel_rfl) (by kernel_rfl) (by kernel_rfl) (by kernel_rfl) (fun A hA => trivial) (F_q45q_ok N)
theorem C_q45q : Contract Try.prog 52 S_q45q := C_q45q_raw 0
theorem C_q48q_raw (N : Nat) : Contract Try.prog 13 ⟨[(K_PPiSPiiqqiSSiq, false), (I, false)], [K_PiSPiiqq, .bool], true, F_q48q N⟩ :=
  have E : Env Try.prog Γ_q48q := env_of tab ⟨C_q27q, ⟨C_q53q, ⟨C_q63q, ⟨C_q45q, trivial⟩⟩⟩⟩
  con_of (Pc := []) E rfl mixed Try.func13 (by kernel_rfl) (by kernel_rfl) (by kernel_rfl) (by kernel_rfl) (fun A hA => trivial) (F_q48q_ok N)
theorem C_q48q : Contract Try.prog 13 S_q48q := C_q48q_raw 0
theorem C_q47q_raw (N : Nat) : Contract Try.prog 14 ⟨[(K_PPiSPiiqqiSSiq, false), (I, false)], [K_PiSPiiqq, .bool], true, F_q47q N⟩ :=
  have E : Env Try.prog Γ_q47q := env_of tab ⟨C_q64q, ⟨C_q66q, ⟨C_q59q, trivial⟩⟩⟩
  con_of (Pc := []) E rfl mixed Try.func14 (by kernel_rfl) (by kernel_rfl) (by kernel_rfl) (by kernel_rfl) (fun A hA => trivial) (F_q47q_ok N)
theorem C_q47q : Contract Try.prog 14 S_q47q := C_q47q_raw 0
theorem C_q71q_raw (N : Nat) : Contract Try.prog 15 ⟨[(K_PiSPiiqq, false), (K_PiSPiiqq, false)], [.bool], true, F_q71q N⟩ :=
  have E : Env Try.prog Γ_q71q := env_ofG tab trivial trivial (fun _ h => by cases h) trivial (by kernel_rfl)
  con_of (Pc := [(0, ⟨q71q_l0_h, q71q_l0_o, q71q_l0 N N⟩)]) E rfl mixed Try.func15 (by kernel_rfl) (by kernel_rfl) (by kernel_rfl) (by kernel_rfl) (fun A hA => ⟨pc_of (inner := []) E mixed hA (by kernel_rfl) (by kernel_rfl) (by kernel_rfl) trivial (fun _ => rfl) (fun m d => (q71q_l0_ok N (q71q_l0 N m) d).symm) N, trivial⟩) (F_q71q_ok N)
theorem C_q71q : Contract Try.prog 15 S_q71q := Contract.less (fun N : Nat => F_q71q N) C_q71q_raw rGraph_lim
theorem C_q54q_raw (N : Nat) : Contract Try.prog 55 ⟨[(K_PiSPiiqq, false), (K_Si, false)], [.bool], true, F_q54q N⟩ :=
  have E : Env Try.prog Γ_q54q := env_of tab ⟨C_q61q, ⟨C_q46q, trivial⟩⟩
  con_of (Pc := []) E rfl mixed Try.func55 (by kernel_rfl) (by kernel_rfl) (by kernel_rfl) (by kernel_rfl) (fun A hA => trivial) (F_q54q_ok N)
theorem C_q54q : Contract Try.prog 55 S_q54q := C_q54q_raw 0
theorem C_q26q_raw (N : Nat) : Contract Try.prog 16 ⟨[(K_PiSPiiqq, false), (I, false)], [K_Si, .bool], true, F_q26q N⟩ :=
  have E : Env Try.prog Γ_q26q := env_of tab ⟨C_impl_setOf, ⟨C_q54q, ⟨C_impl_netOf, trivial⟩⟩⟩
  con_of (Pc := []) E rfl mixed Try.func16 (by kernel_rfl) (by kernel_rfl) (by kernel_rfl) (by kernel_rfl) (fun A hA => trivial) (F_q26q_ok N)
theorem C_q26q : Contract Try.prog 16 S_q26q := C_q26q_raw 0
theorem C_laws_rHas_raw (N : Nat) : Contract Try.prog 17 ⟨[(K_Si, false), (I, false)], [.bool], true, F_laws_rHas N⟩ :=
  have E : Env Try.prog Γ_laws_rHas := env_of tab trivial
  con_of (Pc := [(0, ⟨laws_rHas_l0_h, laws_rHas_l0_o, laws_rHas_l0 N N⟩)]) E rfl mixed Try.func17 (by kernel_rfl) (by kernel_rfl) (by kernel_rfl) (by kernel_rfl) (fun A hA => ⟨pc_of (inner := []) E mixed hA (by kernel_rfl) (by kernel_rfl) (by kernel_rfl) trivial (fun _ => rfl) (fun m d => (laws_rHas_l0_ok N (laws_rHas_l0 N m) d).symm) N, trivial⟩) (F_laws_rHas_ok N)
theorem C_laws_rHas : Contract Try.prog 17 S_laws_rHas := Contract.less (fun N : Nat => F_laws_rHas N) C_laws_rHas_raw rHas_lim
theorem C_q44q_raw (N : Nat) : Contract Try.prog 18 ⟨[(K_PPiSPiiqqiSSiq, false), (I, false), (I, false), (I, false)], [K_Si, .bool], true, F_q44q N⟩ :=
  have E : Env Try.prog Γ_q44q := env_of tab ⟨C_q65q, ⟨C_q53q, ⟨C_q43q, ⟨C_impl_setOf, ⟨C_q63q, trivial⟩⟩⟩⟩⟩
  con_of (Pc := [(0, ⟨q44q_l0_h, q44q_l0_o, q44q_l0 N N⟩)]) E rfl mixed Try.func18 (by kernel_rfl) (by kernel_rfl) (by kernel_rfl) (by kernel_rfl) (fun A hA => ⟨pc_of (inner := []) E mixed hA (by kernel_rfl) (by kernel_rfl) (by kernel_rfl) trivial (fun _ => rfl) (fun m d => (q44q_l0_ok N (q44q_l0 N m) d).symm) N, trivial⟩) (F_q44q_ok N)
theorem C_q44q : Contract Try.prog 18 S_q44q := Contract.less (fun N : Nat => F_q44q N) C_q44q_raw implRB_lim
theorem C_q50q_raw (N : Nat) : Contract Try.prog 19 ⟨[(K_PPiSPiiqqiSSiq, false), (I, false), (I, false), (I, false)], [K_Si, .bool], false, F_q50q N⟩ :=
  have E : Env Try.prog Γ_q50q := env_ofV tab ⟨C_q66q, ⟨C_q59q, ⟨C_q77q, ⟨C_q39q, trivial⟩⟩⟩⟩ trivial (fun _ h => by cases h)
  con_of (Pc := [(0, ⟨q50q_l0_h, q50q_l0_o, q50q_l0 N N⟩)]) E rfl mixed Try.func19 (by kernel_rfl) (by kernel_rfl) (by kernel_rfl) (by kernel_rfl) (fun A hA => ⟨pc_of (inner := []) E mixed hA (by kernel_rfl) (by kernel_rfl) (by kernel_rfl) trivial (fun _ => rfl) (fun m d => (q50q_l0_ok N (q50q_l0 N m) d).symm) N, trivial⟩) (F_q50q_ok N)
theorem C_q50q : Contract Try.prog 19 S_q50q := Contract.less (fun N : Nat => F_q50q N) C_q50q_raw specRB_lim
theorem C_laws_rPart_raw (N : Nat) : Contract Try.prog 20 ⟨[(K_Si, false), (K_Si, false)], [.bool], true, F_laws_rPart N⟩ :=
  have E : Env Try.prog Γ_laws_rPart := env_of tab ⟨C_laws_rHas, trivial⟩
  con_of (Pc := [(0, ⟨laws_rPart_l0_h, laws_rPart_l0_o, laws_rPart_l0 N N⟩)]) E rfl mixed Try.func20 (by kernel_rfl) (by kernel_rfl) (by kernel_rfl) (by kernel_rfl) (fun A hA => ⟨pc_of (inner := []) E mixed hA (by kernel_rfl) (by kernel_rfl) (by kernel_rfl) trivial (fun _ => rfl) (fun m d => (laws_rPart_l0_ok N (laws_rPart_l0 N m) d).symm) N, trivial⟩) (F_laws_rPart_ok N)
theorem C_laws_rPart : Contract Try.prog 20 S_laws_rPart := Contract.less (fun N : Nat => F_laws_rPart N) C_laws_rPart_raw rPart_lim
theorem C_q21q_raw (N : Nat) : Contract Try.prog 21 ⟨[(K_Su8, false)], [K_PPiSPiiqqiSSiq, I, I, I], false, F_q21q N⟩ :=
  have E : Env Try.prog Γ_q21q := env_of tab ⟨C_q15q, ⟨C_q36q, ⟨C_q31q, ⟨C_q25q, trivial⟩⟩⟩⟩
  con_of (Pc := []) E rfl mixed Try.func21 (by kernel_rfl) (by kernel_rfl) (by kernel_rfl) (by kernel_rfl) (fun A hA => trivial) (F_q21q_ok N)
theorem C_q21q : Contract Try.prog 21 S_q21q := C_q21q_raw 0
theorem C_q28q_raw (N : Nat) : Contract Try.prog 22 ⟨[(K_PPiSPiiqqiSSiq, false)], [.bool], true, F_q28q N⟩ :=
  have E : Env Try.prog Γ_q28q := env_of tab ⟨C_q66q, trivial⟩
  con_of (Pc := []) E rfl mixed Try.func22 (by kernel_rfl) (by kernel_rfl) (by kernel_rfl) (by kernel_rfl) (fun A hA => trivial) (F_q28q_ok N)
theorem C_q28q : Contract Try.prog 22 S_q28q := C_q28q_raw 0
theorem C_q33q_raw (N : Nat) : Contract Try.prog 63 ⟨[(K_Su8, false)], [K_PiSPiiqq], true, F_q33q N⟩ :=
  have E : Env Try.prog Γ_q33q := env_of tab ⟨C_q18q, trivial⟩
  con_of (Pc := []) E rfl mixed Try.func63 (by kernel_rfl) (by kernel_rfl) (by kernel_rfl) (by kernel_rfl) (fun A hA => trivial) (F_q33q_ok N)
theorem C_q33q : Contract Try.prog 63 S_q33q := C_q33q_raw 0
theorem C_q4q_raw (N : Nat) : Contract Try.prog 23 ⟨[(K_Su8, false)], [K_PiSPiiqq], true, F_q4q N⟩ :=
  have E : Env Try.prog Γ_q4q := env_of tab ⟨C_q33q, trivial⟩
  con_of (Pc := []) E rfl mixed Try.func23 (by kernel_rfl) (by kernel_rfl) (by kernel_rfl) (by kernel_rfl) (fun A hA => trivial) (F_q4q_ok N)
theorem C_q4q : Contract Try.prog 23 S_q4q := C_q4q_raw 0
theorem C_q3q_raw (N : Nat) : Contract Try.prog 64 ⟨[(K_SPiiq, false)], [K_SPiiq], true, F_q3q N⟩ :=
  have E : Env Try.prog Γ_q3q := env_of tab trivial
  con_of (Pc := []) E rfl mixed Try.func64 (by kernel_rfl) (by kernel_rfl) (by kernel_rfl) (by kernel_rfl) (fun A hA => trivial) (F_q3q_ok N)
theorem C_q3q : Contract Try.prog 64 S_q3q := Contract.less (fun N : Nat => F_q3q N) C_q3q_raw cloneA2_lim
theorem C_q12q_raw (N : Nat) : Contract Try.prog 24 ⟨[(K_PiSPiiqq, false)], [K_PPiSPiiqqiSSiq, .bool], true, F_q12q N⟩ :=
  have E : Env Try.prog Γ_q12q := env_of tab ⟨C_q61q, ⟨C_q3q, trivial⟩⟩
  con_of (Pc := [(0, ⟨q12q_l0_h, q12q_l0_o, q12q_l0 N N⟩)]) E rfl mixed Try.func24 (by kernel_rfl) (by kernel_rfl) (by kernel_rfl) (by kernel_rfl) (fun A hA => ⟨pc_of (inner := []) E mixed hA (by kernel_rfl) (by kernel_rfl) (by kernel_rfl) trivial (fun _ => rfl) (fun m d => (q12q_l0_ok N (q12q_l0 N m) d).symm) N, trivial⟩) (F_q12q_ok N)
theorem C_q12q : Contract Try.prog 24 S_q12q := Contract.less (fun N : Nat => F_q12q N) C_q12q_raw implStatic_lim
theorem C_q13q_raw (N : Nat) : Contract Try.prog 25 ⟨[(K_PiSPiiqq, false)], [K_PPiSPiiqqiSSiq, .bool], true, F_q13q N⟩ :=
  have E : Env Try.prog Γ_q13q := env_of tab ⟨C_q69q, trivial⟩
  con_of (Pc := [(0, ⟨q13q_l0_h, q13q_l0_o, q13q_l0 N N⟩)]) E rfl mixed Try.func25 (by kernel_rfl) (by kernel_rfl) (by kernel_rfl) (by kernel_rfl) (fun A hA => ⟨pc_of (inner := []) E mixed hA (by kernel_rfl) (by kernel_rfl) (by kernel_rfl) trivial (fun _ => rfl) (fun m d => (q13q_l0_ok N (q13q_l0 N m) d).symm) N, trivial⟩) (F_q13q_ok N)
theorem C_q13q : Contract Try.prog 25 S_q13q := Contract.less (fun N : Nat => F_q13q N) C_q13q_raw specStatic_lim
theorem C_q75q_raw (N : Nat) : Contract Try.prog 26 ⟨[(K_SSi, false), (K_SSi, false)], [.bool], true, F_q75q N⟩ :=
  have E : Env Try.prog Γ_q75q := env_of tab ⟨C_laws_rInts, trivial⟩
  con_of (Pc := [(0, ⟨q75q_l0_h, q75q_l0_o, q75q_l0 N N⟩)]) E rfl mixed Try.func26 (by kernel_rfl) (by kernel_rfl) (by kernel_rfl) (by kernel_rfl) (fun A hA => ⟨pc_of (inner := []) E mixed hA (by kernel_rfl) (by kernel_rfl) (by kernel_rfl) trivial (fun _ => rfl) (fun m d => (q75q_l0_ok N (q75q_l0 N m) d).symm) N, trivial⟩) (F_q75q_ok N)
theorem C_q75q : Contract Try.prog 26 S_q75q := Contract.less (fun N : Nat => F_q75q N) C_q75q_raw rTable_lim
theorem C_q52q_raw (N : Nat) : Contract Try.prog 92 ⟨[(K_PSiq, false), (I, false), (I, false)], [I], true, F_q52q N⟩ :=
  have E : Env Try.prog Γ_q52q := env_of tab ⟨C_q43q, trivial⟩
  con_of (Pc := [(0, ⟨q52q_l0_h, q52q_l0_o, q52q_l0 N N⟩)]) E rfl mixed Try.func92 (by kernel_rfl) (by kernel_rfl) (by kernel_rfl) (by kernel_rfl) (fun A hA => ⟨pc_of (inner := []) E mixed hA (by kernel_rfl) (by kernel_rfl) (by kernel_rfl) trivial (fun _ => rfl) (fun m d => (q52q_l0_ok N (q52q_l0 N m) d).symm) N, trivial⟩) (F_q52q_ok N)
theorem C_q52q : Contract Try.prog 92 S_q52q := Contract.less (fun N : Nat => F_q52q N) C_q52q_raw netBall_lim
theorem C_q19q_raw (N : Nat) : Contract Try.prog 66 ⟨[(K_PSiq, false)], [K_SSi], true, F_q19q N⟩ :=
  have E : Env Try.prog Γ_q19q := env_of tab ⟨C_impl_setOf, ⟨C_q58q, ⟨C_q8q, ⟨C_q52q, trivial⟩⟩⟩⟩
  con_of (Pc := [(0, ⟨q19q_l0_h, q19q_l0_o, q19q_l0 N N⟩)]) E rfl mixed Try.func66 (by kernel_rfl) (by kernel_rfl) (by kernel_rfl) (by kernel_rfl) (fun A hA => ⟨pc_of (inner := [(2, ⟨q19q_l2_h, q19q_l2_o, q19q_l2 N N⟩)]) E mixed hA (by kernel_rfl) (by kernel_rfl) (by kernel_rfl) ⟨pc_of (inner := [(4, ⟨q19q_l4_h, q19q_l4_o, q19q_l4 N N⟩)]) E mixed hA (by kernel_rfl) (by kernel_rfl) (by kernel_rfl) ⟨pc_of (inner := []) E mixed hA (by kernel_rfl) (by kernel_rfl) (by kernel_rfl) trivial (fun _ => rfl) (fun m d => (q19q_l4_ok N (q19q_l4 N m) d).symm) N, trivial⟩ (fun _ => rfl) (fun m d => (q19q_l2_ok N (q19q_l2 N m) d).symm) N, trivial⟩ (fun _ => rfl) (fun m d => (q19q_l0_ok N (q19q_l0 N m) d).symm) N, trivial⟩) (F_q19q_ok N)
theorem C_q19q : Contract Try.prog 66 S_q19q := Contract.less (fun N : Nat => F_q19q N) C_q19q_raw netDists_lim
theorem C_q32q_raw (N : Nat) : Contract Try.prog 27 ⟨[(K_PiSPiiqq, false)], [K_SSi, .bool], true, F_q32q N⟩ :=
  have E : Env Try.prog Γ_q32q := env_of tab ⟨C_q61q, ⟨C_impl_netOf, ⟨C_q19q, trivial⟩⟩⟩
  con_of (Pc := []) E rfl mixed Try.func27 (by kernel_rfl) (by kernel_rfl) (by kernel_rfl) (by kernel_rfl) (fun A hA => trivial) (F_q32q_ok N)
theorem C_q32q : Contract Try.prog 27 S_q32q := C_q32q_raw 0
theorem C_q80q_raw (N : Nat) : Contract Try.prog 93 ⟨[(K_PiSPiiqq, false)], [K_SSi], true, F_q80q N⟩ :=
  have E : Env Try.prog Γ_q80q := env_of tab ⟨C_q72q, trivial⟩
  con_of (Pc := [(0, ⟨q80q_l0_h, q80q_l0_o, q80q_l0 N N⟩)]) E rfl mixed Try.func93 (by kernel_rfl) (by kernel_rfl) (by kernel_rfl) (by kernel_rfl) (fun A hA => ⟨pc_of (inner := [(2, ⟨q80q_l2_h, q80q_l2_o, q80q_l2 N N⟩), (4, ⟨q80q_l4_h, q80q_l4_o, q80q_l4 N N⟩)]) E mixed hA (by kernel_rfl) (by kernel_rfl) (by kernel_rfl) ⟨pc_of (inner := []) E mixed hA (by kernel_rfl) (by kernel_rfl) (by kernel_rfl) trivial (fun _ => rfl) (fun m d => (q80q_l2_ok N (q80q_l2 N m) d).symm) N, ⟨pc_of (inner := [(6, ⟨q80q_l6_h, q80q_l6_o, q80q_l6 N N⟩)]) E mixed hA (by kernel_rfl) (by kernel_rfl) (by kernel_rfl) ⟨pc_of (inner := [(8, ⟨q80q_l8_h, q80q_l8_o, q80q_l8 N N⟩)]) E mixed hA (by kernel_rfl) (by kernel_rfl) (by kernel_rfl) ⟨pc_of (inner := []) E mixed hA (by kernel_rfl) (by kernel_rfl) (by kernel_rfl) trivial (fun _ => rfl) (fun m d => (q80q_l8_ok N (q80q_l8 N m) d).symm) N, trivial⟩ (fun _ => rfl) (fun m d => (q80q_l6_ok N (q80q_l6 N m) d).symm) N, trivial⟩ (fun _ => rfl) (fun m d => (q80q_l4_ok N (q80q_l4 N m) d).symm) N, trivial⟩⟩ (fun _ => rfl) (fun m d => (q80q_l0_ok N (q80q_l0 N m) d).symm) N, trivial⟩) (F_q80q_ok N)
theorem C_q80q : Contract Try.prog 93 S_q80q := Contract.less (fun N : Nat => F_q80q N) C_q80q_raw l2Dist_lim
theorem C_q29q_raw (N : Nat) : Contract Try.prog 67 ⟨[(K_PiSPiiqq, false)], [K_SSi, .bool], true, F_q29q N⟩ :=
  have E : Env Try.prog Γ_q29q := env_of tab ⟨C_q81q, ⟨C_q80q, trivial⟩⟩
  con_of (Pc := []) E rfl mixed Try.func67 (by kernel_rfl) (by kernel_rfl) (by kernel_rfl) (by kernel_rfl) (fun A hA => trivial) (F_q29q_ok N)
theorem C_q29q : Contract Try.prog 67 S_q29q := C_q29q_raw 0
theorem C_q38q_raw (N : Nat) : Contract Try.prog 28 ⟨[(K_PiSPiiqq, false), (K_SSi, false)], [.bool], true, F_q38q N⟩ :=
  have E : Env Try.prog Γ_q38q := env_of tab ⟨C_q75q, ⟨C_q29q, trivial⟩⟩
  con_of (Pc := []) E rfl mixed Try.func28 (by kernel_rfl) (by kernel_rfl) (by kernel_rfl) (by kernel_rfl) (fun A hA => trivial) (F_q38q_ok N)
theorem C_q38q : Contract Try.prog 28 S_q38q := C_q38q_raw 0
theorem C_laws_FnTimetables_raw (N : Nat) : Contract Try.prog 3 ⟨[(K_Su8, false)], [.bool], true, F_laws_FnTimetables N⟩ :=
  have E : Env Try.prog Γ_laws_FnTimetables := env_of tab ⟨C_laws_rBig, ⟨C_q9q, ⟨C_q24q, ⟨C_q22q, ⟨C_laws_rInts, ⟨C_q14q, ⟨C_q16q, ⟨C_q27q, ⟨C_q48q, ⟨C_q47q, ⟨C_q71q, ⟨C_q26q, ⟨C_laws_rHas, ⟨C_q44q, ⟨C_q50q, ⟨C_laws_rPart, ⟨C_q21q, ⟨C_q28q, ⟨C_q4q, ⟨C_q12q, ⟨C_q13q, ⟨C_q75q, ⟨C_q32q, ⟨C_q38q, trivial⟩⟩⟩⟩⟩⟩⟩⟩⟩⟩⟩⟩⟩⟩⟩⟩⟩⟩⟩⟩⟩⟩⟩⟩
  con_of (Pc := [(0, ⟨laws_FnTimetables_l0_h, laws_FnTimetables_l0_o, laws_FnTimetables_l0 N N⟩), (2, ⟨laws_FnTimetables_l2_h, laws_FnTimetables_l2_o, laws_FnTimetables_l2 N N⟩)]) E rfl mixed Try.func3 (by kernel_rfl) (by kernel_rfl) (by kernel_rfl) (by kernel_rfl) (fun A hA => ⟨pc_of (inner := []) E mixed hA (by kernel_rfl) (by kernel_rfl) (by kernel_rfl) trivial (fun _ => rfl) (fun m d => (laws_FnTimetables_l0_ok N (laws_FnTimetables_l0 N m) d).symm) N, ⟨pc_of (inner := [(4, ⟨laws_FnTimetables_l4_h, laws_FnTimetables_l4_o, laws_FnTimetables_l4 N N⟩)]) E mixed hA (by kernel_rfl) (by kernel_rfl) (by kernel_rfl) ⟨pc_of (inner := []) E mixed hA (by kernel_rfl) (by kernel_rfl) (by kernel_rfl) trivial (fun _ => rfl) (fun m d => (laws_FnTimetables_l4_ok N (laws_FnTimetables_l4 N m) d).symm) N, trivial⟩ (fun _ => rfl) (fun m d => (laws_FnTimetables_l2_ok N (laws_FnTimetables_l2 N m) d).symm) N, trivial⟩⟩) (F_laws_FnTimetables_ok N)
theorem C_laws_FnTimetables : Contract Try.prog 3 S_laws_FnTimetables := Contract.less (fun N : Nat => F_laws_FnTimetables N) C_laws_FnTimetables_raw lawTT_lim
end Go.V.W
