/- A store into a part of what is owned. -/
import Derived.Test.YtmeglfoapdkhdaaVRep
namespace Go.V

/-- One block's cells from O on turned into x. -/
structure Put (w w' : World) (B O : Nat) (x : List Value) : Prop where
  other : ∀ b, b ≠ B → w'.heap[b]? = w.heap[b]?
  here : ∃ cs cs' T fr, w.heap[B]? = some (.cells cs T fr) ∧ w'.heap[B]? = some (.cells cs' T fr) ∧ O + x.length ≤ cs.size ∧
    cs'.toList = cs.toList.take O ++ x ++ cs.toList.drop (O + x.length)

theorem Put.block {w w' : World} {B O : Nat} {x : List Value} (h : Put w w' B O x) {b n : Nat} (k : BlockOk w b n) : BlockOk w' b n := by
  by_cases e : b = B
  · subst e
    obtain ⟨cs, cs', T, fr, h1, h2, h3, h4⟩ := h.here
    obtain ⟨ds, T', fr', k1, k2⟩ := k
    rw [h1] at k1
    injection k1 with k1
    injection k1 with k1 _ _
    subst k1
    refine ⟨cs', T, fr, h2, ?_⟩
    have : cs'.toList.length = cs.toList.length := by
      rw [h4]
      simp only [List.length_append, List.length_take, List.length_drop, Array.length_toList]
      omega
    simp only [Array.length_toList] at this
    omega
  · exact k.same (h.other b e)
theorem Put.cells_same {w w' : World} {B O : Nat} {x : List Value} (h : Put w w' B O x) : cellsAt w' B O x.length = x := by
  obtain ⟨cs, cs', T, fr, h1, h2, h3, h4⟩ := h.here
  unfold cellsAt
  rw [h2]
  simp only
  rw [h4, List.append_assoc, List.drop_append_of_le_length (by simp; omega)]
  have : (List.take O cs.toList).drop O = [] := by simp
  rw [this]
  simp
theorem Put.cells_other {w w' : World} {B O : Nat} {x : List Value} (h : Put w w' B O x) {b o n : Nat} (hd : b ≠ B ∨ o + n ≤ O ∨ O + x.length ≤ o) : cellsAt w' b o n = cellsAt w b o n := by
  by_cases e : b = B
  · subst e
    have hd := hd.resolve_left (fun h => h rfl)
    obtain ⟨cs, cs', T, fr, h1, h2, h3, h4⟩ := h.here
    unfold cellsAt
    rw [h1, h2]
    simp only
    rw [h4]
    have hlen : O + x.length ≤ cs.toList.length := by simpa using h3
    apply List.ext_getElem?
    intro j
    simp only [List.getElem?_take, List.getElem?_drop, List.getElem?_append, List.length_take, List.length_append]
    split
    · rename_i hj
      have hm : min O cs.toList.length = O := by omega
      rw [hm]
      rcases hd with hd | hd
      · rw [if_pos (by omega), if_pos (by omega), if_pos (by omega)]
      · rw [if_neg (by omega)]
        congr 1
        omega
    · rfl
  · exact cellsAt_same (h.other b e) o n

def encl (q : Path) : Path → Option Path
  | [] => none
  | .i n :: p => (encl (q ++ [.i n]) p).or (some q)
  | .l :: p => encl (q ++ [.l]) p
  | .r :: p => encl (q ++ [.r]) p
theorem encl_prefix : ∀ {p q x : Path}, encl q p = some x → q <+: x := by
  intro p
  induction p with
  | nil => intro q x h; simp [encl] at h
  | cons s p ih =>
    intro q x h
    cases s with
    | l => exact (List.prefix_append _ _).trans (ih h)
    | r => exact (List.prefix_append _ _).trans (ih h)
    | i n =>
      simp only [encl] at h
      cases hh : encl (q ++ [.i n]) p with
      | none => rw [hh] at h; simp at h; subst h; exact List.prefix_refl _
      | some y => rw [hh] at h; simp at h; subst h; exact (List.prefix_append _ _).trans (ih hh)
/-- The enclosing slice's path, a step behind it, is a beginning of the whole. -/
theorem encl_step : ∀ {p q x : Path}, encl q p = some x → ∃ n, x ++ [.i n] <+: q ++ p := by
  intro p
  induction p with
  | nil => intro q x h; simp [encl] at h
  | cons s p ih =>
    intro q x h
    cases s with
    | l => obtain ⟨n, hn⟩ := ih h; exact ⟨n, by simpa using hn⟩
    | r => obtain ⟨n, hn⟩ := ih h; exact ⟨n, by simpa using hn⟩
    | i n =>
      simp only [encl] at h
      cases hh : encl (q ++ [.i n]) p with
      | none => rw [hh] at h; simp at h; subst h; exact ⟨n, ⟨p, by simp⟩⟩
      | some y => rw [hh] at h; simp at h; subst h; obtain ⟨m, hm⟩ := ih hh; exact ⟨m, by simpa using hm⟩

theorem subA_where {w : World} {S : OwnS} : ∀ {p : Path} {k : Kd} {q : Path} {c : List Value} {d : k.den} {v : V} {h : Option (Nat × Nat)} {B O : Nat}, Rep w S k q c d → okP p k d → getP p k d = some v →
    subA w p k c h = some (B, O) → (encl q p = none ∧ ∃ o, h = some (B, o) ∧ o ≤ O ∧ O + v.k.size ≤ o + k.size) ∨ ∃ q1, encl q p = some q1 ∧ S q1 B := by
  intro p
  induction p with
  | nil =>
    intro k q c d v h B O _ _ hg ha
    simp only [getP, Option.some.injEq] at hg
    subst hg
    simp only [subA] at ha
    exact .inl ⟨rfl, O, ha, Nat.le_refl _, Nat.le_refl _⟩
  | cons x p ih =>
    intro k q c d v h B O hr ho hg ha
    cases x with
    | l => cases k with
      | pair a b =>
        simp only [getP, okP, subA, Rep] at hg ho hr ha
        rcases ih hr.1 ho hg ha with ⟨h1, o, h2, h3, h4⟩ | h
        · exact .inl ⟨h1, o, h2, h3, by simp only [Kd.size]; omega⟩
        · exact .inr h
      | _ => simp [getP] at hg
    | r => cases k with
      | pair a b =>
        simp only [getP, okP, subA, Rep] at hg ho hr ha
        rcases ih hr.2 ho hg ha with ⟨h1, o, h2, h3, h4⟩ | h
        · cases h with
          | none => simp at h2
          | some y =>
            obtain ⟨b0, o0⟩ := y
            simp only [Option.map_some, Option.some.injEq, Prod.mk.injEq] at h2
            obtain ⟨rfl, rfl⟩ := h2
            exact .inl ⟨h1, o0, rfl, by omega, by simp only [Kd.size]; omega⟩
        · exact .inr h
      | _ => simp [getP] at hg
    | i n => cases k with
      | slice e =>
        simp only [getP, okP, Rep] at hg ho hr
        rcases hr with ⟨_, hr⟩ | ⟨b, off, cap, hc, hl, hs, hb, he⟩
        · subst hr; simp at ho
        · subst hc
          have he' := he n ho.1
          rw [← at_eq ho.1] at he'
          simp only [subA] at ha
          rcases ih he' ho.2 hg ha with ⟨h1, o, h2, h3, h4⟩ | ⟨q1, h1, h2⟩
          · simp only [Option.some.injEq, Prod.mk.injEq] at h2
            obtain ⟨rfl, rfl⟩ := h2
            exact .inr ⟨q, by simp [encl, h1], hs⟩
          · exact .inr ⟨q1, by simp [encl, h1], h2⟩
      | _ => simp [getP] at hg

theorem prefix_l_r {q x : Path} (h1 : q ++ [.l] <+: x) (h2 : q ++ [.r] <+: x) : False := by
  have := List.prefix_of_prefix_length_le h1 h2 (by simp)
  have := List.IsPrefix.eq_of_length this (by simp)
  simp at this
theorem prefix_i_i {q x : Path} {m n : Nat} (h1 : q ++ [.i m] <+: x) (h2 : q ++ [.i n] <+: x) : m = n := by
  have := List.prefix_of_prefix_length_le h1 h2 (by simp)
  have := List.IsPrefix.eq_of_length this (by simp)
  simpa using this
theorem not_prefix_self {q : Path} {s : St} (h : q ++ [s] <+: q) : False := by
  have := h.length_le
  simp only [List.length_append, List.length_cons, List.length_nil] at this
  omega

theorem cast?_k {k : Kd} {v : V} {d : k.den} (h : cast? k v = some d) : v.k = k := by
  unfold cast? at h
  split at h
  · assumption
  · simp at h
theorem cast?_eq {k : Kd} {v : V} {d : k.den} (h : cast? k v = some d) : v = ⟨k, d⟩ := by
  unfold cast? at h
  split at h
  · rename_i e
    obtain ⟨k', d'⟩ := v
    subst e
    simp only [Option.some.injEq] at h
    subst h
    rfl
  · simp at h

theorem rep_store {w w' : World} {S : OwnS} {B O : Nat} {x : List Value} {y : V} (hp : Put w w' B O x) : ∀ {p : Path} {k : Kd} {q : Path} {c : List Value} {d : k.den} {v : V} {h : Option (Nat × Nat)} {d' : k.den},
    Rep w S k q c d → okP p k d → getP p k d = some v → v.k.size = x.length → subA w p k c h = some (B, O) →
    (∀ b o, h = some (b, o) → c = cellsAt w b o k.size ∧ BlockOk w b (o + k.size)) →
    (∀ b o, h = some (b, o) → ∀ q', q <+: q' → ¬ S q' b) →
    (∀ n q1 q2 b, q1 ++ [.i n] <+: q ++ p → S q1 b → S q2 b → q1 = q2) →
    setP p k d y = some d' → Rep w' S y.k (q ++ p) x y.d →
    Rep w' S k q (match h with | some (b, o) => cellsAt w' b o k.size | none => c) d' := by
  intro p
  induction p with
  | nil =>
    intro k q c d v h d' hr _ hg hv ha hh _ _ hset hy
    simp only [getP, Option.some.injEq] at hg
    subst hg
    simp only [subA] at ha
    subst ha
    simp only [setP] at hset
    have := cast?_eq hset
    subst this
    simp only [List.append_nil] at hy
    simp only at hv
    rw [hv]
    simp only
    rw [hp.cells_same]
    exact hy
  | cons s p ih =>
    intro k q c d v h d' hr ho hg hv ha hh hn hinj hset hy
    have hwhere := subA_where hr ho hg ha
    cases s with
    | l => cases k with
      | pair a b =>
        simp only [getP, okP, subA, Rep, setP, Option.map_eq_some_iff] at hg ho hr ha hset
        obtain ⟨z, hz, rfl⟩ := hset
        have hh1 : ∀ b' o, h = some (b', o) → c.take a.size = cellsAt w b' o a.size ∧ BlockOk w b' (o + a.size) := by
          intro b' o e
          obtain ⟨h1, h2⟩ := hh b' o e
          simp only [Kd.size] at h1 h2
          refine ⟨?_, ?_⟩
          · rw [h1]; unfold cellsAt; split <;> simp [List.take_take]
          · obtain ⟨cs, T, fr, hx, hy⟩ := h2; exact ⟨cs, T, fr, hx, by omega⟩
        have key := ih (v := v) (h := h) (d' := z) hr.1 ho hg hv ha hh1 (fun b' o e q' hq => hn b' o e q' ((List.prefix_append _ _).trans hq)) (by simpa using hinj) hz (by simpa using hy)
        have hB : ∀ q' b', q ++ [.r] <+: q' → S q' b' → b' ≠ B := by
          intro q' b' hq hs e
          subst e
          rcases hwhere with ⟨_, o, h2, _⟩ | ⟨q1, h1, h2⟩
          · exact hn _ o h2 q' ((List.prefix_append _ _).trans hq) hs
          · obtain ⟨m, hm⟩ := encl_step h1
            have := hinj m q1 q' _ hm h2 hs
            subst this
            exact prefix_l_r (encl_prefix (p := p) (q := q ++ [.l]) h1) hq
        have hrr : Rep w' S b (q ++ [.r]) (c.drop a.size) d.2 := hr.2.frame fun q' b' hq hs _ => ⟨hp.other b' (hB q' b' hq hs), hs⟩
        simp only [Rep]
        cases h with
        | none =>
          have hl := hr.1.length
          simp only at key ⊢
          exact ⟨key, hrr⟩
        | some hb =>
          obtain ⟨b0, o0⟩ := hb
          simp only at key ⊢
          obtain ⟨h1, h2⟩ := hh b0 o0 rfl
          simp only [Kd.size] at h1 h2
          have e1 : (cellsAt w' b0 o0 (Kd.pair a b).size).take a.size = cellsAt w' b0 o0 a.size := by
            simp only [Kd.size]; unfold cellsAt; split <;> simp [List.take_take]
          have e2 : (cellsAt w' b0 o0 (Kd.pair a b).size).drop a.size = c.drop a.size := by
            have f1 : (cellsAt w' b0 o0 (Kd.pair a b).size).drop a.size = cellsAt w' b0 (o0 + a.size) b.size := by
              simp only [Kd.size]; unfold cellsAt
              split
              · rw [List.drop_take, List.drop_drop]; congr 1; omega
              · simp
            have f2 : c.drop a.size = cellsAt w b0 (o0 + a.size) b.size := by
              rw [h1]; unfold cellsAt
              split
              · rw [List.drop_take, List.drop_drop]; congr 1; omega
              · simp
            rw [f1, f2]
            apply hp.cells_other
            rcases hwhere with ⟨_, o, k2, k3, k4⟩ | ⟨q1, k1, k2⟩
            · simp only [Option.some.injEq, Prod.mk.injEq] at k2
              obtain ⟨rfl, rfl⟩ := k2
              rcases subA_where hr.1 ho hg ha with ⟨_, o, k5, k6, k7⟩ | ⟨q1, k5, k6⟩
              · simp only [Option.some.injEq, Prod.mk.injEq] at k5
                obtain ⟨-, rfl⟩ := k5
                exact .inr (.inr (by omega))
              · exact absurd k6 (hn _ _ rfl q1 ((List.prefix_append _ _).trans (encl_prefix k5)))
            · left
              intro e
              subst e
              exact hn _ _ rfl q1 (encl_prefix k1) k2
          exact ⟨by rw [e1]; exact key, by rw [e2]; exact hrr⟩
      | _ => simp [getP] at hg
    | r => cases k with
      | pair a b =>
        simp only [getP, okP, subA, Rep, setP, Option.map_eq_some_iff] at hg ho hr ha hset
        obtain ⟨z, hz, rfl⟩ := hset
        have hh1 : ∀ b' o, h.map (fun x => (x.1, x.2 + a.size)) = some (b', o) → c.drop a.size = cellsAt w b' o b.size ∧ BlockOk w b' (o + b.size) := by
          intro b' o e
          cases h with
          | none => simp at e
          | some hb =>
            obtain ⟨b0, o0⟩ := hb
            simp only [Option.map_some, Option.some.injEq, Prod.mk.injEq] at e
            obtain ⟨rfl, rfl⟩ := e
            obtain ⟨h1, h2⟩ := hh b0 o0 rfl
            simp only [Kd.size] at h1 h2
            refine ⟨?_, ?_⟩
            · rw [h1]; unfold cellsAt
              split
              · rw [List.drop_take, List.drop_drop]; congr 1; omega
              · simp
            · obtain ⟨cs, T, fr, hx, hy⟩ := h2; exact ⟨cs, T, fr, hx, by omega⟩
        have key := ih (v := v) (h := h.map (fun x => (x.1, x.2 + a.size))) (d' := z) hr.2 ho hg hv ha hh1
          (fun b' o e q' hq => by
            cases h with
            | none => simp at e
            | some hb =>
              obtain ⟨b0, o0⟩ := hb
              simp only [Option.map_some, Option.some.injEq, Prod.mk.injEq] at e
              obtain ⟨rfl, rfl⟩ := e
              exact hn b0 o0 rfl q' ((List.prefix_append _ _).trans hq)) (by simpa using hinj) hz (by simpa using hy)
        have hB : ∀ q' b', q ++ [.l] <+: q' → S q' b' → b' ≠ B := by
          intro q' b' hq hs e
          subst e
          rcases hwhere with ⟨_, o, h2, _⟩ | ⟨q1, h1, h2⟩
          · exact hn _ o h2 q' ((List.prefix_append _ _).trans hq) hs
          · obtain ⟨m, hm⟩ := encl_step h1
            have := hinj m q1 q' _ hm h2 hs
            subst this
            exact prefix_l_r hq (encl_prefix (p := p) (q := q ++ [.r]) h1)
        have hrl : Rep w' S a (q ++ [.l]) (c.take a.size) d.1 := hr.1.frame fun q' b' hq hs _ => ⟨hp.other b' (hB q' b' hq hs), hs⟩
        simp only [Rep]
        cases h with
        | none =>
          simp only [Option.map_none] at key ⊢
          exact ⟨hrl, key⟩
        | some hb =>
          obtain ⟨b0, o0⟩ := hb
          simp only [Option.map_some] at key ha ⊢
          obtain ⟨h1, h2⟩ := hh b0 o0 rfl
          simp only [Kd.size] at h1 h2
          have e1 : (cellsAt w' b0 o0 (Kd.pair a b).size).drop a.size = cellsAt w' b0 (o0 + a.size) b.size := by
            simp only [Kd.size]; unfold cellsAt
            split
            · rw [List.drop_take, List.drop_drop]; congr 1; omega
            · simp
          have e2 : (cellsAt w' b0 o0 (Kd.pair a b).size).take a.size = c.take a.size := by
            have f1 : (cellsAt w' b0 o0 (Kd.pair a b).size).take a.size = cellsAt w' b0 o0 a.size := by
              simp only [Kd.size]; unfold cellsAt; split <;> simp [List.take_take]
            have f2 : c.take a.size = cellsAt w b0 o0 a.size := by
              rw [h1]; unfold cellsAt; split <;> simp [List.take_take]
            rw [f1, f2]
            apply hp.cells_other
            rcases hwhere with ⟨_, o, k2, k3, k4⟩ | ⟨q1, k1, k2⟩
            · simp only [Option.some.injEq, Prod.mk.injEq] at k2
              obtain ⟨rfl, rfl⟩ := k2
              rcases subA_where hr.2 ho hg ha with ⟨_, o, k5, k6, k7⟩ | ⟨q1, k5, k6⟩
              · simp only [Option.some.injEq, Prod.mk.injEq] at k5
                obtain ⟨-, rfl⟩ := k5
                exact .inr (.inl (by omega))
              · exact absurd k6 (hn _ _ rfl q1 ((List.prefix_append _ _).trans (encl_prefix k5)))
            · left
              intro e
              subst e
              exact hn _ _ rfl q1 (encl_prefix k1) k2
          exact ⟨by rw [e2]; exact hrl, by rw [e1]; exact key⟩
      | _ => simp [getP] at hg
    | i n => cases k with
      | slice e =>
        have hr0 := hr
        simp only [getP, okP, Rep, setP, Option.map_eq_some_iff] at hg ho hr hset
        obtain ⟨z, hz, rfl⟩ := hset
        rcases hr with ⟨_, hr⟩ | ⟨b, off, cap, hc, hl, hs, hb, he⟩
        · subst hr; simp at ho
        · subst hc
          have he' := he n ho.1
          rw [← at_eq ho.1] at he'
          simp only [subA] at ha
          have hsz : off + n * e.size + e.size ≤ off + cap * e.size := by
            have h1 : (n + 1) * e.size ≤ cap * e.size := Nat.mul_le_mul_right _ (by have := ho.1; omega)
            rw [Nat.add_mul] at h1
            omega
          have hqi : ∀ q2, S q2 b → q = q2 := fun q2 h2 => hinj n q q2 b ⟨p, by simp⟩ hs h2
          have key := ih (v := v) (h := some (b, off + n * e.size)) (d' := z) he' ho.2 hg hv ha
            (fun b' o' ee => by
              simp only [Option.some.injEq, Prod.mk.injEq] at ee
              obtain ⟨rfl, rfl⟩ := ee
              refine ⟨rfl, ?_⟩
              obtain ⟨cs, T, fr, hx, hy⟩ := hb
              exact ⟨cs, T, fr, hx, by omega⟩)
            (fun b' o' ee q' hq hs' => by
              simp only [Option.some.injEq, Prod.mk.injEq] at ee
              obtain ⟨rfl, rfl⟩ := ee
              have := hqi q' hs'
              subst this
              exact not_prefix_self hq) (by simpa using hinj) hz (by simpa using hy)
          simp only at key
          have hB : ∀ m q' b', m ≠ n → q ++ [.i m] <+: q' → S q' b' → b' ≠ B := by
            intro m q' b' hmn hq hs' ee
            subst ee
            rcases subA_where he' ho.2 hg ha with ⟨_, o, h2, _⟩ | ⟨q1, h1, h2⟩
            · simp only [Option.some.injEq, Prod.mk.injEq] at h2
              obtain ⟨rfl, rfl⟩ := h2
              have := hqi q' hs'
              subst this
              exact not_prefix_self hq
            · obtain ⟨j, hj⟩ := encl_step h1
              have := hinj j q1 q' _ (by simpa using hj) h2 hs'
              subst this
              exact hmn (prefix_i_i hq (encl_prefix h1))
          have hcells : ∀ m, m ≠ n → cellsAt w' b (off + m * e.size) e.size = cellsAt w b (off + m * e.size) e.size := by
            intro m hmn
            apply hp.cells_other
            rcases subA_where he' ho.2 hg ha with ⟨_, o, h2, h3, h4⟩ | ⟨q1, h1, h2⟩
            · simp only [Option.some.injEq, Prod.mk.injEq] at h2
              obtain ⟨rfl, rfl⟩ := h2
              right
              rcases Nat.lt_or_gt_of_ne hmn with hlt | hgt
              · left
                have : (m + 1) * e.size ≤ n * e.size := Nat.mul_le_mul_right _ hlt
                rw [Nat.add_mul] at this
                omega
              · right
                have : (n + 1) * e.size ≤ m * e.size := Nat.mul_le_mul_right _ hgt
                rw [Nat.add_mul] at this
                omega
            · left
              intro ee
              subst ee
              have := hqi q1 h2
              subst this
              exact not_prefix_self (encl_prefix h1)
          have goal : Rep w' S (.slice e) q [.slice (some ⟨b, off, none⟩) (List.length d) cap] (List.set d n z) := by
            simp only [Rep]
            refine .inr ⟨b, off, cap, by simp, by simpa using hl, hs, hp.block hb, fun m hm => ?_⟩
            simp only [List.length_set] at hm
            by_cases hmn : m = n
            · subst hmn
              simp only [List.get_eq_getElem, List.getElem_set_self]
              exact key
            · rw [hcells m hmn]
              have := he m hm
              simp only [List.get_eq_getElem, ne_eq, Ne.symm hmn, not_false_eq_true, List.getElem_set_ne] at this ⊢
              exact this.frame fun q' b' hq hs' _ => ⟨hp.other b' (hB m q' b' hmn hq hs'), hs'⟩
          cases h with
          | none => simpa using goal
          | some hb0 =>
            obtain ⟨b0, o0⟩ := hb0
            obtain ⟨h1, h2⟩ := hh b0 o0 rfl
            simp only
            have : cellsAt w' b0 o0 (Kd.slice e).size = cellsAt w b0 o0 (Kd.slice e).size := by
              apply hp.cells_other
              left
              intro ee
              subst ee
              rcases hwhere with ⟨k1, _⟩ | ⟨q1, k1, k2⟩
              · simp only [encl] at k1
                cases hx : encl (q ++ [St.i n]) p <;> simp [hx] at k1
              · exact hn _ _ rfl q1 (encl_prefix k1) k2
            rw [this, ← h1]
            exact goal
      | _ => simp [getP] at hg
end Go.V
