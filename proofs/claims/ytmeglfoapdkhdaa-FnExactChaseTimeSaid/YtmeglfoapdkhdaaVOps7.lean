/- The operations' soundness, seventh part: store. -/
import Derived.Test.YtmeglfoapdkhdaaVOps6
set_option linter.unusedVariables false
set_option linter.unusedSimpArgs false
namespace Go.V

theorem encl_lev {p q x : Path} (h : encl q p = some x) : lev x < lev (q ++ p) := by
  obtain ⟨n, t, ht⟩ := encl_step h
  rw [← ht, lev_append, lev_append]
  simp [lev]
  omega

theorem setP_get : ∀ {p : Path} {k : Kd} {d d' : k.den} {y : V}, setP p k d y = some d' → ∃ z, getP p k d = some z ∧ z.k = y.k := by
  intro p
  induction p with
  | nil => intro k d d' y h; simp only [setP] at h; exact ⟨⟨k, d⟩, rfl, (cast?_k h).symm⟩
  | cons s p ih =>
    intro k d d' y h
    cases s with
    | l => cases k with
      | pair a b => simp only [setP, Option.map_eq_some_iff] at h; obtain ⟨z, hz, _⟩ := h; simp only [getP]; exact ih hz
      | _ => simp [setP] at h
    | r => cases k with
      | pair a b => simp only [setP, Option.map_eq_some_iff] at h; obtain ⟨z, hz, _⟩ := h; simp only [getP]; exact ih hz
      | _ => simp [setP] at h
    | i n => cases k with
      | slice e => simp only [setP, Option.map_eq_some_iff] at h; obtain ⟨z, hz, _⟩ := h; simp only [getP]; exact ih hz
      | _ => simp [setP] at h

/-- Owners after a store into the root r at p, the root r0 having been given up for it. -/
def stφ (φ : Nat → Option (Bool × Nat × Path)) (r dep' : Nat) (p : Path) (ro : Option (Nat × Path)) : Nat → Option (Bool × Nat × Path) := fun b =>
  match φ b with
  | some (false, r', q) =>
    if r' = r then (if lev q < dep' then some (false, r, q) else none)
    else if ro = some (r', []) then (if lev (p ++ q) < dep' then some (false, r, p ++ q) else none)
    else some (false, r', q)
  | x => x

def atHome (w : World) (k : Kd) (c : List Value) : Option (Nat × Nat) → List Value
  | some (b, o) => cellsAt w b o k.size
  | none => c

section
variable {P : Program} {Γ : Ctx} {Kp : Keep} {B0 : World} {n : Nat} {G : Gh} {s : State} {a : Act} {w w' : World} {id : Nat} {o : Oper} {Q : Exit → Act → World → Prop} {ws : Writes}

theorem stφ_none {φ : Nat → Option (Bool × Nat × Path)} {r dep' : Nat} {p : Path} {ro : Option (Nat × Path)} {b : Nat} (h : φ b = none) : stφ φ r dep' p ro b = none := by simp [stφ, h]
theorem stφ_box {φ : Nat → Option (Bool × Nat × Path)} {r dep' : Nat} {p q : Path} {ro : Option (Nat × Path)} {b r' : Nat} (h : φ b = some (true, r', q)) : stφ φ r dep' p ro b = some (true, r', q) := by simp [stφ, h]
theorem stφ_own {φ : Nat → Option (Bool × Nat × Path)} {r dep' : Nat} {p q : Path} {ro : Option (Nat × Path)} {b : Nat} (h : φ b = some (false, r, q)) : stφ φ r dep' p ro b = if lev q < dep' then some (false, r, q) else none := by simp [stφ, h]
theorem stφ_from {φ : Nat → Option (Bool × Nat × Path)} {r dep' : Nat} {p q : Path} {b r0 : Nat} (h : φ b = some (false, r0, q)) (hn : r0 ≠ r) : stφ φ r dep' p (some (r0, [])) b = if lev (p ++ q) < dep' then some (false, r, p ++ q) else none := by simp [stφ, h, hn]
theorem stφ_other {φ : Nat → Option (Bool × Nat × Path)} {r dep' : Nat} {p q : Path} {ro : Option (Nat × Path)} {b r' : Nat} (h : φ b = some (false, r', q)) (hn : r' ≠ r) (h0 : ro ≠ some (r', [])) : stφ φ r dep' p ro b = some (false, r', q) := by simp [stφ, h, hn, h0]
theorem stφ_some {φ : Nat → Option (Bool × Nat × Path)} {r dep' : Nat} {p : Path} {ro : Option (Nat × Path)} {b : Nat} {x : Bool × Nat × Path} (h : stφ φ r dep' p ro b = some x) : ∃ y, φ b = some y := by
  cases hb : φ b with
  | none => rw [stφ_none hb] at h; cases h
  | some y => exact ⟨y, rfl⟩

/-- A part of a root turned, the world with it. -/
theorem store_core' (g : GOk Kp G s a w) {r : Nat} {k : Kd} {y y' : k.den} {dep : Nat} {box : Bool} {ver : Nat} (hs : s (rt r) = .root k y dep box false ver) {p : Path} {v : V} {cs : List Value} {ro : Option (Nat × Path)}
    (hros : ∀ r' p', ro = some (r', p') → s (rt r') = .dead) (hlen0 : cs.length = v.k.size) (hm : lev p ≤ dep) (hset : setP p k y v = some y') (hok : okP p k y) {B O : Nat} (hA : subA w p k (G.C r) (home G r box) = some (B, O))
    {dep' : Nat} (hd1 : dep' ≤ dep) (hd2 : lev p ≤ dep') (hput : Put w w' B O cs)
    (hnew : ∀ _ : (∀ b r' f q, G.φ b = some (f, r', q) → r' ≠ r → b ≠ B) ∧ (∀ b, G.φ b = none → b ≠ B) ∧ (∀ b q1, G.φ b = some (false, r, q1) → b = B → lev q1 < lev p), Rep w' (ownS (stφ G.φ r dep' p ro) r dep') v.k p cs v.d) {dst : Option Nat} (hdst : ∀ d, dst = some d → d < a.tmps.size) (hheap : w'.heap.size = w.heap.size) :
    (∃ z, G.φ B = some z) ∧ ∃ G', GOk Kp G' ((s.set (rt r) (.root k y' dep' box false (ver + 1))).put (slotW dst .none)) (a.put dst undef) w' := by
  obtain ⟨z, hz, hzk⟩ := setP_get hset
  have hro := g.roots r
  rw [hs] at hro
  -- the block is the root's
  have hB : (G.φ B = some (true, r, []) ∧ B = G.β r ∧ box = true ∧ encl [] p = none) ∨ ∃ q1, encl [] p = some q1 ∧ lev q1 < lev p ∧ G.φ B = some (false, r, q1) := by
    rcases subA_where hro.1 hok hz hA with ⟨h1, o', h2, h3, h4⟩ | ⟨q1, h1, h2⟩
    · left
      unfold home at h2
      cases box with
      | false => simp at h2
      | true =>
        simp only [cond_true, Option.some.injEq, Prod.mk.injEq] at h2
        obtain ⟨h2, _⟩ := h2
        have := (hro.2 rfl).2
        simp only [Bool.false_eq_true, if_false] at this
        exact ⟨by rw [← h2]; exact this, h2.symm, rfl, h1⟩
    · right
      have hl := encl_lev h1
      rw [List.nil_append] at hl
      refine ⟨q1, h1, hl, ?_⟩
      rcases ownS_lev h2 with ⟨_, h⟩ | ⟨h, _⟩
      · exact h
      · omega
  have hBs : ∃ f q, G.φ B = some (f, r, q) := by
    rcases hB with ⟨h, _⟩ | ⟨q1, _, _, h⟩
    · exact ⟨_, _, h⟩
    · exact ⟨_, _, h⟩
  obtain ⟨fB, qB, hBs⟩ := hBs
  refine ⟨⟨_, hBs⟩, ?_⟩
  have hBo : ∀ b r' f q, G.φ b = some (f, r', q) → r' ≠ r → b ≠ B := fun b r' f q h hn e => by
    subst e; rw [hBs] at h; injection h with h; injection h with _ h; injection h with h _; exact hn h.symm
  have hBn : ∀ b, G.φ b = none → b ≠ B := fun b h e => by subst e; rw [hBs] at h; cases h
  have hrn : ∀ r' p', ro = some (r', p') → r' ≠ r := fun r' p' e h => by
    have := hros r' p' e
    subst h
    rw [hs] at this
    cases this
  have hout : ∀ b, G.φ b = none → b < w.heap.size → stφ G.φ r dep' p ro b = none ∧ w'.heap[b]? = w.heap[b]? := fun b h _ => ⟨stφ_none h, hput.other b (hBn b h)⟩
  -- the root's cells, read by the new owners
  have hrep0 : Rep w (ownS (stφ G.φ r dep' p ro) r dep') k [] (G.C r) y := hro.1.frame fun q b _ h _ => by
    refine ⟨rfl, ?_⟩
    rcases ownS_lev h with ⟨hl, h⟩ | ⟨hl, h⟩
    · by_cases hlt : lev q < dep'
      · simp only [ownS, hlt, if_true]; rw [stφ_own h, if_pos hlt]
      · simp only [ownS, hlt, if_false]; rw [stφ_own h, if_neg hlt]
    · have hlt : ¬ lev q < dep' := by omega
      simp only [ownS, hlt, if_false]; exact stφ_none h
  have hnew := hnew ⟨hBo, hBn, fun b q1 hq he => by
    subst he
    rcases hB with ⟨h, _⟩ | ⟨q2, _, h2, h⟩
    · rw [hq] at h; cases h
    · rw [hq] at h
      simp only [Option.some.injEq, Prod.mk.injEq, true_and] at h
      rw [h]; exact h2⟩
  have hlen : z.k.size = cs.length := by rw [hzk, hlen0]
  have hst := rep_store hput hrep0 hok hz hlen hA (home_ok hro)
    (fun b o' e q' _ => by
      intro hc
      unfold home at e
      cases box with
      | false => simp at e
      | true =>
        simp only [cond_true, Option.some.injEq, Prod.mk.injEq] at e
        obtain ⟨e, _⟩ := e
        have hb := (hro.2 rfl).2
        simp only [Bool.false_eq_true, if_false] at hb
        rw [e] at hb
        unfold ownS at hc
        rw [stφ_box hb] at hc
        split at hc <;> simp at hc)
    (fun m q1 q2 b h1 h2 h3 => by
      have hl1 : lev q1 < dep' := by
        have h1l : lev (q1 ++ [St.i m]) ≤ lev p := by
          obtain ⟨t, ht⟩ := h1
          rw [List.nil_append] at ht
          rw [← ht, lev_append (q1 ++ [St.i m]) t]
          omega
        rw [lev_append] at h1l
        simp only [lev] at h1l
        omega
      unfold ownS at h2 h3
      rw [if_pos hl1] at h2
      rw [h2] at h3
      split at h3
      · simp only [Option.some.injEq, Prod.mk.injEq] at h3; exact h3.2.2
      · cases h3)
    hset (by simpa using hnew)
  have hst : Rep w' (ownS (stφ G.φ r dep' p ro) r dep') k [] (atHome w' k (G.C r) (home G r box)) y' := by
    cases hq : home G r box with
    | none => rw [hq] at hst; exact hst
    | some x => rw [hq] at hst; exact hst
  -- the new ghosts
  refine ⟨⟨stφ G.φ r dep' p ro, fun r' => if r' = r then (atHome w' k (G.C r) (home G r box)) else G.C r', G.β⟩, ?_⟩
  have hs2 : ∀ r', r' ≠ r → ((s.set (rt r) (.root k y' dep' box false (ver + 1))).put (slotW dst .none)) (rt r') = s (rt r') := by
    intro r' hr'
    cases dst with
    | none => simp only [slotW, State.put]; exact State.set_other _ _ (fun h => hr' (rt_inj h))
    | some d => simp only [slotW, State.put]; rw [State.set_other _ _ (sl_rt d r').symm, State.set_other _ _ (fun h => hr' (rt_inj h))]
  have hs2r : ((s.set (rt r) (.root k y' dep' box false (ver + 1))).put (slotW dst .none)) (rt r) = .root k y' dep' box false (ver + 1) := by
    cases dst with
    | none => simp only [slotW, State.put]; exact State.set_same _ _ _
    | some d => simp only [slotW, State.put]; rw [State.set_other _ _ (sl_rt d r).symm, State.set_same]
  refine g.step ?_ dst undef (fun t ht => ?_) (fun d hd => ?_) (fun r' => ?_) ⟨fun b x hx => ?_, fun b x hx => ?_, fun b hx => ?_⟩
  · refine ⟨hout, fun r' k' d' dep1 box' frz' ver' h => ?_, fun r' h => ?_⟩
    · by_cases e : r' = r
      · subst e
        rw [hs] at h
        simp only [Cell.root.injEq] at h
        obtain ⟨rfl, _, rfl, rfl, rfl, rfl⟩ := h
        exact .inr ⟨_, _, _, _, hs2r, rfl, (fun hb => by
          rcases hb with hb | hb
          · subst hb; simp [home, atHome]
          · cases hb), fun h => h, .inr (Nat.lt_succ_self _)⟩
      · refine .inr ⟨d', dep1, frz', ver', (hs2 r' e).trans h, rfl, fun _ => by simp [e], fun h => h, .inl ⟨rfl, rfl, by simp [e], fun q b hb => hput.other b (hBo b r' _ _ hb e), fun q b _ hq => by
          rcases ownS_lev hq with ⟨hl, hq⟩ | ⟨hl, hq⟩
          · simp only [ownS, hl, if_true]; exact stφ_other hq e (fun h0 => by have := hros r' [] h0; rw [h] at this; cases this)
          · simp only [ownS, Nat.not_lt.2 hl, if_false]; exact stφ_none hq⟩⟩
    · have e : r' ≠ r := fun e => by subst e; rw [hs] at h; cases h
      exact (hs2 r' e).trans h
  · cases dst with
    | none => simp only [slotW, State.put]; exact State.set_other _ _ (sl_rt t r)
    | some d =>
      simp only [slotW, State.put]
      rw [State.set_other _ _ (fun h => ht (by rw [sl_inj h])), State.set_other _ _ (sl_rt t r)]
  · subst hd
    refine ⟨hdst d rfl, ?_⟩
    simp only [slotW, State.put, State.set_same]
    trivial
  · by_cases e : r' = r
    · subst e
      rw [hs2r]
      refine ⟨by simpa using hst, fun hb => ?_⟩
      subst hb
      obtain ⟨⟨cs0, T, e1, e2⟩, e3⟩ := hro.2 rfl
      simp only [Bool.false_eq_true, if_false] at e3 ⊢
      refine ⟨?_, stφ_box e3⟩
      have hl0 := hro.1.length
      simp only [if_true, home, cond_true, atHome]
      by_cases eB : G.β r' = B
      · obtain ⟨c1, c2, T1, fr, k1, k2, k3, k4⟩ := hput.here
        rw [← eB, e1] at k1
        injection k1 with k1
        injection k1 with k1 k1' k1''
        subst k1 k1' k1''
        refine ⟨c2, T, by rw [eB]; exact k2, ?_⟩
        have hl2 : c2.toList.length = k.size := by
          rw [k4, ← hl0, ← e2]
          simp only [List.length_append, List.length_take, List.length_drop, Array.length_toList]
          omega
        unfold cellsAt
        rw [eB, k2]
        simp only [List.drop_zero]
        rw [List.take_of_length_le (by omega)]
      · refine ⟨cs0, T, by rw [hput.other _ eB]; exact e1, ?_⟩
        unfold cellsAt
        rw [hput.other _ eB, e1]
        simp only [List.drop_zero]
        rw [List.take_of_length_le (by rw [e2]; omega)]
    · rw [hs2 r' e]
      have hk := g.roots r'
      cases hc : s (rt r') with
      | root k' d' dep1 box' frz' ver' =>
        rw [hc] at hk
        refine RootOk.keep hk hout (by simp [e]) rfl (fun b f q hb => ⟨?_, hput.other b (hBo b r' _ _ hb e)⟩)
        cases f with
        | true => exact stφ_box hb
        | false => exact stφ_other hb e (fun h => by have := hros r' [] h; rw [hc] at this; cases this)
      | _ => trivial
  · obtain ⟨y1, hy1⟩ := stφ_some hx
    rcases g.col.col b y1 hy1 with e | ⟨h1, c1, T1, h2⟩
    · subst e
      have hb := stφ_box (r := r) (dep' := dep') (p := p) (ro := ro) hy1
      exact .inl (Option.some.inj (hx.symm.trans hb))
    refine .inr ⟨h1, ?_⟩
    by_cases e : b = B
    · subst e
      obtain ⟨c2, c3, T2, fr, k1, k2, _, _⟩ := hput.here
      rw [h2] at k1
      injection k1 with k1
      injection k1 with _ k1' k1''
      subst k1' k1''
      exact ⟨c3, _, k2⟩
    · exact ⟨c1, T1, (hput.other b e).trans h2⟩
  · obtain ⟨y1, hy1⟩ := stφ_some hx
    rw [hheap]
    exact g.col.lt b y1 hy1
  · exact stφ_box (g.col.out b hx)

theorem store_core (g : GOk Kp G s a w) {r : Nat} {k : Kd} {y y' : k.den} {dep : Nat} {box : Bool} {ver : Nat} (hs : s (rt r) = .root k y dep box false ver) {p : Path} {v : V} {cs : List Value} {dp : Nat} {ro : Option (Nat × Path)}
    (hh : Holds G w s v cs dp ro) (hro0 : ∀ r' p', ro = some (r', p') → p' = []) (hm : lev p ≤ dep) (hset : setP p k y v = some y') (hok : okP p k y) {B O : Nat} (hA : subA w p k (G.C r) (home G r box) = some (B, O))
    {dep' : Nat} (hdep : dep' = bif v.k.flat then dep else min dep (lev p + dp)) (hput : Put w w' B O cs) {dst : Option Nat} (hdst : ∀ d, dst = some d → d < a.tmps.size) (hheap : w'.heap.size = w.heap.size) :
    (∃ z, G.φ B = some z) ∧ ∃ G', GOk Kp G' ((s.set (rt r) (.root k y' dep' box false (ver + 1))).put (slotW dst .none)) (a.put dst undef) w' := by
  have hd1 : dep' ≤ dep := by rw [hdep]; cases v.k.flat <;> simp only [cond_true, cond_false] <;> omega
  have hd2 : lev p ≤ dep' := by rw [hdep]; cases v.k.flat <;> simp only [cond_true, cond_false] <;> omega
  have hros : ∀ r' p', ro = some (r', p') → s (rt r') = .dead := fun r' p' e => by
    cases hh with
    | free _ _ => cases e
    | shared _ => cases e
    | dead r1 p1 _ h1 _ => injection e with e; injection e with e _; subst e; exact h1
  have hrn : ∀ r' p', ro = some (r', p') → r' ≠ r := fun r' p' e h => by
    have := hros r' p' e
    subst h
    rw [hs] at this
    cases this
  refine store_core' g hs hros hh.length hm hset hok hA hd1 hd2 hput (fun ⟨hBo, hBn, _⟩ => ?_) hdst hheap
  · by_cases hf : v.k.flat = true
    · exact hh.flat hf _ _ _
    · have hdep2 : dep' = min dep (lev p + dp) := by rw [hdep]; simp [hf]
      cases hh with
      | free _ h => exact (h.move (q' := p) (S' := noS) fun _ _ hs _ => hs.elim).frame fun q b _ hs _ => hs.elim
      | shared h =>
        refine (h.move (q' := p) (S' := fun q b => dep' ≤ lev q ∧ G.φ b = none) fun q b hs _ => ⟨by rw [lev_append]; omega, hs⟩).frame fun q b _ hs _ => ?_
        refine ⟨hput.other b (hBn b hs.2), ?_⟩
        simp only [ownS, Nat.not_lt.2 hs.1, if_false]
        exact stφ_none hs.2
      | dead r0 p0 _ hr h =>
        have hp0 := hro0 r0 p0 rfl
        subst hp0
        have hne := hrn r0 [] rfl
        refine (h.move (q' := p) (S' := fun q b => b ≠ B ∧ ownS (stφ G.φ r dep' p (some (r0, []))) r dep' q b) fun q b hs _ => ?_).frame fun q b _ hs _ => ⟨hput.other b hs.1, hs.2⟩
        have hla := lev_append p q
        rcases ownS_lev hs with ⟨hl, hs⟩ | ⟨hl, hs⟩
        · refine ⟨hBo b r0 _ _ hs hne, ?_⟩
          by_cases hlt : lev (p ++ q) < dep'
          · simp only [ownS, hlt, if_true]
            rw [stφ_from hs hne]
            simp [hlt]
          · simp only [ownS, hlt, if_false]
            rw [stφ_from hs hne]
            simp [hlt]
        · refine ⟨hBn b hs, ?_⟩
          have hlt : ¬ lev (p ++ q) < dep' := by
            simp only [List.nil_append, lev] at hl
            omega
          simp only [ownS, hlt, if_false]
          exact stφ_none hs

/-- What was appended comes back to its place. -/
theorem store_apd (S : Set_ P Γ Kp B0 n G s a w o) {t : TypeId} {x y : Operand} (ho : o.op = .store t x y) {r r' ver ver1 : Nat} {p p' : Path} {e : Kd} {l : List e.den} (hc : CellOk G w s (a.eval x) (.ptr r p ver)) (h2 : (rdOp Γ t y).out s = some (.apd r' p' ver1 e l))
    (h : (bif Nat.beq r r' && decide (p = p') then (kindIs Γ t (.slice e)).bind fun _ => .rd (rt r) fun
            | .root k y dep true false ver' => bif Nat.beq ver1 ver' && noIdx p then (Rd.opt (setP p k y ⟨.slice e, l⟩)).bind fun y' => .ret ([(rt r, .root k y' dep true false (ver' + 1))] ++ slotW o.dst .none) else .fail
            | _ => .fail
          else .fail : Rd Writes).out s = some ws) (hok : dstOk o ws = true) :
    o.wp P a w (fun a' w' => Inv Kp B0 n (s.put ws) a' w') Q := by
  simp only [bif_out] at h
  rcases bif_some h with ⟨h0, hh⟩ | ⟨_, h⟩
  · clear h
    simp only [Bool.and_eq_true, decide_eq_true_eq] at h0
    obtain ⟨hrr, rfl⟩ := h0
    have hrr := Nat.eq_of_beq_eq_true hrr
    subst hrr
    rw [Rd.out_bind, Option.bind_eq_some_iff] at hh
    obtain ⟨_, h4, h⟩ := hh
    simp only [Rd.out] at h
    have hk := kindIs_ok h4
    have hca := rdOp_ok S.g h2
    simp only [CellOk] at hca
    cases hs : s (rt r) with
    | root k d dep box frz ver' =>
      rw [hs] at h hca
      cases box <;> cases frz <;> simp only [Rd.out, bif_out, reduceCtorEq] at h
      rcases bif_some h with ⟨hv, h5⟩ | ⟨_, h5⟩
      · simp only [Bool.and_eq_true] at hv
        obtain ⟨hv1, hp⟩ := hv
        have hv1 := Nat.eq_of_beq_eq_true hv1
        simp only [Rd.out_bind, Rd.out_opt, Option.bind_eq_some_iff, Rd.out, Option.some.injEq] at h5
        obtain ⟨d', h6, h7⟩ := h5
        subst h7
        obtain ⟨cs, x1, hrepv⟩ := hca.2 hv1
        obtain ⟨z, B, O, e1, e2, e3, e4, e5, e6, e7, hro⟩ := ptr_open S.g hc hs (by simp [hp])
        obtain ⟨z', hz', hzk⟩ := setP_get h6
        rw [e1] at hz'
        injection hz' with hz'
        subst hz'
        have hlen := hrepv.length
        have hlp := lev_noIdx hp
        obtain ⟨cur, T, fr, hb, hfit⟩ := e6
        have hzk : z.k = .slice e := hzk
        have hfit' : O + cs.length ≤ cur.size := by rw [hlen, ← hzk]; exact hfit
        have hBβ : B = G.β r ∧ G.φ B = some (true, r, []) := by
          rcases subA_where hro.1 e2 e1 e3 with ⟨k1, o', k2, _⟩ | ⟨q1, k1, k2⟩
          · unfold home at k2
            simp only [cond_true, Option.some.injEq, Prod.mk.injEq] at k2
            obtain ⟨k2, _⟩ := k2
            have := (hro.2 rfl).2
            simp only [Bool.false_eq_true, if_false] at this
            exact ⟨k2.symm, by rw [← k2]; exact this⟩
          · have hl := encl_lev k1
            rw [List.nil_append] at hl
            omega
        obtain ⟨hKB, cur', T', hb'⟩ := S.g.mine hBβ.2 (.inr rfl)
        rw [hb] at hb'
        injection hb' with hb'
        injection hb' with hb1 hb2 hb3
        subst hb1 hb2 hb3
        have hput := setRow_put (x := cs) hb hfit'
        obtain ⟨i, zv, hr⟩ := row_of S.tab hk
        have hone : ∀ u ∈ cs, u.oneCell' = true := rep_one hrepv
        have hcells : (a.eval y).cells = cs.toArray := by
          rw [x1]
          apply Array.ext'
          rw [mkVal_cells hrepv]
        have hrun : (execOp a.eval o).run P w =  .ok .skip (w.setRow B (cur.toList.take O ++ cs ++ cur.toList.drop (O + cs.length)).toArray) := by
          have hst := run_storeCells_at P B O T cs 0 cur w hb (by simpa using hfit') hone
          simp only [Nat.add_zero] at hst
          unfold execOp
          rw [ho]
          simp [Instr.storeAt, e4, Instr.sureAddr, storeVar, run_size hr, hcells, hlen, hst]
        obtain ⟨_, G', g'⟩ := store_core' S.g hs (v := ⟨.slice e, l⟩) (cs := cs) (ro := none) (fun _ _ h => by cases h) hlen (by omega) h6 e2 e3 (dep' := dep) (Nat.le_refl _) (by omega) hput
          (fun ⟨hBo, hBn, hBr⟩ => hrepv.frame fun q b _ hq hl => by
            rcases ownS_lev hq with ⟨k1, k2⟩ | ⟨k1, k2⟩
            · refine ⟨hput.other b (fun eq => ?_), ?_⟩
              · have := hBr b q k2 eq
                omega
              · simp only [ownS, k1, if_true]; rw [stφ_own k2, if_pos k1]
            · refine ⟨hput.other b (hBn b k2), ?_⟩
              simp only [ownS, Nat.not_lt.2 k1, if_false]; exact stφ_none k2)
          (dst := o.dst) (fun d hd => by rw [S.inv.size]; exact S.dst d hd) (setRow_size _ _ _)
        unfold Oper.wp
        rw [hrun, Oper.upon_skip]
        refine ⟨?_, ?_, ?_, G', g'⟩
        · cases o.dst <;> simp [Act.put, S.inv.defers]
        · cases o.dst <;> simp [Act.put, S.inv.size]
        · have hbase := S.inv.base
          exact ⟨hbase.os, hbase.tape, hbase.output, by rw [setRow_size]; exact hbase.size, fun b' hkb => (hput.other b' fun eq => hKB (eq ▸ hkb)).trans (hbase.kept b' hkb), hbase.old⟩
      · cases h5
    | _ => rw [hs] at h; simp [Rd.out] at h
  · simp [Rd.out] at h
theorem store_ok (S : Set_ P Γ Kp B0 n G s a w o) {t : TypeId} {x y : Operand} (ho : o.op = .store t x y) (h : (opD Γ id o).out s = some ws) (hok : dstOk o ws = true) :
    o.wp P a w (fun a' w' => Inv Kp B0 n (s.put ws) a' w') Q := by
  unfold opD at h
  rw [ho] at h
  simp only [Rd.out_bind, Option.bind_eq_some_iff] at h
  obtain ⟨c, h1, h⟩ := h
  have hc := rdB_ok S.g h1
  cases c with
  | ptr r p ver =>
    rw [Rd.out_bind, Option.bind_eq_some_iff] at h
    obtain ⟨cx, h2, h⟩ := h
    split at h
    · exact store_apd S ho hc h2 h hok
    simp only [Rd.out_bind, Option.bind_eq_some_iff, Rd.out] at h
    obtain ⟨gx, h3, u, h4, h⟩ := h
    have hk := kindIs_ok h4
    have hg := got_ok S.g (rdOp_ok S.g h2) h3
    cases hs : s (rt r) with
    | root k d dep box frz ver' =>
      rw [hs] at h
      simp only [bif_out, Rd.out_bind, Rd.out_opt] at h
      rcases bif_some h with ⟨hv, h5⟩ | ⟨_, h5⟩
      · simp only [Option.bind_eq_some_iff, Rd.out, Option.some.injEq] at h5
        obtain ⟨d', h6, h7⟩ := h5
        subst h7
        simp only [Bool.and_eq_true, decide_eq_true_eq, Bool.not_eq_true'] at hv
        obtain ⟨⟨⟨⟨hver, hfrz⟩, hm⟩, _⟩, hfi⟩ := hv
        subst hfrz
        obtain ⟨z, B, O, e1, e2, e3, e4, e5, e6, e7, hro⟩ := ptr_open S.g hc hs hver
        obtain ⟨z', hz', hzk⟩ := setP_get h6
        rw [e1] at hz'
        injection hz' with hz'
        subst hz'
        obtain ⟨G1, cs, g1, x1, hh, eC, eβ, n1, o1, m1⟩ := leave_ok S.g hg true
        simp only [cond_true] at hh
        have hs1 : (s.put (leave true gx)) (rt r) = .root k d dep box false ver' := (leave_root (fromIs_spec hfi) s).trans hs
        have hlen := hh.length
        have hro1 := g1.roots r
        rw [hs1] at hro1
        have hA : subA w p k (G1.C r) (home G1 r box) = some (B, O) := by
          rw [eC]
          unfold home
          rw [eβ]
          exact e3
        obtain ⟨cur, T, fr, hb, hfit⟩ := e6
        have hfit' : O + cs.length ≤ cur.size := by rw [hlen, ← hzk]; exact hfit
        have hBz : ∃ f q, G1.φ B = some (f, r, q) ∧ (f = false ∨ q = []) := by
          obtain ⟨zz, hzz, hzzk⟩ := setP_get h6
          have hpp : lev p ≤ dep := hm
          rcases subA_where hro1.1 e2 e1 hA with ⟨k1, o', k2, _⟩ | ⟨q1, k1, k2⟩
          · unfold home at k2
            cases box with
            | false => simp at k2
            | true =>
              simp only [cond_true, Option.some.injEq, Prod.mk.injEq] at k2
              obtain ⟨k2, _⟩ := k2
              have := (hro1.2 rfl).2
              simp only [Bool.false_eq_true, if_false] at this
              exact ⟨_, _, by rw [← k2]; exact this, .inr rfl⟩
          · have hl := encl_lev k1
            rw [List.nil_append] at hl
            rcases ownS_lev k2 with ⟨_, hq⟩ | ⟨hq, _⟩
            · exact ⟨_, _, hq, .inl rfl⟩
            · omega
        obtain ⟨fB, qB, hzB, hfB⟩ := hBz
        obtain ⟨hKB, cur', T', hb'⟩ := g1.mine hzB hfB
        rw [hb] at hb'
        injection hb' with hb'
        injection hb' with hb1 hb2 hb3
        subst hb1 hb2 hb3
        have hput := setRow_put (x := cs) hb hfit'
        obtain ⟨i, zv, hr⟩ := row_of S.tab hk
        have hone : ∀ u ∈ cs, u.oneCell' = true := by
          obtain ⟨_, _, hq⟩ := hh.rep
          exact rep_one hq
        have hrun : (execOp a.eval o).run P w =  .ok .skip (w.setRow B (cur.toList.take O ++ cs ++ cur.toList.drop (O + cs.length)).toArray) := by
          have hst := run_storeCells_at P B O T cs 0 cur w hb (by simpa using hfit') hone
          simp only [Nat.add_zero] at hst
          have hcells := hh.cells
          unfold execOp
          rw [ho]
          simp [Instr.storeAt, e4, Instr.sureAddr, storeVar, run_size hr, x1, hcells, hlen, hst]
        obtain ⟨_, G', g'⟩ := store_core g1 hs1 hh (fun r' p' e => (fromOf_nil e).1) hm h6 e2 hA (dep' := bif gx.v.k.flat then dep else min dep (lev p + gx.dp)) rfl hput (dst := o.dst) (fun d hd => by rw [S.inv.size]; exact S.dst d hd) (setRow_size _ _ _)
        unfold Oper.wp
        rw [hrun, Oper.upon_skip]
        have hws : s.put (leave true gx ++ [(rt r, .root k d' (bif gx.v.k.flat then dep else min dep (lev p + gx.dp)) box false (ver' + 1))] ++ slotW o.dst .none) =
            (((s.put (leave true gx)).set (rt r) (.root k d' (bif gx.v.k.flat then dep else min dep (lev p + gx.dp)) box false (ver' + 1))).put (slotW o.dst .none)) := by
          rw [State.put_append, State.put_append]
          rfl
        rw [hws]
        refine ⟨?_, ?_, ?_, G', g'⟩
        · cases o.dst <;> simp [Act.put, S.inv.defers]
        · cases o.dst <;> simp [Act.put, S.inv.size]
        · have hbase := S.inv.base
          exact ⟨hbase.os, hbase.tape, hbase.output, by rw [setRow_size]; exact hbase.size, fun b' hkb => (hput.other b' fun eq => hKB (eq ▸ hkb)).trans (hbase.kept b' hkb), hbase.old⟩
      · cases h5
    | _ => rw [hs] at h; simp [Rd.out] at h
  | _ => simp [Rd.out] at h
end
end Go.V
