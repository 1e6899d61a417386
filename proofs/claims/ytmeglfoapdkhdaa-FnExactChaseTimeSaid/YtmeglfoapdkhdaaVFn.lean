/- A function's contract, out of the interpreter's run over its body. -/
import Derived.Test.YtmeglfoapdkhdaaVPi
set_option linter.unusedVariables false
set_option linter.unusedSimpArgs false
namespace Go.V

section
variable {P : Program} {Γ : Ctx} {Kp : Keep} {B0 : World} {n : Nat} {G : Gh} {s : State} {a : Act} {w w' : World} {id : Nat} {o : Oper} {Q : Exit → Act → World → Prop} {ws : Writes} {A : Nat → Option Value}

theorem ArgsOk.length {ψ : Nat → Option (Nat × Path)} {U : Nat → Prop} : ∀ {ps : List (Kd × Bool)} {i : Nat} {vs : List Value} {d : (Kd.tuple (ps.map (·.1))).den}, ArgsOk w ψ U i ps vs d → vs.length = ps.length := by
  intro ps
  induction ps with
  | nil => intro i vs d h; rw [show vs = [] from h]; rfl
  | cons p ps ih =>
    intro i vs d h
    obtain ⟨k, io⟩ := p
    obtain ⟨c, r, h1, _, h2⟩ := h
    subst h1
    simp [ih h2]

/-- What stands at the begin. -/
theorem start_ents {ψ : Nat → Option (Nat × Path)} {U : Nat → Prop} : ∀ {ps : List (Kd × Bool)} {i : Nat} {vs : List Value} {d : (Kd.tuple (ps.map (·.1))).den} {s1 : State}, ArgsOk w ψ U i ps vs d →
    (∀ t, (t < i ∨ i + ps.length ≤ t) → (s1.put (start i ps d)) (sl t) = s1 (sl t) ∧ (s1.put (start i ps d)) (rt t) = s1 (rt t)) ∧
    ∀ j, j < ps.length → ∃ k c, ∃ dd : k.den, vs[j]? = some (mkVal k c) ∧
      (((s1.put (start i ps d)) (sl (i + j)) = .val k dd ∧ (s1.put (start i ps d)) (rt (i + j)) = s1 (rt (i + j)) ∧ Rep w (fun _ b => U b) k [] c dd) ∨
       ((s1.put (start i ps d)) (sl (i + j)) = .al (i + j) [] 0 ∧ (s1.put (start i ps d)) (rt (i + j)) = .root k dd k.lev false false 0 ∧ Rep w (fun q b => ψ b = some (i + j, q)) k [] c dd)) := by
  intro ps
  induction ps with
  | nil => intro i vs d s1 h; exact ⟨fun _ _ => ⟨rfl, rfl⟩, fun j hj => by simp at hj⟩
  | cons p ps ih =>
    intro i vs d s1 h
    obtain ⟨k, io⟩ := p
    obtain ⟨c, r, h1, h2, h3⟩ := h
    subst h1
    cases io with
    | false =>
      obtain ⟨e1, e2⟩ := ih (s1 := s1.set (sl i) (.val k d.1)) h3
      have eq : s1.put (start i ((k, false) :: ps) d) = (s1.set (sl i) (.val k d.1)).put (start (i + 1) ps d.2) := rfl
      rw [eq]
      refine ⟨fun t ht => ?_, fun j hj => ?_⟩
      · simp only [List.length_cons] at ht
        obtain ⟨f1, f2⟩ := e1 t (by omega)
        rw [f1, f2, State.set_other _ _ (fun e => by have := sl_inj e; omega), State.set_other _ _ (sl_rt i t).symm]
        exact ⟨rfl, rfl⟩
      · cases j with
        | zero =>
          obtain ⟨f1, f2⟩ := e1 i (by omega)
          refine ⟨k, c, d.1, rfl, .inl ⟨?_, ?_, h2⟩⟩
          · exact f1.trans (State.set_same _ _ _)
          · exact f2.trans (State.set_other _ _ (sl_rt i i).symm)
        | succ j =>
          obtain ⟨k', c', dd, g1, g2⟩ := e2 j (by simpa using hj)
          refine ⟨k', c', dd, by simpa using g1, ?_⟩
          rw [show i + (j + 1) = i + 1 + j by omega]
          rw [State.set_other _ _ (sl_rt i (i + 1 + j)).symm] at g2
          exact g2
    | true =>
      obtain ⟨e1, e2⟩ := ih (s1 := (s1.set (rt i) (.root k d.1 k.lev false false 0)).set (sl i) (.al i [] 0)) h3
      have eq : s1.put (start i ((k, true) :: ps) d) = ((s1.set (rt i) (.root k d.1 k.lev false false 0)).set (sl i) (.al i [] 0)).put (start (i + 1) ps d.2) := rfl
      rw [eq]
      refine ⟨fun t ht => ?_, fun j hj => ?_⟩
      · simp only [List.length_cons] at ht
        obtain ⟨f1, f2⟩ := e1 t (by omega)
        rw [f1, f2, State.set_other _ _ (fun e => by have := sl_inj e; omega), State.set_other _ _ (sl_rt t i), State.set_other _ _ (sl_rt i t).symm, State.set_other _ _ (fun e => by have := rt_inj e; omega)]
        exact ⟨rfl, rfl⟩
      · cases j with
        | zero =>
          obtain ⟨f1, f2⟩ := e1 i (by omega)
          refine ⟨k, c, d.1, rfl, .inr ⟨?_, ?_, h2⟩⟩
          · exact f1.trans (State.set_same _ _ _)
          · exact f2.trans ((State.set_other _ _ (sl_rt i i).symm).trans (State.set_same _ _ _))
        | succ j =>
          obtain ⟨k', c', dd, g1, g2⟩ := e2 j (by simpa using hj)
          refine ⟨k', c', dd, by simpa using g1, ?_⟩
          rw [show i + (j + 1) = i + 1 + j by omega]
          have : ((s1.set (rt i) (.root k d.1 k.lev false false 0)).set (sl i) (.al i [] 0)) (rt (i + 1 + j)) = s1 (rt (i + 1 + j)) := by
            rw [State.set_other _ _ (sl_rt i (i + 1 + j)).symm, State.set_other _ _ (fun e => by have := rt_inj e; omega)]
          rw [this] at g2
          exact g2

/-- Which blocks the callee counts as whose. -/
noncomputable def inφ (ψ : Nat → Option (Nat × Path)) (U : Nat → Prop) (size : Nat) : Nat → Option (Bool × Nat × Path) := fun b =>
  open Classical in
  match ψ b with
  | some (i, q) => some (false, i, q)
  | none => if b < size ∧ ¬ U b then some far else none
def inK (ψ : Nat → Option (Nat × Path)) (U : Nat → Prop) (size : Nat) : Keep := ⟨fun b => b < size ∧ ψ b = none, fun b => b < size ∧ ψ b = none ∧ ¬ U b⟩
/-- Whether a parameter is lent. -/
def ioAt (ps : List (Kd × Bool)) (d : Nat) : Bool := match ps[d]? with
  | some p => p.2
  | none => false
def inA (ps : List (Kd × Bool)) (vs : List Value) : Nat → Option Value := fun t => bif ioAt ps t then vs[t]? else none

theorem start_ok {ψ : Nat → Option (Nat × Path)} {U : Nat → Prop} {ps : List (Kd × Bool)} {vs : List Value} {d : (Kd.tuple (ps.map (·.1))).den} (h : ArgsOk w ψ U 0 ps vs d) (hU : ∀ b, U b → ψ b = none)
    (hψ : ∀ b z, ψ b = some z → ∃ cs T, w.heap[b]? = some (.cells cs T (0, 0))) (hn : ps.length ≤ n) :
    InvP (inK ψ U w.heap.size) w n (inA ps vs) (State.empty.put (start 0 ps d)) { tmps := vs.toArray ++ Array.replicate (n - vs.toArray.size) undef, defers := [] } w := by
  have hlen := h.length
  obtain ⟨e1, e2⟩ := start_ents (s1 := State.empty) h
  have htmp : ∀ t v, vs[t]? = some v → (vs.toArray ++ Array.replicate (n - vs.toArray.size) undef).getD t undef = v := by
    intro t v hv
    have hlt := (List.getElem?_eq_some_iff.1 hv).1
    rw [Array.getD_eq_getD_getElem?, Array.getElem?_append_left (by simpa using hlt)]
    simp [hv]
  refine ⟨⟨rfl, by simp; omega, ⟨rfl, rfl, rfl, Nat.le_refl _, fun _ _ => rfl, fun b hb => hb.1⟩, ⟨inφ ψ U w.heap.size, fun t => (vs.getD t undef).cells.toList, fun _ => 0⟩, ?_, ?_, ?_⟩, fun t v hv => by
    unfold inA at hv
    rcases bif_some hv with ⟨_, hv⟩ | ⟨_, hv⟩
    · exact htmp t v hv
    · cases hv⟩
  · intro t
    by_cases ht : t < ps.length
    · obtain ⟨k, c, dd, f1, f2⟩ := e2 t ht
      rw [Nat.zero_add] at f2
      simp only
      rw [htmp t _ f1]
      rcases f2 with ⟨f2, _, f3⟩ | ⟨f2, f4, f3⟩
      · rw [f2]
        refine ⟨c, rfl, f3.frame fun q b _ hb _ => ⟨rfl, ?_⟩⟩
        simp only [shS, inφ, hU b hb, hb, not_true_eq_false, and_false, if_false]
      · rw [f2]
        simp only [CellOk]
        rw [f4]
        refine ⟨Nat.le_refl _, fun _ => ⟨⟨k, dd⟩, rfl, trivial, ?_⟩⟩
        simp only [subC, List.getD_eq_getElem?_getD, f1, Option.getD_some]
        rw [mkVal_cells f3]
    · have := (e1 t (by omega)).1
      rw [this]
      trivial
  · intro t
    by_cases ht : t < ps.length
    · obtain ⟨k, c, dd, f1, f2⟩ := e2 t ht
      rw [Nat.zero_add] at f2
      rcases f2 with ⟨_, f4, _⟩ | ⟨_, f4, f3⟩
      · rw [f4]
        trivial
      · rw [f4]
        refine ⟨?_, fun h => by cases h⟩
        simp only [List.getD_eq_getElem?_getD, f1, Option.getD_some]
        rw [mkVal_cells f3]
        refine f3.lim.frame fun q b _ hb _ => ⟨rfl, ?_⟩
        obtain ⟨g1, _, g2⟩ := hb
        simp only [lev, Nat.zero_add] at g2
        simp only [ownS, g2, if_true, inφ, g1]
    · have := (e1 t (by omega)).2
      rw [this]
      trivial
  · have key : ∀ b x, inφ ψ U w.heap.size b = some x → (∃ i q, ψ b = some (i, q) ∧ x = (false, i, q)) ∨ (ψ b = none ∧ b < w.heap.size ∧ ¬ U b ∧ x = far) := by
      intro b x hx
      unfold inφ at hx
      split at hx
      · rename_i i q hb
        exact .inl ⟨i, q, hb, (Option.some.inj hx).symm⟩
      · rename_i hb
        split at hx
        · rename_i hc
          exact .inr ⟨hb, hc.1, hc.2, (Option.some.inj hx).symm⟩
        · cases hx
    refine ⟨fun b x hx => ?_, fun b x hx => ?_, fun b hb => ?_⟩
    · rcases key b x hx with ⟨i, q, h1, h2⟩ | ⟨_, _, _, h2⟩
      · refine .inr ⟨fun hk => ?_, hψ b _ h1⟩
        rw [hk.2] at h1
        cases h1
      · exact .inl h2
    · rcases key b x hx with ⟨i, q, h1, h2⟩ | ⟨_, h1, _, h2⟩
      · obtain ⟨cs, T, h3⟩ := hψ b _ h1
        exact (Array.getElem?_eq_some_iff.1 h3).1
      · exact h1
    · simp only [inφ, hb.2.1]
      rw [if_pos ⟨hb.1, hb.2.2⟩]
end
end Go.V
