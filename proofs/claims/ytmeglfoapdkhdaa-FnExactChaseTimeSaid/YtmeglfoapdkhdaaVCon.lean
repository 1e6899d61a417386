/- What a function does, told from outside: contracts. -/
import Derived.Test.YtmeglfoapdkhdaaVOps9
set_option linter.unusedVariables false
set_option linter.unusedSimpArgs false
namespace Go.V

/-- Whose a block is, seen from a call: a result's part, a lent parameter's part. -/
inductive Lab
  | res (q : Path)
  | io (i : Nat) (q : Path)

/-- Arguments stand for data. ψ: the lent parameters' blocks; U: where the others may lie. -/
def ArgsOk (w : World) (ψ : Nat → Option (Nat × Path)) (U : Nat → Prop) : Nat → (ps : List (Kd × Bool)) → List Value → (Kd.tuple (ps.map (·.1))).den → Prop
  | _, [], vs, _ => vs = []
  | i, (k, io) :: ps, vs, d => ∃ c r, vs = mkVal k c :: r ∧ Rep w (bif io then fun q b => ψ b = some (i, q) else fun _ b => U b) k [] c d.1 ∧ ArgsOk w ψ U (i + 1) ps r d.2
/-- What the lent parameters have become. -/
def IoOk (w' : World) (χ : Nat → Option Lab) : Nat → (ps : List (Kd × Bool)) → List Value → (Kd.tuple ((ps.filter (·.2)).map (·.1))).den → Prop
  | _, [], _, _ => True
  | i, (k, true) :: ps, vs, d => ∃ c r, vs = mkVal k c :: r ∧ c.length = k.size ∧ Rep w' (fun q b => χ b = some (.io i q)) k [] c d.1 ∧ IoOk w' χ (i + 1) ps r d.2
  | i, (_, false) :: ps, vs, d => IoOk w' χ (i + 1) ps vs.tail d
def ResVal : List Kd → Value → List Value → Prop
  | [], _, _ => True
  | [k], v, c => v = mkVal k (c.take k.size)
  | ks, v, c => v = .tuple (tupV ks c).toArray

structure Post (g : FSig) (ψ : Nat → Option (Nat × Path)) (U : Nat → Prop) (vs : List Value) (w : World) (out : (Kd.tuple (g.rs ++ (g.ps.filter (·.2)).map (·.1))).den) (χ : Nat → Option Lab) (v : Value) (w' : World) : Prop where
  os : w'.os = w.os
  tape : w'.tape = w.tape
  output : w'.output = w.output
  size : w.heap.size ≤ w'.heap.size
  kept : ∀ b, b < w.heap.size → ψ b = none → w'.heap[b]? = w.heap[b]?
  col : ∀ b z, χ b = some z → (w.heap.size ≤ b ∨ ψ b ≠ none) ∧ ∃ cs T, w'.heap[b]? = some (.cells cs T (0, 0))
  res : ∃ c, ResVal g.rs v c ∧ Rep w' (bif g.own then fun q b => χ b = some (.res q) else fun _ b => χ b = none ∧ (U b ∨ w.heap.size ≤ b ∨ ψ b ≠ none)) (Kd.tuple g.rs) [] c (splitT g.rs _ out).1
  io : IoOk w' χ 0 g.ps vs (splitT g.rs _ out).2

/-- A call, with a body or without. -/
def CallsTo (P : Program) (f : FuncId) (args : Array Value) (w : World) (R : Value → World → Prop) : Prop :=
  match (callFunc f args).run P w with
  | .ok (.value v) w' => R v w'
  | .ok (.enter f args) w' => Calls P f args w' fun
      | .returned v, w'' => R v w''
      | _, _ => False
  | .ok (.row row args) w' => Rows P row args w' R
  | _ => False

/-- What is held of a function. -/
def Contract (P : Program) (f : FuncId) (g : FSig) : Prop :=
  ∀ (w : World) (ψ : Nat → Option (Nat × Path)) (U : Nat → Prop) (vs : List Value) (d : (Kd.tuple (g.ps.map (·.1))).den) (out : (Kd.tuple (g.rs ++ (g.ps.filter (·.2)).map (·.1))).den),
    ArgsOk w ψ U 0 g.ps vs d → (∀ b, U b → ψ b = none) → (∀ b z, ψ b = some z → ∃ cs T, w.heap[b]? = some (.cells cs T (0, 0))) → g.F d = some out →
    CallsTo P f vs.toArray w fun v w' => ∃ χ, Post g ψ U vs w out χ v w'

/-! ### Levels -/
theorem Rep.lim {w : World} {S : OwnS} : ∀ {k : Kd} {q : Path} {c : List Value} {d : k.den}, Rep w S k q c d → Rep w (fun q' b => S q' b ∧ q <+: q' ∧ lev q' < lev q + k.lev) k q c d := by
  intro k
  induction k with
  | int ik => intro q c d h; exact h
  | bool => intro q c d h; exact h
  | str => intro q c d h; exact h
  | slice e ih =>
    intro q c d h
    simp only [Rep] at h ⊢
    rcases h with h | ⟨b, off, cap, hc, hl, hs, hb, he⟩
    · exact .inl h
    · refine .inr ⟨b, off, cap, hc, hl, ⟨hs, List.prefix_refl q, by simp only [Kd.lev]; omega⟩, hb, fun i hi => (ih (he i hi)).frame fun q' b' _ hs' _ => ⟨rfl, hs'.1, (List.prefix_append _ _).trans hs'.2.1, ?_⟩⟩
      have := hs'.2.2
      rw [lev_append] at this
      simp only [lev, Kd.lev] at this ⊢
      omega
  | unit => intro q c d h; exact h
  | pair a b iha ihb =>
    intro q c d h
    simp only [Rep] at h ⊢
    refine ⟨(iha h.1).frame fun q' b' _ hs' _ => ⟨rfl, hs'.1, (List.prefix_append _ _).trans hs'.2.1, ?_⟩, (ihb h.2).frame fun q' b' _ hs' _ => ⟨rfl, hs'.1, (List.prefix_append _ _).trans hs'.2.1, ?_⟩⟩
    · have := hs'.2.2
      rw [lev_append] at this
      simp only [lev, Kd.lev] at this ⊢
      omega
    · have := hs'.2.2
      rw [lev_append] at this
      simp only [lev, Kd.lev] at this ⊢
      omega
  | bx k ih =>
    intro q c d h
    simp only [Rep] at h ⊢
    obtain ⟨b, off, hc, hs, hb, he⟩ := h
    refine ⟨b, off, hc, ⟨hs, List.prefix_refl q, by simp only [Kd.lev]; omega⟩, hb, (ih he).frame fun q' b' _ hs' _ => ⟨rfl, hs'.1, (List.prefix_append _ _).trans hs'.2.1, ?_⟩⟩
    have := hs'.2.2
    rw [lev_append] at this
    simp only [lev, Kd.lev] at this ⊢
    omega
  | clo f a b iha ihb =>
    intro q c d h
    simp only [Rep] at h ⊢
    obtain ⟨c1, c2, hc, h1, h2⟩ := h
    refine ⟨c1, c2, hc, (iha h1).frame fun q' b' _ hs' _ => ⟨rfl, hs'.1, (List.prefix_append _ _).trans hs'.2.1, ?_⟩, (ihb h2).frame fun q' b' _ hs' _ => ⟨rfl, hs'.1, (List.prefix_append _ _).trans hs'.2.1, ?_⟩⟩
    · have := hs'.2.2
      rw [lev_append] at this
      simp only [lev, Kd.lev] at this ⊢
      omega
    · have := hs'.2.2
      rw [lev_append] at this
      simp only [lev, Kd.lev] at this ⊢
      omega
theorem lev_le_length : ∀ p : Path, lev p ≤ p.length := by
  intro p
  induction p with
  | nil => simp [lev]
  | cons s p ih => cases s <;> simp [lev] <;> omega

/-- A part has become other data, its cells being the same. -/
theorem rep_back {w w' : World} {S S' : OwnS} {y : V} : ∀ {p : Path} {k : Kd} {q : Path} {c : List Value} {d d' : k.den} {v : V}, Rep w S k q c d → okP p k d → getP p k d = some v → setP p k d y = some d' →
    (∀ q' b, q <+: q' → ¬ (q ++ p <+: q') → S q' b → b < w.heap.size → w'.heap[b]? = w.heap[b]? ∧ S' q' b) → Rep w' S' y.k (q ++ p) (subC w p k c) y.d → Rep w' S' k q c d' := by
  intro p
  induction p with
  | nil =>
    intro k q c d d' v _ _ hg hs _ hy
    simp only [setP] at hs
    have := cast?_eq hs
    subst this
    simpa [subC] using hy
  | cons s p ih =>
    intro k q c d d' v hr ho hg hs H hy
    cases s with
    | l => cases k with
      | pair a b =>
        simp only [getP, okP, setP, Rep, subC, Option.map_eq_some_iff] at hg ho hs hr hy ⊢
        obtain ⟨z, hz, rfl⟩ := hs
        refine ⟨ih hr.1 ho hg hz (fun q' b' h1 h2 => H q' b' ((List.prefix_append _ _).trans h1) (by simpa using h2)) (by simpa using hy), ?_⟩
        exact hr.2.frame fun q' b' h1 hs' hb => H q' b' ((List.prefix_append _ _).trans h1) (fun h2 => prefix_l_r ((show q ++ [St.l] <+: q ++ (St.l :: p) from ⟨p, by simp⟩).trans h2) h1) hs' hb
      | _ => simp [getP] at hg
    | r => cases k with
      | pair a b =>
        simp only [getP, okP, setP, Rep, subC, Option.map_eq_some_iff] at hg ho hs hr hy ⊢
        obtain ⟨z, hz, rfl⟩ := hs
        refine ⟨?_, ih hr.2 ho hg hz (fun q' b' h1 h2 => H q' b' ((List.prefix_append _ _).trans h1) (by simpa using h2)) (by simpa using hy)⟩
        exact hr.1.frame fun q' b' h1 hs' hb => H q' b' ((List.prefix_append _ _).trans h1) (fun h2 => prefix_l_r h1 ((show q ++ [St.r] <+: q ++ (St.r :: p) from ⟨p, by simp⟩).trans h2)) hs' hb
      | _ => simp [getP] at hg
    | i n => cases k with
      | slice e =>
        simp only [getP, okP, setP, Rep, Option.map_eq_some_iff] at hg ho hs hr
        obtain ⟨z, hz, rfl⟩ := hs
        rcases hr with ⟨_, hr⟩ | ⟨b, off, cap, hc, hl, hs, hb, he⟩
        · subst hr; simp at ho
        · subst hc
          have he' := he n ho.1
          rw [← at_eq ho.1] at he'
          obtain ⟨hb1, hb2⟩ := H q b (List.prefix_refl q) (fun h2 => by have := h2.length_le; simp at this; omega) hs hb.lt
          simp only [subC] at hy
          have key := ih he' ho.2 hg hz (fun q' b' h1 h2 => H q' b' ((List.prefix_append _ _).trans h1) (by simpa using h2)) (by simpa using hy)
          simp only [Rep]
          refine .inr ⟨b, off, cap, by simp, by simpa using hl, hb2, hb.same hb1, fun m hm => ?_⟩
          simp only [List.length_set] at hm
          rw [cellsAt_same hb1]
          by_cases hmn : m = n
          · subst hmn
            simp only [List.get_eq_getElem, List.getElem_set_self]
            exact key
          · have := he m hm
            simp only [List.get_eq_getElem, ne_eq, Ne.symm hmn, not_false_eq_true, List.getElem_set_ne] at this ⊢
            exact this.frame fun q' b' h1 hs' hb' => H q' b' ((List.prefix_append _ _).trans h1) (fun h2 => hmn (prefix_i_i h1 ((show q ++ [St.i n] <+: q ++ (St.i n :: p) from ⟨p, by simp⟩).trans h2))) hs' hb'
      | _ => simp [getP] at hg
end Go.V
