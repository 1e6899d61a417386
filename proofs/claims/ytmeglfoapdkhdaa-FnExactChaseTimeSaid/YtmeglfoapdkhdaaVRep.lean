/- What machine values stand for data: the reading of cells, its laws (frames, parts, stores). -/
import Derived.Test.YtmeglfoapdkhdaaVRun
namespace Go.V

theorem length_pos_of_append {α : Type} (q : List α) (x : α) : q.length < (q ++ [x]).length := by simp

/-- The cells from an offset on. -/
def cellsAt (w : World) (b off n : Nat) : List Value :=
  match w.heap[b]? with
  | some (.cells cs _ _) => (cs.toList.drop off).take n
  | _ => []

def BlockOk (w : World) (b n : Nat) : Prop := ∃ cs T fr, w.heap[b]? = some (.cells cs T fr) ∧ n ≤ cs.size

theorem BlockOk.lt {w : World} {b n : Nat} (h : BlockOk w b n) : b < w.heap.size := by
  obtain ⟨cs, T, fr, h, _⟩ := h
  exact (Array.getElem?_eq_some_iff.1 h).1
theorem BlockOk.same {w w' : World} {b n : Nat} (h : BlockOk w b n) (e : w'.heap[b]? = w.heap[b]?) : BlockOk w' b n := by
  obtain ⟨cs, T, fr, h, k⟩ := h
  exact ⟨cs, T, fr, e.trans h, k⟩
theorem cellsAt_same {w w' : World} {b : Nat} (e : w'.heap[b]? = w.heap[b]?) (off n : Nat) : cellsAt w' b off n = cellsAt w b off n := by
  unfold cellsAt
  rw [e]
theorem cellsAt_length {w : World} {b off n : Nat} (h : BlockOk w b (off + n)) : (cellsAt w b off n).length = n := by
  obtain ⟨cs, T, fr, h, k⟩ := h
  unfold cellsAt
  rw [h]
  simp
  omega

abbrev OwnS := Path → Nat → Prop
def mkVal (k : Kd) (c : List Value) : Value :=
  bif k.agg then .agg c.toArray else match c with
    | [v] => v
    | _ => undef
/-- A tuple's values. -/
def tupK : Kd → List Value → List Value
  | .pair a b, c => mkVal a (c.take a.size) :: tupK b (c.drop a.size)
  | _, _ => []

/-- Cells stand for data; S tells which blocks the slices of a part may lie in. -/
def Rep (w : World) (S : OwnS) : (k : Kd) → Path → List Value → k.den → Prop
  | .int ik, _, c, n => c = [.int ik n]
  | .bool, _, c, b => c = [.bool b]
  | .str, _, c, s => c = [.string s]
  | .slice e, q, c, l => ((∃ a, c = [.slice a 0 0]) ∧ l = []) ∨
      ∃ b off cap, c = [.slice (some ⟨b, off, none⟩) (List.length l) cap] ∧ List.length l ≤ cap ∧ S q b ∧ BlockOk w b (off + cap * e.size) ∧
        ∀ i (h : i < List.length l), Rep w S e (q ++ [.i i]) (cellsAt w b (off + i * e.size) e.size) (List.get l ⟨i, h⟩)
  | .unit, _, c, _ => c = []
  | .pair a b, q, c, d => Rep w S a (q ++ [.l]) (c.take a.size) d.1 ∧ Rep w S b (q ++ [.r]) (c.drop a.size) d.2
  | .bx k, q, c, d => ∃ b off, c = [.pointer (some ⟨b, off, none⟩)] ∧ S q b ∧ BlockOk w b (off + k.size) ∧ Rep w S k (q ++ [.i 0]) (cellsAt w b off k.size) d
  | .clo f a b, q, c, d => ∃ c1 c2, c = [.func (.func f) (tupK a c1).toArray (tupK b c2).toArray] ∧ Rep w S a (q ++ [.l]) c1 d.1 ∧ Rep w S b (q ++ [.r]) c2 d.2

theorem Rep.length {w : World} {S : OwnS} : ∀ {k : Kd} {q : Path} {c : List Value} {d : k.den}, Rep w S k q c d → c.length = k.size := by
  intro k
  induction k with
  | int ik => intro q c d h; simp only [Rep] at h; rw [h]; rfl
  | bool => intro q c d h; simp only [Rep] at h; rw [h]; rfl
  | str => intro q c d h; simp only [Rep] at h; rw [h]; rfl
  | slice e ih =>
    intro q c d h
    simp only [Rep] at h
    rcases h with ⟨⟨_, h⟩, _⟩ | ⟨b, off, cap, h, _⟩ <;> rw [h] <;> rfl
  | unit => intro q c d h; simp only [Rep] at h; rw [h]; rfl
  | pair a b iha ihb =>
    intro q c d h
    simp only [Rep] at h
    have h1 := iha h.1
    have h2 := ihb h.2
    simp only [List.length_take, List.length_drop] at h1 h2
    simp only [Kd.size]
    omega
  | bx k ih => intro q c d h; obtain ⟨b, off, h, _⟩ := h; rw [h]; rfl
  | clo f a b iha ihb => intro q c d h; obtain ⟨c1, c2, h, _⟩ := h; rw [h]; rfl

/-- A reading stays where all its blocks stay. -/
theorem Rep.frame {w w' : World} {S S' : OwnS} : ∀ {k : Kd} {q : Path} {c : List Value} {d : k.den}, Rep w S k q c d →
    (∀ q' b, q <+: q' → S q' b → b < w.heap.size → w'.heap[b]? = w.heap[b]? ∧ S' q' b) → Rep w' S' k q c d := by
  intro k
  induction k with
  | int ik => intro q c d h _; exact h
  | bool => intro q c d h _; exact h
  | str => intro q c d h _; exact h
  | slice e ih =>
    intro q c d h H
    simp only [Rep] at h ⊢
    rcases h with h | ⟨b, off, cap, hc, hl, hs, hb, he⟩
    · exact .inl h
    · obtain ⟨h1, h2⟩ := H q b (List.prefix_refl q) hs hb.lt
      refine .inr ⟨b, off, cap, hc, hl, h2, hb.same h1, fun i hi => ?_⟩
      rw [cellsAt_same h1]
      exact ih (he i hi) fun q' b' hq => H q' b' ((List.prefix_append q _).trans hq)
  | unit => intro q c d h _; exact h
  | pair a b iha ihb =>
    intro q c d h H
    simp only [Rep] at h ⊢
    exact ⟨iha h.1 fun q' b' hq => H q' b' ((List.prefix_append q _).trans hq), ihb h.2 fun q' b' hq => H q' b' ((List.prefix_append q _).trans hq)⟩
  | bx k ih =>
    intro q c d h H
    simp only [Rep] at h ⊢
    obtain ⟨b, off, hc, hs, hb, he⟩ := h
    obtain ⟨h1, h2⟩ := H q b (List.prefix_refl q) hs hb.lt
    refine ⟨b, off, hc, h2, hb.same h1, ?_⟩
    rw [cellsAt_same h1]
    exact ih he fun q' b' hq => H q' b' ((List.prefix_append q _).trans hq)
  | clo f a b iha ihb =>
    intro q c d h H
    simp only [Rep] at h ⊢
    obtain ⟨c1, c2, hc, h1, h2⟩ := h
    exact ⟨c1, c2, hc, iha h1 fun q' b' hq => H q' b' ((List.prefix_append q _).trans hq), ihb h2 fun q' b' hq => H q' b' ((List.prefix_append q _).trans hq)⟩

theorem Rep.same {w w' : World} {S : OwnS} {k : Kd} {q : Path} {c : List Value} {d : k.den} (h : Rep w S k q c d)
    (H : ∀ q' b, S q' b → b < w.heap.size → w'.heap[b]? = w.heap[b]?) : Rep w' S k q c d :=
  h.frame fun q' b _ hs hb => ⟨H q' b hs hb, hs⟩

/-- A reading at another path, the owners being told anew. -/
theorem Rep.move {w : World} {S S' : OwnS} : ∀ {k : Kd} {q q' : Path} {c : List Value} {d : k.den}, Rep w S k q c d →
    (∀ p b, S (q ++ p) b → b < w.heap.size → S' (q' ++ p) b) → Rep w S' k q' c d := by
  intro k
  induction k with
  | int ik => intro q q' c d h _; exact h
  | bool => intro q q' c d h _; exact h
  | str => intro q q' c d h _; exact h
  | slice e ih =>
    intro q q' c d h H
    simp only [Rep] at h ⊢
    rcases h with h | ⟨b, off, cap, hc, hl, hs, hb, he⟩
    · exact .inl h
    · refine .inr ⟨b, off, cap, hc, hl, ?_, hb, fun i hi => ?_⟩
      · have := H [] b (by simpa using hs) hb.lt
        simpa using this
      · exact ih (he i hi) fun p b' hs' hb' => by
          have := H (.i i :: p) b' (by simpa using hs') hb'
          simpa using this
  | unit => intro q q' c d h _; exact h
  | pair a b iha ihb =>
    intro q q' c d h H
    simp only [Rep] at h ⊢
    refine ⟨iha h.1 fun p b' hs' hb' => ?_, ihb h.2 fun p b' hs' hb' => ?_⟩
    · have := H (.l :: p) b' (by simpa using hs') hb'
      simpa using this
    · have := H (.r :: p) b' (by simpa using hs') hb'
      simpa using this
  | bx k ih =>
    intro q q' c d h H
    simp only [Rep] at h ⊢
    obtain ⟨b, off, hc, hs, hb, he⟩ := h
    refine ⟨b, off, hc, ?_, hb, ih he fun p b' hs' hb' => ?_⟩
    · have := H [] b (by simpa using hs) hb.lt
      simpa using this
    · have := H (.i 0 :: p) b' (by simpa using hs') hb'
      simpa using this
  | clo f a b iha ihb =>
    intro q q' c d h H
    simp only [Rep] at h ⊢
    obtain ⟨c1, c2, hc, h1, h2⟩ := h
    refine ⟨c1, c2, hc, iha h1 fun p b' hs' hb' => ?_, ihb h2 fun p b' hs' hb' => ?_⟩
    · have := H (.l :: p) b' (by simpa using hs') hb'
      simpa using this
    · have := H (.r :: p) b' (by simpa using hs') hb'
      simpa using this

/-- Flat data has no blocks. -/
theorem Rep.flat {w : World} {S : OwnS} (w' : World) (S' : OwnS) : ∀ {k : Kd} {q : Path} (q' : Path) {c : List Value} {d : k.den}, k.flat = true → Rep w S k q c d → Rep w' S' k q' c d := by
  intro k
  induction k with
  | int ik => intro q q' c d _ h; exact h
  | bool => intro q q' c d _ h; exact h
  | str => intro q q' c d _ h; exact h
  | slice e ih => intro q q' c d hf _; simp [Kd.flat] at hf
  | unit => intro q q' c d _ h; exact h
  | pair a b iha ihb =>
    intro q q' c d hf h
    simp only [Kd.flat, Bool.and_eq_true] at hf
    simp only [Rep] at h ⊢
    exact ⟨iha _ hf.1 h.1, ihb _ hf.2 h.2⟩
  | bx k ih => intro q q' c d hf _; simp [Kd.flat] at hf
  | clo f a b iha ihb => intro q q' c d hf _; simp [Kd.flat] at hf

/-! ### Parts -/
def okP : Path → (k : Kd) → k.den → Prop
  | [], _, _ => True
  | .l :: p, .pair a _, d => okP p a d.1
  | .r :: p, .pair _ b, d => okP p b d.2
  | .i n :: p, .slice e, d => n < List.length d ∧ okP p e (at_ e d n)
  | _, _, _ => False
def subC (w : World) : Path → Kd → List Value → List Value
  | [], _, c => c
  | .l :: p, .pair a _, c => subC w p a (c.take a.size)
  | .r :: p, .pair a b, c => subC w p b (c.drop a.size)
  | .i n :: p, .slice e, [.slice (some a) _ _] => subC w p e (cellsAt w a.block (a.off + n * e.size) e.size)
  | _, _, _ => []
def subA (w : World) : Path → Kd → List Value → Option (Nat × Nat) → Option (Nat × Nat)
  | [], _, _, h => h
  | .l :: p, .pair a _, c, h => subA w p a (c.take a.size) h
  | .r :: p, .pair a b, c, h => subA w p b (c.drop a.size) (h.map fun x => (x.1, x.2 + a.size))
  | .i n :: p, .slice e, [.slice (some a) _ _], _ => subA w p e (cellsAt w a.block (a.off + n * e.size) e.size) (some (a.block, a.off + n * e.size))
  | _, _, _, _ => none

theorem at_eq {e : Kd} {l : List e.den} {n : Nat} (h : n < List.length l) : at_ e l n = List.get l ⟨n, h⟩ := by
  simp [at_, List.getD, List.getElem?_eq_getElem h]

theorem getP_rep {w : World} {S : OwnS} : ∀ {p : Path} {k : Kd} {q : Path} {c : List Value} {d : k.den} {v : V}, Rep w S k q c d → okP p k d → getP p k d = some v →
    Rep w S v.k (q ++ p) (subC w p k c) v.d := by
  intro p
  induction p with
  | nil =>
    intro k q c d v h _ hg
    simp only [getP, Option.some.injEq] at hg
    subst hg
    simpa [subC] using h
  | cons x p ih =>
    intro k q c d v h ho hg
    cases x with
    | l =>
      cases k with
      | pair a b =>
        simp only [getP] at hg
        simp only [okP] at ho
        simp only [Rep] at h
        have := ih h.1 ho hg
        simpa [subC] using this
      | _ => simp [getP] at hg
    | r =>
      cases k with
      | pair a b =>
        simp only [getP] at hg
        simp only [okP] at ho
        simp only [Rep] at h
        have := ih h.2 ho hg
        simpa [subC] using this
      | _ => simp [getP] at hg
    | i n =>
      cases k with
      | slice e =>
        simp only [getP] at hg
        simp only [okP] at ho
        simp only [Rep] at h
        rcases h with ⟨_, h⟩ | ⟨b, off, cap, hc, hl, hs, hb, he⟩
        · subst h; simp at ho
        · have := he n ho.1
          rw [← at_eq ho.1] at this
          have := ih this ho.2 hg
          subst hc
          simpa [subC] using this
      | _ => simp [getP] at hg

theorem getP_append : ∀ {p p' : Path} {k : Kd} {d : k.den} {v : V}, getP p k d = some v → getP (p ++ p') k d = getP p' v.k v.d := by
  intro p
  induction p with
  | nil => intro p' k d v h; simp only [getP, Option.some.injEq] at h; subst h; rfl
  | cons x p ih =>
    intro p' k d v h
    cases x with
    | l => cases k with
      | pair a b => simp only [getP, List.cons_append] at h ⊢; exact ih h
      | _ => simp [getP] at h
    | r => cases k with
      | pair a b => simp only [getP, List.cons_append] at h ⊢; exact ih h
      | _ => simp [getP] at h
    | i n => cases k with
      | slice e => simp only [getP, List.cons_append] at h ⊢; exact ih h
      | _ => simp [getP] at h
theorem okP_append : ∀ {p p' : Path} {k : Kd} {d : k.den} {v : V}, getP p k d = some v → okP p k d → okP p' v.k v.d → okP (p ++ p') k d := by
  intro p
  induction p with
  | nil => intro p' k d v h _ h'; simp only [getP, Option.some.injEq] at h; subst h; exact h'
  | cons x p ih =>
    intro p' k d v h ho h'
    cases x with
    | l => cases k with
      | pair a b => simp only [getP, okP, List.cons_append] at h ho ⊢; exact ih h ho h'
      | _ => simp [getP] at h
    | r => cases k with
      | pair a b => simp only [getP, okP, List.cons_append] at h ho ⊢; exact ih h ho h'
      | _ => simp [getP] at h
    | i n => cases k with
      | slice e => simp only [getP, okP, List.cons_append] at h ho ⊢; exact ⟨ho.1, ih h ho.2 h'⟩
      | _ => simp [getP] at h
theorem subC_append {w : World} : ∀ {p p' : Path} {k : Kd} {d : k.den} {v : V} {c : List Value} {S : OwnS} {q : Path}, Rep w S k q c d → okP p k d → getP p k d = some v → subC w (p ++ p') k c = subC w p' v.k (subC w p k c) := by
  intro p
  induction p with
  | nil => intro p' k d v c S q _ _ h; simp only [getP, Option.some.injEq] at h; subst h; rfl
  | cons x p ih =>
    intro p' k d v c S q hr ho h
    cases x with
    | l => cases k with
      | pair a b => simp only [getP, okP, List.cons_append, subC, Rep] at h ho hr ⊢; exact ih hr.1 ho h
      | _ => simp [getP] at h
    | r => cases k with
      | pair a b => simp only [getP, okP, List.cons_append, subC, Rep] at h ho hr ⊢; exact ih hr.2 ho h
      | _ => simp [getP] at h
    | i n => cases k with
      | slice e =>
        simp only [getP, okP, Rep] at h ho hr
        rcases hr with ⟨_, hr⟩ | ⟨b, off, cap, hc, hl, hs, hb, he⟩
        · subst hr; simp at ho
        · subst hc
          have := he n ho.1
          rw [← at_eq ho.1] at this
          simp only [List.cons_append, subC]
          exact ih this ho.2 h
      | _ => simp [getP] at h
theorem subA_append {w : World} : ∀ {p p' : Path} {k : Kd} {d : k.den} {v : V} {c : List Value} {S : OwnS} {q : Path} {h : Option (Nat × Nat)}, Rep w S k q c d → okP p k d → getP p k d = some v →
    subA w (p ++ p') k c h = subA w p' v.k (subC w p k c) (subA w p k c h) := by
  intro p
  induction p with
  | nil => intro p' k d v c S q h _ _ hg; simp only [getP, Option.some.injEq] at hg; subst hg; rfl
  | cons x p ih =>
    intro p' k d v c S q h hr ho hg
    cases x with
    | l => cases k with
      | pair a b => simp only [getP, okP, List.cons_append, subC, subA, Rep] at hg ho hr ⊢; exact ih hr.1 ho hg
      | _ => simp [getP] at hg
    | r => cases k with
      | pair a b => simp only [getP, okP, List.cons_append, subC, subA, Rep] at hg ho hr ⊢; exact ih hr.2 ho hg
      | _ => simp [getP] at hg
    | i n => cases k with
      | slice e =>
        simp only [getP, okP, Rep] at hg ho hr
        rcases hr with ⟨_, hr⟩ | ⟨b, off, cap, hc, hl, hs, hb, he⟩
        · subst hr; simp at ho
        · subst hc
          have := he n ho.1
          rw [← at_eq ho.1] at this
          simp only [List.cons_append, subC, subA]
          exact ih this ho.2 hg
      | _ => simp [getP] at hg

/-- The parts' cells stay where the blocks stay. -/
theorem sub_same {w w' : World} {S : OwnS} : ∀ {p : Path} {k : Kd} {q : Path} {c : List Value} {d : k.den} {v : V}, Rep w S k q c d → okP p k d → getP p k d = some v →
    (∀ q' b, S q' b → b < w.heap.size → w'.heap[b]? = w.heap[b]?) → subC w' p k c = subC w p k c ∧ ∀ h, subA w' p k c h = subA w p k c h := by
  intro p
  induction p with
  | nil => intro k q c d v _ _ _ _; exact ⟨rfl, fun _ => rfl⟩
  | cons x p ih =>
    intro k q c d v h ho hg H
    cases x with
    | l => cases k with
      | pair a b => simp only [getP, okP, subC, subA, Rep] at hg ho h ⊢; exact ⟨(ih h.1 ho hg H).1, fun _ => (ih h.1 ho hg H).2 _⟩
      | _ => simp [getP] at hg
    | r => cases k with
      | pair a b => simp only [getP, okP, subC, subA, Rep] at hg ho h ⊢; exact ⟨(ih h.2 ho hg H).1, fun _ => (ih h.2 ho hg H).2 _⟩
      | _ => simp [getP] at hg
    | i n => cases k with
      | slice e =>
        simp only [getP, okP, Rep] at hg ho h
        rcases h with ⟨_, h⟩ | ⟨b, off, cap, hc, hl, hs, hb, he⟩
        · subst h; simp at ho
        · subst hc
          have he' := he n ho.1
          rw [← at_eq ho.1] at he'
          have e := cellsAt_same (H q b hs hb.lt) (off + n * e.size) e.size
          simp only [subC, subA]
          rw [e]
          exact ⟨(ih he' ho.2 hg H).1, fun _ => (ih he' ho.2 hg H).2 _⟩
      | _ => simp [getP] at hg

/-- A part at an address: its cells are those at the address. -/
theorem subA_cells {w : World} {S : OwnS} : ∀ {p : Path} {k : Kd} {q : Path} {c : List Value} {d : k.den} {v : V} {h : Option (Nat × Nat)} {B O : Nat}, Rep w S k q c d → okP p k d → getP p k d = some v →
    (∀ b o, h = some (b, o) → c = cellsAt w b o k.size ∧ BlockOk w b (o + k.size)) → subA w p k c h = some (B, O) → subC w p k c = cellsAt w B O v.k.size ∧ BlockOk w B (O + v.k.size) := by
  intro p
  induction p with
  | nil =>
    intro k q c d v h B O _ _ hg hh ha
    simp only [getP, Option.some.injEq] at hg
    subst hg
    simp only [subA] at ha
    exact hh B O ha
  | cons x p ih =>
    intro k q c d v h B O hr ho hg hh ha
    cases x with
    | l => cases k with
      | pair a b =>
        simp only [getP, okP, subC, subA, Rep] at hg ho hr ha ⊢
        refine ih hr.1 ho hg (fun b' o' e => ?_) ha
        obtain ⟨h1, h2⟩ := hh b' o' e
        simp only [Kd.size] at h1 h2
        refine ⟨?_, ?_⟩
        · rw [h1]
          unfold cellsAt
          split <;> simp [List.take_take]
        · obtain ⟨cs, T, fr, hx, hy⟩ := h2
          exact ⟨cs, T, fr, hx, by omega⟩
      | _ => simp [getP] at hg
    | r => cases k with
      | pair a b =>
        simp only [getP, okP, subC, subA, Rep] at hg ho hr ha ⊢
        refine ih hr.2 ho hg (fun b' o' e => ?_) ha
        cases h with
        | none => simp at e
        | some x =>
          obtain ⟨b0, o0⟩ := x
          simp only [Option.map_some, Option.some.injEq, Prod.mk.injEq] at e
          obtain ⟨rfl, rfl⟩ := e
          obtain ⟨h1, h2⟩ := hh b0 o0 rfl
          simp only [Kd.size] at h1 h2
          refine ⟨?_, ?_⟩
          · rw [h1]
            unfold cellsAt
            split
            · rw [List.drop_take, List.drop_drop]
              congr 1
              omega
            · simp
          · obtain ⟨cs, T, fr, hx, hy⟩ := h2
            exact ⟨cs, T, fr, hx, by omega⟩
      | _ => simp [getP] at hg
    | i n => cases k with
      | slice e =>
        simp only [getP, okP, Rep] at hg ho hr
        rcases hr with ⟨_, hr⟩ | ⟨b, off, cap, hc, hl, hs, hb, he⟩
        · subst hr; simp at ho
        · subst hc
          have he' := he n ho.1
          rw [← at_eq ho.1] at he'
          simp only [subC, subA] at ha ⊢
          refine ih he' ho.2 hg (fun b' o' ee => ?_) ha
          simp only [Option.some.injEq, Prod.mk.injEq] at ee
          obtain ⟨rfl, rfl⟩ := ee
          refine ⟨rfl, ?_⟩
          obtain ⟨cs, T, fr, hx, hy⟩ := hb
          refine ⟨cs, T, fr, hx, ?_⟩
          have h1 : (n + 1) * e.size ≤ cap * e.size := Nat.mul_le_mul_right _ (by have := ho.1; omega)
          rw [Nat.add_mul] at h1
          omega
      | _ => simp [getP] at hg
end Go.V
