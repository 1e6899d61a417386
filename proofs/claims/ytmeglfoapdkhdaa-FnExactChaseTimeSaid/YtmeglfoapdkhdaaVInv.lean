/- What ties the interpreter's state to the machine's: owners of blocks, cells of roots. -/
import Derived.Test.YtmeglfoapdkhdaaVTab
namespace Go.V

/-- Ghosts: each block's owner (true: a box's own block; the root; the part), each root's cells, each box's block. -/
structure Gh where
  φ : Nat → Option (Bool × Nat × Path)
  C : Nat → List Value
  β : Nat → Nat

def ownS (φ : Nat → Option (Bool × Nat × Path)) (r dep : Nat) : OwnS := fun q b => if lev q < dep then φ b = some (false, r, q) else φ b = none
def shS (φ : Nat → Option (Bool × Nat × Path)) : OwnS := fun _ b => φ b = none
def noS : OwnS := fun _ _ => False
def home (G : Gh) (r : Nat) (box : Bool) : Option (Nat × Nat) := bif box then some (G.β r, 0) else none
def tupV : List Kd → List Value → List Value
  | [], _ => []
  | k :: ks, c => mkVal k (c.take k.size) :: tupV ks (c.drop k.size)

/-- Cells stand for data, what slices hold aside. -/
def FRep : (k : Kd) → List Value → k.den → Prop
  | .int ik, c, n => c = [.int ik n]
  | .bool, c, b => c = [.bool b]
  | .str, c, s => c = [.string s]
  | .slice _, c, _ | .bx _, c, _ | .clo .., c, _ => c.length = 1
  | .unit, c, _ => c = []
  | .pair a b, c, d => FRep a (c.take a.size) d.1 ∧ FRep b (c.drop a.size) d.2
theorem Rep.frep {w : World} {S : OwnS} : ∀ {k : Kd} {q : Path} {c : List Value} {d : k.den}, Rep w S k q c d → FRep k c d := by
  intro k
  induction k with
  | slice e => intro q c d h; exact h.length
  | bx e => intro q c d h; exact h.length
  | clo f a b => intro q c d h; exact h.length
  | pair a b iha ihb => intro q c d h; exact ⟨iha h.1, ihb h.2⟩
  | _ => intro q c d h; exact h
theorem FRep.flat {w : World} {S : OwnS} : ∀ {k : Kd} {q : Path} {c : List Value} {d : k.den}, k.flat = true → FRep k c d → Rep w S k q c d := by
  intro k
  induction k with
  | slice e => intro q c d h; simp [Kd.flat] at h
  | bx e => intro q c d h; simp [Kd.flat] at h
  | clo f a b => intro q c d h; simp [Kd.flat] at h
  | pair a b iha ihb =>
    intro q c d hf h
    simp only [Kd.flat, Bool.and_eq_true] at hf
    exact ⟨iha hf.1 h.1, ihb hf.2 h.2⟩
  | _ => intro q c d _ h; exact h
/-- A tuple's part. -/
def cpart : Nat → List Kd → List Value → List Value
  | _, [], _ => []
  | 0, k :: _, c => c.take k.size
  | j + 1, k :: ks, c => cpart j ks (c.drop k.size)
theorem cpart_sub (w : World) : ∀ (ks : List Kd) (j : Nat) (c : List Value) (d : (Kd.tuple ks).den) (v : V), getP (fld j) (Kd.tuple ks) d = some v → subC w (fld j) (Kd.tuple ks) c = cpart j ks c := by
  intro ks
  induction ks with
  | nil => intro j c d v h; cases j <;> simp [Kd.tuple, fld, getP] at h
  | cons k ks ih =>
    intro j c d v h
    cases j with
    | zero => simp [Kd.tuple, fld, subC, cpart]
    | succ j =>
      simp only [Kd.tuple, fld, getP] at h
      simpa [Kd.tuple, fld, subC, cpart] using ih j (c.drop k.size) d.2 v h
theorem FRep.part : ∀ (ks : List Kd) (j : Nat) (c : List Value) (d : (Kd.tuple ks).den) (v : V), FRep (Kd.tuple ks) c d → getP (fld j) (Kd.tuple ks) d = some v → FRep v.k (cpart j ks c) v.d := by
  intro ks
  induction ks with
  | nil => intro j c d v _ h; cases j <;> simp [Kd.tuple, fld, getP] at h
  | cons k ks ih =>
    intro j c d v hr h
    cases j with
    | zero =>
      simp only [Kd.tuple, fld, getP, Option.some.injEq] at h
      subst h
      exact hr.1
    | succ j =>
      simp only [Kd.tuple, fld, getP] at h
      exact ih j (c.drop k.size) d.2 v hr.2 h

def CellOk (G : Gh) (w : World) (s : State) (v : Value) : Cell → Prop
  | .none | .dead => True
  | .undf => v = undef
  | .nlq z => ∃ b, v = .bool b ∧ (b = true → z = true)
  | .fal r => match s (rt r) with
    | .dead => True
    | .root k _ _ box frz _ => box = true ∧ frz = true ∧ v = mkVal k (G.C r)
    | _ => False
  | .apd r p ver e l => match s (rt r) with
    | .dead => True
    | .root _ _ dep _ _ ver' => ver ≤ ver' ∧ (ver = ver' → ∃ cs, v = mkVal (.slice e) cs ∧ Rep w (ownS G.φ r dep) (.slice e) p cs l)
    | _ => False
  | .tap r j ks x => ∃ c, v = .tuple (tupV ks c).toArray ∧ FRep (Kd.tuple ks) c x ∧ match s (rt r) with
    | .dead => True
    | .root k _ _ box _ _ => box = false ∧ G.C r = cpart j ks c ∧ ∃ y, getP (fld j) (Kd.tuple ks) x = some y ∧ y.k = k
    | _ => False
  | .root .. => False
  | .val k d => ∃ c, v = mkVal k c ∧ Rep w (shS G.φ) k [] c d
  | .cst k d => ∃ c, v = mkVal k c ∧ Rep w noS k [] c d
  | .fn f => v = .func (.func f) #[] #[]
  | .al r p ver => match s (rt r) with
    | .dead => True
    | .root k d _ box _ ver' => ver ≤ ver' ∧ (ver = ver' ∨ (box = false ∧ p = []) → ∃ x, getP p k d = some x ∧ okP p k d ∧ v = mkVal x.k (subC w p k (G.C r)))
    | _ => False
  | .tal r => match s (rt r) with
    | .dead => True
    | .root k _ _ box _ _ => box = false ∧ ∃ ks, k = Kd.tuple ks ∧ v = .tuple (tupV ks (G.C r)).toArray
    | _ => False
  | .ptr r p ver => match s (rt r) with
    | .dead => True
    | .root k d _ box _ ver' => ver ≤ ver' ∧ (ver = ver' ∨ (box = true ∧ noIdx p = true) → ∃ x, getP p k d = some x ∧ okP p k d ∧ ∃ B O, subA w p k (G.C r) (home G r box) = some (B, O) ∧ v = .pointer (some ⟨B, O, none⟩))
    | _ => False
  | .sptr k d => ∃ B O, v = .pointer (some ⟨B, O, none⟩) ∧ G.φ B = none ∧ BlockOk w B (O + k.size) ∧ Rep w (shS G.φ) k [] (cellsAt w B O k.size) d

def RootOk (G : Gh) (w : World) (r : Nat) : Cell → Prop
  | .root k d dep box frz _ => Rep w (ownS G.φ r dep) k [] (G.C r) d ∧
      (box = true → (∃ cs T, w.heap[G.β r]? = some (.cells cs T (0, 0)) ∧ cs.toList = G.C r) ∧ G.φ (G.β r) = if frz then none else some (true, r, []))
  | _ => True

/-- One state of things follows another: what is shared stays; each root stays, or is dead, or is a newer version. -/
structure Tr (G G' : Gh) (w w' : World) (s s' : State) : Prop where
  shared : ∀ b, G.φ b = none → b < w.heap.size → G'.φ b = none ∧ w'.heap[b]? = w.heap[b]?
  root : ∀ r k d dep box frz ver, s (rt r) = .root k d dep box frz ver →
    s' (rt r) = .dead ∨ ∃ d' dep' frz' ver', s' (rt r) = .root k d' dep' box frz' ver' ∧ G'.β r = G.β r ∧ (box = false ∨ frz = true → G'.C r = G.C r) ∧ (frz = true → frz' = true) ∧
      ((ver' = ver ∧ d' = d ∧ G'.C r = G.C r ∧ (∀ q b, G.φ b = some (false, r, q) → w'.heap[b]? = w.heap[b]?) ∧ ∀ q b, b < w.heap.size → ownS G.φ r dep q b → ownS G'.φ r dep' q b) ∨ ver < ver')
  dead : ∀ r, s (rt r) = .dead → s' (rt r) = .dead

theorem noIdx_getP : ∀ {p : Path} {k : Kd} {d d' : k.den} {x : V}, noIdx p = true → getP p k d = some x → ∃ y, getP p k d' = some y ∧ okP p k d' ∧ y.k = x.k := by
  intro p
  induction p with
  | nil => intro k d d' x _ h; simp only [getP, Option.some.injEq] at h; subst h; exact ⟨_, rfl, trivial, rfl⟩
  | cons s p ih =>
    intro k d d' x hn h
    cases s with
    | l => cases k with
      | pair a b => simp only [getP, noIdx, okP] at h hn ⊢; exact ih hn h
      | _ => simp [getP] at h
    | r => cases k with
      | pair a b => simp only [getP, noIdx, okP] at h hn ⊢; exact ih hn h
      | _ => simp [getP] at h
    | i n => simp [noIdx] at hn
theorem noIdx_subA : ∀ {p : Path} {k : Kd} {d : k.den} {x : V} (w w' : World) (c c' : List Value) (h : Option (Nat × Nat)), noIdx p = true → getP p k d = some x → subA w p k c h = subA w' p k c' h := by
  intro p
  induction p with
  | nil => intro k d x w w' c c' h _ _; rfl
  | cons s p ih =>
    intro k d x w w' c c' h hn hg
    cases s with
    | l => cases k with
      | pair a b => simp only [getP, noIdx, subA] at hg hn ⊢; exact ih (d := d.1) _ _ _ _ _ hn hg
      | _ => simp [getP] at hg
    | r => cases k with
      | pair a b => simp only [getP, noIdx, subA] at hg hn ⊢; exact ih (d := d.2) _ _ _ _ _ hn hg
      | _ => simp [getP] at hg
    | i n => simp [noIdx] at hn

theorem CellOk.tr {G G' : Gh} {w w' : World} {s s' : State} (t : Tr G G' w w' s s') (hr : ∀ r, RootOk G w r (s (rt r))) {v : Value} {c : Cell} (h : CellOk G w s v c) : CellOk G' w' s' v c := by
  cases c with
  | none => trivial
  | dead => trivial
  | undf => exact h
  | nlq z => exact h
  | apd r p ver e l =>
    simp only [CellOk] at h ⊢
    cases hc : s (rt r) with
    | dead => rw [t.dead r hc]; trivial
    | root k d dep box frz ver0 =>
      rw [hc] at h
      obtain ⟨hv, h⟩ := h
      rcases t.root r k d dep box frz ver0 hc with hd | ⟨d', dep', frz', ver', h1, h2, h3, h5, h4⟩
      · rw [hd]; trivial
      · rw [h1]
        rcases h4 with ⟨e1, e2, e3, e4, e5⟩ | hlt
        · subst e1
          refine ⟨hv, fun hh => ?_⟩
          obtain ⟨cs, k1, k2⟩ := h hh
          refine ⟨cs, k1, k2.frame fun q b _ hs hb => ⟨?_, e5 q b hb hs⟩⟩
          unfold ownS at hs
          split at hs
          · exact e4 q b hs
          · exact (t.shared b hs hb).2
        · exact ⟨by omega, fun hh => by omega⟩
    | none => rw [hc] at h; exact h.elim
    | undf => rw [hc] at h; exact h.elim
    | nlq => rw [hc] at h; exact h.elim
    | fal => rw [hc] at h; exact h.elim
    | tap => rw [hc] at h; exact h.elim
    | apd => rw [hc] at h; exact h.elim
    | val => rw [hc] at h; exact h.elim
    | cst => rw [hc] at h; exact h.elim
    | al => rw [hc] at h; exact h.elim
    | tal => rw [hc] at h; exact h.elim
    | ptr => rw [hc] at h; exact h.elim
    | sptr => rw [hc] at h; exact h.elim
    | fn => rw [hc] at h; exact h.elim
  | tap r j ks x =>
    simp only [CellOk] at h ⊢
    obtain ⟨c, e1, e2, h⟩ := h
    refine ⟨c, e1, e2, ?_⟩
    cases hc : s (rt r) with
    | dead => rw [t.dead r hc]; trivial
    | root k d dep box frz ver0 =>
      rw [hc] at h
      obtain ⟨hb, hC, hy⟩ := h
      rcases t.root r k d dep box frz ver0 hc with hd | ⟨d', dep', frz', ver', h1, h2, h3, h5, h4⟩
      · rw [hd]; trivial
      · rw [h1]
        exact ⟨hb, by rw [h3 (.inl hb)]; exact hC, hy⟩
    | none => rw [hc] at h; exact h.elim
    | undf => rw [hc] at h; exact h.elim
    | nlq => rw [hc] at h; exact h.elim
    | fal => rw [hc] at h; exact h.elim
    | tap => rw [hc] at h; exact h.elim
    | apd => rw [hc] at h; exact h.elim
    | val => rw [hc] at h; exact h.elim
    | cst => rw [hc] at h; exact h.elim
    | al => rw [hc] at h; exact h.elim
    | tal => rw [hc] at h; exact h.elim
    | ptr => rw [hc] at h; exact h.elim
    | sptr => rw [hc] at h; exact h.elim
    | fn => rw [hc] at h; exact h.elim
  | fal r =>
    simp only [CellOk] at h ⊢
    cases hc : s (rt r) with
    | dead => rw [t.dead r hc]; trivial
    | root k d dep box frz ver0 =>
      rw [hc] at h
      obtain ⟨hb, hf, hv⟩ := h
      rcases t.root r k d dep box frz ver0 hc with hd | ⟨d', dep', frz', ver', h1, h2, h3, h5, h4⟩
      · rw [hd]; trivial
      · rw [h1]
        exact ⟨hb, h5 hf, by rw [h3 (.inr hf)]; exact hv⟩
    | none => rw [hc] at h; exact h.elim
    | undf => rw [hc] at h; exact h.elim
    | nlq => rw [hc] at h; exact h.elim
    | fal => rw [hc] at h; exact h.elim
    | tap => rw [hc] at h; exact h.elim
    | apd => rw [hc] at h; exact h.elim
    | val => rw [hc] at h; exact h.elim
    | cst => rw [hc] at h; exact h.elim
    | al => rw [hc] at h; exact h.elim
    | tal => rw [hc] at h; exact h.elim
    | ptr => rw [hc] at h; exact h.elim
    | sptr => rw [hc] at h; exact h.elim
    | fn => rw [hc] at h; exact h.elim
  | root => exact h.elim
  | val k d =>
    obtain ⟨c, h1, h2⟩ := h
    exact ⟨c, h1, h2.frame fun q b _ hs hb => ⟨(t.shared b hs hb).2, (t.shared b hs hb).1⟩⟩
  | cst k d =>
    obtain ⟨c, h1, h2⟩ := h
    exact ⟨c, h1, h2.frame fun q b _ hs _ => hs.elim⟩
  | fn f => exact h
  | al r p ver =>
    simp only [CellOk] at h ⊢
    cases hc : s (rt r) with
    | dead => rw [t.dead r hc]; trivial
    | root k d dep box frz ver0 =>
      rw [hc] at h
      obtain ⟨hv, h⟩ := h
      rcases t.root r k d dep box frz ver0 hc with hd | ⟨d', dep', frz', ver', h1, h2, h3, h5, h4⟩
      · rw [hd]; trivial
      · rw [h1]
        rcases h4 with ⟨e1, e2, e3, e4, e5⟩ | hlt
        · subst e1 e2
          refine ⟨hv, fun hh => ?_⟩
          obtain ⟨x, k1, k2, k3⟩ := h hh
          refine ⟨x, k1, k2, ?_⟩
          have hro := hr r
          rw [hc] at hro
          have := (sub_same (w' := w') hro.1 k2 k1 fun q' b hs hb => ?_).1
          · rw [e3, this]; exact k3
          · unfold ownS at hs
            split at hs
            · exact e4 q' b hs
            · exact (t.shared b hs hb).2
        · refine ⟨by omega, fun hh => ?_⟩
          rcases hh with hh | ⟨hb, hp⟩
          · omega
          · subst hp
            obtain ⟨x, k1, k2, k3⟩ := h (.inr ⟨hb, rfl⟩)
            simp only [getP, Option.some.injEq] at k1
            subst k1
            refine ⟨_, rfl, trivial, ?_⟩
            rw [h3 (.inl hb)]
            simpa [subC] using k3
    | none => rw [hc] at h; exact h.elim
    | undf => rw [hc] at h; exact h.elim
    | nlq => rw [hc] at h; exact h.elim
    | fal => rw [hc] at h; exact h.elim
    | tap => rw [hc] at h; exact h.elim
    | apd => rw [hc] at h; exact h.elim
    | val => rw [hc] at h; exact h.elim
    | cst => rw [hc] at h; exact h.elim
    | al => rw [hc] at h; exact h.elim
    | tal => rw [hc] at h; exact h.elim
    | ptr => rw [hc] at h; exact h.elim
    | sptr => rw [hc] at h; exact h.elim
    | fn => rw [hc] at h; exact h.elim
  | tal r =>
    simp only [CellOk] at h ⊢
    cases hc : s (rt r) with
    | dead => rw [t.dead r hc]; trivial
    | root k d dep box frz ver0 =>
      rw [hc] at h
      obtain ⟨hb, ks, hk, hv⟩ := h
      rcases t.root r k d dep box frz ver0 hc with hd | ⟨d', dep', frz', ver', h1, h2, h3, h5, h4⟩
      · rw [hd]; trivial
      · rw [h1]
        exact ⟨hb, ks, hk, by rw [h3 (.inl hb)]; exact hv⟩
    | none => rw [hc] at h; exact h.elim
    | undf => rw [hc] at h; exact h.elim
    | nlq => rw [hc] at h; exact h.elim
    | fal => rw [hc] at h; exact h.elim
    | tap => rw [hc] at h; exact h.elim
    | apd => rw [hc] at h; exact h.elim
    | val => rw [hc] at h; exact h.elim
    | cst => rw [hc] at h; exact h.elim
    | al => rw [hc] at h; exact h.elim
    | tal => rw [hc] at h; exact h.elim
    | ptr => rw [hc] at h; exact h.elim
    | sptr => rw [hc] at h; exact h.elim
    | fn => rw [hc] at h; exact h.elim
  | ptr r p ver =>
    simp only [CellOk] at h ⊢
    cases hc : s (rt r) with
    | dead => rw [t.dead r hc]; trivial
    | root k d dep box frz ver0 =>
      rw [hc] at h
      obtain ⟨hv, h⟩ := h
      rcases t.root r k d dep box frz ver0 hc with hd | ⟨d', dep', frz', ver', h1, h2, h3, h5, h4⟩
      · rw [hd]; trivial
      · rw [h1]
        have hhome : home G' r box = home G r box := by unfold home; rw [h2]
        rcases h4 with ⟨e1, e2, e3, e4, e5⟩ | hlt
        · subst e1 e2
          refine ⟨hv, fun hh => ?_⟩
          obtain ⟨x, k1, k2, B, O, k3, k4⟩ := h hh
          refine ⟨x, k1, k2, B, O, ?_, k4⟩
          have hro := hr r
          rw [hc] at hro
          have := (sub_same (w' := w') hro.1 k2 k1 fun q' b hs hb => ?_).2 (home G r box)
          · rw [e3, hhome, this]; exact k3
          · unfold ownS at hs
            split at hs
            · exact e4 q' b hs
            · exact (t.shared b hs hb).2
        · refine ⟨by omega, fun hh => ?_⟩
          rcases hh with hh | ⟨hb, hp⟩
          · omega
          · obtain ⟨x, k1, k2, B, O, k3, k4⟩ := h (.inr ⟨hb, hp⟩)
            obtain ⟨y, j1, j2, j3⟩ := noIdx_getP (d' := d') hp k1
            refine ⟨y, j1, j2, B, O, ?_, k4⟩
            rw [hhome, ← k3]
            exact noIdx_subA _ _ _ _ _ hp k1
    | none => rw [hc] at h; exact h.elim
    | undf => rw [hc] at h; exact h.elim
    | nlq => rw [hc] at h; exact h.elim
    | fal => rw [hc] at h; exact h.elim
    | tap => rw [hc] at h; exact h.elim
    | apd => rw [hc] at h; exact h.elim
    | val => rw [hc] at h; exact h.elim
    | cst => rw [hc] at h; exact h.elim
    | al => rw [hc] at h; exact h.elim
    | tal => rw [hc] at h; exact h.elim
    | ptr => rw [hc] at h; exact h.elim
    | sptr => rw [hc] at h; exact h.elim
    | fn => rw [hc] at h; exact h.elim
  | sptr k d =>
    obtain ⟨B, O, h1, h2, h3, h4⟩ := h
    obtain ⟨k1, k2⟩ := t.shared B h2 h3.lt
    refine ⟨B, O, h1, k1, h3.same k2, ?_⟩
    rw [cellsAt_same k2]
    exact h4.frame fun q b _ hs hb => ⟨(t.shared b hs hb).2, (t.shared b hs hb).1⟩

/-- A root that nothing touches. -/
theorem RootOk.keep {G G' : Gh} {w w' : World} {r : Nat} {c : Cell} (h : RootOk G w r c) (hsh : ∀ b, G.φ b = none → b < w.heap.size → G'.φ b = none ∧ w'.heap[b]? = w.heap[b]?)
    (hC : G'.C r = G.C r) (hβ : G'.β r = G.β r)
    (hown : ∀ b f q, G.φ b = some (f, r, q) → G'.φ b = some (f, r, q) ∧ w'.heap[b]? = w.heap[b]?) : RootOk G' w' r c := by
  cases c with
  | root k d dep box frz ver =>
    obtain ⟨h1, h2⟩ := h
    refine ⟨?_, fun hb => ?_⟩
    · rw [hC]
      refine h1.frame fun q b _ hs hlt => ?_
      unfold ownS at hs ⊢
      split at hs
      · rename_i hl
        simp only [hl, if_true]
        exact ⟨(hown b _ _ hs).2, (hown b _ _ hs).1⟩
      · rename_i hl
        simp only [hl, if_false]
        exact ⟨(hsh b hs hlt).2, (hsh b hs hlt).1⟩
    · obtain ⟨⟨cs, T, e1, e2⟩, e3⟩ := h2 hb
      have hlt : G.β r < w.heap.size := (Array.getElem?_eq_some_iff.1 e1).1
      rw [hC, hβ]
      cases frz with
      | true =>
        simp only [if_true] at e3 ⊢
        obtain ⟨k1, k2⟩ := hsh _ e3 hlt
        exact ⟨⟨cs, T, k2.trans e1, e2⟩, k1⟩
      | false =>
        simp only [Bool.false_eq_true, if_false] at e3 ⊢
        obtain ⟨k1, k2⟩ := hown _ _ _ e3
        exact ⟨⟨cs, T, k2.trans e1, e2⟩, k1⟩
  | _ => trivial
end Go.V
