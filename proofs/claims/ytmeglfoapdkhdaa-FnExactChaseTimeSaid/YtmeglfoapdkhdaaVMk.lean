/- A new root: out of what was given up and of a new block. -/
import Derived.Test.YtmeglfoapdkhdaaVMem
import Derived.Laws.World
set_option linter.unusedVariables false
set_option linter.unusedSimpArgs false
namespace Go.V

/-- Owners told anew: what comes of each old owner. -/
def reφ (φ : Nat → Option (Bool × Nat × Path)) (T : Bool × Nat × Path → Option (Bool × Nat × Path)) (size : Nat) (nb : Option (Bool × Nat × Path)) : Nat → Option (Bool × Nat × Path) :=
  fun b => if b < size then (φ b).bind T else if b = size then nb else none

section
variable {P : Program} {Γ : Ctx} {Kp : Keep} {B0 : World} {n : Nat} {G : Gh} {s : State} {a : Act} {w w' : World} {id : Nat}

theorem mk_rootW (g : GOk Kp G s a w) (T : Bool × Nat × Path → Option (Bool × Nat × Path)) (nb : Option (Bool × Nat × Path)) (cs : List Value)
    (hw : ∀ b, b < w.heap.size → (G.φ b = none ∨ ∃ f r q, G.φ b = some (f, r, q) ∧ ∃ k d dep box frz ver, s (rt r) = .root k d dep box frz ver) → w'.heap[b]? = w.heap[b]?)
    (hcw : ∀ (b : Nat) (cs : Array Value) (T : TypeId), w.heap[b]? = some (Obj.cells cs T (0, 0)) → ∃ cs' T', w'.heap[b]? = some (Obj.cells cs' T' (0, 0)))
    (hT : ∀ f r q, (∃ k d dep box frz ver, s (rt r) = .root k d dep box frz ver) → T (f, r, q) = some (f, r, q))
    (hTf : T far = some far) (hsz : w.heap.size ≤ w'.heap.size)
    (hnb : ∀ x, nb = some x → ¬ Kp.K w.heap.size ∧ ∃ cs T, w'.heap[w.heap.size]? = some (.cells cs T (0, 0)))
    (hid : s (rt id) = .none) {cell : Cell} {d : Nat} {v : Value} {sc : Cell} (hd : d < a.tmps.size)
    (hroot : RootOk ⟨reφ G.φ T w.heap.size nb, fun r => if r = id then cs else G.C r, fun r => if r = id then w.heap.size else G.β r⟩ w' id cell)
    (hcell : cell = .dead ∨ ∃ k d dep box frz ver, cell = .root k d dep box frz ver)
    (hnew : CellOk ⟨reφ G.φ T w.heap.size nb, fun r => if r = id then cs else G.C r, fun r => if r = id then w.heap.size else G.β r⟩ w' (s.put [(rt id, cell), (sl d, sc)]) v sc) :
    ∃ G', GOk Kp G' (s.put [(rt id, cell), (sl d, sc)]) (a.put (some d) v) w' ∧ G'.C id = cs := by
  refine ⟨_, g.step (s' := s.put [(rt id, cell), (sl d, sc)]) (G' := ⟨reφ G.φ T w.heap.size nb, fun r => if r = id then cs else G.C r, fun r => if r = id then w.heap.size else G.β r⟩) ?_ (some d) v (fun t ht => ?_) (fun d' hd' => ?_) (fun r => ?_) ⟨fun b x hx => ?_, fun b x hx => ?_, fun b hx => ?_⟩, by simp⟩
  · have hs' : ∀ r, r ≠ id → (s.put [(rt id, cell), (sl d, sc)]) (rt r) = s (rt r) := fun r hr => by
      simp only [State.put]
      rw [State.set_other _ _ (sl_rt d r).symm, State.set_other _ _ (fun h => hr (rt_inj h))]
    refine ⟨fun b hb hl => ⟨by simp [reφ, hl, hb], hw b hl (.inl hb)⟩, fun r k d0 dep box frz ver hs => ?_, fun r hs => ?_⟩
    · have hr : r ≠ id := fun e => by subst e; rw [hid] at hs; cases hs
      refine .inr ⟨d0, dep, frz, ver, (hs' r hr).trans hs, by simp [hr], fun _ => by simp [hr], fun h => h, .inl ⟨rfl, rfl, by simp [hr], fun q b hb => ?_, fun q b hb h => ?_⟩⟩
      rotate_left
      · rcases ownS_lev h with ⟨h1, h2⟩ | ⟨h1, h2⟩
        · simp only [ownS, h1, if_true, reφ, hb, h2, Option.bind_some]
          exact hT _ _ _ ⟨k, d0, dep, box, frz, ver, hs⟩
        · simp only [ownS, Nat.not_lt.2 h1, if_false, reφ, hb, if_true, h2, Option.bind_none]
      exact hw b (g.col.lt b _ hb) (.inr ⟨_, _, _, hb, k, d0, dep, box, frz, ver, hs⟩)
    · have hr : r ≠ id := fun e => by subst e; rw [hid] at hs; cases hs
      exact (hs' r hr).trans hs
  · simp only [State.put]
    rw [State.set_other _ _ (fun h => ht (by rw [sl_inj h])), State.set_other _ _ (sl_rt t id)]
  · injection hd' with hd'
    subst hd'
    refine ⟨hd, ?_⟩
    have : (s.put [(rt id, cell), (sl d, sc)]) (sl d) = sc := by simp only [State.put]; exact State.set_same _ _ _
    rw [this]
    exact hnew
  · by_cases hr : r = id
    · subst hr
      have : (s.put [(rt r, cell), (sl d, sc)]) (rt r) = cell := by
        simp only [State.put]
        rw [State.set_other _ _ (sl_rt d r).symm, State.set_same]
      rw [this]
      exact hroot
    · have hs' : (s.put [(rt id, cell), (sl d, sc)]) (rt r) = s (rt r) := by
        simp only [State.put]
        rw [State.set_other _ _ (sl_rt d r).symm, State.set_other _ _ (fun h => hr (rt_inj h))]
      rw [hs']
      cases hc : s (rt r) with
      | root k d0 dep box frz ver =>
        have hk := g.roots r
        rw [hc] at hk
        refine RootOk.keep hk (fun b hb hl => ⟨by simp [reφ, hl, hb], hw b hl (.inl hb)⟩) (by simp [hr]) (by simp [hr]) (fun b f q hb => ?_)
        have hl := g.col.lt b _ hb
        exact ⟨by simp [reφ, hl, hb, hT f r q ⟨k, d0, dep, box, frz, ver, hc⟩], hw b hl (.inr ⟨_, _, _, hb, k, d0, dep, box, frz, ver, hc⟩)⟩
      | _ => trivial
  · simp only [reφ] at hx
    split at hx
    · rename_i hl
      cases hb : G.φ b with
      | none => rw [hb] at hx; simp at hx
      | some y =>
        rw [hb] at hx
        rcases g.col.col b y hb with e | ⟨h1, cs', T', h2⟩
        · subst e
          simp only [Option.bind_some, hTf, Option.some.injEq] at hx
          exact .inl hx.symm
        · obtain ⟨cs2, T2, h3⟩ := hcw b cs' T' h2
          exact .inr ⟨h1, cs2, T2, h3⟩
    · split at hx
      · rename_i e
        subst e
        exact .inr (hnb x hx)
      · simp at hx
  · simp only [reφ] at hx
    split at hx
    · rename_i hl
      omega
    · split at hx
      · rename_i e
        subst e
        obtain ⟨_, _, _, h⟩ := hnb x hx
        exact (Array.getElem?_eq_some_iff.1 h).1
      · simp at hx
  · have hb := g.col.out b hx
    have hl := g.col.lt b _ hb
    simp only [reφ, hl, if_true, hb, Option.bind_some, hTf]

theorem mk_root (g : GOk Kp G s a w) (T : Bool × Nat × Path → Option (Bool × Nat × Path)) (nb : Option (Bool × Nat × Path)) (cs : List Value)
    (hw : ∀ b, b < w.heap.size → w'.heap[b]? = w.heap[b]?)
    (hT : ∀ f r q, (∃ k d dep box frz ver, s (rt r) = .root k d dep box frz ver) → T (f, r, q) = some (f, r, q))
    (hTf : T far = some far) (hsz : w.heap.size ≤ w'.heap.size)
    (hnb : ∀ x, nb = some x → ¬ Kp.K w.heap.size ∧ ∃ cs T, w'.heap[w.heap.size]? = some (.cells cs T (0, 0)))
    (hid : s (rt id) = .none) {cell : Cell} {d : Nat} {v : Value} {sc : Cell} (hd : d < a.tmps.size)
    (hroot : RootOk ⟨reφ G.φ T w.heap.size nb, fun r => if r = id then cs else G.C r, fun r => if r = id then w.heap.size else G.β r⟩ w' id cell)
    (hcell : cell = .dead ∨ ∃ k d dep box frz ver, cell = .root k d dep box frz ver)
    (hnew : CellOk ⟨reφ G.φ T w.heap.size nb, fun r => if r = id then cs else G.C r, fun r => if r = id then w.heap.size else G.β r⟩ w' (s.put [(rt id, cell), (sl d, sc)]) v sc) :
    ∃ G', GOk Kp G' (s.put [(rt id, cell), (sl d, sc)]) (a.put (some d) v) w' ∧ G'.C id = cs :=
  mk_rootW g T nb cs (fun b hl _ => hw b hl) (fun b cs T h => ⟨cs, T, (hw b (Array.getElem?_eq_some_iff.1 h).1).trans h⟩) hT hTf hsz hnb hid hd hroot hcell hnew

theorem alloc_old (w : World) (o : Obj) (b : Nat) (h : b < w.heap.size) : (w.alloc o).heap[b]? = w.heap[b]? := by
  show (w.heap.push o)[b]? = _
  rw [Array.getElem?_push, if_neg (by omega)]
theorem alloc_new (w : World) (o : Obj) : (w.alloc o).heap[w.heap.size]? = some o := by
  show (w.heap.push o)[w.heap.size]? = _
  simp
theorem Base.alloc {w : World} (h : Base Kp B0 w) (o : Obj) : Base Kp B0 (w.alloc o) :=
  ⟨h.os, h.tape, h.output, by have := h.size; simp; omega, fun b hb => (alloc_old w o b (Nat.lt_of_lt_of_le (h.old b hb) h.size)).trans (h.kept b hb), h.old⟩
theorem Base.drew {w : World} (h : Base Kp B0 w) : Base Kp B0 w.drew := ⟨h.os, h.tape, h.output, h.size, h.kept, h.old⟩
theorem Base.fresh {w : World} (h : Base Kp B0 w) : ¬ Kp.K w.heap.size := fun hk => by have := h.old _ hk; have := h.size; omega

theorem GOk.drew (g : GOk Kp G s a w) : GOk Kp G s a w.drew := by
  have tr : Tr G G w w.drew s s := ⟨fun _ h _ => ⟨h, rfl⟩, fun r k d dep box frz ver h => .inr ⟨d, dep, frz, ver, h, rfl, fun _ => rfl, fun h => h, .inl ⟨rfl, rfl, rfl, fun _ _ _ => rfl, fun _ _ _ h => h⟩⟩, fun _ h => h⟩
  have := g.step tr none undef (fun _ _ => rfl) (fun d h => by cases h) (fun r => RootOk.keep (g.roots r) (fun b h _ => ⟨h, rfl⟩) rfl rfl (fun b f q h => ⟨h, rfl⟩)) ⟨g.col.col, g.col.lt, g.col.out⟩
  exact this

/-- The result of an operation that may have turned the world. -/
theorem wp_new {o : Oper} {K : Act → World → Prop} {Q : Exit → Act → World → Prop} {v : Value} {d : Nat} (hd : o.dst = some d)
    (h : (execOp a.eval o).run P w = .ok (.value v) w') (hK : K (a.put (some d) v) w') : o.wp P a w K Q := by
  refine wp_value h ?_
  rw [hd]
  exact hK
theorem newAt_ok {ws r : Writes} (h : (newAt id ws).out s = some r) : s (rt id) = .none ∧ r = ws := by
  simp only [newAt, Rd.out] at h
  split at h <;> simp [Rd.out] at h
  rename_i hn
  exact ⟨hn, h.symm⟩
theorem dst_some {o : Oper} {ws : Writes} {c : Cell} (hok : dstOk o ws = true) (h : (sl (o.dst.getD 4095), c) ∈ ws) : ∃ d, o.dst = some d := by
  cases hd : o.dst with
  | some d => exact ⟨d, rfl⟩
  | none =>
    rw [hd] at h
    unfold dstOk at hok
    rw [hd] at hok
    simp only [Option.isSome_none, Bool.false_or, List.all_eq_true] at hok
    have := hok _ h
    simp [sl] at this

variable {o : Oper} {Q : Exit → Act → World → Prop} {ws : Writes}

/-- Owners told anew: live roots keep what they own; what dead ones owned goes to a new root. -/
noncomputable def moveT (s : State) (id dep : Nat) (M : Nat → Path → Option Path) : Bool × Nat × Path → Option (Bool × Nat × Path) := fun x =>
  open Classical in
  if (∃ k d dep box frz ver, s (rt x.2.1) = .root k d dep box frz ver) ∨ x = far then some x else
    match x.1, M x.2.1 x.2.2 with
    | false, some q => if lev q < dep then some (false, id, q) else none
    | _, _ => none
theorem moveT_live {s : State} {id dep : Nat} {M : Nat → Path → Option Path} (f : Bool) (r : Nat) (q : Path) (h : ∃ k d dep box frz ver, s (rt r) = .root k d dep box frz ver) : moveT s id dep M (f, r, q) = some (f, r, q) := by
  unfold moveT
  rw [if_pos (.inl h)]
theorem moveT_far {s : State} {id dep : Nat} {M : Nat → Path → Option Path} : moveT s id dep M far = some far := by
  unfold moveT
  rw [if_pos (.inr rfl)]
theorem moveT_dead {s : State} {id dep : Nat} {M : Nat → Path → Option Path} {r : Nat} {q q' : Path} (h : s (rt r) = .dead) (hM : M r q = some q') :
    moveT s id dep M (false, r, q) = if lev q' < dep then some (false, id, q') else none := by
  unfold moveT
  rw [if_neg (by rintro (⟨k, d, dep, box, frz, ver, e⟩ | e); · simp only at e; rw [h] at e; cases e
                 · simp [far] at e)]
  simp only [hM]

/-- What was given up, as a part of what is new. -/
theorem holds_move {v : V} {cs : List Value} {dp : Nat} {ro : Option (Nat × Path)} (h : Holds G w s v cs dp ro) {dep : Nat} {M : Nat → Path → Option Path} {pre : Path} {nb : Option (Bool × Nat × Path)}
    (hw : ∀ b, b < w.heap.size → w'.heap[b]? = w.heap[b]?) (hd : dep ≤ lev pre + dp)
    (hM' : ∀ r p, ro = some (r, p) → ∀ q, M r (p ++ q) = some (pre ++ q)) :
    Rep w' (ownS (reφ G.φ (moveT s id dep M) w.heap.size nb) id dep) v.k pre cs v.d := by
  cases h with
  | free _ h => exact (h.move (q' := pre) fun p b hs _ => hs.elim).frame fun q b _ hs hb => ⟨hw b hb, hs⟩
  | shared h =>
    refine (h.move (q' := pre) (S' := fun q b => dep ≤ lev q ∧ G.φ b = none) fun p b hs _ => ⟨by rw [lev_append]; omega, hs⟩).frame fun q b _ hs hb => ⟨hw b hb, ?_⟩
    simp only [ownS, Nat.not_lt.2 hs.1, if_false, reφ, hb, if_true, hs.2, Option.bind_none]
  | dead r p0 _ hr h =>
    have hMr := hM' r p0 rfl
    refine (h.move (q' := pre) (S' := fun q b => ownS (reφ G.φ (moveT s id dep M) w.heap.size nb) id dep q b) fun p b hs hb => ?_).frame fun q b _ hs hb => ⟨hw b hb, hs⟩
    have hp : lev (p0 ++ p) = lev p0 + lev p := lev_append _ _
    have hp' : lev (pre ++ p) = lev pre + lev p := lev_append _ _
    rcases ownS_lev hs with ⟨hl, hs⟩ | ⟨hl, hs⟩
    · by_cases hlt : lev (pre ++ p) < dep
      · simp only [ownS, hlt, if_true, reφ, hb, hs, Option.bind_some]
        rw [moveT_dead hr (hMr p), if_pos hlt]
      · simp only [ownS, hlt, if_false, reφ, hb, if_true, hs, Option.bind_some]
        rw [moveT_dead hr (hMr p), if_neg hlt]
    · have : ¬ lev (pre ++ p) < dep := by omega
      simp only [ownS, this, if_false, reφ, hb, if_true, hs, Option.bind_none]

theorem Holds.length {v : V} {cs : List Value} {dp : Nat} {ro : Option (Nat × Path)} (h : Holds G w s v cs dp ro) : cs.length = v.k.size := by
  cases h with
  | free _ h => exact h.length
  | shared h => exact h.length
  | dead _ _ _ _ h => exact h.length

theorem Holds.rep {v : V} {cs : List Value} {dp : Nat} {ro : Option (Nat × Path)} (h : Holds G w s v cs dp ro) : ∃ S q, Rep w S v.k q cs v.d := by
  cases h with
  | free _ h => exact ⟨_, _, h⟩
  | shared h => exact ⟨_, _, h⟩
  | dead _ _ _ _ h => exact ⟨_, _, h⟩

/-- A box. -/
theorem box_root' {k : Kd} {x : k.den} {dep d : Nat} (frz : Bool) (S : Set_ P Γ Kp B0 n G s a w o) {s1 : State} {G1 : Gh} (g1 : GOk Kp G1 s1 a w) (hd : o.dst = some d) (hid : s1 (rt id) = .none) (T : TypeId) (cs : List Value)
    {ro : Option (Nat × Path)} (hh : Holds G1 w s1 ⟨k, x⟩ cs dep ro) (hro : ∀ r p, ro = some (r, p) → p = []) (hrun : (execOp a.eval o).run P w = .ok (.value (.pointer (some ⟨w.heap.size, 0, none⟩))) (w.alloc (.cells cs.toArray T))) :
    o.wp P a w (fun a' w' => ∃ u, a' = a.put (some d) u ∧ Base Kp B0 w' ∧ ∃ G', GOk Kp G' (s1.put [(rt id, .root k x dep true frz 0), (sl d, .ptr id [] 0)]) a' w' ∧ G'.C id = cs) Q := by
  refine wp_new hd hrun ?_
  have hw : ∀ b, b < w.heap.size → (w.alloc (.cells cs.toArray T)).heap[b]? = w.heap[b]? := alloc_old w _
  have hdn := S.dst d hd
  obtain ⟨G', g', hC⟩ := mk_root g1 (w' := w.alloc (.cells cs.toArray T)) (moveT s1 id dep fun _ q => some q) (if frz then none else some (true, id, [])) cs hw (fun f r q h => moveT_live f r q h) moveT_far (by simp)
    (fun x hx => ⟨S.inv.base.fresh, _, _, alloc_new _ _⟩) hid (cell := .root k x dep true frz 0) (d := d) (v := .pointer (some ⟨w.heap.size, 0, none⟩)) (sc := .ptr id [] 0) (by rw [S.inv.size]; exact hdn)
    (by
      refine ⟨?_, fun _ => ⟨⟨cs.toArray, T, by simp only [if_true]; exact alloc_new _ _, by simp⟩, ?_⟩⟩
      · simp only [if_true]
        exact holds_move hh hw (by simp [lev]) (fun r p hr q => by simp [hro r p hr])
      · simp [reφ])
    (.inr ⟨_, _, _, _, _, _, rfl⟩)
    (by
      have e : (s1.put [(rt id, Cell.root k x dep true frz 0), (sl d, .ptr id [] 0)]) (rt id) = .root k x dep true frz 0 := by
        simp only [State.put]; rw [State.set_other _ _ (sl_rt d id).symm, State.set_same]
      simp only [CellOk]
      rw [e]
      exact ⟨Nat.le_refl _, fun _ => ⟨⟨k, x⟩, rfl, trivial, w.heap.size, 0, by simp [subA, home], rfl⟩⟩)
  exact ⟨_, rfl, S.inv.base.alloc _, G', g', hC⟩
theorem box_root {k : Kd} {x : k.den} {dep d : Nat} (S : Set_ P Γ Kp B0 n G s a w o) {s1 : State} {G1 : Gh} (g1 : GOk Kp G1 s1 a w) (hd : o.dst = some d) (hid : s1 (rt id) = .none) (T : TypeId) (cs : List Value)
    {ro : Option (Nat × Path)} (hh : Holds G1 w s1 ⟨k, x⟩ cs dep ro) (hro : ∀ r p, ro = some (r, p) → p = []) (hrun : (execOp a.eval o).run P w = .ok (.value (.pointer (some ⟨w.heap.size, 0, none⟩))) (w.alloc (.cells cs.toArray T))) :
    o.wp P a w (fun a' w' => Inv Kp B0 n (s1.put [(rt id, .root k x dep true false 0), (sl d, .ptr id [] 0)]) a' w') Q := by
  refine Oper.wp_mono (fun a' w' hh => ?_) (box_root' false S g1 hd hid T cs hh hro hrun)
  obtain ⟨u, rfl, hb, G', g', _⟩ := hh
  exact ⟨by simp [Act.put, S.inv.defers], by simp [Act.put, S.inv.size], hb, G', g'⟩
/-- A cell told anew. -/
theorem GOk.recell {s : State} {a : Act} {w : World} {G : Gh} (g : GOk Kp G s a w) {t : Nat} {c : Cell} (h : CellOk G w s (a.tmps.getD t undef) c) : GOk Kp G (s.set (sl t) c) a w := by
  have hr : ∀ r, (s.set (sl t) c) (rt r) = s (rt r) := fun r => State.set_other _ _ (sl_rt t r).symm
  refine ⟨fun u => ?_, fun r => by rw [hr]; exact g.roots r, g.col⟩
  by_cases e : u = t
  · subst e
    rw [State.set_same]
    exact h.roots hr
  · rw [State.set_other _ _ (fun h => e (sl_inj h))]
    exact (g.slots u).roots hr

/-- A slice of the call's own, in a new block. -/
theorem slice_root {e : Kd} {l : List e.den} {dep d : Nat} (S : Set_ P Γ Kp B0 n G s a w o) {s1 : State} {G1 : Gh} {w1 : World} (g1 : GOk Kp G1 s1 a w1) (hb : Base Kp B0 w1) (hd : o.dst = some d) (hid : s1 (rt id) = .none) (T : TypeId) (cs : Array Value) (cap : Nat)
    (M : Nat → Path → Option Path) (hdep : 1 ≤ dep) (hcap : l.length ≤ cap) (hsz : cap * e.size ≤ cs.size)
    (hel : ∀ i (h : i < l.length), ∃ dp ro, Holds G1 w1 s1 ⟨e, l.get ⟨i, h⟩⟩ ((cs.toList.drop (i * e.size)).take e.size) dp ro ∧ dep ≤ dp + 1 ∧ ∀ r p, ro = some (r, p) → ∀ q, M r (p ++ q) = some (.i i :: q))
    (hrun : (execOp a.eval o).run P w = .ok (.value (.slice (some ⟨w1.heap.size, 0, none⟩) l.length cap)) (w1.alloc (.cells cs T))) :
    o.wp P a w (fun a' w' => Inv Kp B0 n (s1.put [(rt id, .root (.slice e) l dep false false 0), (sl d, .al id [] 0)]) a' w') Q := by
  refine wp_new hd hrun ?_
  have hw : ∀ b, b < w1.heap.size → (w1.alloc (.cells cs T)).heap[b]? = w1.heap[b]? := alloc_old w1 _
  have hdn := S.dst d hd
  obtain ⟨G', g', _⟩ := mk_root g1 (w' := w1.alloc (.cells cs T)) (moveT s1 id dep M) (some (false, id, [])) [.slice (some ⟨w1.heap.size, 0, none⟩) l.length cap] hw (fun f r q h => moveT_live f r q h) moveT_far (by simp)
    (fun x hx => ⟨hb.fresh, _, _, alloc_new _ _⟩) hid (cell := .root (.slice e) l dep false false 0) (d := d) (v := .slice (some ⟨w1.heap.size, 0, none⟩) l.length cap) (sc := .al id [] 0) (by rw [S.inv.size]; exact hdn)
    (by
      refine ⟨?_, fun h => by cases h⟩
      simp only [if_true, Rep]
      refine .inr ⟨w1.heap.size, 0, cap, rfl, hcap, ?_, ⟨cs, T, _, alloc_new _ _, by omega⟩, fun i hi => ?_⟩
      · have : lev [] < dep := by simp [lev]; omega
        simp [ownS, this, reφ]
      · obtain ⟨dp, ro, h1, h2, h3⟩ := hel i hi
        have hc : cellsAt (w1.alloc (.cells cs T)) w1.heap.size (0 + i * e.size) e.size = (cs.toList.drop (i * e.size)).take e.size := by
          unfold cellsAt
          rw [alloc_new, Nat.zero_add]
        rw [hc]
        exact holds_move (v := ⟨e, l.get ⟨i, hi⟩⟩) h1 hw (by simp [lev]; omega) (fun r p hr q => by simpa using h3 r p hr q))
    (.inr ⟨_, _, _, _, _, _, rfl⟩)
    (by
      have e' : (s1.put [(rt id, Cell.root (.slice e) l dep false false 0), (sl d, .al id [] 0)]) (rt id) = .root (.slice e) l dep false false 0 := by
        simp only [State.put]; rw [State.set_other _ _ (sl_rt d id).symm, State.set_same]
      simp only [CellOk]
      rw [e']
      exact ⟨Nat.le_refl _, fun _ => ⟨⟨.slice e, l⟩, rfl, trivial, by simp [subC, mkVal, Kd.agg]⟩⟩)
  exact ⟨by simp [Act.put, S.inv.defers], by simp [Act.put, S.inv.size], hb.alloc _, G', g'⟩

/-- A value of the call's own, without a new block. -/
theorem value_root {k : Kd} {x : k.den} {dep d : Nat} (S : Set_ P Γ Kp B0 n G s a w o) {s1 : State} {G1 : Gh} (g1 : GOk Kp G1 s1 a w) (hd : o.dst = some d) (hid : s1 (rt id) = .none) (cs : List Value)
    (M : Nat → Path → Option Path) (hrep : Rep w (ownS (reφ G1.φ (moveT s1 id dep M) w.heap.size none) id dep) k [] cs x)
    (hrun : (execOp a.eval o).run P w = .ok (.value (mkVal k cs)) w) :
    o.wp P a w (fun a' w' => Inv Kp B0 n (s1.put [(rt id, .root k x dep false false 0), (sl d, .al id [] 0)]) a' w') Q := by
  refine wp_new hd hrun ?_
  have hdn := S.dst d hd
  obtain ⟨G', g', _⟩ := mk_root g1 (w' := w) (moveT s1 id dep M) none cs (fun _ _ => rfl) (fun f r q h => moveT_live f r q h) moveT_far (Nat.le_refl _)
    (fun x hx => by cases hx) hid (cell := .root k x dep false false 0) (d := d) (v := mkVal k cs) (sc := .al id [] 0) (by rw [S.inv.size]; exact hdn)
    (by
      refine ⟨?_, fun h => by cases h⟩
      simp only [if_true]
      exact hrep)
    (.inr ⟨_, _, _, _, _, _, rfl⟩)
    (by
      have e : (s1.put [(rt id, Cell.root k x dep false false 0), (sl d, .al id [] 0)]) (rt id) = .root k x dep false false 0 := by
        simp only [State.put]; rw [State.set_other _ _ (sl_rt d id).symm, State.set_same]
      simp only [CellOk]
      rw [e]
      exact ⟨Nat.le_refl _, fun _ => ⟨⟨k, x⟩, rfl, trivial, by simp [subC]⟩⟩)
  exact ⟨by simp [Act.put, S.inv.defers], by simp [Act.put, S.inv.size], S.inv.base, G', g'⟩
end
end Go.V
