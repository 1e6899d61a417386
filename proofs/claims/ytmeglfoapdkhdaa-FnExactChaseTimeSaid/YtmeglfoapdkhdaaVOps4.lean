/- The operations' soundness, fourth part: what makes roots. -/
import Derived.Test.YtmeglfoapdkhdaaVMk
import Derived.Laws.MakeOwn
import Derived.Great.BuildSlice
set_option linter.unusedVariables false
set_option linter.unusedSimpArgs false
namespace Go.V

section
variable {P : Program} {Γ : Ctx} {Kp : Keep} {B0 : World} {n : Nat} {G : Gh} {s : State} {a : Act} {w w' : World} {id : Nat} {o : Oper} {Q : Exit → Act → World → Prop} {ws : Writes}

theorem fromOf_nil {own : Bool} {y : Got} {r : Nat} {p : Path} (h : fromOf own y = some (r, p)) : p = [] ∧ ∃ c, y.from_ = some (r, c) := by
  unfold fromOf at h
  rcases bif_some h with ⟨_, h⟩ | ⟨_, h⟩
  · cases hf : y.from_ with
    | none => rw [hf] at h; simp at h
    | some x => rw [hf] at h; simp at h; exact ⟨h.2, x.2, by rw [← h.1]⟩
  · simp at h

theorem leave_root {own : Bool} {y : Got} {r : Nat} (h : ∀ c, y.from_ ≠ some (r, c)) (s : State) : (s.put (leave own y)) (rt r) = s (rt r) := by
  unfold leave
  cases hf : y.from_ with
  | none => rfl
  | some x =>
    obtain ⟨r', c⟩ := x
    simp only [State.put]
    exact State.set_other _ _ (fun e => h c (by rw [hf, rt_inj e]))

/-- What was got stays got while another value is given up. -/
theorem GotOk.keep {G1 : Gh} {s1 : State} {x : Value} {y : Got} (h : GotOk G w s x y) (hs : ∀ r c, y.from_ = some (r, c) → s1 (rt r) = s (rt r)) (hn : ∀ b, G.φ b = none → G1.φ b = none)
    (ho : ∀ b f r q, G.φ b = some (f, r, q) → (∃ c, y.from_ = some (r, c)) → G1.φ b = some (f, r, q)) : GotOk G1 w s1 x y := by
  obtain ⟨cs, h1, h⟩ := h
  refine ⟨cs, h1, ?_⟩
  rcases h with h | ⟨hf, hd, hr⟩ | ⟨r, k, d, dep, box, frz, ver, p, hf, hs', hr, hd⟩
  · exact .inl h
  · exact .inr (.inl ⟨hf, hd, hr.frame fun q b _ hb _ => ⟨rfl, hn b hb⟩⟩)
  · refine .inr (.inr ⟨r, k, d, dep, box, frz, ver, p, hf, (hs r _ hf).trans hs', hr.frame fun q b _ hb _ => ⟨rfl, ?_⟩, hd⟩)
    rcases ownS_lev hb with ⟨hl, hb⟩ | ⟨hl, hb⟩
    · simp only [ownS, hl, if_true]; exact ho b _ _ _ hb ⟨_, hf⟩
    · simp only [ownS, Nat.not_lt.2 hl, if_false]; exact hn b hb
theorem Holds.keep {G1 : Gh} {s1 : State} {v : V} {cs : List Value} {dp : Nat} {ro : Option (Nat × Path)} (h : Holds G w s v cs dp ro) (hs : ∀ r p, ro = some (r, p) → s1 (rt r) = s (rt r)) (hn : ∀ b, G.φ b = none → G1.φ b = none)
    (ho : ∀ b f r q, G.φ b = some (f, r, q) → (∃ p, ro = some (r, p)) → G1.φ b = some (f, r, q)) : Holds G1 w s1 v cs dp ro := by
  cases h with
  | free _ h => exact .free _ h
  | shared h => exact .shared (h.frame fun q b _ hb _ => ⟨rfl, hn b hb⟩)
  | dead r p _ hr h =>
    refine .dead r p _ ((hs r p rfl).trans hr) (h.frame fun q b _ hb _ => ⟨rfl, ?_⟩)
    rcases ownS_lev hb with ⟨hl, hb⟩ | ⟨hl, hb⟩
    · simp only [ownS, hl, if_true]; exact ho b _ _ _ hb ⟨_, rfl⟩
    · simp only [ownS, Nat.not_lt.2 hl, if_false]; exact hn b hb

theorem Holds.cells {v : V} {cs : List Value} {dp : Nat} {ro : Option (Nat × Path)} (h : Holds G w s v cs dp ro) : (mkVal v.k cs).cells = cs.toArray := by
  have : (mkVal v.k cs).cells.toList = cs := by
    cases h with
    | free _ h => exact mkVal_cells h
    | shared h => exact mkVal_cells h
    | dead _ _ _ _ h => exact mkVal_cells h
  apply Array.ext'
  simpa using this

inductive Gots (G : Gh) (w : World) (s : State) (a : Act) : List (Nat × Operand) → List (Nat × Got) → Prop
  | nil : Gots G w s a [] []
  | cons {i : Nat} {x : Operand} {y : Got} {ps : List (Nat × Operand)} {gs : List (Nat × Got)} : GotOk G w s (a.eval x) y → Gots G w s a ps gs → Gots G w s a ((i, x) :: ps) ((i, y) :: gs)
inductive Helds (G : Gh) (w : World) (s : State) (a : Act) (own : Bool) : List (Nat × Operand) → List (Nat × Got) → Prop
  | nil : Helds G w s a own [] []
  | cons {i : Nat} {x : Operand} {y : Got} {ps : List (Nat × Operand)} {gs : List (Nat × Got)} (cs : List Value) : a.eval x = mkVal y.v.k cs → Holds G w s y.v cs (bif own then y.dp else 0) (fromOf own y) → Helds G w s a own ps gs → Helds G w s a own ((i, x) :: ps) ((i, y) :: gs)

theorem gotAll_ok (g : GOk Kp G s a w) {ty : Nat → Option Kd} : ∀ {ps : List (Nat × Operand)} {gs : List (Nat × Got)}, (gotAll Γ ty ps).out s = some gs → Gots G w s a ps gs := by
  intro ps
  induction ps with
  | nil => intro gs h; simp only [gotAll, Rd.out, Option.some.injEq] at h; subst h; exact .nil
  | cons x ps ih =>
    intro gs h
    obtain ⟨i, x⟩ := x
    simp only [gotAll, Rd.out_bind, Option.bind_eq_some_iff, Rd.out, Option.some.injEq] at h
    obtain ⟨c, h1, y, h2, gs', h3, h4⟩ := h
    subst h4
    exact .cons (got_ok g (rdK_ok g h1) h2) (ih h3)

theorem fromIs_spec {y : Got} {r : Nat} (h : fromIs y r = false) : ∀ c, y.from_ ≠ some (r, c) := by
  intro c e
  unfold fromIs at h
  rw [e] at h
  simp at h

theorem leaveAll_ok (own : Bool) : ∀ {ps : List (Nat × Operand)} {gs : List (Nat × Got)} {G : Gh} {s : State}, GOk Kp G s a w → Gots G w s a ps gs → distinctFrom gs = true →
    ∃ G', GOk Kp G' (s.put (gs.flatMap fun g => leave own g.2)) a w ∧ Helds G' w (s.put (gs.flatMap fun g => leave own g.2)) a own ps gs ∧ G'.C = G.C ∧ G'.β = G.β ∧
      (∀ b, G.φ b = none → G'.φ b = none) ∧ (∀ b f r q, G.φ b = some (f, r, q) → (∀ g ∈ gs, ∀ c, g.2.from_ ≠ some (r, c)) → G'.φ b = some (f, r, q)) ∧
      (∀ r, (∀ g ∈ gs, ∀ c, g.2.from_ ≠ some (r, c)) → (s.put (gs.flatMap fun g => leave own g.2)) (rt r) = s (rt r)) := by
  intro ps
  induction ps with
  | nil =>
    intro gs G s g h _
    cases h
    exact ⟨G, g, .nil, rfl, rfl, fun _ h => h, fun _ _ _ _ h _ => h, fun _ _ => rfl⟩
  | cons x ps ih =>
    intro gs G s g h hd
    cases h with
    | @cons i x y _ gs h1 h2 =>
      simp only [distinctFrom, Bool.and_eq_true] at hd
      obtain ⟨hd1, hd2⟩ := hd
      have hdis : ∀ z ∈ gs, ∀ r c c', y.from_ = some (r, c) → z.2.from_ ≠ some (r, c') := by
        intro z hz r c c' hy
        rw [hy] at hd1
        simp only [Bool.not_eq_true', List.any_eq_false] at hd1
        exact fromIs_spec (by simpa using hd1 z hz) c'
      obtain ⟨G1, cs, g1, e1, hh1, eC, eβ, n1, o1, _⟩ := leave_ok g h1 own
      have hgots : Gots G1 w (s.put (leave own y)) a ps gs := by
        have : ∀ {ps' : List (Nat × Operand)} {gs' : List (Nat × Got)}, Gots G w s a ps' gs' → (∀ z ∈ gs', ∀ r c c', y.from_ = some (r, c) → z.2.from_ ≠ some (r, c')) → Gots G1 w (s.put (leave own y)) a ps' gs' := by
          intro ps' gs' h
          induction h with
          | nil => intro _; exact .nil
          | cons k1 k2 ih2 =>
            intro hdis
            refine .cons (k1.keep (fun r c hr => leave_root (fun c' e => hdis _ (List.mem_cons_self ..) r c' c e hr) s) n1 (fun b f r q hb hr => ?_)) (ih2 fun z hz => hdis z (List.mem_cons_of_mem _ hz))
            obtain ⟨c, hr⟩ := hr
            exact o1 b f r q hb fun c' e => hdis _ (List.mem_cons_self ..) r c' c e hr
        exact this h2 hdis
      obtain ⟨G2, g2, hh2, eC2, eβ2, n2, o2, r2⟩ := ih g1 hgots hd2
      have eput : s.put (((i, y) :: gs).flatMap fun g => leave own g.2) = (s.put (leave own y)).put (gs.flatMap fun g => leave own g.2) := by
        simp only [List.flatMap_cons]
        exact State.put_append _ _ _
      rw [eput]
      refine ⟨G2, g2, .cons cs e1 (hh1.keep (fun r p hr => ?_) n2 (fun b f r q hb hr => ?_)) hh2, eC2.trans eC, eβ2.trans eβ, fun b h => n2 b (n1 b h), fun b f r q hb hr => ?_, fun r hr => ?_⟩
      · obtain ⟨_, c, hc⟩ := fromOf_nil hr
        exact r2 r fun z hz c' => hdis z hz r c c' hc
      · obtain ⟨p, hp⟩ := hr
        obtain ⟨_, c, hc⟩ := fromOf_nil hp
        exact o2 b f r q hb fun z hz c' => hdis z hz r c c' hc
      · exact o2 b f r q (o1 b f r q hb (hr _ (List.mem_cons_self ..))) fun z hz => hr z (List.mem_cons_of_mem _ hz)
      · rw [r2 r fun z hz => hr z (List.mem_cons_of_mem _ hz)]
        exact leave_root (hr _ (List.mem_cons_self ..)) s

/-! ### a value counted as shared -/
theorem dstOk_right {o : Oper} {x y : Writes} (h : dstOk o (x ++ y) = true) : dstOk o y = true := by
  unfold dstOk at h ⊢
  simp only [Bool.or_eq_true, List.all_append, Bool.and_eq_true] at h ⊢
  rcases h with h | ⟨_, h⟩
  · exact .inl h
  · exact .inr h
theorem move_dm_ok (S : Set_ P Γ Kp B0 n G s a w o) {x : Operand} (ho : o.op = .move x ∨ o.op = .assign x) (hdm : Γ.dm (o.dst.getD 4095) = true) (h : (opD Γ id o).out s = some ws) (hok : dstOk o ws = true) :
    o.wp P a w (fun a' w' => Inv Kp B0 n (s.put ws) a' w') Q := by
  have h' : ((rdOp Γ o.type x).bind fun c => (got Γ x c).bind fun g => .ret (leave false g ++ [(sl (o.dst.getD 4095), .val g.v.k g.v.d)])).out s = some ws := by
    rcases ho with ho | ho <;> (unfold opD at h; rw [ho] at h; simp only [hdm, cond_true] at h; exact h)
  simp only [Rd.out_bind, Option.bind_eq_some_iff, Rd.out, Option.some.injEq] at h'
  obtain ⟨c, h1, y, h2, h3⟩ := h'
  subst h3
  have hrun : (execOp a.eval o).run P w = .ok (.value (a.eval x)) w := by
    unfold execOp
    rcases ho with ho | ho <;> rw [ho] <;> rfl
  obtain ⟨G1, cs, g1, e1, hh, _⟩ := leave_ok S.g (got_ok S.g (rdOp_ok S.g h1) h2) false
  have e0 : fromOf false y = none := rfl
  rw [e0] at hh
  have S1 : Set_ P Γ Kp B0 n G1 (s.put (leave false y)) a w o := ⟨S.tab, ⟨S.inv.defers, S.inv.size, S.inv.base, G1, g1⟩, g1, S.dst⟩
  rw [State.put_append]
  refine slot_ok S1 (dstOk_right hok) hrun ⟨cs, e1, ?_⟩
  cases hh with
  | free _ h => exact h.move fun _ _ hb _ => hb.elim
  | shared h => exact h

/-! ### alloc, box -/
theorem zcells_arr {t : TypeId} {k : Kd} {i : TypeInfo} {z : Value} (h : Row P t k i z) : z.cells = (zeroC k).toArray := by
  rw [← h.zcells]

theorem alloc_ok (S : Set_ P Γ Kp B0 n G s a w o) {t : TypeId} (ho : o.op = .alloc t) (h : (opD Γ id o).out s = some ws) (hok : dstOk o ws = true) :
    o.wp P a w (fun a' w' => Inv Kp B0 n (s.put ws) a' w') Q := by
  unfold opD at h
  rw [ho] at h
  simp only [Rd.out_bind, Option.bind_eq_some_iff] at h
  obtain ⟨k, h1, h2⟩ := h
  obtain ⟨hid, rfl⟩ := newAt_ok h2
  obtain ⟨i, z, hr⟩ := row_of S.tab (kindOf_ok h1)
  obtain ⟨d, hd⟩ := dst_some (c := .ptr id [] 0) hok (by simp)
  rw [hd]
  refine box_root S S.g hd hid t (zeroC k) (dep := 99) (ro := none) (.free 99 (zeroC_rep k [] (tab_pure S.tab (kindOf_ok h1)))) (fun _ _ h => by cases h) ?_
  unfold execOp
  rw [ho]
  simp [Instr.alloc, run_zero hr, newVar, newRow, zcells_arr hr]

theorem box_ok (S : Set_ P Γ Kp B0 n G s a w o) {t : TypeId} {x : Operand} (ho : o.op = .box t x) (h : (opD Γ id o).out s = some ws) (hok : dstOk o ws = true) :
    o.wp P a w (fun a' w' => Inv Kp B0 n (s.put ws) a' w') Q := by
  unfold opD at h
  rw [ho] at h
  simp only [Rd.out_bind, Option.bind_eq_some_iff, Rd.out_opt] at h
  obtain ⟨k, h1, c, h2, y, h3, v, h4, h5⟩ := h
  simp only [bif_out] at h5
  rcases bif_some h5 with ⟨_, h5⟩ | ⟨_, h5⟩
  · obtain ⟨hid, rfl⟩ := newAt_ok h5
    have hg := got_ok S.g (rdOp_ok S.g h2) h3
    obtain ⟨d, hd⟩ := dst_some (c := .sptr k v) hok (by simp)
    have h6 := cast?_eq h4
    obtain ⟨G1, cs, g1, e1, hh, eC, eβ, n1, o1, m1⟩ := leave_ok S.g hg false
    rw [h6] at hh e1
    simp only [cond_false] at hh
    have hid' : (s.put (leave false y)) (rt id) = .none := by
      by_cases hf : ∀ c, y.from_ ≠ some (id, c)
      · rw [leave_root hf]; exact hid
      · have : ∃ c, y.from_ = some (id, c) := by
          by_cases h : ∃ c, y.from_ = some (id, c)
          · exact h
          · exact absurd (fun c e => h ⟨c, e⟩) hf
        obtain ⟨c, hc⟩ := this
        obtain ⟨_, _, hq⟩ := hg
        rcases hq with ⟨hf, _⟩ | ⟨hf, _⟩ | ⟨r, _, _, _, _, _, _, _, hf, hs, _⟩
        · rw [hc] at hf; cases hf
        · rw [hc] at hf; cases hf
        · rw [hc] at hf
          injection hf with hf
          injection hf with hf _
          subst hf
          rw [hid] at hs
          cases hs
    have e2 : (a.eval x).cells = cs.toArray := by
      rw [e1]
      exact hh.cells
    have hrun : (execOp a.eval o).run P w = .ok (.value (.pointer (some ⟨w.heap.size, 0, none⟩))) (w.alloc (.cells cs.toArray t)) := by
      unfold execOp
      rw [ho]
      simp [Instr.box, newVar, newRow, e2]
    have hw : ∀ b, b < w.heap.size → (w.alloc (.cells cs.toArray t)).heap[b]? = w.heap[b]? := alloc_old w _
    have hdn := S.dst d hd
    have hrep : Rep w (shS G1.φ) k [] cs v := by
      have e0 : fromOf false y = none := rfl
      rw [e0] at hh
      cases hh with
      | free _ h => exact h.move fun _ _ hb _ => hb.elim
      | shared h => exact h
    have hlen := hrep.length
    rw [hd, State.put_append]
    refine wp_new hd hrun ?_
    obtain ⟨G', g', _⟩ := mk_root g1 (w' := w.alloc (.cells cs.toArray t)) (fun x => some x) none [] hw (fun f r q h => rfl) rfl (by simp)
      (fun x hx => by cases hx) hid' (cell := .dead) (d := d) (v := .pointer (some ⟨w.heap.size, 0, none⟩)) (sc := .sptr k v) (by rw [S.inv.size]; exact hdn) trivial (.inl rfl)
      ⟨w.heap.size, 0, rfl, by simp [reφ], ⟨cs.toArray, t, _, alloc_new _ _, by simp; omega⟩, by
        have hc : cellsAt (w.alloc (.cells cs.toArray t)) w.heap.size 0 k.size = cs := by
          unfold cellsAt
          rw [alloc_new]
          simp only [List.drop_zero]
          exact List.take_of_length_le (by omega)
        rw [hc]
        exact hrep.frame fun q b _ hb hlt => ⟨hw b hlt, by simp only [shS] at hb; simp [shS, reφ, hlt, hb]⟩⟩
    exact ⟨by simp [Act.put, S.inv.defers], by simp [Act.put, S.inv.size], S.inv.base.alloc _, G', g'⟩
  have hn : s (rt id) = .none ∧ (ws = leave true y ++ [(rt id, .root k v y.dp true false 0), (sl (o.dst.getD 4095), .ptr id [] 0)] ∨
      ∃ t', ws = leave true y ++ [(rt id, .root k v y.dp true true 0), (sl (o.dst.getD 4095), .ptr id [] 0)] ++ [(sl t', .fal id)] ∧ x = .tmp t' ∧ t' ≠ o.dst.getD 4095) := by
    split at h5
    · obtain ⟨h6, h7⟩ := newAt_ok h5
      exact ⟨h6, .inl h7⟩
    · rename_i t' ht
      obtain ⟨h6, h7⟩ := newAt_ok h5
      refine ⟨h6, .inr ⟨t', h7, ?_⟩⟩
      unfold lentOf at ht
      split at ht
      · rename_i t0
        rcases bif_some ht with ⟨h8, h9⟩ | ⟨_, h9⟩
        · have h9 := Option.some.inj h9
          subst h9
          simp only [Bool.and_eq_true, Bool.not_eq_true'] at h8
          exact ⟨rfl, fun e => by have := h8.2; rw [← e, Nat.beq_refl] at this; cases this⟩
        · cases h9
      · cases ht
  obtain ⟨hid, hws⟩ := hn
  have hg := got_ok S.g (rdOp_ok S.g h2) h3
  obtain ⟨d, hd⟩ := dst_some (c := .ptr id [] 0) hok (by rcases hws with rfl | ⟨t', rfl, _⟩ <;> simp)
  have h6 := cast?_eq h4
  obtain ⟨G1, cs, g1, e1, hh, eC, eβ, n1, o1, m1⟩ := leave_ok S.g hg true
  have hid' : (s.put (leave true y)) (rt id) = .none := by
    by_cases hf : ∀ c, y.from_ ≠ some (id, c)
    · rw [leave_root hf]; exact hid
    · have : ∃ c, y.from_ = some (id, c) := by
        by_cases h : ∃ c, y.from_ = some (id, c)
        · exact h
        · exact absurd (fun c e => h ⟨c, e⟩) hf
      obtain ⟨c, hc⟩ := this
      obtain ⟨_, _, hq⟩ := hg
      rcases hq with ⟨hf, _⟩ | ⟨hf, _⟩ | ⟨r, _, _, _, _, _, _, _, hf, hs, _⟩
      · rw [hc] at hf; cases hf
      · rw [hc] at hf; cases hf
      · rw [hc] at hf
        injection hf with hf
        injection hf with hf _
        subst hf
        rw [hid] at hs
        cases hs
  have e2 : (a.eval x).cells = cs.toArray := by
    rw [e1]
    exact hh.cells
  have hrun : (execOp a.eval o).run P w = .ok (.value (.pointer (some ⟨w.heap.size, 0, none⟩))) (w.alloc (.cells cs.toArray t)) := by
    unfold execOp
    rw [ho]
    simp [Instr.box, newVar, newRow, e2]
  rcases hws with rfl | ⟨t', rfl, rfl, hne⟩
  · rw [hd, State.put_append]
    rw [h6] at hh
    exact box_root S g1 hd hid' t cs hh (fun r p hr => (fromOf_nil hr).1) hrun
  · rw [hd, State.put_append, State.put_append]
    rw [hd] at hne
    have e3 : a.eval (.tmp t') = mkVal k cs := by rw [e1, h6]
    rw [h6] at hh
    simp only [cond_true] at hh
    refine Oper.wp_mono (fun a' w' hh' => ?_) (box_root' true S g1 hd hid' t cs hh (fun r p hr => (fromOf_nil hr).1) hrun)
    obtain ⟨u, rfl, hb, G', g', hC⟩ := hh'
    refine ⟨by simp [Act.put, S.inv.defers], by simp [Act.put, S.inv.size], hb, G', ?_⟩
    refine g'.recell ?_
    have e4 : ((s.put (leave true y)).put [(rt id, Cell.root k v y.dp true true 0), (sl d, .ptr id [] 0)]) (rt id) = .root k v y.dp true true 0 := by
      simp only [State.put]; rw [State.set_other _ _ (sl_rt d id).symm, State.set_same]
    simp only [CellOk]
    rw [e4]
    refine ⟨rfl, rfl, ?_⟩
    rw [hC, ← e3, getD_put, if_neg (fun h => hne (by have := h.1; simp only [Option.some.injEq, Option.getD_some] at this ⊢; exact this.symm))]
    simp [Act.eval, Array.getD_eq_getD_getElem?]

/-! ### make -/
theorem madeCells_at (z : List Value) (m i : Nat) (hi : i < m) (hz : 0 < z.length) : (((madeCells z.toArray (m * z.length)).toList.drop (i * z.length)).take z.length) = z := by
  have hle : (i + 1) * z.length ≤ m * z.length := Nat.mul_le_mul_right _ hi
  rw [Nat.add_mul, Nat.one_mul] at hle
  apply List.ext_getElem?
  intro j
  simp only [List.getElem?_take, List.getElem?_drop]
  by_cases hj : j < z.length
  · simp only [hj, if_true]
    unfold madeCells
    simp only [Array.getElem?_toList, Array.getElem?_map, Array.getElem?_range]
    rw [if_pos (by omega)]
    have : (i * z.length + j) % z.toArray.size = j := by
      simp only [List.size_toArray]
      rw [Nat.mul_comm, Nat.mul_add_mod, Nat.mod_eq_of_lt hj]
    simp only [Option.map_some, this]
    rw [List.getElem?_eq_getElem hj]
    simp [getElem!_pos, hj]
  · simp only [hj, if_false]
    rw [List.getElem?_eq_none (by omega)]

theorem makeSlice_ok (S : Set_ P Γ Kp B0 n G s a w o) {t : TypeId} {x y : Operand} (ho : o.op = .makeSlice t x y) (h : (opD Γ id o).out s = some ws) (hok : dstOk o ws = true) :
    o.wp P a w (fun a' w' => Inv Kp B0 n (s.put ws) a' w') Q := by
  unfold opD at h
  rw [ho] at h
  simp only [Rd.out_bind, Option.bind_eq_some_iff] at h
  obtain ⟨k, h1, h⟩ := h
  cases k with
  | slice e =>
    simp only [Rd.out_bind, Option.bind_eq_some_iff] at h
    obtain ⟨v1, h2, x1, h3, v2, h4, x2, h5, h6⟩ := h
    have := asInt_ok h3
    subst this
    have := asInt_ok h5
    subst this
    have e1 := (rdV_ok S.g h2).int
    have e2 := (rdV_ok S.g h4).int
    simp only [Rd.out] at h6
    split at h6
    · rename_i hc
      simp only [Bool.and_eq_true, decide_eq_true_eq] at hc
      obtain ⟨⟨c1, c2⟩, c3⟩ := hc
      obtain ⟨hid, rfl⟩ := newAt_ok h6
      obtain ⟨d, hd⟩ := dst_some (c := .al id [] 0) hok (by simp)
      obtain ⟨te, u1, u2, u3⟩ := under_slice S.tab (kindOf_ok h1)
      obtain ⟨i, z, hr⟩ := row_of S.tab u2
      rw [hd]
      have hb : (i.bytes : Int) * x2.2 ≤ 281474976710656 := by
        have hb := hr.bytes
        have : (i.bytes : Int) * x2.2 ≤ 128 * x2.2 := Int.mul_le_mul_of_nonneg_right (by omega) (by omega)
        unfold lim at c3
        omega
      have hrun := run_make w t te i z u1 hr.info hr.zero x1.1 x2.1 x1.2 x2.2 c1 c2 hb (by unfold lim at c3; omega)
      have hz : z.cells = (zeroC e).toArray := zcells_arr hr
      rw [hz, hr.size] at hrun
      have hzl := zeroC_length e
      refine slice_root S S.g S.inv.base hd hid te (madeCells (zeroC e).toArray (x2.2.toNat * e.size)) x2.2.toNat (fun _ _ => none) (by omega) (by simp; omega) (by simp [madeCells]) (fun j hj => ?_) ?_
      · simp only [List.length_replicate] at hj
        have hm := madeCells_at (zeroC e) x2.2.toNat j (by omega) (by omega)
        rw [hzl] at hm
        refine ⟨99, none, ?_, by omega, fun _ _ h => by cases h⟩
        rw [hm]
        refine .free 99 ?_
        simp only [List.get_eq_getElem, List.getElem_replicate]
        exact zeroC_rep e [] (tab_pure S.tab u2)
      · unfold execOp
        rw [ho]
        simp [e1, e2, hrun]
    · simp [Rd.out] at h6
  | _ => simp [Rd.out] at h
end
end Go.V
