/- The operations' soundness, fifth part: literals. -/
import Derived.Test.YtmeglfoapdkhdaaVOps4
set_option linter.unusedVariables false
set_option linter.unusedSimpArgs false
namespace Go.V

def over (cs : List Value) (off : Nat) (x : List Value) : List Value := cs.take off ++ x ++ cs.drop (off + x.length)
theorem over_length {cs x : List Value} {off : Nat} (h : off + x.length ≤ cs.length) : (over cs off x).length = cs.length := by
  simp [over]
  omega

theorem fold_over (off : Nat) : ∀ (x : List Value) (start : Nat) (cells : Array Value), off + start + x.length ≤ cells.size →
    (x.zipIdx start).foldl (fun (cs : Array Value) (p : Value × Nat) => cs.setIfInBounds (off + p.2) p.1) cells = (over cells.toList (off + start) x).toArray := by
  intro x
  induction x with
  | nil => intro start cells _; simp [over]
  | cons v x ih =>
    intro start cells h
    simp only [List.length_cons] at h
    simp only [List.zipIdx_cons, List.foldl_cons]
    rw [ih (start + 1) _ (by simp; omega)]
    apply Array.ext'
    simp only [over, Array.toList_setIfInBounds, List.length_cons]
    apply List.ext_getElem?
    intro j
    have hl : cells.toList.length = cells.size := by simp
    simp only [List.getElem?_append, List.getElem?_take, List.getElem?_drop, List.getElem?_set, List.length_take, List.length_append, List.length_set, List.length_cons]
    by_cases h1 : j < off + start
    · simp only [show j < min (off + (start + 1)) cells.toList.length by omega, show j < min (off + start) cells.toList.length by omega, show ¬ (off + start = j) by omega, if_true, if_false, show j < off + (start + 1) by omega, h1,
        show j < min (off + (start + 1)) cells.toList.length + x.length by omega, show j < min (off + start) cells.toList.length + (x.length + 1) by omega]
    · by_cases h2 : j = off + start
      · subst h2
        simp only [show off + start < min (off + (start + 1)) cells.toList.length by omega, show ¬ (off + start < min (off + start) cells.toList.length) by omega, if_true, if_false, show off + start < off + (start + 1) by omega, show off + start < cells.toList.length by omega,
          show off + start < min (off + (start + 1)) cells.toList.length + x.length by omega, show off + start < min (off + start) cells.toList.length + (x.length + 1) by omega, show off + start - min (off + start) cells.toList.length = 0 by omega, List.getElem?_cons_zero]
      · have e1 : ¬ (j < min (off + (start + 1)) cells.toList.length) := by omega
        have e2 : ¬ (j < min (off + start) cells.toList.length) := by omega
        have e3 : j - min (off + start) cells.toList.length = (j - min (off + (start + 1)) cells.toList.length) + 1 := by omega
        by_cases h3 : j < min (off + (start + 1)) cells.toList.length + x.length
        · simp only [e1, e2, if_false, h3, if_true, show j < min (off + start) cells.toList.length + (x.length + 1) by omega]
          rw [e3, List.getElem?_cons_succ]
        · simp only [h3, if_false, show ¬ (j < min (off + start) cells.toList.length + (x.length + 1)) by omega]
          have e4 : ¬ (off + start = off + (start + 1) + x.length + (j - (min (off + (start + 1)) cells.toList.length + x.length))) := by omega
          simp only [e4, if_false]
          congr 1
          omega

theorem fill_step {place : Nat → Option (Nat × Nat)} {cells : Array Value} {i off : Nat} {v : Value} {x : List Value} {rest : List (Nat × Value)} (hp : place i = some (off, x.length)) (hv : v.cells = x.toArray) (hl : off + x.length ≤ cells.size) :
    Instr.fill place cells ((i, v) :: rest) = Instr.fill place (over cells.toList off x).toArray rest := by
  simp only [Instr.fill, hp, hv, List.size_toArray]
  rw [if_neg (by simp; omega)]
  congr 1
  have := fold_over off x 0 cells (by omega)
  simp only [Nat.add_zero] at this
  rw [← this, ← Array.foldl_toList]
  simp

theorem setP_fld : ∀ {j : Nat} {k : Kd} {d d' : k.den} {y : V}, setP (fld j) k d y = some d' → ∃ z, getP (fld j) k d = some z ∧ z.k = y.k ∧ offF j k + y.k.size ≤ k.size := by
  intro j
  induction j with
  | zero =>
    intro k d d' y h
    cases k with
    | pair a b =>
      simp only [fld, setP, Option.map_eq_some_iff] at h
      obtain ⟨z, h1, _⟩ := h
      have := cast?_k h1
      exact ⟨⟨a, d.1⟩, rfl, this.symm, by simp [offF, Kd.size, this]⟩
    | _ => simp [fld, setP] at h
  | succ j ih =>
    intro k d d' y h
    cases k with
    | pair a b =>
      simp only [fld, setP, Option.map_eq_some_iff] at h
      obtain ⟨z, h1, _⟩ := h
      obtain ⟨u, h2, h3, h4⟩ := ih h1
      exact ⟨u, h2, h3, by simp only [offF, Kd.size]; omega⟩
    | _ => simp [fld, setP] at h

theorem rep_setfld {w : World} {S : OwnS} : ∀ {j : Nat} {k : Kd} {q : Path} {cells x : List Value} {d d' : k.den} {y : V}, Rep w S k q cells d → Rep w S y.k (q ++ fld j) x y.d → setP (fld j) k d y = some d' → Rep w S k q (over cells (offF j k) x) d' := by
  intro j
  induction j with
  | zero =>
    intro k q cells x d d' y h hy hs
    cases k with
    | pair a b =>
      simp only [fld, setP, Option.map_eq_some_iff] at hs
      obtain ⟨z, h1, rfl⟩ := hs
      have := cast?_eq h1
      subst this
      have hl := hy.length
      simp only at hl
      simp only [Rep] at h ⊢
      simp only [over, offF, List.take_zero, List.nil_append, Nat.zero_add]
      rw [List.take_append_of_le_length (by omega), List.take_of_length_le (by omega), List.drop_append_of_le_length (by omega), List.drop_of_length_le (by omega), List.nil_append, hl]
      exact ⟨hy, h.2⟩
    | _ => simp [fld, setP] at hs
  | succ j ih =>
    intro k q cells x d d' y h hy hs
    cases k with
    | pair a b =>
      have hlen := h.length
      simp only [fld, setP, Option.map_eq_some_iff] at hs
      obtain ⟨z, h1, rfl⟩ := hs
      simp only [Rep] at h ⊢
      have key := ih h.2 (by simpa [fld] using hy) h1
      obtain ⟨_, _, _, hle⟩ := setP_fld h1
      have hx := hy.length
      simp only [Kd.size] at hlen
      have e1 : (over cells (a.size + offF j b) x).take a.size = cells.take a.size := by
        simp only [over, List.append_assoc]
        rw [List.take_append_of_le_length (by simp; omega), List.take_take]
        congr 1
        omega
      have e2 : (over cells (a.size + offF j b) x).drop a.size = over (cells.drop a.size) (offF j b) x := by
        simp only [over, List.append_assoc]
        rw [List.drop_append_of_le_length (by simp; omega), List.drop_take, List.drop_drop]
        congr 2
        · congr 1; omega
        · congr 1; omega
      simp only [offF]
      rw [e1, e2]
      exact ⟨h.1, key⟩
    | _ => simp [fld, setP] at hs

section
variable {P : Program} {Γ : Ctx} {Kp : Keep} {B0 : World} {n : Nat} {G : Gh} {s : State} {a : Act} {w w' : World} {id : Nat} {o : Oper} {Q : Exit → Act → World → Prop} {ws : Writes}

theorem fill_ok {S : OwnS} {own : Bool} {k : Kd} {place : Nat → Option (Nat × Nat)} (hpl : ∀ j d y, getP (fld j) k d = some y → place j = some (offF j k, y.k.size)) :
    ∀ {ps : List (Nat × Operand)} {gs : List (Nat × Got)} {cells : Array Value} {d v : k.den}, Helds G w s a own ps gs →
      (∀ i y cs, (i, y) ∈ gs → Holds G w s y.v cs (bif own then y.dp else 0) (fromOf own y) → Rep w' S y.v.k (fld i) cs y.v.d) →
      Rep w' S k [] cells.toList d → placeF k d (gs.map fun g => (g.1, g.2.v)) = some v →
      ∃ cells' : Array Value, Instr.fill place cells (ps.map fun x => (x.1, a.eval x.2)) = some cells' ∧ Rep w' S k [] cells'.toList v := by
  intro ps
  induction ps with
  | nil =>
    intro gs cells d v h _ hr hp
    cases h
    simp only [List.map_nil, placeF, Option.some.injEq] at hp
    subst hp
    exact ⟨cells, rfl, hr⟩
  | cons x ps ih =>
    intro gs cells d v h hc hr hp
    cases h with
    | @cons i x y _ gs cs h1 h2 h3 =>
      simp only [List.map_cons, placeF] at hp
      split at hp
      · rename_i d' hd
        have hy := hc i y cs (List.mem_cons_self ..) h2
        obtain ⟨z, k1, k2, k3⟩ := setP_fld hd
        have hlen := hr.length
        have hcs := h2.length
        simp only [Array.length_toList] at hlen
        have hr' := rep_setfld hr (by simpa using hy) hd
        obtain ⟨cells', e1, e2⟩ := ih (cells := (over cells.toList (offF i k) cs).toArray) h3 (fun i' y' cs' hm => hc i' y' cs' (List.mem_cons_of_mem _ hm)) (by simpa using hr') hp
        refine ⟨cells', ?_, e2⟩
        simp only [List.map_cons]
        rw [fill_step (x := cs) (by rw [hpl i d z k1, hcs, k2]) (by rw [h1]; exact h2.cells) (by omega)]
        exact e1
      · simp at hp

theorem places_ok (hT : TabOk P Γ.tk Γ.ar) : ∀ {fs : List Field} {off : Nat} {k : Kd}, fieldsOk P Γ.tk fs off k = true → ∃ places, fs.mapM (fun f => (P.info? f.type).map fun i => (f.offset, i.size)) = some places ∧
    ∀ j d y, getP (fld j) k d = some y → places[j]? = some (off + offF j k, y.k.size) := by
  intro fs
  induction fs with
  | nil =>
    intro off k h
    cases k <;> simp [fieldsOk] at h
    exact ⟨[], rfl, fun j d y hg => by cases j <;> simp [fld, getP] at hg⟩
  | cons f fs ih =>
    intro off k h
    cases k with
    | pair a b =>
      simp only [fieldsOk, Bool.and_eq_true, decide_eq_true_eq] at h
      obtain ⟨⟨⟨h1, h2⟩, h3⟩, h4⟩ := h
      obtain ⟨places, e1, e2⟩ := ih h4
      obtain ⟨i, z, hr⟩ := row_of hT h2
      refine ⟨(f.offset, i.size) :: places, ?_, fun j d y hg => ?_⟩
      · rw [List.mapM_cons, hr.info]
        simp only [Option.map_some]
        rw [e1]
        rfl
      · cases j with
        | zero =>
          simp only [fld, getP, Option.some.injEq] at hg
          subst hg
          simp [offF, Nat.eq_of_beq_eq_true h1, hr.size]
        | succ j =>
          simp only [fld, getP] at hg
          rw [List.getElem?_cons_succ, e2 j d.2 y hg]
          simp only [offF]
          congr 2
          omega
    | _ => simp [fieldsOk] at h

/-- Where a part's root came from. -/
def partM (gs : List (Nat × Got)) (st : Nat → Path) : Nat → Path → Option Path := fun r q => (gs.find? fun g => fromIs g.2 r).map fun g => st g.1 ++ q
theorem partM_ok : ∀ {gs : List (Nat × Got)} {st : Nat → Path} {i : Nat} {y : Got} {r : Nat} {c : Cell} {q : Path}, distinctFrom gs = true → (i, y) ∈ gs → y.from_ = some (r, c) → partM gs st r q = some (st i ++ q) := by
  intro gs
  induction gs with
  | nil => intro st i y r c q _ h _; simp at h
  | cons x gs ih =>
    intro st i y r c q hd hm hy
    obtain ⟨j, z⟩ := x
    simp only [distinctFrom, Bool.and_eq_true] at hd
    unfold partM
    simp only [List.find?_cons]
    rcases List.mem_cons.1 hm with hm | hm
    · injection hm with h1 h2
      subst h1 h2
      have : fromIs y r = true := by simp [fromIs, hy]
      simp [this]
    · have : fromIs z r = false := by
        cases hz : fromIs z r with
        | false => rfl
        | true =>
          unfold fromIs at hz
          cases hzf : z.from_ with
          | none => rw [hzf] at hz; simp at hz
          | some u =>
            rw [hzf] at hz
            obtain ⟨r', c'⟩ := u
            have := Nat.eq_of_beq_eq_true hz
            subst this
            rw [hzf] at hd
            simp only [Bool.not_eq_true', List.any_eq_false] at hd
            have := hd.1 _ hm
            simp [fromIs, hy] at this
      simp only [this]
      exact ih hd.2 hm hy

theorem gots_id {ps : List (Nat × Operand)} {gs : List (Nat × Got)} (h : Gots G w s a ps gs) (hid : s (rt id) = .none) : ∀ g ∈ gs, ∀ c, g.2.from_ ≠ some (id, c) := by
  induction h with
  | nil => intro g hg; simp at hg
  | cons k1 k2 ih =>
    intro g hg c hc
    rcases List.mem_cons.1 hg with hg | hg
    · subst hg
      obtain ⟨_, _, hq⟩ := k1
      simp only at hc
      rcases hq with ⟨hf, _⟩ | ⟨hf, _⟩ | ⟨r, _, _, _, _, _, _, _, hf, hs, _⟩
      · rw [hc] at hf; cases hf
      · rw [hc] at hf; cases hf
      · rw [hc] at hf
        injection hf with hf
        injection hf with hf _
        subst hf
        rw [hid] at hs
        cases hs
    · exact ih g hg c hc

theorem minDp_le : ∀ {gs : List (Nat × Got)} {i : Nat} {y : Got}, (i, y) ∈ gs → minDp gs ≤ y.dp := by
  intro gs
  induction gs with
  | nil => intro i y h; simp at h
  | cons x gs ih =>
    intro i y h
    obtain ⟨j, z⟩ := x
    simp only [minDp]
    rcases List.mem_cons.1 h with h | h
    · injection h with h1 h2; subst h1 h2; omega
    · have := ih h; omega
theorem lev_fld : ∀ j, lev (fld j) = 0 := by
  intro j
  induction j with
  | zero => rfl
  | succ j ih => exact ih

theorem build_run (hT : TabOk P Γ.tk Γ.ar) {t : TypeId} {k : Kd} (hk : Γ.tk t = some k) (hp : isPair k = true) : ∃ place, (∀ j d y, getP (fld j) k d = some y → place j = some (offF j k, y.k.size)) ∧
    ∀ (w : World) (parts : Array (Nat × Value)) (cells : Array Value), Instr.fill place (zeroC k).toArray parts.toList = some cells → (Instr.build t parts).run P w = .ok (.agg cells) w := by
  obtain ⟨i, z, hr⟩ := row_of hT hk
  have hz := zcells_arr hr
  have ha : k.agg = true := by cases k <;> first | rfl | simp [isPair] at hp
  rcases under_agg hT hk ha with ⟨fs, u1, u2, u3⟩ | ⟨m, e, u1, u2, u3⟩
  · obtain ⟨places, e1, e2⟩ := places_ok hT u3
    refine ⟨(places.toArray[·]?), fun j d y hg => by simpa using e2 j d y hg, fun w parts cells h => run_build w t parts cells ?_⟩
    unfold Program.built
    simp only [hr.info, u1, hr.zero, e1, hz]
    exact h
  · cases k with
    | pair ka kb =>
      cases m with
      | zero => simp [arrOk] at u3
      | succ m =>
        have hka : Γ.tk e = some ka := by simp only [arrOk, Bool.and_eq_true, decide_eq_true_eq] at u3; exact u3.1
        obtain ⟨ie, ze, hre⟩ := row_of hT hka
        refine ⟨fun i => some (i * ie.size, ie.size), fun j d y hg => ?_, fun w parts cells h => run_build w t parts cells ?_⟩
        · obtain ⟨f1, f2⟩ := arr_at u3 hg
          have : ka = y.k := Option.some.inj (hka.symm.trans f1)
          rw [f2, hre.size, this]
        · unfold Program.built
          simp only [hr.info, u1, hr.zero, hre.info, hz]
          exact h
    | _ => simp [isPair] at hp

theorem Helds.mem {own : Bool} {ps : List (Nat × Operand)} {gs : List (Nat × Got)} (h : Helds G w s a own ps gs) : ∀ i y, (i, y) ∈ gs → ∃ cs, Holds G w s y.v cs (bif own then y.dp else 0) (fromOf own y) := by
  induction h with
  | nil => intro i y hm; simp at hm
  | cons cs k1 k2 k3 ih =>
    intro i y hm
    rcases List.mem_cons.1 hm with hm | hm
    · injection hm with h1 h2; subst h1 h2; exact ⟨cs, k2⟩
    · exact ih i y hm

theorem build_ok (S : Set_ P Γ Kp B0 n G s a w o) {t : TypeId} {ps : Array (Nat × Operand)} (ho : o.op = .build t ps) (h : (opD Γ id o).out s = some ws) (hok : dstOk o ws = true) :
    o.wp P a w (fun a' w' => Inv Kp B0 n (s.put ws) a' w') Q := by
  unfold opD at h
  rw [ho] at h
  simp only [Rd.out_bind, Option.bind_eq_some_iff, bif_out, Rd.out_opt] at h
  obtain ⟨k, h1, h⟩ := h
  rcases bif_some h with ⟨hp, h⟩ | ⟨_, h⟩
  · simp only [Rd.out_bind, Option.bind_eq_some_iff, bif_out, Rd.out_opt] at h
    obtain ⟨gs, h2, v, h3, h4⟩ := h
    rcases bif_some h4 with ⟨hd, h5⟩ | ⟨_, h5⟩
    · obtain ⟨hid, rfl⟩ := newAt_ok h5
      have hg := gotAll_ok S.g h2
      have hk := kindOf_ok h1
      obtain ⟨place, hpl, hrun⟩ := build_run S.tab hk hp
      have ha : k.agg = true := by cases k <;> first | rfl | simp [isPair] at hp
      obtain ⟨G1, g1, hh, eC, eβ, n1, o1, r1⟩ := leaveAll_ok (!Nat.beq (minDp gs) 0) S.g hg hd
      have hid1 := (r1 id (gots_id hg hid)).trans hid
      have hexec : ∀ cells, Instr.fill place (zeroC k).toArray (ps.toList.map fun x => (x.1, a.eval x.2)) = some cells → (execOp a.eval o).run P w = .ok (.value (mkVal k cells.toList)) w := by
        intro cells hf
        unfold execOp
        rw [ho]
        have : (ps.map fun (i, x) => (i, a.eval x)).toList = ps.toList.map fun x => (x.1, a.eval x.2) := by simp
        simp [hrun w _ cells (by rw [this]; exact hf), mkVal, ha]
      cases hz : Nat.beq (minDp gs) 0 with
      | true =>
        rw [hz] at hh g1 hid1
        simp only [Bool.not_true] at hh g1 hid1
        obtain ⟨cells, e1, e2⟩ := fill_ok (S := shS G1.φ) (w' := w) hpl hh (fun i y cs hm hx => by
          simp only [cond_false] at hx
          cases hx with
          | free _ hx => exact (hx.move fun p b hs _ => hs.elim)
          | shared hx => exact hx.move fun p b hs _ => hs) (by simpa using zeroC_rep k [] (tab_pure S.tab hk)) h3
        have em : made id (o.dst.getD 4095) ⟨k, v⟩ (minDp gs) = [(sl (o.dst.getD 4095), .val k v)] := by simp [made, hz]
        simp only [hz, Bool.not_true]
        rw [hz, em] at hok
        rw [em, State.put_append]
        obtain ⟨d, hd'⟩ := dst_some (c := .val k v) hok (by simp)
        rw [hd']
        refine wp_new hd' (hexec cells e1) ?_
        simp only [Option.getD_some]
        exact ⟨by simp [Act.put, S.inv.defers], by simp [Act.put, S.inv.size], S.inv.base, G1, g1.slot (by rw [S.inv.size]; exact S.dst d hd') ⟨_, rfl, e2⟩⟩
      | false =>
        rw [hz] at hh g1 hid1
        simp only [Bool.not_false] at hh g1 hid1
        obtain ⟨cells, e1, e2⟩ := fill_ok (S := ownS (reφ G1.φ (moveT (s.put (gs.flatMap fun g => leave true g.2)) id (minDp gs) (partM gs fld)) w.heap.size none) id (minDp gs)) (w' := w) hpl hh (fun i y cs hm hx => by
          simp only [cond_true] at hx
          refine holds_move hx (fun _ _ => rfl) (by rw [lev_fld]; have := minDp_le hm; omega) (fun r p hr q => ?_)
          obtain ⟨rfl, c, hc⟩ := fromOf_nil hr
          simpa using partM_ok (st := fld) (q := q) hd hm hc) (by simpa using zeroC_rep k [] (tab_pure S.tab hk)) h3
        simp only [hz, Bool.not_false]
        cases hf : k.flat with
        | true =>
          have em : made id (o.dst.getD 4095) ⟨k, v⟩ (minDp gs) = [(sl (o.dst.getD 4095), .val k v)] := by simp [made, hf]
          rw [hz, em] at hok
          rw [em, State.put_append]
          obtain ⟨d, hd'⟩ := dst_some (c := .val k v) hok (by simp)
          rw [hd']
          refine wp_new hd' (hexec cells e1) ?_
          simp only [Option.getD_some]
          exact ⟨by simp [Act.put, S.inv.defers], by simp [Act.put, S.inv.size], S.inv.base, G1, g1.slot (by rw [S.inv.size]; exact S.dst d hd') ⟨_, rfl, e2.flat w _ [] hf⟩⟩
        | false =>
          have em : made id (o.dst.getD 4095) ⟨k, v⟩ (minDp gs) = [(rt id, .root k v (minDp gs) false false 0), (sl (o.dst.getD 4095), .al id [] 0)] := by simp [made, hf, hz]
          rw [hz, em] at hok
          rw [em, State.put_append]
          obtain ⟨d, hd'⟩ := dst_some (c := .al id [] 0) hok (by simp)
          rw [hd']
          exact value_root S g1 hd' hid1 cells.toList (partM gs fld) e2 (hexec cells e1)
    · simp [Rd.out] at h5
  · simp [Rd.out] at h

/-! ### Slice literals -/
theorem over_elem {cs x : List Value} {e i j : Nat} (hx : x.length = e) (hle : i * e + e ≤ cs.length) : ((over cs (i * e) x).drop (j * e)).take e = if j = i then x else (cs.drop (j * e)).take e := by
  apply List.ext_getElem?
  intro m
  simp only [over, List.getElem?_take, List.getElem?_drop, List.getElem?_append, List.length_take, List.length_append]
  by_cases hm : m < e
  · simp only [hm, if_true]
    by_cases hj : j = i
    · subst hj
      simp only [if_true]
      rw [if_pos (by omega), if_neg (by omega)]
      congr 1
      omega
    · simp only [hj, if_false]
      rcases Nat.lt_or_gt_of_ne hj with hlt | hgt
      · have : (j + 1) * e ≤ i * e := Nat.mul_le_mul_right _ hlt
        rw [Nat.add_mul] at this
        rw [if_pos (by omega), if_pos (by omega), if_pos (by omega)]
        simp [hm]
      · have : (i + 1) * e ≤ j * e := Nat.mul_le_mul_right _ hgt
        rw [Nat.add_mul] at this
        rw [if_neg (by omega)]
        simp only [List.getElem?_take, hm, if_true, List.getElem?_drop]
        congr 1
        omega
  · simp only [hm, if_false]
    by_cases hj : j = i
    · simp only [hj, if_true]
      rw [List.getElem?_eq_none (by omega)]
    · simp only [hj, if_false]
      rw [List.getElem?_eq_none (by simp; omega)]

theorem minDp_99 : ∀ l : List (Nat × Got), minDp l ≤ 99 := by
  intro l
  induction l with
  | nil => simp [minDp]
  | cons x l ih => obtain ⟨i, g⟩ := x; simp only [minDp]; omega
theorem Holds.flat {v : V} {cs : List Value} {dp : Nat} {ro : Option (Nat × Path)} (h : Holds G w s v cs dp ro) (hf : v.k.flat = true) (w' : World) (S : OwnS) (q : Path) : Rep w' S v.k q cs v.d := by
  cases h with
  | free _ h => exact h.flat w' S q hf
  | shared h => exact h.flat w' S q hf
  | dead _ _ _ _ h => exact h.flat w' S q hf

theorem fillS_ok {own : Bool} {e : Kd} {len : Nat} {Pr : Nat → List Value → e.den → Prop} :
    ∀ {ps : List (Nat × Operand)} {gs : List (Nat × Got)} {cells : Array Value} {l v : List e.den}, Helds G w s a own ps gs →
      (∀ i y cs x, (i, y) ∈ gs → y.v = ⟨e, x⟩ → Holds G w s ⟨e, x⟩ cs (bif own then y.dp else 0) (fromOf own y) → Pr i cs x) →
      cells.size = len * e.size → l.length = len → (∀ g ∈ gs, g.1 < len) → (∀ i (h : i < l.length), Pr i ((cells.toList.drop (i * e.size)).take e.size) (l.get ⟨i, h⟩)) →
      place e l (gs.map fun g => (g.1, g.2.v)) = some v →
      ∃ cells' : Array Value, Instr.fill (fun i => some (i * e.size, e.size)) cells (ps.map fun x => (x.1, a.eval x.2)) = some cells' ∧ cells'.size = len * e.size ∧ v.length = len ∧
        ∀ i (h : i < v.length), Pr i ((cells'.toList.drop (i * e.size)).take e.size) (v.get ⟨i, h⟩) := by
  intro ps
  induction ps with
  | nil =>
    intro gs cells l v h _ h1 h2 _ h3 hp
    cases h
    simp only [List.map_nil, place, Option.some.injEq] at hp
    subst hp
    exact ⟨cells, rfl, h1, h2, h3⟩
  | cons x ps ih =>
    intro gs cells l v h hc h1 h2 hlt h3 hp
    cases h with
    | @cons i x y _ gs cs k1 k2 k3 =>
      simp only [List.map_cons, place] at hp
      split at hp
      · rename_i z hz
        have hy := cast?_eq hz
        have hcs := k2.length
        rw [hy] at hcs
        simp only at hcs
        have hi : i < len := hlt _ (List.mem_cons_self ..)
        have hle : i * e.size + e.size ≤ cells.toList.length := by
          have : (i + 1) * e.size ≤ len * e.size := Nat.mul_le_mul_right _ hi
          rw [Nat.add_mul] at this
          simp
          omega
        have hcell := k2.cells
        rw [hy] at hcell k1 k2
        have hpr := hc i y cs z (List.mem_cons_self ..) hy k2
        obtain ⟨cells', e1, e2, e3, e4⟩ := ih (cells := (over cells.toList (i * e.size) cs).toArray) (l := l.set i z) k3 (fun i' y' cs' x' hm => hc i' y' cs' x' (List.mem_cons_of_mem _ hm))
          (by simp only [List.size_toArray]; rw [over_length (by omega)]; simpa using h1) (by simpa using h2) (fun g hg => hlt g (List.mem_cons_of_mem _ hg)) (fun j hj => by
            simp only [List.length_set] at hj
            have := over_elem (j := j) hcs hle
            rw [this]
            by_cases hji : j = i
            · subst hji
              simp only [if_true, List.get_eq_getElem, List.getElem_set_self]
              exact hpr
            · simp only [hji, if_false, List.get_eq_getElem, ne_eq, Ne.symm hji, not_false_eq_true, List.getElem_set_ne]
              have := h3 j hj
              simpa using this) hp
        refine ⟨cells', ?_, e2, e3, e4⟩
        simp only [List.map_cons]
        rw [fill_step (x := cs) (off := i * e.size) (by rw [hcs]) (by rw [k1]; exact hcell) (by simp at hle; omega)]
        exact e1
      · simp at hp

theorem buildSlice_ok (S : Set_ P Γ Kp B0 n G s a w o) {t : TypeId} {m : Nat} {ps : Array (Nat × Operand)} (ho : o.op = .buildSlice t m ps) (h : (opD Γ id o).out s = some ws) (hok : dstOk o ws = true) :
    o.wp P a w (fun a' w' => Inv Kp B0 n (s.put ws) a' w') Q := by
  unfold opD at h
  rw [ho] at h
  simp only [Rd.out_bind, Option.bind_eq_some_iff] at h
  obtain ⟨k, h1, h⟩ := h
  cases k with
  | slice e =>
    simp only [Rd.out_bind, Option.bind_eq_some_iff, bif_out, Rd.out_opt] at h
    obtain ⟨gs, h2, l, h3, h4⟩ := h
    rcases bif_some h4 with ⟨hd, h5⟩ | ⟨_, h5⟩
    · obtain ⟨hid, rfl⟩ := newAt_ok h5
      simp only [Bool.and_eq_true, decide_eq_true_eq, List.all_eq_true] at hd
      obtain ⟨⟨hd, hlt⟩, hsmall⟩ := hd
      have hg := gotAll_ok S.g h2
      have hk := kindOf_ok h1
      obtain ⟨te, u1, u2, u3⟩ := under_slice S.tab hk
      obtain ⟨i, z, hr⟩ := row_of S.tab u2
      obtain ⟨d, hd'⟩ := dst_some (c := .al id [] 0) hok (by simp)
      let dep := bif e.flat then 99 else minDp gs + 1
      have hdep : dep = bif e.flat then 99 else minDp gs + 1 := rfl
      obtain ⟨G1, g1, hh, eC, eβ, n1, o1, r1⟩ := leaveAll_ok (decide (2 ≤ dep)) S.g hg hd
      have hid1 := (r1 id (gots_id hg hid)).trans hid
      have hzl := zeroC_length e
      obtain ⟨cells, e1, e2, e3, e4⟩ := fillS_ok (len := m) (cells := madeCells (zeroC e).toArray (m * e.size)) (l := List.replicate m e.zero) (v := l)
        (Pr := fun j cs x => ∃ dp ro, Holds G1 w (s.put (gs.flatMap fun g => leave (decide (2 ≤ dep)) g.2)) ⟨e, x⟩ cs dp ro ∧ dep ≤ dp + 1 ∧ ∀ r p, ro = some (r, p) → ∀ q, partM gs (fun j => [.i j]) r (p ++ q) = some (.i j :: q)) hh
        (fun j y cs x hm hy hx => by
          have hmin := minDp_le hm
          cases hf : e.flat with
          | true =>
            exact ⟨99, none, .free 99 (hx.flat hf _ _ _), by simp [hdep, hf], fun _ _ h => by cases h⟩
          | false =>
            have hdd : dep = minDp gs + 1 := by simp [hdep, hf]
            by_cases h2 : 2 ≤ dep
            · simp only [h2, decide_true, cond_true] at hx ⊢
              refine ⟨_, _, hx, by omega, fun r p hr q => ?_⟩
              obtain ⟨rfl, c, hc⟩ := fromOf_nil hr
              simpa using partM_ok (st := fun j => [.i j]) (q := q) hd hm hc
            · simp only [h2, decide_false, cond_false] at hx ⊢
              exact ⟨0, _, hx, by omega, fun r p hr q => by simp [fromOf] at hr⟩)
        (by simp [madeCells]) (by simp) (fun g hg => by simpa using hlt g hg) (fun j hj => by
          simp only [List.length_replicate] at hj
          have hm := madeCells_at (zeroC e) m j hj (by omega)
          rw [hzl] at hm
          rw [hm]
          have hd99 : dep ≤ 100 := by
            have := minDp_99 gs
            simp only [hdep]
            cases e.flat <;> simp <;> omega
          refine ⟨99, none, .free 99 ?_, by omega, fun _ _ h => by cases h⟩
          simp only [List.get_eq_getElem, List.getElem_replicate]
          exact zeroC_rep e [] (show (Kd.slice e).pure = true from tab_pure S.tab hk)) h3
      rw [hd', State.put_append]
      have hz := zcells_arr hr
      refine slice_root S g1 S.inv.base hd' hid1 te cells m (partM gs fun j => [.i j]) (by cases e.flat <;> simp) (by omega) (by omega) e4 ?_
      unfold execOp
      rw [ho, e3]
      by_cases hz0 : m = 0
      · subst hz0
        have : ps.toList = [] := by
          have hl : ps.toList.length = gs.length := by
            have : ∀ {ps' : List (Nat × Operand)} {gs' : List (Nat × Got)}, Gots G w s a ps' gs' → ps'.length = gs'.length := by
              intro ps' gs' h
              induction h with
              | nil => rfl
              | cons _ _ ih => simp [ih]
            exact this hg
          cases gs with
          | nil => simpa using hl
          | cons x xs => have := hlt x (List.mem_cons_self ..); simp at this
        rw [this] at e1
        simp only [List.map_nil, Instr.fill, Option.some.injEq] at e1
        rw [Nat.zero_mul] at e1
        have hm0 : madeCells (zeroC e).toArray 0 = #[] := by simp [madeCells]
        rw [hm0] at e1
        subst e1
        have hps0 : ps = #[] := by apply Array.ext'; simpa using this
        subst hps0
        have h0 : (Array.map (fun _ => (default : Value)) (Array.range 0)) = #[] := by simp [Array.range_zero']
        simp [Instr.buildSlice, run_underlying u1, run_size hr, newRow, Instr.fill, h0]
      · have hps : (ps.map fun (i, x) => (i, a.eval x)).toList = ps.toList.map fun x => (x.1, a.eval x.2) := by simp
        have hpos : ¬ m * i.size = 0 := by rw [hr.size]; exact Nat.ne_of_gt (Nat.mul_pos (by omega) u3)
        have hs : ¬ m * i.size > 2 ^ 24 := by rw [hr.size]; omega
        have hrun := run_buildSlice w t te m (ps.map fun (i, x) => (i, a.eval x)) cells i z u1 hr.info hr.zero hs hpos (by
          rw [hps, hr.size, hz]
          exact e1)
        simp [hrun]
    · simp [Rd.out] at h5
  | _ => simp [Rd.out] at h
end
end Go.V
