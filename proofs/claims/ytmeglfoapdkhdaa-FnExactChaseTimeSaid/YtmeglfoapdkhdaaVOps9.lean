/- The operations' soundness, ninth part: slices of slices, strings, arrays. -/
import Derived.Test.YtmeglfoapdkhdaaVOps8
set_option linter.unusedVariables false
set_option linter.unusedSimpArgs false
namespace Go.V

theorem arrList_at : ∀ {k e : Kd} {d : k.den} {l : List e.den}, arrList k e d = some l → ∀ i (h : i < l.length), getP (fld i) k d = some ⟨e, l.get ⟨i, h⟩⟩ := by
  intro k
  induction k with
  | pair a b iha ihb =>
    intro e d l h i hi
    simp only [arrList] at h
    split at h
    · rename_i x r h1 h2
      simp only [Option.some.injEq] at h
      subst h
      have hc := cast?_eq h1
      cases i with
      | zero => simp only [fld, getP]; rw [hc]; rfl
      | succ i =>
        simp only [fld, getP]
        exact ihb h2 i (by simpa using hi)
    · cases h
  | unit =>
    intro e d l h i hi
    simp only [arrList, Option.some.injEq] at h
    subst h
    simp at hi
  | _ => intro e d l h; simp [arrList] at h
theorem arrList_len : ∀ {k e : Kd} {d : k.den} {l : List e.den}, arrList k e d = some l → l.length = arrLen k := by
  intro k
  induction k with
  | pair a b iha ihb =>
    intro e d l h
    simp only [arrList] at h
    split at h
    · rename_i x r h1 h2
      simp only [Option.some.injEq] at h
      subst h
      simp [arrLen, ihb h2]
    · cases h
  | unit => intro e d l h; simp only [arrList, Option.some.injEq] at h; subst h; rfl
  | _ => intro e d l h; simp [arrList] at h
theorem arr_size {tk : TypeId → Option Kd} : ∀ {n : Nat} {e : TypeId} {k ke : Kd}, arrOk tk e n k = true → (0 < n → tk e = some ke) → k.size = n * ke.size := by
  intro n
  induction n with
  | zero => intro e k ke h _; cases k <;> simp [arrOk] at h; simp [Kd.size]
  | succ n ih =>
    intro e k ke h hk
    cases k with
    | pair a b =>
      simp only [arrOk, Bool.and_eq_true, decide_eq_true_eq] at h
      have ha : a = ke := by
        have := hk (by omega)
        rw [h.1] at this
        exact Option.some.inj this
      subst ha
      simp only [Kd.size]
      rw [ih h.2 (fun _ => h.1), Nat.add_mul]
      omega
    | _ => simp [arrOk] at h

section
variable {P : Program} {Γ : Ctx} {Kp : Keep} {B0 : World} {n : Nat} {G : Gh} {s : State} {a : Act} {w w' : World} {id : Nat} {o : Oper} {Q : Exit → Act → World → Prop} {ws : Writes}

theorem got_look {x : Operand} {c : Cell} {g : Got} {v : V} (h : (got Γ x c).out s = some g) (h' : (look c).out s = some v) : g.v = v := by
  cases c with
  | cst k d => simp only [got, look, Rd.out, Option.some.injEq] at h h'; subst h h'; rfl
  | val k d => simp only [got, look, Rd.out, Option.some.injEq] at h h'; subst h h'; rfl
  | al r p ver =>
    simp only [got, look, Rd.out] at h h'
    cases hs : s (rt r) with
    | root k d dep box frz ver' =>
      rw [hs] at h h'
      simp only [bif_out, Rd.out_bind, Rd.out_opt, Rd.out] at h h'
      rcases bif_some h with ⟨_, h1⟩ | ⟨_, h1⟩
      · rcases bif_some h' with ⟨_, h2⟩ | ⟨_, h2⟩
        · rw [h2] at h1
          simp only [Option.bind_some] at h1
          rcases bif_some h1 with ⟨_, h3⟩ | ⟨_, h3⟩
          · have := Option.some.inj h3; subst this; rfl
          · rcases bif_some h3 with ⟨_, h4⟩ | ⟨_, h4⟩
            · have := Option.some.inj h4; subst this; rfl
            · rcases bif_some h4 with ⟨_, h5⟩ | ⟨_, h5⟩
              · have := Option.some.inj h5; subst this; rfl
              · have := Option.some.inj h5; subst this; rfl
        · cases h2
      · cases h1
    | _ => rw [hs] at h; simp [Rd.out] at h
  | _ => simp [got, Rd.out] at h

theorem optI_ok (g : GOk Kp G s a w) {x : Option Operand} {z r : Int} (h : (optI x z).out s = some r) : (x = none ∧ r = z) ∨ ∃ y ik, x = some y ∧ a.eval y = .int ik r := by
  unfold optI at h
  cases x with
  | none => simp only [Rd.out, Option.some.injEq] at h; exact .inl ⟨rfl, h.symm⟩
  | some y =>
    simp only [Rd.out_bind, Option.bind_eq_some_iff, Rd.out, Option.some.injEq] at h
    obtain ⟨v, h1, u, h2, h3⟩ := h
    subst h3
    have := asInt_ok h2
    subst this
    exact .inr ⟨y, _, rfl, (rdV_ok g h1).int⟩

theorem run_bounds (g : GOk Kp G s a w) {isS : Bool} {len cap : Nat} {lo hi : Option Operand} {l h : Int} (hl : (optI lo 0).out s = some l) (hh : (optI hi (len : Int)).out s = some h) (h0 : 0 ≤ l) (h1 : l ≤ h) (h2 : h ≤ (cap : Int)) :
    (Instr.sliceBounds isS len cap (lo.map a.eval) (hi.map a.eval) none).run P w = .ok (l.toNat, h.toNat, cap) w := by
  have e1 : l ≤ ((h.toNat : Nat) : Int) := by omega
  have e2 : 0 ≤ h := by omega
  have k1 : ∀ ik code (w : World), (Instr.sliceBound (.int ik h) cap code).run P w = .ok h.toNat w := fun ik code w => by apply run_sliceBound <;> assumption
  have k2 : ∀ ik code (w : World), (Instr.sliceBound (.int ik l) h.toNat code).run P w = .ok l.toNat w := fun ik code w => by apply run_sliceBound <;> assumption
  rcases optI_ok g hl with ⟨rfl, rfl⟩ | ⟨y, ik, rfl, hy⟩ <;> rcases optI_ok g hh with ⟨rfl, rfl⟩ | ⟨y', ik', rfl, hy'⟩
  · simp [Instr.sliceBounds]
  · simp [Instr.sliceBounds, hy', k1]
  · simp only [Int.toNat_natCast] at k2
    simp [Instr.sliceBounds, hy, k2]
  · simp [Instr.sliceBounds, hy, hy', k1, k2]

theorem sub_get {α : Type} {l : List α} {lo hi : Int} (h0 : 0 ≤ lo) (h1 : lo ≤ hi) (h2 : hi ≤ (l.length : Int)) : (sub_ l lo hi).length = hi.toNat - lo.toNat ∧
    ∀ i (h : i < (sub_ l lo hi).length), ∃ h' : lo.toNat + i < l.length, (sub_ l lo hi).get ⟨i, h⟩ = l.get ⟨lo.toNat + i, h'⟩ := by
  have hl : (sub_ l lo hi).length = hi.toNat - lo.toNat := by simp only [sub_, List.length_drop, List.length_take]; omega
  refine ⟨hl, fun i hi' => ⟨by omega, ?_⟩⟩
  simp [sub_]

/-- An array behind an address, as shared data. -/
theorem arr_rep {S' : OwnS} {k : Kd} {te : TypeId} {m : Nat} {tk : TypeId → Option Kd} {a0 b0 : Kd} (hk : k = .pair a0 b0) (u3 : arrOk tk te m k = true) {T : OwnS} {q : Path} {B O : Nat} {d : k.den} {l : List a0.den}
    (hr : Rep w T k q (cellsAt w B O k.size) d) (hb : BlockOk w B (O + k.size)) (hl : arrList k a0 d = some l)
    (hmove : ∀ j (h : j < l.length) c, Rep w T a0 (q ++ fld j) c (l.get ⟨j, h⟩) → Rep w S' a0 [.i j] c (l.get ⟨j, h⟩)) (hS : S' [] B) :
    Rep w S' (.slice a0) [] [.slice (some ⟨B, O, none⟩) m m] l := by
  have hlen := arrList_len hl
  rw [arr_len u3] at hlen
  have hsz : k.size = m * a0.size := by
    refine arr_size u3 fun hm => ?_
    subst hk
    cases m with
    | zero => omega
    | succ m => simp only [arrOk, Bool.and_eq_true, decide_eq_true_eq] at u3; exact u3.1
  simp only [Rep]
  refine .inr ⟨B, O, m, by rw [hlen], by omega, hS, by rw [← hsz]; exact hb, fun i hi => ?_⟩
  have hg := arrList_at hl i hi
  have hrep := getP_rep hr (fld_ok hg) hg
  rw [subC_fld w hg] at hrep
  obtain ⟨_, f2⟩ := arr_at u3 hg
  simp only at f2 hrep
  rw [f2] at hrep
  have hle : (i + 1) * a0.size ≤ m * a0.size := Nat.mul_le_mul_right _ (by omega)
  rw [Nat.add_mul] at hle
  rw [cellsAt_chunk (by rw [hsz]; omega)] at hrep
  exact hmove i hi _ hrep

/-- A box whose array has been sliced is shared. -/
theorem freeze_ok (g : GOk Kp G s a w) {r : Nat} {k : Kd} {d : k.den} {dep : Nat} {frz : Bool} {ver : Nat} (hf : k.flat = true) (hs : s (rt r) = .root k d dep true frz ver) :
    GOk Kp { G with φ := fun b => if b = G.β r then none else G.φ b } (s.set (rt r) (.root k d dep true true (ver + 1))) a w := by
  have hro := g.roots r
  rw [hs] at hro
  obtain ⟨hrep, hbx⟩ := hro
  obtain ⟨h1, h2⟩ := hbx rfl
  have hne : ∀ b f r' q, G.φ b = some (f, r', q) → r' ≠ r → b ≠ G.β r := by
    intro b f r' q hb hn e
    subst e
    rw [hb] at h2
    split at h2
    · cases h2
    · injection h2 with h2; injection h2 with _ h2; injection h2 with h2 _; exact hn h2
  have tr : Tr G { G with φ := fun b => if b = G.β r then none else G.φ b } w w s (s.set (rt r) (.root k d dep true true (ver + 1))) := by
    refine ⟨fun b h _ => ⟨by simp [h], rfl⟩, fun r' k' d' dep' box' frz' ver' h => ?_, fun r' h => ?_⟩
    · by_cases e : r' = r
      · subst e
        rw [hs] at h
        simp only [Cell.root.injEq] at h
        obtain ⟨rfl, h3, rfl, rfl, rfl, rfl⟩ := h
        have h3 := eq_of_heq h3
        subst h3
        exact .inr ⟨_, _, _, _, State.set_same _ _ _, rfl, fun _ => rfl, fun _ => rfl, .inr (Nat.lt_succ_self _)⟩
      · refine .inr ⟨d', dep', frz', ver', ?_, rfl, fun _ => rfl, fun h => h, .inl ⟨rfl, rfl, rfl, fun _ _ _ => rfl, fun q b _ h => by
          rcases ownS_lev h with ⟨hl, h⟩ | ⟨hl, h⟩
          · simp only [ownS, hl, if_true]; rw [if_neg (hne b _ _ _ h e)]; exact h
          · simp only [ownS, Nat.not_lt.2 hl, if_false]; split <;> first | rfl | exact h⟩⟩
        rw [State.set_other _ _ (fun h => e (rt_inj h))]
        exact h
    · have e : r' ≠ r := fun e => by subst e; rw [hs] at h; cases h
      rw [State.set_other _ _ (fun h => e (rt_inj h))]
      exact h
  have := g.step tr none undef (fun t _ => State.set_other _ _ (sl_rt t r)) (fun d h => by cases h) (fun r' => ?_) ⟨fun b x h => by
    simp only at h
    split at h
    · cases h
    · exact g.col.col b x h, fun b x h => by
    simp only at h
    split at h
    · cases h
    · exact g.col.lt b x h, fun b hb => by
    have hx := g.col.out b hb
    simp only
    rw [if_neg (fun e => by
      subst e
      rw [hx] at h2
      split at h2 <;> simp [far] at h2)]
    exact hx⟩
  · exact this
  · by_cases e : r' = r
    · subst e
      rw [State.set_same]
      exact ⟨hrep.flat w _ _ hf, fun _ => ⟨h1, by simp⟩⟩
    · rw [State.set_other _ _ (fun h => e (rt_inj h))]
      refine RootOk.keep (g.roots r') (fun b hb _ => ⟨by simp [hb], rfl⟩) rfl rfl (fun b f q hb => ⟨?_, rfl⟩)
      simp only
      rw [if_neg (hne b f r' q hb e)]
      exact hb

theorem slice_ok (S : Set_ P Γ Kp B0 n G s a w o) {t : TypeId} {x : Operand} {lo hi : Option Operand} (ho : o.op = .slice t x lo hi none) (h : (opD Γ id o).out s = some ws) (hok : dstOk o ws = true) :
    o.wp P a w (fun a' w' => Inv Kp B0 n (s.put ws) a' w') Q := by
  unfold opD at h
  rw [ho] at h
  simp only [Rd.out_bind, Option.bind_eq_some_iff, Rd.out, Option.some.injEq, sliceR] at h
  obtain ⟨r0, ⟨c, h1, h⟩, hws⟩ := h
  subst hws
  have hc := rdOp_ok S.g h1
  have hexec : ∀ v, (Instr.sliceAt t (a.eval x) (lo.map a.eval) (hi.map a.eval) none).run P w = .ok v w → (execOp a.eval o).run P w = .ok (.value v) w := by
    intro v hrun
    unfold execOp
    rw [ho]
    simp only [Option.map_none]
    simp [hrun]
  -- what remains: strings and slices
  have plain : ((look c).bind fun v => (kindIs Γ t v.k).bind fun _ =>
    match v with
    | ⟨.str, s⟩ => (optI lo 0).bind fun l => (optI hi s.size).bind fun h =>
        Rd.ite (decide (0 ≤ l) && decide (l ≤ h) && decide (h ≤ (s.size : Int))) (.ret (Cell.val .str (subS s l h), ([] : Writes))) .fail
    | ⟨.slice e, d⟩ => (got Γ x c).bind fun g => (optI lo 0).bind fun l => (optI hi (List.length d)).bind fun h =>
        Rd.ite (decide (0 ≤ l) && decide (l ≤ h) && decide (h ≤ (List.length d : Int))) (.ret (Cell.val (.slice e) (sub_ d l h), leave false g)) .fail
    | _ => .fail).out s = some r0 →
      o.wp P a w (fun a' w' => Inv Kp B0 n (s.put (r0.2 ++ [(sl (o.dst.getD 4095), r0.1)])) a' w') Q := by
    intro h
    simp only [Rd.out_bind, Option.bind_eq_some_iff] at h
    obtain ⟨v, h2, u, hk, h3⟩ := h
    have hk := kindIs_ok hk
    have hst := look_ok S.g hc h2
    obtain ⟨vk, vd⟩ := v
    cases vk with
    | str =>
      simp only [Rd.out_bind, Option.bind_eq_some_iff, Rd.out] at h3
      obtain ⟨l, h4, h', h5, h6⟩ := h3
      split at h6
      · rename_i hb
        simp only [Bool.and_eq_true, decide_eq_true_eq] at hb
        obtain ⟨⟨b1, b2⟩, b3⟩ := hb
        have h7 := Option.some.inj h6
        subst h7
        refine slot_ok S hok (hexec (.string (subS vd l h')) ?_) (strCell _)
        rw [hst.str]
        have hu := under_str S.tab hk
        have hbs := run_bounds (P := P) (w := w) S.g (isS := false) (cap := vd.size) h4 h5 b1 b2 b3
        simp [Instr.sliceAt, run_underlying hu, Instr.slice, hbs, subS]
      · cases h6
    | slice e =>
      simp only [Rd.out_bind, Option.bind_eq_some_iff, Rd.out] at h3
      obtain ⟨gx, h3', l, h4, h', h5, h6⟩ := h3
      split at h6
      · rename_i hb
        simp only [Bool.and_eq_true, decide_eq_true_eq] at hb
        obtain ⟨⟨b1, b2⟩, b3⟩ := hb
        have h7 := Option.some.inj h6
        subst h7
        have hg := got_ok S.g hc h3'
        have hgv : gx.v = ⟨.slice e, vd⟩ := got_look h3' h2
        obtain ⟨G1, cs, g1, x1, hh, eC, eβ, n1, o1, m1⟩ := leave_ok S.g hg false
        obtain ⟨te, u1, u2, u3⟩ := under_slice S.tab hk
        obtain ⟨ti, tz, hr⟩ := row_of S.tab u2
        rw [hgv] at hh x1
        have hsh : Rep w (shS G1.φ) (.slice e) [] cs vd := by
          simp only [cond_false] at hh
          have e0 : fromOf false gx = none := rfl
          rw [e0] at hh
          generalize hn : (none : Option (Nat × Path)) = no at hh
          generalize hz : (0 : Nat) = zo at hh
          cases hh with
          | free _ h => exact h.frame fun q b _ hs _ => hs.elim
          | shared h => exact h
          | dead r p _ _ _ => cases hn
        obtain ⟨g2, g3⟩ := sub_get b1 b2 b3
        have hS1 : Inv Kp B0 n (s.put (leave false gx)) a w := ⟨S.inv.defers, S.inv.size, S.inv.base, G1, g1⟩
        have hput : ∀ (c : Cell), s.put (leave false gx ++ [(sl (o.dst.getD 4095), c)]) = (s.put (leave false gx)).put [(sl (o.dst.getD 4095), c)] := fun c => State.put_append _ _ _
        obtain ⟨d, hd⟩ := dst_some (c := .val (.slice e) (sub_ vd l h')) hok (by simp)
        have key : ∀ (v : Value), (Instr.sliceAt t (a.eval x) (lo.map a.eval) (hi.map a.eval) none).run P w = .ok v w → Rep w (shS G1.φ) (.slice e) [] [v] (sub_ vd l h') →
            o.wp P a w (fun a' w' => Inv Kp B0 n (s.put (leave false gx ++ [(sl (o.dst.getD 4095), .val (.slice e) (sub_ vd l h'))])) a' w') Q := by
          intro v hrun hrep
          refine wp_value (hexec v hrun) ?_
          rw [hput, hd]
          simp only [Option.getD_some]
          exact hS1.slot g1 (S.dst d hd) ⟨[v], rfl, hrep⟩
        have hle : h'.toNat ≤ List.length vd := by omega
        have hll : l.toNat ≤ h'.toNat := by omega
        simp only [Rep] at hsh
        rcases hsh with ⟨⟨sb, k1⟩, k2⟩ | ⟨b, off, cap, k1, k2, k3, k4, k5⟩
        · subst k1 k2
          have hx : a.eval x = .slice sb 0 0 := x1
          have hl0 : l = 0 := by simp at b3; omega
          have hh0 : h' = 0 := by simp at b3; omega
          have hbs := run_bounds (P := P) (w := w) S.g (isS := true) (cap := 0) h4 h5 b1 b2 (by simpa using b3)
          subst hl0 hh0
          refine key (.slice sb 0 0) ?_ ?_
          · rw [hx]
            simp at hbs
            simp [Instr.sliceAt, run_underlying u1, Instr.slice, hbs, run_size hr]
          · simp [Rep, sub_]
        · subst k1
          have hx : a.eval x = .slice (some ⟨b, off, none⟩) (List.length vd) cap := x1
          have hbs := run_bounds (P := P) (w := w) S.g (isS := true) (cap := cap) h4 h5 b1 b2 (by omega)
          refine key (.slice (some ⟨b, if cap = l.toNat then off else off + l.toNat * e.size, none⟩) (h'.toNat - l.toNat) (cap - l.toNat)) ?_ ?_
          · rw [hx]
            by_cases hc : cap = l.toNat
            · subst hc
              simp [Instr.sliceAt, run_underlying u1, Instr.slice, hbs, run_size hr]
            · simp [Instr.sliceAt, run_underlying u1, Instr.slice, hbs, run_size hr, hc, add_mk]
          · simp only [Rep]
            refine .inr ⟨b, _, cap - l.toNat, by rw [g2], by rw [g2]; omega, k3, ?_, fun i hi => ?_⟩
            · obtain ⟨cur, T, fr, q1, q2⟩ := k4
              refine ⟨cur, T, fr, q1, ?_⟩
              split
              · rw [Nat.sub_mul]; omega
              · have : l.toNat * e.size ≤ cap * e.size := Nat.mul_le_mul_right _ (by omega)
                rw [Nat.sub_mul]; omega
            · obtain ⟨i', hget⟩ := g3 i hi
              have := k5 _ i'
              have hc : cap ≠ l.toNat := by omega
              rw [if_neg hc, Nat.add_assoc, ← Nat.add_mul, hget]
              exact this.move fun p b hs _ => hs
      · cases h6
    | _ => simp [Rd.out] at h3
  have arr : ∀ (a0 b0 : Kd), Γ.tk t = some (.pair a0 b0) → (Γ.ar t).isSome = true → ∃ m te, P.underlying t = some (.array m te) ∧ arrOk Γ.tk te m (.pair a0 b0) = true := by
    intro a0 b0 hk har
    rcases under_agg S.tab hk rfl with ⟨fs, u1, u2, u3⟩ | ⟨m, e, u1, u2, u3⟩
    · rw [u2] at har
      simp at har
    · exact ⟨m, e, u1, u3⟩
  have arun : ∀ (m : Nat) (te : TypeId) (a0 b0 : Kd) (B O : Nat), P.underlying t = some (.array m te) → arrOk Γ.tk te m (.pair a0 b0) = true → a.eval x = .pointer (some ⟨B, O, none⟩) → lo = none → hi = none →
      (Instr.sliceAt t (a.eval x) (lo.map a.eval) (hi.map a.eval) none).run P w = .ok (.slice (some ⟨B, O, none⟩) m m) w := by
    intro m te a0 b0 B O u1 u3 hx hlo hhi
    subst hlo hhi
    have hte : ∃ ke, Γ.tk te = some ke := by
      cases m with
      | zero => simp [arrOk] at u3
      | succ m => simp only [arrOk, Bool.and_eq_true, decide_eq_true_eq] at u3; exact ⟨_, u3.1⟩
    obtain ⟨ke, hte⟩ := hte
    obtain ⟨ti, tz, hr⟩ := row_of S.tab hte
    by_cases hm : m = 0
    · subst hm
      simp [Instr.sliceAt, run_underlying u1, hx, Instr.sureAddr, Instr.sliceBounds, run_size hr]
    · simp [Instr.sliceAt, run_underlying u1, hx, Instr.sureAddr, Instr.sliceBounds, run_size hr, add_mk]
  cases c with
  | ptr r p ver =>
    simp only [Rd.out] at h
    cases hs : s (rt r) with
    | root k d dep box frz ver' =>
      rw [hs] at h
      cases box with
      | false => simp [Rd.out] at h
      | true =>
        simp only [bif_out] at h
        rcases bif_some h with ⟨h2, h3⟩ | ⟨_, h3⟩
        · simp only [Bool.and_eq_true, List.isEmpty_iff, Option.isNone_iff_eq_none] at h2
          obtain ⟨⟨⟨rfl, hf⟩, hlo⟩, hhi⟩ := h2
          cases k with
          | pair a0 b0 =>
            simp only [Rd.out_bind, Option.bind_eq_some_iff, bif_out, Rd.out] at h3
            obtain ⟨u, h4, h5⟩ := h3
            have hk := kindIs_ok h4
            rcases bif_some h5 with ⟨har, h6⟩ | ⟨_, h6⟩
            · simp only [Rd.out_opt, Option.bind_eq_some_iff] at h6
              obtain ⟨l, h7, h8⟩ := h6
              have h9 := Option.some.inj h8
              subst h9
              obtain ⟨m, te, u1, u3⟩ := arr a0 b0 hk har
              obtain ⟨y, B, O, e1, e2, e3, e4, e5, e6, e7, hro⟩ := ptr_open S.g hc hs (by simp [noIdx])
              simp only [getP, Option.some.injEq] at e1
              subst e1
              simp only [subA, home, cond_true, Option.some.injEq, Prod.mk.injEq] at e3
              obtain ⟨eB, eO⟩ := e3
              have g1 := freeze_ok S.g hf hs
              have hS1 : Inv Kp B0 n (s.set (rt r) (.root (.pair a0 b0) d dep true true (ver' + 1))) a w := ⟨S.inv.defers, S.inv.size, S.inv.base, _, g1⟩
              obtain ⟨dd, hd⟩ := dst_some (c := .val (.slice a0) l) hok (by simp)
              refine wp_value (hexec _ (arun m te a0 b0 B O u1 u3 e4 hlo hhi)) ?_
              rw [hd]
              simp only [Option.getD_some]
              simp only [Kd.flat, Bool.and_eq_true] at hf
              exact hS1.slot g1 (S.dst dd hd) ⟨[.slice (some ⟨B, O, none⟩) m m], rfl, arr_rep rfl u3 e7 e6 h7 (fun j hj c hrep => hrep.flat w _ _ hf.1) (by simp [shS, eB])⟩
            · cases h6
          | _ => simp [Rd.out] at h3
        · cases h3
    | _ => rw [hs] at h; simp [Rd.out] at h
  | sptr k d =>
    cases k with
    | pair a0 b0 =>
      simp only [Rd.out_bind, Option.bind_eq_some_iff, bif_out, Rd.out] at h
      obtain ⟨u, h4, h5⟩ := h
      have hk := kindIs_ok h4
      rcases bif_some h5 with ⟨h2, h6⟩ | ⟨_, h6⟩
      · simp only [Rd.out_opt, Option.bind_eq_some_iff, Bool.and_eq_true, Option.isNone_iff_eq_none] at h6 h2
        obtain ⟨⟨hlo, hhi⟩, har⟩ := h2
        obtain ⟨l, h7, h8⟩ := h6
        have h9 := Option.some.inj h8
        subst h9
        obtain ⟨m, te, u1, u3⟩ := arr a0 b0 hk har
        obtain ⟨B, O, e1, e2, e3, e4⟩ := hc
        refine slot_ok S hok (hexec _ (arun m te a0 b0 B O u1 u3 e1 hlo hhi)) ⟨[.slice (some ⟨B, O, none⟩) m m], rfl, ?_⟩
        exact arr_rep rfl u3 e4 e3 h7 (fun j hj c hrep => hrep.move fun p b hs _ => hs) e2
      · cases h6
    | _ => simp [Rd.out, look, Rd.bind] at h
  | none => exact plain h
  | dead => exact plain h
  | undf => exact plain h
  | nlq => exact plain h
  | fal => exact plain h
  | apd => exact plain h
  | tap => exact plain h
  | val k d => exact plain h
  | cst k d => exact plain h
  | al r p ver => exact plain h
  | tal r => exact plain h
  | fn f => exact plain h
  | root => exact plain h
end
end Go.V
