/- A call's soundness, out of the callee's contract. -/
import Derived.Test.YtmeglfoapdkhdaaVCon
set_option linter.unusedVariables false
set_option linter.unusedSimpArgs false
namespace Go.V

section
variable {P : Program} {Γ : Ctx} {Kp : Keep} {B0 : World} {n : Nat} {G : Gh} {s : State} {a : Act} {w w' : World} {id : Nat} {o : Oper} {Q : Exit → Act → World → Prop} {ws : Writes}

/-- Roots made shared. -/
def DemW (s : State) (us : List Nat) (W : Writes) : Prop := ∀ x ∈ W, ∃ r k d dep box frz ver, x = (rt r, .root k d 0 box frz ver) ∧ s (rt r) = .root k d dep box frz ver ∧ r ∈ us

theorem dem_all {us : List Nat} : ∀ {W : Writes} {G : Gh} {s : State}, GOk Kp G s a w → DemW s us W →
    ∃ G', GOk Kp G' (s.put W) a w ∧ G'.C = G.C ∧ G'.β = G.β ∧ (∀ b, G.φ b = none → G'.φ b = none) ∧ (∀ b f r q, G.φ b = some (f, r, q) → r ∉ us → G'.φ b = some (f, r, q)) ∧ (∀ b z, G'.φ b = some z → G.φ b = some z) ∧
      (∀ r, (∃ c, (rt r, c) ∈ W) → ∀ b q, G.φ b = some (false, r, q) → G'.φ b = none) ∧ (∀ r, r ∉ us → (s.put W) (rt r) = s (rt r)) ∧ (∀ t, (s.put W) (sl t) = s (sl t)) ∧
      (∀ r, (s (rt r) = .none → (s.put W) (rt r) = .none) ∧ (s (rt r) = .dead → (s.put W) (rt r) = .dead)) := by
  intro W
  induction W with
  | nil =>
    intro G s g _
    exact ⟨G, g, rfl, rfl, fun _ h => h, fun _ _ _ _ h _ => h, fun _ _ h => h, fun r ⟨c, h⟩ => by simp at h, fun _ _ => rfl, fun _ => rfl, fun _ => ⟨fun h => h, fun h => h⟩⟩
  | cons x W ih =>
    intro G s g hW
    obtain ⟨r, k, d, dep, box, frz, ver, rfl, hs, hr⟩ := hW x (by simp)
    have g1 := demote_ok g hs
    have hW1 : DemW (s.set (rt r) (.root k d 0 box frz ver)) us W := by
      intro y hy
      obtain ⟨r', k', d', dep', box', frz', ver', e1, e2, e3⟩ := hW y (by simp [hy])
      by_cases e : r' = r
      · subst e
        rw [hs] at e2
        simp only [Cell.root.injEq] at e2
        obtain ⟨rfl, e2, rfl, rfl, rfl, rfl⟩ := e2
        have e2 := eq_of_heq e2
        subst e2
        exact ⟨r', k, d, 0, box, frz, ver, e1, State.set_same _ _ _, e3⟩
      · exact ⟨r', k', d', dep', box', frz', ver', e1, by rw [State.set_other _ _ (fun h => e (rt_inj h))]; exact e2, e3⟩
    obtain ⟨G', g', c1, c2, c3, c4, c5, c6, c7, c8, c9⟩ := ih g1 hW1
    refine ⟨G', g', c1, c2, fun b h => c3 b (demφ_none h), fun b f r' q h hn => c4 b f r' q (demφ_other h (fun e => hn (e ▸ hr))) hn, fun b z h => demφ_some (c5 b z h), fun r' ⟨c, hc⟩ b q hb => ?_, fun r' hn => ?_, fun t => ?_, fun r' => ?_⟩
    · by_cases e : r' = r
      · subst e
        exact c3 b (demφ_own hb)
      · rcases List.mem_cons.1 hc with hc | hc
        · exact absurd (rt_inj (congrArg Prod.fst hc)) e
        · exact c6 r' ⟨c, hc⟩ b q (demφ_other hb e)
    · simp only [State.put]
      rw [c7 r' hn]
      exact State.set_other _ _ (fun h => hn (by rw [rt_inj h]; exact hr))
    · simp only [State.put]
      rw [c8 t]
      exact State.set_other _ _ (sl_rt t r)
    · have e : ∀ {c}, s (rt r') = c → (c = .none ∨ c = .dead) → r' ≠ r := fun h hc e => by subst e; rw [hs] at h; subst h; rcases hc with hc | hc <;> cases hc
      simp only [State.put]
      refine ⟨fun h => (c9 r').1 ?_, fun h => (c9 r').2 ?_⟩
      · rw [State.set_other _ _ (fun h' => e h (.inl rfl) (rt_inj h'))]; exact h
      · rw [State.set_other _ _ (fun h' => e h (.inr rfl) (rt_inj h'))]; exact h

/-- What is known of a lent root. -/
structure LentOk (G : Gh) (w : World) (s : State) (l : Lent) (k : Kd) (x : Value) (k' : Kd) (d' : k'.den) (dep : Nat) (box frz : Bool) (ver : Nat) (d : k.den) : Prop where
  root : s (rt l.r) = .root k' d' dep box frz ver
  get : getP l.p k' d' = some ⟨k, d⟩
  ok : okP l.p k' d'
  deep : lev l.p + k.lev ≤ dep
  val : x = mkVal k (subC w l.p k' (G.C l.r))

theorem argR_ok (g : GOk Kp G s a w) {share : Bool} {i : Nat} {k : Kd} {io : Bool} {t : TypeId} {x : Operand} {y : k.den × Writes × List Lent × List Nat} (h : (argR Γ share i k io t x).out s = some y) :
    DemW s y.2.2.2 y.2.1 ∧ (share = true → ∀ r ∈ y.2.2.2, ∃ c, (rt r, c) ∈ y.2.1) ∧
    (io = false → y.2.2.1 = [] ∧ ∀ U : Nat → Prop, (∀ b, G.φ b = none → U b) → (∀ r ∈ y.2.2.2, ∀ b q, G.φ b = some (false, r, q) → U b) → ∃ c, a.eval x = mkVal k c ∧ Rep w (fun _ b => U b) k [] c y.1) ∧
    (io = true → ∃ l, y.2.2.1 = [l] ∧ l.i = i ∧ y.2.1 = [] ∧ y.2.2.2 = [] ∧ ∃ k' d' dep box frz ver, LentOk G w s l k (a.eval x) k' d' dep box frz ver y.1) := by
  unfold argR at h
  simp only [Rd.out_bind, Option.bind_eq_some_iff] at h
  obtain ⟨c, h1, h⟩ := h
  have hc := rdOp_ok g h1
  cases io with
  | false =>
    simp only [Rd.out_bind, Option.bind_eq_some_iff, Rd.out_opt] at h
    obtain ⟨v, h2, d, h3, h⟩ := h
    have h3 := cast?_eq h3
    subst h3
    have hplain : ∀ (T : OwnS) (q : Path) (c : List Value), a.eval x = mkVal k c → Rep w T k q c d → (∀ q' b, T q' b → G.φ b = none ∨ ∃ r ∈ y.2.2.2, ∃ q, G.φ b = some (false, r, q)) → y.1 = d → y.2.2.1 = [] → 
        (false = false → y.2.2.1 = [] ∧ ∀ U : Nat → Prop, (∀ b, G.φ b = none → U b) → (∀ r ∈ y.2.2.2, ∀ b q, G.φ b = some (false, r, q) → U b) → ∃ c, a.eval x = mkVal k c ∧ Rep w (fun _ b => U b) k [] c y.1) := by
      intro T q c e1 e2 e3 e4 e5 _
      refine ⟨e5, fun U u1 u2 => ⟨c, e1, ?_⟩⟩
      rw [e4]
      refine e2.move fun p b hb _ => ?_
      rcases e3 _ b hb with h | ⟨r, hr, q', h⟩
      · exact u1 b h
      · exact u2 r hr b q' h
    cases c with
    | al r p ver =>
      simp only [bif_out, Rd.out] at h
      simp only [look, Rd.out] at h2
      simp only [CellOk] at hc
      cases hs : s (rt r) with
      | root k' d' dep box frz ver' =>
        rw [hs] at h h2 hc
        simp only [bif_out, Rd.out, Rd.out_opt] at h h2
        rcases bif_some h2 with ⟨hv, h4⟩ | ⟨_, h4⟩
        · have hro := g.roots r
          rw [hs] at hro
          obtain ⟨z, e1, e2, e3⟩ := hc.2 (verOk hv)
          rw [h4] at e1
          have e1 := Option.some.inj e1
          subst e1
          have hrep := getP_rep hro.1 e2 h4
          rcases bif_some h with ⟨hf, h5⟩ | ⟨_, h5⟩
          · have h6 := Option.some.inj h5
            subst h6
            exact ⟨fun _ h => by simp at h, fun _ r h => by simp at h, hplain noS [] _ e3 (hrep.flat w _ _ hf) (fun _ _ h => h.elim) rfl rfl, fun hh => absurd hh (by simp)⟩
          · have hown : ∀ q' b, ownS G.φ r dep q' b → G.φ b = none ∨ ∃ r' ∈ [r], ∃ q, G.φ b = some (false, r', q) := fun q' b h => by
              rcases ownS_lev h with ⟨_, h⟩ | ⟨_, h⟩
              · exact .inr ⟨r, by simp, q', h⟩
              · exact .inl h
            rcases bif_some h5 with ⟨hsh, h6⟩ | ⟨hsh, h6⟩
            · have h7 := Option.some.inj h6
              subst h7
              refine ⟨fun z hz => ?_, fun _ r' hr' => ?_, hplain _ _ _ e3 hrep hown rfl rfl, fun hh => absurd hh (by simp)⟩
              · simp only [List.mem_singleton] at hz
                subst hz
                exact ⟨r, k', d', dep, box, frz, ver', rfl, hs, by simp⟩
              · simp only [List.mem_singleton] at hr'
                subst hr'
                exact ⟨_, by simp; rfl⟩
            · have h7 := Option.some.inj h6
              subst h7
              exact ⟨fun _ h => by simp at h, fun hh => absurd (hsh.symm.trans hh) (by simp), hplain _ _ _ e3 hrep hown rfl rfl, fun hh => absurd hh (by simp)⟩
        · cases h4
      | _ => rw [hs] at h2; simp [Rd.out] at h2
    | val k' d' =>
      simp only [Rd.out, Option.some.injEq, look] at h h2
      subst h
      injection h2 with h2a h2b
      subst h2a
      have h2b := eq_of_heq h2b
      subst h2b
      obtain ⟨cs, e1, e2⟩ := hc
      exact ⟨fun _ h => by simp at h, fun _ r h => by simp at h, hplain _ _ cs e1 e2 (fun _ _ h => .inl h) rfl rfl, fun hh => absurd hh (by simp)⟩
    | cst k' d' =>
      simp only [Rd.out, Option.some.injEq, look] at h h2
      subst h
      injection h2 with h2a h2b
      subst h2a
      have h2b := eq_of_heq h2b
      subst h2b
      obtain ⟨cs, e1, e2⟩ := hc
      exact ⟨fun _ h => by simp at h, fun _ r h => by simp at h, hplain _ _ cs e1 e2 (fun _ _ h => h.elim) rfl rfl, fun hh => absurd hh (by simp)⟩
    | _ => simp [look, Rd.out] at h2
  | true =>
    cases c with
    | al r p ver =>
      simp only [Rd.out] at h
      simp only [CellOk] at hc
      cases hs : s (rt r) with
      | root k' d' dep box frz ver' =>
        rw [hs] at h hc
        simp only [bif_out, Rd.out, Rd.out_opt, Rd.out_bind] at h
        rcases bif_some h with ⟨hv, h4⟩ | ⟨_, h4⟩
        · simp only [Option.bind_eq_some_iff, Bool.and_eq_true, decide_eq_true_eq] at h4 hv
          obtain ⟨v, h5, d, h6, h7⟩ := h4
          have h6 := cast?_eq h6
          subst h6
          have h8 := Option.some.inj h7
          subst h8
          obtain ⟨z, e1, e2, e3⟩ := hc.2 (verOk (by simpa using hv.1))
          rw [h5] at e1
          have e1 := Option.some.inj e1
          subst e1
          exact ⟨fun _ h => by simp at h, fun _ r h => by simp at h, fun hh => absurd hh (by simp), fun _ => ⟨⟨i, r, p⟩, rfl, rfl, rfl, rfl, k', d', dep, box, frz, ver', hs, h5, e2, hv.2, e3⟩⟩
        · cases h4
      | _ => rw [hs] at h; simp [Rd.out] at h
    | _ => simp [Rd.out] at h

/-- What the callee gets of a lent part. -/
theorem LentOk.rep (g : GOk Kp G s a w) {l : Lent} {k : Kd} {x : Value} {k' : Kd} {d' : k'.den} {dep : Nat} {box frz : Bool} {ver : Nat} {d : k.den} (h : LentOk G w s l k x k' d' dep box frz ver d)
    {ψ : Nat → Option (Nat × Path)} (hψ : ∀ b q, G.φ b = some (false, l.r, l.p ++ q) → ψ b = some (l.i, q)) : Rep w (fun q b => ψ b = some (l.i, q)) k [] (subC w l.p k' (G.C l.r)) d := by
  have hro := g.roots l.r
  rw [h.root] at hro
  have hrep := getP_rep hro.1 h.ok h.get
  rw [List.nil_append] at hrep
  refine (hrep.lim).move fun q b hb _ => ?_
  rw [List.nil_append]
  obtain ⟨h1, _, h3⟩ := hb
  have hl := lev_append l.p q
  have hd := h.deep
  have : lev (l.p ++ q) < dep := by rw [hl]; simp only [lev, Nat.zero_add] at h3; omega
  simp only [ownS, this, if_true] at h1
  exact hψ b q h1

theorem argsR_ok (g : GOk Kp G s a w) {share : Bool} : ∀ {ps : List (Kd × Bool)} {i : Nat} {os : List (Operand × TypeId)} {y : (Kd.tuple (ps.map (·.1))).den × Writes × List Lent × List Nat}, (argsR Γ share i ps os).out s = some y →
    DemW s y.2.2.2 y.2.1 ∧ (share = true → ∀ r ∈ y.2.2.2, ∃ c, (rt r, c) ∈ y.2.1) ∧ (∀ l ∈ y.2.2.1, i ≤ l.i) ∧ (y.2.2.1.Pairwise fun l l' => l.i < l'.i) ∧ (∀ l ∈ y.2.2.1, ∃ k x k' d' dep box frz ver d, LentOk G w s l k x k' d' dep box frz ver d) ∧
    (∀ (ψ : Nat → Option (Nat × Path)) (U : Nat → Prop), (∀ l ∈ y.2.2.1, ∀ b q, G.φ b = some (false, l.r, l.p ++ q) → ψ b = some (l.i, q)) → (∀ b, G.φ b = none → U b) → (∀ r ∈ y.2.2.2, ∀ b q, G.φ b = some (false, r, q) → U b) →
      ArgsOk w ψ U i ps (os.map fun z => a.eval z.1) y.1) := by
  intro ps
  induction ps with
  | nil =>
    intro i os y h
    cases os with
    | nil =>
      simp only [argsR, Rd.out, Option.some.injEq] at h
      subst h
      exact ⟨fun _ h => by simp at h, fun _ _ h => by simp at h, fun _ h => by simp at h, List.Pairwise.nil, fun _ h => by simp at h, fun _ _ _ _ _ => rfl⟩
    | cons _ _ => simp [argsR, Rd.out] at h
  | cons p ps ih =>
    intro i os y h
    obtain ⟨k, io⟩ := p
    cases os with
    | nil => simp [argsR, Rd.out] at h
    | cons o os =>
      obtain ⟨x, t⟩ := o
      simp only [argsR, Rd.out_bind, Option.bind_eq_some_iff, Rd.out, Option.some.injEq] at h
      obtain ⟨u, h1, v, h2, h3⟩ := h
      subst h3
      obtain ⟨a1, a2, a3, a4⟩ := argR_ok g h1
      obtain ⟨b1, b2, b3, b4, b5, b6⟩ := ih h2
      refine ⟨fun z hz => ?_, fun hsh r hr => ?_, fun l hl => ?_, ?_, fun l hl => ?_, fun ψ U hψ u1 u2 => ?_⟩
      · simp only at hz ⊢
        rcases List.mem_append.1 hz with hz | hz
        · obtain ⟨r, k', d', dep, box, frz, ver, e1, e2, e3⟩ := a1 z hz
          exact ⟨r, k', d', dep, box, frz, ver, e1, e2, by simp [e3]⟩
        · obtain ⟨r, k', d', dep, box, frz, ver, e1, e2, e3⟩ := b1 z hz
          exact ⟨r, k', d', dep, box, frz, ver, e1, e2, by simp [e3]⟩
      · simp only at hr ⊢
        rcases List.mem_append.1 hr with hr | hr
        · obtain ⟨c, hc⟩ := a2 hsh r hr; exact ⟨c, by simp [hc]⟩
        · obtain ⟨c, hc⟩ := b2 hsh r hr; exact ⟨c, by simp [hc]⟩
      · simp only at hl
        rcases List.mem_append.1 hl with hl | hl
        · cases io with
          | false => rw [(a3 rfl).1] at hl; simp at hl
          | true =>
            obtain ⟨l', e1, e2, _⟩ := a4 rfl
            rw [e1] at hl
            simp only [List.mem_singleton] at hl
            subst hl
            omega
        · have := b3 l hl; omega
      · simp only
        cases io with
        | false => rw [(a3 rfl).1]; simpa using b4
        | true =>
          obtain ⟨l', e1, e2, _⟩ := a4 rfl
          rw [e1]
          simp only [List.cons_append, List.nil_append, List.pairwise_cons]
          exact ⟨fun l hl => by have := b3 l hl; omega, b4⟩
      · simp only at hl
        rcases List.mem_append.1 hl with hl | hl
        · cases io with
          | false => rw [(a3 rfl).1] at hl; simp at hl
          | true =>
            obtain ⟨l', e1, e2, _, _, k', d', dep, box, frz, ver, hh⟩ := a4 rfl
            rw [e1] at hl
            simp only [List.mem_singleton] at hl
            subst hl
            exact ⟨_, _, k', d', dep, box, frz, ver, _, hh⟩
        · exact b5 l hl
      · simp only at hψ u2
        have hrest := b6 ψ U (fun l hl => hψ l (by simp [hl])) u1 (fun r hr => u2 r (by simp [hr]))
        cases io with
        | false =>
          obtain ⟨c, c1, c2⟩ := (a3 rfl).2 U u1 (fun r hr => u2 r (by simp [hr]))
          exact ⟨c, _, by simp [c1], c2, hrest⟩
        | true =>
          obtain ⟨l', e1, e2, _, _, k', d', dep, box, frz, ver, hh⟩ := a4 rfl
          have hr := hh.rep g (hψ l' (by rw [e1]; simp))
          refine ⟨subC w l'.p k' (G.C l'.r), _, by simp [hh.val], ?_, hrest⟩
          subst e2
          exact hr

/-- What the lent roots have become. -/
inductive Backs (G : Gh) (w w' : World) (s : State) (χ : Nat → Option Lab) : List Lent → Writes → Prop
  | nil : Backs G w w' s χ [] []
  | cons {l : Lent} {ls : List Lent} {W : Writes} {k : Kd} {x : Value} {k' : Kd} {d' d'' : k'.den} {dep : Nat} {box frz : Bool} {ver : Nat} {d dn : k.den} (h : LentOk G w s l k x k' d' dep box frz ver d)
      (hs : setP l.p k' d' ⟨k, dn⟩ = some d'') (hr : Rep w' (fun q b => χ b = some (.io l.i q)) k [] (subC w l.p k' (G.C l.r)) dn) (t : Backs G w w' s χ ls W) : Backs G w w' s χ (l :: ls) ((rt l.r, .root k' d'' dep box frz (ver + 1)) :: W)

theorem backR_ok (g : GOk Kp G s a w) {share : Bool} {χ : Nat → Option Lab} : ∀ {ps : List (Kd × Bool)} {i : Nat} {os : List (Operand × TypeId)} {y : (Kd.tuple (ps.map (·.1))).den × Writes × List Lent × List Nat} {dn : (Kd.tuple ((ps.filter (·.2)).map (·.1))).den} {W : Writes},
    (argsR Γ share i ps os).out s = some y → (backR y.2.2.1 ((ps.filter (·.2)).map (·.1)) dn).out s = some W → IoOk w' χ i ps (os.map fun z => a.eval z.1) dn → Backs G w w' s χ y.2.2.1 W := by
  intro ps
  induction ps with
  | nil =>
    intro i os y dn W h hb hio
    cases os with
    | nil =>
      simp only [argsR, Rd.out, Option.some.injEq] at h
      subst h
      have hb' : some ([] : Writes) = some W := hb
      injection hb' with hb'
      subst hb'
      exact .nil
    | cons _ _ => simp [argsR, Rd.out] at h
  | cons p ps ih =>
    intro i os y dn W h hb hio
    obtain ⟨k, io⟩ := p
    cases os with
    | nil => simp [argsR, Rd.out] at h
    | cons o os =>
      obtain ⟨x, t⟩ := o
      simp only [argsR, Rd.out_bind, Option.bind_eq_some_iff, Rd.out, Option.some.injEq] at h
      obtain ⟨u, h1, v, h2, h3⟩ := h
      subst h3
      obtain ⟨a1, a2, a3, a4⟩ := argR_ok g h1
      cases io with
      | false =>
        have e := (a3 rfl).1
        simp only at hb ⊢
        rw [e] at hb ⊢
        exact ih h2 hb hio
      | true =>
        obtain ⟨l, e1, e2, _, _, k', d', dep, box, frz, ver, hh⟩ := a4 rfl
        simp only at hb ⊢
        rw [e1] at hb ⊢
        obtain ⟨li, lr, lp⟩ := l
        simp only at e2
        subst e2
        have hb' : (backR (⟨li, lr, lp⟩ :: v.2.2.1) (k :: ((ps.filter (·.2)).map (·.1))) dn).out s = some W := hb
        simp only [backR, Rd.out] at hb'
        rw [hh.root] at hb'
        simp only [Rd.out_bind, Rd.out_opt, Option.bind_eq_some_iff, Rd.out, Option.some.injEq] at hb'
        obtain ⟨d'', k1, W', k2, k3⟩ := hb'
        subst k3
        have hio' : ∃ c r, (a.eval x :: os.map fun z => a.eval z.1) = mkVal k c :: r ∧ c.length = k.size ∧ Rep w' (fun q b => χ b = some (.io li q)) k [] c dn.1 ∧ IoOk w' χ (li + 1) ps r dn.2 := hio
        obtain ⟨c, r, j1, j2, j3, j4⟩ := hio'
        injection j1 with j1 j5
        subst j5
        have hro := g.roots lr
        rw [hh.root] at hro
        have hrep := getP_rep hro.1 hh.ok hh.get
        have hc : subC w lp k' (G.C lr) = c := by
          have e3 := mkVal_cells j3
          have e4 := mkVal_cells hrep
          rw [← e3, ← e4, ← j1]
          exact congrArg (fun v => v.cells.toList) hh.val.symm
        refine .cons hh k1 (by rw [hc]; exact j3) (ih h2 k2 j4)
end
end Go.V
