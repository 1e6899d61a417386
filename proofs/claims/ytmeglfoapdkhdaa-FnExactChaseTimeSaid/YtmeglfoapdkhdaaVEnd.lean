/- A function's end: what is handed out. -/
import Derived.Test.YtmeglfoapdkhdaaVFn
set_option linter.unusedVariables false
set_option linter.unusedSimpArgs false
namespace Go.V

section
variable {P : Program} {Γ : Ctx} {Kp : Keep} {B0 : World} {n : Nat} {G : Gh} {s : State} {a : Act} {w w' : World} {id : Nat} {o : Oper} {Q : Exit → Act → World → Prop} {ws : Writes} {A : Nat → Option Value}

theorem ft {p : Prop} (h : false = true) : p := Bool.noConfusion h
theorem tf {p : Prop} (h : true = false) : p := Bool.noConfusion h
theorem ns {α : Type} {x : α} {p : Prop} (h : none = some x) : p := by cases h
theorem sn {α : Type} {x : α} {p : Prop} (h : some x = none) : p := by cases h

theorem any_beq {u : List Nat} {r : Nat} (h : u.any (Nat.beq r) = false) : r ∉ u := by
  intro hm
  rw [List.any_eq_false] at h
  exact h r hm (Nat.beq_refl r)

theorem ioV_ok (g : GOk Kp G s a w) : ∀ {ps : List (Kd × Bool)} {i : Nat} {u : List Nat} {y : (Kd.tuple ((ps.filter (·.2)).map (·.1))).den} {u' : List Nat}, ioV s i ps u = some (y, u') →
    ∃ L : List (Nat × Nat), (∀ x ∈ L, i ≤ x.1) ∧ (L.Pairwise fun x y => x.2 ≠ y.2) ∧ (∀ x ∈ L, x.2 ∉ u) ∧ (∀ r, r ∈ u' ↔ r ∈ u ∨ ∃ x ∈ L, x.2 = r) ∧
      ∀ vs : List Value, vs.length = ps.length → (∀ j v, ioAt ps j = true → vs[j]? = some v → a.tmps.getD (i + j) undef = v) → ∀ χ : Nat → Option Lab, (∀ x ∈ L, ∀ b q, G.φ b = some (false, x.2, q) → χ b = some (.io x.1 q)) → IoOk w χ i ps vs y := by
  intro ps
  induction ps with
  | nil =>
    intro i u y u' h
    simp only [ioV, Option.some.injEq, Prod.mk.injEq] at h
    obtain ⟨_, rfl⟩ := h
    exact ⟨[], fun _ h => by simp at h, List.Pairwise.nil, fun _ h => by simp at h, fun r => by simp, fun _ _ _ _ _ => trivial⟩
  | cons p ps ih =>
    intro i u y u' h
    obtain ⟨k, io⟩ := p
    cases io with
    | false =>
      have h : ioV s (i + 1) ps u = some (y, u') := h
      obtain ⟨L, l1, l2, l3, l4, l5⟩ := ih h
      refine ⟨L, fun x hx => by have := l1 x hx; omega, l2, l3, l4, fun vs hlen hv χ hχ => ?_⟩
      cases vs with
      | nil => simp at hlen
      | cons v vs =>
        exact l5 vs (by simpa using hlen) (fun j v' hio hj => by have := hv (j + 1) v' (by simpa [ioAt] using hio) (by simpa using hj); rw [show i + 1 + j = i + (j + 1) by omega]; exact this) χ hχ
    | true =>
      simp only [ioV] at h
      split at h
      · rename_i r p ver hs
        split at h
        · rename_i k' d dep box frz ver' hr
          rcases bif_some h with ⟨hc, h1⟩ | ⟨_, h1⟩
          · simp only [Bool.and_eq_true, List.isEmpty_iff, Bool.not_eq_true', decide_eq_true_eq] at hc
            obtain ⟨⟨⟨rfl, rfl⟩, hd⟩, hu⟩ := hc
            have hu := any_beq hu
            split at h1
            · rename_i x z hx hz
              have h2 := Option.some.inj h1
              have hk := cast?_eq hx
              injection hk with e1 e2
              subst e1
              have e2 := eq_of_heq e2
              subst e2
              obtain ⟨L, l1, l2, l3, l4, l5⟩ := ih (y := z.1) (u' := z.2) hz
              refine ⟨(i, r) :: L, fun x hx => ?_, ?_, fun x hx => ?_, fun r' => ?_, fun vs hlen hv χ hχ => ?_⟩
              · rcases List.mem_cons.1 hx with rfl | hx
                · exact Nat.le_refl _
                · have := l1 x hx; omega
              · rw [List.pairwise_cons]
                exact ⟨fun x hx e => l3 x hx (by rw [← e]; simp), l2⟩
              · rcases List.mem_cons.1 hx with rfl | hx
                · exact hu
                · exact fun hm => l3 x hx (by simp [hm])
              · injection h2 with _ h2
                rw [← h2, l4]
                simp only [List.mem_cons, exists_eq_or_imp]
                constructor
                · rintro ((rfl | h) | h)
                  · exact .inr (.inl rfl)
                  · exact .inl h
                  · exact .inr (.inr h)
                · rintro (h | rfl | h)
                  · exact .inl (.inr h)
                  · exact .inl (.inl rfl)
                  · exact .inr h
              · cases vs with
                | nil => simp at hlen
                | cons v vs =>
                  have h3 : y = (d, z.1) := by injection h2 with h2 _; exact h2.symm
                  have hrest := l5 vs (by simpa using hlen) (fun j v' hio hj => by have := hv (j + 1) v' (by simpa [ioAt] using hio) (by simpa using hj); rw [show i + 1 + j = i + (j + 1) by omega]; exact this) χ (fun x hx => hχ x (by simp [hx]))
                  have hcell := g.slots i
                  rw [hs] at hcell
                  simp only [CellOk] at hcell
                  rw [hr] at hcell
                  obtain ⟨z', f1, f2, f3⟩ := hcell.2 (.inr (by simp))
                  simp only [getP, Option.some.injEq] at f1
                  subst f1
                  have hv0 := hv 0 v rfl rfl
                  rw [Nat.add_zero] at hv0
                  rw [hv0] at f3
                  simp only [subC] at f3
                  have hro := g.roots r
                  rw [hr] at hro
                  show ∃ c r, (v :: vs) = mkVal k' c :: r ∧ c.length = k'.size ∧ Rep w (fun q b => χ b = some (.io i q)) k' [] c y.1 ∧ IoOk w χ (i + 1) ps r y.2
                  refine ⟨G.C r, vs, by rw [f3], hro.1.length, ?_, ?_⟩
                  · rw [h3]
                    refine hro.1.lim.frame fun q b _ hb _ => ⟨rfl, ?_⟩
                    obtain ⟨g1, _, g2⟩ := hb
                    simp only [lev, Nat.zero_add] at g2
                    have : lev q < dep := by omega
                    simp only [ownS, this, if_true] at g1
                    exact hχ (i, r) (by simp) b q g1
                  · rw [h3]; exact hrest
            · cases h1
          · cases h1
        · cases h
      · rename_i r hs
        split at h
        · rename_i k' d dep ver' hr
          rcases bif_some h with ⟨hc, h1⟩ | ⟨_, h1⟩
          · simp only [Bool.and_eq_true, Bool.not_eq_true', decide_eq_true_eq] at hc
            obtain ⟨hd, hu⟩ := hc
            have hu := any_beq hu
            split at h1
            · rename_i x z hx hz
              have h2 := Option.some.inj h1
              have hk := cast?_eq hx
              injection hk with e1 e2
              subst e1
              have e2 := eq_of_heq e2
              subst e2
              obtain ⟨L, l1, l2, l3, l4, l5⟩ := ih (y := z.1) (u' := z.2) hz
              refine ⟨(i, r) :: L, fun x hx => ?_, ?_, fun x hx => ?_, fun r' => ?_, fun vs hlen hv χ hχ => ?_⟩
              · rcases List.mem_cons.1 hx with rfl | hx
                · exact Nat.le_refl _
                · have := l1 x hx; omega
              · rw [List.pairwise_cons]
                exact ⟨fun x hx e => l3 x hx (by rw [← e]; simp), l2⟩
              · rcases List.mem_cons.1 hx with rfl | hx
                · exact hu
                · exact fun hm => l3 x hx (by simp [hm])
              · injection h2 with _ h2
                rw [← h2, l4]
                simp only [List.mem_cons, exists_eq_or_imp]
                constructor
                · rintro ((rfl | h) | h)
                  · exact .inr (.inl rfl)
                  · exact .inl h
                  · exact .inr (.inr h)
                · rintro (h | rfl | h)
                  · exact .inl (.inr h)
                  · exact .inl (.inl rfl)
                  · exact .inr h
              · cases vs with
                | nil => simp at hlen
                | cons v vs =>
                  have h3 : y = (d, z.1) := by injection h2 with h2 _; exact h2.symm
                  have hrest := l5 vs (by simpa using hlen) (fun j v' hio hj => by have := hv (j + 1) v' (by simpa [ioAt] using hio) (by simpa using hj); rw [show i + 1 + j = i + (j + 1) by omega]; exact this) χ (fun x hx => hχ x (by simp [hx]))
                  have hcell := g.slots i
                  rw [hs] at hcell
                  simp only [CellOk] at hcell
                  rw [hr] at hcell
                  obtain ⟨_, _, f3⟩ := hcell
                  have hv0 := hv 0 v rfl rfl
                  rw [Nat.add_zero] at hv0
                  rw [hv0] at f3
                  have hro := g.roots r
                  rw [hr] at hro
                  show ∃ c r, (v :: vs) = mkVal k' c :: r ∧ c.length = k'.size ∧ Rep w (fun q b => χ b = some (.io i q)) k' [] c y.1 ∧ IoOk w χ (i + 1) ps r y.2
                  refine ⟨G.C r, vs, by rw [f3], hro.1.length, ?_, ?_⟩
                  · rw [h3]
                    refine hro.1.lim.frame fun q b _ hb _ => ⟨rfl, ?_⟩
                    obtain ⟨g1, _, g2⟩ := hb
                    simp only [lev, Nat.zero_add] at g2
                    have : lev q < dep := by omega
                    simp only [ownS, this, if_true] at g1
                    exact hχ (i, r) (by simp) b q g1
                  · rw [h3]; exact hrest
            · cases h1
          · cases h1
        · cases h
      · cases h

/-- How a result is read. -/
def resRd (tmps : Array Value) : ResultVar → Sem Value
  | .tmp t => pure (tmps.getD t undef)
  | .cell a t => do loadVar t (← asAddr (tmps.getD a undef))

theorem oneV_ok (hT : TabOk P Γ.tk Γ.ar) (g : GOk Kp G s a w) {v : ResultVar} {x : V} {ro : Option (Nat × Nat)} {free : Bool} (h : oneV Γ s v = some (x, ro, free)) :
    ∃ c, (resRd a.tmps v).run P w = .ok (mkVal x.k c) w ∧ (free = true → Rep w noS x.k [] c x.d) ∧ (free = false → ro = none → Rep w (shS G.φ) x.k [] c x.d) ∧
      (free = false → ∀ r dep, ro = some (r, dep) → (∃ T q, Rep w T x.k q c x.d ∧ ∀ q' b, T q' b → G.φ b = none ∨ ∃ q, G.φ b = some (false, r, q)) ∧ (x.k.lev ≤ dep → Rep w (fun q b => G.φ b = some (false, r, q)) x.k [] c x.d)) := by
  cases v with
  | tmp t =>
    simp only [oneV] at h
    have hv := g.slots t
    have hrd : ∀ v, a.tmps.getD t undef = v → (resRd a.tmps (.tmp t)).run P w = .ok v w := fun v h => by subst h; rfl
    split at h
    · rename_i k d hs
      simp only [Option.some.injEq, Prod.mk.injEq] at h
      obtain ⟨rfl, rfl, rfl⟩ := h
      rw [hs] at hv
      obtain ⟨c, e1, e2⟩ := hv
      exact ⟨c, hrd _ e1, ft, fun _ _ => e2, fun _ r dep => ns⟩
    · rename_i k d hs
      simp only [Option.some.injEq, Prod.mk.injEq] at h
      obtain ⟨rfl, rfl, rfl⟩ := h
      rw [hs] at hv
      obtain ⟨c, e1, e2⟩ := hv
      exact ⟨c, hrd _ e1, fun _ => e2, tf, tf⟩
    · rename_i r p ver hs
      split at h
      · rename_i k d dep box frz ver' hr
        rcases bif_some h with ⟨hver, h1⟩ | ⟨_, h1⟩
        · split at h1
          · rename_i x' hg
            simp only [Option.some.injEq, Prod.mk.injEq] at h1
            obtain ⟨rfl, rfl, rfl⟩ := h1
            rw [hs] at hv
            simp only [CellOk] at hv
            rw [hr] at hv
            obtain ⟨z, e1, e2, e3⟩ := hv.2 (verOk hver)
            rw [hg] at e1
            have e1 := Option.some.inj e1
            subst e1
            have hro := g.roots r
            rw [hr] at hro
            have hrep := getP_rep hro.1 e2 hg
            refine ⟨_, hrd _ e3, ft, fun _ => sn, fun _ r' dep' he => ?_⟩
            simp only [Option.some.injEq, Prod.mk.injEq] at he
            obtain ⟨rfl, rfl⟩ := he
            refine ⟨⟨_, _, hrep, fun q' b hb => ?_⟩, fun hl => ?_⟩
            · rcases ownS_lev hb with ⟨_, hb⟩ | ⟨_, hb⟩
              · exact .inr ⟨q', hb⟩
              · exact .inl hb
            · rw [List.nil_append] at hrep
              refine hrep.lim.move fun q b hb _ => ?_
              obtain ⟨f1, _, f2⟩ := hb
              cases p with
              | nil =>
                simp only [List.isEmpty_nil, cond_true] at hl
                simp only [List.nil_append] at f1 f2 ⊢
                have : lev q < dep := by simp only [lev] at f2; omega
                simp only [ownS, this, if_true] at f1
                exact f1
              | cons x' p =>
                simp only [List.isEmpty_cons, cond_false] at hl
                rw [lev_append] at f2
                omega
          · cases h1
        · cases h1
      · cases h
    · cases h
  | cell a0 t =>
    simp only [oneV] at h
    have hv := g.slots a0
    split at h
    · rename_i r p ver hs
      split at h
      · rename_i k d dep frz ver' hr
        rcases bif_some h with ⟨hver, h1⟩ | ⟨_, h1⟩
        · simp only [Bool.and_eq_true, List.isEmpty_iff, decide_eq_true_eq] at hver
          obtain ⟨rfl, ht⟩ := hver
          simp only [Option.some.injEq, Prod.mk.injEq] at h1
          obtain ⟨rfl, rfl, rfl⟩ := h1
          rw [hs] at hv
          obtain ⟨y, B, O, e1, e2, e3, e4, e5, e6, e7, hro⟩ := ptr_open g hv hr (by simp [noIdx])
          simp only [getP, Option.some.injEq] at e1
          subst e1
          refine ⟨cellsAt w B O k.size, ?_, ft, fun _ => sn, fun _ r' dep' he => ?_⟩
          · simp [resRd, e4, asAddr, run_loadVar hT ht e6]
          · simp only [Option.some.injEq, Prod.mk.injEq] at he
            obtain ⟨rfl, rfl⟩ := he
            refine ⟨⟨_, _, e7, fun q' b hb => ?_⟩, fun hl => ?_⟩
            · rcases ownS_lev hb with ⟨_, hb⟩ | ⟨_, hb⟩
              · exact .inr ⟨q', hb⟩
              · exact .inl hb
            · refine e7.lim.frame fun q b _ hb _ => ⟨rfl, ?_⟩
              obtain ⟨f1, _, f2⟩ := hb
              have : lev q < dep := by simp only [lev, Nat.zero_add] at f2; simp only at hl; omega
              simp only [ownS, this, if_true] at f1
              exact f1
        · cases h1
      · cases h
    · cases h

theorem resV_ok (hT : TabOk P Γ.tk Γ.ar) (g : GOk Kp G s a w) {own : Bool} : ∀ {rs : List Kd} {vs : List ResultVar} {u : List Nat} {x : (Kd.tuple rs).den}, resV Γ own s rs vs u = some x → ∀ pre : Path,
    ∃ (L : List (Path × Nat)) (vals : List Value) (c : List Value), (L.Pairwise fun x y => x.2 ≠ y.2) ∧ (∀ x ∈ L, x.2 ∉ u) ∧ (vs.mapM (resRd a.tmps)).run P w = .ok vals w ∧ vals = tupV rs c ∧ vals.length = rs.length ∧ c.length = (Kd.tuple rs).size ∧
      ∀ S : OwnS, (own = true → ∀ x ∈ L, ∀ b q, G.φ b = some (false, x.2, q) → S (x.1 ++ q) b) → (own = false → ∀ q b, (G.φ b = none ∨ ∃ r q, r ∉ u ∧ G.φ b = some (false, r, q)) → S q b) → Rep w S (Kd.tuple rs) pre c x := by
  intro rs
  induction rs with
  | nil =>
    intro vs u x h pre
    cases vs with
    | nil => exact ⟨[], [], [], List.Pairwise.nil, fun _ h => by simp at h, by simp, rfl, rfl, rfl, fun S _ _ => rfl⟩
    | cons _ _ => simp [resV] at h
  | cons k ks ih =>
    intro vs u x h pre
    cases vs with
    | nil => simp [resV] at h
    | cons v vs =>
      simp only [resV] at h
      split at h
      · cases h
      · rename_i y hy
        split at h
        · cases h
        · rename_i u' ht
          split at h
          · rename_i y1 z hc hz
            have h := Option.some.inj h
            subst h
            have hk := cast?_eq hc
            obtain ⟨y0, ro, free⟩ := y
            simp only at hk ht hc
            subst hk
            obtain ⟨c1, r1, r2, r3, r4⟩ := oneV_ok hT g hy
            simp only at r1 r2 r3 r4
            obtain ⟨L, vals, c, l1, l2, l3, l4, l5, l6, l7⟩ := ih hz (pre ++ [.r])
            have hlen : c1.length = k.size := by
              cases free with
              | true => exact (r2 rfl).length
              | false =>
                cases ro with
                | none => exact (r3 rfl rfl).length
                | some z => exact ((r4 rfl z.1 z.2 rfl).1).elim fun T hh => hh.elim fun q hh => hh.1.length
            -- the first one by its new owners
            have hhead : ∃ L0 : List (Path × Nat), (∀ x ∈ L0, x.2 ∉ u ∧ x.2 ∈ u') ∧ L0.length ≤ 1 ∧ (∀ r, r ∉ u' → r ∉ u) ∧
                ∀ S : OwnS, (own = true → ∀ x ∈ L0, ∀ b q, G.φ b = some (false, x.2, q) → S (x.1 ++ q) b) → (own = false → ∀ q b, (G.φ b = none ∨ ∃ r q, r ∉ u ∧ G.φ b = some (false, r, q)) → S q b) → Rep w S k (pre ++ [.l]) c1 y1 := by
              have flatc : k.flat = true → ∃ T q, Rep w T k q c1 y1 → True := fun _ => ⟨noS, [], fun _ => trivial⟩
              have anyRep : ∃ T q, Rep w T k q c1 y1 := by
                cases free with
                | true => exact ⟨_, _, r2 rfl⟩
                | false =>
                  cases ro with
                  | none => exact ⟨_, _, r3 rfl rfl⟩
                  | some z => obtain ⟨T, q, hh, _⟩ := (r4 rfl z.1 z.2 rfl).1; exact ⟨T, q, hh⟩
              unfold takeR at ht
              rcases bif_some ht with ⟨hf, hu⟩ | ⟨hf, hu⟩
              · have hu := Option.some.inj hu
                subst hu
                refine ⟨[], fun _ h => by simp at h, by simp, fun _ h => h, fun S _ _ => ?_⟩
                simp only [Bool.or_eq_true] at hf
                rcases hf with hf | hf
                · obtain ⟨T, q, hh⟩ := anyRep
                  exact hh.flat w _ _ hf
                · subst hf
                  exact (r2 rfl).move fun p b hb _ => hb.elim
              · simp only [Bool.or_eq_false_iff] at hf
                obtain ⟨_, rfl⟩ := hf
                cases ro with
                | none =>
                  simp only at hu
                  rcases bif_some hu with ⟨_, hu⟩ | ⟨ho, hu⟩
                  · cases hu
                  · have hu := Option.some.inj hu
                    subst hu
                    exact ⟨[], fun _ h => by simp at h, by simp, fun _ h => h, fun S _ hS => (r3 rfl rfl).move fun p b hb _ => hS ho _ b (.inl hb)⟩
                | some z =>
                  obtain ⟨r, dep⟩ := z
                  simp only at hu
                  rcases bif_some hu with ⟨_, hu⟩ | ⟨hnu, hu⟩
                  · cases hu
                  · have hnu := any_beq hnu
                    rcases bif_some hu with ⟨ho, hu⟩ | ⟨ho, hu⟩
                    · rcases bif_some hu with ⟨hl, hu⟩ | ⟨_, hu⟩
                      · have hu := Option.some.inj hu
                        subst hu
                        have hl := of_decide_eq_true hl
                        refine ⟨[(pre ++ [.l], r)], fun x hx => ?_, by simp, fun r' h => fun hm => h (by simp [hm]), fun S hS _ => ?_⟩
                        · simp only [List.mem_singleton] at hx
                          subst hx
                          exact ⟨hnu, by simp⟩
                        · exact ((r4 rfl r dep rfl).2 hl).move fun p b hb _ => hS ho (pre ++ [St.l], r) (by simp) b p (by simpa using hb)
                      · cases hu
                    · have hu := Option.some.inj hu
                      subst hu
                      refine ⟨[], fun _ h => by simp at h, by simp, fun _ h => h, fun S _ hS => ?_⟩
                      obtain ⟨T, q, hh, hT'⟩ := (r4 rfl r dep rfl).1
                      refine hh.move fun p b hb _ => hS ho _ b ?_
                      rcases hT' _ b hb with h | ⟨q, h⟩
                      · exact .inl h
                      · exact .inr ⟨r, q, hnu, h⟩
            obtain ⟨L0, m1, m2, m3, m4⟩ := hhead
            refine ⟨L0 ++ L, mkVal k c1 :: vals, c1 ++ c, ?_, fun x hx => ?_, ?_, ?_, by simp [l5], by simp [Kd.tuple, Kd.size, hlen, l6], fun S hS1 hS2 => ?_⟩
            · rw [List.pairwise_append]
              refine ⟨?_, l1, fun x hx y hy e => l2 y hy (e ▸ (m1 x hx).2)⟩
              match L0, m2 with
              | [], _ => exact List.Pairwise.nil
              | [x], _ => exact List.pairwise_singleton _ _
            · rcases List.mem_append.1 hx with hx | hx
              · exact (m1 x hx).1
              · exact m3 _ (l2 x hx)
            · rw [List.mapM_cons]
              simp [r1, l3]
            · simp only [tupV, l4]
              rw [List.take_append_of_le_length (by omega), List.take_of_length_le (by omega), List.drop_append_of_le_length (by omega), List.drop_of_length_le (by omega)]
              rfl
            · simp only [Kd.tuple, Rep]
              rw [List.take_append_of_le_length (by omega), List.take_of_length_le (by omega), List.drop_append_of_le_length (by omega), List.drop_of_length_le (by omega)]
              refine ⟨m4 S (fun ho x hx => hS1 ho x (by simp [hx])) hS2, ?_⟩
              exact l7 S (fun ho x hx => hS1 ho x (by simp [hx])) (fun ho q b hb => hS2 ho q b (hb.imp _root_.id fun ⟨r, q, h1, h2⟩ => ⟨r, q, m3 r h1, h2⟩))
          · cases h
end
end Go.V
