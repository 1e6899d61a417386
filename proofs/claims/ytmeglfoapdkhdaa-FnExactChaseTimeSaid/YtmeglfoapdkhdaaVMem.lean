/- Roots made, given up, shared: the steps that the writing operations are made of. -/
import Derived.Test.YtmeglfoapdkhdaaVOps3
set_option linter.unusedVariables false
set_option linter.unusedSimpArgs false
namespace Go.V

theorem lev_append : ∀ (p q : Path), lev (p ++ q) = lev p + lev q := by
  intro p
  induction p with
  | nil => intro q; simp [lev]
  | cons s p ih => intro q; cases s <;> simp [lev, ih] <;> omega
theorem ownS_lev {φ : Nat → Option (Bool × Nat × Path)} {r dep : Nat} {q : Path} {b : Nat} (h : ownS φ r dep q b) : (lev q < dep ∧ φ b = some (false, r, q)) ∨ (dep ≤ lev q ∧ φ b = none) := by
  unfold ownS at h
  split at h
  · exact .inl ⟨by assumption, h⟩
  · exact .inr ⟨by omega, h⟩

/-- A root's parts become shared. -/
def demφ (φ : Nat → Option (Bool × Nat × Path)) (r : Nat) : Nat → Option (Bool × Nat × Path) := fun b =>
  match φ b with
  | some (false, r', q) => if r' = r then none else some (false, r', q)
  | x => x
theorem demφ_none {φ : Nat → Option (Bool × Nat × Path)} {r b : Nat} (h : φ b = none) : demφ φ r b = none := by simp [demφ, h]
theorem demφ_other {φ : Nat → Option (Bool × Nat × Path)} {r b : Nat} {f : Bool} {r' : Nat} {q : Path} (h : φ b = some (f, r', q)) (hn : r' ≠ r) : demφ φ r b = some (f, r', q) := by
  simp only [demφ, h]
  cases f <;> simp [hn]
theorem demφ_box {φ : Nat → Option (Bool × Nat × Path)} {r b : Nat} {q : Path} {r' : Nat} (h : φ b = some (true, r', q)) : demφ φ r b = some (true, r', q) := by simp [demφ, h]
theorem demφ_own {φ : Nat → Option (Bool × Nat × Path)} {r b : Nat} {q : Path} (h : φ b = some (false, r, q)) : demφ φ r b = none := by simp [demφ, h]
theorem demφ_some {φ : Nat → Option (Bool × Nat × Path)} {r b : Nat} {x : Bool × Nat × Path} (h : demφ φ r b = some x) : φ b = some x := by
  cases hb : φ b with
  | none => rw [demφ_none hb] at h; simp at h
  | some y =>
    obtain ⟨f, r', q⟩ := y
    by_cases hr : r' = r
    · subst hr
      cases f with
      | false => rw [demφ_own hb] at h; simp at h
      | true => rw [demφ_box hb] at h; exact h
    · rw [demφ_other hb hr] at h; exact h

section
variable {P : Program} {Γ : Ctx} {Kp : Keep} {B0 : World} {n : Nat} {G : Gh} {s : State} {a : Act} {w : World} {id : Nat}

/-- The root's slices become shared. -/
theorem demote_ok (g : GOk Kp G s a w) {r : Nat} {k : Kd} {d : k.den} {dep : Nat} {box frz : Bool} {ver : Nat} (hs : s (rt r) = .root k d dep box frz ver) :
    GOk Kp { G with φ := demφ G.φ r } (s.set (rt r) (.root k d 0 box frz ver)) a w := by
  have hro := g.roots r
  rw [hs] at hro
  have tr : Tr G { G with φ := demφ G.φ r } w w s (s.set (rt r) (.root k d 0 box frz ver)) := by
    refine ⟨fun b h _ => ⟨demφ_none h, rfl⟩, fun r' k' d' dep' box' frz' ver' h => ?_, fun r' h => ?_⟩
    · by_cases e : r' = r
      · subst e
        rw [hs] at h
        simp only [Cell.root.injEq] at h
        obtain ⟨rfl, h2, rfl, rfl, rfl, rfl⟩ := h
        have h2 := eq_of_heq h2
        subst h2
        exact .inr ⟨d, 0, frz, ver, State.set_same _ _ _, rfl, fun _ => rfl, fun h => h, .inl ⟨rfl, rfl, rfl, fun _ _ _ => rfl, fun q b _ h => by
          rcases ownS_lev h with ⟨_, h⟩ | ⟨_, h⟩
          · simp only [ownS, Nat.not_lt_zero, if_false]; exact demφ_own h
          · simp only [ownS, Nat.not_lt_zero, if_false]; exact demφ_none h⟩⟩
      · refine .inr ⟨d', dep', frz', ver', ?_, rfl, fun _ => rfl, fun h => h, .inl ⟨rfl, rfl, rfl, fun _ _ _ => rfl, fun q b _ h => by
          rcases ownS_lev h with ⟨hl, h⟩ | ⟨hl, h⟩
          · simp only [ownS, hl, if_true]; exact demφ_other h e
          · simp only [ownS, Nat.not_lt.2 hl, if_false]; exact demφ_none h⟩⟩
        rw [State.set_other _ _ (fun h => e (rt_inj h))]
        exact h
    · have e : r' ≠ r := fun e => by subst e; rw [hs] at h; cases h
      rw [State.set_other _ _ (fun h => e (rt_inj h))]
      exact h
  have := g.step tr none undef (fun t _ => State.set_other _ _ (sl_rt t r)) (fun d h => by cases h) (fun r' => ?_) ⟨fun b x h => g.col.col b x (demφ_some h), fun b x h => g.col.lt b x (demφ_some h), fun b h => demφ_box (g.col.out b h)⟩
  · exact this
  · by_cases e : r' = r
    · subst e
      rw [State.set_same]
      refine ⟨hro.1.frame fun q b _ h _ => ⟨rfl, ?_⟩, fun hb => ?_⟩
      · simp only [ownS, Nat.not_lt_zero, if_false]
        rcases ownS_lev h with ⟨_, h⟩ | ⟨_, h⟩
        · exact demφ_own h
        · exact demφ_none h
      · obtain ⟨h1, h2⟩ := hro.2 hb
        refine ⟨h1, ?_⟩
        cases frz with
        | true => simp only [if_true] at h2 ⊢; exact demφ_none h2
        | false => simp only [Bool.false_eq_true, if_false] at h2 ⊢; exact demφ_box h2
    · rw [State.set_other _ _ (fun h => e (rt_inj h))]
      have hk := g.roots r'
      cases hc : s (rt r') with
      | root k' d' dep' box' frz' ver' =>
        rw [hc] at hk
        refine ⟨hk.1.frame fun q b _ h _ => ⟨rfl, ?_⟩, fun hb => ?_⟩
        · rcases ownS_lev h with ⟨hl, h⟩ | ⟨hl, h⟩
          · simp only [ownS, hl, if_true]; exact demφ_other h e
          · simp only [ownS, Nat.not_lt.2 hl, if_false]; exact demφ_none h
        · obtain ⟨h1, h2⟩ := hk.2 hb
          refine ⟨h1, ?_⟩
          cases frz' with
          | true => simp only [if_true] at h2 ⊢; exact demφ_none h2
          | false => simp only [Bool.false_eq_true, if_false] at h2 ⊢; exact demφ_box h2
      | _ => trivial

/-- The root is given up. -/
theorem kill_ok (g : GOk Kp G s a w) {r : Nat} (hs : ∃ k d dep box frz ver, s (rt r) = .root k d dep box frz ver) : GOk Kp G (s.set (rt r) .dead) a w := by
  have tr : Tr G G w w s (s.set (rt r) .dead) := by
    refine ⟨fun b h _ => ⟨h, rfl⟩, fun r' k' d' dep' box' frz' ver' h => ?_, fun r' h => ?_⟩
    · by_cases e : r' = r
      · subst e; exact .inl (State.set_same _ _ _)
      · refine .inr ⟨d', dep', frz', ver', ?_, rfl, fun _ => rfl, fun h => h, .inl ⟨rfl, rfl, rfl, fun _ _ _ => rfl, fun _ _ _ h => h⟩⟩
        rw [State.set_other _ _ (fun h => e (rt_inj h))]
        exact h
    · by_cases e : r' = r
      · subst e; exact State.set_same _ _ _
      · rw [State.set_other _ _ (fun h => e (rt_inj h))]
        exact h
  refine g.step tr none undef (fun t _ => State.set_other _ _ (sl_rt t r)) (fun d h => by cases h) (fun r' => ?_) g.col
  by_cases e : r' = r
  · subst e; rw [State.set_same]; trivial
  · rw [State.set_other _ _ (fun h => e (rt_inj h))]; exact g.roots r'

/-- What was got: cells that stand for the value, and whose they are. -/
def GotOk (G : Gh) (w : World) (s : State) (x : Value) (g : Got) : Prop := ∃ cs, x = mkVal g.v.k cs ∧
  ((g.from_ = none ∧ Rep w noS g.v.k [] cs g.v.d) ∨ (g.from_ = none ∧ g.dp = 0 ∧ Rep w (shS G.φ) g.v.k [] cs g.v.d) ∨
   ∃ r k d dep box frz ver p, g.from_ = some (r, .root k d 0 box frz ver) ∧ s (rt r) = .root k d dep box frz ver ∧ Rep w (ownS G.φ r dep) g.v.k p cs g.v.d ∧ (g.dp = 0 ∨ (p = [] ∧ g.dp = dep ∧ (box = true → frz = false))))

theorem got_ok (g : GOk Kp G s a w) {x : Value} {c : Cell} {o : Operand} {y : Got} (hc : CellOk G w s x c) (h : (got Γ o c).out s = some y) : GotOk G w s x y := by
  cases c with
  | cst k d =>
    simp only [got, Rd.out, Option.some.injEq] at h
    subst h
    obtain ⟨cs, h1, h2⟩ := hc
    exact ⟨cs, h1, .inl ⟨rfl, h2⟩⟩
  | val k d =>
    simp only [got, Rd.out, Option.some.injEq] at h
    subst h
    obtain ⟨cs, h1, h2⟩ := hc
    cases hf : k.flat with
    | true => exact ⟨cs, h1, .inl ⟨rfl, h2.flat w _ [] hf⟩⟩
    | false => exact ⟨cs, h1, .inr (.inl ⟨rfl, by simp [hf], h2⟩)⟩
  | al r p ver =>
    simp only [got, Rd.out] at h
    cases hs : s (rt r) with
    | root k d dep box frz ver' =>
      rw [hs] at h
      simp only [bif_out, Rd.out_bind, Rd.out_opt, Rd.out] at h
      rcases bif_some h with ⟨hv, h⟩ | ⟨_, h⟩
      · simp only [Option.bind_eq_some_iff] at h
        obtain ⟨v, h1, h2⟩ := h
        have hro := g.roots r
        rw [hs] at hro
        simp only [CellOk] at hc
        rw [hs] at hc
        obtain ⟨y', e1, e2, e3⟩ := hc.2 (verOk hv)
        rw [h1] at e1
        injection e1 with e1
        subst e1
        have hrep := getP_rep hro.1 e2 h1
        rw [List.nil_append] at hrep
        rcases bif_some h2 with ⟨hf, h3⟩ | ⟨_, h3⟩
        · simp only [Option.some.injEq] at h3
          subst h3
          exact ⟨_, e3, .inl ⟨rfl, hrep.flat w _ [] hf⟩⟩
        · rcases bif_some h3 with ⟨hp, h4⟩ | ⟨_, h4⟩
          · simp only [Option.some.injEq] at h4
            subst h4
            simp only [Bool.and_eq_true, List.isEmpty_iff, Bool.not_eq_true'] at hp
            obtain ⟨rfl, rfl⟩ := hp
            refine ⟨_, e3, .inr (.inr ⟨r, k, d, dep, false, frz, ver', [], rfl, hs, hrep, ?_⟩)⟩
            cases o with
            | tmp t => cases hk : Γ.keep t <;> simp [hk]
            | _ => simp
          · rcases bif_some h4 with ⟨hp, h5⟩ | ⟨_, h5⟩
            · simp only [Option.some.injEq] at h5
              subst h5
              simp only [Bool.and_eq_true, List.isEmpty_iff, Bool.not_eq_true'] at hp
              obtain ⟨rfl, rfl⟩ := hp
              refine ⟨_, e3, .inr (.inr ⟨r, k, d, dep, box, false, ver', [], rfl, hs, hrep, ?_⟩)⟩
              cases o with
              | tmp t => cases hk : Γ.keep t <;> simp [hk]
              | _ => simp
            · simp only [Option.some.injEq] at h5
              subst h5
              exact ⟨_, e3, .inr (.inr ⟨r, k, d, dep, box, frz, ver', p, rfl, hs, hrep, .inl rfl⟩)⟩
      · simp at h
    | _ => rw [hs] at h; simp [Rd.out] at h
  | _ => simp [got, Rd.out] at h

/-- Which blocks what was got may lie in, now that it has been given up: none; shared ones; those of a root that is dead. -/
inductive Holds (G : Gh) (w : World) (s : State) (v : V) (cs : List Value) : Nat → Option (Nat × Path) → Prop
  | free (dp : Nat) : Rep w noS v.k [] cs v.d → Holds G w s v cs dp none
  | shared : Rep w (shS G.φ) v.k [] cs v.d → Holds G w s v cs 0 none
  | dead (r : Nat) (p : Path) (dp : Nat) : s (rt r) = .dead → Rep w (ownS G.φ r (lev p + dp)) v.k p cs v.d → Holds G w s v cs dp (some (r, p))
/-- Where a value that was given up lay. -/
def fromOf (own : Bool) (y : Got) : Option (Nat × Path) := bif own && !Nat.beq y.dp 0 then y.from_.map (fun x => (x.1, [])) else none

theorem State.put_append (s : State) (a b : Writes) : s.put (a ++ b) = (s.put a).put b := by
  induction a generalizing s with
  | nil => rfl
  | cons x a ih => simp only [List.cons_append, State.put]; exact ih _

/-- A single value is given up, or shared. -/
theorem leave_ok (g : GOk Kp G s a w) {x : Value} {y : Got} (hg : GotOk G w s x y) (own : Bool) :
    ∃ G' cs, GOk Kp G' (s.put (leave own y)) a w ∧ x = mkVal y.v.k cs ∧ Holds G' w (s.put (leave own y)) y.v cs (bif own then y.dp else 0) (fromOf own y) ∧ G'.C = G.C ∧ G'.β = G.β ∧
      (∀ b, G.φ b = none → G'.φ b = none) ∧ (∀ b f r q, G.φ b = some (f, r, q) → (∀ c, y.from_ ≠ some (r, c)) → G'.φ b = some (f, r, q)) ∧ (∀ b z, G'.φ b = some z → G.φ b = some z) := by
  obtain ⟨cs, h1, h⟩ := hg
  rcases h with ⟨hf, hr⟩ | ⟨hf, hd, hr⟩ | ⟨r, k, d, dep, box, frz, ver, p, hf, hs, hr, hd⟩
  · have e : leave own y = [] := by simp [leave, hf]
    rw [e]
    have e2 : fromOf own y = none := by unfold fromOf; rw [hf]; cases (own && !Nat.beq y.dp 0) <;> rfl
    rw [e2]
    exact ⟨G, cs, g, h1, .free _ hr, rfl, rfl, fun _ h => h, fun _ _ _ _ h _ => h, fun _ _ h => h⟩
  · have e : leave own y = [] := by simp [leave, hf]
    rw [e]
    refine ⟨G, cs, g, h1, ?_, rfl, rfl, fun _ h => h, fun _ _ _ _ h _ => h, fun _ _ h => h⟩
    rw [hd]
    have e2 : fromOf own y = none := by unfold fromOf; rw [hd]; cases own <;> rfl
    rw [e2]
    cases own <;> exact .shared hr
  · by_cases hk : (own && !Nat.beq y.dp 0) = true
    · have e : leave own y = [(rt r, .dead)] := by simp [leave, hf, hk]
      rw [e]
      simp only [Bool.and_eq_true, Bool.not_eq_true'] at hk
      obtain ⟨ho, hz⟩ := hk
      subst ho
      have hz' : y.dp ≠ 0 := fun h => by rw [h] at hz; simp at hz
      rcases hd with hd | ⟨hp, hd, _⟩
      · exact absurd hd hz'
      · subst hp
        refine ⟨G, cs, kill_ok g ⟨k, d, dep, box, frz, ver, hs⟩, h1, ?_, rfl, rfl, fun _ h => h, fun _ _ _ _ h _ => h, fun _ _ h => h⟩
        have e2 : fromOf true y = some (r, []) := by unfold fromOf; rw [hf, hz]; rfl
        rw [e2]
        simp only [cond_true]
        rw [hd]
        exact .dead r [] dep (State.set_same _ _ _) (by simpa [lev] using hr)
    · have e : leave own y = [(rt r, .root k d 0 box frz ver)] := by
        have : (own && !Nat.beq y.dp 0) = false := by simpa using hk
        simp [leave, hf, this]
      rw [e]
      refine ⟨_, cs, demote_ok g hs, h1, ?_, rfl, rfl, fun _ h => demφ_none h, fun b f r' q h hn => demφ_other h (fun e => hn _ (e ▸ hf)), fun _ _ h => demφ_some h⟩
      have hdp : (bif own then y.dp else 0) = 0 := by
        cases own with
        | false => rfl
        | true =>
          simp only [Bool.true_and, Bool.not_eq_true', Bool.not_eq_false] at hk
          simp only [cond_true]
          exact Nat.eq_of_beq_eq_true hk
      have e2 : fromOf own y = none := by
        unfold fromOf
        have : (own && !Nat.beq y.dp 0) = false := by simpa using hk
        rw [this]; rfl
      rw [hdp, e2]
      exact .shared (hr.move fun q b hb _ => by
        simp only [shS]
        rcases ownS_lev hb with ⟨_, h⟩ | ⟨_, h⟩
        · exact demφ_own h
        · exact demφ_none h)
end
end Go.V
