/- A call's soundness: the call itself. -/
import Derived.Test.YtmeglfoapdkhdaaVCall
set_option linter.unusedVariables false
set_option linter.unusedSimpArgs false
namespace Go.V

def stripP : Path → Path → Option Path
  | [], q => some q
  | x :: p, y :: q => if x = y then stripP p q else none
  | _ :: _, [] => none
theorem stripP_append : ∀ (p q : Path), stripP p (p ++ q) = some q := by
  intro p
  induction p with
  | nil => intro q; rfl
  | cons x p ih => intro q; simp [stripP, ih]
theorem stripP_some : ∀ {p x q : Path}, stripP p x = some q → x = p ++ q := by
  intro p
  induction p with
  | nil => intro x q h; simp [stripP] at h; simp [h]
  | cons y p ih =>
    intro x q h
    cases x with
    | nil => simp [stripP] at h
    | cons z x =>
      simp only [stripP] at h
      split at h
      · rename_i e
        subst e
        rw [ih h]
        rfl
      · cases h

/-- The lent parts' blocks. -/
def lendψ (φ : Nat → Option (Bool × Nat × Path)) (ls : List Lent) (b : Nat) : Option (Nat × Path) :=
  match φ b with
  | some (false, r, q) => match ls.find? (fun l => Nat.beq l.r r) with
    | some l => (stripP l.p q).map fun q' => (l.i, q')
    | none => none
  | _ => none
def resq (rs : List Kd) (q : Path) : Option Path :=
  match rs with
  | [_] => match q with
    | .l :: q' => some q'
    | _ => none
  | rs => match soleNF rs 0 with
    | some j => stripP (fld j) q
    | none => some q
theorem soleNF_get : ∀ {ks : List Kd} {i j : Nat}, soleNF ks i = some j → ∃ m, j = i + m ∧ ∀ x : (Kd.tuple ks).den, ∃ v, getP (fld m) (Kd.tuple ks) x = some v := by
  intro ks
  induction ks with
  | nil => intro i j h; simp [soleNF] at h
  | cons k ks ih =>
    intro i j h
    simp only [soleNF] at h
    rcases bif_some h with ⟨_, h⟩ | ⟨_, h⟩
    · obtain ⟨m, rfl, hm⟩ := ih h
      exact ⟨m + 1, by omega, fun x => hm x.2⟩
    · rcases bif_some h with ⟨_, h⟩ | ⟨_, h⟩
      · have h := Option.some.inj h
        subst h
        exact ⟨0, rfl, fun x => ⟨⟨k, x.1⟩, rfl⟩⟩
      · cases h
open Classical in
noncomputable def callφ (φ : Nat → Option (Bool × Nat × Path)) (ψ : Nat → Option (Nat × Path)) (χ : Nat → Option Lab) (ls : List Lent) (id size : Nat) (own : Bool) (rs : List Kd) : Nat → Option (Bool × Nat × Path) := fun b =>
  if b < size ∧ ψ b = none then φ b else
  match χ b with
  | some (.io i q) => (ls.find? (fun l => Nat.beq l.i i)).map fun l => (false, l.r, l.p ++ q)
  | some (.res q) => if own = true then (resq rs q).map fun q' => (false, id, q') else none
  | none => none

theorem lentsOk_mem : ∀ {ls : List Lent} {us : List Nat}, lentsOk ls us = true → (∀ l ∈ ls, l.r ∉ us) ∧ ls.Pairwise fun l l' => l.r ≠ l'.r := by
  intro ls
  induction ls with
  | nil => intro us _; exact ⟨fun _ h => by simp at h, List.Pairwise.nil⟩
  | cons l ls ih =>
    intro us h
    simp only [lentsOk, Bool.and_eq_true, Bool.not_eq_true', List.any_eq_false] at h
    obtain ⟨⟨h1, h2⟩, h3⟩ := h
    obtain ⟨h4, h5⟩ := ih h3
    refine ⟨fun l' hl' => ?_, ?_⟩
    · rcases List.mem_cons.1 hl' with rfl | hl'
      · intro hm
        exact h1 _ hm (Nat.beq_refl _)
      · exact h4 l' hl'
    · rw [List.pairwise_cons]
      refine ⟨fun l' hl' e => h2 l' hl' ?_, h5⟩
      rw [e]
      exact Nat.beq_refl _

theorem find_root : ∀ {ls : List Lent}, (ls.Pairwise fun l l' => l.r ≠ l'.r) → ∀ l ∈ ls, ls.find? (fun x => Nat.beq x.r l.r) = some l := by
  intro ls
  induction ls with
  | nil => intro _ l h; simp at h
  | cons x ls ih =>
    intro hp l hl
    rw [List.pairwise_cons] at hp
    rcases List.mem_cons.1 hl with rfl | hl
    · simp
    · have : Nat.beq x.r l.r = false := by
        cases hb : Nat.beq x.r l.r with
        | false => rfl
        | true => exact absurd (Nat.eq_of_beq_eq_true hb) (hp.1 l hl)
      rw [List.find?_cons, this]
      exact ih hp.2 l hl
theorem find_idx : ∀ {ls : List Lent}, (ls.Pairwise fun l l' => l.i < l'.i) → ∀ l ∈ ls, ls.find? (fun x => Nat.beq x.i l.i) = some l := by
  intro ls
  induction ls with
  | nil => intro _ l h; simp at h
  | cons x ls ih =>
    intro hp l hl
    rw [List.pairwise_cons] at hp
    rcases List.mem_cons.1 hl with rfl | hl
    · simp
    · have : Nat.beq x.i l.i = false := by
        cases hb : Nat.beq x.i l.i with
        | false => rfl
        | true => have := Nat.eq_of_beq_eq_true hb; have := hp.1 l hl; omega
      rw [List.find?_cons, this]
      exact ih hp.2 l hl

theorem wp_callsTo {P : Program} {o : Oper} {a : Act} {w : World} {K : Act → World → Prop} {Q : Exit → Act → World → Prop} {f : FuncId} {args : Array Value} {R : Value → World → Prop}
    (h : (execOp a.eval o).run P w = (callFunc f args).run P w) (hc : CallsTo P f args w R) (hR : ∀ v w', R v w' → K (a.put o.dst v) w') : o.wp P a w K Q := by
  unfold Oper.wp
  rw [h]
  unfold CallsTo at hc
  cases hr : (callFunc f args).run P w with
  | ok x w1 =>
    rw [hr] at hc
    cases x with
    | value v => exact hR _ _ hc
    | enter f' args' =>
      rw [Oper.upon_enter]
      refine Calls.mono hc fun e w'' he => ?_
      cases e with
      | returned v => exact hR _ _ he
      | panicked chain => exact he.elim
      | outgrown => exact he.elim
    | row row args' =>
      rw [Oper.upon_row]
      exact Rows.mono hc fun v w'' he => hR _ _ he
    | _ => exact hc.elim
  | halt x w1 => rw [hr] at hc; exact hc.elim

section
variable {P : Program} {Γ : Ctx} {Kp : Keep} {B0 : World} {n : Nat} {G : Gh} {s : State} {a : Act} {w w' : World} {id : Nat} {o : Oper} {Q : Exit → Act → World → Prop} {ws : Writes}

theorem lendψ_some {φ : Nat → Option (Bool × Nat × Path)} {ls : List Lent} {b : Nat} {z : Nat × Path} (h : lendψ φ ls b = some z) : ∃ l ∈ ls, ∃ q, φ b = some (false, l.r, l.p ++ q) ∧ z = (l.i, q) := by
  unfold lendψ at h
  split at h
  · rename_i r q hb
    split at h
    · rename_i l hl
      rw [Option.map_eq_some_iff] at h
      obtain ⟨q', h1, h2⟩ := h
      have hr := List.find?_some hl
      have hr := Nat.eq_of_beq_eq_true hr
      refine ⟨l, List.mem_of_find?_eq_some hl, q', ?_, h2.symm⟩
      rw [hb, hr, stripP_some h1]
    · cases h
  · cases h
theorem lendψ_own {φ : Nat → Option (Bool × Nat × Path)} {ls : List Lent} (hp : ls.Pairwise fun l l' => l.r ≠ l'.r) {l : Lent} (hl : l ∈ ls) {b : Nat} {q : Path} (h : φ b = some (false, l.r, l.p ++ q)) : lendψ φ ls b = some (l.i, q) := by
  unfold lendψ
  rw [h]
  simp only [find_root hp l hl, stripP_append, Option.map_some]

theorem backs_put {χ : Nat → Option Lab} {ls : List Lent} {W : Writes} (h : Backs G w w' s χ ls W) : ∀ {s1 : State}, (ls.Pairwise fun l l' => l.r ≠ l'.r) →
    (∀ r, (∀ l ∈ ls, l.r ≠ r) → (s1.put W) (rt r) = s1 (rt r)) ∧ (∀ t, (s1.put W) (sl t) = s1 (sl t)) ∧
    (∀ l ∈ ls, ∃ k x k' d' dep box frz ver d, ∃ (dn : k.den) (d'' : k'.den), LentOk G w s l k x k' d' dep box frz ver d ∧ setP l.p k' d' ⟨k, dn⟩ = some d'' ∧ Rep w' (fun q b => χ b = some (.io l.i q)) k [] (subC w l.p k' (G.C l.r)) dn ∧
      (s1.put W) (rt l.r) = .root k' d'' dep box frz (ver + 1)) := by
  induction h with
  | nil => intro s1 _; exact ⟨fun _ _ => rfl, fun _ => rfl, fun _ h => by simp at h⟩
  | @cons l ls W k x k' d' d'' dep box frz ver d dn h hs hr t ih =>
    intro s1 hp
    rw [List.pairwise_cons] at hp
    obtain ⟨h1, h2, h3⟩ := ih (s1 := s1.set (rt l.r) (.root k' d'' dep box frz (ver + 1))) hp.2
    refine ⟨fun r hr => ?_, fun t => ?_, fun l' hl' => ?_⟩
    · simp only [State.put]
      rw [h1 r (fun l' hl' => hr l' (by simp [hl']))]
      exact State.set_other _ _ (fun e => hr l (by simp) (rt_inj e).symm)
    · simp only [State.put]
      rw [h2 t]
      exact State.set_other _ _ (sl_rt t l.r)
    · rcases List.mem_cons.1 hl' with rfl | hl'
      · refine ⟨k, x, k', d', dep, box, frz, ver, d, dn, d'', h, hs, hr, ?_⟩
        simp only [State.put]
        rw [h1 l'.r (fun l2 hl2 => (hp.1 l2 hl2).symm)]
        exact State.set_same _ _ _
      · obtain ⟨k, x, k', d', dep, box, frz, ver, d, dn, d'', e1, e2, e3, e4⟩ := h3 l' hl'
        exact ⟨k, x, k', d', dep, box, frz, ver, d, dn, d'', e1, e2, e3, e4⟩

theorem lev_flat : ∀ {k : Kd}, k.flat = true → k.lev = 0 := by
  intro k
  induction k with
  | slice e ih => intro h; simp [Kd.flat] at h
  | bx e ih => intro h; simp [Kd.flat] at h
  | clo f a b iha ihb => intro h; simp [Kd.flat] at h
  | pair a b iha ihb => intro h; simp only [Kd.flat, Bool.and_eq_true] at h; simp [Kd.lev, iha h.1, ihb h.2]
  | _ => intro _; rfl
theorem flat_tuple : ∀ {ks : List Kd}, ks.all Kd.flat = true → (Kd.tuple ks).flat = true := by
  intro ks
  induction ks with
  | nil => intro _; rfl
  | cons k ks ih => intro h; simp only [List.all_cons, Bool.and_eq_true] at h; simp [Kd.tuple, Kd.flat, h.1, ih h.2]

theorem call_core (S : Set_ P Γ Kp B0 n G s a w o) {g : FSig} {os : List (Operand × TypeId)} {f : FuncId} {args : Array Value}
    (hcon : ∀ (ψ : Nat → Option (Nat × Path)) (U : Nat → Prop) d out, ArgsOk w ψ U 0 g.ps (os.map fun z => a.eval z.1) d → (∀ b, U b → ψ b = none) → (∀ b z, ψ b = some z → ∃ cs T, w.heap[b]? = some (.cells cs T (0, 0))) → g.F d = some out →
      (execOp a.eval o).run P w = (callFunc f args).run P w ∧ CallsTo P f args w fun v w' => ∃ χ, Post g ψ U (os.map fun z => a.eval z.1) w out χ v w')
    (h : (callR Γ o.dst id g os).out s = some ws) (hok : dstOk o ws = true) : o.wp P a w (fun a' w' => Inv Kp B0 n (s.put ws) a' w') Q := by
  · simp only [callR, Rd.out_bind, Option.bind_eq_some_iff, bif_out] at h
    obtain ⟨y, h1, h2⟩ := h
    obtain ⟨d, W, ls, us⟩ := y
    simp only at h2
    rcases bif_some h2 with ⟨hl, h3⟩ | ⟨_, h3⟩
    · simp only [Rd.out, Rd.out_bind, Option.bind_eq_some_iff] at h3
      obtain ⟨out, h4, Wb, h5, h6⟩ := h3
      obtain ⟨hid, hws⟩ := newAt_ok h6
      obtain ⟨l1, l2⟩ := lentsOk_mem hl
      obtain ⟨b1, b2, b3, b4, b5, b6⟩ := argsR_ok S.g h1
      simp only at b1 b2 b3 b4 b5 b6
      obtain ⟨G1, g1, c1, c2, c3, c4, c5, c6, c7, c8, c9⟩ := dem_all S.g b1
      have hψs : ∀ b z, lendψ G.φ ls b = some z → ∃ l ∈ ls, ∃ q, G.φ b = some (false, l.r, l.p ++ q) ∧ z = (l.i, q) := fun b z hz => lendψ_some hz
      have hψ0 : ∀ b, G.φ b = none → lendψ G.φ ls b = none := fun b hb => by unfold lendψ; rw [hb]
      have hψr : ∀ b f r q, G.φ b = some (f, r, q) → (∀ l ∈ ls, l.r ≠ r) → lendψ G.φ ls b = none := by
        intro b f r q hb hr
        cases hz : lendψ G.φ ls b with
        | none => rfl
        | some z =>
          obtain ⟨l, hl', q', e1, _⟩ := hψs b z hz
          rw [hb] at e1
          injection e1 with e1
          injection e1 with _ e1
          injection e1 with e1 _
          exact absurd e1.symm (hr l hl')
      have hψt : ∀ b r q, G.φ b = some (true, r, q) → lendψ G.φ ls b = none := fun b r q hb => by unfold lendψ; rw [hb]
      have hcells : ∀ b z, lendψ G.φ ls b = some z → ¬ Kp.K b ∧ ∃ cs T, w.heap[b]? = some (.cells cs T (0, 0)) := by
        intro b z hz
        obtain ⟨l, hl', q, e1, _⟩ := hψs b z hz
        exact S.g.mine e1 (.inl rfl)
      have hargs := b6 (lendψ G.φ ls) (fun b => G.φ b = none ∨ ∃ r ∈ us, ∃ q, G.φ b = some (false, r, q)) (fun l hl' b q hb => lendψ_own l2 hl' hb) (fun b hb => .inl hb) (fun r hr b q hb => .inr ⟨r, hr, q, hb⟩)
      obtain ⟨hexec, hcon⟩ := hcon (lendψ G.φ ls) (fun b => G.φ b = none ∨ ∃ r ∈ us, ∃ q, G.φ b = some (false, r, q)) _ out hargs
        (fun b hU => by
          rcases hU with hb | ⟨r, hr, q, hb⟩
          · exact hψ0 b hb
          · exact hψr b _ r q hb (fun l hl' e => l1 l hl' (e ▸ hr)))
        (fun b z hz => (hcells b z hz).2) h4
      refine wp_callsTo (f := f) (args := args) hexec hcon ?_
      · intro v w' hpost
        obtain ⟨χ, hpost⟩ := hpost
        have hbs := backR_ok S.g h1 (by simpa using h5) hpost.io
        obtain ⟨p1, p2, p3⟩ := backs_put (s1 := s.put W) hbs l2
        have hls : ∀ l ∈ ls, ∃ k' d' dep box frz ver, s (rt l.r) = .root k' d' dep box frz ver := fun l hl' => by
          obtain ⟨k, x, k', d', dep, box, frz, ver, d0, dn, d'', e1, _⟩ := p3 l hl'
          exact ⟨k', d', dep, box, frz, ver, e1.root⟩
        have hsW : ∀ l ∈ ls, (s.put W) (rt l.r) = s (rt l.r) := fun l hl' => c7 l.r (l1 l hl')
        have hlid : ∀ l ∈ ls, l.r ≠ id := fun l hl' e => by
          obtain ⟨k', d', dep, box, frz, ver, e1⟩ := hls l hl'
          rw [e, hid] at e1
          cases e1
        have hψ1 : ∀ b, lendψ G.φ ls b = none → ∀ f r q, G1.φ b = some (f, r, q) → G.φ b = some (f, r, q) := fun b _ f r q h => c5 b _ h
        -- lent blocks keep their colour through the sharing
        have hlendG1 : ∀ b z, lendψ G.φ ls b = some z → ∃ l ∈ ls, ∃ q, G1.φ b = some (false, l.r, l.p ++ q) ∧ z = (l.i, q) := fun b z hz => by
          obtain ⟨l, hl', q, e1, e2⟩ := hψs b z hz
          exact ⟨l, hl', q, c4 b _ _ _ e1 (l1 l hl'), e2⟩
        have hnone1 : ∀ b, G1.φ b = none → lendψ G.φ ls b = none := fun b hb => by
          cases hz : lendψ G.φ ls b with
          | none => rfl
          | some z =>
            obtain ⟨l, hl', q, e1, _⟩ := hlendG1 b z hz
            rw [hb] at e1
            cases e1
        have hr1 : ∀ b f r q, G1.φ b = some (f, r, q) → (∀ l ∈ ls, l.r ≠ r) → lendψ G.φ ls b = none := fun b f r q hb hr => hψr b f r q (c5 b _ hb) hr
        have ht1 : ∀ b r q, G1.φ b = some (true, r, q) → lendψ G.φ ls b = none := fun b r q hb => hψt b r q (c5 b _ hb)
        let φ' := callφ G1.φ (lendψ G.φ ls) χ ls id w.heap.size g.own g.rs
        have hold : ∀ b, b < w.heap.size → lendψ G.φ ls b = none → φ' b = G1.φ b ∧ w'.heap[b]? = w.heap[b]? := fun b hb hz => ⟨by simp only [φ', callφ]; rw [if_pos ⟨hb, hz⟩], hpost.kept b hb hz⟩
        have hnew : ∀ b z, χ b = some z → φ' b = match z with
            | .io i q => (ls.find? (fun l => Nat.beq l.i i)).map fun l => (false, l.r, l.p ++ q)
            | .res q => if g.own = true then (resq g.rs q).map fun q' => (false, id, q') else none := fun b z hz => by
          have hc := (hpost.col b z hz).1
          have : ¬ (b < w.heap.size ∧ lendψ G.φ ls b = none) := fun h => by
            rcases hc with hc | hc
            · omega
            · exact hc h.2
          simp only [φ', callφ]
          rw [if_neg this, hz]
          cases z <;> rfl
        have hfreeb : ∀ b, χ b = none → (w.heap.size ≤ b ∨ lendψ G.φ ls b ≠ none) → φ' b = none := fun b hz hc => by
          have : ¬ (b < w.heap.size ∧ lendψ G.φ ls b = none) := fun h => by
            rcases hc with hc | hc
            · omega
            · exact hc h.2
          simp only [φ', callφ]
          rw [if_neg this, hz]
        have hio : ∀ l ∈ ls, ∀ b q, χ b = some (.io l.i q) → φ' b = some (false, l.r, l.p ++ q) := fun l hl' b q hb => by
          rw [hnew b _ hb]
          simp only [find_idx b4 l hl', Option.map_some]
        have hshared : ∀ b, G1.φ b = none → b < w.heap.size → φ' b = none ∧ w'.heap[b]? = w.heap[b]? := fun b hb hlt => by
          obtain ⟨e1, e2⟩ := hold b hlt (hnone1 b hb)
          exact ⟨e1.trans hb, e2⟩
        -- the roots as they stand behind the lent ones' return
        have hroots : ∀ r, (∀ l ∈ ls, l.r ≠ r) → ((s.put W).put Wb) (rt r) = (s.put W) (rt r) := p1
        have hidW : ((s.put W).put Wb) (rt id) = .none := by
          rw [hroots id hlid]
          exact (c9 id).1 hid
        -- all roots but the result's
        have hRoot : ∀ (C' : Nat → List Value), (∀ r, r ≠ id → C' r = G1.C r) → ∀ r, r ≠ id → RootOk ⟨φ', C', G1.β⟩ w' r (((s.put W).put Wb) (rt r)) := by
          intro C' hC' r hrid
          by_cases hr : ∃ l ∈ ls, l.r = r
          · obtain ⟨l, hl', rfl⟩ := hr
            obtain ⟨k, x, k', d', dep, box, frz, ver, d0, dn, d'', e1, e2, e3, e4⟩ := p3 l hl'
            rw [e4]
            have hro := g1.roots l.r
            rw [hsW l hl', e1.root] at hro
            refine ⟨?_, fun hbx => ?_⟩
            · simp only
              rw [hC' _ hrid]
              refine rep_back (y := ⟨k, dn⟩) hro.1 e1.ok e1.get e2 (fun q' b hq hnq hs hlt => ?_) ?_
              · rcases ownS_lev hs with ⟨hlv, hs⟩ | ⟨hlv, hs⟩
                · have hz : lendψ G.φ ls b = none := by
                    cases hz : lendψ G.φ ls b with
                    | none => rfl
                    | some z =>
                      obtain ⟨l', hl2, q, f1, _⟩ := hlendG1 b z hz
                      rw [hs] at f1
                      injection f1 with f1
                      injection f1 with _ f1
                      injection f1 with f1 f2
                      have : l' = l := by
                        have h1' := find_root l2 l hl'
                        have h2' := find_root l2 l' hl2
                        rw [← f1, h1'] at h2'
                        exact (Option.some.inj h2').symm
                      subst this
                      rw [f2] at hnq
                      exact absurd ⟨q, by simp⟩ hnq
                  obtain ⟨f1, f2⟩ := hold b hlt hz
                  refine ⟨f2, ?_⟩
                  simp only [ownS, hlv, if_true]
                  exact f1.trans hs
                · obtain ⟨f1, f2⟩ := hshared b hs hlt
                  refine ⟨f2, ?_⟩
                  simp only [ownS, Nat.not_lt.2 hlv, if_false]
                  exact f1
              · rw [List.nil_append]
                have hcc : subC w l.p k' (G1.C l.r) = subC w l.p k' (G.C l.r) := by rw [c1]
                rw [hcc]
                refine (e3.lim).move fun q b hb _ => ?_
                obtain ⟨f1, _, f3⟩ := hb
                rw [List.nil_append] at f1 f3
                have hd1 := e1.deep
                have : lev (l.p ++ q) < dep := by rw [lev_append]; simp only [lev] at f3; omega
                simp only [ownS, this, if_true]
                exact hio l hl' b q f1
            · obtain ⟨⟨cs, T, f1, f2⟩, f3⟩ := hro.2 hbx
              have hlt : G1.β l.r < w.heap.size := (Array.getElem?_eq_some_iff.1 f1).1
              have hz : lendψ G.φ ls (G1.β l.r) = none := by
                cases frz with
                | true => simp only [if_true] at f3; exact hnone1 _ f3
                | false => simp only [Bool.false_eq_true, if_false] at f3; exact ht1 _ _ _ f3
              obtain ⟨k1, k2⟩ := hold _ hlt hz
              simp only
              rw [hC' _ hrid]
              exact ⟨⟨cs, T, k2.trans f1, f2⟩, k1.trans f3⟩
          · have hr' : ∀ l ∈ ls, l.r ≠ r := fun l hl' e => hr ⟨l, hl', e⟩
            rw [hroots r hr']
            refine RootOk.keep (g1.roots r) hshared (hC' r hrid) rfl (fun b f q hb => ?_)
            obtain ⟨k1, k2⟩ := hold b (g1.col.lt b _ hb) (hr1 b f r q hb hr')
            exact ⟨k1.trans hb, k2⟩
        have hCol : ∀ C', ColOk Kp ⟨φ', C', G1.β⟩ w' := by
          intro C'
          have key : ∀ b x, φ' b = some x → (b < w.heap.size ∧ lendψ G.φ ls b = none ∧ G1.φ b = some x) ∨ ∃ z, χ b = some z := by
            intro b x hx
            by_cases hc : b < w.heap.size ∧ lendψ G.φ ls b = none
            · exact .inl ⟨hc.1, hc.2, by rw [← (hold b hc.1 hc.2).1]; exact hx⟩
            · right
              simp only [φ', callφ] at hx
              rw [if_neg hc] at hx
              cases hz : χ b with
              | none => rw [hz] at hx; cases hx
              | some z => exact ⟨z, rfl⟩
          refine ⟨fun b x hx => ?_, fun b x hx => ?_, fun b hx => ?_⟩
          · rcases key b x hx with ⟨h1, h2, h3⟩ | ⟨z, hz⟩
            · rcases g1.col.col b x h3 with e | ⟨k1, cs, T, k2⟩
              · exact .inl e
              · exact .inr ⟨k1, cs, T, (hold b h1 h2).2.trans k2⟩
            · obtain ⟨k1, cs, T, k2⟩ := hpost.col b z hz
              refine .inr ⟨fun hk => ?_, cs, T, k2⟩
              rcases k1 with k1 | k1
              · have := S.inv.base.old b hk; have := S.inv.base.size; omega
              · cases hz2 : lendψ G.φ ls b with
                | none => exact k1 hz2
                | some z2 => exact (hcells b z2 hz2).1 hk
          · rcases key b x hx with ⟨h1, h2, h3⟩ | ⟨z, hz⟩
            · exact Nat.lt_of_lt_of_le h1 hpost.size
            · obtain ⟨k1, cs, T, k2⟩ := hpost.col b z hz
              exact (Array.getElem?_eq_some_iff.1 k2).1
          · have h1 := g1.col.out b hx
            exact ((hold b (g1.col.lt b _ h1) (ht1 b _ _ h1)).1).trans h1
        have hTr : ∀ (C' : Nat → List Value) (s2 : State), (∀ r, r ≠ id → C' r = G1.C r) → (∀ r, r ≠ id → s2 (rt r) = ((s.put W).put Wb) (rt r)) → Tr G1 ⟨φ', C', G1.β⟩ w w' (s.put W) s2 := by
          intro C' s2 hC' hs2
          refine ⟨hshared, fun r k d dep box frz ver hs => ?_, fun r hs => ?_⟩
          · have hrid : r ≠ id := fun e => by subst e; rw [(c9 r).1 hid] at hs; cases hs
            rw [hs2 r hrid]
            by_cases hr : ∃ l ∈ ls, l.r = r
            · obtain ⟨l, hl', rfl⟩ := hr
              obtain ⟨k0, x0, k', d', dep', box', frz', ver', d0, dn, d'', e1, e2, e3, e4⟩ := p3 l hl'
              rw [hsW l hl', e1.root] at hs
              simp only [Cell.root.injEq] at hs
              obtain ⟨rfl, _, rfl, rfl, rfl, rfl⟩ := hs
              exact .inr ⟨_, _, _, _, e4, rfl, fun _ => hC' _ hrid, fun h => h, .inr (Nat.lt_succ_self _)⟩
            · have hr' : ∀ l ∈ ls, l.r ≠ r := fun l hl' e => hr ⟨l, hl', e⟩
              rw [hroots r hr']
              exact .inr ⟨d, dep, frz, ver, hs, rfl, fun _ => hC' _ hrid, fun h => h, .inl ⟨rfl, rfl, hC' _ hrid, fun q b hb => (hold b (g1.col.lt b _ hb) (hr1 b _ r q hb hr')).2, fun q b hlt h => by
                rcases ownS_lev h with ⟨hl, h⟩ | ⟨hl, h⟩
                · simp only [ownS, hl, if_true]; exact ((hold b hlt (hr1 b _ r q h hr')).1).trans h
                · simp only [ownS, Nat.not_lt.2 hl, if_false]; exact (hshared b h hlt).1⟩⟩
          · have hrid : r ≠ id := fun e => by subst e; rw [(c9 r).1 hid] at hs; cases hs
            have hr' : ∀ l ∈ ls, l.r ≠ r := fun l hl' e => by
              obtain ⟨k', d', dep', box', frz', ver', e1⟩ := hls l hl'
              rw [← e, hsW l hl', e1] at hs
              cases hs
            rw [hs2 r hrid, hroots r hr']
            exact hs
        have hBase : Base Kp B0 w' := by
          have hbase := S.inv.base
          refine ⟨hpost.os.trans hbase.os, hpost.tape.trans hbase.tape, hpost.output.trans hbase.output, Nat.le_trans hbase.size hpost.size, fun b hk => ?_, hbase.old⟩
          have hlt : b < w.heap.size := Nat.lt_of_lt_of_le (hbase.old b hk) hbase.size
          refine (hpost.kept b hlt ?_).trans (hbase.kept b hk)
          cases hz : lendψ G.φ ls b with
          | none => rfl
          | some z => exact absurd hk (hcells b z hz).1
        have hsl : ∀ t, ((s.put W).put Wb) (sl t) = (s.put W) (sl t) := p2
        rw [hws, State.put_append, State.put_append]
        -- without a new root
        have plain : ∀ (c : Cell) (dst : Option Nat), o.dst = dst → (∀ d, dst = some d → CellOk ⟨φ', G1.C, G1.β⟩ w' (((s.put W).put Wb).put (slotW dst c)) v c) → Inv Kp B0 n (((s.put W).put Wb).put (slotW dst c)) (a.put o.dst v) w' := by
          intro c dst hd hc
          refine ⟨?_, ?_, hBase, _, g1.step (hTr G1.C _ (fun _ _ => rfl) (fun r _ => ?_)) o.dst v (fun t ht => ?_) (fun d' hd' => ?_) (fun r => ?_) (hCol _)⟩
          · cases o.dst <;> simp [Act.put, S.inv.defers]
          · cases o.dst <;> simp [Act.put, S.inv.size]
          · cases dst with
            | none => rfl
            | some d => simp only [slotW, State.put]; exact State.set_other _ _ (sl_rt d r).symm
          · subst hd
            cases hdd : o.dst with
            | none => simp only [slotW, State.put]; exact hsl t
            | some d =>
              simp only [slotW, State.put]
              rw [State.set_other _ _ (fun e => ht (by rw [hdd, sl_inj e]))]
              exact hsl t
          · refine ⟨by rw [S.inv.size]; exact S.dst d' hd', ?_⟩
            subst hd
            rw [hd'] at hc ⊢
            simp only [slotW, State.put, State.set_same]
            have := hc d' rfl
            simpa only [slotW, State.put] using this
          · have e : (((s.put W).put Wb).put (slotW dst c)) (rt r) = ((s.put W).put Wb) (rt r) := by
              cases dst with
              | none => rfl
              | some d => simp only [slotW, State.put]; exact State.set_other _ _ (sl_rt d r).symm
            rw [e]
            by_cases hr : r = id
            · subst hr; rw [hidW]; trivial
            · exact hRoot G1.C (fun _ _ => rfl) r hr
        -- with a new root
        have rooted : ∀ (d : Nat) (k : Kd) (x : k.den) (dep : Nat) (cs : List Value) (sc : Cell), o.dst = some d → Rep w' (ownS φ' id dep) k [] cs x →
            CellOk ⟨φ', fun r => if r = id then cs else G1.C r, G1.β⟩ w' (((s.put W).put Wb).put [(rt id, .root k x dep false false 0), (sl d, sc)]) v sc →
            Inv Kp B0 n (((s.put W).put Wb).put [(rt id, .root k x dep false false 0), (sl d, sc)]) (a.put o.dst v) w' := by
          intro d k x dep cs sc hd hrep hc
          have hr2 : ∀ r, r ≠ id → (((s.put W).put Wb).put [(rt id, .root k x dep false false 0), (sl d, sc)]) (rt r) = ((s.put W).put Wb) (rt r) := fun r hr => by
            simp only [State.put]
            rw [State.set_other _ _ (sl_rt d r).symm, State.set_other _ _ (fun e => hr (rt_inj e))]
          refine ⟨by rw [hd]; simp [Act.put, S.inv.defers], by rw [hd]; simp [Act.put, S.inv.size], hBase, _, g1.step (hTr (fun r => if r = id then cs else G1.C r) _ (fun r hr => by simp [hr]) hr2) o.dst v (fun t ht => ?_) (fun d' hd' => ?_) (fun r => ?_) (hCol _)⟩
          · simp only [State.put]
            rw [State.set_other _ _ (fun e => ht (by rw [hd, sl_inj e])), State.set_other _ _ (sl_rt t id)]
            exact hsl t
          · refine ⟨by rw [S.inv.size]; exact S.dst d' hd', ?_⟩
            rw [hd] at hd'
            injection hd' with hd'
            subst hd'
            have e : (((s.put W).put Wb).put [(rt id, .root k x dep false false 0), (sl d, sc)]) (sl d) = sc := by simp only [State.put]; exact State.set_same _ _ _
            rw [e]
            exact hc
          · by_cases hr : r = id
            · subst hr
              have e : (((s.put W).put Wb).put [(rt r, .root k x dep false false 0), (sl d, sc)]) (rt r) = .root k x dep false false 0 := by
                simp only [State.put]; rw [State.set_other _ _ (sl_rt d r).symm, State.set_same]
              rw [e]
              refine ⟨?_, fun h => by cases h⟩
              simpa using hrep
            · rw [hr2 r hr]
              exact hRoot _ (fun r hr => by simp [hr]) r hr
        obtain ⟨c, hv, hres⟩ := hpost.res
        -- shared results
        have hsh : g.own = false → ∀ (k : Kd) (q0 : Path) (c0 : List Value) (x : k.den), Rep w' (bif g.own then fun q b => χ b = some (.res q) else fun _ b => χ b = none ∧ ((G.φ b = none ∨ ∃ r ∈ us, ∃ q, G.φ b = some (false, r, q)) ∨ w.heap.size ≤ b ∨ lendψ G.φ ls b ≠ none)) k q0 c0 x →
            g.rs.all Kd.flat = false → Rep w' (shS φ') k [] c0 x := by
          intro ho k q0 c0 x hr hnf
          rw [ho] at hr
          simp only [cond_false] at hr
          refine hr.move fun p b hb hlt => ?_
          obtain ⟨e1, e2⟩ := hb
          by_cases hc : b < w.heap.size ∧ lendψ G.φ ls b = none
          · simp only [shS]
            rw [(hold b hc.1 hc.2).1]
            rcases e2 with e2 | e2 | e2
            · rcases e2 with e2 | ⟨r, hr, q, e2⟩
              · exact c3 b e2
              · exact c6 r (b2 (by rw [ho, hnf]; rfl) r hr) b q e2
            · exact absurd hc.1 (by omega)
            · exact absurd hc.2 e2
          · refine hfreeb b e1 ?_
            by_cases hlt2 : b < w.heap.size
            · exact .inr fun e => hc ⟨hlt2, e⟩
            · exact .inl (by omega)
        have hown : g.own = true → ∀ (k : Kd) (q0 : Path) (c0 : List Value) (x : k.den), Rep w' (bif g.own then fun q b => χ b = some (.res q) else fun _ b => χ b = none ∧ ((G.φ b = none ∨ ∃ r ∈ us, ∃ q, G.φ b = some (false, r, q)) ∨ w.heap.size ≤ b ∨ lendψ G.φ ls b ≠ none)) k q0 c0 x →
            (∀ q, resq g.rs (q0 ++ q) = some q) → Rep w' (ownS φ' id (max k.lev 99)) k [] c0 x := by
          intro ho k q0 c0 x hr hq
          rw [ho] at hr
          simp only [cond_true] at hr
          refine hr.lim.move fun p b hb _ => ?_
          obtain ⟨e1, _, e2⟩ := hb
          have hl2 : lev p < max k.lev 99 := by rw [lev_append] at e2; omega
          rw [List.nil_append]
          simp only [ownS, hl2, if_true]
          rw [hnew b _ e1]
          simp only [ho, if_true, hq, Option.map_some]
        cases hd : o.dst with
        | none =>
          have := plain .none none hd (fun d h => by cases h)
          rw [hd] at this
          simpa [resW, slotW] using this
        | some d0 =>
          have hgoal : ∀ (rs : List Kd) (x : (Kd.tuple rs).den), g.rs = rs → ResVal rs v c →
              Rep w' (bif g.own then fun q b => χ b = some (.res q) else fun _ b => χ b = none ∧ ((G.φ b = none ∨ ∃ r ∈ us, ∃ q, G.φ b = some (false, r, q)) ∨ w.heap.size ≤ b ∨ lendψ G.φ ls b ≠ none)) (Kd.tuple rs) [] c x →
              Inv Kp B0 n (((s.put W).put Wb).put (resW (some d0) id g.own rs x)) (a.put (some d0) v) w' := by
            intro rs x hrs hv hr
            match rs, x, hrs, hv, hr with
            | [], x, hrs, hv, hr =>
              have := plain .none (some d0) hd (fun d h => trivial)
              rw [hd] at this
              simpa [resW, slotW] using this
            | [k], x, hrs, hv, hr =>
              simp only [Kd.tuple, Rep, List.nil_append] at hr
              obtain ⟨hr, _⟩ := hr
              have hv : v = mkVal k (c.take k.size) := hv
              have hflat : g.rs.all Kd.flat = k.flat := by simp [hrs]
              simp only [resW, made]
              have asVal : CellOk ⟨φ', G1.C, G1.β⟩ w' (((s.put W).put Wb).put [(sl d0, .val k x.1)]) v (.val k x.1) → Inv Kp B0 n (((s.put W).put Wb).put [(sl d0, .val k x.1)]) (a.put (some d0) v) w' := by
                intro hc
                have := plain (.val k x.1) (some d0) hd (fun d h => by cases h; exact hc)
                rw [hd] at this
                exact this
              cases hf : k.flat with
              | true =>
                simp only [Bool.true_or, cond_true]
                exact asVal ⟨_, hv, hr.flat w' _ _ hf⟩
              | false =>
                simp only [Bool.false_or]
                cases ho : g.own with
                | false =>
                  simp only [cond_false, Nat.beq_refl, cond_true]
                  exact asVal ⟨_, hv, hsh ho k _ _ _ hr (by rw [hflat, hf])⟩
                | true =>
                  have hrep := hown ho k _ _ _ hr (fun q => by rw [hrs]; rfl)
                  simp only [cond_true]
                  cases hz : Nat.beq (max k.lev 99) 0 with
                  | true =>
                    simp only [cond_true]
                    have hz := Nat.eq_of_beq_eq_true hz
                    omega
                  | false =>
                    simp only [cond_false]
                    have := rooted d0 k x.1 (max k.lev 99) (c.take k.size) (.al id [] 0) hd hrep (by
                      have e' : (((s.put W).put Wb).put [(rt id, Cell.root k x.1 (max k.lev 99) false false 0), (sl d0, .al id [] 0)]) (rt id) = .root k x.1 (max k.lev 99) false false 0 := by
                        simp only [State.put]; rw [State.set_other _ _ (sl_rt d0 id).symm, State.set_same]
                      simp only [CellOk]
                      rw [e']
                      exact ⟨Nat.le_refl _, fun _ => ⟨⟨k, x.1⟩, rfl, trivial, by simp [subC, hv]⟩⟩)
                    rw [hd] at this
                    exact this
            | k :: k' :: ks, x, hrs, hv, hr =>
              have hv : v = .tuple (tupV (k :: k' :: ks) c).toArray := hv
              simp only [resW]
              cases hj : (bif g.own then soleNF (k :: k' :: ks) 0 else none) with
              | some j =>
                rcases bif_some hj with ⟨ho, hj⟩ | ⟨_, hj⟩
                · obtain ⟨m, e0, hm⟩ := soleNF_get hj
                  rw [Nat.zero_add] at e0
                  subst e0
                  obtain ⟨y, hy⟩ := hm x
                  simp only [hy]
                  have hpart := getP_rep hr (fld_ok hy) hy
                  rw [List.nil_append] at hpart
                  have hrep := hown ho y.k _ _ _ hpart (fun q => by rw [hrs]; simp only [resq, hj, stripP_append])
                  rw [cpart_sub w' _ j c x y hy] at hrep
                  have := rooted d0 y.k y.d (max y.k.lev 99) _ (.tap id j (k :: k' :: ks) x) hd hrep (by
                    have e' : (((s.put W).put Wb).put [(rt id, Cell.root y.k y.d (max y.k.lev 99) false false 0), (sl d0, .tap id j (k :: k' :: ks) x)]) (rt id) = .root y.k y.d (max y.k.lev 99) false false 0 := by
                      simp only [State.put]; rw [State.set_other _ _ (sl_rt d0 id).symm, State.set_same]
                    simp only [CellOk]
                    rw [e']
                    exact ⟨c, hv, hr.frep, rfl, by simp, y, hy, rfl⟩)
                  rw [hd] at this
                  exact this
                · cases hj
              | none =>
              have hrep : Rep w' (ownS φ' id (bif g.own then max (Kd.tuple (k :: k' :: ks)).lev 99 else 0)) (Kd.tuple (k :: k' :: ks)) [] c x := by
                cases ho : g.own with
                | true =>
                  simp only [cond_true]
                  rw [ho] at hj
                  simp only [cond_true] at hj
                  exact hown ho _ _ _ _ hr (fun q => by rw [hrs]; simp only [resq, hj, List.nil_append])
                | false =>
                  simp only [cond_false]
                  cases hf : g.rs.all Kd.flat with
                  | true =>
                    refine hr.flat w' _ _ ?_
                    rw [hrs] at hf
                    exact flat_tuple hf
                  | false => exact (hsh ho _ _ _ _ hr hf).move fun q b hb _ => by simpa [ownS, shS] using hb
              have := rooted d0 (Kd.tuple (k :: k' :: ks)) x _ c (.tal id) hd hrep (by
                have e' : (((s.put W).put Wb).put [(rt id, Cell.root (Kd.tuple (k :: k' :: ks)) x (bif g.own then max (Kd.tuple (k :: k' :: ks)).lev 99 else 0) false false 0), (sl d0, .tal id)]) (rt id) = .root (Kd.tuple (k :: k' :: ks)) x (bif g.own then max (Kd.tuple (k :: k' :: ks)).lev 99 else 0) false false 0 := by
                  simp only [State.put]; rw [State.set_other _ _ (sl_rt d0 id).symm, State.set_same]
                simp only [CellOk]
                rw [e']
                exact ⟨rfl, k :: k' :: ks, rfl, by simp [hv]⟩)
              rw [hd] at this
              exact this
          exact hgoal g.rs _ rfl hv hres
    · simp [Rd.out] at h3
theorem zip_eval {as : Array Operand} {ts : Array TypeId} (hlen : as.size = ts.size) : (as.toList.zip ts.toList).map (fun z => a.eval z.1) = as.toList.map a.eval := by
  have e : ∀ (x : List Operand) (y : List TypeId), x.length = y.length → (x.zip y).map (fun z => a.eval z.1) = x.map a.eval := by
    intro x
    induction x with
    | nil => intro y _; rfl
    | cons x xs ih =>
      intro y hy
      cases y with
      | nil => simp at hy
      | cons y ys => simp only [List.zip_cons_cons, List.map_cons, ih ys (by simpa using hy)]
  exact e _ _ (by simpa using hlen)
theorem call_ok (S : Set_ P Γ Kp B0 n G s a w o) (hfs : ∀ f g, Γ.fs f = some g → Contract P f g) {f : FuncId} {as : Array Operand} {ts : Array TypeId} (ho : o.op = .call { callee := .value (.func f), args := as, argTypes := ts }) (h : (opD Γ id o).out s = some ws) (hok : dstOk o ws = true) :
    o.wp P a w (fun a' w' => Inv Kp B0 n (s.put ws) a' w') Q := by
  unfold opD at h
  rw [ho] at h
  simp only [bif_out] at h
  rcases bif_some h with ⟨hlen, h⟩ | ⟨_, h⟩
  · have hlen := Nat.eq_of_beq_eq_true hlen
    simp only [Rd.out_bind, Rd.out_opt, Option.bind_eq_some_iff] at h
    obtain ⟨g, hg, h⟩ := h
    refine call_core S (f := f) (args := (as.toList.map a.eval).toArray) (fun ψ U d out h1 h2 h3 h4 => ?_) h hok
    rw [zip_eval hlen] at h1 ⊢
    refine ⟨?_, hfs f g hg w ψ U _ d out h1 h2 h3 h4⟩
    unfold execOp
    rw [ho]
    have e : as.map a.eval = (as.toList.map a.eval).toArray := by apply Array.ext'; simp
    simp [resolve, Deferred.ofValue, Act.eval, invoke, e]
  · simp [Rd.out] at h

/-- What is held of a function value: the last argument is the value itself. -/
def ContractV (P : Program) (g : FSig) : Prop :=
  ∀ (w : World) (ψ : Nat → Option (Nat × Path)) (U : Nat → Prop) (vs : List Value) (d : (Kd.tuple (g.ps.map (·.1))).den) (out : (Kd.tuple (g.rs ++ (g.ps.filter (·.2)).map (·.1))).den),
    ArgsOk w ψ U 0 g.ps vs d → (∀ b, U b → ψ b = none) → (∀ b z, ψ b = some z → ∃ cs T, w.heap[b]? = some (.cells cs T (0, 0))) → g.F d = some out →
    ∃ f fs cs as, vs = as ++ [.func (.func f) fs cs] ∧ CallsTo P f (fs ++ as.toArray ++ cs) w fun v w' => ∃ χ, Post g ψ U vs w out χ v w'
theorem callV_ok (S : Set_ P Γ Kp B0 n G s a w o) (hcs : ∀ f g, Γ.cs f = some g → ContractV P g) {x : Nat} {as : Array Operand} {ts : Array TypeId} (ho : o.op = .call { callee := .value (.tmp x), args := as, argTypes := ts }) (h : (opD Γ id o).out s = some ws) (hok : dstOk o ws = true) :
    o.wp P a w (fun a' w' => Inv Kp B0 n (s.put ws) a' w') Q := by
  unfold opD at h
  rw [ho] at h
  simp only [bif_out] at h
  rcases bif_some h with ⟨hlen, h⟩ | ⟨_, h⟩
  · have hlen := Nat.eq_of_beq_eq_true hlen
    simp only [Rd.out] at h
    split at h
    · rename_i f _ _ _ _
      simp only [Rd.out_bind, Rd.out_opt, Option.bind_eq_some_iff] at h
      obtain ⟨g, hg, h⟩ := h
      have key : ∀ f' fs cs, a.eval (.tmp x) = .func (.func f') fs cs → (execOp a.eval o).run P w = (callFunc f' (fs ++ (as.toList.map a.eval).toArray ++ cs)).run P w := by
        intro f' fs cs hx
        unfold execOp
        rw [ho]
        have e : as.map a.eval = (as.toList.map a.eval).toArray := by apply Array.ext'; simp
        simp [resolve, Deferred.ofValue, hx, invoke, e]
      by_cases hf : ∃ f' fs cs, a.eval (.tmp x) = .func (.func f') fs cs
      · obtain ⟨f', fs, cs, hx⟩ := hf
        refine call_core S (f := f') (args := fs ++ (as.toList.map a.eval).toArray ++ cs) (fun ψ U d out h1 h2 h3 h4 => ⟨key _ _ _ hx, ?_⟩) h hok
        obtain ⟨f2, fs2, cs2, as2, e1, e2⟩ := hcs f g hg w ψ U _ d out h1 h2 h3 h4
        have e3 := e1
        rw [List.map_append, zip_eval hlen] at e1
        simp only [List.map_cons, List.map_nil, hx] at e1
        obtain ⟨e4, e5⟩ := List.append_inj' e1 rfl
        simp only [List.cons.injEq, Value.func.injEq, Fn.func.injEq, and_true] at e5
        obtain ⟨e5, e6, e7⟩ := e5
        subst e4 e5 e6 e7
        exact e2
      · exfalso
        rename_i hs
        have := S.g.slots x
        rw [hs] at this
        obtain ⟨c, e1, c1, c2, e2, _⟩ := this
        subst e2
        exact hf ⟨_, _, _, by simpa [Act.eval, Array.getD_eq_getD_getElem?, mkVal, Kd.agg] using e1⟩
    · simp [Rd.out] at h
  · simp [Rd.out] at h

/-! ### function values -/
theorem capOne_ok (g : GOk Kp G s a w) {x : Operand} {v : V} (h : (capOne x).out s = some v) : ∃ c, a.eval x = mkVal v.k c ∧ Rep w (shS G.φ) v.k [] c v.d := by
  cases x with
  | tmp x =>
    simp only [capOne, Rd.out] at h
    have hc := g.slots x
    have hev : a.eval (.tmp x) = a.tmps.getD x undef := by simp [Act.eval, Array.getD_eq_getD_getElem?]
    rw [hev]
    split at h
    · rename_i k d hs
      have h := Option.some.inj h
      subst h
      rw [hs] at hc
      obtain ⟨B, O, e1, e2, e3, e4⟩ := hc
      exact ⟨[.pointer (some ⟨B, O, none⟩)], e1, B, O, rfl, e2, e3, e4.move fun p b hb _ => hb⟩
    · rename_i k d hs
      have h := Option.some.inj h
      subst h
      rw [hs] at hc
      exact hc
    · rename_i k d hs
      have h := Option.some.inj h
      subst h
      rw [hs] at hc
      obtain ⟨c, e1, e2⟩ := hc
      exact ⟨c, e1, e2.move fun p b hb _ => hb.elim⟩
    · simp [Rd.out] at h
  | _ => simp [capOne, Rd.out] at h
theorem capsR_ok (g : GOk Kp G s a w) : ∀ {xs : List Operand} {v : V}, (capsR xs).out s = some v → ∀ q, ∃ c, xs.map a.eval = tupK v.k c ∧ Rep w (shS G.φ) v.k q c v.d := by
  intro xs
  induction xs with
  | nil =>
    intro v h q
    have h := Option.some.inj h
    subst h
    exact ⟨[], rfl, rfl⟩
  | cons x xs ih =>
    intro v h q
    simp only [capsR, Rd.out_bind, Option.bind_eq_some_iff, Rd.out, Option.some.injEq] at h
    obtain ⟨y, h1, u, h2, h3⟩ := h
    subst h3
    obtain ⟨c1, e1, r1⟩ := capOne_ok g h1
    obtain ⟨c2, e2, r2⟩ := ih h2 (q ++ [.r])
    have hl := r1.length
    refine ⟨c1 ++ c2, ?_, ?_⟩
    · simp only [List.map_cons, tupK]
      rw [List.take_append_of_le_length (by omega), List.take_of_length_le (by omega), List.drop_append_of_le_length (by omega), List.drop_of_length_le (by omega), e1, e2]
      rfl
    · simp only [Rep]
      rw [List.take_append_of_le_length (by omega), List.take_of_length_le (by omega), List.drop_append_of_le_length (by omega), List.drop_of_length_le (by omega)]
      exact ⟨r1.move fun p b hb _ => hb, by simpa using r2⟩
theorem makeFunc_ok (S : Set_ P Γ Kp B0 n G s a w o) {f : FuncId} {xs ys : Array Operand} (ho : o.op = .makeFunc (.func f) xs ys) (h : (opD Γ id o).out s = some ws) (hok : dstOk o ws = true) :
    o.wp P a w (fun a' w' => Inv Kp B0 n (s.put ws) a' w') Q := by
  unfold opD at h
  rw [ho] at h
  simp only [Rd.out_bind, Option.bind_eq_some_iff, Rd.out, Option.some.injEq] at h
  obtain ⟨u, h1, v, h2, h3⟩ := h
  subst h3
  obtain ⟨c1, e1, r1⟩ := capsR_ok S.g h1 [.l]
  obtain ⟨c2, e2, r2⟩ := capsR_ok S.g h2 [.r]
  refine slot_ok S hok (v := .func (.func f) (xs.map a.eval) (ys.map a.eval)) ?_ ⟨[_], rfl, c1, c2, ?_, r1, r2⟩
  · unfold execOp
    rw [ho]
    simp [Instr.makeFunc]
  · rw [← e1, ← e2]
    congr 2 <;> (apply Array.ext'; simp)
end
end Go.V
