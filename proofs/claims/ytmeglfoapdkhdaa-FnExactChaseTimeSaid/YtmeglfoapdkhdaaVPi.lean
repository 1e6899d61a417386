/- The interpreter's soundness: code, loops. -/
import Derived.Test.YtmeglfoapdkhdaaVNorm
import Derived.LoopN
set_option linter.unusedVariables false
set_option linter.unusedSimpArgs false
namespace Go.V

def Ex.to : Ex → Exit
  | .normal => .normal
  | .exit id => .exit id
  | .goto l => .goto l
  | .ret => .ret
def Outs.at : (o : Outs) → o.den → Ex × State
  | [], x => nomatch x
  | (e, f) :: r, x => match x with
    | .inl d => (e, f.state d)
    | .inr d => Outs.at r d
theorem Outs.give_at {R : Type} {K : Ex → State → Option R} : ∀ {o : Outs} {x : o.den}, Outs.give K o x = K (Outs.at o x).1 (Outs.at o x).2 := by
  intro o
  induction o with
  | nil => intro x; exact nomatch x
  | cons p o ih =>
    intro x
    obtain ⟨e, f⟩ := p
    cases x with
    | inl d => rfl
    | inr d => exact ih
def Outs.ok (o : Outs) : Prop := ∀ x ∈ o, (x.2.map (·.1)).Nodup
structure Piece.ok (p : Piece) : Prop where
  head : (p.head.map (·.1)).Nodup
  outs : Outs.ok p.outs

section
variable {P : Program} {Γ : Ctx} {Kp : Keep} {B0 : World} {n : Nat} {G : Gh} {s : State} {a : Act} {w w' : World} {id : Nat} {o : Oper} {Q : Exit → Act → World → Prop} {ws : Writes} {A : Nat → Option Value}

theorem take_ok {e : Ex} : ∀ {o : Outs} {x : o.den}, Outs.ok o → Outs.take s e o = some x → InvP Kp B0 n A s a w → (Outs.at o x).1 = e ∧ InvP Kp B0 n A (Outs.at o x).2 a w := by
  intro o
  induction o with
  | nil => intro x; exact nomatch x
  | cons p o ih =>
    intro x ho h hi
    obtain ⟨e', f⟩ := p
    simp only [Outs.take] at h
    rcases bif_some h with ⟨he, h1⟩ | ⟨_, h1⟩
    · rw [Option.map_eq_some_iff] at h1
      obtain ⟨d, h2, rfl⟩ := h1
      exact ⟨(of_decide_eq_true he).symm, normP_ok (ho (e', f) (by simp)) h2 hi⟩
    · rw [Option.map_eq_some_iff] at h1
      obtain ⟨d, h2, rfl⟩ := h1
      exact ih (fun y hy => ho y (by simp [hy])) h2 hi

/-- What is told of a piece of code is so. -/
def PieceOk (P : Program) (n : Nat) (A : Nat → Option Value) (c : Code) (p : Piece) : Prop :=
  ∀ (Kp : Keep) (B0 : World) (d : p.head.den) (x : p.outs.den) (a : Act) (w : World), p.run d = some x → InvP Kp B0 n A (p.head.state d) a w →
    c.wp P (fun e a' w' => e = (Outs.at p.outs x).1.to ∧ InvP Kp B0 n A (Outs.at p.outs x).2 a' w') a w

/-- The blocks of a code. -/
def blocksOf : Code → List (Nat × Code)
  | .seq a b | .cond _ a b => blocksOf a ++ blocksOf b
  | .block j b => (j, b) :: blocksOf b
  | .scope b | .loop b => blocksOf b
  | _ => []
/-- The slots that a code writes. -/
def dstsOk (q : Nat → Bool) : Code → Bool
  | .seq a b | .cond _ a b => dstsOk q a && dstsOk q b
  | .block _ b | .scope b | .loop b => dstsOk q b
  | .region _ ops _ => ops.toList.all fun o => match o.dst with | some d => q d | none => true
  | _ => true

theorem both_some {R : Type} {x y : Option R} {r : R} (h : both x y = some r) : x = some r ∧ y = some r := by
  unfold both at h
  split at h
  · rename_i e
    subst e
    exact ⟨h, h⟩
  · cases h
theorem pi_ok (E : Env P Γ) (hm : P.follows .mixedOrders = true) {Pc : Nat → Option Piece} {q : Nat → Bool} (hq : ∀ d, q d = true → d < n ∧ A d = none) : ∀ (c : Code) {R : Type} {clk : Nat} {s : State} {a : Act} {w : World} {K : Ex → Nat → State → Option R} {r : R} {Q : Exit → Act → World → Prop},
    dstsOk q c = true → (∀ id b o, (id, b) ∈ blocksOf c → Pc id = some o → o.ok ∧ PieceOk P n A (.block id b) o) → InvP Kp B0 n A s a w → pi Γ Pc c clk s K = some r →
    (∀ e clk' s' a' w', InvP Kp B0 n A s' a' w' → K e clk' s' = some r → Q e.to a' w') → c.wp P Q a w := by
  intro c
  induction c with
  | skip =>
    intro R clk s a w K r Q _ _ hi h hK
    exact wp_skip (hK .normal clk s a w hi (by simpa [pi] using h))
  | region rid ops draw =>
    intro R clk s a w K r Q hd _ hi h hK
    have hdst : ∀ o ∈ ops.toList, ∀ d, o.dst = some d → d < n ∧ A d = none := by
      intro o ho d hod
      simp only [dstsOk, List.all_eq_true] at hd
      have := hd o ho
      rw [hod] at this
      exact hq d this
    simp only [pi] at h
    cases draw with
    | false =>
      have := wp_plain (P := P) (Q := Q) E hdst ops.toList [] (by simp) hi (by simpa using h) (fun s' a' w' hi' hk => hK .normal _ s' a' w' hi' hk)
      exact wp_region (by simpa [List.range_eq_range'] using this)
    | true => exact wp_draw E hm hdst hi h fun s' a' w' hi' hk => hK .normal _ s' a' w' hi' hk
  | seq x y ihx ihy =>
    intro R clk s a w K r Q hd hP hi h hK
    simp only [pi] at h
    simp only [dstsOk, Bool.and_eq_true] at hd
    refine wp_seq (ihx hd.1 (fun id b o hb => hP id b o (by simp [blocksOf, hb])) hi h fun e clk' s' a' w' hi' hk => ?_)
    cases e with
    | normal => exact ihy hd.2 (fun id b o hb => hP id b o (by simp [blocksOf, hb])) hi' hk hK
    | exit id => exact hK _ _ _ _ _ hi' hk
    | goto l => exact hK _ _ _ _ _ hi' hk
    | ret => exact hK _ _ _ _ _ hi' hk
  | cond c x y ihx ihy =>
    intro R clk s a w K r Q hd hP hi h hK
    simp only [dstsOk, Bool.and_eq_true] at hd
    have hx := fun {clk : Nat} (hh : pi Γ Pc x clk s K = some r) => ihx (Q := Q) hd.1 (fun id b o hb => hP id b o (by simp [blocksOf, hb])) hi hh hK
    have hy := fun {clk : Nat} (hh : pi Γ Pc y clk s K = some r) => ihy (Q := Q) hd.2 (fun id b o hb => hP id b o (by simp [blocksOf, hb])) hi hh hK
    cases c with
    | tmp t =>
      simp only [pi] at h
      split at h
      · rename_i z hz
        obtain ⟨G, g⟩ := hi.inv.ghost
        have hv := g.slots t
        rw [hz] at hv
        obtain ⟨c, e1, e2⟩ := hv
        simp only [Rep] at e2
        subst e2
        have hev : a.eval (.tmp t) = .bool z := by
          have e1 : a.tmps.getD t undef = .bool z := e1
          simpa [Act.eval, Array.getD_eq_getD_getElem?] using e1
        cases z with
        | true =>
          rw [set_self _ _ _ hz] at h
          simp only [if_true] at h
          exact wp_cond_true hev (hx h)
        | false =>
          rw [set_self _ _ _ hz] at h
          simp only [Bool.false_eq_true, if_false] at h
          exact wp_cond_false hev (hy h)
      · rename_i z hz
        obtain ⟨G, g⟩ := hi.inv.ghost
        have hv := g.slots t
        rw [hz] at hv
        obtain ⟨z', e1, e2⟩ := hv
        have hev : a.eval (.tmp t) = .bool z' := by
          simpa [Act.eval, Array.getD_eq_getD_getElem?] using e1
        cases z with
        | true =>
          simp only [if_true] at h
          obtain ⟨h1, h2⟩ := both_some h
          cases z' with
          | true => exact wp_cond_true hev (hx h1)
          | false => exact wp_cond_false hev (hy h2)
        | false =>
          simp only [Bool.false_eq_true, if_false] at h
          cases z' with
          | true => exact absurd (e2 rfl) (by simp)
          | false => exact wp_cond_false hev (hy h)
      · cases h
    | const v =>
      cases v with
      | bool z =>
        simp only [pi] at h
        cases z with
        | true => exact wp_cond_true rfl (hx h)
        | false => exact wp_cond_false rfl (hy h)
      | _ => simp [pi] at h
    | _ => simp [pi] at h
  | block id b ih =>
    intro R clk s a w K r Q hd hP hi h hK
    simp only [pi] at h
    cases hp : Pc id with
    | some o =>
      rw [hp] at h
      simp only at h
      split at h
      · rename_i d hn
        rw [Option.bind_eq_some_iff] at h
        obtain ⟨x, h1, h2⟩ := h
        obtain ⟨k1, k2⟩ := hP id b o (by simp [blocksOf]) hp
        have hi' := normP_ok k1.head hn hi
        refine wp_mono (k2 Kp B0 d x a w h1 hi') fun e a' w' hh => ?_
        obtain ⟨rfl, hi2⟩ := hh
        rw [Outs.give_at] at h2
        exact hK _ _ _ _ _ hi2 h2
      · cases h
    | none =>
      rw [hp] at h
      simp only at h
      refine wp_block (ih hd (fun id' b' o hb => hP id' b' o (by simp [blocksOf, hb])) hi h fun e clk' s' a' w' hi' hk => ?_)
      cases e with
      | exit j =>
        simp only [Ex.to, Exit.inBlock]
        rcases bif_some hk with ⟨e1, hk⟩ | ⟨e1, hk⟩
        · rw [if_pos (Nat.eq_of_beq_eq_true e1)]
          exact hK _ _ _ _ _ hi' hk
        · rw [if_neg (fun e => by subst e; rw [Nat.beq_refl] at e1; cases e1)]
          exact hK _ _ _ _ _ hi' hk
      | normal => exact hK _ _ _ _ _ hi' hk
      | goto l => exact hK _ _ _ _ _ hi' hk
      | ret => exact hK _ _ _ _ _ hi' hk
  | exit id =>
    intro R clk s a w K r Q _ _ hi h hK
    exact wp_exit (hK (.exit id) clk s a w hi (by simpa [pi] using h))
  | label l =>
    intro R clk s a w K r Q _ _ hi h hK
    exact wp_label (hK .normal clk s a w hi (by simpa [pi] using h))
  | goto l =>
    intro R clk s a w K r Q _ _ hi h hK
    exact wp_goto (hK (.goto l) clk s a w hi (by simpa [pi] using h))
  | ret =>
    intro R clk s a w K r Q _ _ hi h hK
    exact wp_ret (hK .ret clk s a w hi (by simpa [pi] using h))
  | _ => intro R clk s a w K r Q _ _ _ h _; simp [pi] at h

/-- A loop, round after round. -/
theorem loop_ok (E : Env P Γ) (hm : P.follows .mixedOrders = true) {Pc : Nat → Option Piece} {q : Nat → Bool} (hq : ∀ d, q d = true → d < n ∧ A d = none) {id : Nat} {head : Form} {outs : Outs} {body : Code} (hok : (head.map (·.1)).Nodup ∧ Outs.ok outs) (hd : dstsOk q body = true)
    (hP : ∀ id b o, (id, b) ∈ blocksOf body → Pc id = some o → o.ok ∧ PieceOk P n A (.block id b) o) {L : Nat → head.den → Option outs.den} (h0 : ∀ d, L 0 d = none) (hL : ∀ m d, L (m + 1) d = roundR Γ Pc id head outs body (L m) d) :
    ∀ m, PieceOk P n A (.block id (.loop body)) ⟨head, outs, L m⟩ := by
  intro m Kp B0 d x a w hrun hi
  refine wp_block (wp_loop_rounds m ?_)
  simp only at hrun hi x d
  revert hrun hi
  generalize hQ : Exit.inBlock id (fun e a' w' => e = (Outs.at outs x).1.to ∧ InvP Kp B0 n A (Outs.at outs x).2 a' w') = Q
  have hfin : ∀ (e : Ex) (s : State) (a' : Act) (w' : World), InvP Kp B0 n A s a' w' → (match e with
      | .normal => none
      | .exit j => bif Nat.beq j id then Outs.take s .normal outs else Outs.take s (.exit j) outs
      | e => Outs.take s e outs) = some x → Q e.to a' w' := by
    intro e s a' w' hi' hk
    rw [← hQ]
    cases e with
    | normal => cases hk
    | exit j =>
      simp only [Ex.to, Exit.inBlock]
      rcases bif_some hk with ⟨e1, hk⟩ | ⟨e1, hk⟩
      · rw [if_pos (Nat.eq_of_beq_eq_true e1)]
        obtain ⟨k1, k2⟩ := take_ok hok.2 hk hi'
        exact ⟨by simp [k1, Ex.to], k2⟩
      · rw [if_neg (fun e => by subst e; rw [Nat.beq_refl] at e1; cases e1)]
        obtain ⟨k1, k2⟩ := take_ok hok.2 hk hi'
        exact ⟨by simp [k1, Ex.to], k2⟩
    | goto l =>
      obtain ⟨k1, k2⟩ := take_ok hok.2 hk hi'
      exact ⟨by rw [k1], k2⟩
    | ret =>
      obtain ⟨k1, k2⟩ := take_ok hok.2 hk hi'
      exact ⟨by rw [k1], k2⟩
  clear hQ
  induction m generalizing d a w with
  | zero => intro h; rw [h0] at h; cases h
  | succ m ih =>
    intro hrun hi
    rw [hL] at hrun
    rw [rounds_succ]
    refine pi_ok E hm hq body hd hP hi hrun fun e clk' s' a' w' hi' hk => ?_
    cases e with
    | normal =>
      simp only [Option.bind_eq_some_iff] at hk
      obtain ⟨d', k1, k2⟩ := hk
      exact ih d' a' w' k2 (normP_ok hok.1 k1 hi')
    | exit j => exact hfin (.exit j) s' a' w' hi' hk
    | goto l => exact hfin (.goto l) s' a' w' hi' hk
    | ret => exact hfin .ret s' a' w' hi' hk
end
end Go.V
