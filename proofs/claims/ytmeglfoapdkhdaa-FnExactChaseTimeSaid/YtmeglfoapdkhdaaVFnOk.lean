/- A function's contract, out of the interpreter's run over its body: the whole. -/
import Derived.Test.YtmeglfoapdkhdaaVEnd
set_option linter.unusedVariables false
set_option linter.unusedSimpArgs false
namespace Go.V

theorem splitT_join : ∀ {a b : List Kd} (x : (Kd.tuple a).den) (y : (Kd.tuple b).den), splitT a b (joinT a b x y) = (x, y) := by
  intro a
  induction a with
  | nil => intro b x y; rfl
  | cons k a ih =>
    intro b x y
    have h := ih x.2 y
    have e : splitT (k :: a) b (joinT (k :: a) b x y) = ((x.1, (splitT a b (joinT a b x.2 y)).1), (splitT a b (joinT a b x.2 y)).2) := rfl
    rw [e, h]
    rfl

/-- What the labels are behind a call. -/
noncomputable def outχ (φ : Nat → Option (Bool × Nat × Path)) (Li : List (Nat × Nat)) (Lr : List (Path × Nat)) (own : Bool) : Nat → Option Lab := fun b =>
  match φ b with
  | some (false, r, q) => match Li.find? (fun x => Nat.beq x.2 r) with
    | some x => some (.io x.1 q)
    | none => if own = true then match Lr.find? (fun x => Nat.beq x.2 r) with
      | some x => some (.res (x.1 ++ q))
      | none => none
      else none
  | _ => none

theorem find_in {α : Type} : ∀ {L : List (α × Nat)}, (L.Pairwise fun x y => x.2 ≠ y.2) → ∀ x ∈ L, L.find? (fun y => Nat.beq y.2 x.2) = some x := by
  intro L
  induction L with
  | nil => intro _ x h; simp at h
  | cons y L ih =>
    intro hp x hx
    rw [List.pairwise_cons] at hp
    rcases List.mem_cons.1 hx with rfl | hx
    · simp
    · have : Nat.beq y.2 x.2 = false := by
        cases hb : Nat.beq y.2 x.2 with
        | false => rfl
        | true => exact absurd (Nat.eq_of_beq_eq_true hb) (hp.1 x hx)
      rw [List.find?_cons, this]
      exact ih hp.2 x hx
theorem find_out {α : Type} {L : List (α × Nat)} {r : Nat} (h : ∀ x ∈ L, x.2 ≠ r) : L.find? (fun y => Nat.beq y.2 r) = none := by
  rw [List.find?_eq_none]
  intro x hx hb
  exact h x hx (Nat.eq_of_beq_eq_true hb)

section
variable {P : Program} {Γ : Ctx} {Kp : Keep} {B0 : World} {n : Nat} {G : Gh} {s : State} {a : Act} {w w' : World} {id : Nat} {o : Oper} {Q : Exit → Act → World → Prop} {ws : Writes} {A : Nat → Option Value}

theorem run_results_of {fn : Func} {tmps : Array Value} {vals : List Value} (h : (fn.results.toList.mapM (resRd tmps)).run P w = .ok vals w) :
    (results fn tmps).run P w = .ok (if h : vals.toArray.size = 1 then vals.toArray[0] else .tuple vals.toArray) w := by
  have e : results fn tmps = (do
    let vs ← fn.results.mapM (resRd tmps)
    pure (if h : vs.size = 1 then vs[0] else .tuple vs)) := by
    unfold results
    congr 1
  rw [e, Array.mapM_eq_mapM_toList]
  simp [h]

theorem fn_ok (E : Env P Γ) (hm : P.follows .mixedOrders = true) {f : FuncId} {fn : Func} {body : Code} (hf : P.funcs[f]? = some fn) (hb : fn.body = some body) (hname : (fn.name == "runtime.NumGoroutine") = false)
    {ps : List (Kd × Bool)} {rs : List Kd} {own : Bool} {F : (Kd.tuple (ps.map (·.1))).den → Option (Kd.tuple (rs ++ (ps.filter (·.2)).map (·.1))).den} (hn : ps.length ≤ fn.ntmps) {q : Nat → Bool} (hq : ∀ d, q d = true → ioAt ps d = false ∧ d < fn.ntmps) (hd : dstsOk q body = true)
    {Pc : Nat → Option Piece} (hP : ∀ A : Nat → Option Value, (∀ d, q d = true → d < fn.ntmps ∧ A d = none) → ∀ id b o, (id, b) ∈ blocksOf body → Pc id = some o → o.ok ∧ PieceOk P fn.ntmps A (.block id b) o)
    (hF : ∀ d r, F d = some r → fnR Γ Pc own ps rs fn.results.toList body d = some r) : Contract P f ⟨ps, rs, own, F⟩ := by
  intro w ψ U vs d out hargs hU hψ hout
  simp only at hargs d out hout
  have hlen := hargs.length
  have hrun := hF d out hout
  have hcall : (callFunc f vs.toArray).run P w = .ok (.enter f vs.toArray) w := by
    simp only [beq_eq_false_iff_ne, ne_eq] at hname
    simp [callFunc, hf, hb, hname]
  unfold CallsTo
  rw [hcall]
  simp only
  have hA : ∀ d, q d = true → d < fn.ntmps ∧ inA ps vs d = none := fun d hd => ⟨(hq d hd).2, by unfold inA; rw [(hq d hd).1]; rfl⟩
  refine calls_of_wp hf hb ?_
  have hstart := start_ok (n := fn.ntmps) hargs hU hψ hn
  unfold fnR at hrun
  refine pi_ok E hm hA body hd (hP _ hA) hstart hrun fun e clk' s' a' w' hi' hk => ?_
  have hend : ∀ (hk : (match ioV s' 0 ps [] with
      | some y => match resV Γ own s' rs fn.results.toList y.2 with
        | some x => some (joinT rs _ x y.1)
        | none => none
      | none => none) = some out), a'.defers = [] ∧ ∃ v, (results fn a'.tmps).run P w' = .ok v w' ∧ ∃ χ, Post ⟨ps, rs, own, F⟩ ψ U vs w out χ v w' := by
    intro hk
    split at hk
    · rename_i y hy
      split at hk
      · rename_i x hx
        have hk := Option.some.inj hk
        obtain ⟨G, g⟩ := hi'.inv.ghost
        obtain ⟨Li, i1, i2, i3, i4, i5⟩ := ioV_ok g (y := y.1) (u' := y.2) hy
        obtain ⟨Lr, vals, c, r1, r2, r3, r4, r5, r6, r7⟩ := resV_ok E.tab g hx []
        refine ⟨hi'.inv.defers, _, run_results_of r3, outχ G.φ Li Lr own, ?_⟩
        have hχio : ∀ x ∈ Li, ∀ b q, G.φ b = some (false, x.2, q) → outχ G.φ Li Lr own b = some (.io x.1 q) := fun x hx b q hb => by
          unfold outχ
          rw [hb]
          simp only [find_in i2 x hx]
        have hdis : ∀ x ∈ Lr, ∀ z ∈ Li, z.2 ≠ x.2 := fun x hx z hz e => r2 x hx ((i4 x.2).2 (.inr ⟨z, hz, e⟩))
        have hχres : own = true → ∀ x ∈ Lr, ∀ b q, G.φ b = some (false, x.2, q) → outχ G.φ Li Lr own b = some (.res (x.1 ++ q)) := fun ho x hx b q hb => by
          unfold outχ
          rw [hb]
          simp only [find_out (hdis x hx), ho, if_true, find_in r1 x hx]
        have hX : ∀ b, G.φ b ≠ some far → U b ∨ w.heap.size ≤ b ∨ ψ b ≠ none := fun b hne => by
          by_cases hlt : b < w.heap.size
          · by_cases hz : ψ b = none
            · left
              apply Classical.byContradiction
              intro hu
              exact hne (g.col.out b ⟨hlt, hz, hu⟩)
            · exact .inr (.inr hz)
          · exact .inr (.inl (by omega))
        have hbase := hi'.inv.base
        have hsplit : splitT rs ((ps.filter (·.2)).map (·.1)) out = (x, y.1) := by rw [← hk]; exact splitT_join x y.1
        refine ⟨hbase.os, hbase.tape, hbase.output, hbase.size, fun b hlt hz => hbase.kept b ⟨hlt, hz⟩, fun b z hz => ?_, ⟨c, ?_, ?_⟩, ?_⟩
        · have : ∃ r q, G.φ b = some (false, r, q) := by
            unfold outχ at hz
            split at hz
            · rename_i r q hb; exact ⟨r, q, hb⟩
            · cases hz
          obtain ⟨r, q, hb⟩ := this
          obtain ⟨k1, k2⟩ := g.mine hb (.inl rfl)
          refine ⟨?_, k2⟩
          by_cases hlt : b < w.heap.size
          · right; intro hz2; exact k1 ⟨hlt, hz2⟩
          · left; omega
        · simp only
          match rs, c, r4, r5, r6 with
          | [], _, _, _, _ => trivial
          | [k], c, r4, r5, r6 =>
            subst r4
            simp [ResVal, tupV]
          | k :: k' :: ks, c, r4, r5, r6 =>
            subst r4
            simp [ResVal, tupV]
        · simp only
          rw [hsplit]
          simp only
          refine r7 _ (fun ho z hz b q hb => ?_) (fun ho q b hb => ?_)
          · have := hχres ho z hz b q hb
            simp only [ho, cond_true] at this ⊢
            exact this
          · rw [ho]
            simp only [cond_false]
            rcases hb with hb | ⟨r, q', hr, hb⟩
            · refine ⟨by unfold outχ; rw [hb], hX b (by rw [hb]; simp)⟩
            · refine ⟨?_, hX b (by rw [hb]; simp [far])⟩
              unfold outχ
              rw [hb]
              simp only [find_out fun z hz e => hr ((i4 r).2 (.inr ⟨z, hz, e⟩)), ho, Bool.false_eq_true, if_false]
        · simp only
          rw [hsplit]
          simp only
          refine i5 vs hlen (fun j v hio hj => ?_) _ hχio
          rw [Nat.zero_add]
          exact hi'.pin j v (by unfold inA; rw [hio]; exact hj)
      · cases hk
    · cases hk
  cases e with
  | normal =>
    obtain ⟨h1, v, h2, h3⟩ := hend hk
    exact ⟨h1, v, h2, h3⟩
  | ret =>
    obtain ⟨h1, v, h2, h3⟩ := hend hk
    exact ⟨h1, v, h2, h3⟩
  | exit j => cases hk
  | goto l => cases hk

/-- A contract for what is defined less often. -/
theorem Contract.less {f : FuncId} {ps : List (Kd × Bool)} {rs : List Kd} {own : Bool} {F : (Kd.tuple (ps.map (·.1))).den → Option (Kd.tuple (rs ++ (ps.filter (·.2)).map (·.1))).den} {ι : Type} (Fn : ι → (Kd.tuple (ps.map (·.1))).den → Option (Kd.tuple (rs ++ (ps.filter (·.2)).map (·.1))).den)
    (h : ∀ i, Contract P f ⟨ps, rs, own, Fn i⟩) (hF : ∀ d r, F d = some r → ∃ i, Fn i d = some r) : Contract P f ⟨ps, rs, own, F⟩ := by
  intro w ψ U vs d out hargs hU hψ hout
  obtain ⟨i, hi⟩ := hF d out hout
  have := h i w ψ U vs d out hargs hU hψ hi
  unfold CallsTo at this ⊢
  cases hr : (callFunc f vs.toArray).run P w with
  | ok x w1 =>
    rw [hr] at this
    cases x with
    | value v => obtain ⟨χ, p⟩ := this; exact ⟨χ, p.os, p.tape, p.output, p.size, p.kept, p.col, p.res, p.io⟩
    | enter f' args' =>
      refine Calls.mono this fun e w'' he => ?_
      cases e with
      | returned v => obtain ⟨χ, p⟩ := he; exact ⟨χ, p.os, p.tape, p.output, p.size, p.kept, p.col, p.res, p.io⟩
      | panicked chain => exact he.elim
      | outgrown => exact he.elim
    | row row args' => exact Rows.mono this fun v w'' ⟨χ, p⟩ => ⟨χ, p.os, p.tape, p.output, p.size, p.kept, p.col, p.res, p.io⟩
    | _ => exact this.elim
  | halt x w1 => rw [hr] at this; exact this.elim
end
end Go.V
