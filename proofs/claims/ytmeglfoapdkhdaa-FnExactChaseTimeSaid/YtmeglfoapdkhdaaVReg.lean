/- Regions' soundness: in the text's order, and in any order that the edges allow. -/
import Derived.Test.YtmeglfoapdkhdaaVCall2
import Derived.Orders
set_option linter.unusedVariables false
set_option linter.unusedSimpArgs false
namespace Go.V

/-- What is held of the program. -/
structure Env (P : Program) (Γ : Ctx) : Prop where
  tab : TabOk P Γ.tk Γ.ar
  fs : ∀ f g, Γ.fs f = some g → Contract P f g
  cs : ∀ f g, Γ.cs f = some g → ContractV P g

section
variable {P : Program} {Γ : Ctx} {Kp : Keep} {B0 : World} {n : Nat} {G : Gh} {s : State} {a : Act} {w w' : World} {id : Nat} {o : Oper} {Q : Exit → Act → World → Prop} {ws : Writes}

theorem op_ok (E : Env P Γ) (hi : Inv Kp B0 n s a w) (hdst : ∀ d, o.dst = some d → d < n) (h : (opD Γ id o).out s = some ws) (hok : dstOk o ws = true) :
    o.wp P a w (fun a' w' => Inv Kp B0 n (s.put ws) a' w') Q := by
  obtain ⟨G, g⟩ := hi.ghost
  have S : Set_ P Γ Kp B0 n G s a w o := ⟨E.tab, hi, g, hdst⟩
  cases hop : o.op with
  | move x =>
    cases hdm : Γ.dm (o.dst.getD 4095) with
    | false => exact move_ok S (.inl hop) hdm h hok
    | true => exact move_dm_ok S (.inl hop) hdm h hok
  | assign x =>
    cases hdm : Γ.dm (o.dst.getD 4095) with
    | false => exact move_ok S (.inr hop) hdm h hok
    | true => exact move_dm_ok S (.inr hop) hdm h hok
  | pick c x y => exact pick_ok S hop h hok
  | binOp op t x y t' => exact bin_ok S hop h hok
  | unOp op t x => exact un_ok S hop h hok
  | convert t t' x => exact convert_ok S hop h hok
  | alloc t => exact alloc_ok S hop h hok
  | box t x => exact box_ok S hop h hok
  | load t x => exact load_ok S hop h hok
  | store t x y => exact store_ok S hop h hok
  | fieldAddr t x j => exact fieldAddr_ok S hop h hok
  | field t x j => exact field_ok S hop h hok
  | indexAddr t x y => exact indexAddr_ok S hop h hok
  | index t x y => exact index_ok S hop h hok
  | slice t x lo hi mx =>
    cases mx with
    | none => exact slice_ok S hop h hok
    | some m => unfold opD at h; rw [hop] at h; simp [Rd.out] at h
  | makeSlice t x y => exact makeSlice_ok S hop h hok
  | build t ps => exact build_ok S hop h hok
  | buildSlice t m ps => exact buildSlice_ok S hop h hok
  | extract x j => exact extract_ok S hop h hok
  | makeFunc f xs ys =>
    cases f with
    | func f => exact makeFunc_ok S hop h hok
    | _ => unfold opD at h; rw [hop] at h; simp [Rd.out] at h
  | call c =>
    obtain ⟨callee, args, ts⟩ := c
    cases callee with
    | builtin b =>
      cases b with
      | len => exact len_ok S hop h hok
      | append => exact append_ok S hop h hok
      | max => exact max_ok S hop h hok
      | _ => unfold opD at h; rw [hop] at h; simp [Rd.out] at h
    | invoke r m => unfold opD at h; rw [hop] at h; simp [Rd.out] at h
    | value x =>
      cases x with
      | func f => exact call_ok S E.fs hop h hok
      | tmp x => exact callV_ok S E.cs hop h hok
      | _ => unfold opD at h; rw [hop] at h; simp [Rd.out] at h
  | _ => unfold opD at h; rw [hop] at h; simp [Rd.out] at h

/-- The invariant, with the temporaries that stay. -/
structure InvP (Kp : Keep) (B0 : World) (n : Nat) (A : Nat → Option Value) (s : State) (a : Act) (w : World) : Prop where
  inv : Inv Kp B0 n s a w
  pin : ∀ t v, A t = some v → a.tmps.getD t undef = v
theorem pin_put {A : Nat → Option Value} {dst : Option Nat} {v : Value} (h : ∀ t v, A t = some v → a.tmps.getD t undef = v) (hd : ∀ d, dst = some d → A d = none) : ∀ t u, A t = some u → (a.put dst v).tmps.getD t undef = u := by
  intro t u ht
  rw [getD_put]
  split
  · rename_i hc
    have := hd t hc.1
    rw [ht] at this
    cases this
  · exact h t u ht
theorem wp_pin {A : Nat → Option Value} {K : Act → World → Prop} (h : ∀ t v, A t = some v → a.tmps.getD t undef = v) (hd : ∀ d, o.dst = some d → A d = none) (hw : o.wp P a w K Q) :
    o.wp P a w (fun a' w' => K a' w' ∧ ∀ t v, A t = some v → a'.tmps.getD t undef = v) Q := by
  unfold Oper.wp at *
  generalize (execOp a.eval o).run P w = r at *
  cases r with
  | ok x w1 =>
    cases x <;> simp only [Oper.upon] at hw ⊢
    case value v => exact ⟨hw, pin_put h hd⟩
    case skip => exact ⟨hw, pin_put h hd⟩
    case defer d => exact ⟨hw, pin_put (a := { a with defers := d :: a.defers }) h hd⟩
    case enter f args =>
      refine Calls.mono hw fun e w'' he => ?_
      cases e with
      | returned u => exact ⟨he, pin_put h hd⟩
      | panicked c => exact he
      | outgrown => exact he
    case row row args => exact Rows.mono hw fun u w'' he => ⟨he, pin_put h hd⟩
  | halt x w1 => cases x <;> simp only [Oper.upon] at hw ⊢ <;> exact hw

/-! ### One step -/
def skipW (o : Oper) : Writes := match o.dst with | some d => [(sl d, .undf)] | none => []
/-- What an operation of a region does from a state. -/
def Does (Γ : Ctx) (ops : Array Oper) (clk : Nat) (o : Oper) (ws : Writes) (s : State) : Prop :=
  match o.guard with
  | none => (opD Γ (clk * 4096 + dstOf o) o).out s = some ws ∧ dstOk o ws = true
  | some (g, want) => ∃ t, (ops[g]?).bind Oper.dst = some t ∧ ((s (sl t) = .undf ∧ ws = skipW o) ∨ ∃ z, s (sl t) = .val .bool z ∧ if z = want then (opD Γ (clk * 4096 + dstOf o) o).out s = some ws ∧ dstOk o ws = true else ws = skipW o)

theorem Inv.skip (hi : Inv Kp B0 n s a w) (hdst : ∀ d, o.dst = some d → d < n) : Inv Kp B0 n (s.put (skipW o)) (a.put o.dst undef) w := by
  obtain ⟨G, g⟩ := hi.ghost
  cases hd : o.dst with
  | none => simpa [skipW, hd, Act.put, State.put] using hi
  | some d =>
    simp only [skipW, hd]
    exact hi.slot g (hdst d hd) rfl

theorem does_ok {ops : Array Oper} {clk i : Nat} (E : Env P Γ) {A : Nat → Option Value} (hi : InvP Kp B0 n A s a w) (hdst : ∀ d, o.dst = some d → d < n ∧ A d = none) (ho : ops[i]? = some o) (h : Does Γ ops clk o ws s) {K : Act → World → Prop}
    (hK : ∀ a' w', InvP Kp B0 n A (s.put ws) a' w' → K a' w') : wpOp P ops Q i K a w := by
  unfold wpOp
  rw [ho]
  simp only
  unfold Does at h
  cases hg : o.guard with
  | none =>
    rw [hg] at h
    simp only [Region.wanted, hg, if_true]
    exact .inl (Oper.wp_mono (fun a' w' hh => hK a' w' ⟨hh.1, hh.2⟩) (wp_pin hi.pin (fun d hd => (hdst d hd).2) (op_ok E hi.inv (fun d hd => (hdst d hd).1) h.1 h.2)))
  | some gw =>
    obtain ⟨gd, want⟩ := gw
    rw [hg] at h
    obtain ⟨t, h1, h⟩ := h
    obtain ⟨G, g⟩ := hi.inv.ghost
    have hv := g.slots t
    rcases h with ⟨h2, h3⟩ | ⟨z, h2, h3⟩
    · rw [h2] at hv
      have hv : a.tmps.getD t undef = undef := hv
      have hy : yielded ops a.tmps gd = none := by
        unfold yielded
        rw [h1]
        simp only [Option.bind_some]
        rw [Array.getD_eq_getD_getElem?] at hv
        cases hh : a.tmps[t]? with
        | none => rfl
        | some v => rw [hh] at hv; simp only [Option.getD_some] at hv; subst hv; rfl
      simp only [Region.wanted, hg, hy]
      subst h3
      rw [if_neg (by simp)]
      exact hK _ _ ⟨hi.inv.skip (fun d hd => (hdst d hd).1), pin_put hi.pin fun d hd => (hdst d hd).2⟩
    rw [h2] at hv
    obtain ⟨c, e1, e2⟩ := hv
    simp only [Rep] at e2
    subst e2
    have e1 : a.tmps.getD t undef = .bool z := e1
    have hlt : a.tmps[t]? = some (.bool z) := by
      rw [Array.getD_eq_getD_getElem?] at e1
      cases hh : a.tmps[t]? with
      | none => rw [hh] at e1; simp [undef] at e1
      | some v => rw [hh] at e1; simp only [Option.getD_some] at e1; rw [e1]
    have hy : yielded ops a.tmps gd = some z := by
      unfold yielded
      rw [h1]
      simp [hlt]
    simp only [Region.wanted, hg, hy]
    by_cases hz : z = want
    · subst hz
      simp only [beq_self_eq_true, if_true] at h3 ⊢
      exact .inl (Oper.wp_mono (fun a' w' hh => hK a' w' ⟨hh.1, hh.2⟩) (wp_pin hi.pin (fun d hd => (hdst d hd).2) (op_ok E hi.inv (fun d hd => (hdst d hd).1) h3.1 h3.2)))
    · rw [if_neg hz] at h3
      subst h3
      rw [if_neg (by simpa using hz)]
      exact hK _ _ ⟨hi.inv.skip (fun d hd => (hdst d hd).1), pin_put hi.pin fun d hd => (hdst d hd).2⟩

theorem Rd.runK_tr {α R : Type} (m : Rd α) (s : State) (K : α → List Nat → Option R) : ∀ (tr : List Nat) (r : R), m.runK s tr K = some r → ∃ a tr', K a tr' = some r ∧ (∀ l ∈ tr, l ∈ tr') ∧ ∀ s', (∀ l ∈ tr', s' l = s l) → m.out s' = some a := by
  induction m with
  | ret a => intro tr r h; exact ⟨a, tr, h, fun _ h => h, fun _ _ => rfl⟩
  | rd l k ih =>
    intro tr r h
    obtain ⟨a, tr', h1, h2, h3⟩ := ih _ _ r h
    refine ⟨a, tr', h1, fun x hx => h2 x (by simp [hx]), fun s' hs' => ?_⟩
    simp only [Rd.out]
    rw [hs' l (h2 l (by simp))]
    exact h3 s' hs'
  | ite c a b iha ihb =>
    intro tr r h
    simp only [Rd.runK] at h
    simp only [Rd.out]
    split at h
    · rename_i hc; simp only [hc, if_true]; exact iha tr r h
    · rename_i hc; simp only [hc]; exact ihb tr r h
  | call o k ih =>
    intro tr r h
    simp only [Rd.runK, Option.bind_eq_some_iff] at h
    obtain ⟨b, h1, h2⟩ := h
    obtain ⟨a, tr', h3, h4, h5⟩ := ih b tr r h2
    exact ⟨a, tr', h3, h4, fun s' hs' => by simp only [Rd.out, h1, Option.bind_some]; exact h5 s' hs'⟩
  | fail => intro tr r h; simp [Rd.runK] at h

theorem set_self (s : State) (l : Nat) (c : Cell) (h : s l = c) : s.set l c = s := by
  funext x
  by_cases e : x = l
  · subst e; rw [State.set_same, h]
  · rw [State.set_other _ _ e]

/-- One operation taken off. -/
theorem opsK_step {R : Type} {ops : Array Oper} {draw : Bool} {clk j : Nat} {o : Oper} {rest : List Oper} {bs : List Nat} {log : Log} {K : State → Option R} {r : R} (h : opsK Γ ops.toList draw clk (o :: rest) j bs s log K = some r) :
    ∃ tr ws, (∀ s', (∀ l ∈ tr, s' l = s l) → Does Γ ops clk o ws s') ∧
      ((draw = false ∧ opsK Γ ops.toList draw clk rest (j + 1) [] (s.put ws) [] K = some r) ∨
       (draw = true ∧ edgesOk j o = true ∧ ∃ log', fits (beforeOf bs o) j log tr ws = some log' ∧ opsK Γ ops.toList draw clk rest (j + 1) (bs ++ [beforeOf bs o]) (s.put ws) log' K = some r)) := by
  have hnext : ∀ (tr : List Nat) (ws : Writes), (bif draw then
        bif edgesOk j o then
        match fits (bif draw then beforeOf bs o else 0) j log tr ws with
        | some log' => opsK Γ ops.toList draw clk rest (j + 1) (bs ++ [bif draw then beforeOf bs o else 0]) (s.put ws) log' K
        | none => none
        else none
      else opsK Γ ops.toList draw clk rest (j + 1) [] (s.put ws) [] K) = some r →
      ((draw = false ∧ opsK Γ ops.toList draw clk rest (j + 1) [] (s.put ws) [] K = some r) ∨
       (draw = true ∧ edgesOk j o = true ∧ ∃ log', fits (beforeOf bs o) j log tr ws = some log' ∧ opsK Γ ops.toList draw clk rest (j + 1) (bs ++ [beforeOf bs o]) (s.put ws) log' K = some r)) := by
    intro tr ws h
    cases draw with
    | false => exact .inl ⟨rfl, h⟩
    | true =>
      simp only [cond_true] at h
      rcases bif_some h with ⟨h1, h2⟩ | ⟨_, h2⟩
      · split at h2
        · rename_i log' hl
          exact .inr ⟨rfl, h1, log', hl, h2⟩
        · cases h2
      · cases h2
  unfold opsK at h
  simp only at h
  cases hg : o.guard with
  | none =>
    rw [hg] at h
    simp only at h
    obtain ⟨ws, tr, h1, _, h2⟩ := Rd.runK_tr _ _ _ _ _ h
    rcases bif_some h1 with ⟨h3, h4⟩ | ⟨_, h4⟩
    · exact ⟨tr, ws, fun s' hs' => by unfold Does; rw [hg]; exact ⟨h2 s' hs', h3⟩, hnext tr ws h4⟩
    · cases h4
  | some gw =>
    obtain ⟨gd, want⟩ := gw
    rw [hg] at h
    simp only [Array.getElem?_toList] at h
    split at h
    · cases h
    · rename_i t ht
      split at h
      · rename_i z hz
        have run : (∃ tr', (opD Γ (clk * 4096 + dstOf o) o).runK s [sl t] (fun ws tr => bif dstOk o ws then
            (bif draw then
              bif edgesOk j o then
              match fits (bif draw then beforeOf bs o else 0) j log tr ws with
              | some log' => opsK Γ ops.toList draw clk rest (j + 1) (bs ++ [bif draw then beforeOf bs o else 0]) (s.put ws) log' K
              | none => none
              else none
            else opsK Γ ops.toList draw clk rest (j + 1) [] (s.put ws) [] K) else none) = some r ∧ tr' = z ∧ z = want) →
            ∃ tr ws, (∀ s', (∀ l ∈ tr, s' l = s l) → Does Γ ops clk o ws s') ∧
              ((draw = false ∧ opsK Γ ops.toList draw clk rest (j + 1) [] (s.put ws) [] K = some r) ∨
               (draw = true ∧ edgesOk j o = true ∧ ∃ log', fits (beforeOf bs o) j log tr ws = some log' ∧ opsK Γ ops.toList draw clk rest (j + 1) (bs ++ [beforeOf bs o]) (s.put ws) log' K = some r)) := by
          rintro ⟨_, h, _, hzw⟩
          obtain ⟨ws, tr, h1, hin, h2⟩ := Rd.runK_tr _ _ _ _ _ h
          rcases bif_some h1 with ⟨h3, h4⟩ | ⟨_, h4⟩
          · refine ⟨tr, ws, fun s' hs' => ?_, hnext tr ws h4⟩
            unfold Does
            rw [hg]
            exact ⟨t, ht, .inr ⟨z, (hs' (sl t) (hin _ (by simp))).trans hz, by rw [if_pos hzw]; exact ⟨h2 s' hs', h3⟩⟩⟩
          · cases h4
        have skip : z ≠ want → (bif draw then
              bif edgesOk j o then
              match fits (bif draw then beforeOf bs o else 0) j log [sl t] (skipW o) with
              | some log' => opsK Γ ops.toList draw clk rest (j + 1) (bs ++ [bif draw then beforeOf bs o else 0]) (s.put (skipW o)) log' K
              | none => none
              else none
            else opsK Γ ops.toList draw clk rest (j + 1) [] (s.put (skipW o)) [] K) = some r →
            ∃ tr ws, (∀ s', (∀ l ∈ tr, s' l = s l) → Does Γ ops clk o ws s') ∧
              ((draw = false ∧ opsK Γ ops.toList draw clk rest (j + 1) [] (s.put ws) [] K = some r) ∨
               (draw = true ∧ edgesOk j o = true ∧ ∃ log', fits (beforeOf bs o) j log tr ws = some log' ∧ opsK Γ ops.toList draw clk rest (j + 1) (bs ++ [beforeOf bs o]) (s.put ws) log' K = some r)) := by
          intro hzw h
          refine ⟨[sl t], skipW o, fun s' hs' => ?_, hnext _ _ h⟩
          unfold Does
          rw [hg]
          exact ⟨t, ht, .inr ⟨z, (hs' (sl t) (by simp)).trans hz, by rw [if_neg hzw]⟩⟩
        cases z with
        | true =>
          rw [set_self _ _ _ hz] at h
          simp only [if_true] at h
          cases want with
          | true => exact run ⟨true, h, rfl, rfl⟩
          | false => exact skip (by simp) h
        | false =>
          rw [set_self _ _ _ hz] at h
          simp only [Bool.false_eq_true, if_false] at h
          cases want with
          | true => exact skip (by simp) h
          | false => exact run ⟨false, h, rfl, rfl⟩
      · rename_i hz
        refine ⟨[sl t], skipW o, fun s' hs' => ?_, hnext _ _ h⟩
        unfold Does
        rw [hg]
        exact ⟨t, ht, .inl ⟨(hs' (sl t) (by simp)).trans hz, rfl⟩⟩
      · cases h

/-- A region in the text's order. -/
theorem wp_plain (E : Env P Γ) {A : Nat → Option Value} {ops : Array Oper} {clk : Nat} (hdst : ∀ o ∈ ops.toList, ∀ d, o.dst = some d → d < n ∧ A d = none) {R : Type} {K : State → Option R} {r : R} : ∀ (rest : List Oper) (pre : List Oper) {s : State} {a : Act} {w : World} {bs : List Nat} {log : Log},
    ops.toList = pre ++ rest → InvP Kp B0 n A s a w → opsK Γ ops.toList false clk rest pre.length bs s log K = some r →
    (∀ s' a' w', InvP Kp B0 n A s' a' w' → K s' = some r → Q .normal a' w') → wpOps P ops Q (List.range' pre.length rest.length) a w := by
  intro rest
  induction rest with
  | nil =>
    intro pre s a w bs log _ hi h hK
    simp only [opsK] at h
    exact hK s a w hi h
  | cons o rest ih =>
    intro pre s a w bs log hops hi h hK
    obtain ⟨tr, ws, h1, h2⟩ := opsK_step h
    rcases h2 with ⟨_, h2⟩ | ⟨hd, _⟩
    · simp only [List.length_cons, List.range'_succ]
      rw [wpOps_cons]
      have ho : ops[pre.length]? = some o := by
        rw [← Array.getElem?_toList, hops]
        simp
      refine does_ok E hi (hdst o (by rw [hops]; simp)) ho (h1 s fun _ _ => rfl) fun a' w' hi' => ?_
      have := ih (pre ++ [o]) (s := s.put ws) (a := a') (w := w') (bs := []) (log := []) (by simp [hops]) hi' (by simpa using h2) hK
      simpa using this
    · cases hd
end
end Go.V
