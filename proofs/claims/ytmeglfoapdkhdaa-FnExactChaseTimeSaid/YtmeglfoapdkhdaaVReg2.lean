/- Regions that draw their order. -/
import Derived.Test.YtmeglfoapdkhdaaVReg
set_option linter.unusedVariables false
set_option linter.unusedSimpArgs false
namespace Go.V

/-- One operation's footprint: what it read, what it wrote, which ones come before it. -/
structure Foot where
  R : List Nat
  ws : Writes
  b : Nat
def Foot.dom (f : Foot) (l : Nat) : Prop := ∃ c, (l, c) ∈ f.ws
def stL : Nat → List Foot → (Nat → Bool) → State → State
  | _, [], _, s => s
  | j, f :: r, L, s => stL (j + 1) r L (if L j then s.put f.ws else s)

theorem put_notin {l : Nat} : ∀ {ws : Writes} {s : State}, (∀ c, (l, c) ∉ ws) → (s.put ws) l = s l := by
  intro ws
  induction ws with
  | nil => intro s _; rfl
  | cons x ws ih =>
    intro s h
    simp only [State.put]
    rw [ih fun c hc => h c (by simp [hc])]
    exact State.set_other _ _ fun e => h x.2 (by simp [e])
theorem put_in {l : Nat} : ∀ {ws : Writes} {s s' : State}, (∃ c, (l, c) ∈ ws) → (s.put ws) l = (s'.put ws) l := by
  intro ws
  induction ws with
  | nil => intro s s' h; obtain ⟨c, h⟩ := h; simp at h
  | cons x ws ih =>
    intro s s' h
    simp only [State.put]
    by_cases hw : ∃ c, (l, c) ∈ ws
    · exact ih hw
    · have hn : ∀ c, (l, c) ∉ ws := fun c hc => hw ⟨c, hc⟩
      rw [put_notin hn, put_notin hn]
      obtain ⟨c, hc⟩ := h
      rcases List.mem_cons.1 hc with hc | hc
      · subst hc; rw [State.set_same, State.set_same]
      · exact absurd hc (hn c)
theorem put_agree {l : Nat} {ws : Writes} {s s' : State} (h : s l = s' l) : (s.put ws) l = (s'.put ws) l := by
  by_cases hw : ∃ c, (l, c) ∈ ws
  · exact put_in hw
  · have hn : ∀ c, (l, c) ∉ ws := fun c hc => hw ⟨c, hc⟩
    rw [put_notin hn, put_notin hn, h]

theorem stL_agree {l : Nat} : ∀ {F : List Foot} {j : Nat} {L L' : Nat → Bool} {s s' : State}, s l = s' l → (∀ i f, F[i]? = some f → f.dom l → L (j + i) = L' (j + i)) → stL j F L s l = stL j F L' s' l := by
  intro F
  induction F with
  | nil => intro j L L' s s' h _; exact h
  | cons f F ih =>
    intro j L L' s s' h H
    simp only [stL]
    refine ih ?_ fun i g hg hd => by have := H (i + 1) g (by simpa using hg) hd; rw [show j + 1 + i = j + (i + 1) by omega]; exact this
    by_cases hd : f.dom l
    · have e := H 0 f rfl hd
      simp only [Nat.add_zero] at e
      rw [← e]
      split
      · exact put_in hd
      · exact h
    · have hn : ∀ c, (l, c) ∉ f.ws := fun c hc => hd ⟨c, hc⟩
      have e1 : (if L j = true then s.put f.ws else s) l = s l := by split; exact put_notin hn; rfl
      have e2 : (if L' j = true then s'.put f.ws else s') l = s' l := by split; exact put_notin hn; rfl
      rw [e1, e2, h]
theorem stL_last {l : Nat} : ∀ {F : List Foot} {j i : Nat} {f : Foot} {L : Nat → Bool} {s s' : State}, F[i]? = some f → f.dom l → L (j + i) = true → (∀ i' f', F[i']? = some f' → i < i' → f'.dom l → L (j + i') = false) → stL j F L s l = (s'.put f.ws) l := by
  intro F
  induction F with
  | nil => intro j i f L s s' h; simp at h
  | cons g F ih =>
    intro j i f L s s' h hd hL H
    simp only [stL]
    cases i with
    | zero =>
      simp only [List.getElem?_cons_zero, Option.some.injEq] at h
      subst h
      simp only [Nat.add_zero] at hL
      rw [hL]
      simp only [if_true]
      have : stL (j + 1) F L (s.put g.ws) l = stL (j + 1) F (fun _ => false) (s.put g.ws) l := stL_agree rfl fun i' f' hf hd' => by
        have := H (i' + 1) f' (by simpa using hf) (by omega) hd'
        rw [show j + 1 + i' = j + (i' + 1) by omega]
        exact this
      rw [this]
      have hall : ∀ (F : List Foot) (j : Nat) (s : State), stL j F (fun _ => false) s = s := by
        intro F
        induction F with
        | nil => intro j s; rfl
        | cons f F ih => intro j s; simp only [stL]; exact ih _ _
      rw [hall]
      exact put_in hd
    | succ i =>
      exact ih (by simpa using h) hd (by rw [show j + 1 + i = j + (i + 1) by omega]; exact hL) fun i' f' hf hlt hd' => by
        have := H (i' + 1) f' (by simpa using hf) (by omega) hd'
        rw [show j + 1 + i' = j + (i' + 1) by omega]
        exact this

/-- Whether two operations meet. -/
def Foot.meets (f g : Foot) : Prop := ∃ l, (f.dom l ∧ (l ∈ g.R ∨ g.dom l)) ∨ (l ∈ f.R ∧ g.dom l)

/-- What is known of a region's run in the text's order. -/
structure Trace (Γ : Ctx) (ops : Array Oper) (clk : Nat) (s0 : State) (F : List Foot) : Prop where
  len : F.length = ops.size
  does : ∀ (j : Nat) f o, F[j]? = some f → ops[j]? = some o → ∀ s, (∀ l ∈ f.R, s l = stL 0 F (fun i => decide (i < j)) s0 l) → Does Γ ops clk o f.ws s
  meet : ∀ (i j : Nat) f g, i < j → F[i]? = some f → F[j]? = some g → f.meets g → Nat.testBit g.b i = true
  bit : ∀ (i j : Nat) g o, F[j]? = some g → ops[j]? = some o → Nat.testBit g.b i = true → ∃ e ∈ o.after, Region.binds .any e = true ∧ (e.on = i ∨ ∃ g', F[e.on]? = some g' ∧ Nat.testBit g'.b i = true)
  back : ∀ (j : Nat) o, ops[j]? = some o → ∀ e ∈ o.after, Region.binds .any e = true → e.on < j

section
variable {P : Program} {Γ : Ctx} {Kp : Keep} {B0 : World} {n : Nat} {G : Gh} {s : State} {a : Act} {w w' : World} {id : Nat} {o : Oper} {Q : Exit → Act → World → Prop} {ws : Writes}

/-- The listed ones hold with each all before it. -/
def Closed (ops : Array Oper) (L : Nat → Bool) : Prop := ∀ (j : Nat) o, ops[j]? = some o → L j = true → ∀ e ∈ o.after, Region.binds .any e = true → L e.on = true

theorem Trace.pred {ops : Array Oper} {clk : Nat} {s0 : State} {F : List Foot} (T : Trace Γ ops clk s0 F) {L : Nat → Bool} (hL : Closed ops L) : ∀ (m j : Nat), j ≤ m → ∀ g o i, F[j]? = some g → ops[j]? = some o → (∀ e ∈ o.after, Region.binds .any e = true → L e.on = true) → Nat.testBit g.b i = true → L i = true := by
  intro m
  induction m with
  | zero =>
    intro j hj g o i hg ho he hb
    obtain ⟨e, e1, e2, _⟩ := T.bit i j g o hg ho hb
    have := T.back j o ho e e1 e2
    omega
  | succ m ih =>
    intro j hj g o i hg ho he hb
    obtain ⟨e, e1, e2, e3⟩ := T.bit i j g o hg ho hb
    rcases e3 with e3 | ⟨g', e3, e4⟩
    · rw [← e3]; exact he e e1 e2
    · have hlt := T.back j o ho e e1 e2
      have hle : e.on < ops.size := by
        have := (List.getElem?_eq_some_iff.1 e3).1
        rw [T.len] at this
        exact this
      have ho' : ops[e.on]? = some ops[e.on] := by simp [hle]
      exact ih e.on (by omega) g' _ i e3 ho' (fun e' h1 h2 => hL e.on _ ho' (he e e1 e2) e' h1 h2) e4

theorem Trace.reads {ops : Array Oper} {clk : Nat} {s0 : State} {F : List Foot} (T : Trace Γ ops clk s0 F) {L : Nat → Bool} (hL : Closed ops L) {j : Nat} {o : Oper} {f : Foot} (hf : F[j]? = some f) (ho : ops[j]? = some o)
    (hj : L j = false) (hr : ∀ e ∈ o.after, Region.binds .any e = true → L e.on = true) : ∀ l ∈ f.R, stL 0 F L s0 l = stL 0 F (fun i => decide (i < j)) s0 l := by
  intro l hl
  refine stL_agree rfl fun i g hg hd => ?_
  simp only [Nat.zero_add]
  by_cases hij : i < j
  · simp only [hij, decide_true]
    exact T.pred hL j j (Nat.le_refl _) f o i hf ho hr (T.meet i j g f hij hg hf ⟨l, .inl ⟨hd, .inl hl⟩⟩)
  · simp only [hij, decide_false]
    by_cases e : i = j
    · subst e; exact hj
    · cases hLi : L i with
      | false => rfl
      | true =>
        have hlt : j < i := by omega
        have hi : i < ops.size := by have := (List.getElem?_eq_some_iff.1 hg).1; rw [T.len] at this; exact this
        have ho' : ops[i]? = some ops[i] := by simp [hi]
        have := T.pred hL i i (Nat.le_refl _) g _ j hg ho' (fun e h1 h2 => hL i _ ho' hLi e h1 h2) (T.meet j i f g hlt hf hg ⟨l, .inr ⟨hl, hd⟩⟩)
        rw [hj] at this
        cases this

theorem Trace.step {ops : Array Oper} {clk : Nat} {s0 : State} {F : List Foot} (T : Trace Γ ops clk s0 F) {L : Nat → Bool} (hL : Closed ops L) {j : Nat} {f : Foot} (hf : F[j]? = some f) (hj : L j = false) {L' : Nat → Bool} (hL' : ∀ i, L' i = (L i || decide (i = j))) :
    stL 0 F L' s0 = (stL 0 F L s0).put f.ws := by
  funext l
  by_cases hd : f.dom l
  · rw [stL_last (s' := stL 0 F L s0) hf hd (by rw [hL']; simp) fun i g hg hlt hdg => ?_]
    rw [Nat.zero_add, hL']
    have hne : ¬ i = j := by omega
    simp only [hne, decide_false, Bool.or_false]
    cases hLi : L i with
    | false => rfl
    | true =>
      have hi : i < ops.size := by have := (List.getElem?_eq_some_iff.1 hg).1; rw [T.len] at this; exact this
      have ho' : ops[i]? = some ops[i] := by simp [hi]
      have := T.pred hL i i (Nat.le_refl _) g _ j hg ho' (fun e h1 h2 => hL i _ ho' hLi e h1 h2) (T.meet j i f g hlt hf hg ⟨l, .inl ⟨hd, .inr hdg⟩⟩)
      rw [hj] at this
      cases this
  · rw [put_notin fun c hc => hd ⟨c, hc⟩]
    refine stL_agree rfl fun i g hg hdg => ?_
    rw [Nat.zero_add, hL']
    by_cases e : i = j
    · subst e
      rw [hf] at hg
      injection hg with hg
      subst hg
      exact absurd hdg hd
    · simp [e]

theorem getD_set {listed : Array Bool} {i j : Nat} (hj : j < listed.size) : (listed.setIfInBounds j true).getD i false = (listed.getD i false || decide (i = j)) := by
  by_cases e : i = j
  · subst e
    simp [Array.getD_eq_getD_getElem?, hj]
  · have e' : j ≠ i := fun h => e h.symm
    simp [Array.getD_eq_getD_getElem?, Array.getElem?_setIfInBounds_ne e', e]

theorem trace_any (E : Env P Γ) {A : Nat → Option Value} {ops : Array Oper} {clk : Nat} (hdst : ∀ o ∈ ops.toList, ∀ d, o.dst = some d → d < n ∧ A d = none) {s0 : State} {F : List Foot} (T : Trace Γ ops clk s0 F)
    (hQ : ∀ a' w', InvP Kp B0 n A (stL 0 F (fun _ => true) s0) a' w' → Q .normal a' w') :
    ∀ (fuel : Nat) (listed : Array Bool) (a : Act) (w : World), listed.size = ops.size → listed.toList.count false = fuel → Closed ops (fun i => listed.getD i false) → InvP Kp B0 n A (stL 0 F (fun i => listed.getD i false) s0) a w →
      wpAny P .any ops Q fuel listed a w := by
  have hfull : ∀ (listed : Array Bool) a w, listed.size = ops.size → (∀ i, i < ops.size → listed.getD i false = true) → InvP Kp B0 n A (stL 0 F (fun i => listed.getD i false) s0) a w → Q .normal a w := by
    intro listed a w hsz hall hi
    have e : stL 0 F (fun i => listed.getD i false) s0 = stL 0 F (fun _ => true) s0 := by
      funext l
      refine stL_agree rfl fun i f hf _ => ?_
      have := (List.getElem?_eq_some_iff.1 hf).1
      rw [T.len] at this
      rw [Nat.zero_add]
      exact hall i this
    rw [e] at hi
    exact hQ a w hi
  have hready : ∀ (listed : Array Bool), listed.size = ops.size → Region.ready .any ops listed = [] → ∀ i, i < ops.size → listed.getD i false = true := by
    intro listed hsz hr
    -- the least that is not listed would be ready
    have key : ∀ m i, i < m → i < ops.size → listed.getD i false = true := by
      intro m
      induction m with
      | zero => intro i hi; omega
      | succ m ih =>
        intro i hi hlt
        by_cases him : i < m
        · exact ih i him hlt
        · have hi' : i = m := by omega
          cases hl : listed.getD i false with
          | true => rfl
          | false =>
            exfalso
            have ho' : ops[i]? = some ops[i] := by simp [hlt]
            have : i ∈ Region.ready .any ops listed := by
              rw [mem_ready]
              have hl2 : i < listed.size := by omega
              refine ⟨?_, _, ho', fun e he hb => ih e.on ?_ ?_⟩
              · simp only [Array.getD, hl2, dif_pos] at hl ⊢; exact hl
              · have := T.back i _ ho' e he hb; omega
              · have := T.back i _ ho' e he hb; omega
            rw [hr] at this
            simp at this
    exact fun i hi => key (i + 1) i (by omega) hi
  intro fuel
  induction fuel with
  | zero =>
    intro listed a w hsz hc hL hi
    have hall : ∀ i, i < ops.size → listed.getD i false = true := by
      intro i hlt
      have hlt' : i < listed.size := by omega
      rw [List.count_eq_zero] at hc
      cases hb : listed.getD i false with
      | true => rfl
      | false =>
        exfalso
        apply hc
        simp only [Array.getD, hlt', dif_pos] at hb
        rw [← hb]
        exact Array.getElem_mem_toList hlt'
    refine ⟨?_, hfull listed a w hsz hall hi⟩
    apply List.eq_nil_iff_forall_not_mem.2
    intro i hm
    rw [mem_ready] at hm
    obtain ⟨h1, o, h2, _⟩ := hm
    have hlt := (Array.getElem?_eq_some_iff.1 h2).1
    have := hall i hlt
    have hlt' : i < listed.size := by omega
    simp only [Array.getD, hlt', dif_pos] at h1 this
    rw [this] at h1
    cases h1
  | succ fuel ih =>
    intro listed a w hsz hc hL hi
    refine ⟨fun hr => hfull listed a w hsz (hready listed hsz hr) hi, fun j hj => ?_⟩
    rw [mem_ready] at hj
    obtain ⟨h1, o, ho, hr⟩ := hj
    have hlt := (Array.getElem?_eq_some_iff.1 ho).1
    have hlt' : j < listed.size := by omega
    have hjf : listed.getD j false = false := by simp only [Array.getD, hlt', dif_pos] at h1 ⊢; exact h1
    have hF : j < F.length := by rw [T.len]; exact hlt
    have hf : F[j]? = some F[j] := by simp [hF]
    have hmem : o ∈ ops.toList := by
      have := Array.mem_of_getElem? ho
      exact Array.mem_toList_iff.2 this
    refine does_ok E hi (hdst o hmem) ho (T.does j _ o hf ho _ (T.reads hL hf ho hjf hr)) fun a' w' hi' => ?_
    have hst := T.step hL hf hjf (L' := fun i => (listed.setIfInBounds j true).getD i false) (fun i => getD_set hlt')
    rw [← hst] at hi'
    refine ih (listed.setIfInBounds j true) a' w' (by simpa using hsz) ?_ ?_ hi'
    · have hlj : listed[j] = false := by simp only [Array.getD, hlt', dif_pos] at hjf; exact hjf
      rw [Array.toList_setIfInBounds, List.count_set (by simpa using hlt')]
      simp [hlj, hc]
    · intro i o' ho' hli e he hb
      simp only [getD_set hlt', Bool.or_eq_true, decide_eq_true_eq] at hli ⊢
      rcases hli with hli | hli
      · exact .inl (hL i o' ho' hli e he hb)
      · subst hli
        rw [ho] at ho'
        injection ho' with ho'
        subst ho'
        exact .inl (hr e he hb)

/-! ### The trace of a run -/
theorem clash_spec {bj l : Nat} {wr : Bool} : ∀ {log : Log}, clash bj l wr log = false → ∀ i w', (i, l, w') ∈ log → (w' = true ∨ wr = true) → Nat.testBit bj i = true := by
  intro log
  induction log with
  | nil => intro _ i w' h; simp at h
  | cons x log ih =>
    obtain ⟨i0, l0, w0⟩ := x
    intro h i w' hm hw
    simp only [clash, Bool.or_eq_false_iff] at h
    obtain ⟨h1, h2⟩ := h
    rcases List.mem_cons.1 hm with hm | hm
    · simp only [Prod.mk.injEq] at hm
      obtain ⟨rfl, rfl, rfl⟩ := hm
      cases hb : Nat.testBit bj i with
      | true => rfl
      | false =>
        rw [hb] at h1
        have hor : (w' || wr) = true := by simpa using hw
        simp [hor] at h1
    · exact ih h2 i w' hm hw
theorem clashAny_spec {bj : Nat} {log : Log} : ∀ {ts : List (Nat × Bool)}, clashAny bj log ts = false → ∀ l wr i w', (l, wr) ∈ ts → (i, l, w') ∈ log → (w' = true ∨ wr = true) → Nat.testBit bj i = true := by
  intro ts
  induction ts with
  | nil => intro _ l wr i w' h; simp at h
  | cons x ts ih =>
    obtain ⟨l0, w0⟩ := x
    intro h l wr i w' hm hl hw
    simp only [clashAny, Bool.or_eq_false_iff] at h
    rcases List.mem_cons.1 hm with hm | hm
    · simp only [Prod.mk.injEq] at hm
      obtain ⟨rfl, rfl⟩ := hm
      exact clash_spec h.1 i w' hl hw
    · exact ih h.2 l wr i w' hm hl hw

theorem before_bit {bs : List Nat} {o : Oper} {i : Nat} (h : Nat.testBit (beforeOf bs o) i = true) : ∃ e ∈ o.after, Region.binds .any e = true ∧ (e.on = i ∨ ∃ b, bs[e.on]? = some b ∧ Nat.testBit b i = true) := by
  have key : ∀ (l : List Edge) (x : Nat), Nat.testBit (l.foldl (fun s e => bif Region.binds .any e then s ||| 2 ^ e.on ||| bs.getD e.on 0 else s) x) i = true →
      Nat.testBit x i = true ∨ ∃ e ∈ l, Region.binds .any e = true ∧ (e.on = i ∨ ∃ b, bs[e.on]? = some b ∧ Nat.testBit b i = true) := by
    intro l
    induction l with
    | nil => intro x h; exact .inl h
    | cons e l ih =>
      intro x h
      rw [List.foldl_cons] at h
      rcases ih _ h with h1 | ⟨e', h1, h2⟩
      · cases hb : Region.binds .any e with
        | false => rw [hb] at h1; exact .inl h1
        | true =>
          rw [hb] at h1
          simp only [cond_true, Nat.testBit_or, Bool.or_eq_true] at h1
          rcases h1 with (h1 | h1) | h1
          · exact .inl h1
          · refine .inr ⟨e, by simp, hb, .inl ?_⟩
            rw [Nat.testBit_two_pow] at h1
            exact of_decide_eq_true h1
          · refine .inr ⟨e, by simp, hb, .inr ?_⟩
            rw [List.getD_eq_getElem?_getD] at h1
            cases hg : bs[e.on]? with
            | none => rw [hg] at h1; simp at h1
            | some b => rw [hg] at h1; exact ⟨b, rfl, h1⟩
      · exact .inr ⟨e', by simp [h1], h2⟩
  have := key o.after.toList 0 h
  rcases this with h | ⟨e, h1, h2⟩
  · simp at h
  · exact ⟨e, Array.mem_toList_iff.1 h1, h2⟩

theorem stL_shift : ∀ {F : List Foot} {j : Nat} {L : Nat → Bool} {s : State}, stL (j + 1) F L s = stL j F (fun i => L (i + 1)) s := by
  intro F
  induction F with
  | nil => intro j L s; rfl
  | cons f F ih => intro j L s; simp only [stL]; exact ih

theorem trace_run {R : Type} {ops : Array Oper} {clk : Nat} {K : State → Option R} {r : R} : ∀ (rest : List Oper) (j : Nat) {bs : List Nat} {s : State} {log : Log}, bs.length = j → opsK Γ ops.toList true clk rest j bs s log K = some r →
    ∃ Fr : List Foot, Fr.length = rest.length ∧
      (∀ (i : Nat) f o, Fr[i]? = some f → rest[i]? = some o → ∀ s', (∀ l ∈ f.R, s' l = stL 0 Fr (fun x => decide (x < i)) s l) → Does Γ ops clk o f.ws s') ∧
      (∀ (i i' : Nat) f g, i < i' → Fr[i]? = some f → Fr[i']? = some g → f.meets g → Nat.testBit g.b (j + i) = true) ∧
      (∀ (i0 : Nat) l w, (i0, l, w) ∈ log → ∀ f ∈ Fr, (f.dom l ∨ (w = true ∧ l ∈ f.R)) → Nat.testBit f.b i0 = true) ∧
      (∀ (i x : Nat) g o, Fr[i]? = some g → rest[i]? = some o → Nat.testBit g.b x = true → ∃ e ∈ o.after, Region.binds .any e = true ∧ (e.on = x ∨ ∃ b, (bs ++ Fr.map Foot.b)[e.on]? = some b ∧ Nat.testBit b x = true)) ∧
      (∀ (i : Nat) o, rest[i]? = some o → ∀ e ∈ o.after, Region.binds .any e = true → e.on < j + i) ∧
      K (stL 0 Fr (fun _ => true) s) = some r := by
  intro rest
  induction rest with
  | nil =>
    intro j bs s log _ h
    simp only [opsK] at h
    exact ⟨[], rfl, fun i f o h => by simp at h, fun i i' f g _ h => by simp at h, fun _ _ _ _ f h => by simp at h, fun i x g o h => by simp at h, fun i o h => by simp at h, h⟩
  | cons o rest ih =>
    intro j bs s log hbs h
    obtain ⟨tr, ws, h1, h2⟩ := opsK_step h
    rcases h2 with ⟨hd, _⟩ | ⟨_, hedge, log', hfit, h2⟩
    · cases hd
    · obtain ⟨Fr, f1, f2, f3, f4, f5, f6, f7⟩ := ih (j + 1) (by simp [hbs]) h2
      unfold fits at hfit
      simp only at hfit
      rcases bif_some hfit with ⟨_, hfit⟩ | ⟨hcl, hfit⟩
      · cases hfit
      have hfit := Option.some.inj hfit
      subst hfit
      have hlog : ∀ x, x ∈ log → x ∈ ((tr.map (fun l => (l, false)) ++ ws.map (fun x => (x.1, true))).map (fun x => (j, x.1, x.2)) ++ log) := fun x hx => by simp [hx]
      refine ⟨⟨tr, ws, beforeOf bs o⟩ :: Fr, by simp [f1], ?_, ?_, ?_, ?_, ?_, ?_⟩
      · intro i f o' hf ho' s' hs'
        cases i with
        | zero =>
          simp only [List.getElem?_cons_zero, Option.some.injEq] at hf ho'
          subst hf ho'
          refine h1 s' fun l hl => ?_
          rw [hs' l hl]
          have : stL 0 (⟨tr, ws, beforeOf bs o⟩ :: Fr) (fun x => decide (x < 0)) s l = stL 0 (⟨tr, ws, beforeOf bs o⟩ :: Fr) (fun _ => false) s l := stL_agree rfl fun _ _ _ _ => by simp
          rw [this]
          have hall : ∀ (F : List Foot) (j : Nat) (s : State), stL j F (fun _ => false) s = s := by
            intro F
            induction F with
            | nil => intro j s; rfl
            | cons f F ih => intro j s; simp only [stL]; exact ih _ _
          rw [hall]
        | succ i =>
          refine f2 i f o' (by simpa using hf) (by simpa using ho') s' fun l hl => ?_
          rw [hs' l hl]
          simp only [stL]
          rw [stL_shift]
          simp
      · intro i i' f g hlt hf hg hm
        cases i' with
        | zero => omega
        | succ i' =>
          simp only [List.getElem?_cons_succ] at hg
          cases i with
          | zero =>
            simp only [List.getElem?_cons_zero, Option.some.injEq] at hf
            subst hf
            have hgm : g ∈ Fr := List.mem_of_getElem? hg
            obtain ⟨l, hl⟩ := hm
            simp only [Nat.add_zero]
            rcases hl with ⟨⟨c, hc⟩, hl⟩ | ⟨hl, hd⟩
            · refine f4 j l true ?_ g hgm ?_
              · simp only [List.map_append, List.map_map, List.mem_append, List.mem_map]
                exact .inl (.inr ⟨(l, c), hc, rfl⟩)
              · rcases hl with hl | hl
                · exact .inr ⟨rfl, hl⟩
                · exact .inl hl
            · refine f4 j l false ?_ g hgm (.inl hd)
              simp only [List.map_append, List.map_map, List.mem_append, List.mem_map]
              exact .inl (.inl ⟨l, hl, rfl⟩)
          | succ i =>
            have := f3 i i' f g (by omega) (by simpa using hf) hg hm
            rw [show j + (i + 1) = j + 1 + i by omega]
            exact this
      · intro i0 l w hm f hf hw
        rcases List.mem_cons.1 hf with rfl | hf
        · simp only at hw ⊢
          rcases hw with ⟨c, hc⟩ | ⟨hw, hl⟩
          · exact clashAny_spec hcl l true i0 w (by simp only [List.mem_append, List.mem_map]; exact .inr ⟨(l, c), hc, rfl⟩) hm (.inr rfl)
          · exact clashAny_spec hcl l false i0 w (by simp only [List.mem_append, List.mem_map]; exact .inl ⟨l, hl, rfl⟩) hm (.inl hw)
        · exact f4 i0 l w (hlog _ hm) f hf hw
      · intro i x g o' hg ho' hb
        cases i with
        | zero =>
          simp only [List.getElem?_cons_zero, Option.some.injEq] at hg ho'
          subst hg ho'
          obtain ⟨e, e1, e2, e3⟩ := before_bit hb
          refine ⟨e, e1, e2, ?_⟩
          rcases e3 with e3 | ⟨b, e3, e4⟩
          · exact .inl e3
          · refine .inr ⟨b, ?_, e4⟩
            rw [List.getElem?_append_left (List.getElem?_eq_some_iff.1 e3).1]
            exact e3
        | succ i =>
          obtain ⟨e, e1, e2, e3⟩ := f5 i x g o' (by simpa using hg) (by simpa using ho') hb
          exact ⟨e, e1, e2, by simpa using e3⟩
      · intro i o' ho' e he hb
        cases i with
        | zero =>
          simp only [List.getElem?_cons_zero, Option.some.injEq] at ho'
          subst ho'
          unfold edgesOk at hedge
          rw [List.all_eq_true] at hedge
          have := hedge e (Array.mem_toList_iff.2 he)
          rw [hb] at this
          simp only [Bool.not_true, Bool.false_or] at this
          rw [Nat.blt_eq] at this
          omega
        | succ i =>
          have := f6 i o' (by simpa using ho') e he hb
          omega
      · simp only [stL, if_true]
        rw [stL_shift]
        exact f7

/-- A region that draws its order. -/
theorem wp_draw (E : Env P Γ) (hm : P.follows .mixedOrders = true) {A : Nat → Option Value} {rid : Nat} {ops : Array Oper} {clk : Nat} (hdst : ∀ o ∈ ops.toList, ∀ d, o.dst = some d → d < n ∧ A d = none) {R : Type} {K : State → Option R} {r : R} (hi : InvP Kp B0 n A s a w)
    (h : opsK Γ ops.toList true clk ops.toList 0 [] s [] K = some r) (hQ : ∀ s' a' w', InvP Kp B0 n A s' a' w' → K s' = some r → Q .normal a' w') : (Code.region rid ops true).wp P Q a w := by
  obtain ⟨F, f1, f2, f3, f4, f5, f6, f7⟩ := trace_run ops.toList 0 rfl h
  have T : Trace Γ ops clk s F := by
    refine ⟨by simpa using f1, fun j f o hf ho => f2 j f o hf (by simpa using ho), fun i j f g hlt hf hg hm => by simpa using f3 i j f g hlt hf hg hm, fun i j g o hg ho hb => ?_, fun j o ho e he hb => by simpa using f6 j o (by simpa using ho) e he hb⟩
    obtain ⟨e, e1, e2, e3⟩ := f5 j i g o hg (by simpa using ho) hb
    refine ⟨e, e1, e2, ?_⟩
    rcases e3 with e3 | ⟨b, e3, e4⟩
    · exact .inl e3
    · simp only [List.nil_append, List.getElem?_map, Option.map_eq_some_iff] at e3
      obtain ⟨g', e5, rfl⟩ := e3
      exact .inr ⟨g', e5, e4⟩
  refine wp_region_any hm ?_
  have hi' : InvP Kp B0 n A s a { w with drawn := w.drawn + 1 } := by
    obtain ⟨G, g⟩ := hi.inv.ghost
    exact ⟨⟨hi.inv.defers, hi.inv.size, hi.inv.base.drew, G, g.drew⟩, hi.pin⟩
  refine trace_any E hdst T (fun a' w' hi2 => hQ _ a' w' hi2 f7) ops.size _ a _ (by simp) (by simp) (fun j o ho hl => ?_) ?_
  · exfalso
    simp only [Array.getD_eq_getD_getElem?] at hl
    by_cases hj : j < ops.size
    · simp [hj] at hl
    · simp [hj] at hl
  · have e : stL 0 F (fun i => (Array.replicate ops.size false).getD i false) s = s := by
      have e2 : (fun i => (Array.replicate ops.size false).getD i false) = fun _ => false := by
        funext i
        simp only [Array.getD_eq_getD_getElem?]
        by_cases hj : i < ops.size
        · simp [hj]
        · simp [hj]
      rw [e2]
      have hall : ∀ (F : List Foot) (j : Nat) (s : State), stL j F (fun _ => false) s = s := by
        intro F
        induction F with
        | nil => intro j s; rfl
        | cons f F ih => intro j s; simp only [stL]; exact ih _ _
      exact hall _ _ _
    rw [e]
    exact hi'
end
end Go.V
