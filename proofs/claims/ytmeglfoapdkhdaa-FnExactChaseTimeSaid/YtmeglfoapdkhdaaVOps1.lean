/- The operations' soundness, first part: what is read; operations that write a slot alone. -/
import Derived.Test.YtmeglfoapdkhdaaVInv
import Derived.Calls
set_option linter.unusedVariables false
set_option linter.unusedSimpArgs false
namespace Go.V

/-! ### Readings, run -/
def Rd.out {α : Type} : Rd α → State → Option α
  | .ret a, _ => some a
  | .rd l k, s => (k (s l)).out s
  | .ite c a b, s => if c = true then a.out s else b.out s
  | .call o k, s => o.bind fun b => (k b).out s
  | .fail, _ => none
theorem Rd.out_bind {α β : Type} (m : Rd α) (f : α → Rd β) (s : State) : (m.bind f).out s = (m.out s).bind fun a => (f a).out s := by
  induction m with
  | ret a => rfl
  | rd l k ih => exact ih _
  | ite c a b iha ihb => simp only [Rd.bind, Rd.out]; split <;> assumption
  | call o k ih =>
    simp only [Rd.bind, Rd.out]
    cases o with
    | none => rfl
    | some b => exact ih b
  | fail => rfl
theorem Rd.out_opt {α : Type} (o : Option α) (s : State) : (Rd.opt o).out s = o := by cases o <;> rfl
theorem Rd.runK_out {α R : Type} (m : Rd α) (s : State) (K : α → List Nat → Option R) : ∀ (tr : List Nat) (r : R), m.runK s tr K = some r → ∃ a tr', m.out s = some a ∧ K a tr' = some r := by
  induction m with
  | ret a => intro tr r h; exact ⟨a, tr, rfl, h⟩
  | rd l k ih => intro tr r h; exact ih _ _ r h
  | ite c a b iha ihb =>
    intro tr r h
    simp only [Rd.runK] at h
    simp only [Rd.out]
    split at h
    · rename_i hc; simp only [hc, if_true]; exact iha tr r h
    · rename_i hc; simp only [hc]; exact ihb tr r h
  | call o k ih =>
    intro tr r h
    simp only [Rd.runK, Option.bind_eq_some_iff] at h
    obtain ⟨b, h1, h2⟩ := h
    obtain ⟨a, tr', h3, h4⟩ := ih b tr r h2
    exact ⟨a, tr', by simp only [Rd.out, h1, Option.bind_some]; exact h3, h4⟩
  | fail => intro tr r h; simp [Rd.runK] at h

/-! ### The state -/
theorem sl_inj {a b : Nat} (h : sl a = sl b) : a = b := by unfold sl at h; omega
theorem rt_inj {a b : Nat} (h : rt a = rt b) : a = b := by unfold rt at h; omega
theorem sl_rt (a b : Nat) : sl a ≠ rt b := by unfold sl rt; omega
theorem State.set_same (s : State) (l : Nat) (c : Cell) : s.set l c l = c := by simp [State.set]
theorem State.set_other (s : State) {l x : Nat} (c : Cell) (h : x ≠ l) : s.set l c x = s x := by
  have : Nat.beq x l = false := by
    cases hb : Nat.beq x l with
    | false => rfl
    | true => exact absurd (Nat.eq_of_beq_eq_true hb) h
  simp [State.set, this]

/-- Blocks: those that stay, those that others own. -/
structure Keep where
  K : Nat → Prop
  X : Nat → Prop
/-- What others own. -/
def far : Bool × Nat × Path := (true, 0, [.l])
structure ColOk (Kp : Keep) (G : Gh) (w : World) : Prop where
  col : ∀ b x, G.φ b = some x → x = far ∨ (¬ Kp.K b ∧ ∃ cs T, w.heap[b]? = some (.cells cs T (0, 0)))
  lt : ∀ b x, G.φ b = some x → b < w.heap.size
  out : ∀ b, Kp.X b → G.φ b = some far
structure GOk (Kp : Keep) (G : Gh) (s : State) (a : Act) (w : World) : Prop where
  slots : ∀ t, CellOk G w s (a.tmps.getD t undef) (s (sl t))
  roots : ∀ r, RootOk G w r (s (rt r))
  col : ColOk Kp G w
structure Base (Kp : Keep) (B0 w : World) : Prop where
  os : w.os = B0.os
  tape : w.tape = B0.tape
  output : w.output = B0.output
  size : B0.heap.size ≤ w.heap.size
  kept : ∀ b, Kp.K b → w.heap[b]? = B0.heap[b]?
  old : ∀ b, Kp.K b → b < B0.heap.size
structure Inv (Kp : Keep) (B0 : World) (n : Nat) (s : State) (a : Act) (w : World) : Prop where
  defers : a.defers = []
  size : a.tmps.size = n
  base : Base Kp B0 w
  ghost : ∃ G, GOk Kp G s a w

theorem getD_put (a : Act) (dst : Option Nat) (v : Value) (t : Nat) :
    (a.put dst v).tmps.getD t undef = if dst = some t ∧ t < a.tmps.size then v else a.tmps.getD t undef := by
  cases dst with
  | none => simp [Act.put]
  | some d =>
    simp only [Act.put, Array.getD_eq_getD_getElem?, Array.getElem?_setIfInBounds]
    by_cases h : d = t
    · subst h
      by_cases h2 : d < a.tmps.size
      · simp [h2]
      · simp [h2]
    · simp [h]

theorem GOk.mine {Kp : Keep} {G : Gh} {s : State} {a : Act} {w : World} (g : GOk Kp G s a w) {b : Nat} {f : Bool} {r : Nat} {q : Path} (h : G.φ b = some (f, r, q)) (hf : f = false ∨ q = []) :
    ¬ Kp.K b ∧ ∃ cs T, w.heap[b]? = some (.cells cs T (0, 0)) := by
  refine (g.col.col b _ h).resolve_left fun e => ?_
  unfold far at e
  injection e with e1 e2
  injection e2 with e2 e3
  rcases hf with hf | hf <;> simp_all

theorem GOk.step {Kp : Keep} {G G' : Gh} {s s' : State} {a : Act} {w w' : World} (h : GOk Kp G s a w) (t : Tr G G' w w' s s') (dst : Option Nat) (v : Value)
    (hs : ∀ t, dst ≠ some t → s' (sl t) = s (sl t)) (hnew : ∀ d, dst = some d → d < a.tmps.size ∧ CellOk G' w' s' v (s' (sl d)))
    (hr : ∀ r, RootOk G' w' r (s' (rt r))) (hc : ColOk Kp G' w') : GOk Kp G' s' (a.put dst v) w' := by
  refine ⟨fun u => ?_, hr, hc⟩
  rw [getD_put]
  by_cases hu : dst = some u
  · obtain ⟨h1, h2⟩ := hnew u hu
    rw [if_pos ⟨hu, h1⟩]
    exact h2
  · rw [if_neg (fun x => hu x.1), hs u hu]
    exact (h.slots u).tr t h.roots

theorem Tr.refl_slot (G : Gh) (w : World) (s s' : State) (h : ∀ r, s' (rt r) = s (rt r)) : Tr G G w w s s' :=
  ⟨fun _ h _ => ⟨h, rfl⟩, fun r k d dep box frz ver hc => .inr ⟨d, dep, frz, ver, (h r).trans hc, rfl, fun _ => rfl, fun h => h, .inl ⟨rfl, rfl, rfl, fun _ _ _ => rfl, fun _ _ _ h => h⟩⟩, fun r hd => (h r).trans hd⟩

theorem CellOk.roots {G : Gh} {w : World} {s s' : State} (h : ∀ r, s' (rt r) = s (rt r)) {v : Value} {c : Cell} (k : CellOk G w s v c) : CellOk G w s' v c := by
  cases c <;> simp only [CellOk, h] at k ⊢ <;> exact k

/-- An operation that writes a slot alone. -/
theorem GOk.slot {Kp : Keep} {G : Gh} {s : State} {a : Act} {w : World} (h : GOk Kp G s a w) {d : Nat} (hd : d < a.tmps.size) {v : Value} {c : Cell} (hc : CellOk G w s v c) :
    GOk Kp G (s.put [(sl d, c)]) (a.put (some d) v) w := by
  have hr : ∀ r, (s.put [(sl d, c)]) (rt r) = s (rt r) := fun r => by simp only [State.put]; exact State.set_other _ _ (sl_rt d r).symm
  refine h.step (Tr.refl_slot G w s _ hr) (some d) v (fun t ht => ?_) (fun d' hd' => ?_) (fun r => by rw [hr]; exact h.roots r) h.col
  · simp only [State.put]
    exact State.set_other _ _ (fun e => ht (by rw [sl_inj e]))
  · injection hd' with hd'
    subst hd'
    refine ⟨hd, ?_⟩
    simp only [State.put, State.set_same]
    exact hc.roots fun r => by have := hr r; simpa only [State.put] using this

theorem Inv.slot {Kp : Keep} {B0 : World} {n : Nat} {G : Gh} {s : State} {a : Act} {w : World} (h : Inv Kp B0 n s a w) (g : GOk Kp G s a w) {d : Nat} (hd : d < n) {v : Value} {c : Cell} (hc : CellOk G w s v c) :
    Inv Kp B0 n (s.put [(sl d, c)]) (a.put (some d) v) w :=
  ⟨by simp [Act.put, h.defers], by simp [Act.put, h.size], h.base, G, g.slot (by rw [h.size]; exact hd) hc⟩

/-! ### What is read -/
section
variable {P : Program} {Γ : Ctx} {Kp : Keep} {G : Gh} {s : State} {a : Act} {w : World}

theorem rdOp_ok (g : GOk Kp G s a w) {t : TypeId} {x : Operand} {c : Cell} (h : (rdOp Γ t x).out s = some c) : CellOk G w s (a.eval x) c := by
  cases x with
  | tmp x =>
    simp only [rdOp, Rd.out, Option.some.injEq] at h
    subst h
    exact g.slots x
  | const v =>
    simp only [rdOp, kindOf, Rd.out_bind, Rd.out_opt, Option.bind_eq_some_iff, Rd.out, Option.some.injEq] at h
    obtain ⟨k, _, d, h2, h3⟩ := h
    subst h3
    exact dec_rep h2
  | func f => simp only [rdOp, Rd.out, Option.some.injEq] at h; subst h; rfl
  | global _ => simp [rdOp, Rd.out] at h
theorem rdK_ok (g : GOk Kp G s a w) {k : Option Kd} {x : Operand} {c : Cell} (h : (rdK k x).out s = some c) : CellOk G w s (a.eval x) c := by
  cases x with
  | tmp x =>
    simp only [rdK, Rd.out, Option.some.injEq] at h
    subst h
    exact g.slots x
  | const v =>
    simp only [rdK, Rd.out_bind, Rd.out_opt, Option.bind_eq_some_iff, Rd.out, Option.some.injEq] at h
    obtain ⟨k, _, d, h2, h3⟩ := h
    subst h3
    exact dec_rep h2
  | func f => simp only [rdK, Rd.out, Option.some.injEq] at h; subst h; rfl
  | global _ => simp [rdK, Rd.out] at h
theorem unbx_ok {x : Value} {c : Cell} (h : CellOk G w s x c) : CellOk G w s x (unbx c) := by
  unfold unbx
  split
  · obtain ⟨c, rfl, b, off, rfl, h1, h2, h3⟩ := h
    exact ⟨b, off, rfl, h1, h2, h3.move fun p b hb _ => hb⟩
  · exact h
theorem rdB_ok (g : GOk Kp G s a w) {x : Operand} {c : Cell} (h : (rdB x).out s = some c) : CellOk G w s (a.eval x) c := by
  cases x with
  | tmp x =>
    simp only [rdB, Rd.out, Option.some.injEq] at h
    subst h
    exact unbx_ok (g.slots x)
  | const v =>
    cases v <;> simp only [rdB, Rd.out, Option.some.injEq, reduceCtorEq] at h <;> subst h <;> exact ⟨[_], rfl, rfl⟩
  | func f => simp only [rdB, Rd.out, Option.some.injEq] at h; subst h; rfl
  | global _ => simp [rdB, Rd.out] at h

/-- A machine value stands for data, by whatever owners. -/
def Stands (w : World) (x : Value) (v : V) : Prop := ∃ S q c, x = mkVal v.k c ∧ Rep w S v.k q c v.d

theorem bif_some {α : Type} {b : Bool} {x y : Option α} {a : α} (h : (bif b then x else y) = some a) : (b = true ∧ x = some a) ∨ (b = false ∧ y = some a) := by
  cases b
  · exact .inr ⟨rfl, h⟩
  · exact .inl ⟨rfl, h⟩
theorem bif_out {α : Type} (b : Bool) (x y : Rd α) (s : State) : (bif b then x else y).out s = bif b then x.out s else y.out s := by cases b <;> rfl

theorem verOk {ver ver' : Nat} {box : Bool} {p : Path} (h : (Nat.beq ver ver' || (!box && p.isEmpty)) = true) : ver = ver' ∨ (box = false ∧ p = []) := by
  simp only [Bool.or_eq_true, Bool.and_eq_true, Bool.not_eq_true', List.isEmpty_iff] at h
  rcases h with h | h
  · exact .inl (Nat.eq_of_beq_eq_true h)
  · exact .inr h

theorem look_ok (g : GOk Kp G s a w) {x : Value} {c : Cell} {v : V} (hc : CellOk G w s x c) (h : (look c).out s = some v) : Stands w x v := by
  cases c with
  | val k d =>
    simp only [look, Rd.out, Option.some.injEq] at h
    subst h
    obtain ⟨c, h1, h2⟩ := hc
    exact ⟨_, _, c, h1, h2⟩
  | cst k d =>
    simp only [look, Rd.out, Option.some.injEq] at h
    subst h
    obtain ⟨c, h1, h2⟩ := hc
    exact ⟨_, _, c, h1, h2⟩
  | al r p ver =>
    simp only [look, Rd.out] at h
    simp only [CellOk] at hc
    have hro := g.roots r
    cases hs : s (rt r) with
    | root k d dep box frz ver' =>
      rw [hs] at h hc hro
      simp only [bif_out, Rd.out_opt, Rd.out] at h
      rcases bif_some h with ⟨h1, h2⟩ | ⟨_, h2⟩
      · obtain ⟨x', k1, k2, k3⟩ := hc.2 (verOk h1)
        rw [h2] at k1
        injection k1 with k1
        subst k1
        exact ⟨_, _, _, k3, getP_rep hro.1 k2 h2⟩
      · simp at h2
    | _ => rw [hs] at h; simp [Rd.out] at h
  | _ => simp [look, Rd.out] at h

theorem rdV_ok (g : GOk Kp G s a w) {x : Operand} {v : V} (h : (rdV x).out s = some v) : Stands w (a.eval x) v := by
  simp only [rdV, Rd.out_bind, Option.bind_eq_some_iff] at h
  obtain ⟨c, h1, h2⟩ := h
  exact look_ok g (rdB_ok g h1) h2
theorem rdVt_ok (g : GOk Kp G s a w) {t : TypeId} {x : Operand} {v : V} (h : (rdVt Γ t x).out s = some v) : Stands w (a.eval x) v := by
  simp only [rdVt, Rd.out_bind, Option.bind_eq_some_iff] at h
  obtain ⟨c, h1, h2⟩ := h
  exact look_ok g (rdOp_ok g h1) h2

theorem Stands.int {x : Value} {ik : IntKind} {n : Int} (h : Stands w x ⟨.int ik, n⟩) : x = .int ik n := by
  obtain ⟨S, q, c, h1, h2⟩ := h
  simp only [Rep] at h2
  subst h2
  exact h1
theorem Stands.bool {x : Value} {b : Bool} (h : Stands w x ⟨.bool, b⟩) : x = .bool b := by
  obtain ⟨S, q, c, h1, h2⟩ := h
  simp only [Rep] at h2
  subst h2
  exact h1
theorem Stands.str {x : Value} {b : ByteArray} (h : Stands w x ⟨.str, b⟩) : x = .string b := by
  obtain ⟨S, q, c, h1, h2⟩ := h
  simp only [Rep] at h2
  subst h2
  exact h1
theorem Stands.slice {x : Value} {e : Kd} {l : List e.den} (h : Stands w x ⟨.slice e, l⟩) : ((∃ a, x = .slice a 0 0) ∧ l = []) ∨ ∃ b off cap, x = .slice (some ⟨b, off, none⟩) l.length cap ∧ l.length ≤ cap ∧ BlockOk w b (off + cap * e.size) := by
  obtain ⟨S, q, c, h1, h2⟩ := h
  simp only [Rep] at h2
  rcases h2 with ⟨⟨a, h2⟩, h3⟩ | ⟨b, off, cap, h2, h3, _, h4, _⟩
  · subst h2; exact .inl ⟨⟨a, h1⟩, h3⟩
  · subst h2; exact .inr ⟨b, off, cap, h1, h3, h4⟩
theorem asInt_ok {v : V} {x : IntKind × Int} (h : (asInt v).out s = some x) : v = ⟨.int x.1, x.2⟩ := by
  unfold asInt at h
  split at h <;> simp [Rd.out] at h
  subst h
  rfl
theorem asB_ok {v : V} {b : Bool} (h : (asB v).out s = some b) : v = ⟨.bool, b⟩ := by
  unfold asB at h
  split at h <;> simp [Rd.out] at h
  subst h
  rfl
/-- A flat value, put into a slot. -/
theorem flatCell {k : Kd} {d : k.den} {x : Value} (hf : k.flat = true) (h : Stands w x ⟨k, d⟩) : CellOk G w s x (.val k d) := by
  obtain ⟨S, q, c, h1, h2⟩ := h
  exact ⟨c, h1, h2.flat w _ [] hf⟩
theorem boolCell (b : Bool) : CellOk G w s (.bool b) (.val .bool b) := ⟨[.bool b], rfl, rfl⟩
theorem intCell (k : IntKind) (n : Int) : CellOk G w s (.int k n) (.val (.int k) n) := ⟨[.int k n], rfl, rfl⟩
theorem strCell (b : ByteArray) : CellOk G w s (.string b) (.val .str b) := ⟨[.string b], rfl, rfl⟩
end
end Go.V
