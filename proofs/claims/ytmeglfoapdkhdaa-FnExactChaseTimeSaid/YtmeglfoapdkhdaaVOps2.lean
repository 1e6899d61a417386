/- The operations' soundness, second part: operations that write a slot alone. -/
import Derived.Lib.SliceRun
import Derived.Test.YtmeglfoapdkhdaaVOps1
import Derived.Laws.Slices
set_option linter.unusedVariables false
set_option linter.unusedSimpArgs false
namespace Go.V

theorem wp_value {P : Program} {o : Oper} {a : Act} {w w' : World} {K : Act → World → Prop} {Q : Exit → Act → World → Prop} {v : Value}
    (h : (execOp a.eval o).run P w = .ok (.value v) w') (hK : K (a.put o.dst v) w') : o.wp P a w K Q := by
  unfold Oper.wp
  rw [h]
  exact hK

/-- The setting of an operation's soundness. -/
structure Set_ (P : Program) (Γ : Ctx) (Kp : Keep) (B0 : World) (n : Nat) (G : Gh) (s : State) (a : Act) (w : World) (o : Oper) : Prop where
  tab : TabOk P Γ.tk Γ.ar
  inv : Inv Kp B0 n s a w
  g : GOk Kp G s a w
  dst : ∀ d, o.dst = some d → d < n

section
variable {P : Program} {Γ : Ctx} {Kp : Keep} {B0 : World} {n : Nat} {G : Gh} {s : State} {a : Act} {w : World} {o : Oper} {Q : Exit → Act → World → Prop} {ws : Writes} {id : Nat}

/-- An operation that writes its slot alone, the world unchanged. -/
theorem slot_ok (S : Set_ P Γ Kp B0 n G s a w o) {c : Cell} (hok : dstOk o [(sl (o.dst.getD 4095), c)] = true) {v : Value} (hrun : (execOp a.eval o).run P w = .ok (.value v) w)
    (hc : CellOk G w s v c) : o.wp P a w (fun a' w' => Inv Kp B0 n (s.put [(sl (o.dst.getD 4095), c)]) a' w') Q := by
  refine wp_value hrun ?_
  cases hd : o.dst with
  | none =>
    unfold dstOk at hok
    rw [hd] at hok
    simp [sl] at hok
  | some d =>
    simp only [Option.getD_some]
    exact S.inv.slot S.g (S.dst d hd) hc

theorem move_ok (S : Set_ P Γ Kp B0 n G s a w o) {x : Operand} (ho : o.op = .move x ∨ o.op = .assign x) (hdm : Γ.dm (o.dst.getD 4095) = false) (h : (opD Γ id o).out s = some ws) (hok : dstOk o ws = true) :
    o.wp P a w (fun a' w' => Inv Kp B0 n (s.put ws) a' w') Q := by
  have h' : ((rdOp Γ o.type x).bind (fun | .none | .dead | .root .. => .fail | c => .ret [(sl (o.dst.getD 4095), c)])).out s = some ws := by
    rcases ho with ho | ho <;> (unfold opD at h; rw [ho] at h; simp only [hdm, cond_false] at h; exact h)
  simp only [Rd.out_bind, Option.bind_eq_some_iff] at h'
  obtain ⟨c, h1, h2⟩ := h'
  have hc := rdOp_ok S.g h1
  have hrun : (execOp a.eval o).run P w = .ok (.value (a.eval x)) w := by
    unfold execOp
    rcases ho with ho | ho <;> rw [ho] <;> rfl
  cases c <;> simp only [Rd.out, Option.some.injEq, reduceCtorEq] at h2 <;> subst h2 <;> exact slot_ok S hok hrun hc

theorem max_ok (S : Set_ P Γ Kp B0 n G s a w o) {as : Array Operand} {ts : Array TypeId} (ho : o.op = .call { callee := .builtin .max, args := as, argTypes := ts }) (h : (opD Γ id o).out s = some ws) (hok : dstOk o ws = true) :
    o.wp P a w (fun a' w' => Inv Kp B0 n (s.put ws) a' w') Q := by
  unfold opD at h
  rw [ho] at h
  simp only at h
  split at h
  · rename_i x y ha
    have has : as = #[x, y] := by apply Array.ext'; simpa using ha
    subst has
    simp only [Rd.out_bind, Option.bind_eq_some_iff] at h
    obtain ⟨cx, h1, vx, h2, m, h3, cy, h4, vy, h5, k, h6, h7⟩ := h
    simp only [bif_out] at h7
    rcases bif_some h7 with ⟨h8, h9⟩ | ⟨_, h9⟩
    · have h8 := of_decide_eq_true h8
      have h9 := Option.some.inj h9
      subst h9
      have e1 := asInt_ok h3
      have e2 := asInt_ok h6
      subst e1 e2
      have f1 := (look_ok S.g (rdB_ok S.g h1) h2).int
      have f2 := (look_ok S.g (rdB_ok S.g h4) h5).int
      refine slot_ok S hok (v := .int m.1 (if m.2 < k.2 then k.2 else m.2)) ?_ (intCell _ _)
      unfold execOp
      rw [ho]
      simp [resolve, invoke, builtin, Builtin.max_, Builtin.max2, f1, f2]
    · simp [Rd.out] at h9
  · simp [Rd.out] at h

theorem pick_ok (S : Set_ P Γ Kp B0 n G s a w o) {c x y : Operand} (ho : o.op = .pick c x y) (h : (opD Γ id o).out s = some ws) (hok : dstOk o ws = true) :
    o.wp P a w (fun a' w' => Inv Kp B0 n (s.put ws) a' w') Q := by
  unfold opD at h
  rw [ho] at h
  simp only [Rd.out_bind, Option.bind_eq_some_iff] at h
  obtain ⟨v, h1, z, h2, h3⟩ := h
  have hb := asB_ok h2
  subst hb
  have hv := (rdV_ok S.g h1).bool
  simp only [Rd.out] at h3
  have key : ∀ (u : Operand), ((rdOp Γ o.type u).bind fun | .val k x => .ret [(sl (o.dst.getD 4095), .val k x)] | .cst k x => .ret [(sl (o.dst.getD 4095), .val k x)] | _ => .fail).out s = some ws →
      (execOp a.eval o).run P w = .ok (.value (a.eval u)) w → o.wp P a w (fun a' w' => Inv Kp B0 n (s.put ws) a' w') Q := by
    intro u hu hrun
    simp only [Rd.out_bind, Option.bind_eq_some_iff] at hu
    obtain ⟨cl, k1, k2⟩ := hu
    have hc := rdOp_ok S.g k1
    cases cl <;> simp only [Rd.out, Option.some.injEq, reduceCtorEq] at k2 <;> subst k2
    · exact slot_ok S hok hrun hc
    · obtain ⟨cs, e1, e2⟩ := hc
      exact slot_ok S hok hrun ⟨cs, e1, e2.frame fun q b _ hs _ => hs.elim⟩
  have hrun : (execOp a.eval o).run P w = .ok (.value (if z then a.eval x else a.eval y)) w := by
    unfold execOp
    rw [ho]
    simp [hv, asBool]
  cases z with
  | true =>
    rw [if_pos rfl] at h3
    exact key x h3 (by simpa using hrun)
  | false =>
    rw [if_neg (by simp)] at h3
    exact key y h3 (by simpa using hrun)

theorem run_eqGuard_int (op : BinOp) (t : TypeId) (x y : Operand) (k k' : IntKind) (p q : Int) (w : World) : (eqGuard op t x y (.int k p) (.int k' q)).run P w = .ok () w := by
  unfold eqGuard
  cases op <;> rfl
theorem run_eqGuard_str (op : BinOp) (t : TypeId) (x y : Operand) (p q : ByteArray) (w : World) : (eqGuard op t x y (.string p) (.string q)).run P w = .ok () w := by
  unfold eqGuard
  cases op <;> rfl
theorem run_eqGuard_bool (op : BinOp) (t : TypeId) (x y : Operand) (p q : Bool) (w : World) : (eqGuard op t x y (.bool p) (.bool q)).run P w = .ok () w := by
  unfold eqGuard
  cases op <;> rfl

theorem binR_flat {t : Option Kd} {op : BinOp} {x y v : V} (h : (binR t op x y).out s = some v) : v.k.flat = true := by
  unfold binR at h
  split at h
  · split at h <;> (try (simp only [Rd.out] at h; split at h <;> simp [Rd.out] at h; subst h; rfl))
    simp only [bif_out] at h
    rcases bif_some h with ⟨_, h⟩ | ⟨_, h⟩
    · split at h <;> simp only [Rd.out, Rd.out_bind, Rd.out_opt, Option.bind_eq_some_iff, Option.some.injEq, reduceCtorEq] at h <;>
        first
          | (subst h; rfl)
          | (split at h <;> simp at h; subst h; rfl)
          | (obtain ⟨_, _, h⟩ := h; subst h; rfl)
    · simp [Rd.out] at h
  · split at h <;> simp only [Rd.out, Option.some.injEq, reduceCtorEq] at h <;>
      first
        | (subst h; rfl)
        | (split at h <;> simp at h; subst h; rfl)
  · simp only [bif_out] at h
    rcases bif_some h with ⟨_, h⟩ | ⟨_, h⟩
    · split at h <;> simp only [Rd.out, Option.some.injEq, reduceCtorEq] at h <;> subst h <;> rfl
    · simp [Rd.out] at h
  · simp [Rd.out] at h

theorem run_equalIn_bool (d : Nat) (t : TypeId) (ht : P.underlying t = some .bool) (p q : Bool) (w : World) : (Op.equalIn (d + 1) t (.bool p) (.bool q)).run P w = .ok (p == q) w := by
  simp [Op.equalIn, run_underlying ht]
theorem run_equal_bool (t : TypeId) (ht : P.underlying t = some .bool) (p q : Bool) (w : World) : (Op.equal t (.bool p) (.bool q)).run P w = .ok (p == q) w :=
  run_equalIn_bool 9999 t ht p q w

theorem binR_run (hT : TabOk P Γ.tk Γ.ar) {t : TypeId} {op : BinOp} {x y v : V} {p q : Value} (h : (binR (Γ.tk t) op x y).out s = some v) (hx : Stands w p x) (hy : Stands w q y) :
    ∃ r, (binOp op t p q).run P w = .ok r w ∧ Stands w r v ∧ ∀ ox oy, (eqGuard op t ox oy p q).run P w = .ok () w := by
  have mkI : ∀ (k : IntKind) (z : Int), Stands w (.int k z) ⟨.int k, z⟩ := fun k z => ⟨noS, [], [.int k z], rfl, rfl⟩
  have mkB : ∀ (z : Bool), Stands w (.bool z) ⟨.bool, z⟩ := fun z => ⟨noS, [], [.bool z], rfl, rfl⟩
  have mkS : ∀ (z : ByteArray), Stands w (.string z) ⟨.str, z⟩ := fun z => ⟨noS, [], [.string z], rfl, rfl⟩
  unfold binR at h
  split at h
  · rename_i k x k' y
    have hx := hx.int
    have hy := hy.int
    subst hx hy
    split at h
    · simp only [Rd.out] at h
      split at h
      · rename_i h0
        simp only [Rd.out, Option.some.injEq] at h
        subst h
        have h0 : 0 ≤ y := of_decide_eq_true h0
        refine ⟨_, ?_, mkI _ _, fun ox oy => run_eqGuard_int _ _ _ _ _ _ _ _ _⟩
        have : ¬ @LT.lt Int _ y 0 := Int.not_lt.2 h0
        simp [binOp, Op.shift, this, shl]
      · simp [Rd.out] at h
    · simp only [Rd.out] at h
      split at h
      · rename_i h0
        simp only [Rd.out, Option.some.injEq] at h
        subst h
        have h0 : 0 ≤ y := of_decide_eq_true h0
        refine ⟨_, ?_, mkI _ _, fun ox oy => run_eqGuard_int _ _ _ _ _ _ _ _ _⟩
        have : ¬ @LT.lt Int _ y 0 := Int.not_lt.2 h0
        simp [binOp, Op.shift, this, shr]
      · simp [Rd.out] at h
    · rename_i hn1 hn2
      simp only [bif_out] at h
      rcases bif_some h with ⟨hk, h⟩ | ⟨_, h⟩
      · have hk : k = k' := of_decide_eq_true hk
        subst hk
        split at h <;> simp only [Rd.out, Rd.out_bind, Rd.out_opt, Option.bind_eq_some_iff, Option.some.injEq, reduceCtorEq] at h
        · subst h; exact ⟨_, by simp [binOp, Op.intArith] <;> rfl, mkI _ _, fun ox oy => run_eqGuard_int _ _ _ _ _ _ _ _ _⟩
        · subst h; exact ⟨_, by simp [binOp, Op.intArith] <;> rfl, mkI _ _, fun ox oy => run_eqGuard_int _ _ _ _ _ _ _ _ _⟩
        · subst h; exact ⟨_, by simp [binOp, Op.intArith] <;> rfl, mkI _ _, fun ox oy => run_eqGuard_int _ _ _ _ _ _ _ _ _⟩
        · split at h
          · rename_i h0
            simp only [Option.some.injEq] at h
            subst h
            have h0 : y ≠ 0 := by simpa using h0
            exact ⟨_, by simp [binOp, Op.intDiv, h0] <;> rfl, mkI _ _, fun ox oy => run_eqGuard_int _ _ _ _ _ _ _ _ _⟩
          · simp at h
        · split at h
          · rename_i h0
            simp only [Option.some.injEq] at h
            subst h
            have h0 : y ≠ 0 := by simpa using h0
            exact ⟨_, by simp [binOp, Op.intDiv, h0] <;> rfl, mkI _ _, fun ox oy => run_eqGuard_int _ _ _ _ _ _ _ _ _⟩
          · simp at h
        · subst h; exact ⟨_, by simp [binOp, Op.intBits, bits, bitI] <;> rfl, mkI _ _, fun ox oy => run_eqGuard_int _ _ _ _ _ _ _ _ _⟩
        · subst h; exact ⟨_, by simp [binOp, Op.intBits, bits, bitI] <;> rfl, mkI _ _, fun ox oy => run_eqGuard_int _ _ _ _ _ _ _ _ _⟩
        · subst h; exact ⟨_, by simp [binOp, Op.intBits, bits, bitI] <;> rfl, mkI _ _, fun ox oy => run_eqGuard_int _ _ _ _ _ _ _ _ _⟩
        · subst h; exact ⟨_, by simp [binOp, Op.intBits, bits, bitI] <;> rfl, mkI _ _, fun ox oy => run_eqGuard_int _ _ _ _ _ _ _ _ _⟩
        · obtain ⟨z, h1, h2⟩ := h
          subst h2
          refine ⟨.bool z, ?_, mkB _, fun ox oy => run_eqGuard_int _ _ _ _ _ _ _ _ _⟩
          cases op <;> simp [cmpI] at h1 <;> subst h1 <;> simp [binOp, Op.intCmp]
      · simp [Rd.out] at h
  · rename_i x y
    have hx := hx.str
    have hy := hy.str
    subst hx hy
    split at h <;> simp only [Rd.out, Option.some.injEq, reduceCtorEq] at h
    · split at h
      · rename_i h0
        simp only [Option.some.injEq] at h
        subst h
        have h0 : x.size + y.size ≤ maxLen := of_decide_eq_true h0
        refine ⟨_, ?_, mkS _, fun ox oy => run_eqGuard_str _ _ _ _ _ _ _⟩
        have : ¬ ((x.size + y.size : Nat) : Int) > IntKind.i64.max := by unfold maxLen at h0; simp [IntKind.max, IntKind.signed, IntKind.bits]; omega
        simp only [binOp, Op.stringOp, if_neg this]
        rfl
      · simp at h
    all_goals
      subst h
      exact ⟨_, rfl, mkB _, fun ox oy => run_eqGuard_str _ _ _ _ _ _ _⟩
  · rename_i x y
    simp only [bif_out] at h
    rcases bif_some h with ⟨ht, h⟩ | ⟨_, h⟩
    · have hu := under_bool hT (of_decide_eq_true ht)
      have hx := hx.bool
      have hy := hy.bool
      subst hx hy
      split at h <;> simp only [Rd.out, Option.some.injEq, reduceCtorEq] at h <;> subst h
      · exact ⟨_, by simp [binOp, run_equal_bool t hu] <;> rfl, mkB _, fun ox oy => run_eqGuard_bool _ _ _ _ _ _ _⟩
      · exact ⟨_, by simp [binOp, run_equal_bool t hu] <;> rfl, mkB _, fun ox oy => run_eqGuard_bool _ _ _ _ _ _ _⟩
    · simp [Rd.out] at h
  · simp [Rd.out] at h

theorem kindOf_ok {t : TypeId} {k : Kd} (h : (kindOf Γ t).out s = some k) : Γ.tk t = some k := by simpa [kindOf, Rd.out_opt] using h
theorem kindIs_ok {t : TypeId} {k : Kd} (h : (kindIs Γ t k).out s = some ()) : Γ.tk t = some k := by
  simp only [kindIs, bif_out] at h
  rcases bif_some h with ⟨h, _⟩ | ⟨_, h⟩
  · exact of_decide_eq_true h
  · simp [Rd.out] at h

theorem isNilEq_of {op : BinOp} {y : Operand} (h : isNilEq op y = true) : op = .eql ∧ y = .const (.slice none 0 0) := by
  unfold isNilEq at h
  split at h
  · exact ⟨rfl, rfl⟩
  · cases h
theorem bin_ok (S : Set_ P Γ Kp B0 n G s a w o) {op : BinOp} {t t' : TypeId} {x y : Operand} (ho : o.op = .binOp op t x y t') (h : (opD Γ id o).out s = some ws) (hok : dstOk o ws = true) :
    o.wp P a w (fun a' w' => Inv Kp B0 n (s.put ws) a' w') Q := by
  unfold opD at h
  rw [ho] at h
  simp only [bif_out] at h
  rcases bif_some h with ⟨hn, h0⟩ | ⟨_, h⟩
  · clear h
    obtain ⟨rfl, rfl⟩ := isNilEq_of hn
    rw [Rd.out_bind, Option.bind_eq_some_iff] at h0
    obtain ⟨v, h1, h2⟩ := h0
    unfold nilR at h2
    split at h2
    · rename_i e l
      simp only [Rd.out_bind, Option.bind_eq_some_iff, Rd.out, Option.some.injEq] at h2
      obtain ⟨_, h3, h4⟩ := h2
      subst h4
      obtain ⟨te, h5, _⟩ := under_slice S.tab (kindIs_ok h3)
      have key : ∀ (b : Option Addr) (m c : Nat), a.eval x = .slice b m c → (b = none → List.length l = 0) → o.wp P a w (fun a' w' => Inv Kp B0 n (s.put [(sl (o.dst.getD 4095), Cell.nlq (decide (List.length l = 0)))]) a' w') Q := fun b m c he hb => by
        refine slot_ok S hok (v := .bool b.isNone) ?_ ⟨_, rfl, fun hz => decide_eq_true (hb (by simpa using hz))⟩
        unfold execOp
        rw [ho]
        have hc : a.eval (.const (.slice none 0 0)) = .slice none 0 0 := rfl
        simp [he, hc, eqGuard, Lib.run_eql_slice_nil w t te b m c 0 0 h5]
      rcases (rdVt_ok S.g h1).slice with ⟨⟨b, h6⟩, h7⟩ | ⟨b, off, cap, h6, _⟩
      · exact key b 0 0 h6 (fun _ => by rw [h7]; rfl)
      · exact key _ _ _ h6 (fun hb => by cases hb)
    · simp [Rd.out] at h2
  simp only [Rd.out_bind, Option.bind_eq_some_iff, Rd.out, Option.some.injEq] at h
  obtain ⟨p, h1, q, h2, v, h3, h4⟩ := h
  subst h4
  obtain ⟨r, k1, k2, k3⟩ := binR_run S.tab h3 (rdVt_ok S.g h1) (rdVt_ok S.g h2)
  refine slot_ok S hok (v := r) ?_ (flatCell (binR_flat h3) k2)
  unfold execOp
  rw [ho]
  simp [k3, k1]

theorem un_ok (S : Set_ P Γ Kp B0 n G s a w o) {op : UnOp} {t : TypeId} {x : Operand} (ho : o.op = .unOp op t x) (h : (opD Γ id o).out s = some ws) (hok : dstOk o ws = true) :
    o.wp P a w (fun a' w' => Inv Kp B0 n (s.put ws) a' w') Q := by
  unfold opD at h
  rw [ho] at h
  simp only [Rd.out_bind, Option.bind_eq_some_iff, Rd.out, Option.some.injEq] at h
  obtain ⟨p, h1, v, h3, h4⟩ := h
  subst h4
  have hp := rdVt_ok S.g h1
  unfold unR at h3
  split at h3 <;> simp only [Rd.out, Option.some.injEq, reduceCtorEq] at h3 <;> subst h3
  · refine slot_ok S hok (v := _) ?_ (intCell _ _)
    unfold execOp
    rw [ho]
    simp [hp.int, Op.unary, Op.intArith]
  · refine slot_ok S hok (v := _) ?_ (intCell _ _)
    unfold execOp
    rw [ho]
    simp [hp.int, Op.unary, Op.intBits, bits, bitI]
  · refine slot_ok S hok (v := _) ?_ (boolCell _)
    unfold execOp
    rw [ho]
    simp [hp.bool, Op.unary]

theorem convert_ok (S : Set_ P Γ Kp B0 n G s a w o) {t t' : TypeId} {x : Operand} (ho : o.op = .convert t t' x) (h : (opD Γ id o).out s = some ws) (hok : dstOk o ws = true) :
    o.wp P a w (fun a' w' => Inv Kp B0 n (s.put ws) a' w') Q := by
  unfold opD at h
  rw [ho] at h
  simp only [Rd.out_bind, Option.bind_eq_some_iff] at h
  obtain ⟨p, h1, u, h2, k, h3, h4⟩ := h
  have hp := rdVt_ok S.g h1
  have hs := kindIs_ok h2
  have hk := kindOf_ok h3
  split at h4 <;> simp only [Rd.out, Option.some.injEq, reduceCtorEq] at h4 <;> subst h4
  · refine slot_ok S hok (v := _) ?_ (intCell _ _)
    unfold execOp
    rw [ho]
    simp [hp.int, convert, run_underlying (under_int S.tab hs), run_underlying (under_int S.tab hk), Conv.intToInt]
  · refine slot_ok S hok (v := _) ?_ (strCell _)
    unfold execOp
    rw [ho]
    simp [hp.str, convert, run_underlying (under_str S.tab hs), run_underlying (under_str S.tab hk)]
end
end Go.V
