/- The operations' soundness, third part: addresses, loads, parts. -/
import Derived.Test.YtmeglfoapdkhdaaVOps2
set_option linter.unusedVariables false
set_option linter.unusedSimpArgs false
namespace Go.V

def offF : Nat → Kd → Nat
  | 0, _ => 0
  | j + 1, .pair a b => a.size + offF j b
  | _, _ => 0

theorem add_mk (B O n : Nat) : (⟨B, O, none⟩ : Addr).add n = ⟨B, O + n, none⟩ := by
  unfold Addr.add
  split
  · subst_vars; rfl
  · rfl

theorem subA_fld (w : World) : ∀ {j : Nat} {k : Kd} {d : k.den} {y : V} {c : List Value} {B O : Nat}, getP (fld j) k d = some y → subA w (fld j) k c (some (B, O)) = some (B, O + offF j k) := by
  intro j
  induction j with
  | zero =>
    intro k d y c B O h
    cases k with
    | pair a b => simp [fld, subA, offF]
    | _ => simp [fld, getP] at h
  | succ j ih =>
    intro k d y c B O h
    cases k with
    | pair a b =>
      simp only [fld, getP, subA, offF, Option.map_some] at h ⊢
      rw [ih h]
      simp [Nat.add_assoc]
    | _ => simp [fld, getP] at h
theorem subC_fld (w : World) : ∀ {j : Nat} {k : Kd} {d : k.den} {y : V} {c : List Value}, getP (fld j) k d = some y → subC w (fld j) k c = (c.drop (offF j k)).take y.k.size := by
  intro j
  induction j with
  | zero =>
    intro k d y c h
    cases k with
    | pair a b => simp only [fld, getP, Option.some.injEq] at h; subst h; simp [fld, subC, offF]
    | _ => simp [fld, getP] at h
  | succ j ih =>
    intro k d y c h
    cases k with
    | pair a b =>
      simp only [fld, getP, subC, offF] at h ⊢
      rw [ih h, List.drop_drop]
    | _ => simp [fld, getP] at h
theorem fld_ok : ∀ {j : Nat} {k : Kd} {d : k.den} {y : V}, getP (fld j) k d = some y → okP (fld j) k d := by
  intro j
  induction j with
  | zero =>
    intro k d y h
    cases k with
    | pair a b => trivial
    | _ => simp [fld, getP] at h
  | succ j ih =>
    intro k d y h
    cases k with
    | pair a b => simp only [fld, getP, okP] at h ⊢; exact ih h
    | _ => simp [fld, getP] at h
theorem noIdx_fld : ∀ j, noIdx (fld j) = true := by
  intro j
  induction j with
  | zero => rfl
  | succ j ih => exact ih
theorem noIdx_append : ∀ {p q : Path}, noIdx p = true → noIdx q = true → noIdx (p ++ q) = true := by
  intro p
  induction p with
  | nil => intro q _ h; exact h
  | cons s p ih =>
    intro q h1 h2
    cases s with
    | l => exact ih h1 h2
    | r => exact ih h1 h2
    | i n => simp [noIdx] at h1

section
variable {P : Program} {tk : TypeId → Option Kd} {ar : TypeId → Option TypeId}
theorem fields_at : ∀ {j : Nat} {fs : List Field} {off : Nat} {k : Kd} {d : k.den} {y : V}, fieldsOk P tk fs off k = true → getP (fld j) k d = some y →
    ∃ f, fs[j]? = some f ∧ f.offset = off + offF j k ∧ tk f.type = some y.k ∧ 0 < y.k.size := by
  intro j
  induction j with
  | zero =>
    intro fs off k d y h hg
    cases k with
    | pair a b =>
      cases fs with
      | nil => simp [fieldsOk] at h
      | cons f fs =>
        simp only [fieldsOk, Bool.and_eq_true, decide_eq_true_eq] at h
        simp only [fld, getP, Option.some.injEq] at hg
        subst hg
        exact ⟨f, rfl, by simpa [offF] using Nat.eq_of_beq_eq_true h.1.1.1, h.1.1.2, h.1.2⟩
    | _ => simp [fld, getP] at hg
  | succ j ih =>
    intro fs off k d y h hg
    cases k with
    | pair a b =>
      cases fs with
      | nil => simp [fieldsOk] at h
      | cons f fs =>
        simp only [fieldsOk, Bool.and_eq_true, decide_eq_true_eq] at h
        simp only [fld, getP] at hg
        obtain ⟨f', h1, h2, h3, h4⟩ := ih h.2 hg
        exact ⟨f', by simpa using h1, by simp only [offF]; omega, h3, h4⟩
    | _ => simp [fld, getP] at hg
theorem arr_len : ∀ {n : Nat} {e : TypeId} {k : Kd}, arrOk tk e n k = true → arrLen k = n := by
  intro n
  induction n with
  | zero => intro e k h; cases k <;> simp [arrOk] at h; rfl
  | succ n ih =>
    intro e k h
    cases k with
    | pair a b =>
      simp only [arrOk, Bool.and_eq_true] at h
      simp [arrLen, ih h.2]
    | _ => simp [arrOk] at h
theorem arr_at : ∀ {n j : Nat} {e : TypeId} {k : Kd} {d : k.den} {y : V}, arrOk tk e n k = true → getP (fld j) k d = some y → tk e = some y.k ∧ offF j k = j * y.k.size := by
  intro n
  induction n with
  | zero => intro j e k d y h hg; cases k <;> simp [arrOk] at h; cases j <;> simp [fld, getP] at hg
  | succ n ih =>
    intro j e k d y h hg
    cases k with
    | pair a b =>
      simp only [arrOk, Bool.and_eq_true, decide_eq_true_eq] at h
      cases j with
      | zero =>
        simp only [fld, getP, Option.some.injEq] at hg
        subst hg
        exact ⟨h.1, by simp [offF]⟩
      | succ j =>
        simp only [fld, getP] at hg
        obtain ⟨h1, h2⟩ := ih h.2 hg
        refine ⟨h1, ?_⟩
        have : a = y.k := by
          have := h.1.symm.trans h1
          exact Option.some.inj this
        simp only [offF, h2, this, Nat.add_mul]
        omega
    | _ => simp [arrOk] at h

/-- A whole variable read. -/
theorem run_loadVar (hT : TabOk P tk ar) {t : TypeId} {k : Kd} (ht : tk t = some k) {w : World} {B O : Nat} (hb : BlockOk w B (O + k.size)) :
    (loadVar t ⟨B, O, none⟩).run P w = .ok (mkVal k (cellsAt w B O k.size)) w := by
  obtain ⟨i, z, hr⟩ := row_of hT ht
  have hl := cellsAt_length hb
  have hc := cell?_cellsAt hb
  cases ha : k.agg with
  | true =>
    have := run_loadCells_list (P := P) (w := w) ⟨B, O, none⟩ (cellsAt w B O k.size) hc
    rw [hl] at this
    simp [loadVar, run_isAgg hT ht, ha, run_size hr, this, mkVal]
  | false =>
    have h1 : k.size = 1 := by cases k <;> simp_all [Kd.agg, Kd.size]
    have hh : ∃ v, cellsAt w B O k.size = [v] := by
      rw [h1] at hl ⊢
      match hq : cellsAt w B O 1, hl with
      | [v], _ => exact ⟨v, rfl⟩
    obtain ⟨v, hv⟩ := hh
    have := hc 0 v (by rw [hv]; rfl)
    rw [add_mk, Nat.add_zero] at this
    simp [loadVar, run_isAgg hT ht, ha, this, mkVal, hv]
end

section
variable {P : Program} {Γ : Ctx} {Kp : Keep} {B0 : World} {n : Nat} {G : Gh} {s : State} {a : Act} {w : World} {o : Oper} {Q : Exit → Act → World → Prop} {ws : Writes} {id : Nat}

theorem home_ok {r : Nat} {k : Kd} {d : k.den} {dep : Nat} {box frz : Bool} {ver : Nat} (h : RootOk G w r (.root k d dep box frz ver)) :
    ∀ b o, home G r box = some (b, o) → G.C r = cellsAt w b o k.size ∧ BlockOk w b (o + k.size) := by
  intro b o hh
  unfold home at hh
  cases box with
  | false => simp at hh
  | true =>
    simp only [cond_true, Option.some.injEq, Prod.mk.injEq] at hh
    obtain ⟨rfl, rfl⟩ := hh
    obtain ⟨h1, h2⟩ := h
    obtain ⟨⟨cs, T, e1, e2⟩, _⟩ := h2 rfl
    have hl := h1.length
    refine ⟨?_, ⟨cs, T, _, e1, ?_⟩⟩
    · unfold cellsAt
      rw [e1]
      simp only [List.drop_zero]
      rw [e2, List.take_of_length_le (by omega)]
    · rw [← e2, Array.length_toList] at hl
      omega

/-- A pointer into a root, opened. -/
theorem ptr_open (g : GOk Kp G s a w) {x : Value} {r : Nat} {p : Path} {ver : Nat} (hc : CellOk G w s x (.ptr r p ver)) {k : Kd} {d : k.den} {dep : Nat} {box frz : Bool} {ver' : Nat}
    (hs : s (rt r) = .root k d dep box frz ver') (hv : (Nat.beq ver ver' || (box && noIdx p)) = true) :
    ∃ y B O, getP p k d = some y ∧ okP p k d ∧ subA w p k (G.C r) (home G r box) = some (B, O) ∧ x = .pointer (some ⟨B, O, none⟩) ∧ subC w p k (G.C r) = cellsAt w B O y.k.size ∧ BlockOk w B (O + y.k.size) ∧
      Rep w (ownS G.φ r dep) y.k p (cellsAt w B O y.k.size) y.d ∧ RootOk G w r (.root k d dep box frz ver') := by
  have hro := g.roots r
  rw [hs] at hro
  simp only [CellOk] at hc
  rw [hs] at hc
  have hv' : ver = ver' ∨ (box = true ∧ noIdx p = true) := by
    simp only [Bool.or_eq_true, Bool.and_eq_true] at hv
    exact hv.imp Nat.eq_of_beq_eq_true _root_.id
  obtain ⟨y, h1, h2, B, O, h3, h4⟩ := hc.2 hv'
  obtain ⟨h5, h6⟩ := subA_cells hro.1 h2 h1 (home_ok hro) h3
  have h7 := getP_rep hro.1 h2 h1
  rw [h5] at h7
  exact ⟨y, B, O, h1, h2, h3, h4, h5, h6, by simpa using h7, hro⟩

theorem stepAddr_ok (g : GOk Kp G s a w) {x : Value} {c c' : Cell} {k : Kd} {j : Nat} (hc : CellOk G w s x c) (h : (stepAddr k (fld j) c).out s = some c') :
    ∃ B O y d, x = .pointer (some ⟨B, O, none⟩) ∧ getP (fld j) k d = some y ∧ CellOk G w s (.pointer (some ⟨B, O + offF j k, none⟩)) c' := by
  cases c with
  | ptr r p ver =>
    simp only [stepAddr, Rd.out] at h
    cases hs : s (rt r) with
    | root k0 d0 dep box frz ver' =>
      rw [hs] at h
      simp only [bif_out, Rd.out] at h
      rcases bif_some h with ⟨hv, h⟩ | ⟨_, h⟩
      · simp only [Rd.out_bind, Rd.out_opt, Option.bind_eq_some_iff, bif_out, Rd.out] at h
        obtain ⟨y, h1, h2⟩ := h
        rcases bif_some h2 with ⟨h3, h4⟩ | ⟨_, h4⟩
        · simp only [Option.some.injEq] at h4
          subst h4
          simp only [Bool.and_eq_true, decide_eq_true_eq] at h3
          obtain ⟨hk, hz⟩ := h3
          obtain ⟨z, hz⟩ := Option.isSome_iff_exists.1 hz
          obtain ⟨y', B, O, e1, e2, e3, e4, e5, e6, e7, hro⟩ := ptr_open g hc hs hv
          rw [h1] at e1
          injection e1 with e1
          subst e1
          subst hk
          refine ⟨B, O, z, y.d, e4, hz, ?_⟩
          simp only [CellOk]
          rw [hs]
          refine ⟨Nat.le_refl _, fun _ => ⟨z, (getP_append h1).trans hz, okP_append h1 e2 (fld_ok hz), B, O + offF j y.k, ?_, rfl⟩⟩
          rw [subA_append hro.1 e2 h1, e3]
          exact subA_fld w hz
        · simp at h4
      · simp at h
    | _ => rw [hs] at h; simp [Rd.out] at h
  | sptr k' d =>
    simp only [stepAddr, bif_out, Rd.out_bind, Rd.out_opt, Rd.out] at h
    rcases bif_some h with ⟨hk, h9⟩ | ⟨_, h9⟩
    · have hk : k' = k := of_decide_eq_true hk
      subst hk
      obtain ⟨z, hz, hz2⟩ := Option.bind_eq_some_iff.1 h9
      simp only [Option.some.injEq] at hz2
      subst hz2
      obtain ⟨B, O, h1, h2, h3, h4⟩ := hc
      refine ⟨B, O, z, d, h1, hz, B, O + offF j k', rfl, h2, ?_, ?_⟩
      · have := (subA_cells (h := some (B, O)) h4 (fld_ok hz) hz (fun b o e => by
            simp only [Option.some.injEq, Prod.mk.injEq] at e
            obtain ⟨rfl, rfl⟩ := e
            exact ⟨rfl, h3⟩) (subA_fld w hz)).2
        exact this
      · have := (subA_cells (h := some (B, O)) h4 (fld_ok hz) hz (fun b o e => by
            simp only [Option.some.injEq, Prod.mk.injEq] at e
            obtain ⟨rfl, rfl⟩ := e
            exact ⟨rfl, h3⟩) (subA_fld w hz)).1
        rw [← this]
        exact (getP_rep h4 (fld_ok hz) hz).move fun p b hs _ => hs
    · simp at h9
  | _ => simp [stepAddr, Rd.out] at h

theorem fieldAddr_ok (S : Set_ P Γ Kp B0 n G s a w o) {t : TypeId} {x : Operand} {j : Nat} (ho : o.op = .fieldAddr t x j) (h : (opD Γ id o).out s = some ws) (hok : dstOk o ws = true) :
    o.wp P a w (fun a' w' => Inv Kp B0 n (s.put ws) a' w') Q := by
  unfold opD at h
  rw [ho] at h
  simp only [bif_out, Rd.out] at h
  rcases bif_some h with ⟨har, h⟩ | ⟨_, h⟩
  · simp only [Rd.out_bind, Option.bind_eq_some_iff, Rd.out, Option.some.injEq] at h
    obtain ⟨k, h1, c, h2, c', h3, h4⟩ := h
    subst h4
    have hk := kindOf_ok h1
    obtain ⟨B, O, y, d, e1, e2, e3⟩ := stepAddr_ok S.g (rdB_ok S.g h2) h3
    have hagg : k.agg = true := by
      cases k <;> first | rfl | (cases j <;> simp [fld, getP] at e2)
    rcases under_agg S.tab hk hagg with ⟨fs, u1, u2, u3⟩ | ⟨m, e, u1, u2, u3⟩
    · obtain ⟨f, f1, f2, f3, f4⟩ := fields_at u3 e2
      obtain ⟨i, z, hr⟩ := row_of S.tab f3
      refine slot_ok S hok (v := _) ?_ e3
      have hfs : fs[j]? = some f := by simpa using f1
      have hne : ¬ y.k.size = 0 := by omega
      unfold execOp
      rw [ho]
      simp [Instr.fieldAt, run_underlying u1, hfs, e1, Instr.sureAddr, fieldPlace, run_size hr, hne, add_mk, f2]
    · rw [u2] at har
      simp at har
  · simp at h

theorem atArr_ok (g : GOk Kp G s a w) {α : Type} {m : Nat} {x : Operand} {f : Nat → Rd α} {r : α} (h : (atArr m x f).out s = some r) : ∃ j ik, j < m ∧ a.eval x = .int ik (j : Int) ∧ (f j).out s = some r := by
  unfold atArr at h
  cases hc : constIx x with
  | some j =>
    rw [hc] at h
    simp only [bif_out, Rd.out] at h
    rcases bif_some h with ⟨h1, h2⟩ | ⟨_, h2⟩
    · unfold constIx at hc
      split at hc
      · rename_i ik z
        rcases bif_some hc with ⟨h3, h4⟩ | ⟨_, h4⟩
        · simp only [Option.some.injEq] at h4
          have h3 : 0 ≤ z := of_decide_eq_true h3
          exact ⟨j, ik, of_decide_eq_true h1, by simp only [Act.eval]; congr 1; omega, h2⟩
        · simp at h4
      · simp at hc
    · simp at h2
  | none =>
    rw [hc] at h
    simp only [Rd.out_bind, Option.bind_eq_some_iff] at h
    obtain ⟨v, h1, z, h2, h3⟩ := h
    have := asInt_ok h2
    subst this
    have hx := (rdV_ok g h1).int
    have key : ∀ q, q ≤ m → (pickIx m z.2 f q).out s = some r → ∃ j, j < m ∧ z.2 = (j : Int) ∧ (f j).out s = some r := by
      intro q
      induction q with
      | zero => intro _ h; simp [pickIx, Rd.out] at h
      | succ q ih =>
        intro hq h
        simp only [pickIx, Rd.out] at h
        split at h
        · rename_i he
          exact ⟨m - (q + 1), by omega, by simpa using he, h⟩
        · exact ih (by omega) h
    obtain ⟨j, k1, k2, k3⟩ := key m (Nat.le_refl _) h3
    exact ⟨j, z.1, k1, by rw [hx, k2], k3⟩

theorem idxIn_spec {i : Int} {n : Nat} (h : idxIn i n = true) : 0 ≤ i ∧ i < n := by simpa [idxIn] using h

theorem run_indexAt_arr {t e : TypeId} {m : Nat} (u : P.underlying t = some (.array m e)) {k : Kd} {i : TypeInfo} {z : Value} (hr : Row P e k i z) (B O j : Nat) (hj : j < m) (ik : IntKind) (w : World) :
    (Instr.indexAt t (.pointer (some ⟨B, O, none⟩)) (.int ik (j : Int))).run P w = .ok (.pointer (some ⟨B, O + j * k.size, none⟩)) w := by
  have h2 : ((j : Int) < (m : Int)) := by omega
  simp [Instr.indexAt, asIntOf, run_underlying u, Instr.sureAddr, run_size hr, h2, hj, add_mk]
theorem run_indexAt_sl {t e : TypeId} (u : P.underlying t = some (.slice e)) {k : Kd} {i : TypeInfo} {z : Value} (hr : Row P e k i z) (B O len cap : Nat) {x : Int} (h0 : 0 ≤ x) (h1 : x < len) (ik : IntKind) (w : World) :
    (Instr.indexAt t (.slice (some ⟨B, O, none⟩) len cap) (.int ik x)).run P w = .ok (.pointer (some ⟨B, O + x.toNat * k.size, none⟩)) w := by
  simp [Instr.indexAt, asIntOf, run_underlying u, run_size hr, h0, h1, add_mk]

theorem indexAddr_ok (S : Set_ P Γ Kp B0 n G s a w o) {t : TypeId} {x y : Operand} (ho : o.op = .indexAddr t x y) (h : (opD Γ id o).out s = some ws) (hok : dstOk o ws = true) :
    o.wp P a w (fun a' w' => Inv Kp B0 n (s.put ws) a' w') Q := by
  unfold opD at h
  rw [ho] at h
  simp only [Rd.out_bind, Option.bind_eq_some_iff] at h
  obtain ⟨k, h1, h⟩ := h
  have hk := kindOf_ok h1
  have arrCase : k.agg = true → (bif (Γ.ar t).isSome then (rdB x).bind fun c => atArr (arrLen k) y fun j => (stepAddr k (fld j) c).bind fun c' => Rd.ret [(sl (o.dst.getD 4095), c')] else Rd.fail).out s = some ws →
      o.wp P a w (fun a' w' => Inv Kp B0 n (s.put ws) a' w') Q := by
    intro hagg h
    simp only [bif_out, Rd.out] at h
    rcases bif_some h with ⟨har, h⟩ | ⟨_, h⟩
    · simp only [Rd.out_bind, Option.bind_eq_some_iff] at h
      obtain ⟨c, h2, h3⟩ := h
      obtain ⟨j, ik, j1, j2, h4⟩ := atArr_ok S.g h3
      simp only [Rd.out_bind, Option.bind_eq_some_iff, Rd.out, Option.some.injEq] at h4
      obtain ⟨c', h5, h6⟩ := h4
      subst h6
      obtain ⟨B, O, z, d, e1, e2, e3⟩ := stepAddr_ok S.g (rdB_ok S.g h2) h5
      rcases under_agg S.tab hk hagg with ⟨fs, u1, u2, u3⟩ | ⟨m, e, u1, u2, u3⟩
      · rw [u2] at har
        simp at har
      · obtain ⟨f1, f2⟩ := arr_at u3 e2
        obtain ⟨i, zz, hr⟩ := row_of S.tab f1
        refine slot_ok S hok (v := _) ?_ e3
        unfold execOp
        rw [ho]
        rw [arr_len u3] at j1
        simp [e1, j2, run_indexAt_arr u1 hr B O j j1 ik w, f2]
    · simp at h
  cases k with
  | slice e =>
    simp only [Rd.out_bind, Option.bind_eq_some_iff] at h
    obtain ⟨c, h2, v, h3, l, h4, iv, h5, z, h6, h7⟩ := h
    have h4 : cast? (.slice e) v = some l := by simpa [Rd.out_opt] using h4
    have := cast?_eq h4
    subst this
    have := asInt_ok h6
    subst this
    have hi := (rdV_ok S.g h5).int
    simp only [Rd.out] at h7
    split at h7
    · rename_i hin
      obtain ⟨i0, i1⟩ := idxIn_spec hin
      obtain ⟨te, u1, u2, u3⟩ := under_slice S.tab hk
      obtain ⟨ti, tz, hr⟩ := row_of S.tab u2
      have hc := rdOp_ok S.g h2
      have hn : z.2.toNat < List.length l := by omega
      -- shared data under an address
      have shared : ∀ (T : OwnS) (q : Path) (cs : List Value), a.eval x = mkVal (.slice e) cs → Rep w T (.slice e) q cs l → (∀ q' b, T q' b → G.φ b = none) → ws = [(sl (o.dst.getD 4095), .sptr e (at_ e l z.2.toNat))] →
          o.wp P a w (fun a' w' => Inv Kp B0 n (s.put ws) a' w') Q := by
        intro T q cs hv hrep hT hws
        subst hws
        simp only [Rep] at hrep
        rcases hrep with ⟨_, hl⟩ | ⟨b, off, cap, k1, k2, k3, k4, k5⟩
        · subst hl; simp at hn
        · subst k1
          have he := k5 _ hn
          rw [← at_eq hn] at he
          refine slot_ok S hok (v := .pointer (some ⟨b, off + z.2.toNat * e.size, none⟩)) ?_ ⟨b, _, rfl, hT _ _ k3, ?_, he.move fun p b' hs _ => hT _ _ hs⟩
          · unfold execOp
            rw [ho]
            have hx : a.eval x = .slice (some ⟨b, off, none⟩) (List.length l) cap := hv
            simp [hx, hi, run_indexAt_sl u1 hr b off _ cap i0 i1]
          · obtain ⟨cs', T', fr, b1, b2⟩ := k4
            refine ⟨cs', T', fr, b1, ?_⟩
            have : (z.2.toNat + 1) * e.size ≤ cap * e.size := Nat.mul_le_mul_right _ (by omega)
            rw [Nat.add_mul] at this
            omega
      cases c with
      | val k' d' =>
        simp only [Rd.out, Option.some.injEq] at h7
        simp only [look, Rd.out, Option.some.injEq, V.mk.injEq] at h3
        obtain ⟨rfl, h3⟩ := h3
        have h3 := eq_of_heq h3
        subst h3
        obtain ⟨cs, c1, c2⟩ := hc
        exact shared _ _ cs c1 c2 (fun _ _ h => h) h7.symm
      | al r p ver =>
        simp only [Rd.out] at h7
        simp only [look, Rd.out] at h3
        cases hs : s (rt r) with
        | root k0 d0 dep box frz ver' =>
          rw [hs] at h3 h7
          simp only [bif_out, Rd.out, Rd.out_opt] at h3 h7
          rcases bif_some h3 with ⟨hv, h3⟩ | ⟨_, h3⟩
          · have hro := S.g.roots r
            rw [hs] at hro
            simp only [CellOk] at hc
            rw [hs] at hc
            obtain ⟨y', e1, e2, e3⟩ := hc.2 (verOk hv)
            rw [h3] at e1
            injection e1 with e1
            subst e1
            have hrep := getP_rep hro.1 e2 h3
            rcases bif_some h7 with ⟨hd, h8⟩ | ⟨_, h8⟩
            · have hd := Nat.eq_of_beq_eq_true hd
              subst hd
              exact shared _ _ _ e3 hrep (fun q b h => by simpa [ownS] using h) (Option.some.inj h8).symm
            · have h9 := Option.some.inj h8
              subst h9
              simp only [Rep, List.nil_append] at hrep
              rcases hrep with ⟨_, hl⟩ | ⟨b, off, cap, k1, k2, k3, k4, k5⟩
              · subst hl; simp at hn
              · refine slot_ok S hok (v := .pointer (some ⟨b, off + z.2.toNat * e.size, none⟩)) ?_ ?_
                · have hx : a.eval x = .slice (some ⟨b, off, none⟩) (List.length l) cap := by rw [e3, k1]; rfl
                  unfold execOp
                  rw [ho]
                  simp [hx, hi, run_indexAt_sl u1 hr b off _ cap i0 i1]
                · simp only [CellOk]
                  rw [hs]
                  refine ⟨Nat.le_refl _, fun _ => ⟨⟨e, at_ e l z.2.toNat⟩, (getP_append h3).trans rfl, okP_append h3 e2 ⟨hn, trivial⟩, b, off + z.2.toNat * e.size, ?_, rfl⟩⟩
                  rw [subA_append hro.1 e2 h3, k1]
                  rfl
          · simp at h3
        | _ => rw [hs] at h7; simp [Rd.out] at h7
      | _ => simp [Rd.out] at h7
    · simp [Rd.out] at h7
  | pair a' b' => exact arrCase rfl h
  | unit => exact arrCase rfl h
  | bx k => have := tab_pure S.tab hk; simp [Kd.pure] at this
  | clo f a b => have := tab_pure S.tab hk; simp [Kd.pure] at this
  | int ik =>
    simp only [bif_out, Rd.out] at h
    rcases bif_some h with ⟨_, h⟩ | ⟨_, h⟩
    · simp only [Rd.out_bind, Option.bind_eq_some_iff] at h
      obtain ⟨c, h2, h3⟩ := h
      obtain ⟨j, ik, j1, j2, h4⟩ := atArr_ok S.g h3
      simp [arrLen] at j1
    · simp at h
  | bool =>
    simp only [bif_out, Rd.out] at h
    rcases bif_some h with ⟨_, h⟩ | ⟨_, h⟩
    · simp only [Rd.out_bind, Option.bind_eq_some_iff] at h
      obtain ⟨c, h2, h3⟩ := h
      obtain ⟨j, ik, j1, j2, h4⟩ := atArr_ok S.g h3
      simp [arrLen] at j1
    · simp at h
  | str =>
    simp only [bif_out, Rd.out] at h
    rcases bif_some h with ⟨_, h⟩ | ⟨_, h⟩
    · simp only [Rd.out_bind, Option.bind_eq_some_iff] at h
      obtain ⟨c, h2, h3⟩ := h
      obtain ⟨j, ik, j1, j2, h4⟩ := atArr_ok S.g h3
      simp [arrLen] at j1
    · simp at h

theorem load_ok (S : Set_ P Γ Kp B0 n G s a w o) {t : TypeId} {x : Operand} (ho : o.op = .load t x) (h : (opD Γ id o).out s = some ws) (hok : dstOk o ws = true) :
    o.wp P a w (fun a' w' => Inv Kp B0 n (s.put ws) a' w') Q := by
  unfold opD at h
  rw [ho] at h
  simp only [Rd.out_bind, Option.bind_eq_some_iff] at h
  obtain ⟨c, h1, h⟩ := h
  have hc := rdB_ok S.g h1
  have hrun : ∀ (k : Kd) (B O : Nat), Γ.tk t = some k → a.eval x = .pointer (some ⟨B, O, none⟩) → BlockOk w B (O + k.size) → (execOp a.eval o).run P w = .ok (.value (mkVal k (cellsAt w B O k.size))) w := by
    intro k B O ht hx hb
    unfold execOp
    rw [ho]
    simp [Instr.loadAt, hx, Instr.sureAddr, run_loadVar S.tab ht hb]
  cases c with
  | ptr r p ver =>
    simp only [Rd.out] at h
    cases hs : s (rt r) with
    | root k0 d0 dep box frz ver' =>
      rw [hs] at h
      simp only [bif_out, Rd.out] at h
      rcases bif_some h with ⟨hv, h⟩ | ⟨_, h⟩
      · simp only [Rd.out_bind, Rd.out_opt, Option.bind_eq_some_iff, bif_out, Rd.out] at h
        obtain ⟨v, h2, u, h3, h4⟩ := h
        have ht := kindIs_ok h3
        obtain ⟨y, B, O, e1, e2, e3, e4, e5, e6, e7, hro⟩ := ptr_open S.g hc hs hv
        rw [h2] at e1
        injection e1 with e1
        subst e1
        rcases bif_some h4 with ⟨h5, h6⟩ | ⟨_, h6⟩
        · simp only [Option.some.injEq] at h6
          subst h6
          refine slot_ok S hok (hrun _ B O ht e4 e6) ?_
          simp only [Bool.or_eq_true] at h5
          rcases h5 with h5 | h5
          · exact flatCell h5 ⟨_, _, _, rfl, e7⟩
          · have h5 := Nat.eq_of_beq_eq_true h5
            subst h5
            exact ⟨_, rfl, e7.move fun q b hs _ => by simpa [ownS, shS] using hs⟩
        · simp only [Option.some.injEq] at h6
          subst h6
          refine slot_ok S hok (hrun _ B O ht e4 e6) ?_
          simp only [CellOk]
          rw [hs]
          exact ⟨Nat.le_refl _, fun _ => ⟨v, h2, e2, by rw [e5]⟩⟩
      · simp at h
    | _ => rw [hs] at h; simp [Rd.out] at h
  | sptr k d =>
    simp only [Rd.out_bind, Option.bind_eq_some_iff, Rd.out, Option.some.injEq] at h
    obtain ⟨u, h2, h3⟩ := h
    subst h3
    obtain ⟨B, O, e1, e2, e3, e4⟩ := hc
    exact slot_ok S hok (hrun _ B O (kindIs_ok h2) e1 e3) ⟨_, rfl, e4⟩
  | _ => simp [Rd.out] at h
end
end Go.V
