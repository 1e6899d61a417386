/- The operations' soundness, eighth part: slices, parts, lengths, extracts. -/
import Derived.Test.YtmeglfoapdkhdaaVOps7
set_option linter.unusedVariables false
set_option linter.unusedSimpArgs false
namespace Go.V

section
variable {P : Program} {Γ : Ctx} {Kp : Keep} {B0 : World} {n : Nat} {G : Gh} {s : State} {a : Act} {w w' : World} {id : Nat} {o : Oper} {Q : Exit → Act → World → Prop} {ws : Writes}

theorem tupV_at (w : World) : ∀ (ks : List Kd) (j : Nat) (c : List Value) (d : (Kd.tuple ks).den) (v : V), getP (fld j) (Kd.tuple ks) d = some v → (tupV ks c)[j]? = some (mkVal v.k (subC w (fld j) (Kd.tuple ks) c)) := by
  intro ks
  induction ks with
  | nil => intro j c d v h; cases j <;> simp [Kd.tuple, fld, getP] at h
  | cons k ks ih =>
    intro j c d v h
    cases j with
    | zero =>
      simp only [Kd.tuple, fld, getP, Option.some.injEq] at h
      subst h
      simp [tupV, Kd.tuple, fld, subC]
    | succ j =>
      simp only [Kd.tuple, fld, getP] at h
      have := ih j (c.drop k.size) d.2 v h
      simpa [tupV, Kd.tuple, fld, subC] using this
theorem extract_ok (S : Set_ P Γ Kp B0 n G s a w o) {x : Operand} {j : Nat} (ho : o.op = .extract x j) (h : (opD Γ id o).out s = some ws) (hok : dstOk o ws = true) :
    o.wp P a w (fun a' w' => Inv Kp B0 n (s.put ws) a' w') Q := by
  unfold opD at h
  rw [ho] at h
  simp only [Rd.out_bind, Option.bind_eq_some_iff] at h
  obtain ⟨c, h1, h⟩ := h
  have hc := rdB_ok S.g h1
  cases c with
  | tal r =>
    simp only [Rd.out] at h
    simp only [CellOk] at hc
    cases hs : s (rt r) with
    | root k d dep box frz ver =>
      rw [hs] at h hc
      simp only [Rd.out_bind, Rd.out_opt, Option.bind_eq_some_iff, bif_out, Rd.out] at h
      obtain ⟨v, h2, h3⟩ := h
      obtain ⟨rfl, ks, rfl, hx⟩ := hc
      have hro := S.g.roots r
      rw [hs] at hro
      have hat : ∀ (ks : List Kd) (j : Nat) (c : List Value) (d : (Kd.tuple ks).den) (v : V), getP (fld j) (Kd.tuple ks) d = some v → (tupV ks c)[j]? = some (mkVal v.k (subC w (fld j) (Kd.tuple ks) c)) := by
        intro ks
        induction ks with
        | nil => intro j c d v h; cases j <;> simp [Kd.tuple, fld, getP] at h
        | cons k ks ih =>
          intro j c d v h
          cases j with
          | zero =>
            simp only [Kd.tuple, fld, getP, Option.some.injEq] at h
            subst h
            simp [tupV, Kd.tuple, fld, subC]
          | succ j =>
            simp only [Kd.tuple, fld, getP] at h
            have := ih j (c.drop k.size) d.2 v h
            simpa [tupV, Kd.tuple, fld, subC] using this
      have hv := hat ks j (G.C r) d v h2
      have hrun : (execOp a.eval o).run P w = .ok (.value (mkVal v.k (subC w (fld j) (Kd.tuple ks) (G.C r)))) w := by
        unfold execOp
        rw [ho]
        simp [hx, Instr.extract, hv]
      have hrep := getP_rep hro.1 (fld_ok h2) h2
      rcases bif_some h3 with ⟨h4, h5⟩ | ⟨_, h5⟩
      · have h6 := Option.some.inj h5
        subst h6
        refine slot_ok S hok hrun ?_
        simp only [Bool.or_eq_true] at h4
        rcases h4 with h4 | h4
        · exact flatCell h4 ⟨_, _, _, rfl, hrep⟩
        · have h4 := Nat.eq_of_beq_eq_true h4
          subst h4
          exact ⟨_, rfl, hrep.move fun q b hs _ => by simpa [ownS, shS] using hs⟩
      · have h6 := Option.some.inj h5
        subst h6
        refine slot_ok S hok hrun ?_
        simp only [CellOk]
        rw [hs]
        exact ⟨Nat.le_refl _, fun _ => ⟨v, h2, fld_ok h2, rfl⟩⟩
    | _ => rw [hs] at h; simp [Rd.out] at h
  | tap r i ks y =>
    simp only [Rd.out_bind, Rd.out_opt, Option.bind_eq_some_iff, bif_out] at h
    obtain ⟨v, h2, h3⟩ := h
    simp only [CellOk] at hc
    obtain ⟨c, e1, e2, hc⟩ := hc
    have hv := tupV_at w ks j c y v h2
    have hrun : (execOp a.eval o).run P w = .ok (.value (mkVal v.k (subC w (fld j) (Kd.tuple ks) c))) w := by
      unfold execOp
      rw [ho]
      simp [e1, Instr.extract, hv]
    rw [cpart_sub w ks j c y v h2] at hrun
    rcases bif_some h3 with ⟨h4, h5⟩ | ⟨_, h5⟩
    · have h6 := Option.some.inj h5
      subst h6
      exact slot_ok S hok hrun ⟨_, rfl, FRep.flat h4 (e2.part ks j c y v h2)⟩
    · rcases bif_some h5 with ⟨h6, h7⟩ | ⟨_, h7⟩
      · have h6 := Nat.eq_of_beq_eq_true h6
        subst h6
        simp only [Rd.out] at h7
        cases hs : s (rt r) with
        | root k d dep box frz ver =>
          rw [hs] at h7 hc
          have h8 := Option.some.inj h7
          subst h8
          obtain ⟨_, hC, z, hz, hk⟩ := hc
          rw [h2] at hz
          have hz := Option.some.inj hz
          subst hz
          refine slot_ok S hok hrun ?_
          simp only [CellOk]
          rw [hs]
          exact ⟨Nat.le_refl _, fun _ => ⟨⟨k, d⟩, rfl, trivial, by simp only [subC, hC, hk]⟩⟩
        | _ => rw [hs] at h7; simp [Rd.out] at h7
      · simp [Rd.out] at h7
  | _ => simp [Rd.out] at h

theorem run_part (hT : TabOk P Γ.tk Γ.ar) {t : TypeId} {k : Kd} (ht : Γ.tk t = some k) {cs : List Value} {off : Nat} (h : off + k.size ≤ cs.length) (w : World) :
    (part t cs.toArray off).run P w = .ok (mkVal k ((cs.drop off).take k.size)) w := by
  obtain ⟨i, z, hr⟩ := row_of hT ht
  cases ha : k.agg with
  | true =>
    have e : cs.toArray.extract off (off + k.size) = ((cs.drop off).take k.size).toArray := by
      apply Array.ext'
      simp
    simp [part, run_isAgg hT ht, ha, run_size hr, mkVal, e]
  | false =>
    have h1 : k.size = 1 := by cases k <;> simp_all [Kd.agg, Kd.size]
    have hl : off < cs.length := by omega
    have e : (cs.drop off).take k.size = [cs[off]] := by
      rw [h1, List.drop_eq_getElem_cons hl]
      rfl
    have e2 : cs.toArray[off]? = some cs[off] := by simp [hl]
    simp [part, run_isAgg hT ht, ha, mkVal, e, hl]

/-- A part's place lies in the whole. -/
theorem offF_le : ∀ {j : Nat} {k : Kd} {d : k.den} {y : V}, getP (fld j) k d = some y → offF j k + y.k.size ≤ k.size := by
  intro j
  induction j with
  | zero =>
    intro k d y h
    cases k with
    | pair a b => simp only [fld, getP, Option.some.injEq] at h; subst h; simp only [offF, Kd.size]; omega
    | _ => simp [fld, getP] at h
  | succ j ih =>
    intro k d y h
    cases k with
    | pair a b => simp only [fld, getP] at h; have := ih h; simp only [offF, Kd.size]; omega
    | _ => simp [fld, getP] at h

theorem field_ok (S : Set_ P Γ Kp B0 n G s a w o) {t : TypeId} {x : Operand} {j : Nat} (ho : o.op = .field t x j) (h : (opD Γ id o).out s = some ws) (hok : dstOk o ws = true) :
    o.wp P a w (fun a' w' => Inv Kp B0 n (s.put ws) a' w') Q := by
  unfold opD at h
  rw [ho] at h
  simp only [bif_out] at h
  rcases bif_some h with ⟨har, h⟩ | ⟨_, h⟩
  · simp only [Rd.out_bind, Rd.out_opt, Option.bind_eq_some_iff, bif_out, Rd.out] at h
    obtain ⟨v, h1, u, h2, y, h3, h4⟩ := h
    have hk := kindIs_ok h2
    rcases bif_some h4 with ⟨hf, h5⟩ | ⟨_, h5⟩
    · have h6 := Option.some.inj h5
      subst h6
      obtain ⟨T, q, c, c1, c2⟩ := rdVt_ok S.g h1
      have hagg : v.k.agg = true := by
        cases hv : v.k with
        | pair a b => rfl
        | unit => rfl
        | _ => exfalso; obtain ⟨vk, vd⟩ := v; simp only at hv; subst hv; cases j <;> simp [fld, getP] at h3
      rcases under_agg S.tab hk hagg with ⟨fs, u1, u2, u3⟩ | ⟨m, e, u1, u2, u3⟩
      · obtain ⟨f, f1, f2, f3, f4⟩ := fields_at u3 h3
        have f1' : fs[j]? = some f := by simpa using f1
        have hle := offF_le h3
        have hl := c2.length
        have hrun : (execOp a.eval o).run P w = .ok (.value (mkVal y.k ((c.drop (offF j v.k)).take y.k.size))) w := by
          have hx : a.eval x = .agg c.toArray := by rw [c1]; simp [mkVal, hagg]
          have := run_part S.tab f3 (cs := c) (off := f.offset) (by omega) w
          rw [f2, Nat.zero_add] at this
          unfold execOp
          rw [ho]
          simp [Instr.field, run_underlying u1, f1', hx, asAgg, f2, this]
        refine slot_ok S hok hrun ?_
        have hrep := getP_rep c2 (fld_ok h3) h3
        rw [subC_fld w h3] at hrep
        exact flatCell hf ⟨_, _, _, rfl, hrep⟩
      · rw [u2] at har
        simp at har
    · cases h5
  · simp [Rd.out] at h

theorem index_ok (S : Set_ P Γ Kp B0 n G s a w o) {t : TypeId} {x y : Operand} (ho : o.op = .index t x y) (h : (opD Γ id o).out s = some ws) (hok : dstOk o ws = true) :
    o.wp P a w (fun a' w' => Inv Kp B0 n (s.put ws) a' w') Q := by
  unfold opD at h
  rw [ho] at h
  simp only [Rd.out_bind, Option.bind_eq_some_iff] at h
  obtain ⟨k, h1, h⟩ := h
  have hk := kindOf_ok h1
  have arrCase : (bif (Γ.ar t).isSome then (rdVt Γ t x).bind fun v => (kindIs Γ t v.k).bind fun _ => atArr (arrLen k) y fun j => (Rd.opt (getP (fld j) v.k v.d)).bind fun z => bif z.k.flat then Rd.ret [(sl (o.dst.getD 4095), vcell z)] else Rd.fail else Rd.fail).out s = some ws →
      o.wp P a w (fun a' w' => Inv Kp B0 n (s.put ws) a' w') Q := by
    intro h
    simp only [bif_out, Rd.out] at h
    rcases bif_some h with ⟨har, h⟩ | ⟨_, h⟩
    · simp only [Rd.out_bind, Option.bind_eq_some_iff] at h
      obtain ⟨v, h2, u, h3, h4⟩ := h
      have hk' := kindIs_ok h3
      rw [hk] at hk'
      injection hk' with hk'
      subst hk'
      obtain ⟨j, ik, j1, j2, h5⟩ := atArr_ok S.g h4
      simp only [Rd.out_bind, Option.bind_eq_some_iff, bif_out, Rd.out, Rd.out_opt] at h5
      obtain ⟨z, h6, h7⟩ := h5
      rcases bif_some h7 with ⟨hf, h8⟩ | ⟨_, h8⟩
      · have h9 := Option.some.inj h8
        subst h9
        obtain ⟨T, q, c, c1, c2⟩ := rdVt_ok S.g h2
        have hagg : v.k.agg = true := by
          cases hv : v.k with
          | pair a b => rfl
          | unit => rfl
          | _ => exfalso; obtain ⟨vk, vd⟩ := v; simp only at hv; subst hv; cases j <;> simp [fld, getP] at h6
        rcases under_agg S.tab hk hagg with ⟨fs, u1, u2, u3⟩ | ⟨m, e, u1, u2, u3⟩
        · rw [u2] at har
          simp at har
        · obtain ⟨f1, f2⟩ := arr_at u3 h6
          obtain ⟨i, zz, hr⟩ := row_of S.tab f1
          have hle := offF_le h6
          have hl := c2.length
          rw [arr_len u3] at j1
          have hrun : (execOp a.eval o).run P w = .ok (.value (mkVal z.k ((c.drop (offF j v.k)).take z.k.size))) w := by
            have hx : a.eval x = .agg c.toArray := by rw [c1]; simp [mkVal, hagg]
            have := run_part S.tab f1 (cs := c) (off := offF j v.k) (by omega) w
            rw [f2] at this
            unfold execOp
            rw [ho]
            simp [Instr.index, run_underlying u1, hx, j2, asIntOf, j1, run_size hr, f2, this]
          refine slot_ok S hok hrun ?_
          have hrep := getP_rep c2 (fld_ok h6) h6
          rw [subC_fld w h6] at hrep
          exact flatCell hf ⟨_, _, _, rfl, hrep⟩
      · cases h8
    · cases h
  cases k with
  | str =>
    simp only [Rd.out_bind, Option.bind_eq_some_iff] at h
    obtain ⟨v, h2, h⟩ := h
    have hv := rdVt_ok S.g h2
    obtain ⟨vk, vd⟩ := v
    cases vk with
    | str =>
      simp only [Rd.out_bind, Option.bind_eq_some_iff] at h
      obtain ⟨iv, h3, z, h4, h5⟩ := h
      have := asInt_ok h4
      subst this
      have hi := (rdV_ok S.g h3).int
      have hx := hv.str
      simp only [Rd.out] at h5
      split at h5
      · rename_i hin
        obtain ⟨i0, i1⟩ := idxIn_spec hin
        simp only [Option.some.injEq] at h5
        subst h5
        have hn : z.2.toNat < vd.size := by omega
        have e : vd.data.getD z.2.toNat 0 = vd[z.2.toNat] := by
          have hn' : z.2.toNat < vd.data.size := hn
          simp only [Array.getD]
          rw [dif_pos hn']
          rfl
        refine slot_ok S hok (v := .int .u8 ((vd[z.2.toNat]).toNat : Int)) ?_ (by rw [e]; exact intCell _ _)
        unfold execOp
        rw [ho]
        have u := under_str S.tab hk
        have hge : vd[z.2.toNat]? = some vd[z.2.toNat] := by simp [hn]
        simp [Instr.index, run_underlying u, hx, hi, asIntOf, i0, hge]
      · simp at h5
    | _ => simp [Rd.out] at h
  | slice e => exact arrCase h
  | pair a' b' => exact arrCase h
  | unit => exact arrCase h
  | int ik => exact arrCase h
  | bool => exact arrCase h
  | bx k => exact arrCase h
  | clo f a b => exact arrCase h

theorem len_ok (S : Set_ P Γ Kp B0 n G s a w o) {as : Array Operand} {ts : Array TypeId} (ho : o.op = .call { callee := .builtin .len, args := as, argTypes := ts }) (h : (opD Γ id o).out s = some ws) (hok : dstOk o ws = true) :
    o.wp P a w (fun a' w' => Inv Kp B0 n (s.put ws) a' w') Q := by
  unfold opD at h
  rw [ho] at h
  simp only at h
  split at h
  · rename_i x t ha ht
    have has : as = #[x] := by apply Array.ext'; simpa using ha
    have hts : ts = #[t] := by apply Array.ext'; simpa using ht
    subst has hts
    have hexec : ∀ v w', (Builtin.len_ #[t] o.type #[a.eval x]).run P w = .ok v w' → (execOp a.eval o).run P w = .ok (.value v) w' := by
      intro v w' hrun
      unfold execOp
      rw [ho]
      simp [resolve, invoke, builtin, hrun]
    simp only [Rd.out_bind, Option.bind_eq_some_iff] at h
    obtain ⟨k, h1, h⟩ := h
    have hk := kindOf_ok h1
    have arrCase : k.agg = true → (bif (Γ.ar t).isSome then Rd.ret [(sl (o.dst.getD 4095), Cell.val (.int .i64) (arrLen k : Int))] else Rd.fail).out s = some ws → o.wp P a w (fun a' w' => Inv Kp B0 n (s.put ws) a' w') Q := by
      intro hagg h
      simp only [bif_out, Rd.out] at h
      rcases bif_some h with ⟨har, h⟩ | ⟨_, h⟩
      · have h6 := Option.some.inj h
        subst h6
        rcases under_agg S.tab hk hagg with ⟨fs, u1, u2, u3⟩ | ⟨m, e, u1, u2, u3⟩
        · rw [u2] at har
          simp at har
        · refine slot_ok S hok (hexec (.int .i64 (arrLen k : Int)) w ?_) (intCell _ _)
          simp [Builtin.len_, run_underlying u1, arr_len u3, goInt]
      · cases h
    have other : ((rdOp Γ t x).bind fun c => (look c).bind fun v => (kindIs Γ t v.k).bind fun _ => match v with
          | ⟨.slice _, l⟩ => Rd.ret [(sl (o.dst.getD 4095), Cell.val (.int .i64) (List.length l : Int))]
          | ⟨.str, s⟩ => Rd.ret [(sl (o.dst.getD 4095), Cell.val (.int .i64) (s.size : Int))]
          | _ => Rd.fail).out s = some ws → o.wp P a w (fun a' w' => Inv Kp B0 n (s.put ws) a' w') Q := by
      intro h
      simp only [Rd.out_bind, Option.bind_eq_some_iff] at h
      obtain ⟨c, h2, v, h3, u, h4, h5⟩ := h
      have hst := look_ok S.g (rdOp_ok S.g h2) h3
      have hk' := kindIs_ok h4
      obtain ⟨vk, vd⟩ := v
      cases vk with
      | slice e =>
        have h6 := Option.some.inj h5
        subst h6
        obtain ⟨te, u1, _⟩ := under_slice S.tab hk'
        refine slot_ok S hok (hexec (.int .i64 (List.length vd : Int)) w ?_) (intCell _ _)
        rcases hst.slice with ⟨⟨_, e1⟩, e2⟩ | ⟨b, off, cap, e1, _⟩
        · subst e2; rw [e1]; simp [Builtin.len_, run_underlying u1, goInt]
        · rw [e1]; simp [Builtin.len_, run_underlying u1, goInt]
      | str =>
        have h6 := Option.some.inj h5
        subst h6
        refine slot_ok S hok (hexec (.int .i64 (vd.size : Int)) w ?_) (intCell _ _)
        rw [hst.str]
        simp [Builtin.len_, run_underlying (under_str S.tab hk'), goInt]
      | _ => simp [Rd.out] at h5
    cases k with
    | pair a' b' => exact arrCase rfl h
    | unit => exact arrCase rfl h
    | slice e => exact other h
    | str => exact other h
    | int ik => exact other h
    | bool => exact other h
    | bx k => exact other h
    | clo f a b => exact other h
  · simp [Rd.out] at h
end
end Go.V
