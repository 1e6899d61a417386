/- A region that draws its order, by an invariant; the round of slices.Repeat's loop. -/
import Derived.Test.YtmeglfoapdkhdaaVReg2
import Derived.Test.YtmeglfoapdkhdaaVGen
import Derived.Laws.CopyOwn
import Derived.Deep.OwnRows
import Derived.Test.YtmeglfoapdkhdaaProg
set_option linter.unusedVariables false
set_option linter.unusedSimpArgs false
namespace Go.V

/-- Every order is good if each operation, when it may come up, keeps what is held of the listed ones. -/
theorem wpAny_inv {P : Program} {Q : Exit → Act → World → Prop} {ops : Array Oper} {Φ : (Nat → Bool) → Act → World → Prop} (back : ∀ (i : Nat) o, ops[i]? = some o → ∀ e ∈ o.after, Region.binds .any e = true → e.on < i)
    (hdone : ∀ L a w, (∀ i, i < ops.size → L i = true) → Φ L a w → Q .normal a w)
    (hstep : ∀ L a w j o, ops[j]? = some o → L j = false → Closed ops L → (∀ e ∈ o.after, Region.binds .any e = true → L e.on = true) → Φ L a w → o.guard = none ∧ ∀ K : Act → World → Prop, (∀ a' w', Φ (fun i => L i || decide (i = j)) a' w' → K a' w') → o.wp P a w K Q) :
    ∀ (fuel : Nat) (listed : Array Bool) (a : Act) (w : World), listed.size = ops.size → listed.toList.count false = fuel → Closed ops (fun i => listed.getD i false) → Φ (fun i => listed.getD i false) a w → wpAny P .any ops Q fuel listed a w := by
  have hready : ∀ (listed : Array Bool), listed.size = ops.size → Region.ready .any ops listed = [] → ∀ i, i < ops.size → listed.getD i false = true := by
    intro listed hsz hr
    have key : ∀ m i, i < m → i < ops.size → listed.getD i false = true := by
      intro m
      induction m with
      | zero => intro i hi; omega
      | succ m ih =>
        intro i hi hlt
        by_cases him : i < m
        · exact ih i him hlt
        · cases hl : listed.getD i false with
          | true => rfl
          | false =>
            exfalso
            have ho' : ops[i]? = some ops[i] := by simp [hlt]
            have : i ∈ Region.ready .any ops listed := by
              rw [mem_ready]
              have hl2 : i < listed.size := by omega
              refine ⟨?_, _, ho', fun e he hb => ih e.on ?_ ?_⟩
              · simp only [Array.getD, hl2, dif_pos] at hl ⊢; exact hl
              · have := back i _ ho' e he hb; omega
              · have := back i _ ho' e he hb; omega
            rw [hr] at this
            simp at this
    exact fun i hi => key (i + 1) i (by omega) hi
  intro fuel
  induction fuel with
  | zero =>
    intro listed a w hsz hc hL hi
    have hall : ∀ i, i < ops.size → listed.getD i false = true := by
      intro i hlt
      have hlt' : i < listed.size := by omega
      rw [List.count_eq_zero] at hc
      cases hb : listed.getD i false with
      | true => rfl
      | false =>
        exfalso
        apply hc
        simp only [Array.getD, hlt', dif_pos] at hb
        rw [← hb]
        exact Array.getElem_mem_toList hlt'
    refine ⟨?_, hdone _ a w hall hi⟩
    apply List.eq_nil_iff_forall_not_mem.2
    intro i hm
    rw [mem_ready] at hm
    obtain ⟨h1, o, h2, _⟩ := hm
    have hlt := (Array.getElem?_eq_some_iff.1 h2).1
    have := hall i hlt
    have hlt' : i < listed.size := by omega
    simp only [Array.getD, hlt', dif_pos] at h1 this
    rw [this] at h1
    cases h1
  | succ fuel ih =>
    intro listed a w hsz hc hL hi
    refine ⟨fun hr => hdone _ a w (hready listed hsz hr) hi, fun j hj => ?_⟩
    rw [mem_ready] at hj
    obtain ⟨h1, o, ho, hr⟩ := hj
    have hlt := (Array.getElem?_eq_some_iff.1 ho).1
    have hlt' : j < listed.size := by omega
    have hjf : listed.getD j false = false := by simp only [Array.getD, hlt', dif_pos] at h1 ⊢; exact h1
    obtain ⟨hg, hs⟩ := hstep _ a w j o ho hjf hL hr hi
    unfold wpOp
    rw [ho]
    simp only [Region.wanted, hg, if_true]
    refine .inl (hs _ fun a' w' hi' => ih (listed.setIfInBounds j true) a' w' (by simpa using hsz) ?_ ?_ ?_)
    · have hlj : listed[j] = false := by simp only [Array.getD, hlt', dif_pos] at hjf; exact hjf
      rw [Array.toList_setIfInBounds, List.count_set (by simpa using hlt')]
      simp [hlj, hc]
    · intro i o' ho' hli e he hb
      simp only [getD_set hlt', Bool.or_eq_true, decide_eq_true_eq] at hli ⊢
      rcases hli with hli | hli
      · exact .inl (hL i o' ho' hli e he hb)
      · subst hli
        rw [ho] at ho'
        injection ho' with ho'
        subst ho'
        exact .inl (hr e he hb)
    · have e : (fun i => (listed.setIfInBounds j true).getD i false) = fun i => listed.getD i false || decide (i = j) := by
        funext i
        exact getD_set hlt'
      rw [e]
      exact hi'
theorem wp_draw_inv {P : Program} {Q : Exit → Act → World → Prop} {ops : Array Oper} {rid : Nat} {a : Act} {w : World} (Φ : (Nat → Bool) → Act → World → Prop) (hm : P.follows .mixedOrders = true) (back : ∀ (i : Nat) o, ops[i]? = some o → ∀ e ∈ o.after, Region.binds .any e = true → e.on < i)
    (hdone : ∀ L a w, (∀ i, i < ops.size → L i = true) → Φ L a w → Q .normal a w)
    (hstep : ∀ L a w j o, ops[j]? = some o → L j = false → Closed ops L → (∀ e ∈ o.after, Region.binds .any e = true → L e.on = true) → Φ L a w → o.guard = none ∧ ∀ K : Act → World → Prop, (∀ a' w', Φ (fun i => L i || decide (i = j)) a' w' → K a' w') → o.wp P a w K Q)
    (h0 : Φ (fun _ => false) a { w with drawn := w.drawn + 1 }) : (Code.region rid ops true).wp P Q a w := by
  refine wp_region_any hm ?_
  have e2 : (fun i => (Array.replicate ops.size false).getD i false) = fun _ => false := by
    funext i
    simp only [Array.getD_eq_getD_getElem?]
    by_cases hj : i < ops.size
    · simp [hj]
    · simp [hj]
  refine wpAny_inv back hdone hstep ops.size _ a _ (by simp) (by simp) (fun j o ho hl => ?_) (by rw [e2]; exact h0)
  rw [e2] at hl
  cases hl
end Go.V

namespace Go.V.W
open Go.Proofs Go.RowKit
def regOf (id : Nat) : Code → Option (Array Oper)
  | .region i ops _ => if i = id then some ops else none
  | .seq a b => (regOf id a).or (regOf id b)
  | .cond _ a b => (regOf id a).or (regOf id b)
  | .block _ c => regOf id c
  | .loop c => regOf id c
  | .scope c => regOf id c
  | _ => none
noncomputable def ops9 : Array Oper := (regOf 9 (bodyOf Try.f138)).getD #[]
noncomputable def dof (j : Nat) : Option (Option Tmp × Op × Option (Nat × Bool)) := (ops9[j]?).map fun o => (o.dst, o.op, o.guard)
theorem o9_0 : dof 0 = some (some 38, .move (.tmp 8), none) := by kernel_rfl
theorem o9_1 : dof 1 = some (some 39, .move (.tmp 7), none) := by kernel_rfl
theorem o9_2 : dof 2 = some (some 40, .move (.tmp 8), none) := by kernel_rfl
theorem o9_3 : dof 3 = some (some 41, .slice 32 (.tmp 39) (some (.tmp 40)) none none, none) := by kernel_rfl
theorem o9_4 : dof 4 = some (some 42, .move (.tmp 7), none) := by kernel_rfl
theorem o9_5 : dof 5 = some (some 43, .move (.tmp 8), none) := by kernel_rfl
theorem o9_6 : dof 6 = some (some 44, .slice 32 (.tmp 42) none (some (.tmp 43)) none, none) := by kernel_rfl
theorem o9_7 : dof 7 = some (some 45, .call { callee := .builtin .copy, args := #[.tmp 41, .tmp 44], argTypes := #[32, 32] }, none) := by kernel_rfl
theorem o9_8 : dof 8 = some (some 46, .binOp .add 3 (.tmp 38) (.tmp 45) 3, none) := by kernel_rfl
theorem o9_9 : dof 9 = some (some 8, .assign (.tmp 46), none) := by kernel_rfl
theorem size9 : ops9.size = 10 := by kernel_rfl
def backB (ops : Array Oper) : Bool := (List.range ops.size).all fun i => ((ops[i]?).map fun o => o.after.toList.all fun e => !Region.binds .any e || decide (e.on < i)).getD true
theorem back9B : backB ops9 = true := by kernel_rfl
theorem back9 : ∀ (i : Nat) o, ops9[i]? = some o → ∀ e ∈ o.after, Region.binds .any e = true → e.on < i := by
  intro i o ho e he hb
  have h := back9B
  unfold backB at h
  rw [List.all_eq_true] at h
  have hi := (Array.getElem?_eq_some_iff.1 ho).1
  have h1 := h i (List.mem_range.2 hi)
  rw [ho] at h1
  simp only [Option.map_some, Option.getD_some, List.all_eq_true] at h1
  have h2 := h1 e (Array.mem_toList_iff.2 he)
  rw [hb] at h2
  simpa using h2
noncomputable def hasE (i j : Nat) : Bool := ((ops9[i]?).map fun o => o.after.toList.any fun e => Region.binds .any e && e.on == j).getD false
theorem hasE_of {i j : Nat} (h : hasE i j = true) {o : Oper} (ho : ops9[i]? = some o) : ∃ e ∈ o.after, Region.binds .any e = true ∧ e.on = j := by
  unfold hasE at h
  rw [ho] at h
  simp only [Option.map_some, Option.getD_some, List.any_eq_true, Bool.and_eq_true, beq_iff_eq] at h
  obtain ⟨e, he, h1, h2⟩ := h
  exact ⟨e, Array.mem_toList_iff.1 he, h1, h2⟩
theorem clos {L : Nat → Bool} (hL : Closed ops9 L) {i j : Nat} (h : hasE i j = true) (hi : i < 10) (h1 : L i = true) : L j = true := by
  have hs := size9
  have hlt : i < ops9.size := by omega
  have ho : ops9[i]? = some ops9[i] := Array.getElem?_eq_getElem hlt
  obtain ⟨e, he, hb, rfl⟩ := hasE_of h ho
  exact hL i _ ho h1 e he hb
theorem rdy {L : Nat → Bool} {i j : Nat} {o : Oper} (h : hasE i j = true) (ho : ops9[i]? = some o) (hr : ∀ e ∈ o.after, Region.binds .any e = true → L e.on = true) : L j = true := by
  obtain ⟨e, he, hb, rfl⟩ := hasE_of h ho
  exact hr e he hb

/-! ### the round -/
def val (a0 F : Nat → Value) (L : Nat → Bool) (t : Nat) : Value := if t = 8 then (if L 9 = true then F 9 else a0 8) else if 38 ≤ t ∧ t ≤ 46 then (if L (t - 38) = true then F (t - 38) else a0 t) else a0 t
def dstv (j : Nat) : Nat := if j = 9 then 8 else 38 + j
theorem val_step (a0 F : Nat → Value) (L : Nat → Bool) {j : Nat} (hj : j ≤ 9) (t : Nat) : (if t = dstv j then F j else val a0 F L t) = val a0 F (fun i => L i || decide (i = j)) t := by
  unfold val dstv
  by_cases e9 : j = 9
  · subst e9
    simp only [if_true]
    by_cases et : t = 8
    · simp [et]
    · simp only [et, if_false]
      by_cases er : 38 ≤ t ∧ t ≤ 46
      · have : ¬ t - 38 = 9 := by omega
        simp [er, this]
      · simp [er]
  · simp only [e9, if_false]
    by_cases et : t = 8
    · subst et
      have h1 : ¬ 8 = 38 + j := by omega
      have h2 : ¬ (9 = j) := fun h => e9 h.symm
      simp [h1, h2]
    · simp only [et, if_false]
      by_cases er : 38 ≤ t ∧ t ≤ 46
      · simp only [er, and_self, if_true]
        by_cases ej : t = 38 + j
        · subst ej
          simp
        · have : ¬ t - 38 = j := by omega
          simp [ej, this]
      · have : ¬ t = 38 + j := by omega
        simp [er, this]
def rowL (n m : Nat) (x z : Value) : List Value := List.replicate m x ++ List.replicate (n - m) z
theorem rowL_splice {n m c : Nat} {x z : Value} (h : m + c ≤ n) : (rowL n m x z).take m ++ List.replicate c x ++ (rowL n m x z).drop (m + c) = rowL n (m + c) x z := by
  unfold rowL
  have e1 : (List.replicate m x ++ List.replicate (n - m) z).take m = List.replicate m x := by simp
  have e2 : (List.replicate m x ++ List.replicate (n - m) z).drop (m + c) = List.replicate (n - (m + c)) z := by
    rw [List.drop_append]
    simp
    omega
  rw [e1, e2, ← List.replicate_append_replicate]
theorem row_src {w : World} {g : Nat} {L : List Value} {T : TypeId} (h : w.heap[g]? = some (.cells L.toArray T (0, 0))) : ∀ j v, L[j]? = some v → w.cell? ((⟨g, 0, none⟩ : Addr).add j) = some v := by
  intro j v hj
  by_cases e : j = 0
  · subst e
    simp [World.cell?, Addr.add, h, hj]
  · simp [World.cell?, Addr.add, h, hj, e]
theorem eval_tmp (a : Act) (t : Nat) : a.eval (.tmp t) = a.tmps.getD t undef := rfl
theorem put_getD {a : Act} {d t : Nat} {v : Value} (hd : d < a.tmps.size) : (a.put (some d) v).tmps.getD t undef = if t = d then v else a.tmps.getD t undef := by
  unfold Act.put
  by_cases e : t = d
  · subst e
    simp [Array.getD_eq_getD_getElem?, hd]
  · have e' : d ≠ t := fun h => e h.symm
    simp [Array.getD_eq_getD_getElem?, Array.getElem?_setIfInBounds_ne e', e]
/-- What is held of the listed operations. -/
structure Phi (a0 F : Nat → Value) (df : List Deferred) (sz g n m c B : Nat) (x z : Value) (T : TypeId) (w0 : World) (L : Nat → Bool) (a : Act) (w : World) : Prop where
  size : a.tmps.size = sz
  defers : a.defers = df
  tmps : ∀ t, a.tmps.getD t undef = val a0 F L t
  row : w.heap[g]? = some (.cells (rowL n (if L 7 = true then m + c else m) x z).toArray T (0, 0))
  below : Below B w0 w
theorem dof_of {j : Nat} {d : Option Tmp} {p : Op} {gd : Option (Nat × Bool)} (h : dof j = some (d, p, gd)) {o : Oper} (ho : ops9[j]? = some o) : o.dst = d ∧ o.op = p ∧ o.guard = gd := by
  unfold dof at h
  rw [ho] at h
  simp only [Option.map_some, Option.some.injEq, Prod.mk.injEq] at h
  exact h
theorem Phi.fin {P : Program} {Q : Exit → Act → World → Prop} {a0 F : Nat → Value} {df : List Deferred} {g n m c B : Nat} {x z : Value} {T : TypeId} {w0 w w' : World} {L : Nat → Bool} {a : Act} (h : Phi a0 F df 48 g n m c B x z T w0 L a w) {j : Nat} (hj : j ≤ 9) {o : Oper} (hd : o.dst = some (dstv j))
    (hrun : (execOp a.eval o).run P w = .ok (.value (F j)) w') (hrow : w'.heap[g]? = some (.cells (rowL n (if (L 7 || decide (7 = j)) = true then m + c else m) x z).toArray T (0, 0))) (hB : Below B w0 w')
    (K : Act → World → Prop) (hK : ∀ a' w', Phi a0 F df 48 g n m c B x z T w0 (fun i => L i || decide (i = j)) a' w' → K a' w') : o.wp P a w K Q := by
  refine wp_value hrun (hK _ _ ⟨?_, ?_, fun t => ?_, hrow, hB⟩)
  · rw [hd]
    simp [Act.put, h.size]
  · rw [hd]
    exact h.defers
  · rw [hd, put_getD (by rw [h.size]; unfold dstv; split <;> omega), h.tmps t]
    exact val_step a0 F L hj t
theorem Phi.fin0 {P : Program} {Q : Exit → Act → World → Prop} {a0 F : Nat → Value} {df : List Deferred} {g n m c B : Nat} {x z : Value} {T : TypeId} {w0 w : World} {L : Nat → Bool} {a : Act} (h : Phi a0 F df 48 g n m c B x z T w0 L a w) {j : Nat} (hj : j ≤ 9) (hj7 : 7 ≠ j) {o : Oper} (hd : o.dst = some (dstv j))
    (hrun : (execOp a.eval o).run P w = .ok (.value (F j)) w)
    (K : Act → World → Prop) (hK : ∀ a' w', Phi a0 F df 48 g n m c B x z T w0 (fun i => L i || decide (i = j)) a' w' → K a' w') : o.wp P a w K Q := by
  refine h.fin hj hd hrun ?_ h.below K hK
  have : (L 7 || decide (7 = j)) = L 7 := by simp [hj7]
  rw [this]
  exact h.row
def Fv (g n m c : Nat) : Nat → Value
  | 0 => .int .i64 (m : Int)
  | 1 => .slice (some ⟨g, 0, none⟩) n n
  | 2 => .int .i64 (m : Int)
  | 3 => .slice (some ⟨g, m, none⟩) (n - m) (n - m)
  | 4 => .slice (some ⟨g, 0, none⟩) n n
  | 5 => .int .i64 (m : Int)
  | 6 => .slice (some ⟨g, 0, none⟩) m n
  | 7 => .int .i64 (c : Int)
  | 8 => .int .i64 ((m + c : Nat) : Int)
  | _ => .int .i64 ((m + c : Nat) : Int)
theorem val8 {a0 F : Nat → Value} {L : Nat → Bool} (h : L 9 = false) : val a0 F L 8 = a0 8 := by simp [val, h]
theorem val7 {a0 F : Nat → Value} {L : Nat → Bool} : val a0 F L 7 = a0 7 := by simp [val]
theorem valD {a0 F : Nat → Value} {L : Nat → Bool} {j : Nat} (hj : j ≤ 8) (h : L j = true) : val a0 F L (38 + j) = F j := by
  unfold val
  have h1 : ¬ 38 + j = 8 := by omega
  have h2 : 38 ≤ 38 + j ∧ 38 + j ≤ 46 := by omega
  have h3 : 38 + j - 38 = j := by omega
  simp only [h1, if_false, h2, and_self, if_true, h3, h]
theorem sz3 : (Try.prog.info? 3).map (·.size) = some 1 := by kernel_rfl
theorem elem32 : Try.prog.elem 32 = 3 := by kernel_rfl
theorem und32 : Try.prog.underlying 32 = some (.slice (Try.prog.elem 32)) := by kernel_rfl
theorem sliced_l {n m g : Nat} (w : World) (hmn : m < n) : (Instr.sliceAt 32 (.slice (some ⟨g, 0, none⟩) n n) (some (.int .i64 (m : Int))) none none).run Try.prog w = .ok (.slice (some ⟨g, m, none⟩) (n - m) (n - m)) w := by
  have hs := Try.sizeOf3 w
  have hne : ¬ n = m := by omega
  rw [run_sliceAt_slice w 32 _ _ _ _ und32, run_slice_l w 32 _ n n und32 .i64 (m : Int) (by omega) (by omega), elem32, hs]
  simp only [Result.andThen, sliced, Int.toNat_natCast, hne, if_false, Option.map_some, Addr.add, Nat.mul_one, Nat.zero_add]
  by_cases h0 : m = 0
  · subst h0
    simp
  · simp [h0]
theorem sliced_h {n m g : Nat} (w : World) (hmn : m < n) : (Instr.sliceAt 32 (.slice (some ⟨g, 0, none⟩) n n) none (some (.int .i64 (m : Int))) none).run Try.prog w = .ok (.slice (some ⟨g, 0, none⟩) m n) w := by
  have hs := Try.sizeOf3 w
  have hne : ¬ n = 0 := by omega
  rw [run_sliceAt_slice w 32 _ _ _ _ und32, run_slice_h w 32 _ n n und32 .i64 (m : Int) (by omega) (by omega), elem32, hs]
  simp [Result.andThen, sliced, Addr.add]
theorem reg9 {Q : Exit → Act → World → Prop} {rid : Nat} {a : Act} {w w0 : World} {g n m c B : Nat} {xi zi : Int} {T : TypeId} {a0 : Nat → Value} (hsz : a.tmps.size = 48) (ha0 : ∀ t, a.tmps.getD t undef = a0 t) (h7 : a0 7 = .slice (some ⟨g, 0, none⟩) n n) (h8 : a0 8 = .int .i64 (m : Int))
    (hm : 1 ≤ m) (hmn : m < n) (hn : n ≤ 8) (hc : c = min m (n - m)) (hg : w.heap[g]? = some (.cells (rowL n m (.int .i64 xi) (.int .i64 zi)).toArray T (0, 0))) (hB : Below B w0 w) (hBg : B ≤ g)
    (hQ : ∀ a' w', Phi a0 (Fv g n m c) a.defers 48 g n m c B (.int .i64 xi) (.int .i64 zi) T w0 (fun _ => true) a' w' → Q .normal a' w') : (Code.region rid ops9 true).wp Try.prog Q a w := by
  have h0 : Phi a0 (Fv g n m c) a.defers 48 g n m c B (.int .i64 xi) (.int .i64 zi) T w0 (fun _ => false) a { w with drawn := w.drawn + 1 } :=
    ⟨hsz, rfl, fun t => by rw [ha0 t]; unfold val; by_cases e : t = 8 <;> simp [e], hg, ⟨hB.os, hB.tape, hB.output, hB.size, hB.block⟩⟩
  refine wp_draw_inv (Phi a0 (Fv g n m c) a.defers 48 g n m c B (.int .i64 xi) (.int .i64 zi) T w0) (by kernel_rfl) back9 (fun L a' w' hL h => ?_) (fun L a1 w1 j o ho hj hL hr h => ?_) h0
  · refine hQ a' w' ⟨h.size, h.defers, fun t => ?_, ?_, h.below⟩
    · rw [h.tmps t]
      unfold val
      have := size9
      have e9 : L 9 = true := hL 9 (by omega)
      by_cases et : t = 8
      · simp [et, e9]
      · by_cases er : 38 ≤ t ∧ t ≤ 46
        · have : L (t - 38) = true := hL _ (by omega)
          simp [et, er, this]
        · simp [et, er]
    · have e7 : L 7 = true := hL 7 (by have := size9; omega)
      have := h.row
      rw [e7] at this
      exact this
  · have hj10 : j < 10 := by
      have := (Array.getElem?_eq_some_iff.1 ho).1
      have := size9
      omega
    have l98 : L 9 = true → L 8 = true := clos hL (by kernel_rfl) (by omega)
    have l80 : L 8 = true → L 0 = true := clos hL (by kernel_rfl) (by omega)
    have l87 : L 8 = true → L 7 = true := clos hL (by kernel_rfl) (by omega)
    have l73 : L 7 = true → L 3 = true := clos hL (by kernel_rfl) (by omega)
    have l76 : L 7 = true → L 6 = true := clos hL (by kernel_rfl) (by omega)
    have l32 : L 3 = true → L 2 = true := clos hL (by kernel_rfl) (by omega)
    have l65 : L 6 = true → L 5 = true := clos hL (by kernel_rfl) (by omega)
    have no9 : (j = 0 ∨ j = 2 ∨ j = 5) → L 9 = false := by
      intro hh
      cases h9 : L 9 with
      | false => rfl
      | true =>
        have e8 := l98 h9
        have e7 := l87 e8
        rcases hh with rfl | rfl | rfl
        · rw [l80 e8] at hj; cases hj
        · rw [l32 (l73 e7)] at hj; cases hj
        · rw [l65 (l76 e7)] at hj; cases hj
    have hcases : j = 0 ∨ j = 1 ∨ j = 2 ∨ j = 3 ∨ j = 4 ∨ j = 5 ∨ j = 6 ∨ j = 7 ∨ j = 8 ∨ j = 9 := by omega
    rcases hcases with rfl | rfl | rfl | rfl | rfl | rfl | rfl | rfl | rfl | rfl
    · obtain ⟨d1, d2, d3⟩ := dof_of o9_0 ho
      refine ⟨d3, h.fin0 (by omega) (by omega) d1 ?_⟩
      unfold execOp
      rw [d2]
      simp [eval_tmp, h.tmps, val8 (no9 (by omega)), h8, Fv]
    · obtain ⟨d1, d2, d3⟩ := dof_of o9_1 ho
      refine ⟨d3, h.fin0 (by omega) (by omega) d1 ?_⟩
      unfold execOp
      rw [d2]
      simp [eval_tmp, h.tmps, val7, h7, Fv]
    · obtain ⟨d1, d2, d3⟩ := dof_of o9_2 ho
      refine ⟨d3, h.fin0 (by omega) (by omega) d1 ?_⟩
      unfold execOp
      rw [d2]
      simp [eval_tmp, h.tmps, val8 (no9 (by omega)), h8, Fv]
    · obtain ⟨d1, d2, d3⟩ := dof_of o9_3 ho
      refine ⟨d3, h.fin0 (by omega) (by omega) d1 ?_⟩
      have r1 : L 1 = true := rdy (by kernel_rfl) ho hr
      have r2 : L 2 = true := rdy (by kernel_rfl) ho hr
      have e1 := valD (a0 := a0) (F := Fv g n m c) (show 1 ≤ 8 by omega) r1
      have e2 := valD (a0 := a0) (F := Fv g n m c) (show 2 ≤ 8 by omega) r2
      unfold execOp
      rw [d2]
      simp [eval_tmp, h.tmps, e1, e2, Fv, sliced_l w1 hmn]
    · obtain ⟨d1, d2, d3⟩ := dof_of o9_4 ho
      refine ⟨d3, h.fin0 (by omega) (by omega) d1 ?_⟩
      unfold execOp
      rw [d2]
      simp [eval_tmp, h.tmps, val7, h7, Fv]
    · obtain ⟨d1, d2, d3⟩ := dof_of o9_5 ho
      refine ⟨d3, h.fin0 (by omega) (by omega) d1 ?_⟩
      unfold execOp
      rw [d2]
      simp [eval_tmp, h.tmps, val8 (no9 (by omega)), h8, Fv]
    · obtain ⟨d1, d2, d3⟩ := dof_of o9_6 ho
      refine ⟨d3, h.fin0 (by omega) (by omega) d1 ?_⟩
      have r1 : L 4 = true := rdy (by kernel_rfl) ho hr
      have r2 : L 5 = true := rdy (by kernel_rfl) ho hr
      have e1 := valD (a0 := a0) (F := Fv g n m c) (show 4 ≤ 8 by omega) r1
      have e2 := valD (a0 := a0) (F := Fv g n m c) (show 5 ≤ 8 by omega) r2
      unfold execOp
      rw [d2]
      simp [eval_tmp, h.tmps, e1, e2, Fv, sliced_h w1 hmn]
    · obtain ⟨d1, d2, d3⟩ := dof_of o9_7 ho
      refine ⟨d3, ?_⟩
      have r1 : L 3 = true := rdy (by kernel_rfl) ho hr
      have r2 : L 6 = true := rdy (by kernel_rfl) ho hr
      have e1 := valD (a0 := a0) (F := Fv g n m c) (show 3 ≤ 8 by omega) r1
      have e2 := valD (a0 := a0) (F := Fv g n m c) (show 6 ≤ 8 by omega) r2
      have hrw := h.row
      rw [hj] at hrw
      simp only [Bool.false_eq_true, if_false] at hrw
      have hlen : (rowL n m (.int .i64 xi) (.int .i64 zi)).length = n := by unfold rowL; simp; omega
      have hrun := run_copy_row (P := Try.prog) w1 32 32 o.type 3 g m (n - m) (n - m) ⟨g, 0, none⟩ m n (rowL n m (.int .i64 xi) (.int .i64 zi)).toArray T (List.replicate c (.int .i64 xi)) Try.underlying32 sz3 hrw (by simp only [List.length_replicate]; exact hc) (fun j v hv => by
        refine row_src hrw j v ?_
        have hjc : j < c := by
          rcases Nat.lt_or_ge j c with h' | h'
          · exact h'
          · rw [List.getElem?_eq_none (by simpa using h')] at hv; cases hv
        unfold rowL
        rw [List.getElem?_append_left (by simp; omega)]
        rw [List.getElem?_replicate] at hv ⊢
        rw [if_pos hjc] at hv
        rw [if_pos (by omega)]
        exact hv) (by simp [hlen]; omega) (by intro v hv; rw [List.eq_of_mem_replicate hv]; rfl)
      simp only [List.length_replicate, rowL_splice (show m + c ≤ n by omega)] at hrun
      refine h.fin (by omega) d1 (w' := w1.setRow g (rowL n (m + c) (.int .i64 xi) (.int .i64 zi)).toArray) ?_ ?_ (below_setRow h.below hBg _)
      · unfold execOp
        rw [d2]
        simp only [resolve, invoke, builtin, Sem.run_bind, Sem.run_pure, Result.andThen_ok, List.map_toArray, List.map_cons, List.map_nil, eval_tmp, h.tmps, e1, e2]
        show (Result.andThen (Sem.run Try.prog (Builtin.copy_ #[32, 32] o.type #[.slice (some ⟨g, m, none⟩) (n - m) (n - m), .slice (some ⟨g, 0, none⟩) m n]) w1) _) = _
        rw [hrun]
        rfl
      · simp only [decide_true, Bool.or_true, if_true]
        exact setRow_heap w1 g _ _ T _ hrw
    · obtain ⟨d1, d2, d3⟩ := dof_of o9_8 ho
      refine ⟨d3, h.fin0 (by omega) (by omega) d1 ?_⟩
      have r1 : L 0 = true := rdy (by kernel_rfl) ho hr
      have r2 : L 7 = true := rdy (by kernel_rfl) ho hr
      have e1 := valD (a0 := a0) (F := Fv g n m c) (show 0 ≤ 8 by omega) r1
      have e2 := valD (a0 := a0) (F := Fv g n m c) (show 7 ≤ 8 by omega) r2
      unfold execOp
      rw [d2]
      have hw : IntKind.wrap .i64 ((m : Int) + (c : Int)) = ((m + c : Nat) : Int) := by
        rw [Go.IntWalk.i64_in _ (by omega)]
        omega
      have hw' : IntKind.wrap .i64 ((m : Int) + (c : Int)) = (m : Int) + (c : Int) := by
        rw [hw]
        omega
      simp [eval_tmp, h.tmps, e1, e2, Fv, binOp, Op.intArith, run_eqGuard_int, hw']
    · obtain ⟨d1, d2, d3⟩ := dof_of o9_9 ho
      refine ⟨d3, h.fin0 (by omega) (by omega) d1 ?_⟩
      have r1 : L 8 = true := rdy (by kernel_rfl) ho hr
      have e1 := valD (a0 := a0) (F := Fv g n m c) (show 8 ≤ 8 by omega) r1
      unfold execOp
      rw [d2]
      simp [eval_tmp, h.tmps, e1, Fv]
theorem arr48 {A : Array Value} (h : A.size = 48) {f : Nat → Value} (hf : ∀ t, A.getD t undef = f t) : A = #[f 0, f 1, f 2, f 3, f 4, f 5, f 6, f 7, f 8, f 9, f 10, f 11, f 12, f 13, f 14, f 15, f 16, f 17, f 18, f 19, f 20, f 21, f 22, f 23, f 24, f 25, f 26, f 27, f 28, f 29, f 30, f 31, f 32, f 33, f 34, f 35, f 36, f 37, f 38, f 39, f 40, f 41, f 42, f 43, f 44, f 45, f 46, f 47] := by
  apply Array.ext
  · simp [h]
  · intro i h1 h2
    have e := hf i
    rw [Array.getD_eq_getD_getElem?, Array.getElem?_eq_getElem h1] at e
    simp only [Option.getD_some] at e
    rw [e]
    simp only [List.size_toArray, List.length_cons, List.length_nil] at h2
    match i, h2 with
    | 0, _ => rfl
    | 1, _ => rfl
    | 2, _ => rfl
    | 3, _ => rfl
    | 4, _ => rfl
    | 5, _ => rfl
    | 6, _ => rfl
    | 7, _ => rfl
    | 8, _ => rfl
    | 9, _ => rfl
    | 10, _ => rfl
    | 11, _ => rfl
    | 12, _ => rfl
    | 13, _ => rfl
    | 14, _ => rfl
    | 15, _ => rfl
    | 16, _ => rfl
    | 17, _ => rfl
    | 18, _ => rfl
    | 19, _ => rfl
    | 20, _ => rfl
    | 21, _ => rfl
    | 22, _ => rfl
    | 23, _ => rfl
    | 24, _ => rfl
    | 25, _ => rfl
    | 26, _ => rfl
    | 27, _ => rfl
    | 28, _ => rfl
    | 29, _ => rfl
    | 30, _ => rfl
    | 31, _ => rfl
    | 32, _ => rfl
    | 33, _ => rfl
    | 34, _ => rfl
    | 35, _ => rfl
    | 36, _ => rfl
    | 37, _ => rfl
    | 38, _ => rfl
    | 39, _ => rfl
    | 40, _ => rfl
    | 41, _ => rfl
    | 42, _ => rfl
    | 43, _ => rfl
    | 44, _ => rfl
    | 45, _ => rfl
    | 46, _ => rfl
    | 47, _ => rfl
    | k + 48, h2 => exact absurd h2 (by simp)
theorem reg9x {Q : Exit → Act → World → Prop} {rid : Nat} {ops : Array Oper} (hops : ops = ops9) {A : Array Value} {df : List Deferred} {w w0 : World} {g n m c B : Nat} {xi zi : Int} {T : TypeId} {L L' : List Value} (a0 : Nat → Value) (hsz : A.size = 48) (ha0 : ∀ t, A.getD t undef = a0 t) (h7 : a0 7 = .slice (some ⟨g, 0, none⟩) n n) (h8 : a0 8 = .int .i64 (m : Int))
    (hm : 1 ≤ m) (hmn : m < n) (hn : n ≤ 8) (hc : c = min m (n - m)) (hL : L = rowL n m (.int .i64 xi) (.int .i64 zi)) (hL' : L' = rowL n (m + c) (.int .i64 xi) (.int .i64 zi)) (hg : w.heap[g]? = some (.cells L.toArray T (0, 0))) (hB : Below B w0 w) (hBg : B ≤ g) {A' : Array Value} (hA' : A' = #[val a0 (Fv g n m c) (fun _ => true) 0, val a0 (Fv g n m c) (fun _ => true) 1, val a0 (Fv g n m c) (fun _ => true) 2, val a0 (Fv g n m c) (fun _ => true) 3, val a0 (Fv g n m c) (fun _ => true) 4, val a0 (Fv g n m c) (fun _ => true) 5, val a0 (Fv g n m c) (fun _ => true) 6, val a0 (Fv g n m c) (fun _ => true) 7, val a0 (Fv g n m c) (fun _ => true) 8, val a0 (Fv g n m c) (fun _ => true) 9, val a0 (Fv g n m c) (fun _ => true) 10, val a0 (Fv g n m c) (fun _ => true) 11, val a0 (Fv g n m c) (fun _ => true) 12, val a0 (Fv g n m c) (fun _ => true) 13, val a0 (Fv g n m c) (fun _ => true) 14, val a0 (Fv g n m c) (fun _ => true) 15, val a0 (Fv g n m c) (fun _ => true) 16, val a0 (Fv g n m c) (fun _ => true) 17, val a0 (Fv g n m c) (fun _ => true) 18, val a0 (Fv g n m c) (fun _ => true) 19, val a0 (Fv g n m c) (fun _ => true) 20, val a0 (Fv g n m c) (fun _ => true) 21, val a0 (Fv g n m c) (fun _ => true) 22, val a0 (Fv g n m c) (fun _ => true) 23, val a0 (Fv g n m c) (fun _ => true) 24, val a0 (Fv g n m c) (fun _ => true) 25, val a0 (Fv g n m c) (fun _ => true) 26, val a0 (Fv g n m c) (fun _ => true) 27, val a0 (Fv g n m c) (fun _ => true) 28, val a0 (Fv g n m c) (fun _ => true) 29, val a0 (Fv g n m c) (fun _ => true) 30, val a0 (Fv g n m c) (fun _ => true) 31, val a0 (Fv g n m c) (fun _ => true) 32, val a0 (Fv g n m c) (fun _ => true) 33, val a0 (Fv g n m c) (fun _ => true) 34, val a0 (Fv g n m c) (fun _ => true) 35, val a0 (Fv g n m c) (fun _ => true) 36, val a0 (Fv g n m c) (fun _ => true) 37, val a0 (Fv g n m c) (fun _ => true) 38, val a0 (Fv g n m c) (fun _ => true) 39, val a0 (Fv g n m c) (fun _ => true) 40, val a0 (Fv g n m c) (fun _ => true) 41, val a0 (Fv g n m c) (fun _ => true) 42, val a0 (Fv g n m c) (fun _ => true) 43, val a0 (Fv g n m c) (fun _ => true) 44, val a0 (Fv g n m c) (fun _ => true) 45, val a0 (Fv g n m c) (fun _ => true) 46, val a0 (Fv g n m c) (fun _ => true) 47])
    (hQ : ∀ w', Hid (w'.heap[g]? = some (.cells L'.toArray T (0, 0))) → Below B w0 w' → Q .normal ⟨A', df⟩ w') : (Code.region rid ops true).wp Try.prog Q ⟨A, df⟩ w := by
  subst hops hL hL' hA'
  refine reg9 (a := ⟨A, df⟩) hsz ha0 h7 h8 hm hmn hn hc hg hB hBg fun a' w' h => ?_
  have e := arr48 h.size h.tmps
  have e2 : a' = ⟨a'.tmps, a'.defers⟩ := rfl
  rw [e2, e, h.defers]
  refine hQ w' ?_ h.below
  have := h.row
  exact this
end Go.V.W
