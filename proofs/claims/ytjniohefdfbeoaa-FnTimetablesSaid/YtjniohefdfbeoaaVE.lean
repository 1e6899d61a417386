/- What the law FnTimetables leans on, part 5: an interpreter of the model as plain data, its soundness, the functions as it tells them, and their laws. -/
import Derived.Laws.CopyOwn
import Derived.Deep.OwnRows
import Derived.Test.YtjniohefdfbeoaaProg
import Derived.WalkKit
import Derived.LoopN
import Derived.Deep.DeepFit
import Derived.Shelf.Lays
import Derived.IntWalk
import Derived.Lib.Builder
import Derived.Test.YtjniohefdfbeoaaVD
set_option linter.unusedVariables false
set_option linter.unusedSimpArgs false
set_option maxRecDepth 100000
set_option linter.unusedVariables false
set_option linter.unusedSimpArgs false
namespace Go.V
/-- Every order is good if each operation, when it may come up, keeps what is held of the listed ones. -/
theorem wpAny_inv {P : Program} {Q : Exit -> Act -> World -> Prop} {ops : Array Oper} {Φ : (Nat -> Bool) -> Act -> World -> Prop} (back : ∀ (i : Nat) o, ops[i]? = some o -> ∀ e ∈ o.after, Region.binds .any e = true -> e.on < i)
    (hdone : ∀ L a w, (∀ i, i < ops.size -> L i = true) -> Φ L a w -> Q .normal a w)
    (hstep : ∀ L a w j o, ops[j]? = some o -> L j = false -> Closed ops L -> (∀ e ∈ o.after, Region.binds .any e = true -> L e.on = true) -> Φ L a w -> o.guard = none /\ ∀ K : Act -> World -> Prop, (∀ a' w', Φ (fun i => L i || decide (i = j)) a' w' -> K a' w') -> o.wp P a w K Q) :
    ∀ (fuel : Nat) (listed : Array Bool) (a : Act) (w : World), listed.size = ops.size -> listed.toList.count false = fuel -> Closed ops (fun i => listed.getD i false) -> Φ (fun i => listed.getD i false) a w -> wpAny P .any ops Q fuel listed a w := by
  have hready : ∀ (listed : Array Bool), listed.size = ops.size -> Region.ready .any ops listed = [] -> ∀ i, i < ops.size -> listed.getD i false = true := by
    intro listed hsz hr
    have key : ∀ m i, i < m -> i < ops.size -> listed.getD i false = true := by
      intro m
      induction m with
      | zero => intro i hi; omega
      | succ m ih =>
        intro i hi hlt
        by_cases him : i < m
        · exact ih i him hlt
        · cases hl : listed.getD i false with
          | true => rfl
          | false =>
            exfalso
            have ho' : ops[i]? = some ops[i] := by simp [hlt]
            have : i ∈ Region.ready .any ops listed := by
              rw [mem_ready]
              have hl2 : i < listed.size := by omega
              refine ⟨?_, _, ho', fun e he hb => ih e.on ?_ ?_⟩
              · simp only [Array.getD, hl2, dif_pos] at hl |-; exact hl
              · have := back i _ ho' e he hb; omega
              · have := back i _ ho' e he hb; omega
            rw [hr] at this
            simp at this
    exact fun i hi => key (i + 1) i (by omega) hi
  intro fuel
  induction fuel with
  | zero =>
    intro listed a w hsz hc hL hi
    have hall : ∀ i, i < ops.size -> listed.getD i false = true := by
      intro i hlt
      have hlt' : i < listed.size := by omega
      rw [List.count_eq_zero] at hc
      cases hb : listed.getD i false with
      | true => rfl
      | false =>
        exfalso
        apply hc
        simp only [Array.getD, hlt', dif_pos] at hb
        rw [<- hb]
        exact Array.getElem_mem_toList hlt'
    refine ⟨?_, hdone _ a w hall hi⟩
    apply List.eq_nil_iff_forall_not_mem.2
    intro i hm
    rw [mem_ready] at hm
    obtain ⟨h1, o, h2, _⟩ := hm
    have hlt := (Array.getElem?_eq_some_iff.1 h2).1
    have := hall i hlt
    have hlt' : i < listed.size := by omega
    simp only [Array.getD, hlt', dif_pos] at h1 this
    rw [this] at h1
    cases h1
  | succ fuel ih =>
    intro listed a w hsz hc hL hi
    refine ⟨fun hr => hdone _ a w (hready listed hsz hr) hi, fun j hj => ?_⟩
    rw [mem_ready] at hj
    obtain ⟨h1, o, ho, hr⟩ := hj
    have hlt := (Array.getElem?_eq_some_iff.1 ho).1
    have hlt' : j < listed.size := by omega
    have hjf : listed.getD j false = false := by simp only [Array.getD, hlt', dif_pos] at h1 |-; exact h1
    obtain ⟨hg, hs⟩ := hstep _ a w j o ho hjf hL hr hi
    unfold wpOp
    rw [ho]
    simp only [Region.wanted, hg, if_true]
    refine .inl (hs _ fun a' w' hi' => ih (listed.setIfInBounds j true) a' w' (by simpa using hsz) ?_ ?_ ?_)
    · have hlj : listed[j] = false := by simp only [Array.getD, hlt', dif_pos] at hjf; exact hjf
      rw [Array.toList_setIfInBounds, List.count_set (by simpa using hlt')]
      simp [hlj, hc]
    · intro i o' ho' hli e he hb
      simp only [getD_set hlt', Bool.or_eq_true, decide_eq_true_eq] at hli |-
      rcases hli with hli | hli
      · exact .inl (hL i o' ho' hli e he hb)
      · subst hli
        rw [ho] at ho'
        injection ho' with ho'
        subst ho'
        exact .inl (hr e he hb)
    · have e : (fun i => (listed.setIfInBounds j true).getD i false) = fun i => listed.getD i false || decide (i = j) := by
        funext i
        exact getD_set hlt'
      rw [e]
      exact hi'
theorem wp_draw_inv {P : Program} {Q : Exit -> Act -> World -> Prop} {ops : Array Oper} {rid : Nat} {a : Act} {w : World} (Φ : (Nat -> Bool) -> Act -> World -> Prop) (hm : P.follows .mixedOrders = true) (back : ∀ (i : Nat) o, ops[i]? = some o -> ∀ e ∈ o.after, Region.binds .any e = true -> e.on < i)
    (hdone : ∀ L a w, (∀ i, i < ops.size -> L i = true) -> Φ L a w -> Q .normal a w)
    (hstep : ∀ L a w j o, ops[j]? = some o -> L j = false -> Closed ops L -> (∀ e ∈ o.after, Region.binds .any e = true -> L e.on = true) -> Φ L a w -> o.guard = none /\ ∀ K : Act -> World -> Prop, (∀ a' w', Φ (fun i => L i || decide (i = j)) a' w' -> K a' w') -> o.wp P a w K Q)
    (h0 : Φ (fun _ => false) a { w with drawn := w.drawn + 1 }) : (Code.region rid ops true).wp P Q a w := by
  refine wp_region_any hm ?_
  have e2 : (fun i => (Array.replicate ops.size false).getD i false) = fun _ => false := by
    funext i
    simp only [Array.getD_eq_getD_getElem?]
    by_cases hj : i < ops.size
    · simp [hj]
    · simp [hj]
  refine wpAny_inv back hdone hstep ops.size _ a _ (by simp) (by simp) (fun j o ho hl => ?_) (by rw [e2]; exact h0)
  rw [e2] at hl
  cases hl
end Go.V
namespace Go.V.W
open Go.Proofs Go.RowKit
def regOf (id : Nat) : Code -> Option (Array Oper)
  | .region i ops _ => if i = id then some ops else none
  | .seq a b => (regOf id a).or (regOf id b)
  | .cond _ a b => (regOf id a).or (regOf id b)
  | .block _ c => regOf id c
  | .loop c => regOf id c
  | .scope c => regOf id c
  | _ => none
noncomputable def ops9 : Array Oper := (regOf 9 (bodyOf Try.f91)).getD #[]
noncomputable def dof (j : Nat) : Option (Option Tmp × Op × Option (Nat × Bool)) := (ops9[j]?).map fun o => (o.dst, o.op, o.guard)
theorem o9_0 : dof 0 = some (some 38, .move (.tmp 8), none) := by kernel_rfl
theorem o9_1 : dof 1 = some (some 39, .move (.tmp 7), none) := by kernel_rfl
theorem o9_2 : dof 2 = some (some 40, .move (.tmp 8), none) := by kernel_rfl
theorem o9_3 : dof 3 = some (some 41, .slice 32 (.tmp 39) (some (.tmp 40)) none none, none) := by kernel_rfl
theorem o9_4 : dof 4 = some (some 42, .move (.tmp 7), none) := by kernel_rfl
theorem o9_5 : dof 5 = some (some 43, .move (.tmp 8), none) := by kernel_rfl
theorem o9_6 : dof 6 = some (some 44, .slice 32 (.tmp 42) none (some (.tmp 43)) none, none) := by kernel_rfl
theorem o9_7 : dof 7 = some (some 45, .call { callee := .builtin .copy, args := #[.tmp 41, .tmp 44], argTypes := #[32, 32] }, none) := by kernel_rfl
theorem o9_8 : dof 8 = some (some 46, .binOp .add 3 (.tmp 38) (.tmp 45) 3, none) := by kernel_rfl
theorem o9_9 : dof 9 = some (some 8, .assign (.tmp 46), none) := by kernel_rfl
theorem size9 : ops9.size = 10 := by kernel_rfl
def backB (ops : Array Oper) : Bool := (List.range ops.size).all fun i => ((ops[i]?).map fun o => o.after.toList.all fun e => !Region.binds .any e || decide (e.on < i)).getD true
theorem back9B : backB ops9 = true := by kernel_rfl
theorem back9 : ∀ (i : Nat) o, ops9[i]? = some o -> ∀ e ∈ o.after, Region.binds .any e = true -> e.on < i := by
  intro i o ho e he hb
  have h := back9B
  unfold backB at h
  rw [List.all_eq_true] at h
  have hi := (Array.getElem?_eq_some_iff.1 ho).1
  have h1 := h i (List.mem_range.2 hi)
  rw [ho] at h1
  simp only [Option.map_some, Option.getD_some, List.all_eq_true] at h1
  have h2 := h1 e (Array.mem_toList_iff.2 he)
  rw [hb] at h2
  simpa using h2
noncomputable def hasE (i j : Nat) : Bool := ((ops9[i]?).map fun o => o.after.toList.any fun e => Region.binds .any e && e.on == j).getD false
theorem hasE_of {i j : Nat} (h : hasE i j = true) {o : Oper} (ho : ops9[i]? = some o) : ∃ e ∈ o.after, Region.binds .any e = true /\ e.on = j := by
  unfold hasE at h
  rw [ho] at h
  simp only [Option.map_some, Option.getD_some, List.any_eq_true, Bool.and_eq_true, beq_iff_eq] at h
  obtain ⟨e, he, h1, h2⟩ := h
  exact ⟨e, Array.mem_toList_iff.1 he, h1, h2⟩
theorem clos {L : Nat -> Bool} (hL : Closed ops9 L) {i j : Nat} (h : hasE i j = true) (hi : i < 10) (h1 : L i = true) : L j = true := by
  have hs := size9
  have hlt : i < ops9.size := by omega
  have ho : ops9[i]? = some ops9[i] := Array.getElem?_eq_getElem hlt
  obtain ⟨e, he, hb, rfl⟩ := hasE_of h ho
  exact hL i _ ho h1 e he hb
theorem rdy {L : Nat -> Bool} {i j : Nat} {o : Oper} (h : hasE i j = true) (ho : ops9[i]? = some o) (hr : ∀ e ∈ o.after, Region.binds .any e = true -> L e.on = true) : L j = true := by
  obtain ⟨e, he, hb, rfl⟩ := hasE_of h ho
  exact hr e he hb
def val (a0 F : Nat -> Value) (L : Nat -> Bool) (t : Nat) : Value := if t = 8 then (if L 9 = true then F 9 else a0 8) else if 38 <= t /\ t <= 46 then (if L (t - 38) = true then F (t - 38) else a0 t) else a0 t
def dstv (j : Nat) : Nat := if j = 9 then 8 else 38 + j
theorem val_step (a0 F : Nat -> Value) (L : Nat -> Bool) {j : Nat} (hj : j <= 9) (t : Nat) : (if t = dstv j then F j else val a0 F L t) = val a0 F (fun i => L i || decide (i = j)) t := by
  unfold val dstv
  by_cases e9 : j = 9
  · subst e9
    simp only [if_true]
    by_cases et : t = 8
    · simp [et]
    · simp only [et, if_false]
      by_cases er : 38 <= t /\ t <= 46
      · have : ¬ t - 38 = 9 := by omega
        simp [er, this]
      · simp [er]
  · simp only [e9, if_false]
    by_cases et : t = 8
    · subst et
      have h1 : ¬ 8 = 38 + j := by omega
      have h2 : ¬ (9 = j) := fun h => e9 h.symm
      simp [h1, h2]
    · simp only [et, if_false]
      by_cases er : 38 <= t /\ t <= 46
      · simp only [er, and_self, if_true]
        by_cases ej : t = 38 + j
        · subst ej
          simp
        · have : ¬ t - 38 = j := by omega
          simp [ej, this]
      · have : ¬ t = 38 + j := by omega
        simp [er, this]
def rowL (n m : Nat) (x z : Value) : List Value := List.replicate m x ++ List.replicate (n - m) z
theorem rowL_splice {n m c : Nat} {x z : Value} (h : m + c <= n) : (rowL n m x z).take m ++ List.replicate c x ++ (rowL n m x z).drop (m + c) = rowL n (m + c) x z := by
  unfold rowL
  have e1 : (List.replicate m x ++ List.replicate (n - m) z).take m = List.replicate m x := by simp
  have e2 : (List.replicate m x ++ List.replicate (n - m) z).drop (m + c) = List.replicate (n - (m + c)) z := by
    rw [List.drop_append]
    simp
    omega
  rw [e1, e2, <- List.replicate_append_replicate]
theorem row_src {w : World} {g : Nat} {L : List Value} {T : TypeId} (h : w.heap[g]? = some (.cells L.toArray T (0, 0))) : ∀ j v, L[j]? = some v -> w.cell? ((⟨g, 0, none⟩ : Addr).add j) = some v := by
  intro j v hj
  by_cases e : j = 0
  · subst e
    simp [World.cell?, Addr.add, h, hj]
  · simp [World.cell?, Addr.add, h, hj, e]
theorem eval_tmp (a : Act) (t : Nat) : a.eval (.tmp t) = a.tmps.getD t undef := rfl
theorem put_getD {a : Act} {d t : Nat} {v : Value} (hd : d < a.tmps.size) : (a.put (some d) v).tmps.getD t undef = if t = d then v else a.tmps.getD t undef := by
  unfold Act.put
  by_cases e : t = d
  · subst e
    simp [Array.getD_eq_getD_getElem?, hd]
  · have e' : d ≠ t := fun h => e h.symm
    simp [Array.getD_eq_getD_getElem?, Array.getElem?_setIfInBounds_ne e', e]
/-- What is held of the listed operations. -/
structure Phi (a0 F : Nat -> Value) (df : List Deferred) (sz g n m c B : Nat) (x z : Value) (T : TypeId) (w0 : World) (L : Nat -> Bool) (a : Act) (w : World) : Prop where
  size : a.tmps.size = sz
  defers : a.defers = df
  tmps : ∀ t, a.tmps.getD t undef = val a0 F L t
  row : w.heap[g]? = some (.cells (rowL n (if L 7 = true then m + c else m) x z).toArray T (0, 0))
  below : Below B w0 w
theorem dof_of {j : Nat} {d : Option Tmp} {p : Op} {gd : Option (Nat × Bool)} (h : dof j = some (d, p, gd)) {o : Oper} (ho : ops9[j]? = some o) : o.dst = d /\ o.op = p /\ o.guard = gd := by
  unfold dof at h
  rw [ho] at h
  simp only [Option.map_some, Option.some.injEq, Prod.mk.injEq] at h
  exact h
theorem Phi.fin {P : Program} {Q : Exit -> Act -> World -> Prop} {a0 F : Nat -> Value} {df : List Deferred} {g n m c B : Nat} {x z : Value} {T : TypeId} {w0 w w' : World} {L : Nat -> Bool} {a : Act} (h : Phi a0 F df 48 g n m c B x z T w0 L a w) {j : Nat} (hj : j <= 9) {o : Oper} (hd : o.dst = some (dstv j))
    (hrun : (execOp a.eval o).run P w = .ok (.value (F j)) w') (hrow : w'.heap[g]? = some (.cells (rowL n (if (L 7 || decide (7 = j)) = true then m + c else m) x z).toArray T (0, 0))) (hB : Below B w0 w')
    (K : Act -> World -> Prop) (hK : ∀ a' w', Phi a0 F df 48 g n m c B x z T w0 (fun i => L i || decide (i = j)) a' w' -> K a' w') : o.wp P a w K Q := by
  refine wp_value hrun (hK _ _ ⟨?_, ?_, fun t => ?_, hrow, hB⟩)
  · rw [hd]
    simp [Act.put, h.size]
  · rw [hd]
    exact h.defers
  · rw [hd, put_getD (by rw [h.size]; unfold dstv; split <;> omega), h.tmps t]
    exact val_step a0 F L hj t
theorem Phi.fin0 {P : Program} {Q : Exit -> Act -> World -> Prop} {a0 F : Nat -> Value} {df : List Deferred} {g n m c B : Nat} {x z : Value} {T : TypeId} {w0 w : World} {L : Nat -> Bool} {a : Act} (h : Phi a0 F df 48 g n m c B x z T w0 L a w) {j : Nat} (hj : j <= 9) (hj7 : 7 ≠ j) {o : Oper} (hd : o.dst = some (dstv j))
    (hrun : (execOp a.eval o).run P w = .ok (.value (F j)) w)
    (K : Act -> World -> Prop) (hK : ∀ a' w', Phi a0 F df 48 g n m c B x z T w0 (fun i => L i || decide (i = j)) a' w' -> K a' w') : o.wp P a w K Q := by
  refine h.fin hj hd hrun ?_ h.below K hK
  have : (L 7 || decide (7 = j)) = L 7 := by simp [hj7]
  rw [this]
  exact h.row
def Fv (g n m c : Nat) : Nat -> Value
  | 0 => .int .i64 (m : Int)
  | 1 => .slice (some ⟨g, 0, none⟩) n n
  | 2 => .int .i64 (m : Int)
  | 3 => .slice (some ⟨g, m, none⟩) (n - m) (n - m)
  | 4 => .slice (some ⟨g, 0, none⟩) n n
  | 5 => .int .i64 (m : Int)
  | 6 => .slice (some ⟨g, 0, none⟩) m n
  | 7 => .int .i64 (c : Int)
  | 8 => .int .i64 ((m + c : Nat) : Int)
  | _ => .int .i64 ((m + c : Nat) : Int)
theorem val8 {a0 F : Nat -> Value} {L : Nat -> Bool} (h : L 9 = false) : val a0 F L 8 = a0 8 := by simp [val, h]
theorem val7 {a0 F : Nat -> Value} {L : Nat -> Bool} : val a0 F L 7 = a0 7 := by simp [val]
theorem valD {a0 F : Nat -> Value} {L : Nat -> Bool} {j : Nat} (hj : j <= 8) (h : L j = true) : val a0 F L (38 + j) = F j := by
  unfold val
  have h1 : ¬ 38 + j = 8 := by omega
  have h2 : 38 <= 38 + j /\ 38 + j <= 46 := by omega
  have h3 : 38 + j - 38 = j := by omega
  simp only [h1, if_false, h2, and_self, if_true, h3, h]
theorem sz3 : (Try.prog.info? 3).map (·.size) = some 1 := by kernel_rfl
theorem elem32 : Try.prog.elem 32 = 3 := by kernel_rfl
theorem und32 : Try.prog.underlying 32 = some (.slice (Try.prog.elem 32)) := by kernel_rfl
theorem sliced_l {n m g : Nat} (w : World) (hmn : m < n) : (Instr.sliceAt 32 (.slice (some ⟨g, 0, none⟩) n n) (some (.int .i64 (m : Int))) none none).run Try.prog w = .ok (.slice (some ⟨g, m, none⟩) (n - m) (n - m)) w := by
  have hs := Try.sizeOf3 w
  have hne : ¬ n = m := by omega
  rw [run_sliceAt_slice w 32 _ _ _ _ und32, run_slice_l w 32 _ n n und32 .i64 (m : Int) (by omega) (by omega), elem32, hs]
  simp only [Result.andThen, sliced, Int.toNat_natCast, hne, if_false, Option.map_some, Addr.add, Nat.mul_one, Nat.zero_add]
  by_cases h0 : m = 0
  · subst h0
    simp
  · simp [h0]
theorem sliced_h {n m g : Nat} (w : World) (hmn : m < n) : (Instr.sliceAt 32 (.slice (some ⟨g, 0, none⟩) n n) none (some (.int .i64 (m : Int))) none).run Try.prog w = .ok (.slice (some ⟨g, 0, none⟩) m n) w := by
  have hs := Try.sizeOf3 w
  have hne : ¬ n = 0 := by omega
  rw [run_sliceAt_slice w 32 _ _ _ _ und32, run_slice_h w 32 _ n n und32 .i64 (m : Int) (by omega) (by omega), elem32, hs]
  simp [Result.andThen, sliced, Addr.add]
theorem reg9 {Q : Exit -> Act -> World -> Prop} {rid : Nat} {a : Act} {w w0 : World} {g n m c B : Nat} {xi zi : Int} {T : TypeId} {a0 : Nat -> Value} (hsz : a.tmps.size = 48) (ha0 : ∀ t, a.tmps.getD t undef = a0 t) (h7 : a0 7 = .slice (some ⟨g, 0, none⟩) n n) (h8 : a0 8 = .int .i64 (m : Int))
    (hm : 1 <= m) (hmn : m < n) (hn : n <= 8) (hc : c = min m (n - m)) (hg : w.heap[g]? = some (.cells (rowL n m (.int .i64 xi) (.int .i64 zi)).toArray T (0, 0))) (hB : Below B w0 w) (hBg : B <= g)
    (hQ : ∀ a' w', Phi a0 (Fv g n m c) a.defers 48 g n m c B (.int .i64 xi) (.int .i64 zi) T w0 (fun _ => true) a' w' -> Q .normal a' w') : (Code.region rid ops9 true).wp Try.prog Q a w := by
  have h0 : Phi a0 (Fv g n m c) a.defers 48 g n m c B (.int .i64 xi) (.int .i64 zi) T w0 (fun _ => false) a { w with drawn := w.drawn + 1 } :=
    ⟨hsz, rfl, fun t => by rw [ha0 t]; unfold val; by_cases e : t = 8 <;> simp [e], hg, ⟨hB.os, hB.tape, hB.output, hB.size, hB.block⟩⟩
  refine wp_draw_inv (Phi a0 (Fv g n m c) a.defers 48 g n m c B (.int .i64 xi) (.int .i64 zi) T w0) (by kernel_rfl) back9 (fun L a' w' hL h => ?_) (fun L a1 w1 j o ho hj hL hr h => ?_) h0
  · refine hQ a' w' ⟨h.size, h.defers, fun t => ?_, ?_, h.below⟩
    · rw [h.tmps t]
      unfold val
      have := size9
      have e9 : L 9 = true := hL 9 (by omega)
      by_cases et : t = 8
      · simp [et, e9]
      · by_cases er : 38 <= t /\ t <= 46
        · have : L (t - 38) = true := hL _ (by omega)
          simp [et, er, this]
        · simp [et, er]
    · have e7 : L 7 = true := hL 7 (by have := size9; omega)
      have := h.row
      rw [e7] at this
      exact this
  · have hj10 : j < 10 := by
      have := (Array.getElem?_eq_some_iff.1 ho).1
      have := size9
      omega
    have l98 : L 9 = true -> L 8 = true := clos hL (by kernel_rfl) (by omega)
    have l80 : L 8 = true -> L 0 = true := clos hL (by kernel_rfl) (by omega)
    have l87 : L 8 = true -> L 7 = true := clos hL (by kernel_rfl) (by omega)
    have l73 : L 7 = true -> L 3 = true := clos hL (by kernel_rfl) (by omega)
    have l76 : L 7 = true -> L 6 = true := clos hL (by kernel_rfl) (by omega)
    have l32 : L 3 = true -> L 2 = true := clos hL (by kernel_rfl) (by omega)
    have l65 : L 6 = true -> L 5 = true := clos hL (by kernel_rfl) (by omega)
    have no9 : (j = 0 \/ j = 2 \/ j = 5) -> L 9 = false := by
      intro hh
      cases h9 : L 9 with
      | false => rfl
      | true =>
        have e8 := l98 h9
        have e7 := l87 e8
        rcases hh with rfl | rfl | rfl
        · rw [l80 e8] at hj; cases hj
        · rw [l32 (l73 e7)] at hj; cases hj
        · rw [l65 (l76 e7)] at hj; cases hj
    have hcases : j = 0 \/ j = 1 \/ j = 2 \/ j = 3 \/ j = 4 \/ j = 5 \/ j = 6 \/ j = 7 \/ j = 8 \/ j = 9 := by omega
    rcases hcases with rfl | rfl | rfl | rfl | rfl | rfl | rfl | rfl | rfl | rfl
    · obtain ⟨d1, d2, d3⟩ := dof_of o9_0 ho
      refine ⟨d3, h.fin0 (by omega) (by omega) d1 ?_⟩
      unfold execOp
      rw [d2]
      simp [eval_tmp, h.tmps, val8 (no9 (by omega)), h8, Fv]
    · obtain ⟨d1, d2, d3⟩ := dof_of o9_1 ho
      refine ⟨d3, h.fin0 (by omega) (by omega) d1 ?_⟩
      unfold execOp
      rw [d2]
      simp [eval_tmp, h.tmps, val7, h7, Fv]
    · obtain ⟨d1, d2, d3⟩ := dof_of o9_2 ho
      refine ⟨d3, h.fin0 (by omega) (by omega) d1 ?_⟩
      unfold execOp
      rw [d2]
      simp [eval_tmp, h.tmps, val8 (no9 (by omega)), h8, Fv]
    · obtain ⟨d1, d2, d3⟩ := dof_of o9_3 ho
      refine ⟨d3, h.fin0 (by omega) (by omega) d1 ?_⟩
      have r1 : L 1 = true := rdy (by kernel_rfl) ho hr
      have r2 : L 2 = true := rdy (by kernel_rfl) ho hr
      have e1 := valD (a0 := a0) (F := Fv g n m c) (show 1 <= 8 by omega) r1
      have e2 := valD (a0 := a0) (F := Fv g n m c) (show 2 <= 8 by omega) r2
      unfold execOp
      rw [d2]
      simp [eval_tmp, h.tmps, e1, e2, Fv, sliced_l w1 hmn]
    · obtain ⟨d1, d2, d3⟩ := dof_of o9_4 ho
      refine ⟨d3, h.fin0 (by omega) (by omega) d1 ?_⟩
      unfold execOp
      rw [d2]
      simp [eval_tmp, h.tmps, val7, h7, Fv]
    · obtain ⟨d1, d2, d3⟩ := dof_of o9_5 ho
      refine ⟨d3, h.fin0 (by omega) (by omega) d1 ?_⟩
      unfold execOp
      rw [d2]
      simp [eval_tmp, h.tmps, val8 (no9 (by omega)), h8, Fv]
    · obtain ⟨d1, d2, d3⟩ := dof_of o9_6 ho
      refine ⟨d3, h.fin0 (by omega) (by omega) d1 ?_⟩
      have r1 : L 4 = true := rdy (by kernel_rfl) ho hr
      have r2 : L 5 = true := rdy (by kernel_rfl) ho hr
      have e1 := valD (a0 := a0) (F := Fv g n m c) (show 4 <= 8 by omega) r1
      have e2 := valD (a0 := a0) (F := Fv g n m c) (show 5 <= 8 by omega) r2
      unfold execOp
      rw [d2]
      simp [eval_tmp, h.tmps, e1, e2, Fv, sliced_h w1 hmn]
    · obtain ⟨d1, d2, d3⟩ := dof_of o9_7 ho
      refine ⟨d3, ?_⟩
      have r1 : L 3 = true := rdy (by kernel_rfl) ho hr
      have r2 : L 6 = true := rdy (by kernel_rfl) ho hr
      have e1 := valD (a0 := a0) (F := Fv g n m c) (show 3 <= 8 by omega) r1
      have e2 := valD (a0 := a0) (F := Fv g n m c) (show 6 <= 8 by omega) r2
      have hrw := h.row
      rw [hj] at hrw
      simp only [Bool.false_eq_true, if_false] at hrw
      have hlen : (rowL n m (.int .i64 xi) (.int .i64 zi)).length = n := by unfold rowL; simp; omega
      have hrun := run_copy_row (P := Try.prog) w1 32 32 o.type 3 g m (n - m) (n - m) ⟨g, 0, none⟩ m n (rowL n m (.int .i64 xi) (.int .i64 zi)).toArray T (List.replicate c (.int .i64 xi)) Try.underlying32 sz3 hrw (by simp only [List.length_replicate]; exact hc) (fun j v hv => by
        refine row_src hrw j v ?_
        have hjc : j < c := by
          rcases Nat.lt_or_ge j c with h' | h'
          · exact h'
          · rw [List.getElem?_eq_none (by simpa using h')] at hv; cases hv
        unfold rowL
        rw [List.getElem?_append_left (by simp; omega)]
        rw [List.getElem?_replicate] at hv |-
        rw [if_pos hjc] at hv
        rw [if_pos (by omega)]
        exact hv) (by simp [hlen]; omega) (by intro v hv; rw [List.eq_of_mem_replicate hv]; rfl)
      simp only [List.length_replicate, rowL_splice (show m + c <= n by omega)] at hrun
      refine h.fin (by omega) d1 (w' := w1.setRow g (rowL n (m + c) (.int .i64 xi) (.int .i64 zi)).toArray) ?_ ?_ (below_setRow h.below hBg _)
      · unfold execOp
        rw [d2]
        simp only [resolve, invoke, builtin, Sem.run_bind, Sem.run_pure, Result.andThen_ok, List.map_toArray, List.map_cons, List.map_nil, eval_tmp, h.tmps, e1, e2]
        show (Result.andThen (Sem.run Try.prog (Builtin.copy_ #[32, 32] o.type #[.slice (some ⟨g, m, none⟩) (n - m) (n - m), .slice (some ⟨g, 0, none⟩) m n]) w1) _) = _
        rw [hrun]
        rfl
      · simp only [decide_true, Bool.or_true, if_true]
        exact setRow_heap w1 g _ _ T _ hrw
    · obtain ⟨d1, d2, d3⟩ := dof_of o9_8 ho
      refine ⟨d3, h.fin0 (by omega) (by omega) d1 ?_⟩
      have r1 : L 0 = true := rdy (by kernel_rfl) ho hr
      have r2 : L 7 = true := rdy (by kernel_rfl) ho hr
      have e1 := valD (a0 := a0) (F := Fv g n m c) (show 0 <= 8 by omega) r1
      have e2 := valD (a0 := a0) (F := Fv g n m c) (show 7 <= 8 by omega) r2
      unfold execOp
      rw [d2]
      have hw : IntKind.wrap .i64 ((m : Int) + (c : Int)) = ((m + c : Nat) : Int) := by
        rw [Go.IntWalk.i64_in _ (by omega)]
        omega
      have hw' : IntKind.wrap .i64 ((m : Int) + (c : Int)) = (m : Int) + (c : Int) := by
        rw [hw]
        omega
      simp [eval_tmp, h.tmps, e1, e2, Fv, binOp, Op.intArith, run_eqGuard_int, hw']
    · obtain ⟨d1, d2, d3⟩ := dof_of o9_9 ho
      refine ⟨d3, h.fin0 (by omega) (by omega) d1 ?_⟩
      have r1 : L 8 = true := rdy (by kernel_rfl) ho hr
      have e1 := valD (a0 := a0) (F := Fv g n m c) (show 8 <= 8 by omega) r1
      unfold execOp
      rw [d2]
      simp [eval_tmp, h.tmps, e1, Fv]
theorem arr48 {A : Array Value} (h : A.size = 48) {f : Nat -> Value} (hf : ∀ t, A.getD t undef = f t) : A = #[f 0, f 1, f 2, f 3, f 4, f 5, f 6, f 7, f 8, f 9, f 10, f 11, f 12, f 13, f 14, f 15, f 16, f 17, f 18, f 19, f 20, f 21, f 22, f 23, f 24, f 25, f 26, f 27, f 28, f 29, f 30, f 31, f 32, f 33, f 34, f 35, f 36, f 37, f 38, f 39, f 40, f 41, f 42, f 43, f 44, f 45, f 46, f 47] := by
  apply Array.ext
  · simp [h]
  · intro i h1 h2
    have e := hf i
    rw [Array.getD_eq_getD_getElem?, Array.getElem?_eq_getElem h1] at e
    simp only [Option.getD_some] at e
    rw [e]
    simp only [List.size_toArray, List.length_cons, List.length_nil] at h2
    match i, h2 with
    | 0, _ => rfl
    | 1, _ => rfl
    | 2, _ => rfl
    | 3, _ => rfl
    | 4, _ => rfl
    | 5, _ => rfl
    | 6, _ => rfl
    | 7, _ => rfl
    | 8, _ => rfl
    | 9, _ => rfl
    | 10, _ => rfl
    | 11, _ => rfl
    | 12, _ => rfl
    | 13, _ => rfl
    | 14, _ => rfl
    | 15, _ => rfl
    | 16, _ => rfl
    | 17, _ => rfl
    | 18, _ => rfl
    | 19, _ => rfl
    | 20, _ => rfl
    | 21, _ => rfl
    | 22, _ => rfl
    | 23, _ => rfl
    | 24, _ => rfl
    | 25, _ => rfl
    | 26, _ => rfl
    | 27, _ => rfl
    | 28, _ => rfl
    | 29, _ => rfl
    | 30, _ => rfl
    | 31, _ => rfl
    | 32, _ => rfl
    | 33, _ => rfl
    | 34, _ => rfl
    | 35, _ => rfl
    | 36, _ => rfl
    | 37, _ => rfl
    | 38, _ => rfl
    | 39, _ => rfl
    | 40, _ => rfl
    | 41, _ => rfl
    | 42, _ => rfl
    | 43, _ => rfl
    | 44, _ => rfl
    | 45, _ => rfl
    | 46, _ => rfl
    | 47, _ => rfl
    | k + 48, h2 => exact absurd h2 (by simp)
theorem reg9x {Q : Exit -> Act -> World -> Prop} {rid : Nat} {ops : Array Oper} (hops : ops = ops9) {A : Array Value} {df : List Deferred} {w w0 : World} {g n m c B : Nat} {xi zi : Int} {T : TypeId} {L L' : List Value} (a0 : Nat -> Value) (hsz : A.size = 48) (ha0 : ∀ t, A.getD t undef = a0 t) (h7 : a0 7 = .slice (some ⟨g, 0, none⟩) n n) (h8 : a0 8 = .int .i64 (m : Int))
    (hm : 1 <= m) (hmn : m < n) (hn : n <= 8) (hc : c = min m (n - m)) (hL : L = rowL n m (.int .i64 xi) (.int .i64 zi)) (hL' : L' = rowL n (m + c) (.int .i64 xi) (.int .i64 zi)) (hg : w.heap[g]? = some (.cells L.toArray T (0, 0))) (hB : Below B w0 w) (hBg : B <= g) {A' : Array Value} (hA' : A' = #[val a0 (Fv g n m c) (fun _ => true) 0, val a0 (Fv g n m c) (fun _ => true) 1, val a0 (Fv g n m c) (fun _ => true) 2, val a0 (Fv g n m c) (fun _ => true) 3, val a0 (Fv g n m c) (fun _ => true) 4, val a0 (Fv g n m c) (fun _ => true) 5, val a0 (Fv g n m c) (fun _ => true) 6, val a0 (Fv g n m c) (fun _ => true) 7, val a0 (Fv g n m c) (fun _ => true) 8, val a0 (Fv g n m c) (fun _ => true) 9, val a0 (Fv g n m c) (fun _ => true) 10, val a0 (Fv g n m c) (fun _ => true) 11, val a0 (Fv g n m c) (fun _ => true) 12, val a0 (Fv g n m c) (fun _ => true) 13, val a0 (Fv g n m c) (fun _ => true) 14, val a0 (Fv g n m c) (fun _ => true) 15, val a0 (Fv g n m c) (fun _ => true) 16, val a0 (Fv g n m c) (fun _ => true) 17, val a0 (Fv g n m c) (fun _ => true) 18, val a0 (Fv g n m c) (fun _ => true) 19, val a0 (Fv g n m c) (fun _ => true) 20, val a0 (Fv g n m c) (fun _ => true) 21, val a0 (Fv g n m c) (fun _ => true) 22, val a0 (Fv g n m c) (fun _ => true) 23, val a0 (Fv g n m c) (fun _ => true) 24, val a0 (Fv g n m c) (fun _ => true) 25, val a0 (Fv g n m c) (fun _ => true) 26, val a0 (Fv g n m c) (fun _ => true) 27, val a0 (Fv g n m c) (fun _ => true) 28, val a0 (Fv g n m c) (fun _ => true) 29, val a0 (Fv g n m c) (fun _ => true) 30, val a0 (Fv g n m c) (fun _ => true) 31, val a0 (Fv g n m c) (fun _ => true) 32, val a0 (Fv g n m c) (fun _ => true) 33, val a0 (Fv g n m c) (fun _ => true) 34, val a0 (Fv g n m c) (fun _ => true) 35, val a0 (Fv g n m c) (fun _ => true) 36, val a0 (Fv g n m c) (fun _ => true) 37, val a0 (Fv g n m c) (fun _ => true) 38, val a0 (Fv g n m c) (fun _ => true) 39, val a0 (Fv g n m c) (fun _ => true) 40, val a0 (Fv g n m c) (fun _ => true) 41, val a0 (Fv g n m c) (fun _ => true) 42, val a0 (Fv g n m c) (fun _ => true) 43, val a0 (Fv g n m c) (fun _ => true) 44, val a0 (Fv g n m c) (fun _ => true) 45, val a0 (Fv g n m c) (fun _ => true) 46, val a0 (Fv g n m c) (fun _ => true) 47])
    (hQ : ∀ w', Hid (w'.heap[g]? = some (.cells L'.toArray T (0, 0))) -> Below B w0 w' -> Q .normal ⟨A', df⟩ w') : (Code.region rid ops true).wp Try.prog Q ⟨A, df⟩ w := by
  subst hops hL hL' hA'
  refine reg9 (a := ⟨A, df⟩) hsz ha0 h7 h8 hm hmn hn hc hg hB hBg fun a' w' h => ?_
  have e := arr48 h.size h.tmps
  have e2 : a' = ⟨a'.tmps, a'.defers⟩ := rfl
  rw [e2, e, h.defers]
  refine hQ w' ?_ h.below
  have := h.row
  exact this
end Go.V.W
set_option linter.unusedVariables false
set_option linter.unusedSimpArgs false
namespace Go.V.W
open Go.Proofs Go.RowKit
set_option maxRecDepth 1000000 in
theorem mul64 (n : Nat) (hn : n <= 8) (w : World) : Calls Try.prog 128 #[.int .u64 1, .int .u64 n] w fun e w' => e = .returned (.tuple #[.int .u64 0, .int .u64 n]) /\ w' = w := by
  have : n = 0 \/ n = 1 \/ n = 2 \/ n = 3 \/ n = 4 \/ n = 5 \/ n = 6 \/ n = 7 \/ n = 8 := by omega
  rcases this with rfl | rfl | rfl | rfl | rfl | rfl | rfl | rfl | rfl <;>
  (go_enter Try.func128, Try.ntmps128
   go_wp2
   go_ret2
   exact ⟨rfl, rfl⟩)
set_option maxRecDepth 1000000 in
theorem mul153 (n : Nat) (hn : n <= 8) (w : World) : Calls Try.prog 116 #[.int .u64 1, .int .u64 n] w fun e w' => e = .returned (.tuple #[.int .u64 0, .int .u64 n]) /\ w' = w := by
  have hm := mul64 n hn w
  go_enter Try.func116, Try.ntmps116
  go_wp2_with (go_at_call 128; go_fit hm; rintro e w' ⟨rfl, hw⟩; rw [hw])
  go_ret2
  exact ⟨rfl, rfl⟩
theorem made1 (z : Value) (n : Nat) : madeCells #[z] n = (List.replicate n z).toArray := by
  apply Array.ext
  · simp [madeCells]
  · intro i h1 h2
    simp [madeCells, Nat.mod_one]
theorem info3 : (Try.prog.info? 3).map (fun i => (i.zero, i.size, i.bytes)) = some (some (.int .i64 0), 1, 8) := by kernel_rfl
theorem mk3 (n : Nat) (hn : n <= 8) (w : World) : (Instr.makeSlice 32 (.int .i64 (n : Int)) (.int .i64 (n : Int))).run Try.prog w = .ok (.slice (some ⟨w.heap.size, 0, none⟩) n n) (w.alloc (.cells (List.replicate n (.int .i64 0)).toArray 3)) := by
  rw [<- made1]
  exact run_make_row' 32 3 (.int .i64 0) 8 Try.underlying32 info3 rfl .i64 .i64 n (by omega) (by omega) w
theorem src1 {w : World} {a : Addr} {v : Value} (h : w.cell? a = some v) : ∀ j u, [v][j]? = some u -> w.cell? (a.add j) = some u := by
  intro j u hj
  match j with
  | 0 =>
    simp only [List.length_cons, List.length_nil, Nat.zero_add, Nat.lt_add_one, List.getElem?_eq_getElem, List.getElem_cons_zero, Option.some.injEq] at hj
    subst hj
    exact h
  | j + 1 => simp at hj
theorem cell_alloc {w : World} {a : Addr} {v : Value} (h : w.cell? a = some v) (o : Obj) : (w.alloc o).cell? a = some v := by
  have hlt : a.block < w.heap.size := by
    unfold World.cell? at h
    cases hb : w.heap[a.block]? with
    | none => rw [hb] at h; cases h
    | some x => exact (Array.getElem?_eq_some_iff.1 hb).1
  unfold World.cell? at h |-
  rw [Below.heap_alloc w o a.block hlt]
  exact h
set_option maxRecDepth 1000000 in
set_option maxHeartbeats 4000000 in
theorem rep1 (x : Int) (w : World) (b off cap : Nat) (hx : w.cell? ⟨b, off, none⟩ = some (.int .i64 x)) : Calls Try.prog 91 #[.slice (some ⟨b, off, none⟩) 1 cap, .int .i64 1] w fun e w' => ∃ g T, e = .returned (.slice (some ⟨g, 0, none⟩) 1 1) /\ w.heap.size <= g /\ w'.heap[g]? = some (.cells (List.replicate 1 (.int .i64 x)).toArray T (0, 0)) /\ Below w.heap.size w w' := by
  have hm := mul153 1 (by omega) w
  obtain ⟨W1, hW1⟩ : ∃ W1, W1 = w.alloc (.cells (List.replicate 1 (.int .i64 0)).toArray 3) := ⟨_, rfl⟩
  have hk : (Instr.makeSlice 32 (.int .i64 1) (.int .i64 1)).run Try.prog w = .ok (.slice (some ⟨w.heap.size, 0, none⟩) 1 1) W1 := by
    rw [hW1]
    exact mk3 1 (by omega) w
  have hB0 : Hid (Below w.heap.size w W1) := hW1 ▸ (Below.refl _ w).alloc (Nat.le_refl _) _
  have hG0 : Hid (W1.heap[w.heap.size]? = some (.cells ([.int .i64 0] : List Value).toArray 3 (0, 0))) := by
    subst hW1
    show _ = _
    exact heap_alloc_new w _
  have hs0 : Hid (∀ j v, [Value.int .i64 x][j]? = some v -> W1.cell? ((⟨b, off, none⟩ : Addr).add j) = some v) := src1 (hW1 ▸ cell_alloc hx _)
  clear hW1
  go_enter Try.func91, Try.ntmps91
  go_wp2_with (first
    | (go_at_call 116; go_fit hm; rintro e w' ⟨rfl, hw⟩; rw [hw])
    | (refine wpList_copy_splice (o := ⟨some 33, _, _, _, _, _⟩) rfl (.tmp 31) (.tmp 32) 32 32 rfl 3 Try.underlying32 sz3 (some ⟨w.heap.size, 0, none⟩) (some ⟨b, off, none⟩) 1 1 1 cap rfl rfl w.heap.size 0 [.int .i64 0] 3 hG0.out [.int .i64 x] rfl (fun _ => ⟨rfl, _, rfl, hs0.out⟩) (by simp) (by simp [Value.oneCell']) w.heap.size w hB0.out (Nat.le_refl _) ?_; intro w2 HG2 hB2))
  have hG : Hid (w2.heap[w.heap.size]? = some (.cells ([.int .i64 x] : List Value).toArray 3 (0, 0))) := HG2.out
  clear HG2 hk hs0 hG0 hB0 hm
  refine wp_loop_rounds 1 ?_
  rw [rounds_succ]
  go_wp2_with (fail)
  go_ret
  first
    | exact ⟨_, _, rfl, Nat.le_refl _, hG.out, hB2⟩
    | exact ⟨_, rfl, Nat.le_refl _, ⟨_, hG.out⟩, hB2⟩
set_option maxRecDepth 1000000 in
set_option maxHeartbeats 4000000 in
theorem rep2 (x : Int) (w : World) (b off cap : Nat) (hx : w.cell? ⟨b, off, none⟩ = some (.int .i64 x)) : Calls Try.prog 91 #[.slice (some ⟨b, off, none⟩) 1 cap, .int .i64 2] w fun e w' => ∃ g T, e = .returned (.slice (some ⟨g, 0, none⟩) 2 2) /\ w.heap.size <= g /\ w'.heap[g]? = some (.cells (List.replicate 2 (.int .i64 x)).toArray T (0, 0)) /\ Below w.heap.size w w' := by
  have hm := mul153 2 (by omega) w
  obtain ⟨W1, hW1⟩ : ∃ W1, W1 = w.alloc (.cells (List.replicate 2 (.int .i64 0)).toArray 3) := ⟨_, rfl⟩
  have hk : (Instr.makeSlice 32 (.int .i64 2) (.int .i64 2)).run Try.prog w = .ok (.slice (some ⟨w.heap.size, 0, none⟩) 2 2) W1 := by
    rw [hW1]
    exact mk3 2 (by omega) w
  have hB0 : Hid (Below w.heap.size w W1) := hW1 ▸ (Below.refl _ w).alloc (Nat.le_refl _) _
  have hG0 : Hid (W1.heap[w.heap.size]? = some (.cells ([.int .i64 0, .int .i64 0] : List Value).toArray 3 (0, 0))) := by
    subst hW1
    show _ = _
    exact heap_alloc_new w _
  have hs0 : Hid (∀ j v, [Value.int .i64 x][j]? = some v -> W1.cell? ((⟨b, off, none⟩ : Addr).add j) = some v) := src1 (hW1 ▸ cell_alloc hx _)
  clear hW1
  go_enter Try.func91, Try.ntmps91
  go_wp2_with (first
    | (go_at_call 116; go_fit hm; rintro e w' ⟨rfl, hw⟩; rw [hw])
    | (refine wpList_copy_splice (o := ⟨some 33, _, _, _, _, _⟩) rfl (.tmp 31) (.tmp 32) 32 32 rfl 3 Try.underlying32 sz3 (some ⟨w.heap.size, 0, none⟩) (some ⟨b, off, none⟩) 2 2 1 cap rfl rfl w.heap.size 0 [.int .i64 0, .int .i64 0] 3 hG0.out [.int .i64 x] rfl (fun _ => ⟨rfl, _, rfl, hs0.out⟩) (by simp) (by simp [Value.oneCell']) w.heap.size w hB0.out (Nat.le_refl _) ?_; intro w2 HG2 hB2))
  have hG : Hid (w2.heap[w.heap.size]? = some (.cells ([.int .i64 x, .int .i64 0] : List Value).toArray 3 (0, 0))) := HG2.out
  clear HG2 hk hs0 hG0 hB0 hm
  refine wp_loop_rounds 2 ?_
  rw [rounds_succ]
  go_wp2_with (fail)
  refine reg9x (by kernel_rfl) (g := w.heap.size) (n := 2) (m := 1) (c := 1) (xi := x) (zi := 0) (T := 3) (L := [.int .i64 x, .int .i64 0]) (L' := [.int .i64 x, .int .i64 x]) _ rfl (fun _ => rfl) rfl rfl (by omega) (by omega) (by omega) rfl rfl rfl hG.out hB2 (Nat.le_refl _) rfl ?_
  intro w3 hG3 hB3
  clear hG hB2
  have hG := hG3
  have hB2 := hB3
  clear hG3 hB3
  simp only [Exit.inBlock, Exit.then, rounds_succ, val, Fv]
  go_wp2_with (fail)
  go_ret
  first
    | exact ⟨_, _, rfl, Nat.le_refl _, hG.out, hB2⟩
    | exact ⟨_, rfl, Nat.le_refl _, ⟨_, hG.out⟩, hB2⟩
set_option maxRecDepth 1000000 in
set_option maxHeartbeats 4000000 in
theorem rep3 (x : Int) (w : World) (b off cap : Nat) (hx : w.cell? ⟨b, off, none⟩ = some (.int .i64 x)) : Calls Try.prog 91 #[.slice (some ⟨b, off, none⟩) 1 cap, .int .i64 3] w fun e w' => ∃ g T, e = .returned (.slice (some ⟨g, 0, none⟩) 3 3) /\ w.heap.size <= g /\ w'.heap[g]? = some (.cells (List.replicate 3 (.int .i64 x)).toArray T (0, 0)) /\ Below w.heap.size w w' := by
  have hm := mul153 3 (by omega) w
  obtain ⟨W1, hW1⟩ : ∃ W1, W1 = w.alloc (.cells (List.replicate 3 (.int .i64 0)).toArray 3) := ⟨_, rfl⟩
  have hk : (Instr.makeSlice 32 (.int .i64 3) (.int .i64 3)).run Try.prog w = .ok (.slice (some ⟨w.heap.size, 0, none⟩) 3 3) W1 := by
    rw [hW1]
    exact mk3 3 (by omega) w
  have hB0 : Hid (Below w.heap.size w W1) := hW1 ▸ (Below.refl _ w).alloc (Nat.le_refl _) _
  have hG0 : Hid (W1.heap[w.heap.size]? = some (.cells ([.int .i64 0, .int .i64 0, .int .i64 0] : List Value).toArray 3 (0, 0))) := by
    subst hW1
    show _ = _
    exact heap_alloc_new w _
  have hs0 : Hid (∀ j v, [Value.int .i64 x][j]? = some v -> W1.cell? ((⟨b, off, none⟩ : Addr).add j) = some v) := src1 (hW1 ▸ cell_alloc hx _)
  clear hW1
  go_enter Try.func91, Try.ntmps91
  go_wp2_with (first
    | (go_at_call 116; go_fit hm; rintro e w' ⟨rfl, hw⟩; rw [hw])
    | (refine wpList_copy_splice (o := ⟨some 33, _, _, _, _, _⟩) rfl (.tmp 31) (.tmp 32) 32 32 rfl 3 Try.underlying32 sz3 (some ⟨w.heap.size, 0, none⟩) (some ⟨b, off, none⟩) 3 3 1 cap rfl rfl w.heap.size 0 [.int .i64 0, .int .i64 0, .int .i64 0] 3 hG0.out [.int .i64 x] rfl (fun _ => ⟨rfl, _, rfl, hs0.out⟩) (by simp) (by simp [Value.oneCell']) w.heap.size w hB0.out (Nat.le_refl _) ?_; intro w2 HG2 hB2))
  have hG : Hid (w2.heap[w.heap.size]? = some (.cells ([.int .i64 x, .int .i64 0, .int .i64 0] : List Value).toArray 3 (0, 0))) := HG2.out
  clear HG2 hk hs0 hG0 hB0 hm
  refine wp_loop_rounds 3 ?_
  rw [rounds_succ]
  go_wp2_with (fail)
  refine reg9x (by kernel_rfl) (g := w.heap.size) (n := 3) (m := 1) (c := 1) (xi := x) (zi := 0) (T := 3) (L := [.int .i64 x, .int .i64 0, .int .i64 0]) (L' := [.int .i64 x, .int .i64 x, .int .i64 0]) _ rfl (fun _ => rfl) rfl rfl (by omega) (by omega) (by omega) rfl rfl rfl hG.out hB2 (Nat.le_refl _) rfl ?_
  intro w3 hG3 hB3
  clear hG hB2
  have hG := hG3
  have hB2 := hB3
  clear hG3 hB3
  simp only [Exit.inBlock, Exit.then, rounds_succ, val, Fv]
  go_wp2_with (fail)
  refine reg9x (by kernel_rfl) (g := w.heap.size) (n := 3) (m := 2) (c := 1) (xi := x) (zi := 0) (T := 3) (L := [.int .i64 x, .int .i64 x, .int .i64 0]) (L' := [.int .i64 x, .int .i64 x, .int .i64 x]) _ rfl (fun _ => rfl) rfl rfl (by omega) (by omega) (by omega) rfl rfl rfl hG.out hB2 (Nat.le_refl _) rfl ?_
  intro w3 hG3 hB3
  clear hG hB2
  have hG := hG3
  have hB2 := hB3
  clear hG3 hB3
  simp only [Exit.inBlock, Exit.then, rounds_succ, val, Fv]
  go_wp2_with (fail)
  go_ret
  first
    | exact ⟨_, _, rfl, Nat.le_refl _, hG.out, hB2⟩
    | exact ⟨_, rfl, Nat.le_refl _, ⟨_, hG.out⟩, hB2⟩
set_option maxRecDepth 1000000 in
set_option maxHeartbeats 4000000 in
theorem rep4 (x : Int) (w : World) (b off cap : Nat) (hx : w.cell? ⟨b, off, none⟩ = some (.int .i64 x)) : Calls Try.prog 91 #[.slice (some ⟨b, off, none⟩) 1 cap, .int .i64 4] w fun e w' => ∃ g T, e = .returned (.slice (some ⟨g, 0, none⟩) 4 4) /\ w.heap.size <= g /\ w'.heap[g]? = some (.cells (List.replicate 4 (.int .i64 x)).toArray T (0, 0)) /\ Below w.heap.size w w' := by
  have hm := mul153 4 (by omega) w
  obtain ⟨W1, hW1⟩ : ∃ W1, W1 = w.alloc (.cells (List.replicate 4 (.int .i64 0)).toArray 3) := ⟨_, rfl⟩
  have hk : (Instr.makeSlice 32 (.int .i64 4) (.int .i64 4)).run Try.prog w = .ok (.slice (some ⟨w.heap.size, 0, none⟩) 4 4) W1 := by
    rw [hW1]
    exact mk3 4 (by omega) w
  have hB0 : Hid (Below w.heap.size w W1) := hW1 ▸ (Below.refl _ w).alloc (Nat.le_refl _) _
  have hG0 : Hid (W1.heap[w.heap.size]? = some (.cells ([.int .i64 0, .int .i64 0, .int .i64 0, .int .i64 0] : List Value).toArray 3 (0, 0))) := by
    subst hW1
    show _ = _
    exact heap_alloc_new w _
  have hs0 : Hid (∀ j v, [Value.int .i64 x][j]? = some v -> W1.cell? ((⟨b, off, none⟩ : Addr).add j) = some v) := src1 (hW1 ▸ cell_alloc hx _)
  clear hW1
  go_enter Try.func91, Try.ntmps91
  go_wp2_with (first
    | (go_at_call 116; go_fit hm; rintro e w' ⟨rfl, hw⟩; rw [hw])
    | (refine wpList_copy_splice (o := ⟨some 33, _, _, _, _, _⟩) rfl (.tmp 31) (.tmp 32) 32 32 rfl 3 Try.underlying32 sz3 (some ⟨w.heap.size, 0, none⟩) (some ⟨b, off, none⟩) 4 4 1 cap rfl rfl w.heap.size 0 [.int .i64 0, .int .i64 0, .int .i64 0, .int .i64 0] 3 hG0.out [.int .i64 x] rfl (fun _ => ⟨rfl, _, rfl, hs0.out⟩) (by simp) (by simp [Value.oneCell']) w.heap.size w hB0.out (Nat.le_refl _) ?_; intro w2 HG2 hB2))
  have hG : Hid (w2.heap[w.heap.size]? = some (.cells ([.int .i64 x, .int .i64 0, .int .i64 0, .int .i64 0] : List Value).toArray 3 (0, 0))) := HG2.out
  clear HG2 hk hs0 hG0 hB0 hm
  refine wp_loop_rounds 3 ?_
  rw [rounds_succ]
  go_wp2_with (fail)
  refine reg9x (by kernel_rfl) (g := w.heap.size) (n := 4) (m := 1) (c := 1) (xi := x) (zi := 0) (T := 3) (L := [.int .i64 x, .int .i64 0, .int .i64 0, .int .i64 0]) (L' := [.int .i64 x, .int .i64 x, .int .i64 0, .int .i64 0]) _ rfl (fun _ => rfl) rfl rfl (by omega) (by omega) (by omega) rfl rfl rfl hG.out hB2 (Nat.le_refl _) rfl ?_
  intro w3 hG3 hB3
  clear hG hB2
  have hG := hG3
  have hB2 := hB3
  clear hG3 hB3
  simp only [Exit.inBlock, Exit.then, rounds_succ, val, Fv]
  go_wp2_with (fail)
  refine reg9x (by kernel_rfl) (g := w.heap.size) (n := 4) (m := 2) (c := 2) (xi := x) (zi := 0) (T := 3) (L := [.int .i64 x, .int .i64 x, .int .i64 0, .int .i64 0]) (L' := [.int .i64 x, .int .i64 x, .int .i64 x, .int .i64 x]) _ rfl (fun _ => rfl) rfl rfl (by omega) (by omega) (by omega) rfl rfl rfl hG.out hB2 (Nat.le_refl _) rfl ?_
  intro w3 hG3 hB3
  clear hG hB2
  have hG := hG3
  have hB2 := hB3
  clear hG3 hB3
  simp only [Exit.inBlock, Exit.then, rounds_succ, val, Fv]
  go_wp2_with (fail)
  go_ret
  first
    | exact ⟨_, _, rfl, Nat.le_refl _, hG.out, hB2⟩
    | exact ⟨_, rfl, Nat.le_refl _, ⟨_, hG.out⟩, hB2⟩
set_option maxRecDepth 1000000 in
set_option maxHeartbeats 4000000 in
theorem rep5 (x : Int) (w : World) (b off cap : Nat) (hx : w.cell? ⟨b, off, none⟩ = some (.int .i64 x)) : Calls Try.prog 91 #[.slice (some ⟨b, off, none⟩) 1 cap, .int .i64 5] w fun e w' => ∃ g T, e = .returned (.slice (some ⟨g, 0, none⟩) 5 5) /\ w.heap.size <= g /\ w'.heap[g]? = some (.cells (List.replicate 5 (.int .i64 x)).toArray T (0, 0)) /\ Below w.heap.size w w' := by
  have hm := mul153 5 (by omega) w
  obtain ⟨W1, hW1⟩ : ∃ W1, W1 = w.alloc (.cells (List.replicate 5 (.int .i64 0)).toArray 3) := ⟨_, rfl⟩
  have hk : (Instr.makeSlice 32 (.int .i64 5) (.int .i64 5)).run Try.prog w = .ok (.slice (some ⟨w.heap.size, 0, none⟩) 5 5) W1 := by
    rw [hW1]
    exact mk3 5 (by omega) w
  have hB0 : Hid (Below w.heap.size w W1) := hW1 ▸ (Below.refl _ w).alloc (Nat.le_refl _) _
  have hG0 : Hid (W1.heap[w.heap.size]? = some (.cells ([.int .i64 0, .int .i64 0, .int .i64 0, .int .i64 0, .int .i64 0] : List Value).toArray 3 (0, 0))) := by
    subst hW1
    show _ = _
    exact heap_alloc_new w _
  have hs0 : Hid (∀ j v, [Value.int .i64 x][j]? = some v -> W1.cell? ((⟨b, off, none⟩ : Addr).add j) = some v) := src1 (hW1 ▸ cell_alloc hx _)
  clear hW1
  go_enter Try.func91, Try.ntmps91
  go_wp2_with (first
    | (go_at_call 116; go_fit hm; rintro e w' ⟨rfl, hw⟩; rw [hw])
    | (refine wpList_copy_splice (o := ⟨some 33, _, _, _, _, _⟩) rfl (.tmp 31) (.tmp 32) 32 32 rfl 3 Try.underlying32 sz3 (some ⟨w.heap.size, 0, none⟩) (some ⟨b, off, none⟩) 5 5 1 cap rfl rfl w.heap.size 0 [.int .i64 0, .int .i64 0, .int .i64 0, .int .i64 0, .int .i64 0] 3 hG0.out [.int .i64 x] rfl (fun _ => ⟨rfl, _, rfl, hs0.out⟩) (by simp) (by simp [Value.oneCell']) w.heap.size w hB0.out (Nat.le_refl _) ?_; intro w2 HG2 hB2))
  have hG : Hid (w2.heap[w.heap.size]? = some (.cells ([.int .i64 x, .int .i64 0, .int .i64 0, .int .i64 0, .int .i64 0] : List Value).toArray 3 (0, 0))) := HG2.out
  clear HG2 hk hs0 hG0 hB0 hm
  refine wp_loop_rounds 4 ?_
  rw [rounds_succ]
  go_wp2_with (fail)
  refine reg9x (by kernel_rfl) (g := w.heap.size) (n := 5) (m := 1) (c := 1) (xi := x) (zi := 0) (T := 3) (L := [.int .i64 x, .int .i64 0, .int .i64 0, .int .i64 0, .int .i64 0]) (L' := [.int .i64 x, .int .i64 x, .int .i64 0, .int .i64 0, .int .i64 0]) _ rfl (fun _ => rfl) rfl rfl (by omega) (by omega) (by omega) rfl rfl rfl hG.out hB2 (Nat.le_refl _) rfl ?_
  intro w3 hG3 hB3
  clear hG hB2
  have hG := hG3
  have hB2 := hB3
  clear hG3 hB3
  simp only [Exit.inBlock, Exit.then, rounds_succ, val, Fv]
  go_wp2_with (fail)
  refine reg9x (by kernel_rfl) (g := w.heap.size) (n := 5) (m := 2) (c := 2) (xi := x) (zi := 0) (T := 3) (L := [.int .i64 x, .int .i64 x, .int .i64 0, .int .i64 0, .int .i64 0]) (L' := [.int .i64 x, .int .i64 x, .int .i64 x, .int .i64 x, .int .i64 0]) _ rfl (fun _ => rfl) rfl rfl (by omega) (by omega) (by omega) rfl rfl rfl hG.out hB2 (Nat.le_refl _) rfl ?_
  intro w3 hG3 hB3
  clear hG hB2
  have hG := hG3
  have hB2 := hB3
  clear hG3 hB3
  simp only [Exit.inBlock, Exit.then, rounds_succ, val, Fv]
  go_wp2_with (fail)
  refine reg9x (by kernel_rfl) (g := w.heap.size) (n := 5) (m := 4) (c := 1) (xi := x) (zi := 0) (T := 3) (L := [.int .i64 x, .int .i64 x, .int .i64 x, .int .i64 x, .int .i64 0]) (L' := [.int .i64 x, .int .i64 x, .int .i64 x, .int .i64 x, .int .i64 x]) _ rfl (fun _ => rfl) rfl rfl (by omega) (by omega) (by omega) rfl rfl rfl hG.out hB2 (Nat.le_refl _) rfl ?_
  intro w3 hG3 hB3
  clear hG hB2
  have hG := hG3
  have hB2 := hB3
  clear hG3 hB3
  simp only [Exit.inBlock, Exit.then, rounds_succ, val, Fv]
  go_wp2_with (fail)
  go_ret
  first
    | exact ⟨_, _, rfl, Nat.le_refl _, hG.out, hB2⟩
    | exact ⟨_, rfl, Nat.le_refl _, ⟨_, hG.out⟩, hB2⟩
set_option maxRecDepth 1000000 in
set_option maxHeartbeats 4000000 in
theorem rep6 (x : Int) (w : World) (b off cap : Nat) (hx : w.cell? ⟨b, off, none⟩ = some (.int .i64 x)) : Calls Try.prog 91 #[.slice (some ⟨b, off, none⟩) 1 cap, .int .i64 6] w fun e w' => ∃ g T, e = .returned (.slice (some ⟨g, 0, none⟩) 6 6) /\ w.heap.size <= g /\ w'.heap[g]? = some (.cells (List.replicate 6 (.int .i64 x)).toArray T (0, 0)) /\ Below w.heap.size w w' := by
  have hm := mul153 6 (by omega) w
  obtain ⟨W1, hW1⟩ : ∃ W1, W1 = w.alloc (.cells (List.replicate 6 (.int .i64 0)).toArray 3) := ⟨_, rfl⟩
  have hk : (Instr.makeSlice 32 (.int .i64 6) (.int .i64 6)).run Try.prog w = .ok (.slice (some ⟨w.heap.size, 0, none⟩) 6 6) W1 := by
    rw [hW1]
    exact mk3 6 (by omega) w
  have hB0 : Hid (Below w.heap.size w W1) := hW1 ▸ (Below.refl _ w).alloc (Nat.le_refl _) _
  have hG0 : Hid (W1.heap[w.heap.size]? = some (.cells ([.int .i64 0, .int .i64 0, .int .i64 0, .int .i64 0, .int .i64 0, .int .i64 0] : List Value).toArray 3 (0, 0))) := by
    subst hW1
    show _ = _
    exact heap_alloc_new w _
  have hs0 : Hid (∀ j v, [Value.int .i64 x][j]? = some v -> W1.cell? ((⟨b, off, none⟩ : Addr).add j) = some v) := src1 (hW1 ▸ cell_alloc hx _)
  clear hW1
  go_enter Try.func91, Try.ntmps91
  go_wp2_with (first
    | (go_at_call 116; go_fit hm; rintro e w' ⟨rfl, hw⟩; rw [hw])
    | (refine wpList_copy_splice (o := ⟨some 33, _, _, _, _, _⟩) rfl (.tmp 31) (.tmp 32) 32 32 rfl 3 Try.underlying32 sz3 (some ⟨w.heap.size, 0, none⟩) (some ⟨b, off, none⟩) 6 6 1 cap rfl rfl w.heap.size 0 [.int .i64 0, .int .i64 0, .int .i64 0, .int .i64 0, .int .i64 0, .int .i64 0] 3 hG0.out [.int .i64 x] rfl (fun _ => ⟨rfl, _, rfl, hs0.out⟩) (by simp) (by simp [Value.oneCell']) w.heap.size w hB0.out (Nat.le_refl _) ?_; intro w2 HG2 hB2))
  have hG : Hid (w2.heap[w.heap.size]? = some (.cells ([.int .i64 x, .int .i64 0, .int .i64 0, .int .i64 0, .int .i64 0, .int .i64 0] : List Value).toArray 3 (0, 0))) := HG2.out
  clear HG2 hk hs0 hG0 hB0 hm
  refine wp_loop_rounds 4 ?_
  rw [rounds_succ]
  go_wp2_with (fail)
  refine reg9x (by kernel_rfl) (g := w.heap.size) (n := 6) (m := 1) (c := 1) (xi := x) (zi := 0) (T := 3) (L := [.int .i64 x, .int .i64 0, .int .i64 0, .int .i64 0, .int .i64 0, .int .i64 0]) (L' := [.int .i64 x, .int .i64 x, .int .i64 0, .int .i64 0, .int .i64 0, .int .i64 0]) _ rfl (fun _ => rfl) rfl rfl (by omega) (by omega) (by omega) rfl rfl rfl hG.out hB2 (Nat.le_refl _) rfl ?_
  intro w3 hG3 hB3
  clear hG hB2
  have hG := hG3
  have hB2 := hB3
  clear hG3 hB3
  simp only [Exit.inBlock, Exit.then, rounds_succ, val, Fv]
  go_wp2_with (fail)
  refine reg9x (by kernel_rfl) (g := w.heap.size) (n := 6) (m := 2) (c := 2) (xi := x) (zi := 0) (T := 3) (L := [.int .i64 x, .int .i64 x, .int .i64 0, .int .i64 0, .int .i64 0, .int .i64 0]) (L' := [.int .i64 x, .int .i64 x, .int .i64 x, .int .i64 x, .int .i64 0, .int .i64 0]) _ rfl (fun _ => rfl) rfl rfl (by omega) (by omega) (by omega) rfl rfl rfl hG.out hB2 (Nat.le_refl _) rfl ?_
  intro w3 hG3 hB3
  clear hG hB2
  have hG := hG3
  have hB2 := hB3
  clear hG3 hB3
  simp only [Exit.inBlock, Exit.then, rounds_succ, val, Fv]
  go_wp2_with (fail)
  refine reg9x (by kernel_rfl) (g := w.heap.size) (n := 6) (m := 4) (c := 2) (xi := x) (zi := 0) (T := 3) (L := [.int .i64 x, .int .i64 x, .int .i64 x, .int .i64 x, .int .i64 0, .int .i64 0]) (L' := [.int .i64 x, .int .i64 x, .int .i64 x, .int .i64 x, .int .i64 x, .int .i64 x]) _ rfl (fun _ => rfl) rfl rfl (by omega) (by omega) (by omega) rfl rfl rfl hG.out hB2 (Nat.le_refl _) rfl ?_
  intro w3 hG3 hB3
  clear hG hB2
  have hG := hG3
  have hB2 := hB3
  clear hG3 hB3
  simp only [Exit.inBlock, Exit.then, rounds_succ, val, Fv]
  go_wp2_with (fail)
  go_ret
  first
    | exact ⟨_, _, rfl, Nat.le_refl _, hG.out, hB2⟩
    | exact ⟨_, rfl, Nat.le_refl _, ⟨_, hG.out⟩, hB2⟩
set_option maxRecDepth 1000000 in
set_option maxHeartbeats 4000000 in
theorem rep7 (x : Int) (w : World) (b off cap : Nat) (hx : w.cell? ⟨b, off, none⟩ = some (.int .i64 x)) : Calls Try.prog 91 #[.slice (some ⟨b, off, none⟩) 1 cap, .int .i64 7] w fun e w' => ∃ g T, e = .returned (.slice (some ⟨g, 0, none⟩) 7 7) /\ w.heap.size <= g /\ w'.heap[g]? = some (.cells (List.replicate 7 (.int .i64 x)).toArray T (0, 0)) /\ Below w.heap.size w w' := by
  have hm := mul153 7 (by omega) w
  obtain ⟨W1, hW1⟩ : ∃ W1, W1 = w.alloc (.cells (List.replicate 7 (.int .i64 0)).toArray 3) := ⟨_, rfl⟩
  have hk : (Instr.makeSlice 32 (.int .i64 7) (.int .i64 7)).run Try.prog w = .ok (.slice (some ⟨w.heap.size, 0, none⟩) 7 7) W1 := by
    rw [hW1]
    exact mk3 7 (by omega) w
  have hB0 : Hid (Below w.heap.size w W1) := hW1 ▸ (Below.refl _ w).alloc (Nat.le_refl _) _
  have hG0 : Hid (W1.heap[w.heap.size]? = some (.cells ([.int .i64 0, .int .i64 0, .int .i64 0, .int .i64 0, .int .i64 0, .int .i64 0, .int .i64 0] : List Value).toArray 3 (0, 0))) := by
    subst hW1
    show _ = _
    exact heap_alloc_new w _
  have hs0 : Hid (∀ j v, [Value.int .i64 x][j]? = some v -> W1.cell? ((⟨b, off, none⟩ : Addr).add j) = some v) := src1 (hW1 ▸ cell_alloc hx _)
  clear hW1
  go_enter Try.func91, Try.ntmps91
  go_wp2_with (first
    | (go_at_call 116; go_fit hm; rintro e w' ⟨rfl, hw⟩; rw [hw])
    | (refine wpList_copy_splice (o := ⟨some 33, _, _, _, _, _⟩) rfl (.tmp 31) (.tmp 32) 32 32 rfl 3 Try.underlying32 sz3 (some ⟨w.heap.size, 0, none⟩) (some ⟨b, off, none⟩) 7 7 1 cap rfl rfl w.heap.size 0 [.int .i64 0, .int .i64 0, .int .i64 0, .int .i64 0, .int .i64 0, .int .i64 0, .int .i64 0] 3 hG0.out [.int .i64 x] rfl (fun _ => ⟨rfl, _, rfl, hs0.out⟩) (by simp) (by simp [Value.oneCell']) w.heap.size w hB0.out (Nat.le_refl _) ?_; intro w2 HG2 hB2))
  have hG : Hid (w2.heap[w.heap.size]? = some (.cells ([.int .i64 x, .int .i64 0, .int .i64 0, .int .i64 0, .int .i64 0, .int .i64 0, .int .i64 0] : List Value).toArray 3 (0, 0))) := HG2.out
  clear HG2 hk hs0 hG0 hB0 hm
  refine wp_loop_rounds 4 ?_
  rw [rounds_succ]
  go_wp2_with (fail)
  refine reg9x (by kernel_rfl) (g := w.heap.size) (n := 7) (m := 1) (c := 1) (xi := x) (zi := 0) (T := 3) (L := [.int .i64 x, .int .i64 0, .int .i64 0, .int .i64 0, .int .i64 0, .int .i64 0, .int .i64 0]) (L' := [.int .i64 x, .int .i64 x, .int .i64 0, .int .i64 0, .int .i64 0, .int .i64 0, .int .i64 0]) _ rfl (fun _ => rfl) rfl rfl (by omega) (by omega) (by omega) rfl rfl rfl hG.out hB2 (Nat.le_refl _) rfl ?_
  intro w3 hG3 hB3
  clear hG hB2
  have hG := hG3
  have hB2 := hB3
  clear hG3 hB3
  simp only [Exit.inBlock, Exit.then, rounds_succ, val, Fv]
  go_wp2_with (fail)
  refine reg9x (by kernel_rfl) (g := w.heap.size) (n := 7) (m := 2) (c := 2) (xi := x) (zi := 0) (T := 3) (L := [.int .i64 x, .int .i64 x, .int .i64 0, .int .i64 0, .int .i64 0, .int .i64 0, .int .i64 0]) (L' := [.int .i64 x, .int .i64 x, .int .i64 x, .int .i64 x, .int .i64 0, .int .i64 0, .int .i64 0]) _ rfl (fun _ => rfl) rfl rfl (by omega) (by omega) (by omega) rfl rfl rfl hG.out hB2 (Nat.le_refl _) rfl ?_
  intro w3 hG3 hB3
  clear hG hB2
  have hG := hG3
  have hB2 := hB3
  clear hG3 hB3
  simp only [Exit.inBlock, Exit.then, rounds_succ, val, Fv]
  go_wp2_with (fail)
  refine reg9x (by kernel_rfl) (g := w.heap.size) (n := 7) (m := 4) (c := 3) (xi := x) (zi := 0) (T := 3) (L := [.int .i64 x, .int .i64 x, .int .i64 x, .int .i64 x, .int .i64 0, .int .i64 0, .int .i64 0]) (L' := [.int .i64 x, .int .i64 x, .int .i64 x, .int .i64 x, .int .i64 x, .int .i64 x, .int .i64 x]) _ rfl (fun _ => rfl) rfl rfl (by omega) (by omega) (by omega) rfl rfl rfl hG.out hB2 (Nat.le_refl _) rfl ?_
  intro w3 hG3 hB3
  clear hG hB2
  have hG := hG3
  have hB2 := hB3
  clear hG3 hB3
  simp only [Exit.inBlock, Exit.then, rounds_succ, val, Fv]
  go_wp2_with (fail)
  go_ret
  first
    | exact ⟨_, _, rfl, Nat.le_refl _, hG.out, hB2⟩
    | exact ⟨_, rfl, Nat.le_refl _, ⟨_, hG.out⟩, hB2⟩
set_option maxRecDepth 1000000 in
set_option maxHeartbeats 4000000 in
theorem rep8 (x : Int) (w : World) (b off cap : Nat) (hx : w.cell? ⟨b, off, none⟩ = some (.int .i64 x)) : Calls Try.prog 91 #[.slice (some ⟨b, off, none⟩) 1 cap, .int .i64 8] w fun e w' => ∃ g T, e = .returned (.slice (some ⟨g, 0, none⟩) 8 8) /\ w.heap.size <= g /\ w'.heap[g]? = some (.cells (List.replicate 8 (.int .i64 x)).toArray T (0, 0)) /\ Below w.heap.size w w' := by
  have hm := mul153 8 (by omega) w
  obtain ⟨W1, hW1⟩ : ∃ W1, W1 = w.alloc (.cells (List.replicate 8 (.int .i64 0)).toArray 3) := ⟨_, rfl⟩
  have hk : (Instr.makeSlice 32 (.int .i64 8) (.int .i64 8)).run Try.prog w = .ok (.slice (some ⟨w.heap.size, 0, none⟩) 8 8) W1 := by
    rw [hW1]
    exact mk3 8 (by omega) w
  have hB0 : Hid (Below w.heap.size w W1) := hW1 ▸ (Below.refl _ w).alloc (Nat.le_refl _) _
  have hG0 : Hid (W1.heap[w.heap.size]? = some (.cells ([.int .i64 0, .int .i64 0, .int .i64 0, .int .i64 0, .int .i64 0, .int .i64 0, .int .i64 0, .int .i64 0] : List Value).toArray 3 (0, 0))) := by
    subst hW1
    show _ = _
    exact heap_alloc_new w _
  have hs0 : Hid (∀ j v, [Value.int .i64 x][j]? = some v -> W1.cell? ((⟨b, off, none⟩ : Addr).add j) = some v) := src1 (hW1 ▸ cell_alloc hx _)
  clear hW1
  go_enter Try.func91, Try.ntmps91
  go_wp2_with (first
    | (go_at_call 116; go_fit hm; rintro e w' ⟨rfl, hw⟩; rw [hw])
    | (refine wpList_copy_splice (o := ⟨some 33, _, _, _, _, _⟩) rfl (.tmp 31) (.tmp 32) 32 32 rfl 3 Try.underlying32 sz3 (some ⟨w.heap.size, 0, none⟩) (some ⟨b, off, none⟩) 8 8 1 cap rfl rfl w.heap.size 0 [.int .i64 0, .int .i64 0, .int .i64 0, .int .i64 0, .int .i64 0, .int .i64 0, .int .i64 0, .int .i64 0] 3 hG0.out [.int .i64 x] rfl (fun _ => ⟨rfl, _, rfl, hs0.out⟩) (by simp) (by simp [Value.oneCell']) w.heap.size w hB0.out (Nat.le_refl _) ?_; intro w2 HG2 hB2))
  have hG : Hid (w2.heap[w.heap.size]? = some (.cells ([.int .i64 x, .int .i64 0, .int .i64 0, .int .i64 0, .int .i64 0, .int .i64 0, .int .i64 0, .int .i64 0] : List Value).toArray 3 (0, 0))) := HG2.out
  clear HG2 hk hs0 hG0 hB0 hm
  refine wp_loop_rounds 4 ?_
  rw [rounds_succ]
  go_wp2_with (fail)
  refine reg9x (by kernel_rfl) (g := w.heap.size) (n := 8) (m := 1) (c := 1) (xi := x) (zi := 0) (T := 3) (L := [.int .i64 x, .int .i64 0, .int .i64 0, .int .i64 0, .int .i64 0, .int .i64 0, .int .i64 0, .int .i64 0]) (L' := [.int .i64 x, .int .i64 x, .int .i64 0, .int .i64 0, .int .i64 0, .int .i64 0, .int .i64 0, .int .i64 0]) _ rfl (fun _ => rfl) rfl rfl (by omega) (by omega) (by omega) rfl rfl rfl hG.out hB2 (Nat.le_refl _) rfl ?_
  intro w3 hG3 hB3
  clear hG hB2
  have hG := hG3
  have hB2 := hB3
  clear hG3 hB3
  simp only [Exit.inBlock, Exit.then, rounds_succ, val, Fv]
  go_wp2_with (fail)
  refine reg9x (by kernel_rfl) (g := w.heap.size) (n := 8) (m := 2) (c := 2) (xi := x) (zi := 0) (T := 3) (L := [.int .i64 x, .int .i64 x, .int .i64 0, .int .i64 0, .int .i64 0, .int .i64 0, .int .i64 0, .int .i64 0]) (L' := [.int .i64 x, .int .i64 x, .int .i64 x, .int .i64 x, .int .i64 0, .int .i64 0, .int .i64 0, .int .i64 0]) _ rfl (fun _ => rfl) rfl rfl (by omega) (by omega) (by omega) rfl rfl rfl hG.out hB2 (Nat.le_refl _) rfl ?_
  intro w3 hG3 hB3
  clear hG hB2
  have hG := hG3
  have hB2 := hB3
  clear hG3 hB3
  simp only [Exit.inBlock, Exit.then, rounds_succ, val, Fv]
  go_wp2_with (fail)
  refine reg9x (by kernel_rfl) (g := w.heap.size) (n := 8) (m := 4) (c := 4) (xi := x) (zi := 0) (T := 3) (L := [.int .i64 x, .int .i64 x, .int .i64 x, .int .i64 x, .int .i64 0, .int .i64 0, .int .i64 0, .int .i64 0]) (L' := [.int .i64 x, .int .i64 x, .int .i64 x, .int .i64 x, .int .i64 x, .int .i64 x, .int .i64 x, .int .i64 x]) _ rfl (fun _ => rfl) rfl rfl (by omega) (by omega) (by omega) rfl rfl rfl hG.out hB2 (Nat.le_refl _) rfl ?_
  intro w3 hG3 hB3
  clear hG hB2
  have hG := hG3
  have hB2 := hB3
  clear hG3 hB3
  simp only [Exit.inBlock, Exit.then, rounds_succ, val, Fv]
  go_wp2_with (fail)
  go_ret
  first
    | exact ⟨_, _, rfl, Nat.le_refl _, hG.out, hB2⟩
    | exact ⟨_, rfl, Nat.le_refl _, ⟨_, hG.out⟩, hB2⟩
end Go.V.W
set_option linter.unusedVariables false
set_option linter.unusedSimpArgs false
set_option maxRecDepth 100000
namespace Go.V.W
open Go.Proofs Go.RowKit Go.Shelf
theorem rep_calls (x : Int) (n : Nat) (h1 : 1 <= n) (h8 : n <= 8) (w : World) (b off cap : Nat) (hx : w.cell? ⟨b, off, none⟩ = some (.int .i64 x)) : Calls Try.prog 91 #[.slice (some ⟨b, off, none⟩) 1 cap, .int .i64 (n : Int)] w fun e w' => ∃ g T, e = .returned (.slice (some ⟨g, 0, none⟩) n n) /\ w.heap.size <= g /\ w'.heap[g]? = some (.cells (List.replicate n (.int .i64 x)).toArray T (0, 0)) /\ Below w.heap.size w w' := by
  have : n = 1 \/ n = 2 \/ n = 3 \/ n = 4 \/ n = 5 \/ n = 6 \/ n = 7 \/ n = 8 := by omega
  rcases this with rfl | rfl | rfl | rfl | rfl | rfl | rfl | rfl
  · exact rep1 x w b off cap hx
  · exact rep2 x w b off cap hx
  · exact rep3 x w b off cap hx
  · exact rep4 x w b off cap hx
  · exact rep5 x w b off cap hx
  · exact rep6 x w b off cap hx
  · exact rep7 x w b off cap hx
  · exact rep8 x w b off cap hx
theorem con_repeat {P : Program} {f : FuncId} (he : ∀ (args : Array Value) (w : World), (callFunc f args).run P w = .ok (.enter f args) w)
    (h : ∀ (x : Int) (n : Nat), 1 <= n -> n <= 8 -> ∀ (w : World) (b off cap : Nat), w.cell? ⟨b, off, none⟩ = some (.int .i64 x) -> Calls P f #[.slice (some ⟨b, off, none⟩) 1 cap, .int .i64 (n : Int)] w fun e w' => ∃ g T, e = .returned (.slice (some ⟨g, 0, none⟩) n n) /\ w.heap.size <= g /\ w'.heap[g]? = some (.cells (List.replicate n (.int .i64 x)).toArray T (0, 0)) /\ Below w.heap.size w w') :
    Contract P f ⟨[(.slice (.int .i64), false), (.int .i64, false)], [.slice (.int .i64)], true, G_repeat⟩ := by
  intro w ψ U vs d out hargs hU hψ hgl ho
  obtain ⟨l, n, u⟩ := d
  have ho : G_repeat (l, n, u) = some out := ho
  unfold G_repeat at ho
  split at ho
  · rename_i hc
    simp only [Bool.and_eq_true, decide_eq_true_eq] at hc
    obtain ⟨⟨hl, h1⟩, h8⟩ := hc
    have h1 : 1 <= n := h1
    have h8 : n <= 8 := h8
    have ho := Option.some.inj ho
    subst ho
    obtain ⟨c1, r1, rfl, k2, c2, r2, rfl, k4, k5⟩ := hargs
    have k5 : r2 = [] := k5
    subst k5
    have k4 : c2 = [.int .i64 n] := k4
    subst k4
    obtain ⟨x, rfl⟩ : ∃ x : Int, l = [x] := by
      match l, hl with
      | [x], _ => exact ⟨x, rfl⟩
    simp only [Rep] at k2
    rcases k2 with ⟨_, k2⟩ | ⟨b, off, cap, rfl, kc, kS, kb, ke⟩
    · cases k2
    · have kx := ke 0 (by simp)
      simp only [Rep, Nat.zero_mul, Nat.add_zero, List.get_eq_getElem, List.getElem_cons_zero, Kd.size] at kx
      have hcell : w.cell? ⟨b, off, none⟩ = some (.int .i64 x) := by
        unfold cellsAt at kx
        split at kx
        · rename_i cs T fr hb
          simp only [World.cell?, hb]
          have h0 : ((cs.toList.drop off).take 1)[0]? = some (.int .i64 x) := by rw [kx]; rfl
          rw [List.getElem?_take, List.getElem?_drop] at h0
          simpa using h0
        · cases kx
      have hn : @Eq Int n ((Int.toNat n : Nat) : Int) := by omega
      have hcalls := h x n.toNat (by omega) (by omega) w b off cap hcell
      rw [<- hn] at hcalls
      unfold CallsTo
      show match (callFunc f #[.slice (some ⟨b, off, none⟩) 1 cap, .int .i64 n]).run P w with
        | .ok (.value v) w' => _
        | .ok (.enter f args) w' => _
        | .ok (.row row args) w' => _
        | _ => False
      rw [he]
      refine Calls.mono hcalls fun e w' hh => ?_
      obtain ⟨g, T, rfl, hg, hrow, bel⟩ := hh
      refine ⟨fun b => if b = g then some (.res [.l]) else none, ⟨bel.os, bel.tape, bel.output, bel.size, fun b hb _ => bel.block b hb, fun b z h => ?_, ⟨[.slice (some ⟨g, 0, none⟩) n.toNat n.toNat], rfl, ?_⟩, trivial⟩⟩
      · split at h
        · rename_i e
          subst e
          exact ⟨.inl hg, Live.of hrow⟩
        · cases h
      · refine ⟨?_, rfl⟩
        have hlen : (List.replicate n.toNat x).length = n.toNat := by simp
        refine .inr ⟨g, 0, n.toNat, ?_, ?_, ?_, ⟨_, _, _, hrow, ?_⟩, fun i hi => ?_⟩
        · show [Value.slice (some ⟨g, 0, none⟩) n.toNat n.toNat] = [Value.slice (some ⟨g, 0, none⟩) (List.replicate n.toNat x).length n.toNat]
          rw [hlen]
        · show (List.replicate n.toNat x).length <= n.toNat
          rw [hlen]
          exact Nat.le_refl _
        · show (if g = g then some (Lab.res [.l]) else none) = some (.res ([] ++ [.l]))
          simp
        · simp [Kd.size]
        · have hi : i < (List.replicate n.toNat x).length := hi
          show cellsAt w' g (0 + i * 1) 1 = [.int .i64 ((List.replicate n.toNat x).get ⟨i, hi⟩)]
          rw [hlen] at hi
          unfold cellsAt
          rw [hrow]
          simp only [List.get_eq_getElem, List.getElem_replicate, List.drop_replicate, List.take_replicate]
          rw [show min 1 (n.toNat - (0 + i * 1)) = 1 by omega]
          rfl
  · cases ho
theorem C_repeat : Contract Try.prog 91 ⟨[(.slice (.int .i64), false), (.int .i64, false)], [.slice (.int .i64)], true, G_repeat⟩ :=
  con_repeat (enters_of Try.func91 (by kernel_rfl) rfl) rep_calls
end Go.V.W
set_option maxRecDepth 100000
namespace Go.V.W
open Go.Proofs
theorem C_q8q : Contract Try.prog 91 S_q8q := C_repeat
end Go.V.W
set_option linter.unusedVariables false
set_option linter.unusedSimpArgs false
namespace Go.V.W
open Go.Proofs
theorem containsAny_any (c : List UInt8) : ∀ l : List UInt8, Lib.containsAny l c = l.any fun b => c.contains b := by
 intro l
 induction l with
 | nil => simp [Lib.containsAny, Lib.indexAny]
 | cons b l ih =>
  unfold Lib.containsAny at ih |-
  unfold Lib.indexAny
  rw [List.any_cons, <- ih]
  by_cases hb : c.contains b = true
  ·have hb' : b ∈ c := by simpa using hb
   simp [hb']
  ·simp only [Bool.not_eq_true] at hb
   rw [hb]
   simp only [Bool.false_eq_true, if_false, Bool.false_or]
   have := Lib.indexAny_ge c l
   by_cases he : Lib.indexAny l c = -1
   ·simp [he]
   ·have e1 : (Lib.indexAny l c == -1) = false := by simpa using he
    rw [e1]
    simp only [Bool.false_eq_true, if_false]
    have e2 : (0 <= Lib.indexAny l c) := by omega
    have e3 : (0 <= Lib.indexAny l c + 1) := by omega
    simp [e2, e3]
end Go.V.W
set_option linter.unusedVariables false
set_option linter.unusedSimpArgs false
namespace Go.V.W
open Go.Proofs
def specB (a b : ByteArray) : Bool := !seq_ a (⟨#[]⟩ : ByteArray) && ((a.data.toList.all (fun b => printed1 b && !(b.toNat == 35)) && decide ((a.size : Int) <= 160)) && (!(a.data.toList.any (fun b => ((b.toNat : Int) == 64))) && (b.data.toList.all (fun b => printed1 b && !(b.toNat == 35)) && decide ((b.size : Int) <= 200))))
def implB (a b : ByteArray) : Bool := ((decide ((a.size : Int) >= 1) && decide ((a.size : Int) <= 160)) && (printedB a && !Lib.containsAny a.data.toList [35, 64])) && (decide ((b.size : Int) <= 200) && (printedB b && !Lib.containsAny b.data.toList [35]))
theorem all_not (l : List UInt8) (p q : UInt8 -> Bool) : l.all (fun b => p b && !q b) = (l.all p && !l.any q) := by
 induction l with
 | nil => rfl
 | cons b l ih =>
  simp only [List.all_cons, List.any_cons, ih]
  cases p b <;> cases q b <;> cases l.all p <;> cases l.any q <;> rfl
theorem any_or (l : List UInt8) (p q : UInt8 -> Bool) : l.any (fun b => p b || q b) = (l.any p || l.any q) := by
 induction l with
 | nil => rfl
 | cons b l ih =>
  simp only [List.any_cons, ih]
  cases p b <;> cases q b <;> cases l.any p <;> cases l.any q <;> rfl
theorem has35 (l : List UInt8) : Lib.containsAny l [35] = l.any (fun b => b.toNat == 35) := by
 rw [containsAny_any]
 congr 1
 funext b
 simp only [List.contains_cons, List.contains_nil, Bool.or_false]
 rw [Bool.eq_iff_iff]
 simp only [beq_iff_eq]
 exact ⟨fun h => by rw [h]; rfl, fun h => UInt8.toNat_inj.1 h⟩
theorem has3564 (l : List UInt8) : Lib.containsAny l [35, 64] = (l.any (fun b => b.toNat == 35) || l.any (fun b => ((b.toNat : Int) == 64))) := by
 rw [containsAny_any, <- any_or]
 congr 1
 funext b
 simp only [List.contains_cons, List.contains_nil, Bool.or_false]
 rw [Bool.eq_iff_iff]
 simp only [Bool.or_eq_true, beq_iff_eq]
 constructor
 ·rintro (h | h)
  ·left; rw [h]; rfl
  ·right; rw [h]; rfl
 ·rintro (h | h)
  ·left; exact UInt8.toNat_inj.1 h
  ·right
   have h64 : b.toNat = 64 := by omega
   exact UInt8.toNat_inj.1 (by rw [h64]; rfl)
theorem empty_size (a : ByteArray) : seq_ a (⟨#[]⟩ : ByteArray) = !decide ((a.size : Int) >= 1) := by
 unfold seq_
 have h1 : a.toList = a.data.toList := Lib.toList_data a
 have h2 : (⟨#[]⟩ : ByteArray).toList = [] := Lib.toList_data _
 have h3 : a.data.toList.length = a.size := by simp
 rw [h1, h2]
 cases hl : a.data.toList with
 | nil =>
  rw [hl] at h3
  simp only [List.length_nil] at h3
  simp [<- h3]
 | cons x l =>
  rw [hl] at h3
  simp only [List.length_cons] at h3
  have : decide ((a.size : Int) >= 1) = true := by simp; omega
  rw [this]
  rfl
theorem same (a b : ByteArray) : specB a b = implB a b := by
 unfold specB implB
 rw [empty_size, all_not, all_not, has35, has3564]
 unfold printedB
 cases decide ((a.size : Int) >= 1) <;> cases a.data.toList.all printed1 <;> cases a.data.toList.any (fun b => b.toNat == 35) <;> cases a.data.toList.any (fun b => ((b.toNat : Int) == 64)) <;> cases decide ((a.size : Int) <= 160) <;> cases decide ((b.size : Int) <= 200) <;> cases b.data.toList.all printed1 <;> cases b.data.toList.any (fun b => b.toNat == 35) <;> rfl
end Go.V.W
set_option linter.unusedVariables false
set_option linter.unusedSimpArgs false
namespace Go.V.W
open Go.Proofs
theorem lim_max {n : Nat} (h : n <= lim) : n <= maxLen := by unfold lim at h; unfold maxLen; omega
end Go.V.W
set_option linter.unusedVariables false
set_option linter.unusedSimpArgs false
namespace Go.V.W
open Go.Proofs
def allB (p : Nat -> Bool) : Nat -> Nat -> Bool
 | 0, _ => true
 | m + 1, i => p i && allB p m (i + 1)
theorem allB_iff {p : Nat -> Bool} : ∀ {m i : Nat}, allB p m i = true ↔ ∀ j, i <= j -> j < i + m -> p j = true := by
 intro m
 induction m with
 | zero => intro i; simp only [allB, true_iff]; intro j h1 h2; omega
 | succ m ih =>
  intro i
  simp only [allB, Bool.and_eq_true, ih]
  constructor
  ·rintro ⟨h1, h2⟩ j h3 h4
   by_cases e : j = i
   ·subst e; exact h1
   ·exact h2 j (by omega) (by omega)
  ·intro h
   exact ⟨h i (Nat.le_refl _) (by omega), fun j h1 h2 => h j (by omega) (by omega)⟩
theorem loop_all {H O : Type} {L : Nat -> H -> Option O} {r : (H -> Option O) -> H -> Option O} (hL : ∀ k d, L (k + 1) d = r (L k) d) {n : Nat} {mk : Nat -> H} {p : Nat -> Bool} {o f : O}
  (hr : ∀ back i, i < n -> r back (mk i) = if p i = true then back (mk (i + 1)) else some o) (hf : ∀ back, r back (mk n) = some f) :
  ∀ k i, i <= n -> n <= i + k -> L (k + 1) (mk i) = some (if allB p (n - i) i = true then f else o) := by
 intro k
 induction k with
 | zero =>
  intro i h1 h2
  have e : i = n := by omega
  subst e
  rw [hL, hf, Nat.sub_self]
  rfl
 | succ k ih =>
  intro i h1 h2
  by_cases h : i < n
  ·rw [hL, hr _ i h, show n - i = (n - (i + 1)) + 1 by omega]
   simp only [allB]
   by_cases hp : p i = true
   ·simp only [hp, if_true, Bool.true_and]
    exact ih (i + 1) (by omega) (by omega)
   ·simp only [Bool.not_eq_true] at hp
    simp only [hp, Bool.false_eq_true, if_false, Bool.false_and]
  ·have e : i = n := by omega
   subst e
   rw [hL, hf, Nat.sub_self]
   rfl
theorem wrap_down {i : Nat} (h : 0 < i) (hn : i <= maxLen) : IntKind.wrap .i64 ((i : Int) - 1) = ((i - 1 : Nat) : Int) := by
 unfold maxLen at hn
 rw [Go.IntWalk.i64_in _ (by omega)]
 omega
theorem lt_dec {i n : Nat} (h : i < n) : decide ((i : Int) < (n : Int)) = true := by simp; omega
theorem lt_not (n : Nat) : decide ((n : Int) < (n : Int)) = false := by simp
theorem pos_dec {i : Nat} : decide ((i : Int) > (0 : Int)) = decide (0 < i) := by simp
theorem bool_eq_iff {a b : Bool} (h : a = true ↔ b = true) : a = b := by cases a <;> cases b <;> simp_all
theorem all_at {e : Kd} (l : List e.den) (q : e.den -> Bool) : allB (fun i => q (at_ e l i)) l.length 0 = l.all q := by
 apply bool_eq_iff
 rw [allB_iff, List.all_eq_true]
 constructor
 ·intro h x hx
  obtain ⟨i, hi, rfl⟩ := List.getElem_of_mem hx
  have := h i (by omega) (by omega)
  rw [at_get hi] at this
  exact this
 ·intro h j _ hj
  have hj : j < l.length := by omega
  rw [at_get hj]
  exact h _ (List.getElem_mem hj)
theorem risingB_iff : ∀ l : List Int, risingB l = true ↔ ∀ j, 0 < j -> j < l.length -> at_ I l (j - 1) < at_ I l j := by
 intro l
 induction l with
 | nil => simp only [risingB, true_iff]; intro j _ h; exact absurd h (by simp)
 | cons a l ih =>
  cases l with
  | nil => simp only [risingB, true_iff]; intro j h1 h2; simp only [List.length_cons, List.length_nil] at h2; omega
  | cons b l =>
   simp only [risingB, Bool.and_eq_true, ih, decide_eq_true_eq]
   constructor
   ·rintro ⟨h1, h2⟩ j h3 h4
    by_cases e : j = 1
    ·subst e; exact h1
    ·have := h2 (j - 1) (by omega) (by simp only [List.length_cons] at h4 |-; omega)
     obtain ⟨k, rfl⟩ : ∃ k, j = k + 2 := ⟨j - 2, by omega⟩
     exact this
   ·intro h
    refine ⟨h 1 (by omega) (by simp), fun j h1 h2 => ?_⟩
    have := h (j + 1) (by omega) (by simp only [List.length_cons] at h2 |-; omega)
    obtain ⟨k, rfl⟩ : ∃ k, j = k + 1 := ⟨j - 1, by omega⟩
    exact this
theorem risingE_iff : ∀ l : List E, risingE l = true ↔ ∀ j, 0 < j -> j < l.length -> lessE (at_ K_Piiq l (j - 1)) (at_ K_Piiq l j) = true := by
 intro l
 induction l with
 | nil => simp only [risingE, true_iff]; intro j _ h; exact absurd h (by simp)
 | cons a l ih =>
  cases l with
  | nil => simp only [risingE, true_iff]; intro j h1 h2; simp only [List.length_cons, List.length_nil] at h2; omega
  | cons b l =>
   simp only [risingE, Bool.and_eq_true, ih]
   constructor
   ·rintro ⟨h1, h2⟩ j h3 h4
    by_cases e : j = 1
    ·subst e; exact h1
    ·have := h2 (j - 1) (by omega) (by simp only [List.length_cons] at h4 |-; omega)
     obtain ⟨k, rfl⟩ : ∃ k, j = k + 2 := ⟨j - 2, by omega⟩
     exact this
   ·intro h
    refine ⟨h 1 (by omega) (by simp), fun j h1 h2 => ?_⟩
    have := h (j + 1) (by omega) (by simp only [List.length_cons] at h2 |-; omega)
    obtain ⟨k, rfl⟩ : ∃ k, j = k + 1 := ⟨j - 1, by omega⟩
    exact this
theorem l1In_eq (x lo hi : Int) (u : Unit) : g_spec_l1In (x, lo, hi, u) = (inB lo hi x, ()) := by
 unfold g_spec_l1In inB
 by_cases h : lo <= x <;> simp [h]
theorem within_eq (x lo hi : Int) (u : Unit) : g_q79q (x, lo, hi, u) = (inB lo hi x, ()) := by
 unfold g_q79q inB
 by_cases h : lo <= x <;> simp [h]
theorem l2Before_eq (a b : E) (u : Unit) : g_q55q (a, b, u) = (lessE a b, ()) := by
 obtain ⟨a1, a2, _⟩ := a
 obtain ⟨b1, b2, _⟩ := b
 unfold g_q55q lessE
 by_cases h : a1 < b1
 ·simp [h]
 ·by_cases h2 : a1 = b1 <;> simp [h, h2]
theorem cmpI_eq (a b : Int) (u : Unit) : g_q41q (a, b, u) = (if a < b then -1 else if b < a then 1 else 0, ()) := by
 unfold g_q41q g_q57q
 by_cases h : a < b
 ·simp [h]
 ·by_cases h2 : b < a <;> simp [h, h2]
theorem l1Rising_lim (d) (r) (h : G_l1Rising d = some r) : ∃ N, F_q56q N d = some r := by
 obtain ⟨l, lo, hi, _⟩ := d
 unfold G_l1Rising at h
 split at h
 ·rename_i hl
  have hl : l.length <= lim := of_decide_eq_true hl
  have hmx := lim_max hl
  have h := Option.some.inj h
  subst h
  refine ⟨l.length + 1, ?_⟩
  unfold F_q56q
  have := loop_all (L := q56q_l0 (l.length + 1)) (r := q56q_l0_r (l.length + 1)) (fun _ _ => rfl) (n := l.length) (mk := fun i => (l, lo, hi, (i : Int), ())) (p := fun i => inB lo hi (at_ I l i) && (!decide (0 < i) || decide (at_ I l (i - 1) < at_ I l i))) (o := .inl (false, ())) (f := .inr (.inl ()))
   (by
    intro back i hi'
    unfold q56q_l0_r
    simp only [lt_dec hi', if_true, idxIn_nat hi', Int.toNat_natCast, wrap_up hi' hmx, l1In_eq, pos_dec]
    cases hb : inB lo hi (at_ I l i) with
    | false => simp only [Bool.not_false, if_true, Bool.false_and, Bool.false_eq_true, if_false]
    | true =>
     simp only [Bool.not_true, Bool.false_eq_true, if_false, Bool.true_and]
     by_cases h0 : 0 < i
     ·have h1 : i - 1 < l.length := by omega
      simp only [h0, decide_true, if_true, wrap_down h0 (show i <= maxLen by omega), idxIn_nat h1, Int.toNat_natCast, Bool.not_true, Bool.false_or]
      by_cases hc : at_ I l (i - 1) < at_ I l i
      ·have hc' : ¬ (at_ I l (i - 1) >= at_ I l i) := Int.not_le.2 hc
       simp only [hc, hc', decide_true, decide_false, if_true, Bool.false_eq_true, if_false]
      ·have hc' : (at_ I l (i - 1) >= at_ I l i) := Int.not_lt.1 hc
       simp only [hc, hc', decide_true, decide_false, if_true, Bool.false_eq_true, if_false]
     ·simp only [h0, decide_false, Bool.false_eq_true, if_false, Bool.not_false, Bool.true_or, if_true])
   (by intro back; unfold q56q_l0_r; simp only [lt_not, Bool.false_eq_true, if_false]) l.length 0 (by omega) (by omega)
  simp only [Int.natCast_zero] at this
  simp only [this, Nat.sub_zero]
  have e : allB (fun i => inB lo hi (at_ I l i) && (!decide (0 < i) || decide (at_ I l (i - 1) < at_ I l i))) l.length 0 = (l.all (inB lo hi) && risingB l) := by
   rw [<- all_at (e := I) l (inB lo hi)]
   apply bool_eq_iff
   rw [Bool.and_eq_true, allB_iff, allB_iff, risingB_iff]
   simp only [Bool.and_eq_true, Bool.or_eq_true, Bool.not_eq_true', decide_eq_true_eq, decide_eq_false_iff_not]
   constructor
   ·intro h
    exact ⟨fun j h1 h2 => (h j h1 h2).1, fun j h1 h2 => ((h j (by omega) (by omega)).2).resolve_left (by omega)⟩
   ·rintro ⟨h1, h2⟩ j h3 h4
    refine ⟨h1 j h3 h4, ?_⟩
    by_cases h0 : 0 < j
    ·exact .inr (h2 j h0 (by omega))
    ·exact .inl h0
  simp only [e]
  cases (l.all (inB lo hi) && risingB l) <;> rfl
 ·cases h
theorem increasing_lim (d) (r) (h : G_increasing d = some r) : ∃ N, F_q35q N d = some r := by
 obtain ⟨l, _⟩ := d
 unfold G_increasing at h
 split at h
 ·rename_i hl
  have hl : l.length <= lim := of_decide_eq_true hl
  have hmx := lim_max hl
  have h := Option.some.inj h
  subst h
  refine ⟨l.length + 1, ?_⟩
  unfold F_q35q
  by_cases hz : l.length = 0
  ·have : l = [] := List.length_eq_zero_iff.1 hz
   subst this
   rfl
  ·have := loop_all (L := fun k d => q35q_l0 (l.length + 1) k d) (r := q35q_l0_r (l.length + 1)) (fun _ _ => rfl) (n := l.length - 1) (mk := fun i => (l, ((i + 1 : Nat) : Int), ())) (p := fun i => decide (at_ I l i < at_ I l (i + 1))) (o := .inl (false, ())) (f := .inr (.inl ()))
    (by
     intro back i hi
     have h1 : i + 1 < l.length := by omega
     have h2 : i < l.length := by omega
     unfold q35q_l0_r
     simp only [lt_dec h1, if_true, wrap_down (show 0 < i + 1 by omega) (show i + 1 <= maxLen by omega), idxIn_nat h1, wrap_up h1 hmx, Nat.add_sub_cancel, idxIn_nat h2, Int.toNat_natCast]
     by_cases hc : at_ I l i < at_ I l (i + 1)
     ·have hc' : ¬ (at_ I l i >= at_ I l (i + 1)) := Int.not_le.2 hc
      simp only [hc, hc', decide_true, decide_false, if_true, Bool.false_eq_true, if_false]
     ·have hc' : (at_ I l i >= at_ I l (i + 1)) := Int.not_lt.1 hc
      simp only [hc, hc', decide_true, decide_false, if_true, Bool.false_eq_true, if_false])
    (by
     intro back
     unfold q35q_l0_r
     have e : l.length - 1 + 1 = l.length := by omega
     simp only [e, lt_not, Bool.false_eq_true, if_false]) l.length 0 (by omega) (by omega)
   simp only [Nat.zero_add, Int.natCast_one] at this
   simp only [this, Nat.sub_zero]
   have e : allB (fun i => decide (at_ I l i < at_ I l (i + 1))) (l.length - 1) 0 = risingB l := by
    apply bool_eq_iff
    rw [allB_iff, risingB_iff]
    simp only [decide_eq_true_eq]
    constructor
    ·intro h j h1 h2
     have := h (j - 1) (by omega) (by omega)
     rwa [Nat.sub_add_cancel h1] at this
    ·intro h j h1 h2
     exact h (j + 1) (by omega) (by omega)
   simp only [e]
   cases risingB l <;> rfl
 ·cases h
theorem allWithin_lim (d) (r) (h : G_allWithin d = some r) : ∃ N, F_q46q N d = some r := by
 obtain ⟨l, lo, hi, _⟩ := d
 unfold G_allWithin at h
 split at h
 ·rename_i hl
  have hl : l.length <= lim := of_decide_eq_true hl
  have hmx := lim_max hl
  have h := Option.some.inj h
  subst h
  refine ⟨l.length + 1, ?_⟩
  unfold F_q46q
  have := loop_all (L := q46q_l0 (l.length + 1)) (r := q46q_l0_r (l.length + 1)) (fun _ _ => rfl) (n := l.length) (mk := fun i => (lo, hi, l, (l.length : Int), (i : Int), ())) (p := fun i => inB lo hi (at_ I l i)) (o := .inl (false, ())) (f := .inr (.inl ()))
   (by
    intro back i hi'
    unfold q46q_l0_r
    simp only [lt_dec hi', if_true, idxIn_nat hi', Int.toNat_natCast, wrap_up hi' hmx, within_eq]
    cases hb : inB lo hi (at_ I l i) <;> rfl)
   (by intro back; unfold q46q_l0_r; simp only [lt_not, Bool.false_eq_true, if_false]) l.length 0 (by omega) (by omega)
  simp only [Int.natCast_zero] at this
  simp only [this, Nat.sub_zero, all_at (e := I) l (inB lo hi)]
  cases (l.all (inB lo hi)) <;> rfl
 ·cases h
def cmpW : List Int -> List Int -> Option Int
 | [], _ => none
 | _ :: _, [] => some 1
 | a :: l, b :: m => if a < b then some (-1) else if b < a then some 1 else cmpW l m
theorem cmpL_W : ∀ l m : List Int, cmpL l m = match cmpW l m with
  | some r => r
  | none => if l.length < m.length then -1 else 0 := by
 intro l
 induction l with
 | nil => intro m; cases m <;> simp [cmpL, cmpW]
 | cons a l ih =>
  intro m
  cases m with
  | nil => simp [cmpL, cmpW]
  | cons b m =>
   simp only [cmpL, cmpW]
   by_cases ha : a < b
   ·simp [ha]
   ·by_cases hb : b < a
    ·simp [ha, hb]
    ·simp only [ha, hb, if_false, ih m, List.length_cons, Nat.add_lt_add_iff_right]
theorem compare_l0 (N : Nat) (l m : List Int) (hl : l.length <= lim) (hm : m.length <= lim) : ∀ n i, l.length <= i + n -> i <= l.length -> i <= m.length -> q7q_l0 N (n + 1) (l, m, l, (l.length : Int), (i : Int), ()) = 
  match cmpW (l.drop i) (m.drop i) with
  | some r => some (.inl (r, ()))
  | none => some (.inr (.inl (l, m, ()))) := by
 have hmx := lim_max hl
 intro n
 induction n with
 | zero =>
  intro i h1 h2 h3
  have e : i = l.length := by omega
  subst e
  rw [List.drop_of_length_le (Nat.le_refl l.length)]
  simp [q7q_l0, q7q_l0_r, cmpW]
 | succ n ih =>
  intro i h1 h2 h3
  by_cases hi : i < l.length
  ·show q7q_l0_r N (q7q_l0 N (n + 1)) (l, m, l, (l.length : Int), (i : Int), ()) = _
   unfold q7q_l0_r
   simp only [lt_dec hi, if_true, idxIn_nat hi, Int.toNat_natCast, wrap_up hi hmx]
   rw [List.drop_eq_getElem_cons hi]
   by_cases hi' : i < m.length
   ·have hge : decide ((i : Int) >= (m.length : Int)) = false := by simp; omega
    rw [List.drop_eq_getElem_cons hi']
    simp only [hge, Bool.false_eq_true, if_false, idxIn_nat hi', if_true, cmpI_eq, at_get (e := I) hi, at_get (e := I) (l := m) hi', List.get_eq_getElem, cmpW]
    by_cases ha : l[i] < m[i]
    ·simp [ha]
    ·by_cases hb : m[i] < l[i]
     ·simp [ha, hb]
     ·simp only [ha, hb, if_false, bne_self_eq_false, Bool.false_eq_true]
      exact ih (i + 1) (by omega) (by omega) (by omega)
   ·have hge : decide ((i : Int) >= (m.length : Int)) = true := by simp; omega
    rw [List.drop_of_length_le (Nat.le_of_not_lt hi')]
    simp only [hge, if_true, cmpW]
  ·have e : i = l.length := by omega
   subst e
   rw [List.drop_of_length_le (Nat.le_refl l.length)]
   simp [q7q_l0, q7q_l0_r, cmpW]
theorem compare_lim (d) (r) (h : G_compare d = some r) : ∃ N, F_q7q N d = some r := by
 obtain ⟨l, m, _⟩ := d
 unfold G_compare at h
 split at h
 ·rename_i hl
  simp only [Bool.and_eq_true] at hl
  have hm : m.length <= lim := of_decide_eq_true hl.2
  have hl : l.length <= lim := of_decide_eq_true hl.1
  have h := Option.some.inj h
  subst h
  refine ⟨l.length + 1, ?_⟩
  unfold F_q7q
  have := compare_l0 (l.length + 1) l m hl hm l.length 0 (by omega) (by omega) (by omega)
  simp only [Int.natCast_zero, List.drop_zero] at this
  simp only [this, cmpL_W]
  cases cmpW l m with
  | some r => rfl
  | none =>
   by_cases hlt : l.length < m.length
   ·have : decide ((l.length : Int) < (m.length : Int)) = true := by simp; omega
    simp only [Option.bind_some, this, if_true, hlt]
   ·have : decide ((l.length : Int) < (m.length : Int)) = false := by simp; omega
    simp only [Option.bind_some, this, Bool.false_eq_true, if_false, hlt]
 ·cases h
theorem graph_allB (n : Int) (l : List E) : allB (fun i => edgeB n (at_ K_Piiq l i) && (!decide (0 < i) || lessE (at_ K_Piiq l (i - 1)) (at_ K_Piiq l i))) l.length 0 = (l.all (edgeB n) && risingE l) := by
 rw [<- all_at (e := K_Piiq) l (edgeB n)]
 apply bool_eq_iff
 rw [Bool.and_eq_true, allB_iff, allB_iff, risingE_iff]
 simp only [Bool.and_eq_true, Bool.or_eq_true, Bool.not_eq_true', decide_eq_false_iff_not]
 constructor
 ·intro h
  exact ⟨fun j h1 h2 => (h j h1 h2).1, fun j h1 h2 => ((h j (by omega) (by omega)).2).resolve_left (by omega)⟩
 ·rintro ⟨h1, h2⟩ j h3 h4
  refine ⟨h1 j h3 h4, ?_⟩
  by_cases h0 : 0 < j
  ·exact .inr (h2 j h0 (by omega))
  ·exact .inl h0
theorem cmp2 (a b : E) : decide (cmpL [a.1, a.2.1] [b.1, b.2.1] >= 0) = !lessE a b := by
 obtain ⟨a1, a2, _⟩ := a
 obtain ⟨b1, b2, _⟩ := b
 simp only [cmpL, lessE]
 by_cases h1 : a1 < b1
 ·simp [h1]
 ·by_cases h2 : b1 < a1
  ·have : ¬ a1 = b1 := by omega
   simp [h1, h2, this]
  ·have e : a1 = b1 := by omega
   subst e
   by_cases h3 : a2 < b2
   ·simp [h3]
   ·by_cases h4 : b2 < a2 <;> simp [h3, h4]
theorem edge_eq (n a b : Int) : (inB 0 (n - 1) a && inB 0 (n - 1) b && decide (a < b)) = (decide (0 <= a) && decide (a < b) && decide (b < n)) := by
 apply bool_eq_iff
 simp only [inB, Bool.and_eq_true, decide_eq_true_eq]
 omega
theorem okL2 (a b : Int) : okL [a, b] = true := decide_eq_true (show 2 <= lim by unfold lim; omega)
theorem IsGraph_lim (d) (r) (h : G_graph d = some r) : ∃ N, F_q61q N d = some r := by
 obtain ⟨⟨n, l, u⟩, _⟩ := d
 unfold G_graph at h
 split at h
 ·rename_i hl
  have hl : l.length <= lim := of_decide_eq_true hl
  have hmx := lim_max hl
  have h := Option.some.inj h
  subst h
  refine ⟨l.length + 1, ?_⟩
  unfold F_q61q
  simp only [within_eq, graphB]
  cases hn : inB 0 8 n with
  | false =>
   simp only [inB] at hn
   simp only [Bool.not_false, if_true, hn, Bool.false_and]
  | true =>
   have hn' := hn
   simp only [inB] at hn'
   simp only [Bool.not_true, Bool.false_eq_true, if_false, hn', Bool.true_and]
   have := loop_all (L := q61q_l0 (l.length + 1)) (r := q61q_l0_r (l.length + 1)) (fun _ _ => rfl) (n := l.length) (mk := fun i => ((n, l, u), l, (l.length : Int), (i : Int), ())) (p := fun i => edgeB n (at_ K_Piiq l i) && (!decide (0 < i) || lessE (at_ K_Piiq l (i - 1)) (at_ K_Piiq l i))) (o := .inl (false, ())) (f := .inr (.inl ()))
    (by
     intro back i hi
     unfold q61q_l0_r
     simp only [lt_dec hi, if_true, idxIn_nat hi, Int.toNat_natCast, wrap_up hi hmx, pos_dec]
     by_cases c1 : (at_ K_Piiq l i).1 < 0
     ·have c1' : ¬ (0 <= (at_ K_Piiq l i).1) := Int.not_le.2 c1
      simp only [c1, decide_true, if_true, edgeB, c1', decide_false, Bool.false_and, Bool.false_eq_true, if_false]
     ·have c1' : (0 <= (at_ K_Piiq l i).1) := Int.not_lt.1 c1
      by_cases c2 : (at_ K_Piiq l i).1 < (at_ K_Piiq l i).2.1
      ·have c2' : ¬ ((at_ K_Piiq l i).1 >= (at_ K_Piiq l i).2.1) := Int.not_le.2 c2
       by_cases c3 : (at_ K_Piiq l i).2.1 < n
       ·have c3' : ¬ ((at_ K_Piiq l i).2.1 >= n) := Int.not_le.2 c3
        by_cases h0 : 0 < i
        ·have h1 : i - 1 < l.length := by omega
         simp only [c1, c1', c2, c2', c3, c3', edgeB, decide_true, decide_false, if_true, if_false, Bool.false_eq_true, Bool.true_and, h0, wrap_down h0 (show i <= maxLen by omega), idxIn_nat h1, Int.toNat_natCast, Bool.not_true, Bool.false_or, G_compare, okL2, Option.bind_some, cmp2]
         cases lessE (at_ K_Piiq l (i - 1)) (at_ K_Piiq l i) <;> rfl
        ·simp only [c1, c1', c2, c2', c3, c3', edgeB, decide_true, decide_false, if_true, if_false, Bool.false_eq_true, Bool.true_and, h0, Bool.not_false, Bool.true_or]
       ·have c3' : ((at_ K_Piiq l i).2.1 >= n) := Int.not_lt.1 c3
        simp only [c1, c1', c2, c2', c3, c3', edgeB, decide_true, decide_false, if_true, if_false, Bool.false_eq_true, Bool.and_false, Bool.false_and]
      ·have c2' : ((at_ K_Piiq l i).1 >= (at_ K_Piiq l i).2.1) := Int.not_lt.1 c2
       simp only [c1, c1', c2, c2', edgeB, decide_true, decide_false, if_true, if_false, Bool.false_eq_true, Bool.and_false, Bool.false_and])
    (by intro back; unfold q61q_l0_r; simp only [lt_not, Bool.false_eq_true, if_false]) l.length 0 (by omega) (by omega)
   simp only [Int.natCast_zero] at this
   simp only [this, Nat.sub_zero, graph_allB]
   cases (l.all (edgeB n) && risingE l) <;> rfl
 ·cases h
theorem l2Good_lim (d) (r) (h : G_graph d = some r) : ∃ N, F_q81q N d = some r := by
 obtain ⟨⟨n, l, u⟩, _⟩ := d
 unfold G_graph at h
 split at h
 ·rename_i hl
  have hl : l.length <= lim := of_decide_eq_true hl
  have hmx := lim_max hl
  have h := Option.some.inj h
  subst h
  refine ⟨l.length + 1, ?_⟩
  unfold F_q81q
  have := loop_all (L := q81q_l0 (l.length + 1)) (r := q81q_l0_r (l.length + 1)) (fun _ _ => rfl) (n := l.length) (mk := fun i => ((n, l, u), (i : Int), ())) (p := fun i => (inB 0 (IntKind.wrap .i64 (n - 1)) (at_ K_Piiq l i).1 && inB 0 (IntKind.wrap .i64 (n - 1)) (at_ K_Piiq l i).2.1 && decide ((at_ K_Piiq l i).1 < (at_ K_Piiq l i).2.1)) && (!decide (0 < i) || lessE (at_ K_Piiq l (i - 1)) (at_ K_Piiq l i))) (o := .inl (false, ())) (f := .inr (.inl ((n, l, u), ())))
    (by
     intro back i hi
     unfold q81q_l0_r
     simp only [lt_dec hi, if_true, idxIn_nat hi, Int.toNat_natCast, wrap_up hi hmx, pos_dec, l1In_eq, l2Before_eq]
     cases c1 : inB 0 (IntKind.wrap .i64 (n - 1)) (at_ K_Piiq l i).1 with
     | false => rfl
     | true =>
      cases c2 : inB 0 (IntKind.wrap .i64 (n - 1)) (at_ K_Piiq l i).2.1 with
      | false => rfl
      | true =>
       by_cases c3 : (at_ K_Piiq l i).1 < (at_ K_Piiq l i).2.1
       ·have c3' : ¬ ((at_ K_Piiq l i).1 >= (at_ K_Piiq l i).2.1) := Int.not_le.2 c3
        by_cases h0 : 0 < i
        ·have h1 : i - 1 < l.length := by omega
         simp only [c3, c3', decide_true, decide_false, if_true, if_false, Bool.false_eq_true, Bool.true_and, h0, wrap_down h0 (show i <= maxLen by omega), idxIn_nat h1, Int.toNat_natCast, Bool.not_true, Bool.false_or]
         cases lessE (at_ K_Piiq l (i - 1)) (at_ K_Piiq l i) <;> rfl
        ·simp only [c3, c3', decide_true, decide_false, if_true, if_false, Bool.false_eq_true, Bool.true_and, h0, Bool.not_false, Bool.true_or, Bool.not_true]
       ·have c3' : ((at_ K_Piiq l i).1 >= (at_ K_Piiq l i).2.1) := Int.not_lt.1 c3
        simp only [c3, c3', decide_true, decide_false, if_true, if_false, Bool.false_eq_true, Bool.true_and, Bool.false_and, Bool.not_true])
    (by intro back; unfold q81q_l0_r; simp only [lt_not, Bool.false_eq_true, if_false]) l.length 0 (by omega) (by omega)
  simp only [Int.natCast_zero] at this
  simp only [this, Nat.sub_zero, graphB]
  cases hn : inB 0 8 n with
  | false =>
   have hn' := hn
   simp only [inB] at hn'
   simp only [hn', Bool.false_and]
   split <;> simp [l1In_eq, hn]
  | true =>
   have hn' := hn
   simp only [inB] at hn'
   simp only [hn', Bool.true_and]
   simp only [Bool.and_eq_true, decide_eq_true_eq] at hn'
   have hw : IntKind.wrap .i64 (n - 1) = n - 1 := wrap_in _ (by omega) (by omega)
   have hp : (fun i => (inB 0 (IntKind.wrap .i64 (n - 1)) (at_ K_Piiq l i).1 && inB 0 (IntKind.wrap .i64 (n - 1)) (at_ K_Piiq l i).2.1 && decide ((at_ K_Piiq l i).1 < (at_ K_Piiq l i).2.1)) && (!decide (0 < i) || lessE (at_ K_Piiq l (i - 1)) (at_ K_Piiq l i))) = (fun i => edgeB n (at_ K_Piiq l i) && (!decide (0 < i) || lessE (at_ K_Piiq l (i - 1)) (at_ K_Piiq l i))) := by
    funext i
    congr 1
    rw [hw]
    exact edge_eq n _ _
   simp only [hp, graph_allB]
   cases (l.all (edgeB n) && risingE l) <;> simp [l1In_eq, hn]
 ·cases h
end Go.V.W
set_option linter.unusedVariables false
set_option linter.unusedSimpArgs false
namespace Go.V.W
open Go.Proofs
theorem okL_of {α : Type} {l : List α} (h : l.length <= 1048576) : okL l = true := decide_eq_true (by unfold lim; omega)
theorem graphB_n {n : Int} {l : List E} {u : Unit} (h : graphB (n, l, u) = true) : 0 <= n /\ n <= 8 := by
 unfold graphB at h
 simp only [Bool.and_eq_true, decide_eq_true_eq] at h
 exact ⟨h.1.1.1, h.1.1.2⟩
end Go.V.W
set_option linter.unusedVariables false
set_option linter.unusedSimpArgs false
namespace Go.V.W
open Go.Proofs
theorem cloneA2_lim (d) (r) (h : G_toIntA2S d = some r) : ∃ N, F_q3q N d = some r := by
 obtain ⟨l, _⟩ := d
 unfold G_toIntA2S at h
 split at h
 ·rename_i hl
  have hl : l.length <= lim := of_decide_eq_true hl
  have h := Option.some.inj h
  subst h
  refine ⟨0, ?_⟩
  unfold F_q3q
  have h1 : decide (List.length ([] : List E) + l.length <= lim) = true := by simp [hl]
  simp only [h1, if_true, List.nil_append]
  split
  ·rename_i h0
   have : l = [] := List.length_eq_zero_iff.1 (of_decide_eq_true h0)
   subst this
   simp [both]
  ·rfl
 ·cases h
end Go.V.W
set_option linter.unusedVariables false
set_option linter.unusedSimpArgs false
namespace Go.V.W
open Go.Proofs
theorem okL_nil {α : Type} : okL ([] : List α) = true := decide_eq_true (by simp)
theorem okL_lim {α : Type} {l : List α} (h : okL l = true) : l.length <= lim := of_decide_eq_true h
end Go.V.W
set_option linter.unusedVariables false
set_option linter.unusedSimpArgs false
namespace Go.V.W
open Go.Proofs
theorem all_at_of {e : Kd} {l : List e.den} {q : e.den -> Bool} (h : l.all q = true) {i : Nat} (hi : i < l.length) : q (at_ e l i) = true := by
 rw [at_get hi]
 exact List.all_eq_true.1 h _ (List.get_mem l ⟨i, hi⟩)
theorem loop_idx {H O : Type} {L : Nat -> H -> Option O} {r : (H -> Option O) -> H -> Option O} (hL : ∀ k d, L (k + 1) d = r (L k) d) {e : Kd} (l : List e.den) {mk : Nat -> H} {q : e.den -> Bool} {o : Nat -> O} {f : O}
  (hr : ∀ back i, i < l.length -> r back (mk i) = if q (at_ e l i) = true then some (o i) else back (mk (i + 1))) (hf : ∀ back, r back (mk l.length) = some f) :
  ∀ k i, i <= l.length -> l.length <= i + k -> L (k + 1) (mk i) = some (match idxN q (l.drop i) i with | some j => o j | none => f) := by
 intro k
 induction k with
 | zero =>
  intro i h1 h2
  have e : i = l.length := by omega
  subst e
  rw [hL, hf, List.drop_of_length_le (Nat.le_refl _)]
  rfl
 | succ k ih =>
  intro i h1 h2
  by_cases h : i < l.length
  ·rw [hL, hr _ i h, List.drop_eq_getElem_cons h]
   simp only [idxN]
   have e : at_ e l i = l[i] := at_get h
   rw [e]
   by_cases hq : q l[i] = true
   ·simp only [hq, if_true]
   ·simp only [hq, if_false]
    exact ih (i + 1) (by omega) (by omega)
  ·have e : i = l.length := by omega
   subst e
   rw [hL, hf, List.drop_of_length_le (Nat.le_refl _)]
   rfl
theorem idxI_ge {α : Type} (q : α -> Bool) : ∀ (l : List α) (i : Nat), decide (idxI (idxN q l i) >= 0) = l.any q := by
 intro l
 induction l with
 | nil => intro i; rfl
 | cons x l ih =>
  intro i
  simp only [idxN, List.any_cons]
  by_cases h : q x = true
  ·simp [h, idxI]
  ·have h' : q x = false := by simpa using h
   simp only [h, if_false, h', Bool.false_or, ih]
   exact ih (i + 1)
theorem okLL_of {l : List (List Int)} (h : okLL l = true) : okL l = true /\ l.all okL = true := by
 unfold okLL at h
 simpa only [Bool.and_eq_true] using h
theorem index84_lim (d) (r) (h : G_index84 d = some r) : ∃ N, F_q1q N d = some r := by
 obtain ⟨l, ⟨u, t, v⟩, w⟩ := d
 unfold G_index84 at h
 split at h
 ·rename_i hll
  obtain ⟨hl1, ha⟩ := okLL_of hll
  have hl : l.length <= lim := okL_lim hl1
  have hmx := lim_max hl
  have h := Option.some.inj h
  subst h
  refine ⟨l.length + 1, ?_⟩
  unfold F_q1q
  have := loop_idx (L := q1q_l0 (l.length + 1)) (r := q1q_l0_r (l.length + 1)) (fun _ _ => rfl) (e := K_Si) l (mk := fun i => (l, (u, t, v), (l.length : Int), (i : Int), ())) (q := badT t) (o := fun i => .inl ((i : Int), ())) (f := .inr (.inl ()))
   (by
    intro back i hi
    have hx : okL (at_ K_Si l i) = true := all_at_of (e := K_Si) ha hi
    unfold q1q_l0_r FV_q20q F_q20q
    simp only [lt_dec hi, if_true, idxIn_nat hi, Int.toNat_natCast, wrap_up hi hmx, G_increasing, G_allWithin, hx, Option.bind_some, badT]
    rcases Bool.eq_false_or_eq_true (risingB (at_ K_Si l i)) with hr | hr <;> rcases Bool.eq_false_or_eq_true (List.all (at_ K_Si l i) (inB 0 (IntKind.wrap .i64 (t.2.1 - 1)))) with hq | hq <;> simp [hr, hq])
   (by intro back; unfold q1q_l0_r; simp only [lt_not, Bool.false_eq_true, if_false]) l.length 0 (by omega) (by omega)
  simp only [Int.natCast_zero, List.drop_zero] at this
  simp only [this, Option.bind_some]
  cases idxN (badT t) l 0 <;> rfl
 ·cases h
theorem contains84 (l : List (List Int)) (u : Unit) (t : Tt) (v w : Unit) (h : okLL l = true) : F_q0q 0 (l, (u, t, v), w) = some (l.any (badT t), ()) := by
 unfold F_q0q
 have e : F_q1q = F_q1q := rfl
 simp only [G_index84, h, if_true, Option.bind_some, idxI_ge]
theorem l4Field_eq (g : Gr) (u : Unit) (h : okL g.2.1 = true) : F_q69q 0 (g, 1, u) = some (graphB g && decide (g.1 > 0), ()) := by
 unfold F_q69q G_graph
 simp only [h, if_true, Option.bind_some, l1In_eq]
 cases graphB g with
 | false => rfl
 | true =>
  by_cases c : g.1 > 0
  ·simp only [c, decide_true, if_true]
   rfl
  ·simp only [c, decide_false, if_true, if_false, Bool.false_eq_true, Bool.and_false]
theorem l11Good_lim (d) (r) (h : G_l11Good d = some r) : ∃ N, F_q66q N d = some r := by
 obtain ⟨⟨g, p, l, u⟩, w⟩ := d
 unfold G_l11Good at h
 split at h
 ·rename_i hc
  simp only [okT, Bool.and_eq_true] at hc
  obtain ⟨hg, hll⟩ := hc
  obtain ⟨hl1, ha⟩ := okLL_of hll
  have hl : l.length <= lim := okL_lim hl1
  have hmx := lim_max hl
  have h := Option.some.inj h
  subst h
  refine ⟨l.length + 1, ?_⟩
  unfold F_q66q
  have := loop_all (L := q66q_l0 (l.length + 1)) (r := q66q_l0_r (l.length + 1)) (fun _ _ => rfl) (n := l.length) (mk := fun i => ((g, p, l, u), (i : Int), ())) (p := fun i => !badT (g, p, l, u) (at_ K_Si l i)) (o := .inl (false, ())) (f := .inr (.inl ((g, p, l, u), ())))
   (by
    intro back i hi
    have hx : okL (at_ K_Si l i) = true := all_at_of (e := K_Si) ha hi
    unfold q66q_l0_r
    simp only [lt_dec hi, if_true, idxIn_nat hi, Int.toNat_natCast, wrap_up hi hmx, G_l1Rising, hx, Option.bind_some, badT]
    rcases Bool.eq_false_or_eq_true (risingB (at_ K_Si l i)) with hr | hr <;> rcases Bool.eq_false_or_eq_true (List.all (at_ K_Si l i) (inB 0 (IntKind.wrap .i64 (p - 1)))) with hq | hq <;> simp [hr, hq])
   (by intro back; unfold q66q_l0_r; simp only [lt_not, Bool.false_eq_true, if_false]) l.length 0 (by omega) (by omega)
  simp only [Int.natCast_zero] at this
  have e : allB (fun i => !badT (g, p, l, u) (at_ K_Si l i)) l.length 0 = !l.any (badT (g, p, l, u)) := by
   rw [all_at (e := K_Si) l (fun x => !badT (g, p, l, u) x)]
   simp only [List.all_eq_not_any_not, Bool.not_not]
  simp only [this, Nat.sub_zero, e, timeB]
  cases l.any (badT (g, p, l, u)) with
  | true => simp
  | false =>
   simp only [Bool.not_false, if_true, Option.bind_some, l4Field_eq g _ hg, l1In_eq, Bool.and_true]
   cases (graphB g && decide (g.1 > 0)) with
   | false => rfl
   | true =>
    cases inB 1 4 p with
    | false => rfl
    | true =>
     simp only [if_true, Bool.true_and, Option.some.injEq, Prod.mk.injEq, and_true]
     by_cases hc : l.length = g.2.1.length
     ·simp [hc]
     ·have : ¬ (l.length : Int) = (g.2.1.length : Int) := by omega
      simp [hc, this]
 ·cases h
theorem specT (t : Tt) (w : Unit) (h : okT t = true) : F_q28q 0 (t, w) = some (timeB t, ()) := by
 unfold F_q28q G_l11Good
 simp only [h, if_true, Option.bind_some]
theorem implT (t : Tt) (w : Unit) (h : okT t = true) : F_q27q 0 (t, w) = some (timeB t, ()) := by
 obtain ⟨⟨n, es, v⟩, p, l, u⟩ := t
 simp only [okT, Bool.and_eq_true] at h
 unfold F_q27q G_graph
 simp only [h.1, if_true, Option.bind_some, within_eq, timeB]
 cases hg : graphB (n, es, v) with
 | false => rfl
 | true =>
  have := graphB_n hg
  by_cases c : n = 0
  ·have c' : ¬ n > 0 := by omega
   have c2 : (n == (0 : Int)) = true := by simp [c]
   simp only [c2, c', Bool.not_true, Bool.false_eq_true, if_false, if_true, decide_false, Bool.and_false, Bool.false_and]
  ·have c' : n > 0 := by omega
   have c2 : (n == (0 : Int)) = false := by simp [c]
   simp only [c2, c', Bool.not_true, Bool.false_eq_true, if_false, decide_true, Bool.true_and]
   cases inB 1 4 p with
   | false => rfl
   | true =>
    simp only [Bool.not_true, Bool.false_eq_true, if_false, Bool.true_and]
    by_cases hc : l.length = es.length
    ·have : ((l.length : Int) != (es.length : Int)) = false := by simp [hc]
     simp only [this, Bool.false_eq_true, if_false, contains84 l () ((n, es, v), p, l, u) () () h.2, Option.bind_some, hc, decide_true, Bool.true_and, bne_self_eq_false]
    ·have : ((l.length : Int) != (es.length : Int)) = true := by simp; omega
     simp only [this, if_true, hc, decide_false, Bool.false_and]
theorem okLL_small {l : List (List Int)} (h1 : l.length <= 1048576) (h2 : l.all (fun x => decide (x.length <= 1048576)) = true) : okLL l = true := by
 unfold okLL
 rw [Bool.and_eq_true]
 exact ⟨okL_of h1, List.all_eq_true.2 fun x hx => okL_of (of_decide_eq_true (List.all_eq_true.1 h2 x hx))⟩
end Go.V.W
set_option linter.unusedVariables false
set_option linter.unusedSimpArgs false
namespace Go.V.W
open Go.Proofs
theorem rep_snoc (m : Nat) : List.replicate m ([0] : List Int) ++ [[0]] = List.replicate (m + 1) [0] := by
 rw [List.replicate_succ']
theorem specStatic_l0 (N : Nat) (g : Gr) (x : Tt) (y : Gr) (p : Int) (hl : g.2.1.length <= lim) : ∀ n i, g.2.1.length <= i + n -> i <= g.2.1.length ->
  q13q_l0 N (n + 1) (g, x, (y, p, List.replicate i [0], ()), (i : Int), ()) = some (.inl (x, (y, p, List.replicate g.2.1.length [0], ()), ())) := by
 intro n
 induction n with
 | zero =>
  intro i h1 h2
  have e : i = g.2.1.length := by omega
  subst e
  simp [q13q_l0, q13q_l0_r]
 | succ n ih =>
  intro i h1 h2
  by_cases hi : i < g.2.1.length
  ·show q13q_l0_r N (q13q_l0 N (n + 1)) (g, x, (y, p, List.replicate i [0], ()), (i : Int), ()) = _
   unfold q13q_l0_r
   have hle : decide ((List.replicate i ([0] : List Int)).length + List.length [[(0 : Int)]] <= lim) = true := by simp; omega
   simp only [lt_dec hi, if_true, hle, wrap_up hi (lim_max hl), rep_snoc]
   exact ih (i + 1) (by omega) (by omega)
  ·have e : i = g.2.1.length := by omega
   subst e
   simp [q13q_l0, q13q_l0_r]
theorem implStatic_l0 (N : Nat) (m : Nat) (x : Tt) (y : Gr) (p : Int) (hl : m <= lim) : ∀ n i, m <= i + n -> i <= m ->
  q12q_l0 N (n + 1) (x, (y, p, List.replicate i [0], ()), (m : Int), (i : Int), ()) = some (.inl (x, (y, p, List.replicate m [0], ()), ())) := by
 intro n
 induction n with
 | zero =>
  intro i h1 h2
  have e : i = m := by omega
  subst e
  simp [q12q_l0, q12q_l0_r]
 | succ n ih =>
  intro i h1 h2
  by_cases hi : i < m
  ·show q12q_l0_r N (q12q_l0 N (n + 1)) (x, (y, p, List.replicate i [0], ()), (m : Int), (i : Int), ()) = _
   unfold q12q_l0_r
   have hle : decide ((List.replicate i ([0] : List Int)).length + List.length [[(0 : Int)]] <= lim) = true := by simp; omega
   simp only [lt_dec hi, if_true, hle, wrap_up hi (lim_max hl), rep_snoc]
   exact ih (i + 1) (by omega) (by omega)
  ·have e : i = m := by omega
   subst e
   simp [q12q_l0, q12q_l0_r]
theorem specStatic_lim (d) (r) (h : G_static d = some r) : ∃ N, F_q13q N d = some r := by
 obtain ⟨⟨n, l, u⟩, w⟩ := d
 unfold G_static at h
 split at h
 ·rename_i ho
  have hl : l.length <= lim := okL_lim ho
  have h := Option.some.inj h
  subst h
  refine ⟨l.length + 1, ?_⟩
  unfold F_q13q staticT
  have hlim : decide (List.length ([] : List E) + l.length <= lim) = true := by simp [hl]
  have := specStatic_l0 (l.length + 1) (n, l, u) ((0, [], ()), 0, [], ()) (n, l, ()) 1 hl l.length 0 (by simp) (by omega)
  simp only [Int.natCast_zero, List.replicate_zero] at this
  simp only [l4Field_eq (n, l, u) _ ho, Option.bind_some, hlim, if_true, List.nil_append, this]
  cases (graphB (n, l, u) && decide (n > 0)) <;> rfl
 ·cases h
theorem implStatic_lim (d) (r) (h : G_static d = some r) : ∃ N, F_q12q N d = some r := by
 obtain ⟨⟨n, l, u⟩, w⟩ := d
 unfold G_static at h
 split at h
 ·rename_i ho
  have ho : okL l = true := ho
  have hl : l.length <= lim := okL_lim ho
  have h := Option.some.inj h
  subst h
  refine ⟨l.length + 1, ?_⟩
  unfold F_q12q staticT G_graph G_toIntA2S
  have := implStatic_l0 (l.length + 1) l.length ((0, [], ()), 0, [], ()) (n, l, ()) 1 hl l.length 0 (by simp) (by omega)
  simp only [Int.natCast_zero, List.replicate_zero] at this
  simp only [ho, if_true, Option.bind_some, this]
  cases hg : graphB (n, l, u) with
  | false => rfl
  | true =>
   have := graphB_n hg
   by_cases c : n = 0
   ·have c' : ¬ n > 0 := by omega
    have c2 : (n == (0 : Int)) = true := by simp [c]
    simp only [c2, c', Bool.not_true, Bool.false_eq_true, if_false, if_true, decide_false, Bool.and_false]
   ·have c' : n > 0 := by omega
    have c2 : (n == (0 : Int)) = false := by simp [c]
    simp only [c2, c', Bool.not_true, Bool.false_eq_true, if_false, if_true, decide_true, Bool.and_true]
 ·cases h
end Go.V.W
set_option linter.unusedVariables false
set_option linter.unusedSimpArgs false
namespace Go.V.W
open Go.Proofs
theorem edge_nat {n : Nat} {e : E} (h : edgeB (n : Int) e = true) : ∃ a b : Nat, a < b /\ b < n /\ e = ((a : Int), (b : Int), ()) := by
 obtain ⟨h1, h2, h3, h4⟩ := edgeB_nat h
 exact ⟨_, _, h1, h2, by rw [<- h3, <- h4]⟩
theorem toI_zero (n : Nat) : List.replicate n (0 : Int) = toI (List.replicate n 0) := by simp [toI]
theorem nonneg_dec (y : Nat) : decide (0 <= (y : Int)) = true := by simp
theorem netOf_l0 (N : Nat) (n : Nat) (hn : n <= 8) (z : Nt) (u : Unit) (es : List E) (hl : es.length <= lim) (he : es.all (edgeB (n : Int)) = true) : ∀ k j (ms : List Nat), okN n ms -> es.length <= j + k -> j <= es.length ->
  impl_netOf_l0 N (k + 1) (z, (toI ms, u), es, (es.length : Int), (j : Int), ()) = some (.inl (z, (toI ((es.drop j).foldl addN ms), u), ())) := by
 intro k
 induction k with
 | zero =>
  intro j ms hm h1 h2
  have e : j = es.length := by omega
  subst e
  rw [List.drop_of_length_le (Nat.le_refl _)]
  simp [impl_netOf_l0, impl_netOf_l0_r]
 | succ k ih =>
  intro j ms hm h1 h2
  by_cases hj : j < es.length
  ·have hee : edgeB (n : Int) (at_ K_Piiq es j) = true := all_at_of (e := K_Piiq) he hj
   have hat : at_ K_Piiq es j = es[j] := at_get (e := K_Piiq) hj
   obtain ⟨a, b, hab, hb, hx⟩ := edge_nat hee
   have k1 := addN_ok hn hm hee
   have ha8 : a < 8 := by omega
   have hb8 : b < 8 := by omega
   have o1 := orN_ok hm (show a < n by omega) hb8
   show impl_netOf_l0_r N (impl_netOf_l0 N (k + 1)) (z, (toI ms, u), es, (es.length : Int), (j : Int), ()) = _
   unfold impl_netOf_l0_r
   have i1 : idxIn (a : Int) ms.length = true := idxIn_nat (by rw [hm.1]; omega)
   have i2 : idxIn (b : Int) ms.length = true := idxIn_nat (by rw [hm.1]; omega)
   have p1 := pow_small hb8
   have p2 := pow_small ha8
   simp only [lt_dec hj, if_true, idxIn_nat hj, Int.toNat_natCast, wrap_up hj (lim_max hl), hx, toI_len, i1, i2, nonneg_dec, shl_one hb8, shl_one ha8, at_toI, bits_or (hm.2 a) p1, toI_set, List.length_set]
   have hb2 : (ms.set a (ms.getD a 0 ||| 2 ^ b)).getD b 0 < 256 := o1.2 b
   simp only [bits_or hb2 p2, toI_set]
   rw [List.drop_eq_getElem_cons hj, List.foldl_cons, <- hat, hx]
   have hadd : addN ms ((a : Int), (b : Int), ()) = (ms.set a (ms.getD a 0 ||| 2 ^ b)).set b ((ms.set a (ms.getD a 0 ||| 2 ^ b)).getD b 0 ||| 2 ^ a) := by
    simp only [addN, orN, Int.toNat_natCast]
   rw [hx] at k1
   rw [hadd] at k1 |-
   exact ih (j + 1) _ k1 (by omega) (by omega)
  ·have e : j = es.length := by omega
   subst e
   rw [List.drop_of_length_le (Nat.le_refl _)]
   simp [impl_netOf_l0, impl_netOf_l0_r]
theorem netOf_lim (d) (r) (h : G_netOf d = some r) : ∃ N, F_impl_netOf N d = some r := by
 obtain ⟨⟨n, es, u⟩, w⟩ := d
 unfold G_netOf at h
 split at h
 ·rename_i hc
  simp only [Bool.and_eq_true, decide_eq_true_eq] at hc
  obtain ⟨⟨⟨h0, h8⟩, hl⟩, he⟩ := hc
  have h := Option.some.inj h
  subst h
  obtain ⟨m, rfl⟩ : ∃ m : Nat, n = (m : Int) := ⟨n.toNat, by omega⟩
  have hm8 : m <= 8 := by omega
  refine ⟨es.length + 1, ?_⟩
  unfold F_impl_netOf
  have hc : (decide (0 <= (m : Int)) && decide ((m : Int) <= (m : Int)) && decide ((m : Int) <= (lim : Int))) = true := by
   have a1 : (m : Int) <= (lim : Int) := by unfold lim; omega
   simp only [a1, nonneg_dec, decide_true, Bool.and_self, Int.le_refl]
  have := netOf_l0 (es.length + 1) m hm8 (([] : List Int), ()) () es (okL_lim hl) he es.length 0 _ (okN_zero m) (by omega) (by omega)
  simp only [Int.natCast_zero, List.drop_zero] at this
  simp only [hc, if_true, Int.toNat_natCast, toI_zero, this, Option.bind_some]
  rfl
 ·cases h
theorem l1Has_lim (d) (r) (h : G_l1Has d = some r) : ∃ N, F_spec_l1Has N d = some r := by
 obtain ⟨l, x, _⟩ := d
 unfold G_l1Has at h
 split at h
 ·rename_i hl
  have hl : l.length <= lim := okL_lim hl
  have h := Option.some.inj h
  subst h
  refine ⟨l.length + 1, ?_⟩
  unfold F_spec_l1Has
  have := loop_idx (L := spec_l1Has_l0 (l.length + 1)) (r := spec_l1Has_l0_r (l.length + 1)) (fun _ _ => rfl) (e := I) l (mk := fun i => (l, x, (i : Int), ())) (q := fun y => y == x) (o := fun _ => .inl (true, ())) (f := .inr (.inl ()))
   (by
    intro back i hi
    unfold spec_l1Has_l0_r
    simp only [lt_dec hi, if_true, idxIn_nat hi, Int.toNat_natCast, wrap_up hi (lim_max hl)])
   (by intro back; unfold spec_l1Has_l0_r; simp only [lt_not, Bool.false_eq_true, if_false]) l.length 0 (by omega) (by omega)
  simp only [Int.natCast_zero, List.drop_zero] at this
  have hge := idxI_ge (fun y => y == x) l 0
  simp only [this, Option.bind_some, <- hge]
  cases idxN (fun y => y == x) l 0 with
  | none => rfl
  | some j => simp [idxI]
 ·cases h
theorem index_lim (d) (r) (h : G_index d = some r) : ∃ N, F_q10q N d = some r := by
 obtain ⟨l, x, _⟩ := d
 unfold G_index at h
 split at h
 ·rename_i hl
  have hl : l.length <= lim := okL_lim hl
  have h := Option.some.inj h
  subst h
  refine ⟨l.length + 1, ?_⟩
  unfold F_q10q
  have := loop_idx (L := q10q_l0 (l.length + 1)) (r := q10q_l0_r (l.length + 1)) (fun _ _ => rfl) (e := I) l (mk := fun i => (l, x, (l.length : Int), (i : Int), ())) (q := fun y => x == y) (o := fun i => .inl ((i : Int), ())) (f := .inr (.inl ()))
   (by
    intro back i hi
    unfold q10q_l0_r
    simp only [lt_dec hi, if_true, idxIn_nat hi, Int.toNat_natCast, wrap_up hi (lim_max hl)])
   (by intro back; unfold q10q_l0_r; simp only [lt_not, Bool.false_eq_true, if_false]) l.length 0 (by omega) (by omega)
  simp only [Int.natCast_zero, List.drop_zero] at this
  simp only [this, Option.bind_some]
  cases idxN (fun y => x == y) l 0 <;> rfl
 ·cases h
theorem contains_eq (l : List Int) (x : Int) (u : Unit) (h : okL l = true) : F_q6q 0 (l, x, u) = some (l.any (fun y => y == x), ()) := by
 unfold F_q6q G_index
 simp only [h, if_true, Option.bind_some, idxI_ge]
 congr 3
 funext y
 exact bool_eq_iff (by rw [beq_iff_eq, beq_iff_eq]; exact eq_comm)
theorem timeB_parts {t : Tt} (h : timeB t = true) : graphB t.1 = true /\ 0 < t.1.1 /\ inB 1 4 t.2.1 = true /\ t.2.2.1.length = t.1.2.1.length := by
 unfold timeB at h
 simp only [Bool.and_eq_true, decide_eq_true_eq] at h
 exact ⟨h.1.1.1.1, h.1.1.1.2, h.1.1.2, h.1.2⟩
theorem okT_parts {t : Tt} (h : okT t = true) : okL t.1.2.1 = true /\ okL t.2.2.1 = true /\ t.2.2.1.all okL = true := by
 unfold okT at h
 simp only [Bool.and_eq_true] at h
 exact ⟨h.1, okLL_of h.2⟩
theorem inB_iff {lo hi x : Int} : inB lo hi x = true ↔ lo <= x /\ x <= hi := by simp [inB]
theorem sel_step {es : List E} {ts : List (List Int)} {r : Int} {i : Nat} (h1 : i < es.length) (h2 : i < ts.length) : selE (es.drop i) (ts.drop i) r = if (at_ K_Si ts i).any (fun y => y == r) = true then at_ K_Piiq es i :: selE (es.drop (i + 1)) (ts.drop (i + 1)) r else selE (es.drop (i + 1)) (ts.drop (i + 1)) r := by
 rw [List.drop_eq_getElem_cons h1, List.drop_eq_getElem_cons h2]
 simp only [selE]
 have e1 : at_ K_Si ts i = ts[i] := at_get (e := K_Si) h2
 have e2 : at_ K_Piiq es i = es[i] := at_get (e := K_Piiq) h1
 rw [e1, e2]
theorem l11Open_l0 (N : Nat) (t : Tt) (c : Int) (z : Gr) (n' : Int) (hL : t.1.2.1.length <= lim) (hT : t.2.2.1.length = t.1.2.1.length) (hA : t.2.2.1.all okL = true) (hp : t.2.1 ≠ 0) : ∀ k i (A : List E), A.length <= i -> t.1.2.1.length <= i + k -> i <= t.1.2.1.length ->
  q64q_l0 N (k + 1) (c, t, z, (n', A, ()), (i : Int), ()) = some (.inl (z, (n', A ++ selE (t.1.2.1.drop i) (t.2.2.1.drop i) (c.tmod t.2.1), ()), ())) := by
 intro k
 induction k with
 | zero =>
  intro i A hA' h1 h2
  have e : i = t.1.2.1.length := by omega
  subst e
  rw [List.drop_of_length_le (Nat.le_refl _)]
  simp [q64q_l0, q64q_l0_r, selE]
 | succ k ih =>
  intro i A hA' h1 h2
  by_cases hi : i < t.1.2.1.length
  ·have hi2 : i < t.2.2.1.length := by omega
   have hx : okL (at_ K_Si t.2.2.1 i) = true := all_at_of (e := K_Si) hA hi2
   have hp' : (t.2.1 != 0) = true := by simpa using hp
   show q64q_l0_r N (q64q_l0 N (k + 1)) (c, t, z, (n', A, ()), (i : Int), ()) = _
   unfold q64q_l0_r
   have hle : decide (A.length + List.length [at_ K_Piiq t.1.2.1 i] <= lim) = true := by simp; omega
   simp only [lt_dec hi, if_true, idxIn_nat hi, idxIn_nat hi2, Int.toNat_natCast, wrap_up hi (lim_max hL), hp', G_l1Has, hx, Option.bind_some, hle]
   rw [sel_step hi hi2]
   by_cases hh : (at_ K_Si t.2.2.1 i).any (fun y => y == c.tmod t.2.1) = true
   ·rw [if_pos hh, if_pos hh, ih (i + 1) _ (by simp; omega) (by omega) (by omega)]
    simp
   ·rw [if_neg hh, if_neg hh]
    exact ih (i + 1) A (by omega) (by omega) (by omega)
  ·have e : i = t.1.2.1.length := by omega
   subst e
   rw [List.drop_of_length_le (Nat.le_refl _)]
   simp [q64q_l0, q64q_l0_r, selE]
theorem l11Open_lim (d) (r) (h : G_l11Open d = some r) : ∃ N, F_q64q N d = some r := by
 obtain ⟨t, c, _⟩ := d
 unfold G_l11Open at h
 split at h
 ·rename_i hc
  simp only [Bool.and_eq_true, decide_eq_true_eq] at hc
  obtain ⟨⟨⟨h1, h2⟩, h3⟩, _⟩ := hc
  obtain ⟨g1, g2, g3, g4⟩ := timeB_parts h1
  obtain ⟨o1, o2, o3⟩ := okT_parts h2
  have g3 := inB_iff.1 g3
  have h := Option.some.inj h
  subst h
  refine ⟨t.1.2.1.length + 1, ?_⟩
  unfold F_q64q
  have := l11Open_l0 (t.1.2.1.length + 1) t c (0, [], ()) t.1.1 (okL_lim o1) g4 o3 (by omega) t.1.2.1.length 0 [] (by simp) (by omega) (by omega)
  simp only [Int.natCast_zero, List.drop_zero, List.nil_append] at this
  simp only [this, Option.bind_some]
  rfl
 ·cases h
theorem at_midN (pre : List Nt) (x : Nt) (post : List Nt) : at_ K_PSiq (pre ++ x :: post) pre.length = x := by
 rw [at_get (e := K_PSiq) (by simp)]
 simp
theorem set_midN (pre : List Nt) (x y : Nt) (post : List Nt) : List.set (pre ++ x :: post) pre.length y = pre ++ y :: post := by simp
theorem openNets_l2 (N : Nat) (t : Tt) (n : Nat) (hn : n <= 8) (pre post : List Nt) (u : Unit) (s11 s12 : Int) (hl : t.1.2.1.length <= lim) (hT : t.2.2.1.length = t.1.2.1.length) (hA : t.2.2.1.all okL = true) (he : t.1.2.1.all (edgeB (n : Int)) = true) : ∀ k j (ms : List Nat), okN n ms -> t.1.2.1.length <= j + k -> j <= t.1.2.1.length ->
  q53q_l2 N (k + 1) (t, pre ++ (toI ms, u) :: post, (pre.length : Int), s11, s12, t.1.2.1, (t.1.2.1.length : Int), (j : Int), ()) =
   some (.inl (t, pre ++ (toI ((selE (t.1.2.1.drop j) (t.2.2.1.drop j) (pre.length : Int)).foldl addN ms), u) :: post, s11, s12, ())) := by
 intro k
 induction k with
 | zero =>
  intro j ms hm h1 h2
  have e : j = t.1.2.1.length := by omega
  subst e
  rw [List.drop_of_length_le (Nat.le_refl _)]
  simp [q53q_l2, q53q_l2_r, selE]
 | succ k ih =>
  intro j ms hm h1 h2
  by_cases hj : j < t.1.2.1.length
  ·have hj2 : j < t.2.2.1.length := by omega
   have hx : okL (at_ K_Si t.2.2.1 j) = true := all_at_of (e := K_Si) hA hj2
   have hee : edgeB (n : Int) (at_ K_Piiq t.1.2.1 j) = true := all_at_of (e := K_Piiq) he hj
   obtain ⟨a, b, hab, hb, hxe⟩ := edge_nat hee
   have k1 := addN_ok hn hm hee
   have ha8 : a < 8 := by omega
   have hb8 : b < 8 := by omega
   have o1 := orN_ok hm (show a < n by omega) hb8
   rw [sel_step hj hj2]
   show q53q_l2_r N (q53q_l2 N (k + 1)) (t, pre ++ (toI ms, u) :: post, (pre.length : Int), s11, s12, t.1.2.1, (t.1.2.1.length : Int), (j : Int), ()) = _
   unfold q53q_l2_r
   simp only [lt_dec hj, if_true, idxIn_nat hj, idxIn_nat hj2, Int.toNat_natCast, wrap_up hj (lim_max hl), contains_eq _ _ _ hx, Option.bind_some]
   by_cases hh : (at_ K_Si t.2.2.1 j).any (fun y => y == (pre.length : Int)) = true
   ·rw [if_pos hh, if_pos hh]
    have i0 : ∀ x : Nt, idxIn (pre.length : Int) (pre ++ x :: post).length = true := fun x => idxIn_nat (by simp)
    have i1 : idxIn (a : Int) ms.length = true := idxIn_nat (by rw [hm.1]; omega)
    have i2 : idxIn (b : Int) ms.length = true := idxIn_nat (by rw [hm.1]; omega)
    have p1 := pow_small hb8
    have p2 := pow_small ha8
    simp only [hxe, i0, if_true, Int.toNat_natCast, at_midN, set_midN, toI_len, i1, i2, nonneg_dec, shl_one hb8, shl_one ha8, at_toI, bits_or (hm.2 a) p1, toI_set, List.length_set]
    have hb2 : (ms.set a (ms.getD a 0 ||| 2 ^ b)).getD b 0 < 256 := o1.2 b
    simp only [bits_or hb2 p2, toI_set]
    rw [List.foldl_cons]
    have hadd : addN ms ((a : Int), (b : Int), ()) = (ms.set a (ms.getD a 0 ||| 2 ^ b)).set b ((ms.set a (ms.getD a 0 ||| 2 ^ b)).getD b 0 ||| 2 ^ a) := by
     simp only [addN, orN, Int.toNat_natCast]
    rw [hxe] at k1
    rw [hadd] at k1 |-
    exact ih (j + 1) _ k1 (by omega) (by omega)
   ·rw [if_neg hh, if_neg hh]
    exact ih (j + 1) ms hm (by omega) (by omega)
  ·have e : j = t.1.2.1.length := by omega
   subst e
   rw [List.drop_of_length_le (Nat.le_refl _)]
   simp [q53q_l2, q53q_l2_r, selE]
theorem graphB_edges {n : Int} {l : List E} {u : Unit} (h : graphB (n, l, u) = true) : l.all (edgeB n) = true /\ risingE l = true := by
 unfold graphB at h
 simp only [Bool.and_eq_true] at h
 exact ⟨h.1.2, h.2⟩
theorem openNets_l0 (M : Nat) (t : Tt) (n : Nat) (hn : n <= 8) (hN : t.1.1 = (n : Int)) (hl : t.1.2.1.length <= lim) (hT : t.2.2.1.length = t.1.2.1.length) (hA : t.2.2.1.all okL = true) (he : t.1.2.1.all (edgeB (n : Int)) = true) (p : Nat) (hp : p <= 4) : ∀ k (pre : List Nt) (f : Nat), pre.length + k = p -> k < f ->
  q53q_l0 (t.1.2.1.length + 1 + M) f (t, pre ++ List.replicate k ([], ()), (p : Int), (pre.length : Int), ()) = some (.inl (pre ++ (List.range' pre.length k).map (fun r : Nat => ((toI (netN n (openE t (r : Int))), ()) : Nt)), ())) := by
 intro k
 induction k with
 | zero =>
  intro pre f h hf
  have e : p = pre.length := by omega
  subst e
  obtain ⟨f, rfl⟩ : ∃ m, f = m + 1 := ⟨f - 1, by omega⟩
  simp [q53q_l0, q53q_l0_r]
 | succ k ih =>
  intro pre f h hf
  have hlt : pre.length < p := by omega
  obtain ⟨f, rfl⟩ : ∃ m, f = m + 1 := ⟨f - 1, by omega⟩
  show q53q_l0_r (t.1.2.1.length + 1 + M) (q53q_l0 (t.1.2.1.length + 1 + M) f) (t, pre ++ List.replicate (k + 1) ([], ()), (p : Int), (pre.length : Int), ()) = _
  unfold q53q_l0_r
  have hg : G_netOf ((t.1.1, ([] : List E), ()), ()) = some ((toI (List.replicate n 0), ()), ()) := by
   unfold G_netOf
   have : (decide (0 <= t.1.1) && decide (t.1.1 <= 8) && okL ([] : List E) && List.all ([] : List E) (edgeB t.1.1)) = true := by
    rw [okL_nil, hN]
    simp
    omega
   rw [if_pos this, hN]
   rfl
  have i0 : idxIn (pre.length : Int) (pre ++ ([], ()) :: List.replicate k (([], ()) : Nt)).length = true := idxIn_nat (by simp)
  have hw : IntKind.wrap .i64 ((pre.length : Int) + 1) = ((pre.length + 1 : Nat) : Int) := by
   rw [wrap_in _ (by omega) (by omega)]
   rfl
  have hin := openNets_l2 (t.1.2.1.length + 1 + M) t n hn pre (List.replicate k ([], ())) () (p : Int) (pre.length : Int) hl hT hA he (t.1.2.1.length + M) 0 _ (okN_zero n) (by omega) (by omega)
  have hf : t.1.2.1.length + M + 1 = t.1.2.1.length + 1 + M := by omega
  rw [hf] at hin
  simp only [Int.natCast_zero, List.drop_zero] at hin
  have hd : decide ((pre.length : Int) < (p : Int)) = true := by simp; omega
  simp only [List.replicate_succ, hd, if_true, hg, Option.bind_some, i0, Int.toNat_natCast, set_midN, hin, hw]
  have := ih (pre ++ [((toI (netN n (openE t (pre.length : Int))), ()) : Nt)]) f (by simp; omega) (by omega)
  simp only [List.length_append, List.length_singleton, List.append_assoc, List.singleton_append] at this
  rw [List.range'_succ, List.map_cons]
  exact this
theorem openNets_lim (d) (r) (h : G_openNets d = some r) : ∃ N, F_q53q N d = some r := by
 obtain ⟨t, _⟩ := d
 unfold G_openNets at h
 split at h
 ·rename_i hc
  simp only [Bool.and_eq_true] at hc
  obtain ⟨h1, h2⟩ := hc
  obtain ⟨g1, g2, g3, g4⟩ := timeB_parts h1
  obtain ⟨o1, o2, o3⟩ := okT_parts h2
  have g3 := inB_iff.1 g3
  have hn := graphB_n (n := t.1.1) (l := t.1.2.1) (u := t.1.2.2) g1
  have hE := (graphB_edges (n := t.1.1) (l := t.1.2.1) (u := t.1.2.2) g1).1
  have h := Option.some.inj h
  subst h
  have hN : t.1.1 = (t.1.1.toNat : Int) := by omega
  have hP : t.2.1 = (t.2.1.toNat : Int) := by omega
  refine ⟨t.1.2.1.length + 1 + (t.2.1.toNat + 1), ?_⟩
  unfold F_q53q
  have hcc : (decide (0 <= t.2.1) && decide (t.2.1 <= t.2.1) && decide (t.2.1 <= (lim : Int))) = true := by
   have a1 : t.2.1 <= (lim : Int) := by unfold lim; omega
   have a2 : 0 <= t.2.1 := by omega
   simp only [a1, a2, decide_true, Bool.and_self, Int.le_refl]
  rw [hN] at hE
  have key := openNets_l0 (t.2.1.toNat + 1) t t.1.1.toNat (by omega) hN (okL_lim o1) g4 o3 hE t.2.1.toNat (by omega) t.2.1.toNat [] (t.1.2.1.length + 1 + (t.2.1.toNat + 1)) (by simp) (by omega)
  simp only [List.nil_append, List.length_nil, Int.natCast_zero] at key
  have hlen : (List.replicate t.2.1.toNat (([] : List Int), ())).length = t.2.1.toNat := by simp
  simp only [hcc, if_true, hlen, key, Option.bind_some, netsL, List.range_eq_range']
 ·cases h
end Go.V.W
set_option linter.unusedVariables false
set_option linter.unusedSimpArgs false
namespace Go.V.W
open Go.Proofs
theorem smallN_nat {l : List Int} (h : smallN l = true) : l = toI (fromI l) /\ okN l.length (fromI l) /\ l.length <= 8 := by
 unfold smallN at h
 simp only [Bool.and_eq_true, decide_eq_true_eq, List.all_eq_true] at h
 refine ⟨?_, ⟨by simp [fromI], fun x => ?_⟩, h.1⟩
 ·unfold toI fromI
  rw [List.map_map]
  have : ∀ m ∈ l, ((fun m : Nat => (m : Int)) ∘ Int.toNat) m = m := fun m hm => by
   have := h.2 m hm
   simp only [Function.comp]
   omega
  exact (List.map_congr_left this).trans (List.map_id' l) |>.symm
 ·unfold fromI
  simp only [List.getD_eq_getElem?_getD, List.getElem?_map]
  cases hx : l[x]? with
  | none => simp
  | some m =>
   have := h.2 m (List.mem_of_getElem? hx)
   simp only [Option.map_some, Option.getD_some]
   omega
theorem hasV (ms : List Nat) (n : Nat) (hm : okN n ms) (hn : n <= 8) (u v w z : Unit) (x y : Nat) (hx : x < n) (hy : y < n) : FV_q67q ((x : Int), (y : Int), (((toI ms, u), v), w), z) = some (hasN ms x y, ()) := by
 unfold FV_q67q F_q67q
 have i1 : idxIn (x : Int) ms.length = true := idxIn_nat (by rw [hm.1]; exact hx)
 simp only [toI_len, i1, if_true, nonneg_dec, Int.toNat_natCast, at_toI, has_bit (hm.2 x) (show y < 8 by omega)]
 rfl
theorem rowE_len {p : Nat -> Nat -> Bool} {x : Nat} : ∀ {m y : Nat}, (rowE p x m y).length <= m := by
 intro m
 induction m with
 | zero => intro y; simp [rowE]
 | succ m ih =>
  intro y
  unfold rowE
  split
  ·have := ih (y := y + 1); simp; omega
  ·have := ih (y := y + 1); omega
theorem graphBy_l2 (N : Nat) (ms : List Nat) (n : Nat) (hm : okN n ms) (hn : n <= 8) (u v w : Unit) (z : Gr) (n' : Int) (x : Nat) (hx : x < n) (s10 s11 : Int) : ∀ k y f (A : List E), y + k = n -> k < f -> A.length + k <= 1000 ->
  q2q_l2 N f ((n : Int), (((toI ms, u), v), w), z, (n', A, ()), (x : Int), (y : Int), s10, s11, ()) = some (.inl ((n : Int), (((toI ms, u), v), w), z, (n', A ++ rowE (hasN ms) x k y, ()), s10, s11, ())) := by
 intro k
 induction k with
 | zero =>
  intro y f A h1 h2 h3
  obtain ⟨f, rfl⟩ : ∃ m, f = m + 1 := ⟨f - 1, by omega⟩
  have e : y = n := by omega
  subst e
  simp [q2q_l2, q2q_l2_r, rowE]
 | succ k ih =>
  intro y f A h1 h2 h3
  obtain ⟨f, rfl⟩ : ∃ m, f = m + 1 := ⟨f - 1, by omega⟩
  have hy : y < n := by omega
  show q2q_l2_r N (q2q_l2 N f) ((n : Int), (((toI ms, u), v), w), z, (n', A, ()), (x : Int), (y : Int), s10, s11, ()) = _
  unfold q2q_l2_r
  have hw : IntKind.wrap .i64 ((y : Int) + 1) = ((y + 1 : Nat) : Int) := by
   rw [wrap_in _ (by omega) (by omega)]
   rfl
  have hle : decide (A.length + List.length [(((x : Int), (y : Int), ()) : E)] <= lim) = true := by
   unfold lim
   simp
   omega
  simp only [lt_dec hy, if_true, hasV ms n hm hn u v w () x y hx hy, Option.bind_some, hle, hw]
  unfold rowE
  by_cases hh : hasN ms x y = true
  ·rw [if_pos hh, if_pos hh, ih (y + 1) f _ (by omega) (by omega) (by simp; omega)]
   simp
  ·rw [if_neg hh, if_neg hh]
   exact ih (y + 1) f A (by omega) (by omega) (by omega)
theorem graphBy_l0 (N : Nat) (hN : 9 <= N) (ms : List Nat) (n : Nat) (hm : okN n ms) (hn : n <= 8) (u v w : Unit) (z : Gr) (n' : Int) : ∀ k x f (A : List E), x + k = n -> k < f -> A.length + 10 * k <= 900 ->
  q2q_l0 N f ((n : Int), (((toI ms, u), v), w), z, (n', A, ()), (n : Int), (x : Int), ()) = some (.inl (z, (n', A ++ allE (hasN ms) n k x, ()), ())) := by
 intro k
 induction k with
 | zero =>
  intro x f A h1 h2 h3
  obtain ⟨f, rfl⟩ : ∃ m, f = m + 1 := ⟨f - 1, by omega⟩
  have e : x = n := by omega
  subst e
  simp [q2q_l0, q2q_l0_r, allE]
 | succ k ih =>
  intro x f A h1 h2 h3
  obtain ⟨f, rfl⟩ : ∃ m, f = m + 1 := ⟨f - 1, by omega⟩
  have hx : x < n := by omega
  show q2q_l0_r N (q2q_l0 N f) ((n : Int), (((toI ms, u), v), w), z, (n', A, ()), (n : Int), (x : Int), ()) = _
  unfold q2q_l0_r
  have hw : IntKind.wrap .i64 ((x : Int) + 1) = ((x + 1 : Nat) : Int) := by
   rw [wrap_in _ (by omega) (by omega)]
   rfl
  have hin := graphBy_l2 N ms n hm hn u v w z n' x hx (n : Int) (x : Int) (n - (x + 1)) (x + 1) N A (by omega) (by omega) (by omega)
  simp only [lt_dec hx, if_true, hw, hin, Option.bind_some]
  have := rowE_len (p := hasN ms) (x := x) (m := n - (x + 1)) (y := x + 1)
  rw [ih (x + 1) f _ (by omega) (by omega) (by simp; omega)]
  simp [allE]
theorem graphBy135_lim (d) (r) (h : G_graphBy135 d = some r) : ∃ N, F_q2q N d = some r := by
 obtain ⟨n', ⟨⟨⟨l, u⟩, v⟩, w⟩, q⟩ := d
 unfold G_graphBy135 at h
 split at h
 ·rename_i hc
  simp only [Bool.and_eq_true, decide_eq_true_eq] at hc
  obtain ⟨h1, h2⟩ := hc
  obtain ⟨e, hm, h8⟩ := smallN_nat h1
  have h := Option.some.inj h
  subst h
  have h2 : n' = (l.length : Int) := h2
  subst h2
  refine ⟨20, ?_⟩
  unfold F_q2q
  have := graphBy_l0 20 (by omega) (fromI l) l.length hm h8 u v w (0, [], ()) (l.length : Int) l.length 0 20 [] (by omega) (by omega) (by simp; omega)
  rw [<- e] at this
  simp only [Int.natCast_zero, List.nil_append] at this
  simp only [this, Option.bind_some, Int.toNat_natCast]
 ·cases h
def ogB (t : Tt) (c : Int) : Gr × Bool × Unit := if (timeB t && inB 0 1000 c) = true then ((t.1.1, openE t (c.tmod t.2.1), ()), true, ()) else ((0, [], ()), false, ())
theorem clock_spec (c : Int) (u : Unit) : g_q59q (c, u) = (inB 0 1000 c, ()) := by
 unfold g_q59q
 simp only [l1In_eq]
theorem clock_impl (c : Int) (u : Unit) : g_q63q (c, u) = (inB 0 1000 c, ()) := by
 unfold g_q63q
 simp only [within_eq]
theorem specOG (t : Tt) (c : Int) (w : Unit) (h : okT t = true) : F_q47q 0 (t, c, w) = some (ogB t c) := by
 unfold F_q47q G_l11Good ogB
 simp only [h, if_true, Option.bind_some, clock_spec]
 cases ht : timeB t with
 | false => rfl
 | true =>
  cases hc : inB 0 1000 c with
  | false => rfl
  | true =>
   have := inB_iff.1 hc
   have e1 : decide (0 <= c) = true := by simp; omega
   have e2 : decide (c <= 5000) = true := by simp; omega
   simp only [G_l11Open, ht, h, e1, e2, Bool.and_self, Bool.not_true, Bool.false_eq_true, if_false, if_true, Option.bind_some]
theorem openE_ok {t : Tt} {n : Nat} (h1 : t.1.2.1.all (edgeB (n : Int)) = true) (h2 : risingE t.1.2.1 = true) (r : Int) : (openE t r).all (edgeB (n : Int)) = true /\ ((openE t r).Pairwise fun a b => lessE a b = true) := by
 have hs := selE_sub t.1.2.1 t.2.2.1 r
 refine ⟨List.all_eq_true.2 fun e he => List.all_eq_true.1 h1 e (hs.mem he), (rising_pair h2).sublist hs⟩
theorem tmod_lt {c p : Int} (hc : 0 <= c) (hp : 0 < p) : 0 <= c.tmod p /\ c.tmod p < p := by
 rw [Int.tmod_eq_emod_of_nonneg hc]
 exact ⟨Int.emod_nonneg _ (by omega), Int.emod_lt_of_pos _ hp⟩
theorem implOG (t : Tt) (c : Int) (w : Unit) (h : okT t = true) : F_q48q 0 (t, c, w) = some (ogB t c) := by
 unfold F_q48q ogB
 simp only [implT t _ h, Option.bind_some, clock_impl]
 cases ht : timeB t with
 | false => rfl
 | true =>
  cases hc : inB 0 1000 c with
  | false => rfl
  | true =>
   obtain ⟨g1, g2, g3, g4⟩ := timeB_parts ht
   have g3 := inB_iff.1 g3
   have hcc := inB_iff.1 hc
   have hn := graphB_n (n := t.1.1) (l := t.1.2.1) (u := t.1.2.2) g1
   obtain ⟨hE, hR⟩ := graphB_edges (n := t.1.1) (l := t.1.2.1) (u := t.1.2.2) g1
   have hN : t.1.1 = (t.1.1.toNat : Int) := by omega
   rw [hN] at hE
   obtain ⟨m1, m2⟩ := tmod_lt (c := c) (p := t.2.1) (by omega) (by omega)
   obtain ⟨o1, o2⟩ := openE_ok hE hR (c.tmod t.2.1)
   have hp : (t.2.1 != 0) = true := by simp; omega
   have hlen : (netsL t).length = t.2.1.toNat := by simp [netsL]
   have hi : idxIn (c.tmod t.2.1) (netsL t).length = true := by
    rw [hlen]
    unfold idxIn
    simp
    omega
   have hat : at_ K_PSiq (netsL t) (c.tmod t.2.1).toNat = (toI (netN t.1.1.toNat (openE t (c.tmod t.2.1))), ()) := by
    have hlt : (c.tmod t.2.1).toNat < (netsL t).length := by rw [hlen]; omega
    rw [at_get (e := K_PSiq) hlt]
    simp only [netsL, List.get_eq_getElem, List.getElem_map, List.getElem_range]
    rw [show (((c.tmod t.2.1).toNat : Nat) : Int) = c.tmod t.2.1 by omega]
   have hok := netN_ok (n := t.1.1.toNat) (by omega) o1
   have hG : F_q45q 0 ((toI (netN t.1.1.toNat (openE t (c.tmod t.2.1))), ()), ()) = some ((t.1.1, openE t (c.tmod t.2.1), ()), ()) := by
    unfold F_q45q g_q58q G_graphBy135
    have hs : smallN (toI (netN t.1.1.toNat (openE t (c.tmod t.2.1)))) = true := by
     unfold smallN
     simp only [toI_len, hok.1, Bool.and_eq_true, decide_eq_true_eq, List.all_eq_true]
     refine ⟨by omega, fun m hm => ?_⟩
     unfold toI at hm
     obtain ⟨x, hx, rfl⟩ := List.mem_map.1 hm
     obtain ⟨i, hi, rfl⟩ := List.getElem_of_mem hx
     have := hok.2 i
     simp only [List.getD_eq_getElem?_getD, List.getElem?_eq_getElem hi, Option.getD_some] at this
     omega
    simp only [hs, decide_true, Bool.and_self, if_true, Option.bind_some, toI_len, hok.1, toI_from, Int.toNat_natCast, allE_net (show t.1.1.toNat <= 8 by omega) o1 o2]
    rw [<- hN]
   have hO : G_openNets (t, ()) = some (netsL t, ()) := by
    unfold G_openNets
    rw [if_pos (by rw [ht, h]; rfl)]
   simp only [hO, hp, hi, hat, hG, Bool.not_true, Bool.false_eq_true, if_false, if_true, Option.bind_some, Bool.and_self]
theorem selE_len (es : List E) (ts : List (List Int)) (r : Int) : (selE es ts r).length <= es.length := (selE_sub es ts r).length_le
end Go.V.W
set_option linter.unusedVariables false
set_option linter.unusedSimpArgs false
namespace Go.V.W
theorem setF_congr {p q : Nat -> Bool} : ∀ {k x : Nat}, (∀ y, x <= y -> y < x + k -> p y = q y) -> setF p k x = setF q k x := by
 intro k
 induction k with
 | zero => intro x _; rfl
 | succ k ih =>
  intro x h
  simp only [setF, h x (Nat.le_refl _) (by omega), ih (x := x + 1) fun y h1 h2 => h y (by omega) (by omega)]
theorem setF_mem {p : Nat -> Bool} : ∀ {k x : Nat} {z : Int}, z ∈ setF p k x ↔ ∃ y : Nat, x <= y /\ y < x + k /\ p y = true /\ z = (y : Int) := by
 intro k
 induction k with
 | zero => intro x z; simp only [setF, List.not_mem_nil, false_iff]; rintro ⟨y, h1, h2, _⟩; omega
 | succ k ih =>
  intro x z
  unfold setF
  by_cases h : p x = true
  ·rw [if_pos h, List.mem_cons, ih]
   constructor
   ·rintro (rfl | ⟨y, h1, h2, h3, h4⟩)
    ·exact ⟨x, Nat.le_refl _, by omega, h, rfl⟩
    ·exact ⟨y, by omega, by omega, h3, h4⟩
   ·rintro ⟨y, h1, h2, h3, h4⟩
    by_cases e : y = x
    ·subst e; exact .inl h4
    ·exact .inr ⟨y, by omega, by omega, h3, h4⟩
  ·rw [if_neg h, ih]
   constructor
   ·rintro ⟨y, h1, h2, h3, h4⟩
    exact ⟨y, by omega, by omega, h3, h4⟩
   ·rintro ⟨y, h1, h2, h3, h4⟩
    by_cases e : y = x
    ·subst e; exact absurd h3 h
    ·exact ⟨y, by omega, by omega, h3, h4⟩
theorem setF_len {p : Nat -> Bool} : ∀ {k x : Nat}, (setF p k x).length <= k := by
 intro k
 induction k with
 | zero => intro x; simp [setF]
 | succ k ih =>
  intro x
  unfold setF
  split
  ·have := ih (x := x + 1); simp; omega
  ·have := ih (x := x + 1); omega
theorem putL_low {p : Nat -> Bool} {z : Nat} : ∀ {k y : Nat}, z < y -> putL (z : Int) (setF p k y) = (z : Int) :: setF p k y := by
 intro k
 induction k with
 | zero => intro y _; rfl
 | succ k ih =>
  intro y h
  unfold setF
  split
  ·have h1 : ¬ (y : Int) < (z : Int) := by omega
   have h2 : ¬ (y : Int) = (z : Int) := by omega
   simp only [putL, h1, h2, if_false]
  ·exact ih (by omega)
theorem putL_set {p : Nat -> Bool} {z : Nat} : ∀ {k x : Nat}, x <= z -> z < x + k -> putL (z : Int) (setF p k x) = setF (fun y => p y || decide (y = z)) k x := by
 intro k
 induction k with
 | zero => intro x h1 h2; omega
 | succ k ih =>
  intro x h1 h2
  by_cases e : x = z
  ·subst e
   have hc : setF (fun y => p y || decide (y = x)) k (x + 1) = setF p k (x + 1) := setF_congr fun y h1 h2 => by
    have : ¬ y = x := by omega
    simp [this]
   by_cases hp : p x = true
   ·simp only [setF, hp, if_true, decide_true, Bool.or_self, hc, putL]
    have : ¬ (x : Int) < (x : Int) := by omega
    simp only [this, if_false, if_true]
   ·have hp' : p x = false := by simpa using hp
    simp only [setF, hp', Bool.false_eq_true, if_false, decide_true, Bool.or_true, if_true, hc]
    exact putL_low (by omega)
  ·have hd : decide (x = z) = false := by simp [e]
   have hlt : (x : Int) < (z : Int) := by omega
   by_cases hp : p x = true
   ·simp only [setF, hp, if_true, hd, Bool.or_false, putL, hlt, ih (x := x + 1) (by omega) (by omega)]
   ·have hp' : p x = false := by simpa using hp
    simp only [setF, hp', hd, Bool.or_false, Bool.false_eq_true, if_false, ih (x := x + 1) (by omega) (by omega)]
theorem putAll_set {n : Nat} : ∀ (bs : List Int) (p : Nat -> Bool), (∀ z ∈ bs, ∃ y : Nat, y < n /\ z = (y : Int)) -> putAll (setF p n 0) bs = setF (fun y => p y || bs.any (fun z => z == (y : Int))) n 0 := by
 intro bs
 induction bs with
 | nil => intro p _; exact setF_congr fun y _ _ => by simp
 | cons z bs ih =>
  intro p h
  obtain ⟨y0, h1, rfl⟩ := h z (by simp)
  show putAll (putL (y0 : Int) (setF p n 0)) bs = _
  rw [putL_set (Nat.zero_le _) (by omega), ih _ fun z hz => h z (by simp [hz])]
  refine setF_congr fun y _ _ => ?_
  simp only [List.any_cons, Bool.or_assoc]
  congr 2
  by_cases e : y = y0
  ·simp [e]
  ·have : ¬ (y0 : Int) = (y : Int) := by omega
   simp [e, this]
theorem any_setF {p : Nat -> Bool} {n y : Nat} (hy : y < n) : (setF p n 0).any (fun z => z == (y : Int)) = p y := by
 apply Bool.eq_iff_iff.2
 rw [List.any_eq_true]
 constructor
 ·rintro ⟨z, hz, h⟩
  obtain ⟨u, _, h2, h3, rfl⟩ := setF_mem.1 hz
  have : (u : Int) = (y : Int) := by simpa using h
  have : u = y := by omega
  subst this
  exact h3
 ·intro h
  exact ⟨(y : Int), setF_mem.2 ⟨y, Nat.zero_le _, by omega, h, rfl⟩, by simp⟩
theorem ballL_set {n : Nat} {es : List E} {x : Nat} (hx : x < n) : ballL n es (x : Int) = setF (fun y => nearI es (x : Int) (y : Int) || decide (y = x)) n 0 := by
 unfold ballL
 exact putL_set (Nat.zero_le _) (by omega)
theorem setF_nat {p : Nat -> Bool} {n : Nat} : ∀ z ∈ setF p n 0, ∃ y : Nat, y < n /\ z = (y : Int) := by
 intro z hz
 obtain ⟨y, _, h2, _, h4⟩ := setF_mem.1 hz
 exact ⟨y, by omega, h4⟩
theorem reach_fold {n : Nat} {es : List E} : ∀ (set : List Int) (q : Nat -> Bool), (∀ z ∈ set, ∃ y : Nat, y < n /\ z = (y : Int)) ->
  set.foldl (fun o x => putAll o (ballL n es x)) (setF q n 0) = setF (fun y => q y || set.any (fun z => nearI es z (y : Int) || z == (y : Int))) n 0 := by
 intro set
 induction set with
 | nil => intro q _; exact setF_congr fun y _ _ => by simp
 | cons z set ih =>
  intro q h
  obtain ⟨x, hx, rfl⟩ := h z (by simp)
  rw [List.foldl_cons, ballL_set hx, putAll_set _ _ setF_nat, ih _ fun z hz => h z (by simp [hz])]
  refine setF_congr fun y _ hy => ?_
  rw [any_setF (by omega)]
  simp only [List.any_cons, Bool.or_assoc]
  congr 2
  by_cases e : y = x
  ·simp [e]
  ·have : ¬ (x : Int) = (y : Int) := by omega
   simp [e, this]
theorem setF_empty {n x : Nat} : setF (fun _ => false) n x = [] := by
 induction n generalizing x with
 | zero => rfl
 | succ n ih => simp [setF, ih]
theorem reachL_set {n : Nat} {es : List E} (p : Nat -> Bool) : reachL n es (setF p n 0) = setF (stepP es n p) n 0 := by
 unfold reachL
 have := reach_fold (n := n) (es := es) (setF p n 0) (fun _ => false) setF_nat
 rw [setF_empty] at this
 rw [this]
 refine setF_congr fun y _ hy => ?_
 unfold stepP
 apply Bool.eq_iff_iff.2
 simp only [Bool.false_or, List.any_eq_true, Bool.or_eq_true, Bool.and_eq_true, List.mem_range, beq_iff_eq]
 constructor
 ·rintro ⟨z, hz, h⟩
  obtain ⟨u, _, h2, h3, rfl⟩ := setF_mem.1 hz
  rcases h with h | h
  ·exact .inr ⟨u, by omega, h3, h⟩
  ·have : u = y := by omega
   subst this
   exact .inl h3
 ·rintro (h | ⟨u, h1, h2, h3⟩)
  ·exact ⟨(y : Int), setF_mem.2 ⟨y, Nat.zero_le _, by omega, h, rfl⟩, .inr rfl⟩
  ·exact ⟨(u : Int), setF_mem.2 ⟨u, Nat.zero_le _, by omega, h2, rfl⟩, .inl h3⟩
theorem setF_one {n x : Nat} (hx : x < n) : setF (fun y => decide ((y : Int) = (x : Int))) n 0 = [(x : Int)] := by
 have h := putL_set (p := fun _ => false) (z := x) (k := n) (x := 0) (Nat.zero_le _) (by omega)
 rw [setF_empty] at h
 rw [show putL (x : Int) [] = [(x : Int)] from rfl] at h
 rw [h]
 exact setF_congr fun y _ _ => by
  apply Bool.eq_iff_iff.2
  simp only [Bool.false_or, decide_eq_true_eq]
  omega
def isM (n : Nat) (m : Nat) (p : Nat -> Bool) : Prop := m < 256 /\ ∀ y, m.testBit y = (decide (y < n) && p y)
theorem arN_bit {n : Nat} {ms : List Nat} (hm : okN n ms) (s : Nat) : ∀ k x o, o < 256 -> arN ms s k x o < 256 /\ ∀ y, (arN ms s k x o).testBit y = (o.testBit y || (List.range' x k).any fun u => s.testBit u && (ms.getD u 0).testBit y) := by
 intro k
 induction k with
 | zero => intro x o h; exact ⟨h, fun y => by simp [arN]⟩
 | succ k ih =>
  intro x o h
  have ho : (if s.testBit x = true then o ||| ms.getD x 0 else o) < 256 := by
   split
   ·exact Nat.or_lt_two_pow (n := 8) h (hm.2 x)
   ·exact h
  obtain ⟨k1, k2⟩ := ih (x + 1) _ ho
  refine ⟨k1, fun y => ?_⟩
  show (arN ms s k (x + 1) (if s.testBit x = true then o ||| ms.getD x 0 else o)).testBit y = _
  rw [k2 y, List.range'_succ, List.any_cons, <- Bool.or_assoc]
  congr 1
  by_cases hs : s.testBit x = true
  ·simp [hs]
  ·simp [hs]
theorem isE_near (es : List E) {n : Nat} (h : es.all (edgeB (n : Int)) = true) (x y : Nat) : es.any (fun e => isE e x y) = nearI es (x : Int) (y : Int) := by
 unfold nearI
 apply Bool.eq_iff_iff.2
 simp only [List.any_eq_true, isE, Bool.or_eq_true, Bool.and_eq_true, decide_eq_true_eq, beq_iff_eq]
 constructor
 ·rintro ⟨e, he, h1⟩
  obtain ⟨k1, k2, k3, k4⟩ := edgeB_nat (List.all_eq_true.1 h e he)
  exact ⟨e, he, by omega⟩
 ·rintro ⟨e, he, h1⟩
  obtain ⟨k1, k2, k3, k4⟩ := edgeB_nat (List.all_eq_true.1 h e he)
  exact ⟨e, he, by omega⟩
theorem near_lt {es : List E} {n : Nat} (h : es.all (edgeB (n : Int)) = true) {x y : Nat} (hn : nearI es (x : Int) (y : Int) = true) : y < n := by
 unfold nearI at hn
 simp only [List.any_eq_true, Bool.or_eq_true, Bool.and_eq_true, beq_iff_eq] at hn
 obtain ⟨e, he, h1⟩ := hn
 obtain ⟨k1, k2, k3, k4⟩ := edgeB_nat (List.all_eq_true.1 h e he)
 omega
theorem around_isM {n : Nat} (hn : n <= 8) {es : List E} (h : es.all (edgeB (n : Int)) = true) {m : Nat} {p : Nat -> Bool} (hm : isM n m p) : isM n (arN (netN n es) m n 0 m) (stepP es n p) := by
 obtain ⟨k1, k2⟩ := arN_bit (netN_ok hn h) m n 0 m hm.1
 refine ⟨k1, fun y => ?_⟩
 rw [k2 y, hm.2 y]
 unfold stepP
 rw [<- List.range_eq_range']
 apply Bool.eq_iff_iff.2
 simp only [Bool.or_eq_true, Bool.and_eq_true, List.any_eq_true, List.mem_range, decide_eq_true_eq]
 have hb : ∀ u, ((netN n es).getD u 0).testBit y = nearI es (u : Int) (y : Int) := fun u => by
  have := netN_bit hn h u y
  unfold hasN at this
  rw [this, isE_near es h]
 constructor
 ·rintro (⟨h1, h2⟩ | ⟨u, h1, h2, h3⟩)
  ·exact ⟨h1, .inl h2⟩
  ·rw [hb] at h3
   rw [hm.2 u] at h2
   simp only [Bool.and_eq_true, decide_eq_true_eq] at h2
   exact ⟨near_lt h h3, .inr ⟨u, h1, h2.2, h3⟩⟩
 ·rintro ⟨h1, h2 | ⟨u, h2, h3, h4⟩⟩
  ·exact .inl ⟨h1, h2⟩
  ·refine .inr ⟨u, h2, ?_, by rw [hb]; exact h4⟩
   rw [hm.2 u]
   simp [h2, h3]
theorem one_isM {n x : Nat} (hn : n <= 8) (hx : x < n) : isM n (2 ^ x) (fun y => decide ((y : Int) = (x : Int))) := by
 refine ⟨pow_small (by omega), fun y => ?_⟩
 rw [Nat.testBit_two_pow]
 apply Bool.eq_iff_iff.2
 simp only [Bool.and_eq_true, decide_eq_true_eq]
 omega
theorem setF_split {p : Nat -> Bool} : ∀ (a b x : Nat), setF p (a + b) x = setF p a x ++ setF p b (x + a) := by
 intro a
 induction a with
 | zero => intro b x; simp [setF]
 | succ a ih =>
  intro b x
  rw [show a + 1 + b = (a + b) + 1 by omega]
  simp only [setF, ih, show x + 1 + a = x + (a + 1) by omega]
  split <;> simp
theorem setF_mask {n m : Nat} {p : Nat -> Bool} (hn : n <= 8) (hm : isM n m p) : setF (fun y => m.testBit y) 8 0 = setF p n 0 := by
 rw [show 8 = n + (8 - n) by omega, setF_split]
 have h1 : setF (fun y => m.testBit y) n 0 = setF p n 0 := setF_congr fun y _ h => by
  rw [hm.2 y]
  have : y < n := by omega
  simp [this]
 have h2 : setF (fun y => m.testBit y) (8 - n) (0 + n) = [] := by
  rw [<- setF_empty (n := 8 - n) (x := 0 + n)]
  exact setF_congr fun y h _ => by
   rw [hm.2 y]
   have : ¬ y < n := by omega
   simp [this]
 rw [h1, h2, List.append_nil]
end Go.V.W
set_option linter.unusedVariables false
set_option linter.unusedSimpArgs false
namespace Go.V.W
open Go.Proofs
theorem l2Near_lim (d) (r) (h : G_l2Near d = some r) : ∃ N, F_q72q N d = some r := by
 obtain ⟨g, a, b, _⟩ := d
 unfold G_l2Near at h
 split at h
 ·rename_i hl
  have hl : g.2.1.length <= lim := okL_lim hl
  have h := Option.some.inj h
  subst h
  refine ⟨g.2.1.length + 1, ?_⟩
  unfold F_q72q
  have := loop_idx (L := q72q_l0 (g.2.1.length + 1)) (r := q72q_l0_r (g.2.1.length + 1)) (fun _ _ => rfl) (e := K_Piiq) g.2.1 (mk := fun i => (a, b, g, (i : Int), ())) (q := fun e => (e.1 == a && e.2.1 == b) || (e.1 == b && e.2.1 == a)) (o := fun _ => .inl (true, ())) (f := .inr (.inl ()))
   (by
    intro back i hi
    unfold q72q_l0_r
    simp only [lt_dec hi, if_true, idxIn_nat hi, Int.toNat_natCast, wrap_up hi (lim_max hl)]
    rcases Bool.eq_false_or_eq_true ((at_ K_Piiq g.2.1 i).1 == a) with c1 | c1 <;> rcases Bool.eq_false_or_eq_true ((at_ K_Piiq g.2.1 i).2.1 == b) with c2 | c2 <;> rcases Bool.eq_false_or_eq_true ((at_ K_Piiq g.2.1 i).1 == b) with c3 | c3 <;> rcases Bool.eq_false_or_eq_true ((at_ K_Piiq g.2.1 i).2.1 == a) with c4 | c4 <;>
     simp only [c1, c2, c3, c4, if_true, if_false, Bool.false_eq_true, Bool.and_true, Bool.and_false, Bool.or_true, Bool.or_false, Bool.true_or, Bool.or_self, Bool.and_self])
   (by intro back; unfold q72q_l0_r; simp only [lt_not, Bool.false_eq_true, if_false]) g.2.1.length 0 (by omega) (by omega)
  simp only [Int.natCast_zero, List.drop_zero] at this
  have hge := idxI_ge (fun e : E => (e.1 == a && e.2.1 == b) || (e.1 == b && e.2.1 == a)) g.2.1 0
  simp only [this, Option.bind_some, nearI, <- hge]
  cases idxN (fun e : E => (e.1 == a && e.2.1 == b) || (e.1 == b && e.2.1 == a)) g.2.1 0 with
  | none => rfl
  | some j => simp [idxI]
 ·cases h
theorem l2Neighbors_l0 (N : Nat) (g : Gr) (x : Int) (n : Nat) (hN : g.1 = (n : Int)) (hn : n <= 8) (ho : okL g.2.1 = true) : ∀ (k y f : Nat) (A : List Int), y + k = n -> k < f -> A.length + k <= 1000 ->
  q30q_l0 N f (x, g, A, (y : Int), ()) = some (.inl (A ++ setF (fun y => nearI g.2.1 x (y : Int)) k y, ())) := by
 intro k
 induction k with
 | zero =>
  intro y f A h1 h2 h3
  obtain ⟨f, rfl⟩ : ∃ m, f = m + 1 := ⟨f - 1, by omega⟩
  have e : y = n := by omega
  subst e
  simp [q30q_l0, q30q_l0_r, setF, hN]
 | succ k ih =>
  intro y f A h1 h2 h3
  obtain ⟨f, rfl⟩ : ∃ m, f = m + 1 := ⟨f - 1, by omega⟩
  have hy : y < n := by omega
  show q30q_l0_r N (q30q_l0 N f) (x, g, A, (y : Int), ()) = _
  unfold q30q_l0_r
  have hw : IntKind.wrap .i64 ((y : Int) + 1) = ((y + 1 : Nat) : Int) := by
   rw [wrap_in _ (by omega) (by omega)]
   rfl
  have hle : decide (A.length + List.length [(y : Int)] <= lim) = true := by
   unfold lim
   simp
   omega
  simp only [hN, lt_dec hy, if_true, G_l2Near, ho, Option.bind_some, hle, hw]
  unfold setF
  by_cases hh : nearI g.2.1 x (y : Int) = true
  ·rw [if_pos hh, if_pos hh, ih (y + 1) f _ (by omega) (by omega) (by simp; omega)]
   simp
  ·rw [if_neg hh, if_neg hh]
   exact ih (y + 1) f A (by omega) (by omega) (by omega)
theorem l2Neighbors_lim (d) (r) (h : G_l2Neighbors d = some r) : ∃ N, F_q30q N d = some r := by
 obtain ⟨g, x, _⟩ := d
 unfold G_l2Neighbors at h
 split at h
 ·rename_i hc
  simp only [Bool.and_eq_true, decide_eq_true_eq] at hc
  obtain ⟨⟨h1, h2⟩, h3⟩ := hc
  have h := Option.some.inj h
  subst h
  refine ⟨20, ?_⟩
  unfold F_q30q
  have := l2Neighbors_l0 20 g x g.1.toNat (by omega) (by omega) h1 g.1.toNat 0 20 [] (by omega) (by omega) (by simp; omega)
  simp only [Int.natCast_zero, List.nil_append] at this
  simp only [this, Option.bind_some]
 ·cases h
def lowN (x : Int) : List Int -> Nat
 | [] => 0
 | a :: l => if a < x then lowN x l + 1 else 0
theorem lowN_le (x : Int) : ∀ l, lowN x l <= l.length := by
 intro l
 induction l with
 | nil => simp [lowN]
 | cons a l ih => simp only [lowN]; split <;> simp; omega
theorem l1Put_l0 (N : Nat) (l : List Int) (x : Int) (hl : l.length <= 1000) : ∀ (k i f : Nat), i + k = l.length -> k < f -> spec_l1Put_l0 N f (l, x, (i : Int), ()) = some (.inl (l, x, ((i + lowN x (l.drop i) : Nat) : Int), ())) := by
 have hmx : l.length <= maxLen := by unfold maxLen; omega
 intro k
 induction k with
 | zero =>
  intro i f h1 h2
  obtain ⟨f, rfl⟩ : ∃ m, f = m + 1 := ⟨f - 1, by omega⟩
  have e : i = l.length := by omega
  subst e
  rw [List.drop_of_length_le (Nat.le_refl _)]
  simp [spec_l1Put_l0, spec_l1Put_l0_r, lowN]
 | succ k ih =>
  intro i f h1 h2
  obtain ⟨f, rfl⟩ : ∃ m, f = m + 1 := ⟨f - 1, by omega⟩
  have hi : i < l.length := by omega
  show spec_l1Put_l0_r N (spec_l1Put_l0 N f) (l, x, (i : Int), ()) = _
  unfold spec_l1Put_l0_r
  have e : at_ I l i = l[i] := at_get (e := I) hi
  rw [List.drop_eq_getElem_cons hi]
  simp only [lt_dec hi, if_true, idxIn_nat hi, Int.toNat_natCast, wrap_up hi hmx, e, lowN]
  by_cases c : l[i] < x
  ·simp only [c, decide_true, if_true]
   rw [ih (i + 1) f (by omega) (by omega)]
   congr 5
   omega
  ·simp only [c, decide_false, Bool.false_eq_true, if_false, Nat.add_zero]
theorem putL_low' (x : Int) : ∀ l : List Int, putL x l = if h : lowN x l < l.length then (if l[lowN x l] = x then l else l.take (lowN x l) ++ [x] ++ l.drop (lowN x l)) else l ++ [x] := by
 intro l
 induction l with
 | nil => rfl
 | cons a l ih =>
  simp only [putL, lowN]
  by_cases c : a < x
  ·simp only [c, if_true, ih, List.length_cons, Nat.add_lt_add_iff_right, List.getElem_cons_succ, List.take_succ_cons, List.drop_succ_cons]
   split
   ·split <;> simp
   ·simp
  ·by_cases c2 : a = x
   ·simp [c, c2]
   ·simp [c, c2]
theorem l1Put_lim (d) (r) (h : G_l1Put d = some r) : ∃ N, F_spec_l1Put N d = some r := by
 obtain ⟨l, x, _⟩ := d
 unfold G_l1Put at h
 split at h
 ·rename_i hl
  have hl : l.length <= 1000 := of_decide_eq_true hl
  have h := Option.some.inj h
  subst h
  refine ⟨l.length + 1, ?_⟩
  unfold F_spec_l1Put
  have := l1Put_l0 (l.length + 1) l x hl l.length 0 (l.length + 1) (by omega) (by omega)
  simp only [Int.natCast_zero, List.drop_zero, Nat.zero_add] at this
  have hk := lowN_le x l
  generalize hkk : lowN x l = k at this hk
  simp only [this, Option.bind_some, putL_low', hkk]
  have hL : (lim : Int) = 1099511627776 := rfl
  have c0 : (decide (0 <= (0 : Int)) && decide ((0 : Int) <= (k : Int)) && decide ((k : Int) <= (l.length : Int))) = true := by simp; omega
  have c1 : decide (List.length ([] : List Int) + List.length (sub_ l (0 : Int) (k : Int)) <= lim) = true := by unfold lim sub_; simp; omega
  have c2 : decide (List.length (([] : List Int) ++ sub_ l (0 : Int) (k : Int)) + List.length [x] <= lim) = true := by unfold lim sub_; simp; omega
  have c3 : (decide (0 <= (k : Int)) && decide ((k : Int) <= (l.length : Int)) && decide ((l.length : Int) <= (l.length : Int))) = true := by simp; omega
  have c4 : decide (List.length (([] : List Int) ++ sub_ l (0 : Int) (k : Int) ++ [x]) + List.length (sub_ l (k : Int) (l.length : Int)) <= lim) = true := by unfold lim sub_; simp; omega
  have e1 : sub_ l (0 : Int) (k : Int) = l.take k := by simp [sub_]
  have e2 : sub_ l (k : Int) (l.length : Int) = l.drop k := by simp [sub_]
  by_cases hlt : k < l.length
  ·have e : at_ I l k = l[k] := at_get (e := I) hlt
   simp only [lt_dec hlt, if_true, idxIn_nat hlt, Int.toNat_natCast, e, hlt, dite_true, c0, c1, c2, c3, c4]
   by_cases c : l[k] = x
   ·simp [c]
   ·have c' : (l[k] == x) = false := by simpa using c
    simp only [c', c, Bool.false_eq_true, if_false, e1, e2, List.nil_append]
  ·have hlt' : decide ((k : Int) < (l.length : Int)) = false := by simp; omega
   have ek : k = l.length := by omega
   simp only [hlt', Bool.false_eq_true, if_false, c0, c1, c2, c3, c4, if_true, hlt, dite_false, e1, e2, List.nil_append]
   subst ek
   simp
   unfold lim
   omega
 ·cases h
theorem l1PutW_l0 (N : Nat) (l : List Int) (x : Int) (hl : l.length <= 1000) : ∀ (k i f : Nat), i + k = l.length -> k < f -> q60q_l0 N f (l, x, (i : Int), ()) = some (.inl (l, x, ((i + lowN x (l.drop i) : Nat) : Int), ())) := by
 have hmx : l.length <= maxLen := by unfold maxLen; omega
 intro k
 induction k with
 | zero =>
  intro i f h1 h2
  obtain ⟨f, rfl⟩ : ∃ m, f = m + 1 := ⟨f - 1, by omega⟩
  have e : i = l.length := by omega
  subst e
  rw [List.drop_of_length_le (Nat.le_refl _)]
  simp [q60q_l0, q60q_l0_r, lowN]
 | succ k ih =>
  intro i f h1 h2
  obtain ⟨f, rfl⟩ : ∃ m, f = m + 1 := ⟨f - 1, by omega⟩
  have hi : i < l.length := by omega
  show q60q_l0_r N (q60q_l0 N f) (l, x, (i : Int), ()) = _
  unfold q60q_l0_r
  have e : at_ I l i = l[i] := at_get (e := I) hi
  rw [List.drop_eq_getElem_cons hi]
  simp only [lt_dec hi, if_true, idxIn_nat hi, Int.toNat_natCast, wrap_up hi hmx, e, lowN]
  by_cases c : l[i] < x
  ·simp only [c, decide_true, if_true]
   rw [ih (i + 1) f (by omega) (by omega)]
   congr 5
   omega
  ·simp only [c, decide_false, Bool.false_eq_true, if_false, Nat.add_zero]
theorem l1PutW_lim (d) (r) (h : G_l1PutW d = some r) : ∃ N, F_q60q N d = some r := by
 obtain ⟨l, x, _⟩ := d
 unfold G_l1PutW at h
 split at h
 ·rename_i hl
  have hl : l.length <= 1000 := of_decide_eq_true hl
  have h := Option.some.inj h
  subst h
  refine ⟨l.length + 1, ?_⟩
  unfold F_q60q
  have := l1PutW_l0 (l.length + 1) l x hl l.length 0 (l.length + 1) (by omega) (by omega)
  simp only [Int.natCast_zero, List.drop_zero, Nat.zero_add] at this
  have hk := lowN_le x l
  generalize hkk : lowN x l = k at this hk
  simp only [this, Option.bind_some, putL_low', hkk]
  have hL : (lim : Int) = 1099511627776 := rfl
  have c0 : (decide (0 <= (0 : Int)) && decide ((0 : Int) <= (k : Int)) && decide ((k : Int) <= (l.length : Int))) = true := by simp; omega
  have c1 : decide (List.length ([] : List Int) + List.length (sub_ l (0 : Int) (k : Int)) <= lim) = true := by unfold lim sub_; simp; omega
  have c2 : decide (List.length (([] : List Int) ++ sub_ l (0 : Int) (k : Int)) + List.length [x] <= lim) = true := by unfold lim sub_; simp; omega
  have c3 : (decide (0 <= (k : Int)) && decide ((k : Int) <= (l.length : Int)) && decide ((l.length : Int) <= (l.length : Int))) = true := by simp; omega
  have c4 : decide (List.length (([] : List Int) ++ sub_ l (0 : Int) (k : Int) ++ [x]) + List.length (sub_ l (k : Int) (l.length : Int)) <= lim) = true := by unfold lim sub_; simp; omega
  have e1 : sub_ l (0 : Int) (k : Int) = l.take k := by simp [sub_]
  have e2 : sub_ l (k : Int) (l.length : Int) = l.drop k := by simp [sub_]
  by_cases hlt : k < l.length
  ·have e : at_ I l k = l[k] := at_get (e := I) hlt
   simp only [lt_dec hlt, if_true, idxIn_nat hlt, Int.toNat_natCast, e, hlt, dite_true, c0, c1, c2, c3, c4]
   by_cases c : l[k] = x
   ·simp [c]
   ·have c' : (l[k] == x) = false := by simpa using c
    simp only [c', c, Bool.false_eq_true, if_false, e1, e2, List.nil_append]
  ·have hlt' : decide ((k : Int) < (l.length : Int)) = false := by simp; omega
   have ek : k = l.length := by omega
   simp only [hlt', Bool.false_eq_true, if_false, c0, c1, c2, c3, c4, if_true, hlt, dite_false, e1, e2, List.nil_append]
   subst ek
   simp
   unfold lim
   omega
 ·cases h
theorem putL_len (x : Int) : ∀ l : List Int, (putL x l).length <= l.length + 1 := by
 intro l
 induction l with
 | nil => simp [putL]
 | cons a l ih =>
  simp only [putL]
  split
  ·simp; omega
  ·split <;> simp
theorem reached_l2 (N : Nat) (s : List Int) (g : Gr) (s9 : Int) (bs : List Int) (hb : bs.length <= 100) : ∀ (k i f : Nat) (o : List Int), i + k = bs.length -> k < f -> o.length + k <= 900 ->
  q39q_l2 N f (s, g, o, s9, bs, (i : Int), ()) = some (.inl (s, g, putAll o (bs.drop i), s9, ())) := by
 have hmx : bs.length <= maxLen := by unfold maxLen; omega
 intro k
 induction k with
 | zero =>
  intro i f o h1 h2 h3
  obtain ⟨f, rfl⟩ : ∃ m, f = m + 1 := ⟨f - 1, by omega⟩
  have e : i = bs.length := by omega
  subst e
  rw [List.drop_of_length_le (Nat.le_refl _)]
  simp [q39q_l2, q39q_l2_r, putAll]
 | succ k ih =>
  intro i f o h1 h2 h3
  obtain ⟨f, rfl⟩ : ∃ m, f = m + 1 := ⟨f - 1, by omega⟩
  have hi : i < bs.length := by omega
  show q39q_l2_r N (q39q_l2 N f) (s, g, o, s9, bs, (i : Int), ()) = _
  unfold q39q_l2_r
  have e : at_ I bs i = bs[i] := at_get (e := I) hi
  have ho : okS1 o = true := decide_eq_true (by omega)
  have hp := putL_len bs[i] o
  simp only [lt_dec hi, if_true, idxIn_nat hi, Int.toNat_natCast, wrap_up hi hmx, e, G_l1Put, ho, Option.bind_some]
  rw [ih (i + 1) f _ (by omega) (by omega) (by omega), List.drop_eq_getElem_cons hi]
  rfl
theorem ball_len {n : Nat} {es : List E} {x : Int} : (ballL n es x).length <= n + 1 := by
 unfold ballL
 have h1 := putL_len x (setF (fun y => nearI es x (y : Int)) n 0)
 have h2 := setF_len (p := fun y => nearI es x (y : Int)) (k := n) (x := 0)
 omega
theorem putAll_len : ∀ (bs o : List Int), (putAll o bs).length <= o.length + bs.length := by
 intro bs
 induction bs with
 | nil => intro o; simp [putAll]
 | cons z bs ih =>
  intro o
  have h1 := ih (putL z o)
  have h2 := putL_len z o
  show (putAll (putL z o) bs).length <= _
  simp only [List.length_cons]
  omega
theorem reached_l0 (N : Nat) (hN : 20 <= N) (g : Gr) (n : Nat) (hg : g.1 = (n : Int)) (hn : n <= 8) (ho : okL g.2.1 = true) (set : List Int) (hs : set.length <= 8) : ∀ (k i f : Nat) (o : List Int), i + k = set.length -> k < f -> o.length + 10 * k <= 800 ->
  q39q_l0 N f (set, g, o, (i : Int), ()) = some (.inl ((set.drop i).foldl (fun o x => putAll o (ballL n g.2.1 x)) o, ())) := by
 have hmx : set.length <= maxLen := by unfold maxLen; omega
 intro k
 induction k with
 | zero =>
  intro i f o h1 h2 h3
  obtain ⟨f, rfl⟩ : ∃ m, f = m + 1 := ⟨f - 1, by omega⟩
  have e : i = set.length := by omega
  subst e
  rw [List.drop_of_length_le (Nat.le_refl _)]
  simp [q39q_l0, q39q_l0_r]
 | succ k ih =>
  intro i f o h1 h2 h3
  obtain ⟨f, rfl⟩ : ∃ m, f = m + 1 := ⟨f - 1, by omega⟩
  have hi : i < set.length := by omega
  show q39q_l0_r N (q39q_l0 N f) (set, g, o, (i : Int), ()) = _
  unfold q39q_l0_r
  have e : at_ I set i = set[i] := at_get (e := I) hi
  have hball : F_q78q 0 (g, set[i], ()) = some (ballL n g.2.1 set[i], ()) := by
   first
    | unfold F_q78q G_l2Neighbors G_l1PutW
    | unfold F_q78q G_l2Neighbors G_l1Put
   have a1 : (okL g.2.1 && decide (0 <= g.1) && decide (g.1 <= 8)) = true := by
    rw [ho, hg]
    simp
    omega
   have a2 : okS1 (setF (fun y => nearI g.2.1 set[i] (y : Int)) n 0) = true := by
    have := setF_len (p := fun y => nearI g.2.1 set[i] (y : Int)) (k := n) (x := 0)
    exact decide_eq_true (by omega)
   simp only [a1, if_true, hg, Int.toNat_natCast, Option.bind_some, a2]
   have a3 : (okL g.2.1 && decide (0 <= (n : Int)) && decide ((n : Int) <= 8)) = true := by rw [<- hg]; exact a1
   simp only [a3, if_true, Option.bind_some, a2, ballL]
  have hbl := ball_len (n := n) (es := g.2.1) (x := set[i])
  have hin := reached_l2 N set g (i : Int) (ballL n g.2.1 set[i]) (by omega) (ballL n g.2.1 set[i]).length 0 N o (by omega) (by omega) (by omega)
  simp only [Int.natCast_zero, List.drop_zero] at hin
  simp only [lt_dec hi, if_true, idxIn_nat hi, Int.toNat_natCast, wrap_up hi hmx, e, hball, Option.bind_some, hin]
  have hpl := putAll_len (ballL n g.2.1 set[i]) o
  rw [ih (i + 1) f _ (by omega) (by omega) (by omega), List.drop_eq_getElem_cons hi, List.foldl_cons]
theorem l11Reached_lim (d) (r) (h : G_l11Reached d = some r) : ∃ N, F_q39q N d = some r := by
 obtain ⟨t, set, c, _⟩ := d
 unfold G_l11Reached at h
 split at h
 ·rename_i hc
  simp only [Bool.and_eq_true, decide_eq_true_eq] at hc
  obtain ⟨⟨⟨⟨h1, h2⟩, h3⟩, h4⟩, h5⟩ := hc
  obtain ⟨g1, g2, g3, g4⟩ := timeB_parts h1
  obtain ⟨o1, o2, o3⟩ := okT_parts h2
  have hn := graphB_n (n := t.1.1) (l := t.1.2.1) (u := t.1.2.2) g1
  unfold okSet at h5
  simp only [Bool.and_eq_true, decide_eq_true_eq] at h5
  have h := Option.some.inj h
  subst h
  refine ⟨30, ?_⟩
  unfold F_q39q
  have hO : G_l11Open (t, c, ()) = some ((t.1.1, openE t (c.tmod t.2.1), ()), ()) := by
   unfold G_l11Open
   have e1 : decide (0 <= c) = true := by simp; omega
   have e2 : decide (c <= 5000) = true := by simp; omega
   rw [if_pos (by simp only [h1, h2, e1, e2, Bool.and_self])]
  have hlen := selE_len t.1.2.1 t.2.2.1 (c.tmod t.2.1)
  have ho : okL (openE t (c.tmod t.2.1)) = true := by
   have := okL_lim o1
   exact decide_eq_true (Nat.le_trans hlen this)
  have := reached_l0 30 (by omega) (t.1.1, openE t (c.tmod t.2.1), ()) t.1.1.toNat (by show t.1.1 = _; omega) (by omega) ho set h5.1 set.length 0 30 [] (by omega) (by omega) (by simp; omega)
  simp only [Int.natCast_zero, List.drop_zero] at this
  simp only [hO, Option.bind_some, this]
  rfl
 ·cases h
theorem shr_bit {m y : Nat} (hm : m < 256) (h : y < 8) : (bits .and .i64 (shr .i64 (m : Int) (y : Int)) 1 == (1 : Int)) = m.testBit y := has_bit hm h
theorem around_l0 (N : Nat) (ms : List Nat) (n : Nat) (hm : okN n ms) (hn : n <= 8) (s : Nat) (hs : s < 256) : ∀ (k x f o : Nat), o < 256 -> x + k = n -> k < f ->
  q43q_l0 N f ((s : Int), (o : Int), toI ms, (n : Int), (x : Int), ()) = some (.inl (((arN ms s k x o : Nat) : Int), ())) := by
 intro k
 induction k with
 | zero =>
  intro x f o h0 h1 h2
  obtain ⟨f, rfl⟩ : ∃ m, f = m + 1 := ⟨f - 1, by omega⟩
  have e : x = n := by omega
  subst e
  simp [q43q_l0, q43q_l0_r, arN]
 | succ k ih =>
  intro x f o h0 h1 h2
  obtain ⟨f, rfl⟩ : ∃ m, f = m + 1 := ⟨f - 1, by omega⟩
  have hx : x < n := by omega
  show q43q_l0_r N (q43q_l0 N f) ((s : Int), (o : Int), toI ms, (n : Int), (x : Int), ()) = _
  unfold q43q_l0_r
  have hw : IntKind.wrap .i64 ((x : Int) + 1) = ((x + 1 : Nat) : Int) := by
   rw [wrap_in _ (by omega) (by omega)]
   rfl
  have i1 : idxIn (x : Int) ms.length = true := idxIn_nat (by rw [hm.1]; exact hx)
  simp only [lt_dec hx, if_true, toI_len, i1, nonneg_dec, shr_bit hs (show x < 8 by omega), Int.toNat_natCast, at_toI, bits_or h0 (hm.2 x), hw, arN]
  by_cases hb : s.testBit x = true
  ·rw [if_pos hb, if_pos hb]
   exact ih (x + 1) f _ (Nat.or_lt_two_pow (n := 8) h0 (hm.2 x)) (by omega) (by omega)
  ·rw [if_neg hb, if_neg hb]
   exact ih (x + 1) f o h0 (by omega) (by omega)
theorem around_lim (d) (r) (h : G_around d = some r) : ∃ N, F_q43q N d = some r := by
 obtain ⟨⟨l, u⟩, s, _⟩ := d
 unfold G_around at h
 split at h
 ·rename_i hc
  simp only [Bool.and_eq_true, decide_eq_true_eq] at hc
  obtain ⟨⟨h1, h2⟩, h3⟩ := hc
  obtain ⟨e, hm, h8⟩ := smallN_nat h1
  have h := Option.some.inj h
  subst h
  refine ⟨20, ?_⟩
  unfold F_q43q
  have hs : s = (s.toNat : Int) := by omega
  have := around_l0 20 (fromI l) l.length hm h8 s.toNat (by omega) l.length 0 20 s.toNat (by omega) (by omega) (by omega)
  rw [<- e, <- hs] at this
  simp only [Int.natCast_zero] at this
  simp only [this, Option.bind_some]
 ·cases h
theorem setOf_l0 (N : Nat) (s : Nat) (hs : s < 256) : ∀ (k x f : Nat) (A : List Int), x + k = 8 -> k < f -> A.length + k <= 100 ->
  impl_setOf_l0 N f ((s : Int), A, (x : Int), ()) = some (.inl (A ++ setF (fun y => s.testBit y) k x, ())) := by
 intro k
 induction k with
 | zero =>
  intro x f A h1 h2 h3
  obtain ⟨f, rfl⟩ : ∃ m, f = m + 1 := ⟨f - 1, by omega⟩
  have e : x = 8 := by omega
  subst e
  have : shr .i64 (s : Int) ((8 : Nat) : Int) = 0 := by
   unfold shr
   have e : min ((8 : Nat) : Int).toNat IntKind.i64.bits = 8 := by decide
   rw [e, Int.fdiv_eq_ediv_of_nonneg _ (by decide)]
   omega
  show impl_setOf_l0_r N (impl_setOf_l0 N f) ((s : Int), A, ((8 : Nat) : Int), ()) = _
  unfold impl_setOf_l0_r
  have h8 : decide (0 <= ((8 : Nat) : Int)) = true := by decide
  have hz : ((0 : Int) != 0) = false := by decide
  simp only [h8, if_true, this, hz, Bool.false_eq_true, if_false, setF, List.append_nil]
 | succ k ih =>
  intro x f A h1 h2 h3
  obtain ⟨f, rfl⟩ : ∃ m, f = m + 1 := ⟨f - 1, by omega⟩
  have hx : x < 8 := by omega
  show impl_setOf_l0_r N (impl_setOf_l0 N f) ((s : Int), A, (x : Int), ()) = _
  unfold impl_setOf_l0_r
  have hw : IntKind.wrap .i64 ((x : Int) + 1) = ((x + 1 : Nat) : Int) := by
   rw [wrap_in _ (by omega) (by omega)]
   rfl
  have hle : decide (A.length + List.length [(x : Int)] <= lim) = true := by
   unfold lim
   simp
   omega
  simp only [nonneg_dec, if_true, shr_bit hs hx, hle, hw]
  by_cases hz : s >>> x = 0
  ·have e1 : (shr .i64 (s : Int) (x : Int) != (0 : Int)) = false := by rw [shr_nat hx, hz]; decide
   simp only [e1, Bool.false_eq_true, if_false]
   have e2 : setF (fun y => s.testBit y) (k + 1) x = [] := by
    rw [<- setF_empty (n := k + 1) (x := x)]
    refine setF_congr fun y h _ => ?_
    have : s < 2 ^ x := by
     rw [Nat.shiftRight_eq_div_pow] at hz
     exact (Nat.div_eq_zero_iff_lt (Nat.two_pow_pos x)).1 hz
    exact Nat.testBit_lt_two_pow (Nat.lt_of_lt_of_le this (Nat.pow_le_pow_right (by omega) h))
   rw [e2, List.append_nil]
  ·have e1 : (shr .i64 (s : Int) (x : Int) != (0 : Int)) = true := by
    rw [shr_nat hx]
    have : ((s >>> x : Nat) : Int) ≠ 0 := fun e => hz (by exact_mod_cast e)
    simpa using this
   simp only [e1, if_true]
   unfold setF
   by_cases hb : s.testBit x = true
   ·rw [if_pos hb, if_pos hb, ih (x + 1) f _ (by omega) (by omega) (by simp; omega)]
    simp
   ·rw [if_neg hb, if_neg hb]
    exact ih (x + 1) f A (by omega) (by omega) (by omega)
theorem setOf_lim (d) (r) (h : G_setOf d = some r) : ∃ N, F_impl_setOf N d = some r := by
 obtain ⟨s, _⟩ := d
 unfold G_setOf at h
 split at h
 ·rename_i hc
  simp only [Bool.and_eq_true, decide_eq_true_eq] at hc
  have h := Option.some.inj h
  subst h
  refine ⟨20, ?_⟩
  unfold F_impl_setOf
  have := setOf_l0 20 s.toNat (by omega) 8 0 20 [] (by omega) (by omega) (by simp)
  rw [show ((s.toNat : Nat) : Int) = s by omega] at this
  simp only [Int.natCast_zero, List.nil_append] at this
  simp only [this, Option.bind_some]
 ·cases h
end Go.V.W
set_option linter.unusedVariables false
set_option linter.unusedSimpArgs false
namespace Go.V.W
open Go.Proofs
theorem small_toI {n : Nat} {ms : List Nat} (hok : okN n ms) (hn : n <= 8) : smallN (toI ms) = true := by
 unfold smallN
 simp only [toI_len, hok.1, Bool.and_eq_true, decide_eq_true_eq, List.all_eq_true]
 refine ⟨hn, fun m hm => ?_⟩
 unfold toI at hm
 obtain ⟨x, hx, rfl⟩ := List.mem_map.1 hm
 obtain ⟨i, hi, rfl⟩ := List.getElem_of_mem hx
 have := hok.2 i
 simp only [List.getD_eq_getElem?_getD, List.getElem?_eq_getElem hi, Option.getD_some] at this
 omega
theorem time_facts {t : Tt} (ht : timeB t = true) {c : Int} (hc : 0 <= c) :
  t.1.1 = (t.1.1.toNat : Int) /\ 0 < t.1.1.toNat /\ t.1.1.toNat <= 8 /\ (t.2.1 != 0) = true /\ idxIn (c.tmod t.2.1) (netsL t).length = true /\
  at_ K_PSiq (netsL t) (c.tmod t.2.1).toNat = (toI (netN t.1.1.toNat (openE t (c.tmod t.2.1))), ()) /\ (openE t (c.tmod t.2.1)).all (edgeB (t.1.1.toNat : Int)) = true := by
 obtain ⟨g1, g2, g3, g4⟩ := timeB_parts ht
 have g3 := inB_iff.1 g3
 have hn := graphB_n (n := t.1.1) (l := t.1.2.1) (u := t.1.2.2) g1
 obtain ⟨hE, hR⟩ := graphB_edges (n := t.1.1) (l := t.1.2.1) (u := t.1.2.2) g1
 have hN : t.1.1 = (t.1.1.toNat : Int) := by omega
 rw [hN] at hE
 obtain ⟨m1, m2⟩ := tmod_lt (c := c) (p := t.2.1) (by omega) (by omega)
 obtain ⟨o1, o2⟩ := openE_ok hE hR (c.tmod t.2.1)
 have hp : (t.2.1 != 0) = true := by simp; omega
 have hlen : (netsL t).length = t.2.1.toNat := by simp [netsL]
 refine ⟨hN, by omega, by omega, hp, ?_, ?_, o1⟩
 ·rw [hlen]
  unfold idxIn
  simp
  omega
 ·have hlt : (c.tmod t.2.1).toNat < (netsL t).length := by rw [hlen]; omega
  rw [at_get (e := K_PSiq) hlt]
  simp only [netsL, List.get_eq_getElem, List.getElem_map, List.getElem_range]
  rw [show (((c.tmod t.2.1).toNat : Nat) : Int) = c.tmod t.2.1 by omega]
theorem specRB_l0 (N : Nat) (t : Tt) (c x : Int) (s : Nat) (ht : timeB t = true) (ho : okT t = true) (h0 : 0 <= c) (h1 : c <= 1000) (hs : s <= 1000) : ∀ (k i f : Nat), i + k = s -> k < f ->
  q50q_l0 N f (c, (s : Int), t, setF (iterP t c x i) t.1.1.toNat 0, (i : Int), ()) = some (.inl (setF (iterP t c x s) t.1.1.toNat 0, ())) := by
 intro k
 induction k with
 | zero =>
  intro i f e1 e2
  obtain ⟨f, rfl⟩ : ∃ m, f = m + 1 := ⟨f - 1, by omega⟩
  have e : i = s := by omega
  subst e
  simp [q50q_l0, q50q_l0_r]
 | succ k ih =>
  intro i f e1 e2
  obtain ⟨f, rfl⟩ : ∃ m, f = m + 1 := ⟨f - 1, by omega⟩
  have hi : i < s := by omega
  obtain ⟨n1, n2, n3, n4, n5, n6, n7⟩ := time_facts ht h0
  show q50q_l0_r N (q50q_l0 N f) (c, (s : Int), t, setF (iterP t c x i) t.1.1.toNat 0, (i : Int), ()) = _
  unfold q50q_l0_r
  have hw : IntKind.wrap .i64 ((i : Int) + 1) = ((i + 1 : Nat) : Int) := by
   rw [wrap_in _ (by omega) (by omega)]
   rfl
  have hw2 : IntKind.wrap .i64 (c + (i : Int)) = c + (i : Int) := wrap_in _ (by omega) (by omega)
  have hset : okSet t.1.1 (setF (iterP t c x i) t.1.1.toNat 0) = true := by
   unfold okSet
   have := setF_len (p := iterP t c x i) (k := t.1.1.toNat) (x := 0)
   simp only [Bool.and_eq_true, decide_eq_true_eq, List.all_eq_true]
   refine ⟨by omega, fun z hz => ?_⟩
   obtain ⟨y, hy, rfl⟩ := setF_nat z hz
   exact inB_iff.2 (by omega)
  have a1 : decide (0 <= c + (i : Int)) = true := by simp; omega
  have a2 : decide (c + (i : Int) <= 5000) = true := by simp; omega
  simp only [lt_dec hi, if_true, hw, hw2, G_l11Reached, ht, ho, a1, a2, hset, Bool.and_self, Option.bind_some, reachL_set]
  exact ih (i + 1) f (by omega) (by omega)
theorem node_spec (g : Gr) (x : Int) (u : Unit) (hg : 0 < g.1) (h8 : g.1 <= 8) : g_q77q (g, x, u) = (inB 0 (g.1 - 1) x, ()) := by
 unfold g_q77q
 have hw : IntKind.wrap .i64 (g.1 - 1) = g.1 - 1 := wrap_in _ (by omega) (by omega)
 simp only [hw, l1In_eq]
theorem specRB_lim (d) (r) (h : G_reachedBy d = some r) : ∃ N, F_q50q N d = some r := by
 obtain ⟨t, x, c, s, _⟩ := d
 unfold G_reachedBy at h
 split at h
 ·rename_i ho
  have ho : okT t = true := ho
  have h := Option.some.inj h
  subst h
  refine ⟨2000, ?_⟩
  unfold F_q50q G_l11Good rbB
  simp only [ho, if_true, Option.bind_some, clock_spec]
  cases ht : timeB t with
  | false => rfl
  | true =>
   obtain ⟨n1, n2, n3, n4, n5, n6, n7⟩ := time_facts ht (Int.le_refl 0)
   simp only [node_spec t.1 x () (by omega) (by omega)]
   cases hx : inB 0 (t.1.1 - 1) x with
   | false => rfl
   | true =>
    cases hc : inB 0 1000 c with
    | false => rfl
    | true =>
     cases hs : inB 0 1000 s with
     | false => rfl
     | true =>
      have hc' := inB_iff.1 hc
      have hs' := inB_iff.1 hs
      have hx' := inB_iff.1 hx
      have hx1 : x = (x.toNat : Int) := by omega
      have hs1 : s = (s.toNat : Int) := by omega
      have := specRB_l0 2000 t c x s.toNat ht ho hc'.1 hc'.2 (by omega) s.toNat 0 2000 (by omega) (by omega)
      have e0 : setF (iterP t c x 0) t.1.1.toNat 0 = [x] := by
       have := setF_one (n := t.1.1.toNat) (x := x.toNat) (by omega)
       rw [<- hx1] at this
       exact this
      rw [e0, <- hs1] at this
      simp only [Int.natCast_zero] at this
      simp only [Bool.not_true, Bool.false_eq_true, if_false, Bool.and_self, if_true, this, Option.bind_some]
 ·cases h
theorem implRB_l0 (N : Nat) (t : Tt) (c x : Int) (s : Nat) (ht : timeB t = true) (h0 : 0 <= c) (h1 : c <= 1000) (hs : s <= 1000) : ∀ (k i f m : Nat), i + k = s -> k < f -> isM t.1.1.toNat m (iterP t c x i) ->
  ∃ m', q44q_l0 N f (c, t, netsL t, (m : Int), (s : Int), (i : Int), ()) = some (.inl ((m' : Nat), ())) /\ isM t.1.1.toNat m' (iterP t c x s) := by
 intro k
 induction k with
 | zero =>
  intro i f m e1 e2 hm
  obtain ⟨f, rfl⟩ : ∃ m, f = m + 1 := ⟨f - 1, by omega⟩
  have e : i = s := by omega
  subst e
  exact ⟨m, by simp [q44q_l0, q44q_l0_r], hm⟩
 | succ k ih =>
  intro i f m e1 e2 hm
  obtain ⟨f, rfl⟩ : ∃ m, f = m + 1 := ⟨f - 1, by omega⟩
  have hi : i < s := by omega
  obtain ⟨n1, n2, n3, n4, n5, n6, n7⟩ := time_facts (c := c + (i : Int)) ht (by omega)
  have hw : IntKind.wrap .i64 ((i : Int) + 1) = ((i + 1 : Nat) : Int) := by
   rw [wrap_in _ (by omega) (by omega)]
   rfl
  have hw2 : IntKind.wrap .i64 (c + (i : Int)) = c + (i : Int) := wrap_in _ (by omega) (by omega)
  have hok := netN_ok (n := t.1.1.toNat) (by omega) n7
  have hsm := small_toI hok n3
  have b1 : decide (0 <= (m : Int)) = true := nonneg_dec m
  have b2 : decide ((m : Int) < 256) = true := by
   have := hm.1
   simp
   omega
  obtain ⟨m', k1, k2⟩ := ih (i + 1) f _ (by omega) (by omega) (around_isM n3 n7 hm)
  refine ⟨m', ?_, k2⟩
  rw [<- k1]
  show q44q_l0_r N (q44q_l0 N f) (c, t, netsL t, (m : Int), (s : Int), (i : Int), ()) = _
  unfold q44q_l0_r
  simp only [lt_dec hi, if_true, n4, hw2, n5, n6, G_around, hsm, b1, b2, Bool.and_self, Option.bind_some, hw, toI_from, toI_len, hok.1, Int.toNat_natCast]
theorem timedB (t : Tt) (c x : Int) (w : Unit) (ho : okT t = true) : F_q65q 0 (t, c, [x], w) = some (timeB t && inB 0 1000 c && inB 0 (t.1.1 - 1) x, ()) := by
 unfold F_q65q
 simp only [implT t _ ho, Option.bind_some, clock_impl]
 cases ht : timeB t with
 | false => rfl
 | true =>
  obtain ⟨n1, n2, n3, n4, n5, n6, n7⟩ := time_facts ht (Int.le_refl 0)
  cases hc : inB 0 1000 c with
  | false => rfl
  | true =>
   have hw : IntKind.wrap .i64 (t.1.1 - 1) = t.1.1 - 1 := wrap_in _ (by omega) (by omega)
   have : okL [x] = true := okL_of (by simp)
   simp only [hw, G_allWithin, this, if_true, Option.bind_some, List.all_cons, List.all_nil, Bool.and_true, Bool.true_and]
theorem implRB_lim (d) (r) (h : G_reachedBy d = some r) : ∃ N, F_q44q N d = some r := by
 obtain ⟨t, x, c, s, _⟩ := d
 unfold G_reachedBy at h
 split at h
 ·rename_i ho
  have ho : okT t = true := ho
  have h := Option.some.inj h
  subst h
  refine ⟨2000, ?_⟩
  unfold F_q44q rbB
  simp only [timedB t c x _ ho, Option.bind_some, clock_impl]
  cases ht : timeB t with
  | false => rfl
  | true =>
   obtain ⟨n1, n2, n3, n4, n5, n6, n7⟩ := time_facts ht (Int.le_refl 0)
   cases hx : inB 0 (t.1.1 - 1) x with
   | false => cases inB 0 1000 c <;> rfl
   | true =>
    cases hc : inB 0 1000 c with
    | false => rfl
    | true =>
     cases hs : inB 0 1000 s with
     | false => rfl
     | true =>
      have hc' := inB_iff.1 hc
      have hs' := inB_iff.1 hs
      have hx' := inB_iff.1 hx
      have hx1 : x = (x.toNat : Int) := by omega
      have hs1 : s = (s.toNat : Int) := by omega
      have hO : G_openNets (t, ()) = some (netsL t, ()) := by
       unfold G_openNets
       rw [if_pos (by rw [ht, ho]; rfl)]
      have hsh : shl .i64 1 x = ((2 ^ x.toNat : Nat) : Int) := by
       rw [hx1]
       exact shl_one (by omega)
      have one := one_isM (n := t.1.1.toNat) (x := x.toNat) n3 (by omega)
      rw [<- hx1] at one
      obtain ⟨m', k1, k2⟩ := implRB_l0 2000 t c x s.toNat ht hc'.1 hc'.2 (by omega) s.toNat 0 2000 (2 ^ x.toNat) (by omega) (by omega) one
      rw [<- hs1] at k1
      simp only [Int.natCast_zero] at k1
      have hx0 : decide (0 <= x) = true := by simp; omega
      have b1 : decide (0 <= (m' : Int)) = true := nonneg_dec m'
      have b2 : decide ((m' : Int) < 256) = true := by
       have := k2.1
       simp
       omega
      simp only [Bool.not_true, Bool.false_eq_true, if_false, Bool.and_self, if_true, hO, hx0, hsh, k1, Option.bind_some, G_setOf, b1, b2, Int.toNat_natCast, setF_mask n3 k2]
 ·cases h
theorem rbB_len (t : Tt) (x c s : Int) : (rbB t x c s).1.length <= 8 := by
 unfold rbB
 split
 ·rename_i h
  simp only [Bool.and_eq_true] at h
  obtain ⟨n1, n2, n3, n4, n5, n6, n7⟩ := time_facts h.1.1.1 (Int.le_refl 0)
  exact Nat.le_trans setF_len n3
 ·simp
end Go.V.W
set_option linter.unusedVariables false
set_option linter.unusedSimpArgs false
namespace Go.V.W
theorem findF_cases (q : Nat -> Bool) : ∀ (k i : Nat), (findF q k i = -1 /\ ∀ j, i <= j -> j < i + k -> q j = false) \/ ∃ j : Nat, findF q k i = (j : Int) /\ i <= j /\ j < i + k /\ q j = true /\ ∀ m, i <= m -> m < j -> q m = false := by
 intro k
 induction k with
 | zero => intro i; exact .inl ⟨rfl, fun j h1 h2 => by omega⟩
 | succ k ih =>
  intro i
  unfold findF
  by_cases h : q i = true
  ·rw [if_pos h]
   exact .inr ⟨i, rfl, Nat.le_refl _, by omega, h, fun m h1 h2 => by omega⟩
  ·rw [if_neg h]
   have h' : q i = false := by simpa using h
   rcases ih (i + 1) with ⟨h1, h2⟩ | ⟨j, h1, h2, h3, h4, h5⟩
   ·refine .inl ⟨h1, fun j h3 h4 => ?_⟩
    by_cases e : j = i
    ·rw [e]; exact h'
    ·exact h2 j (by omega) (by omega)
   ·refine .inr ⟨j, h1, by omega, by omega, h4, fun m h6 h7 => ?_⟩
    by_cases e : m = i
    ·rw [e]; exact h'
    ·exact h5 m (by omega) h7
theorem findF_cap (q : Nat -> Bool) {a b : Nat} (hab : a <= b) (hq : ∀ j, j < b -> q j = true -> ∃ m, m < a /\ q m = true) : findF q a 0 = findF q b 0 := by
 rcases findF_cases q a 0 with ⟨h1, h2⟩ | ⟨j, h1, h2, h3, h4, h5⟩ <;> rcases findF_cases q b 0 with ⟨k1, k2⟩ | ⟨m, k1, k2, k3, k4, k5⟩
 ·rw [h1, k1]
 ·obtain ⟨m', h6, h7⟩ := hq m (by omega) k4
  rw [h2 m' (by omega) (by omega)] at h7
  cases h7
 ·rw [k2 j (by omega) (by omega)] at h4
  cases h4
 ·rw [h1, k1]
  have : j = m := by
   rcases Nat.lt_trichotomy j m with h | h | h
   ·rw [k5 j (by omega) h] at h4
    cases h4
   ·exact h
   ·rw [h5 m (by omega) h] at k4
    cases k4
  rw [this]
theorem findF_eq (q : Nat -> Bool) {k j : Nat} (h1 : j < k) (h2 : q j = true) (h3 : ∀ m, m < j -> q m = false) : findF q k 0 = (j : Int) := by
 rcases findF_cases q k 0 with ⟨k1, k2⟩ | ⟨m, k1, k2, k3, k4, k5⟩
 ·rw [k2 j (by omega) (by omega)] at h2
  cases h2
 ·rw [k1]
  rcases Nat.lt_trichotomy j m with h | h | h
  ·rw [k5 j (by omega) h] at h2
   cases h2
  ·rw [h]
  ·rw [h3 m h] at k4
   cases k4
theorem iter_mono {t : Tt} {c x : Int} {i y : Nat} (h : iterP t c x i y = true) : iterP t c x (i + 1) y = true := by
 show stepP _ _ _ y = true
 unfold stepP
 rw [h, Bool.true_or]
theorem iter_le {t : Tt} {c x : Int} {i j y : Nat} (hij : i <= j) (h : iterP t c x i y = true) : iterP t c x j y = true := by
 induction hij with
 | refl => exact h
 | step _ ih => exact iter_mono ih
theorem setF_sub {p q : Nat -> Bool} : ∀ {k x : Nat}, (∀ y, x <= y -> y < x + k -> p y = true -> q y = true) -> (setF p k x).length <= (setF q k x).length /\ ((setF p k x).length = (setF q k x).length -> ∀ y, x <= y -> y < x + k -> p y = q y) := by
 intro k
 induction k with
 | zero => intro x _; exact ⟨Nat.le_refl _, fun _ y h1 h2 => by omega⟩
 | succ k ih =>
  intro x h
  obtain ⟨i1, i2⟩ := ih (x := x + 1) fun y h1 h2 => h y (by omega) (by omega)
  have hx := h x (Nat.le_refl _) (by omega)
  unfold setF
  by_cases hp : p x = true
  ·have hq := hx hp
   rw [if_pos hp, if_pos hq]
   refine ⟨by simp; omega, fun e y h1 h2 => ?_⟩
   by_cases ey : y = x
   ·rw [ey, hp, hq]
   ·exact i2 (by simpa using e) y (by omega) (by omega)
  ·have hp' : p x = false := by simpa using hp
   rw [if_neg hp]
   by_cases hq : q x = true
   ·rw [if_pos hq]
    refine ⟨by simp; omega, fun e y h1 h2 => ?_⟩
    simp only [List.length_cons] at e
    omega
   ·have hq' : q x = false := by simpa using hq
    rw [if_neg hq]
    refine ⟨i1, fun e y h1 h2 => ?_⟩
    by_cases ey : y = x
    ·rw [ey, hp', hq']
    ·exact i2 e y (by omega) (by omega)
theorem step_congr {es : List E} {n : Nat} {p q : Nat -> Bool} (h : ∀ y, y < n -> p y = q y) {y : Nat} (hy : y < n) : stepP es n p y = stepP es n q y := by
 unfold stepP
 rw [h y hy]
 congr 1
 apply Bool.eq_iff_iff.2
 simp only [List.any_eq_true, List.mem_range]
 constructor
 ·rintro ⟨x, hx, h2⟩
  exact ⟨x, hx, by rw [<- h x hx]; exact h2⟩
 ·rintro ⟨x, hx, h2⟩
  exact ⟨x, hx, by rw [h x hx]; exact h2⟩
theorem tmod_add {c p : Int} (hc : 0 <= c) (hp : 0 <= p) : (c + p).tmod p = c.tmod p := by
 rw [Int.tmod_eq_emod_of_nonneg (by omega), Int.tmod_eq_emod_of_nonneg hc, Int.add_emod_right]
theorem iter_stay {t : Tt} {c x : Int} (hc : 0 <= c) {n p : Nat} (hn : n = t.1.1.toNat) (hp : t.2.1 = (p : Int)) (hp0 : 0 < p) {i : Nat} (h : ∀ y, y < n -> iterP t c x (i + p) y = iterP t c x i y) : ∀ j y, y < n -> iterP t c x (i + j) y = iterP t c x i y := by
 intro j
 induction j using Nat.strongRecOn with
 | ind j ih =>
  intro y hy
  by_cases hj : j <= p
  ·apply Bool.eq_iff_iff.2
   constructor
   ·intro h1
    rw [<- h y hy]
    exact iter_le (by omega) h1
   ·exact iter_le (by omega)
  ·obtain ⟨m, rfl⟩ : ∃ m, j = m + p + 1 := ⟨j - p - 1, by omega⟩
   have e1 := ih (m + p) (by omega)
   have e2 := ih m (by omega)
   have e3 := ih (m + 1) (by omega) y hy
   rw [<- e3]
   show stepP (openE t ((c + ((i + (m + p) : Nat) : Int)).tmod t.2.1)) t.1.1.toNat (iterP t c x (i + (m + p))) y = stepP (openE t ((c + ((i + m : Nat) : Int)).tmod t.2.1)) t.1.1.toNat (iterP t c x (i + m)) y
   have ec : (c + ((i + (m + p) : Nat) : Int)).tmod t.2.1 = (c + ((i + m : Nat) : Int)).tmod t.2.1 := by
    rw [show c + ((i + (m + p) : Nat) : Int) = (c + ((i + m : Nat) : Int)) + t.2.1 by rw [hp]; omega]
    exact tmod_add (by omega) (by omega)
   rw [ec]
   refine step_congr (fun y hy => ?_) (by omega)
   rw [e1 y (by omega), e2 y (by omega)]
theorem iter_cap {t : Tt} {c x : Int} (hc : 0 <= c) {n p : Nat} (hn : n = t.1.1.toNat) (hp : t.2.1 = (p : Int)) (hp0 : 0 < p) (hx : 0 <= x) (hxn : x.toNat < n) {j y : Nat} (hy : y < n) (h : iterP t c x j y = true) : iterP t c x (n * p) y = true := by
 have key : ∀ k, (∀ j y, y < n -> iterP t c x (k * p + j) y = iterP t c x (k * p) y) \/ k + 1 <= (setF (iterP t c x (k * p)) n 0).length := by
  intro k
  induction k with
  | zero =>
   refine .inr ?_
   have h1 := setF_one (n := n) (x := x.toNat) hxn
   have h2 : setF (iterP t c x (0 * p)) n 0 = [((x.toNat : Nat) : Int)] := by
    rw [<- h1]
    refine setF_congr fun y _ _ => ?_
    rw [Nat.zero_mul]
    show decide ((y : Int) = x) = _
    rw [show ((x.toNat : Nat) : Int) = x by omega]
   rw [h2]
   simp
  | succ k ih =>
   have e : (k + 1) * p = k * p + p := Nat.succ_mul k p
   rcases ih with ih | ih
   ·refine .inl fun j y hy => ?_
    rw [e, Nat.add_assoc, ih _ y hy, ih _ y hy]
   ·have hs := setF_sub (p := iterP t c x (k * p)) (q := iterP t c x ((k + 1) * p)) (k := n) (x := 0) fun y _ _ => iter_le (by omega)
    by_cases hl : (setF (iterP t c x (k * p)) n 0).length = (setF (iterP t c x ((k + 1) * p)) n 0).length
    ·have hst := iter_stay (t := t) (c := c) (x := x) hc hn hp hp0 (i := k * p) fun y hy => by
      rw [<- e]
      exact (hs.2 hl y (by omega) (by omega)).symm
     refine .inl fun j y hy => ?_
     rw [e, Nat.add_assoc, hst _ y hy, hst _ y hy]
    ·exact .inr (by omega)
 rcases key n with hk | hk
 ·by_cases hj : j <= n * p
  ·exact iter_le hj h
  ·have := hk (j - n * p) y hy
   rw [show n * p + (j - n * p) = j by omega] at this
   rw [<- this]
   exact h
 ·have := setF_len (p := iterP t c x (n * p)) (k := n) (x := 0)
  omega
theorem arr_cap {t : Tt} {c x : Int} (hc : 0 <= c) {n p : Nat} (hn : n = t.1.1.toNat) (hp : t.2.1 = (p : Int)) (hp0 : 0 < p) (hn8 : n <= 8) (hp4 : p <= 4) (hx : 0 <= x) (hxn : x.toNat < n) {y : Nat} (hy : y < n) : findF (fun i => iterP t c x i y) (n * p + 1) 0 = findF (fun i => iterP t c x i y) 33 0 := by
 have : n * p <= 8 * 4 := Nat.mul_le_mul hn8 hp4
 exact findF_cap _ (by omega) fun j _ h => ⟨n * p, by omega, iter_cap hc hn hp hp0 hx hxn hy h⟩
theorem iter_front {t : Tt} {n : Nat} (hn : n = t.1.1.toNat) : ∀ (k : Nat) (c : Int) (x y : Nat), x < n -> y < n ->
  (iterP t c (x : Int) (k + 1) y = true ↔ ∃ w : Nat, w < n /\ (nearI (openE t (c.tmod t.2.1)) (x : Int) (w : Int) || decide (w = x)) = true /\ iterP t (c + 1) (w : Int) k y = true) := by
 intro k
 induction k with
 | zero =>
  intro c x y hx hy
  show stepP (openE t ((c + ((0 : Nat) : Int)).tmod t.2.1)) t.1.1.toNat (fun y : Nat => decide ((y : Int) = (x : Int))) y = true ↔ _
  rw [show c + ((0 : Nat) : Int) = c by omega]
  unfold stepP
  simp only [Bool.or_eq_true, List.any_eq_true, List.mem_range, Bool.and_eq_true, decide_eq_true_eq]
  constructor
  ·rintro (h | ⟨u, h1, h2, h3⟩)
   ·exact ⟨y, hy, .inr (by omega), decide_eq_true rfl⟩
   ·rw [h2] at h3
    exact ⟨y, hy, .inl h3, decide_eq_true rfl⟩
  ·rintro ⟨w, h1, h2, h3⟩
   have e : w = y := by
    have : (y : Int) = (w : Int) := of_decide_eq_true h3
    omega
   subst e
   rcases h2 with h2 | h2
   ·exact .inr ⟨x, by omega, rfl, h2⟩
   ·exact .inl (by omega)
 | succ k ih =>
  intro c x y hx hy
  have ec : c + ((k + 1 : Nat) : Int) = c + 1 + (k : Int) := by omega
  have e1 : iterP t c (x : Int) (k + 1 + 1) y = stepP (openE t ((c + 1 + (k : Int)).tmod t.2.1)) t.1.1.toNat (iterP t c (x : Int) (k + 1)) y := by
   rw [<- ec]
   rfl
  have e2 : ∀ w : Nat, iterP t (c + 1) (w : Int) (k + 1) y = stepP (openE t ((c + 1 + (k : Int)).tmod t.2.1)) t.1.1.toNat (iterP t (c + 1) (w : Int) k) y := fun w => rfl
  rw [e1]
  unfold stepP
  simp only [e2]
  unfold stepP
  simp only [Bool.or_eq_true, List.any_eq_true, List.mem_range, Bool.and_eq_true]
  constructor
  ·rintro (h | ⟨u, h1, h2, h3⟩)
   ·obtain ⟨w, k1, k2, k3⟩ := (ih c x y hx hy).1 h
    exact ⟨w, k1, by simpa using k2, .inl k3⟩
   ·obtain ⟨w, k1, k2, k3⟩ := (ih c x u hx (by omega)).1 h2
    exact ⟨w, k1, by simpa using k2, .inr ⟨u, h1, k3, h3⟩⟩
  ·rintro ⟨w, h1, h2, h3 | ⟨u, h3, h4, h5⟩⟩
   ·exact .inl ((ih c x y hx hy).2 ⟨w, h1, by simpa using h2, h3⟩)
   ·exact .inr ⟨u, h3, (ih c x u hx (by omega)).2 ⟨w, h1, by simpa using h2, h4⟩, h5⟩
theorem near_symm (es : List E) (a b : Int) : nearI es a b = nearI es b a := by
 unfold nearI
 congr 1
 funext e
 cases (e.1 == a && e.2.1 == b) <;> cases (e.1 == b && e.2.1 == a) <;> rfl
theorem back_step {t : Tt} {n : Nat} (hn : n = t.1.1.toNat) (c : Int) (k : Nat) {y : Nat} (hy : y < n) {z : Nat} (hz : z < n) :
  stepP (openE t (c.tmod t.2.1)) n (fun w => iterP t (c + 1) (w : Int) k y) z = iterP t c (z : Int) (k + 1) y := by
 apply Bool.eq_iff_iff.2
 rw [iter_front hn k c z y hz hy]
 unfold stepP
 simp only [Bool.or_eq_true, List.any_eq_true, List.mem_range, Bool.and_eq_true, decide_eq_true_eq]
 constructor
 ·rintro (h | ⟨u, h1, h2, h3⟩)
  ·exact ⟨z, hz, .inr rfl, h⟩
  ·exact ⟨u, h1, .inl (by rw [near_symm]; exact h3), h2⟩
 ·rintro ⟨w, h1, h2 | h2, h3⟩
  ·exact .inr ⟨w, h1, h3, by rw [near_symm]; exact h2⟩
  ·subst h2
   exact .inl h3
theorem isM_congr {n m : Nat} {p q : Nat -> Bool} (h : ∀ y, y < n -> p y = q y) (hm : isM n m p) : isM n m q := by
 refine ⟨hm.1, fun y => ?_⟩
 rw [hm.2 y]
 by_cases hy : y < n
 ·rw [h y hy]
 ·simp [hy]
theorem firstF_spec {p : Nat -> Bool} : ∀ {k x : Nat}, (∃ y, x <= y /\ y < x + k /\ p y = true) -> x <= firstF p k x /\ firstF p k x < x + k /\ p (firstF p k x) = true := by
 intro k
 induction k with
 | zero => rintro x ⟨y, h1, h2, _⟩; omega
 | succ k ih =>
  rintro x ⟨y, h1, h2, h3⟩
  unfold firstF
  by_cases h : p x = true
  ·rw [if_pos h]
   exact ⟨Nat.le_refl _, by omega, h⟩
  ·rw [if_neg h]
   have : y ≠ x := fun e => h (e ▸ h3)
   obtain ⟨k1, k2, k3⟩ := ih (x := x + 1) ⟨y, by omega, by omega, h3⟩
   exact ⟨by omega, by omega, k3⟩
theorem setF_first {p : Nat -> Bool} : ∀ {k x : Nat}, (∃ y, x <= y /\ y < x + k /\ p y = true) -> ∃ tl, setF p k x = (firstF p k x : Int) :: tl := by
 intro k
 induction k with
 | zero => rintro x ⟨y, h1, h2, _⟩; omega
 | succ k ih =>
  rintro x ⟨y, h1, h2, h3⟩
  unfold firstF setF
  by_cases h : p x = true
  ·rw [if_pos h, if_pos h]
   exact ⟨_, rfl⟩
  ·rw [if_neg h, if_neg h]
   have : y ≠ x := fun e => h (e ▸ h3)
   exact ih (x := x + 1) ⟨y, by omega, by omega, h3⟩
theorem setF_find {p q : Nat -> Bool} : ∀ {k x : Nat}, (∃ y, x <= y /\ y < x + k /\ (p y && q y) = true) ->
  ∃ j, j < (setF p k x).length /\ (setF p k x)[j]? = some (firstF (fun y => p y && q y) k x : Int) /\ ∀ m, m < j -> ∃ w : Nat, x <= w /\ w < x + k /\ (setF p k x)[m]? = some (w : Int) /\ p w = true /\ q w = false := by
 intro k
 induction k with
 | zero => rintro x ⟨y, h1, h2, _⟩; omega
 | succ k ih =>
  rintro x ⟨y, h1, h2, h3⟩
  unfold firstF setF
  by_cases h : (p x && q x) = true
  ·have hp : p x = true := (Bool.and_eq_true _ _ ▸ h).1
   rw [if_pos h, if_pos hp]
   exact ⟨0, by simp, by simp, fun m hm => by omega⟩
  ·rw [if_neg h]
   have : y ≠ x := fun e => h (e ▸ h3)
   obtain ⟨j, k1, k2, k3⟩ := ih (x := x + 1) ⟨y, by omega, by omega, h3⟩
   by_cases hp : p x = true
   ·rw [if_pos hp]
    have hq : q x = false := by
     cases hq : q x with
     | false => rfl
     | true => rw [hp, hq] at h; exact absurd rfl h
    refine ⟨j + 1, by simp; omega, by simpa using k2, fun m hm => ?_⟩
    cases m with
    | zero => exact ⟨x, Nat.le_refl _, by omega, by simp, hp, hq⟩
    | succ m =>
     obtain ⟨w, w1, w2, w3, w4, w5⟩ := k3 m (by omega)
     exact ⟨w, by omega, by omega, by simpa using w3, w4, w5⟩
   ·rw [if_neg hp]
    refine ⟨j, k1, k2, fun m hm => ?_⟩
    obtain ⟨w, w1, w2, w3, w4, w5⟩ := k3 m hm
    exact ⟨w, by omega, by omega, w3, w4, w5⟩
end Go.V.W
set_option linter.unusedVariables false
set_option linter.unusedSimpArgs false
namespace Go.V.W
open Go.Proofs
theorem ends_spec (t : Tt) (x y c : Int) (w : Unit) (ho : okT t = true) : F_q68q 0 (t, x, y, c, w) = some (endsB t x y && inB 0 1000 c, ()) := by
 unfold F_q68q G_l11Good endsB
 simp only [ho, if_true, Option.bind_some, clock_spec]
 cases ht : timeB t with
 | false => rfl
 | true =>
  obtain ⟨n1, n2, n3, n4, n5, n6, n7⟩ := time_facts ht (Int.le_refl 0)
  simp only [node_spec t.1 x () (by omega) (by omega), node_spec t.1 y () (by omega) (by omega)]
  cases inB 0 (t.1.1 - 1) x <;> cases inB 0 (t.1.1 - 1) y <;> rfl
theorem ends_impl (t : Tt) (x y c : Int) (w : Unit) (ho : okT t = true) : F_q65q 0 (t, c, [x, y], w) = some (endsB t x y && inB 0 1000 c, ()) := by
 unfold F_q65q endsB
 simp only [implT t _ ho, Option.bind_some, clock_impl]
 cases ht : timeB t with
 | false => rfl
 | true =>
  obtain ⟨n1, n2, n3, n4, n5, n6, n7⟩ := time_facts ht (Int.le_refl 0)
  have hw : IntKind.wrap .i64 (t.1.1 - 1) = t.1.1 - 1 := wrap_in _ (by omega) (by omega)
  have : okL [x, y] = true := okL_of (by simp)
  cases hc : inB 0 1000 c with
  | false => cases inB 0 (t.1.1 - 1) x <;> cases inB 0 (t.1.1 - 1) y <;> rfl
  | true => simp only [hw, G_allWithin, this, if_true, Option.bind_some, List.all_cons, List.all_nil, Bool.and_true, Bool.true_and]
theorem ends_parts {t : Tt} {x y : Int} (h : endsB t x y = true) : timeB t = true /\ x = (x.toNat : Int) /\ y = (y.toNat : Int) /\ x.toNat < t.1.1.toNat /\ y.toNat < t.1.1.toNat := by
 unfold endsB at h
 simp only [Bool.and_eq_true] at h
 obtain ⟨⟨h1, h2⟩, h3⟩ := h
 obtain ⟨n1, n2, n3, n4, n5, n6, n7⟩ := time_facts h1 (Int.le_refl 0)
 have h2 := inB_iff.1 h2
 have h3 := inB_iff.1 h3
 exact ⟨h1, by omega, by omega, by omega, by omega⟩
theorem reached_step {t : Tt} {c x : Int} (ht : timeB t = true) (ho : okT t = true) (h0 : 0 <= c) (i : Nat) (h1 : c + (i : Int) <= 5000) :
  G_l11Reached (t, setF (iterP t c x i) t.1.1.toNat 0, c + (i : Int), ()) = some (setF (iterP t c x (i + 1)) t.1.1.toNat 0, ()) := by
 obtain ⟨n1, n2, n3, n4, n5, n6, n7⟩ := time_facts ht h0
 have hset : okSet t.1.1 (setF (iterP t c x i) t.1.1.toNat 0) = true := by
  unfold okSet
  have := setF_len (p := iterP t c x i) (k := t.1.1.toNat) (x := 0)
  simp only [Bool.and_eq_true, decide_eq_true_eq, List.all_eq_true]
  refine ⟨by omega, fun z hz => ?_⟩
  obtain ⟨y, hy, rfl⟩ := setF_nat z hz
  exact inB_iff.2 (by omega)
 have a1 : decide (0 <= c + (i : Int)) = true := by simp; omega
 have a2 : decide (c + (i : Int) <= 5000) = true := by simp; omega
 simp only [G_l11Reached, ht, ho, a1, a2, hset, Bool.and_self, if_true, reachL_set]
 rfl
theorem has_setF {p : Nat -> Bool} {n y : Nat} (hn : n <= 8) (hy : y < n) : G_l1Has (setF p n 0, (y : Int), ()) = some (p y, ()) := by
 have := setF_len (p := p) (k := n) (x := 0)
 have ho : okL (setF p n 0) = true := okL_of (by omega)
 simp only [G_l1Has, ho, if_true, any_setF hy]
theorem l11Arrive_l0 (N : Nat) (t : Tt) (c x : Int) (y p : Nat) (ht : timeB t = true) (ho : okT t = true) (h0 : 0 <= c) (h1 : c <= 2000) (hy : y < t.1.1.toNat) (hp : t.2.1 = (p : Int)) (hp4 : p <= 4) : ∀ (k i f : Nat), i + k = t.1.1.toNat * p + 1 -> k < f ->
  q49q_l0 N f ((y : Int), c, t, setF (iterP t c x i) t.1.1.toNat 0, (i : Int), ()) = if findF (fun i => iterP t c x i y) k i < 0 then some (.inr (.inl ())) else some (.inl (findF (fun i => iterP t c x i y) k i, ())) := by
 obtain ⟨n1, n2, n3, n4, n5, n6, n7⟩ := time_facts ht h0
 have hnp : t.1.1.toNat * p <= 8 * 4 := Nat.mul_le_mul n3 hp4
 have hm : IntKind.wrap .i64 (t.1.1 * t.2.1) = ((t.1.1.toNat * p : Nat) : Int) := by
  rw [hp, n1, Int.toNat_natCast, <- Int.natCast_mul]
  exact wrap_in _ (by omega) (by omega)
 intro k
 induction k with
 | zero =>
  intro i f e1 e2
  obtain ⟨f, rfl⟩ : ∃ m, f = m + 1 := ⟨f - 1, by omega⟩
  show q49q_l0_r N (q49q_l0 N f) ((y : Int), c, t, setF (iterP t c x i) t.1.1.toNat 0, (i : Int), ()) = _
  unfold q49q_l0_r
  have : decide ((i : Int) <= ((t.1.1.toNat * p : Nat) : Int)) = false := by simp only [decide_eq_false_iff_not]; omega
  simp only [hm, this, Bool.false_eq_true, if_false, findF]
  rfl
 | succ k ih =>
  intro i f e1 e2
  obtain ⟨f, rfl⟩ : ∃ m, f = m + 1 := ⟨f - 1, by omega⟩
  show q49q_l0_r N (q49q_l0 N f) ((y : Int), c, t, setF (iterP t c x i) t.1.1.toNat 0, (i : Int), ()) = _
  unfold q49q_l0_r
  have hle : decide ((i : Int) <= ((t.1.1.toNat * p : Nat) : Int)) = true := by simp only [decide_eq_true_eq]; omega
  have hw : IntKind.wrap .i64 ((i : Int) + 1) = ((i + 1 : Nat) : Int) := by
   rw [wrap_in _ (by omega) (by omega)]
   rfl
  have hw2 : IntKind.wrap .i64 (c + (i : Int)) = c + (i : Int) := wrap_in _ (by omega) (by omega)
  simp only [hm, hle, if_true, has_setF n3 hy, Option.bind_some, hw, hw2, reached_step ht ho h0 i (by omega), findF]
  by_cases hh : iterP t c x i y = true
  ·have : ¬ (i : Int) < 0 := by omega
   simp only [hh, if_true, this, if_false]
  ·simp only [hh, if_false]
   exact ih (i + 1) f (by omega) (by omega)
theorem one_set {t : Tt} {c x : Int} (hx : x = (x.toNat : Int)) (hxn : x.toNat < t.1.1.toNat) : setF (iterP t c x 0) t.1.1.toNat 0 = [x] := by
 have := setF_one (n := t.1.1.toNat) (x := x.toNat) hxn
 rw [<- hx] at this
 exact this
theorem l11Arrive_lim (d) (r) (h : G_l11Arrive d = some r) : ∃ N, F_q49q N d = some r := by
 obtain ⟨t, x, y, c, _⟩ := d
 unfold G_l11Arrive at h
 split at h
 ·rename_i hc
  simp only [Bool.and_eq_true] at hc
  obtain ⟨⟨ho, he⟩, hc⟩ := hc
  have hc := inB_iff.1 hc
  obtain ⟨ht, ex, ey, hx, hy⟩ := ends_parts he
  have h := Option.some.inj h
  subst h
  obtain ⟨g1, g2, g3, g4⟩ := timeB_parts ht
  have g3 := inB_iff.1 g3
  obtain ⟨n1, n2, n3, n4, n5, n6, n7⟩ := time_facts ht (Int.le_refl 0)
  have hp : t.2.1 = (t.2.1.toNat : Int) := by omega
  have hnp : t.1.1.toNat * t.2.1.toNat <= 8 * 4 := Nat.mul_le_mul n3 (by omega)
  refine ⟨100, ?_⟩
  unfold F_q49q
  have := l11Arrive_l0 100 t c x y.toNat t.2.1.toNat ht ho hc.1 hc.2 hy hp (by omega) (t.1.1.toNat * t.2.1.toNat + 1) 0 100 (by omega) (by omega)
  rw [one_set ex hx, <- ey, arr_cap hc.1 rfl hp (by omega) n3 (by omega) (by omega) hx hy] at this
  simp only [Int.natCast_zero] at this
  simp only [this]
  show Option.bind (if arrI t c x y < 0 then _ else _) _ = some (arrI t c x y, ())
  rcases findF_cases (fun i => iterP t c x i y.toNat) 33 0 with ⟨k1, k2⟩ | ⟨j, k1, k2, k3, k4, k5⟩
  ·have e : arrI t c x y = -1 := k1
   rw [e]
   rfl
  ·have e : arrI t c x y = (j : Int) := k1
   have : ¬ (j : Int) < 0 := by omega
   rw [e, if_neg this]
   simp only [Option.bind_some]
   exact congrArg (fun z : Int => some (z, ())) k1
 ·cases h
theorem earliestArrival_l0 (N : Nat) (t : Tt) (c x : Int) (y : Nat) (ht : timeB t = true) (h0 : 0 <= c) (h1 : c <= 1000) (hy : y < t.1.1.toNat) : ∀ (k i f m : Nat), i + k = 33 -> k < f -> isM t.1.1.toNat m (iterP t c x i) ->
  q11q_l0 N f ((y : Int), c, t, netsL t, (m : Int), (i : Int), ()) = if findF (fun i => iterP t c x i y) k i < 0 then some (.inr (.inl ())) else some (.inl (findF (fun i => iterP t c x i y) k i, true, ())) := by
 intro k
 induction k with
 | zero =>
  intro i f m e1 e2 hm
  obtain ⟨f, rfl⟩ : ∃ m, f = m + 1 := ⟨f - 1, by omega⟩
  have e : i = 33 := by omega
  subst e
  rfl
 | succ k ih =>
  intro i f m e1 e2 hm
  obtain ⟨f, rfl⟩ : ∃ m, f = m + 1 := ⟨f - 1, by omega⟩
  obtain ⟨n1, n2, n3, n4, n5, n6, n7⟩ := time_facts (c := c + (i : Int)) ht (by omega)
  show q11q_l0_r N (q11q_l0 N f) ((y : Int), c, t, netsL t, (m : Int), (i : Int), ()) = _
  unfold q11q_l0_r
  have hlt : decide ((i : Int) < 33) = true := by simp only [decide_eq_true_eq]; omega
  have hw : IntKind.wrap .i64 ((i : Int) + 1) = ((i + 1 : Nat) : Int) := by
   rw [wrap_in _ (by omega) (by omega)]
   rfl
  have hw2 : IntKind.wrap .i64 (c + (i : Int)) = c + (i : Int) := wrap_in _ (by omega) (by omega)
  have hok := netN_ok (n := t.1.1.toNat) (by omega) n7
  have hsm := small_toI hok n3
  have b1 : decide (0 <= (m : Int)) = true := nonneg_dec m
  have b2 : decide ((m : Int) < 256) = true := by
   have := hm.1
   simp
   omega
  have hbit : m.testBit y = iterP t c x i y := by
   rw [hm.2 y]
   simp [hy]
  simp only [hlt, if_true, nonneg_dec, shr_bit hm.1 (show y < 8 by omega), hbit, n4, hw2, n5, n6, G_around, hsm, b1, b2, Bool.and_self, Option.bind_some, hw, toI_from, toI_len, hok.1, Int.toNat_natCast, findF]
  by_cases hh : iterP t c x i y = true
  ·have : ¬ (i : Int) < 0 := by omega
   simp only [hh, if_true, this, if_false]
  ·simp only [hh, if_false]
   exact ih (i + 1) f _ (by omega) (by omega) (around_isM n3 n7 hm)
theorem one_mask {t : Tt} {c x : Int} (ht : timeB t = true) (hx : x = (x.toNat : Int)) (hxn : x.toNat < t.1.1.toNat) : shl .i64 1 x = ((2 ^ x.toNat : Nat) : Int) /\ isM t.1.1.toNat (2 ^ x.toNat) (iterP t c x 0) := by
 obtain ⟨n1, n2, n3, n4, n5, n6, n7⟩ := time_facts ht (Int.le_refl 0)
 constructor
 ·rw [hx]
  exact shl_one (by omega)
 ·have one := one_isM (n := t.1.1.toNat) (x := x.toNat) n3 hxn
  rw [<- hx] at one
  exact one
theorem openNets_some {t : Tt} (ht : timeB t = true) (ho : okT t = true) : G_openNets (t, ()) = some (netsL t, ()) := by
 unfold G_openNets
 rw [if_pos (by rw [ht, ho]; rfl)]
theorem earliestArrival_lim (d) (r) (h : G_earliestArrival d = some r) : ∃ N, F_q11q N d = some r := by
 obtain ⟨t, x, y, c, _⟩ := d
 unfold G_earliestArrival at h
 split at h
 ·rename_i hc
  simp only [Bool.and_eq_true] at hc
  obtain ⟨⟨ho, he⟩, hc⟩ := hc
  have hc := inB_iff.1 hc
  obtain ⟨ht, ex, ey, hx, hy⟩ := ends_parts he
  have h := Option.some.inj h
  subst h
  obtain ⟨hsh, one⟩ := one_mask (c := c) ht ex hx
  refine ⟨100, ?_⟩
  unfold F_q11q
  have := earliestArrival_l0 100 t c x y.toNat ht hc.1 hc.2 hy 33 0 100 _ (by omega) (by omega) one
  rw [<- ey, <- hsh] at this
  simp only [Int.natCast_zero] at this
  have hx0 : decide (0 <= x) = true := by simp; omega
  simp only [openNets_some ht ho, Option.bind_some, hx0, if_true, this]
  show Option.bind (if arrI t c x y < 0 then _ else _) _ = some (if arrI t c x y < 0 then _ else _)
  by_cases e : arrI t c x y < 0
  ·rw [if_pos e, if_pos e]
   rfl
  ·rw [if_neg e, if_neg e]
   rfl
 ·cases h
def earB (t : Tt) (x y c : Int) : Int × Bool × Unit := if (endsB t x y && inB 0 1000 c) = true then eaB t x y c else (0, false, ())
theorem specEA (t : Tt) (x y c : Int) (w : Unit) (ho : okT t = true) : F_q16q 0 (t, x, y, c, w) = some (earB t x y c) := by
 unfold F_q16q earB
 simp only [ends_spec t x y c _ ho, Option.bind_some]
 cases he : endsB t x y with
 | false => rfl
 | true =>
  cases hc : inB 0 1000 c with
  | false => rfl
  | true =>
   have hc' := inB_iff.1 hc
   have h2 : inB 0 2000 c = true := inB_iff.2 (by omega)
   simp only [Bool.and_self, Bool.not_true, Bool.false_eq_true, if_false, if_true, G_l11Arrive, ho, he, h2, Option.bind_some, eaB]
   by_cases e : arrI t c x y < 0
   ·have : decide (arrI t c x y >= 0) = false := by simp; omega
    rw [if_pos e, this]
    rfl
   ·have : decide (arrI t c x y >= 0) = true := by simp; omega
    rw [if_neg e, this]
    rfl
theorem implEA (t : Tt) (x y c : Int) (w : Unit) (ho : okT t = true) : F_q14q 0 (t, x, y, c, w) = some (earB t x y c) := by
 unfold F_q14q earB
 simp only [ends_impl t x y c _ ho, Option.bind_some]
 cases he : endsB t x y with
 | false => rfl
 | true =>
  cases hc : inB 0 1000 c with
  | false => rfl
  | true => simp only [Bool.and_self, Bool.not_true, Bool.false_eq_true, if_false, if_true, G_earliestArrival, ho, he, hc, Option.bind_some]
end Go.V.W
set_option linter.unusedVariables false
set_option linter.unusedSimpArgs false
namespace Go.V.W
open Go.Proofs
theorem ends_of {t : Tt} (ht : timeB t = true) {x y : Nat} (hx : x < t.1.1.toNat) (hy : y < t.1.1.toNat) : endsB t (x : Int) (y : Int) = true := by
 obtain ⟨n1, n2, n3, n4, n5, n6, n7⟩ := time_facts ht (Int.le_refl 0)
 unfold endsB
 have h1 : inB 0 (t.1.1 - 1) (x : Int) = true := inB_iff.2 (by omega)
 have h2 : inB 0 (t.1.1 - 1) (y : Int) = true := inB_iff.2 (by omega)
 simp only [ht, h1, h2, Bool.and_self]
def isA (t : Tt) (c : Int) (z y k : Nat) : Prop := iterP t c (z : Int) k y = true /\ ∀ m, m < k -> iterP t c (z : Int) m y = false
def stepB (t : Tt) (c : Int) (z : Nat) (w : Nat) : Bool := nearI (openE t (c.tmod t.2.1)) (z : Int) (w : Int) || decide (w = z)
theorem isA_arr {t : Tt} {c : Int} {z y k : Nat} (hk : k < 33) (h : isA t c z y k) : arrI t c (z : Int) (y : Int) = (k : Int) := by
 unfold arrI
 simp only [Int.toNat_natCast]
 exact findF_eq _ hk h.1 h.2
theorem arr_isA {t : Tt} {c : Int} {z y k : Nat} (h : arrI t c (z : Int) (y : Int) = (k : Int)) : k < 33 /\ isA t c z y k := by
 unfold arrI at h
 simp only [Int.toNat_natCast] at h
 rcases findF_cases (fun i => iterP t c (z : Int) i y) 33 0 with ⟨k1, k2⟩ | ⟨j, k1, k2, k3, k4, k5⟩
 ·omega
 ·have : j = k := by omega
  subst this
  exact ⟨by omega, k4, fun m hm => k5 m (by omega) hm⟩
theorem isA_next {t : Tt} {c : Int} {z y k : Nat} (hz : z < t.1.1.toNat) (hy : y < t.1.1.toNat) (h : isA t c z y (k + 1)) {v : Nat} (hv : v < t.1.1.toNat) (hb : stepB t c z v = true) (hi : iterP t (c + 1) (v : Int) k y = true) : isA t (c + 1) v y k := by
 refine ⟨hi, fun m hm => ?_⟩
 cases hh : iterP t (c + 1) (v : Int) m y with
 | false => rfl
 | true =>
  have := (iter_front rfl m c z y hz hy).2 ⟨v, hv, hb, hh⟩
  rw [h.2 (m + 1) (by omega)] at this
  cases this
theorem isA_some {t : Tt} {c : Int} {z y k : Nat} (hz : z < t.1.1.toNat) (hy : y < t.1.1.toNat) (h : isA t c z y (k + 1)) : ∃ w, 0 <= w /\ w < 0 + t.1.1.toNat /\ (stepB t c z w && iterP t (c + 1) (w : Int) k y) = true := by
 obtain ⟨w, h1, h2, h3⟩ := (iter_front rfl k c z y hz hy).1 h.1
 exact ⟨w, Nat.zero_le _, by omega, by rw [Bool.and_eq_true]; exact ⟨h2, h3⟩⟩
def nextW (t : Tt) (c : Int) (z y k : Nat) : Nat := firstF (fun w => stepB t c z w && iterP t (c + 1) (w : Int) k y) t.1.1.toNat 0
theorem nextW_spec {t : Tt} {c : Int} {z y k : Nat} (hz : z < t.1.1.toNat) (hy : y < t.1.1.toNat) (h : isA t c z y (k + 1)) : nextW t c z y k < t.1.1.toNat /\ isA t (c + 1) (nextW t c z y k) y k := by
 have hs := firstF_spec (isA_some hz hy h)
 have e : firstF (fun w => stepB t c z w && iterP t (c + 1) (w : Int) k y) t.1.1.toNat 0 = nextW t c z y k := rfl
 rw [e] at hs
 obtain ⟨h1, h2, h3⟩ := hs
 simp only [Bool.and_eq_true] at h3
 exact ⟨by omega, isA_next hz hy h (by omega) h3.1 h3.2⟩
theorem tripL_succ (t : Tt) (y k : Nat) (c : Int) (z : Nat) : tripL t (y : Int) (k + 1) c z = (nextW t c z y k : Int) :: tripL t (y : Int) k (c + 1) (nextW t c z y k) := rfl
theorem at_some {l : List Int} {j : Nat} {v : Int} (h : l[j]? = some v) : at_ I l j = v /\ j < l.length := by
 have hj : j < l.length := by
  rcases Nat.lt_or_ge j l.length with h' | h'
  ·exact h'
  ·rw [List.getElem?_eq_none h'] at h
   cases h
 refine ⟨?_, hj⟩
 have e : at_ I l j = l[j] := at_get (e := I) hj
 rw [e]
 rw [List.getElem?_eq_getElem hj] at h
 exact Option.some.inj h
theorem ball_eq (g : Gr) (n : Nat) (hg : g.1 = (n : Int)) (hn : n <= 8) (ho : okL g.2.1 = true) (z : Int) : F_q78q 0 (g, z, ()) = some (ballL n g.2.1 z, ()) := by
 first
  | unfold F_q78q G_l2Neighbors G_l1PutW
  | unfold F_q78q G_l2Neighbors G_l1Put
 have a2 : okS1 (setF (fun y => nearI g.2.1 z (y : Int)) n 0) = true := by
  have := setF_len (p := fun y => nearI g.2.1 z (y : Int)) (k := n) (x := 0)
  exact decide_eq_true (by omega)
 have a3 : (okL g.2.1 && decide (0 <= (n : Int)) && decide ((n : Int) <= 8)) = true := by
  rw [ho]
  simp
  omega
 simp only [hg, a3, if_true, Int.toNat_natCast, Option.bind_some, a2, ballL]
theorem specTrip_l2 (N : Nat) (t : Tt) (c : Int) (y i k z : Nat) (out ball : List Int) (j0 : Nat) (ht : timeB t = true) (ho : okT t = true) (h0 : 0 <= c) (h1 : c <= 1000) (hi : i <= 40) (hk : k < 33) (hy : y < t.1.1.toNat) (hz : z < t.1.1.toNat) (hA : isA t (c + (i : Int)) z y (k + 1)) (hl : ball.length <= 8)
  (hj0 : ball[j0]? = some (nextW t (c + (i : Int)) z y k : Int)) (hpre : ∀ m, m < j0 -> ∃ w : Nat, w < t.1.1.toNat /\ ball[m]? = some (w : Int) /\ iterP t (c + (i : Int) + 1) (w : Int) k y = false) : ∀ (q j f : Nat), j + q = j0 -> q < f ->
  q22q_l2 N f ((y : Int), c, t, ((i + 1 + k : Nat) : Int), out, (i : Int), ball, (j : Int), ()) = some (.inl ((y : Int), c, t, ((i + 1 + k : Nat) : Int), out, (i : Int), ball, (j0 : Int), ())) := by
 have hw1 : IntKind.wrap .i64 (c + (i : Int)) = c + (i : Int) := wrap_in _ (by omega) (by omega)
 have hw2 : IntKind.wrap .i64 (c + (i : Int) + 1) = c + (i : Int) + 1 := wrap_in _ (by omega) (by omega)
 have hw3 : IntKind.wrap .i64 (((i + 1 + k : Nat) : Int) - (i : Int)) = (k : Int) + 1 := by
  rw [wrap_in _ (by omega) (by omega)]
  omega
 have hw4 : IntKind.wrap .i64 ((k : Int) + 1 - 1) = (k : Int) := by
  rw [wrap_in _ (by omega) (by omega)]
  omega
 have hc2 : inB 0 2000 (c + (i : Int) + 1) = true := inB_iff.2 (by omega)
 intro q
 induction q with
 | zero =>
  intro j f e1 e2
  obtain ⟨f, rfl⟩ : ∃ m, f = m + 1 := ⟨f - 1, by omega⟩
  have e : j = j0 := by omega
  subst e
  obtain ⟨a1, a2⟩ := at_some hj0
  obtain ⟨w1, w2⟩ := nextW_spec hz hy hA
  show q22q_l2_r N (q22q_l2 N f) ((y : Int), c, t, ((i + 1 + k : Nat) : Int), out, (i : Int), ball, (j : Int), ()) = _
  unfold q22q_l2_r
  simp only [idxIn_nat a2, if_true, hw1, hw2, hw3, hw4, Int.toNat_natCast, a1, G_l11Arrive, ho, ends_of ht w1 hy, hc2, Bool.and_self, Option.bind_some, isA_arr hk w2, bne_self_eq_false, Bool.false_eq_true, if_false]
 | succ q ih =>
  intro j f e1 e2
  obtain ⟨f, rfl⟩ : ∃ m, f = m + 1 := ⟨f - 1, by omega⟩
  obtain ⟨w, w1, w2, w3⟩ := hpre j (by omega)
  obtain ⟨a1, a2⟩ := at_some w2
  have hne : (arrI t (c + (i : Int) + 1) (w : Int) (y : Int) != (k : Int)) = true := by
   rw [bne_iff_ne]
   intro e
   have := (arr_isA e).2.1
   rw [w3] at this
   cases this
  have hw : IntKind.wrap .i64 ((j : Int) + 1) = ((j + 1 : Nat) : Int) := by
   rw [wrap_in _ (by omega) (by omega)]
   rfl
  show q22q_l2_r N (q22q_l2 N f) ((y : Int), c, t, ((i + 1 + k : Nat) : Int), out, (i : Int), ball, (j : Int), ()) = _
  unfold q22q_l2_r
  simp only [idxIn_nat a2, if_true, hw1, hw2, hw3, hw4, Int.toNat_natCast, a1, G_l11Arrive, ho, ends_of ht w1 hy, hc2, Bool.and_self, Option.bind_some, hne, hw]
  exact ih (j + 1) f (by omega) (by omega)
theorem at_last {pre : List Int} {z : Int} : at_ I (pre ++ [z]) pre.length = z := (at_some (by simp)).1
theorem open_some {t : Tt} (ht : timeB t = true) (ho : okT t = true) {c : Int} (h0 : 0 <= c) (h1 : c <= 5000) : G_l11Open (t, c, ()) = some ((t.1.1, openE t (c.tmod t.2.1), ()), ()) := by
 unfold G_l11Open
 have e1 : decide (0 <= c) = true := by simp; omega
 have e2 : decide (c <= 5000) = true := by simp; omega
 rw [if_pos (by simp only [ht, ho, e1, e2, Bool.and_self])]
theorem openE_okL {t : Tt} (ho : okT t = true) (r : Int) : okL (openE t r) = true := by
 have hlen := selE_len t.1.2.1 t.2.2.1 r
 have := okL_lim (okT_parts ho).1
 exact decide_eq_true (Nat.le_trans hlen this)
theorem specTrip_l0 (N : Nat) (hN : 50 <= N) (t : Tt) (c : Int) (y a : Nat) (ht : timeB t = true) (ho : okT t = true) (h0 : 0 <= c) (h1 : c <= 1000) (ha : a < 33) (hy : y < t.1.1.toNat) : ∀ (k : Nat) (pre : List Int) (z f : Nat), pre.length + k = a -> k < f -> z < t.1.1.toNat -> isA t (c + (pre.length : Int)) z y k ->
  q22q_l0 N f ((y : Int), c, t, (a : Int), pre ++ [(z : Int)], (pre.length : Int), ()) = some (.inl (pre ++ [(z : Int)] ++ tripL t (y : Int) k (c + (pre.length : Int)) z, ())) := by
 intro k
 induction k with
 | zero =>
  intro pre z f e1 e2 hz hA
  obtain ⟨f, rfl⟩ : ∃ m, f = m + 1 := ⟨f - 1, by omega⟩
  have e : a = pre.length := by omega
  subst e
  simp [q22q_l0, q22q_l0_r, tripL]
 | succ k ih =>
  intro pre z f e1 e2 hz hA
  obtain ⟨f, rfl⟩ : ∃ m, f = m + 1 := ⟨f - 1, by omega⟩
  obtain ⟨n1, n2, n3, n4, n5, n6, n7⟩ := time_facts ht (c := c + (pre.length : Int)) (by omega)
  obtain ⟨w1, w2⟩ := nextW_spec hz hy hA
  have hi : pre.length < a := by omega
  have ea : a = pre.length + 1 + k := by omega
  have hw1 : IntKind.wrap .i64 (c + (pre.length : Int)) = c + (pre.length : Int) := wrap_in _ (by omega) (by omega)
  have hw : IntKind.wrap .i64 ((pre.length : Int) + 1) = ((pre.length + 1 : Nat) : Int) := by
   rw [wrap_in _ (by omega) (by omega)]
   rfl
  have hball : F_q78q 0 ((t.1.1, openE t ((c + (pre.length : Int)).tmod t.2.1), ()), (z : Int), ()) = some (setF (stepB t (c + (pre.length : Int)) z) t.1.1.toNat 0, ()) := by
   rw [ball_eq (t.1.1, openE t ((c + (pre.length : Int)).tmod t.2.1), ()) t.1.1.toNat n1 n3 (openE_okL ho _) (z : Int)]
   show some (ballL t.1.1.toNat (openE t ((c + (pre.length : Int)).tmod t.2.1)) (z : Int), ()) = _
   rw [ballL_set hz]
   rfl
  obtain ⟨j0, j1, j2, j3⟩ := setF_find (p := stepB t (c + (pre.length : Int)) z) (q := fun w => iterP t (c + (pre.length : Int) + 1) (w : Int) k y) (isA_some hz hy hA)
  have hlen := setF_len (p := stepB t (c + (pre.length : Int)) z) (k := t.1.1.toNat) (x := 0)
  have hin := specTrip_l2 N t c y pre.length k z (pre ++ [(z : Int)]) (setF (stepB t (c + (pre.length : Int)) z) t.1.1.toNat 0) j0 ht ho h0 h1 (by omega) (by omega) hy hz hA (by omega) j2 (fun m hm => by
   obtain ⟨w, b1, b2, b3, b4, b5⟩ := j3 m hm
   exact ⟨w, by omega, b3, b5⟩) j0 0 N (by omega) (by omega)
  rw [<- ea] at hin
  simp only [Int.natCast_zero] at hin
  have hle : ∀ v : Int, decide (List.length (pre ++ [(z : Int)]) + List.length [v] <= lim) = true := fun v => by
   unfold lim
   simp
   omega
  have hidx : idxIn (pre.length : Int) (List.length (pre ++ [(z : Int)])) = true := idxIn_nat (by simp)
  show q22q_l0_r N (q22q_l0 N f) ((y : Int), c, t, (a : Int), pre ++ [(z : Int)], (pre.length : Int), ()) = _
  unfold q22q_l0_r
  simp only [lt_dec hi, if_true, hw1, open_some ht ho (show 0 <= c + (pre.length : Int) by omega) (show c + (pre.length : Int) <= 5000 by omega), Option.bind_some, hidx, Int.toNat_natCast, at_last, hball, hin, idxIn_nat j1, (at_some j2).1, hle, hw]
  have := ih (pre ++ [(z : Int)]) (nextW t (c + (pre.length : Int)) z y k) f (by simp; omega) (by omega) w1 (by
   rw [show c + ((pre ++ [(z : Int)]).length : Int) = c + (pre.length : Int) + 1 by simp; omega]
   exact w2)
  rw [show c + ((pre ++ [(z : Int)]).length : Int) = c + (pre.length : Int) + 1 by simp; omega] at this
  rw [tripL_succ]
  simp only [List.length_append, List.length_singleton] at this
  refine this.trans ?_
  simp
theorem specTrip_lim (d) (r) (h : G_earliestTrip d = some r) : ∃ N, F_q22q N d = some r := by
 obtain ⟨t, x, y, c, _⟩ := d
 unfold G_earliestTrip at h
 split at h
 ·rename_i ho
  have ho : okT t = true := ho
  have h := Option.some.inj h
  subst h
  refine ⟨100, ?_⟩
  unfold F_q22q tripB
  simp only [ends_spec t x y c _ ho, Option.bind_some]
  cases he : endsB t x y with
  | false => rfl
  | true =>
   cases hc : inB 0 1000 c with
   | false => rfl
   | true =>
    have hc' := inB_iff.1 hc
    have h2 : inB 0 2000 c = true := inB_iff.2 (by omega)
    obtain ⟨ht, ex, ey, hx, hy⟩ := ends_parts he
    simp only [Bool.and_self, Bool.not_true, Bool.false_eq_true, if_false, G_l11Arrive, ho, he, h2, if_true, Option.bind_some, Bool.true_and]
    by_cases e : arrI t c x y < 0
    ·have a1 : decide (0 <= arrI t c x y) = false := by simp; omega
     have a2 : decide (arrI t c x y < 0) = true := by simp; omega
     simp only [a1, a2, if_true, Bool.false_eq_true, if_false]
    ·have a1 : decide (0 <= arrI t c x y) = true := by simp; omega
     have a2 : decide (arrI t c x y < 0) = false := by simp; omega
     simp only [a1, a2, if_true, Bool.false_eq_true, if_false]
     have ea : arrI t c x y = ((arrI t c x y).toNat : Int) := by omega
     have hA : arrI t c ((x.toNat : Nat) : Int) ((y.toNat : Nat) : Int) = ((arrI t c x y).toNat : Int) := by
      rw [<- ex, <- ey]
      exact ea
     obtain ⟨k1, k2⟩ := arr_isA hA
     have := specTrip_l0 100 (by omega) t c y.toNat (arrI t c x y).toNat ht ho hc'.1 hc'.2 k1 hy (arrI t c x y).toNat [] x.toNat 100 (by simp) (by omega) hx (by simpa using k2)
     simp only [List.length_nil, Int.natCast_zero, List.nil_append, Int.add_zero] at this
     rw [<- ea, <- ex, <- ey] at this
     simp only [this, Option.bind_some, List.singleton_append]
 ·cases h
theorem getD_set_ne {l : List Nat} {i j v : Nat} (h : i ≠ j) : (l.set i v).getD j 0 = l.getD j 0 := by
 simp [List.getD_eq_getElem?_getD, List.getElem?_set, h]
theorem getD_set_eq {l : List Nat} {i v : Nat} (h : i < l.length) : (l.set i v).getD i 0 = v := by
 simp [List.getD_eq_getElem?_getD, List.getElem?_set, h]
def goodP (t : Tt) (c : Int) (a y j : Nat) (z : Nat) : Bool := iterP t (c + (j : Int)) (z : Int) (a - j) y
theorem implTrip_l0 (N : Nat) (t : Tt) (c x : Int) (a y : Nat) (ht : timeB t = true) (h0 : 0 <= c) (h1 : c <= 1000) (ha : a < 33) (hy : y < t.1.1.toNat) : ∀ (k f : Nat) (gs : List Nat), k <= a -> k < f -> gs.length = a + 1 -> (∀ j, k <= j -> j <= a -> isM t.1.1.toNat (gs.getD j 0) (goodP t c a y j)) ->
  ∃ gs', q24q_l0 N f (x, c, t, (a : Int), netsL t, toI gs, (k : Int) - 1, ()) = some (.inl (x, c, t, (a : Int), netsL t, toI gs', ())) /\ gs'.length = a + 1 /\ ∀ j, j <= a -> isM t.1.1.toNat (gs'.getD j 0) (goodP t c a y j) := by
 intro k
 induction k with
 | zero =>
  intro f gs e1 e2 e3 hg
  obtain ⟨f, rfl⟩ : ∃ m, f = m + 1 := ⟨f - 1, by omega⟩
  exact ⟨gs, rfl, e3, fun j hj => hg j (by omega) hj⟩
 | succ k ih =>
  intro f gs e1 e2 e3 hg
  obtain ⟨f, rfl⟩ : ∃ m, f = m + 1 := ⟨f - 1, by omega⟩
  obtain ⟨n1, n2, n3, n4, n5, n6, n7⟩ := time_facts (c := c + (k : Int)) ht (by omega)
  have hok := netN_ok (n := t.1.1.toNat) (by omega) n7
  have hsm := small_toI hok n3
  have hm := hg (k + 1) (by omega) (by omega)
  have b1 : decide (0 <= ((gs.getD (k + 1) 0 : Nat) : Int)) = true := nonneg_dec _
  have b2 : decide (((gs.getD (k + 1) 0 : Nat) : Int) < 256) = true := by
   have := hm.1
   simp only [decide_eq_true_eq]
   omega
  have hnew : isM t.1.1.toNat (arN (netN t.1.1.toNat (openE t ((c + (k : Int)).tmod t.2.1))) (gs.getD (k + 1) 0) t.1.1.toNat 0 (gs.getD (k + 1) 0)) (goodP t c a y k) := by
   refine isM_congr (fun z hz => ?_) (around_isM n3 n7 hm)
   have hb := back_step (t := t) (n := t.1.1.toNat) rfl (c + (k : Int)) (a - (k + 1)) hy hz
   rw [show a - (k + 1) + 1 = a - k by omega] at hb
   unfold goodP
   rw [<- hb, show c + ((k + 1 : Nat) : Int) = c + (k : Int) + 1 by omega]
  obtain ⟨gs', g1, g2, g3⟩ := ih f (gs.set k (arN (netN t.1.1.toNat (openE t ((c + (k : Int)).tmod t.2.1))) (gs.getD (k + 1) 0) t.1.1.toNat 0 (gs.getD (k + 1) 0))) (by omega) (by omega) (by simpa using e3) (fun j hj1 hj2 => by
   by_cases ej : j = k
   ·subst ej
    rw [getD_set_eq (by omega)]
    exact hnew
   ·rw [getD_set_ne (by omega)]
    exact hg j (by omega) hj2)
  refine ⟨gs', ?_, g2, g3⟩
  rw [<- g1]
  have ek : ((k + 1 : Nat) : Int) - 1 = (k : Int) := by omega
  have hw : IntKind.wrap .i64 ((k : Int) + 1) = ((k + 1 : Nat) : Int) := by
   rw [wrap_in _ (by omega) (by omega)]
   rfl
  have hw1 : IntKind.wrap .i64 (c + (k : Int)) = c + (k : Int) := wrap_in _ (by omega) (by omega)
  have hw3 : IntKind.wrap .i64 ((k : Int) - 1) = (k : Int) - 1 := wrap_in _ (by omega) (by omega)
  have i1 : idxIn ((k + 1 : Nat) : Int) gs.length = true := idxIn_nat (by omega)
  have i2 : idxIn (k : Int) gs.length = true := idxIn_nat (by omega)
  have hge : decide ((k : Int) >= 0) = true := nonneg_dec k
  rw [ek]
  show q24q_l0_r N (q24q_l0 N f) (x, c, t, (a : Int), netsL t, toI gs, (k : Int), ()) = _
  unfold q24q_l0_r
  simp only [hge, if_true, n4, hw1, n5, n6, hw, hw3, toI_len, i1, i2, Int.toNat_natCast, at_toI, G_around, hsm, b1, b2, Bool.and_self, Option.bind_some, toI_from, hok.1, toI_set]
theorem closed_eq {t : Tt} (ht : timeB t = true) {c : Int} (h0 : 0 <= c) {z : Nat} (hz : z < t.1.1.toNat) :
  ∃ m : Nat, F_q40q 0 ((toI (netN t.1.1.toNat (openE t (c.tmod t.2.1))), ()), (z : Int), ()) = some ((m : Int), ()) /\ isM t.1.1.toNat m (stepB t c z) := by
 obtain ⟨n1, n2, n3, n4, n5, n6, n7⟩ := time_facts (c := c) ht h0
 have hok := netN_ok (n := t.1.1.toNat) (by omega) n7
 have hp := pow_small (show z < 8 by omega)
 refine ⟨(netN t.1.1.toNat (openE t (c.tmod t.2.1))).getD z 0 ||| 2 ^ z, ?_, Nat.or_lt_two_pow (n := 8) (hok.2 z) hp, fun w => ?_⟩
 ·unfold F_q40q
  have i1 : idxIn (z : Int) (netN t.1.1.toNat (openE t (c.tmod t.2.1))).length = true := idxIn_nat (by rw [hok.1]; exact hz)
  simp only [toI_len, i1, if_true, nonneg_dec, Int.toNat_natCast, at_toI, shl_one (show z < 8 by omega), bits_or (hok.2 z) hp]
 ·rw [Nat.testBit_or, Nat.testBit_two_pow]
  have hb := netN_bit n3 n7 z w
  unfold hasN at hb
  rw [hb, isE_near _ n7]
  unfold stepB
  apply Bool.eq_iff_iff.2
  simp only [Bool.or_eq_true, Bool.and_eq_true, decide_eq_true_eq]
  constructor
  ·rintro (h | h)
   ·exact ⟨near_lt n7 h, .inl h⟩
   ·subst h
    exact ⟨hz, .inr rfl⟩
  ·rintro ⟨h1, h2 | h2⟩
   ·exact .inl h2
   ·exact .inr h2.symm
theorem isM_and {n m m' : Nat} {p q : Nat -> Bool} (h1 : isM n m p) (h2 : isM n m' q) : isM n (m &&& m') (fun y => p y && q y) := by
 refine ⟨Nat.lt_of_le_of_lt Nat.and_le_left h1.1, fun y => ?_⟩
 rw [Nat.testBit_and, h1.2 y, h2.2 y]
 show _ = (decide (y < n) && (p y && q y))
 cases decide (y < n) <;> cases p y <;> cases q y <;> rfl
theorem implTrip_l2 (N : Nat) (t : Tt) (c : Int) (y a : Nat) (gs : List Nat) (ht : timeB t = true) (h0 : 0 <= c) (h1 : c <= 1000) (ha : a < 33) (hy : y < t.1.1.toNat) (hgl : gs.length = a + 1) (hgs : ∀ j, j <= a -> isM t.1.1.toNat (gs.getD j 0) (goodP t c a y j)) : ∀ (k i z f : Nat) (out : List Int), i + k = a -> k < f -> out.length + k <= 100 -> z < t.1.1.toNat -> isA t (c + (i : Int)) z y k ->
  q24q_l2 N f ((z : Int), c, t, netsL t, toI gs, out, (a : Int), (i : Int), ()) = some (.inl (out ++ tripL t (y : Int) k (c + (i : Int)) z, ())) := by
 intro k
 induction k with
 | zero =>
  intro i z f out e1 e2 e3 hz hA
  obtain ⟨f, rfl⟩ : ∃ m, f = m + 1 := ⟨f - 1, by omega⟩
  have e : i = a := by omega
  subst e
  simp [q24q_l2, q24q_l2_r, tripL]
 | succ k ih =>
  intro i z f out e1 e2 e3 hz hA
  obtain ⟨f, rfl⟩ : ∃ m, f = m + 1 := ⟨f - 1, by omega⟩
  obtain ⟨n1, n2, n3, n4, n5, n6, n7⟩ := time_facts (c := c + (i : Int)) ht (by omega)
  obtain ⟨w1, w2⟩ := nextW_spec hz hy hA
  have hi : i < a := by omega
  have hw : IntKind.wrap .i64 ((i : Int) + 1) = ((i + 1 : Nat) : Int) := by
   rw [wrap_in _ (by omega) (by omega)]
   rfl
  have hw1 : IntKind.wrap .i64 (c + (i : Int)) = c + (i : Int) := wrap_in _ (by omega) (by omega)
  obtain ⟨m, c1, c2⟩ := closed_eq (c := c + (i : Int)) ht (by omega) hz
  have hg := hgs (i + 1) (by omega)
  have hM := isM_and c2 hg
  have i1 : idxIn ((i + 1 : Nat) : Int) gs.length = true := idxIn_nat (by omega)
  have b1 : decide (0 <= ((m &&& gs.getD (i + 1) 0 : Nat) : Int)) = true := nonneg_dec _
  have b2 : decide (((m &&& gs.getD (i + 1) 0 : Nat) : Int) < 256) = true := by
   have := hM.1
   simp only [decide_eq_true_eq]
   omega
  have hset : ∃ tl, setF (fun w => (m &&& gs.getD (i + 1) 0).testBit w) 8 0 = (nextW t (c + (i : Int)) z y k : Int) :: tl := by
   rw [setF_mask n3 hM]
   have ef : setF (fun w => stepB t (c + (i : Int)) z w && goodP t c a y (i + 1) w) t.1.1.toNat 0 = setF (fun w => stepB t (c + (i : Int)) z w && iterP t (c + (i : Int) + 1) (w : Int) k y) t.1.1.toNat 0 := by
    refine setF_congr fun w _ _ => ?_
    unfold goodP
    rw [show c + ((i + 1 : Nat) : Int) = c + (i : Int) + 1 by omega, show a - (i + 1) = k by omega]
   rw [ef]
   exact setF_first (isA_some hz hy hA)
  obtain ⟨tl, htl⟩ := hset
  have hle : ∀ v : Int, decide (List.length out + List.length [v] <= lim) = true := fun v => by
   unfold lim
   simp
   omega
  have hidx : ∀ v : Int, idxIn (0 : Int) (List.length (v :: tl)) = true := fun v => idxIn_nat (i := 0) (by simp)
  have hat : ∀ v : Int, at_ I (v :: tl) (0 : Int).toNat = v := fun v => (at_some (j := 0) (by simp)).1
  show q24q_l2_r N (q24q_l2 N f) ((z : Int), c, t, netsL t, toI gs, out, (a : Int), (i : Int), ()) = _
  unfold q24q_l2_r
  simp only [lt_dec hi, if_true, n4, hw1, n5, n6, c1, Option.bind_some, hw, toI_len, i1, Int.toNat_natCast, at_toI, bits_and c2.1 hg.1, G_setOf, b1, b2, Bool.and_self, htl, hidx, hle, hat]
  have := ih (i + 1) (nextW t (c + (i : Int)) z y k) f (out ++ [(nextW t (c + (i : Int)) z y k : Int)]) (by omega) (by omega) (by simp; omega) w1 (by
   rw [show c + ((i + 1 : Nat) : Int) = c + (i : Int) + 1 by omega]
   exact w2)
  rw [show c + ((i + 1 : Nat) : Int) = c + (i : Int) + 1 by omega] at this
  rw [tripL_succ]
  refine this.trans ?_
  simp
theorem implTrip_lim (d) (r) (h : G_earliestTrip d = some r) : ∃ N, F_q24q N d = some r := by
 obtain ⟨t, x, y, c, _⟩ := d
 unfold G_earliestTrip at h
 split at h
 ·rename_i ho
  have ho : okT t = true := ho
  have h := Option.some.inj h
  subst h
  refine ⟨100, ?_⟩
  unfold F_q24q tripB
  simp only [ends_impl t x y c _ ho, Option.bind_some]
  cases he : endsB t x y with
  | false => rfl
  | true =>
   cases hc : inB 0 1000 c with
   | false => rfl
   | true =>
    have hc' := inB_iff.1 hc
    obtain ⟨ht, ex, ey, hx, hy⟩ := ends_parts he
    obtain ⟨n1, n2, n3, n4, n5, n6, n7⟩ := time_facts ht (Int.le_refl 0)
    simp only [Bool.and_self, Bool.not_true, Bool.false_eq_true, if_false, G_earliestArrival, ho, he, hc, if_true, Option.bind_some, Bool.true_and, eaB]
    by_cases e : arrI t c x y < 0
    ·have a1 : decide (0 <= arrI t c x y) = false := by simp; omega
     simp only [a1, e, if_true, Bool.not_false, Bool.false_eq_true, if_false]
    ·have a1 : decide (0 <= arrI t c x y) = true := by simp; omega
     simp only [a1, e, if_true, Bool.not_true, Bool.false_eq_true, if_false, openNets_some ht ho, Option.bind_some]
     have hA : arrI t c ((x.toNat : Nat) : Int) ((y.toNat : Nat) : Int) = ((arrI t c x y).toNat : Int) := by
      rw [<- ex, <- ey]
      omega
     obtain ⟨k1, k2⟩ := arr_isA hA
     have ea : arrI t c x y = ((arrI t c x y).toNat : Int) := by omega
     rw [ea]
     simp only [Int.toNat_natCast]
     generalize (arrI t c x y).toNat = a at k1 k2
     have hw : IntKind.wrap .i64 ((a : Int) + 1) = ((a + 1 : Nat) : Int) := by
      rw [wrap_in _ (by omega) (by omega)]
      rfl
     have hw3 : IntKind.wrap .i64 ((a : Int) - 1) = (a : Int) - 1 := wrap_in _ (by omega) (by omega)
     have hlim : decide (((a + 1 : Nat) : Int) <= (lim : Int)) = true := by
      unfold lim
      simp only [decide_eq_true_eq]
      omega
     have hle : decide (((a + 1 : Nat) : Int) <= ((a + 1 : Nat) : Int)) = true := decide_eq_true (Int.le_refl _)
     have hy0 : decide (0 <= y) = true := by simp; omega
     have hidx : idxIn (a : Int) (List.replicate (a + 1) 0).length = true := idxIn_nat (by simp)
     have hsh : shl .i64 1 y = ((2 ^ y.toNat : Nat) : Int) := (one_mask (c := c) ht ey hy).1
     have hone : isM t.1.1.toNat (2 ^ y.toNat) (goodP t c a y.toNat a) := by
      refine isM_congr (fun z hz => ?_) (one_isM n3 hy)
      unfold goodP
      rw [Nat.sub_self]
      show decide ((z : Int) = (y.toNat : Int)) = decide ((y.toNat : Int) = (z : Int))
      exact decide_eq_decide.2 eq_comm
     obtain ⟨gs, g1, g2, g3⟩ := implTrip_l0 100 t c x a y.toNat ht hc'.1 hc'.2 k1 hy a 100 ((List.replicate (a + 1) 0).set a (2 ^ y.toNat)) (Nat.le_refl _) (by omega) (by simp) (fun j hj1 hj2 => by
      have : j = a := by omega
      subst this
      rw [getD_set_eq (by simp)]
      exact hone)
     have h2 := implTrip_l2 100 t c y.toNat a gs ht hc'.1 hc'.2 k1 hy g2 g3 a 0 x.toNat 100 [x] (by omega) (by omega) (by simp; omega) hx (by simpa using k2)
     simp only [Int.natCast_zero, Int.add_zero] at h2
     rw [<- ex, <- ey] at h2
     simp only [hw, hw3, nonneg_dec, hle, hlim, Bool.and_self, if_true, Int.toNat_natCast, hy0, hidx, hsh, toI_zero, toI_len, toI_set, List.length_replicate, idxIn_nat (show a < a + 1 by omega), g1, Option.bind_some, h2, List.singleton_append]
 ·cases h
theorem tripL_len (t : Tt) (y : Int) : ∀ (k : Nat) (c : Int) (z : Nat), (tripL t y k c z).length = k := by
 intro k
 induction k with
 | zero => intro c z; rfl
 | succ k ih => intro c z; simp [tripL, ih]
theorem tripB_len (t : Tt) (x y c : Int) : (tripB t x y c).1.length <= 34 := by
 unfold tripB
 split
 ·have : arrI t c x y < 33 := by
   rcases findF_cases (fun i => iterP t c x i y.toNat) 33 0 with ⟨k1, k2⟩ | ⟨j, k1, k2, k3, k4, k5⟩
   ·have e : arrI t c x y = -1 := k1
    omega
   ·have e : arrI t c x y = (j : Int) := k1
    omega
  simp only [List.length_cons, tripL_len]
  omega
 ·simp
end Go.V.W
set_option linter.unusedVariables false
set_option linter.unusedSimpArgs false
namespace Go.V.W
theorem tabL_len (n : Nat) (f : Nat -> Nat -> Int) : (tabL n f).length = n := by simp [tabL]
theorem tabL_row {n c : Nat} (f : Nat -> Nat -> Int) (h : c < n) : (tabL n f)[c]? = some ((List.range n).map fun r => f c r) := by
 unfold tabL
 rw [List.getElem?_map, List.getElem?_range h]
 rfl
theorem rowR_get {n r : Nat} (g : Nat -> Int) (h : r < n) : ((List.range n).map g)[r]? = some (g r) := by
 rw [List.getElem?_map, List.getElem?_range h]
 rfl
theorem tab2_tabL {n c r : Nat} (f : Nat -> Nat -> Int) (hc : c < n) (hr : r < n) : tab2 (tabL n f) (c : Int) (r : Int) = f c r := by
 unfold tab2
 simp only [Int.toNat_natCast, List.getD_eq_getElem?_getD, tabL_row f hc, Option.getD_some, rowR_get _ hr]
theorem tabL_congr {n : Nat} {f g : Nat -> Nat -> Int} (h : ∀ c r, c < n -> r < n -> f c r = g c r) : tabL n f = tabL n g := by
 unfold tabL
 refine List.map_congr_left fun c hc => List.map_congr_left fun r hr => h c r (List.mem_range.1 hc) (List.mem_range.1 hr)
theorem worst_congr {f g : Int -> Int} : ∀ {l : List Int} {m : Int}, (∀ x ∈ l, f x = g x) -> worstL f l m = worstL g l m := by
 intro l
 induction l with
 | nil => intro m _; rfl
 | cons b bs ih =>
  intro m h
  simp only [worstL, h b (by simp)]
  rw [ih fun x hx => h x (by simp [hx])]
theorem worst_spec (f : Int -> Int) : ∀ (l : List Int) (m : Int), (∃ x ∈ l, f x < 0) /\ worstL f l m = -1 \/ (∀ x ∈ l, 0 <= f x /\ f x <= worstL f l m) /\ m <= worstL f l m /\ (worstL f l m = m \/ ∃ x ∈ l, worstL f l m = f x) := by
 intro l
 induction l with
 | nil => intro m; exact .inr ⟨fun x hx => by simp at hx, Int.le_refl _, .inl rfl⟩
 | cons b bs ih =>
  intro m
  simp only [worstL]
  by_cases hb : f b < 0
  ·rw [if_pos hb]
   exact .inl ⟨⟨b, by simp, hb⟩, rfl⟩
  ·rw [if_neg hb]
   rcases ih (if m < f b then f b else m) with ⟨⟨x, hx, h1⟩, h2⟩ | ⟨h1, h2, h3⟩
   ·exact .inl ⟨⟨x, by simp [hx], h1⟩, h2⟩
   ·have hge : m <= (if m < f b then f b else m) /\ f b <= (if m < f b then f b else m) := by split <;> omega
    refine .inr ⟨fun x hx => ?_, by omega, ?_⟩
    ·rcases List.mem_cons.1 hx with rfl | hx
     ·omega
     ·exact h1 x hx
    ·rcases h3 with h3 | ⟨x, hx, h3⟩
     ·by_cases hm : m < f b
      ·rw [if_pos hm] at h3 |-
       exact .inr ⟨b, by simp, h3⟩
      ·rw [if_neg hm] at h3 |-
       exact .inl h3
     ·exact .inr ⟨x, by simp [hx], h3⟩
def okBall (n : Nat) (ball : Int -> List Int) : Prop := ∀ x : Nat, x < n -> ∀ z ∈ ball (x : Int), ∃ y : Nat, y < n /\ z = (y : Int)
structure InvT (n : Nat) (ball : Int -> List Int) (t : Nat) (f : Nat -> Nat -> Int) : Prop where
 pos : 1 <= t
 low : ∀ c r, c < n -> r < n -> -1 <= f c r
 high : ∀ c r, c < n -> r < n -> f c r < (t : Int)
 none : ∀ c r, c < n -> r < n -> f c r < 0 -> ∀ b ∈ ball (c : Int), ¬ (0 <= afterT ball (tabL n f) b (r : Int) /\ afterT ball (tabL n f) b (r : Int) < (t : Int) - 1)
theorem after_high {n : Nat} {ball : Int -> List Int} (hb : okBall n ball) {t : Nat} {f : Nat -> Nat -> Int} (hI : InvT n ball t f) {c r : Nat} (hc : c < n) (hr : r < n) {b : Int} (hbm : b ∈ ball (c : Int)) : afterT ball (tabL n f) b (r : Int) <= (t : Int) - 1 := by
 have hp := hI.pos
 unfold afterT
 split
 ·omega
 ·obtain ⟨b', hb1, rfl⟩ := hb c hc b hbm
  rcases worst_spec (tab2 (tabL n f) (b' : Int)) (ball (r : Int)) 0 with ⟨_, h⟩ | ⟨_, _, h | ⟨x, hx, h⟩⟩
  ·omega
  ·omega
  ·obtain ⟨y, hy, rfl⟩ := hb r hr x hx
   rw [tab2_tabL f hb1 hy] at h
   have := hI.high b' y hb1 hy
   omega
theorem InvT.next {n : Nat} {ball : Int -> List Int} (hb : okBall n ball) {t : Nat} {f : Nat -> Nat -> Int} (hI : InvT n ball t f) : InvT n ball (t + 1) (stepF n ball (t : Int) f) := by
 have hp := hI.pos
 refine ⟨by omega, fun c r hc hr => ?_, fun c r hc hr => ?_, fun c r hc hr hf b hbm => ?_⟩
 ·unfold stepF
  split
  ·omega
  ·exact hI.low c r hc hr
 ·unfold stepF
  split
  ·omega
  ·have := hI.high c r hc hr; omega
 ·rintro ⟨h1, h2⟩
  have hst : stepF n ball (t : Int) f c r = f c r /\ canF n ball f c r = false := by
   unfold stepF at hf |-
   by_cases hcan : canF n ball f c r = true
   ·rw [if_pos hcan] at hf; omega
   ·rw [if_neg hcan]
    exact ⟨rfl, by simpa using hcan⟩
  rw [hst.1] at hf
  have hno : ∀ b ∈ ball (c : Int), ¬ 0 <= afterT ball (tabL n f) b (r : Int) := by
   intro b hbm h
   have := hst.2
   unfold canF at this
   simp only [hf, decide_true, Bool.true_and] at this
   have ht : ((ball (c : Int)).any fun b => decide (0 <= afterT ball (tabL n f) b (r : Int))) = true := List.any_eq_true.2 ⟨b, hbm, decide_eq_true h⟩
   rw [ht] at this
   cases this
  refine hno b hbm ?_
  unfold afterT at h1 h2 |-
  by_cases hbr : b = (r : Int)
  ·rw [if_pos hbr]
   exact Int.le_refl _
  ·rw [if_neg hbr] at h1 h2 |-
   obtain ⟨b', hb1, rfl⟩ := hb c hc b hbm
   rcases worst_spec (tab2 (tabL n (stepF n ball (t : Int) f)) (b' : Int)) (ball (r : Int)) 0 with ⟨_, h⟩ | ⟨hall, _, _⟩
   ·omega
   ·have e : worstL (tab2 (tabL n f) (b' : Int)) (ball (r : Int)) 0 = worstL (tab2 (tabL n (stepF n ball (t : Int) f)) (b' : Int)) (ball (r : Int)) 0 := by
     refine worst_congr fun x hx => ?_
     obtain ⟨y, hy, rfl⟩ := hb r hr x hx
     have := hall (y : Int) hx
     rw [tab2_tabL _ hb1 hy] at this
     rw [tab2_tabL _ hb1 hy, tab2_tabL _ hb1 hy]
     by_cases hcan : canF n ball f b' y = true
     ·have e : stepF n ball (t : Int) f b' y = (t : Int) := if_pos hcan
      rw [e] at this
      omega
     ·exact (if_neg hcan).symm
    rw [e]
    exact h1
theorem InvT.start (n : Nat) (ball : Int -> List Int) : InvT n ball 1 startF := by
 refine ⟨Nat.le_refl _, fun c r _ _ => ?_, fun c r _ _ => ?_, fun c r _ _ _ b _ h => ?_⟩
 ·unfold startF; split <;> omega
 ·unfold startF; split <;> omega
 ·omega
end Go.V.W
set_option linter.unusedVariables false
set_option linter.unusedSimpArgs false
namespace Go.V.W
open Go.Proofs
theorem sqL_parts {n : Nat} {T : Tab} (h : sqL n T = true) : T.length = n /\ ∀ c, c < n -> (at_ K_Si T c).length = n := by
 unfold sqL at h
 simp only [Bool.and_eq_true, decide_eq_true_eq, List.all_eq_true] at h
 refine ⟨h.1, fun c hc => ?_⟩
 have hlt : c < T.length := by omega
 have e : at_ K_Si T c = T[c] := at_get (e := K_Si) hlt
 rw [e]
 exact h.2 _ (List.getElem_mem hlt)
theorem tab2_at {n : Nat} {T : Tab} (h : sqL n T = true) {c r : Nat} (hc : c < n) (hr : r < n) : at_ I (at_ K_Si T c) r = tab2 T (c : Int) (r : Int) := by
 obtain ⟨h1, h2⟩ := sqL_parts h
 have hlt : c < T.length := by omega
 have e : at_ K_Si T c = T[c] := at_get (e := K_Si) hlt
 have h3 := h2 c hc
 rw [e] at h3 |-
 have e2 : at_ I T[c] r = T[c][r] := at_get (e := I) (by omega)
 rw [e2]
 unfold tab2
 simp only [Int.toNat_natCast, List.getD_eq_getElem?_getD, List.getElem?_eq_getElem hlt, Option.getD_some]
 rw [List.getElem?_eq_getElem (by omega)]
 rfl
theorem tabL_sq (n : Nat) (f : Nat -> Nat -> Int) : sqL n (tabL n f) = true := by
 unfold sqL tabL
 simp
theorem wrap8 {i n : Nat} (h : i < n) (hn : n <= 8) : IntKind.wrap .i64 ((i : Int) + 1) = ((i + 1 : Nat) : Int) := by
 rw [wrap_in _ (by omega) (by omega)]
 rfl
theorem map_set (n r : Nat) (g : Nat -> Int) (v : Int) : ((List.range n).map g).set r v = (List.range n).map fun j => if j = r then v else g j := by
 apply List.ext_getElem
 ·simp
 ·intro i h1 h2
  simp only [List.length_set, List.length_map, List.length_range] at h1
  rw [List.getElem_set]
  by_cases e : r = i
  ·subst e; simp
  ·have e' : ¬ i = r := fun h => e h.symm
   simp [e, e']
end Go.V.W
set_option linter.unusedVariables false
set_option linter.unusedSimpArgs false
namespace Go.V.W
open Go.Proofs
theorem netB_parts {l : List Int} (h : netB l = true) : l = toI (fromI l) /\ okN l.length (fromI l) /\ l.length <= 8 /\ ∀ x, x < l.length -> (fromI l).getD x 0 < 2 ^ l.length := by
 unfold netB at h
 simp only [Bool.and_eq_true, List.all_eq_true, decide_eq_true_eq] at h
 obtain ⟨h1, h2⟩ := h
 obtain ⟨e, hm, h8⟩ := smallN_nat h1
 refine ⟨e, hm, h8, fun x hx => ?_⟩
 have hx' : x < (fromI l).length := by rw [hm.1]; exact hx
 have h3 := h2 l[x] (List.getElem_mem hx)
 simp only [List.getD_eq_getElem?_getD, List.getElem?_eq_getElem hx', Option.getD_some]
 have e2 : (fromI l)[x] = l[x].toNat := by simp [fromI]
 rw [e2]
 have : 0 < 2 ^ l.length := Nat.two_pow_pos _
 omega
theorem netB_net {n : Nat} (hn : n <= 8) {es : List E} (h : es.all (edgeB (n : Int)) = true) : netB (toI (netN n es)) = true /\ (toI (netN n es)).length = n := by
 have hok := netN_ok hn h
 have hl : (toI (netN n es)).length = n := by rw [toI_len, hok.1]
 refine ⟨?_, hl⟩
 unfold netB
 rw [small_toI hok hn, Bool.true_and, List.all_eq_true, hl]
 intro m hm
 unfold toI at hm
 obtain ⟨a, ha, rfl⟩ := List.mem_map.1 hm
 obtain ⟨i, hi, rfl⟩ := List.getElem_of_mem ha
 have hlt : (netN n es)[i] < 2 ^ n := by
  refine Nat.lt_pow_two_of_testBit _ fun j hj => ?_
  have hb := netN_bit hn h i j
  unfold hasN at hb
  simp only [List.getD_eq_getElem?_getD, List.getElem?_eq_getElem hi, Option.getD_some] at hb
  rw [hb, isE_near es h]
  cases hnr : nearI es (i : Int) (j : Int) with
  | false => rfl
  | true => have := near_lt h hnr; omega
 simp only [decide_eq_true_eq]
 omega
theorem graph_grB {n : Int} {l : List E} {v : Unit} (h : graphB (n, l, v) = true) (hl : okL l = true) : grB (n, l, v) = true := by
 have h8 := graphB_n h
 have he := (graphB_edges h).1
 unfold grB
 have e1 : decide (0 <= n) = true := by simp; omega
 have e2 : decide (n <= 8) = true := by simp; omega
 simp only [hl, e1, e2, he, Bool.and_self]
end Go.V.W
set_option linter.unusedVariables false
set_option linter.unusedSimpArgs false
namespace Go.V.W
open Go.Proofs
theorem loop_keep {H O γ α : Type} {L : Nat -> H -> Option O} {r : (H -> Option O) -> H -> Option O} (hL : ∀ k d, L (k + 1) d = r (L k) d) (l : List γ) {mk : Nat -> List α -> H} {f : γ -> List α} (hf1 : ∀ x, (f x).length <= 1) {o : List α -> O}
  (hr : ∀ back i (hi : i < l.length) A, A.length <= i -> r back (mk i A) = back (mk (i + 1) (A ++ f l[i]))) (hf : ∀ back A, A.length <= l.length -> r back (mk l.length A) = some (o A)) :
  ∀ k, l.length <= k -> L (k + 1) (mk 0 []) = some (o (l.flatMap f)) := by
 have key : ∀ k i A, i <= l.length -> l.length <= i + k -> A.length <= i -> L (k + 1) (mk i A) = some (o (A ++ (l.drop i).flatMap f)) := by
  intro k
  induction k with
  | zero =>
   intro i A h1 h2 h3
   have e : i = l.length := by omega
   subst e
   rw [hL, hf _ _ h3, List.drop_of_length_le (Nat.le_refl _)]
   simp
  | succ k ih =>
   intro i A h1 h2 h3
   by_cases h : i < l.length
   ·have hh := hf1 l[i]
    rw [hL, hr _ i h A h3, ih (i + 1) _ (by omega) (by omega) (by simp; omega), List.drop_eq_getElem_cons h, List.flatMap_cons, List.append_assoc]
   ·have e : i = l.length := by omega
    subst e
    rw [hL, hf _ _ h3, List.drop_of_length_le (Nat.le_refl _)]
    simp
 intro k h
 have := key k 0 [] (Nat.zero_le _) (by omega) (Nat.le_refl _)
 simpa using this
theorem flat_setF (p : Nat -> Bool) : ∀ k x, ((List.range' x k).flatMap fun y => if p y = true then [(y : Int)] else []) = setF p k x := by
 intro k
 induction k with
 | zero => intro x; rfl
 | succ k ih =>
  intro x
  rw [List.range'_succ, List.flatMap_cons, ih]
  show _ = if p x = true then (x : Int) :: setF p k (x + 1) else setF p k (x + 1)
  split <;> simp
theorem one_len {α : Type} {c : Prop} [Decidable c] {x : α} : (if c then [x] else []).length <= 1 := by split <;> simp
theorem nat_of {n : Int} (h : 0 <= n) : ∃ a : Nat, n = (a : Int) := ⟨n.toNat, by omega⟩
theorem l2Bits_lim (d) (r) (h : G_l2Bits d = some r) : ∃ N, F_q76q N d = some r := by
 obtain ⟨n, m, _⟩ := d
 unfold G_l2Bits at h
 split at h
 ·rename_i hc
  simp only [Bool.and_eq_true] at hc
  obtain ⟨hn, hm⟩ := hc
  have hn := inB_iff.1 hn
  have hm := inB_iff.1 hm
  obtain ⟨a, rfl⟩ := nat_of hn.1
  obtain ⟨b, rfl⟩ := nat_of hm.1
  have h := Option.some.inj h
  subst h
  refine ⟨20, ?_⟩
  unfold F_q76q
  have := loop_keep (L := q76q_l0 20) (r := q76q_l0_r 20) (fun _ _ => rfl) (List.range' 0 a) (mk := fun i A => ((a : Int), (b : Int), A, (i : Int), ())) (f := fun y => if b.testBit y = true then [(y : Int)] else []) (o := fun A => .inl (A, ())) (fun x => one_len) (by
    intro back i hi A hA
    simp only [List.length_range'] at hi
    unfold q76q_l0_r
    have hle : decide (A.length + List.length [(i : Int)] <= lim) = true := by unfold lim; simp; omega
    simp only [lt_dec hi, if_true, nonneg_dec, has_bit (show b < 256 by omega) (show i < 8 by omega), hle, wrap8 hi (by omega), List.getElem_range', Nat.one_mul, Nat.zero_add]
    by_cases hb : b.testBit i = true
    ·simp only [hb, if_true]
    ·simp only [hb, if_false, List.append_nil, Bool.false_eq_true])
   (by
    intro back A hA
    unfold q76q_l0_r
    simp only [List.length_range', lt_not, Bool.false_eq_true, if_false]) 19 (by simp; omega)
  rw [flat_setF] at this
  simp only [Int.natCast_zero] at this
  simp only [this, Option.bind_some, Int.toNat_natCast]
 ·cases h
theorem before_eq (a b : E) (u : Unit) : g_q55q (a, b, u) = (lessE a b, ()) := by
 unfold g_q55q lessE
 by_cases h : a.1 < b.1
 ·simp [h]
 ·by_cases h2 : a.1 = b.1
  ·simp [h2]
  ·simp [h, h2]
theorem insE_low (e : E) : ∀ l : List E, ∃ k, k <= l.length /\ (∀ j (hj : j < l.length), j < k -> lessE l[j] e = true) /\ (∀ hk : k < l.length, lessE l[k] e = false) /\ insE e l = l.take k ++ [e] ++ l.drop k := by
 intro l
 induction l with
 | nil => exact ⟨0, Nat.le_refl _, fun j hj => absurd hj (by simp), fun hk => absurd hk (by simp), rfl⟩
 | cons a l ih =>
  by_cases h : lessE a e = true
  ·obtain ⟨k, h1, h2, h3, h4⟩ := ih
   refine ⟨k + 1, by simp; exact h1, fun j hj hjk => ?_, fun hk => ?_, ?_⟩
   ·cases j with
    | zero => exact h
    | succ j => exact h2 j (by simpa using hj) (by omega)
   ·exact h3 (by simpa using hk)
   ·simp only [insE, h, if_true, h4, List.take_succ_cons, List.drop_succ_cons, List.cons_append]
  ·refine ⟨0, Nat.zero_le _, fun j hj hjk => absurd hjk (by omega), fun hk => by simpa using h, ?_⟩
   simp only [insE, h, if_false, List.take_zero, List.drop_zero, List.nil_append, List.singleton_append, Bool.false_eq_true]
theorem l2Put_lim (d) (r) (h : G_l2Put d = some r) : ∃ N, F_spec_l2Put N d = some r := by
 obtain ⟨l, e, _⟩ := d
 unfold G_l2Put at h
 split at h
 ·rename_i hc
  have hl : l.length <= 1000 := of_decide_eq_true hc
  have hmx : l.length <= maxLen := by unfold maxLen; omega
  have h := Option.some.inj h
  subst h
  obtain ⟨k, h1, h2, h3, h4⟩ := insE_low e l
  refine ⟨l.length + 2, ?_⟩
  have key : ∀ q i f, i + q = k -> q < f -> spec_l2Put_l0 (l.length + 2) f (l, e, (i : Int), ()) = some (.inl (l, e, (k : Int), ())) := by
   intro q
   induction q with
   | zero =>
    intro i f e1 e2
    obtain ⟨f, rfl⟩ : ∃ m, f = m + 1 := ⟨f - 1, by omega⟩
    have ei : i = k := by omega
    subst ei
    show spec_l2Put_l0_r _ _ _ = _
    unfold spec_l2Put_l0_r
    by_cases hi : i < l.length
    ·have ea : at_ K_Piiq l i = l[i] := at_get (e := K_Piiq) hi
     simp only [lt_dec hi, if_true, idxIn_nat hi, Int.toNat_natCast, ea, before_eq, h3 hi, Bool.false_eq_true, if_false]
    ·have ei : i = l.length := by omega
     subst ei
     simp only [lt_not, Bool.false_eq_true, if_false]
   | succ q ih =>
    intro i f e1 e2
    obtain ⟨f, rfl⟩ : ∃ m, f = m + 1 := ⟨f - 1, by omega⟩
    have hi : i < l.length := by omega
    show spec_l2Put_l0_r _ _ _ = _
    unfold spec_l2Put_l0_r
    have ea : at_ K_Piiq l i = l[i] := at_get (e := K_Piiq) hi
    simp only [lt_dec hi, if_true, idxIn_nat hi, Int.toNat_natCast, ea, before_eq, h2 i hi (by omega), wrap_up hi hmx]
    exact ih (i + 1) f (by omega) (by omega)
  have := key k 0 (l.length + 2) (by omega) (by omega)
  simp only [Int.natCast_zero] at this
  unfold F_spec_l2Put
  have c1 : (decide (0 <= (0 : Int)) && decide ((0 : Int) <= (k : Int)) && decide ((k : Int) <= (l.length : Int))) = true := by simp; omega
  have s1 : sub_ l 0 (k : Int) = l.take k := by unfold sub_; simp
  have s2 : sub_ l (k : Int) (l.length : Int) = l.drop k := by unfold sub_; simp
  have c2 : decide (List.length ([] : List E) + (l.take k).length <= lim) = true := by unfold lim; simp; omega
  have c3 : decide ((([] : List E) ++ l.take k).length + List.length [e] <= lim) = true := by unfold lim; simp; omega
  have c4 : (decide (0 <= (k : Int)) && decide ((k : Int) <= (l.length : Int)) && decide ((l.length : Int) <= (l.length : Int))) = true := by simp; omega
  have c5 : decide ((([] : List E) ++ l.take k ++ [e]).length + (l.drop k).length <= lim) = true := by unfold lim; simp; omega
  simp only [this, Option.bind_some, c1, if_true, s1, c2, c3, c4, s2, c5]
  rw [h4]
  simp
 ·cases h
end Go.V.W
set_option linter.unusedVariables false
set_option linter.unusedSimpArgs false
namespace Go.V.W
open Go.Proofs
theorem eqB_e (x y : E) : eqB K_Piiq x y = decide (x = y) := by
 obtain ⟨a, b, _⟩ := x
 obtain ⟨c, d, _⟩ := y
 show ((a == c) && ((b == d) && true)) = _
 rw [Bool.eq_iff_iff]
 simp
theorem find_idx {α : Type} (p : α -> Bool) : ∀ l : List α, l.any p = true -> ∃ j, ∃ hj : j < l.length, p l[j] = true /\ (∀ i (hi : i < l.length), i < j -> p l[i] = false) /\ l.find? p = some l[j] := by
 intro l
 induction l with
 | nil => intro h; cases h
 | cons a l ih =>
  intro h
  cases hp : p a with
  | true => exact ⟨0, by simp, hp, fun i hi hij => absurd hij (by omega), by simp [List.find?_cons, hp]⟩
  | false =>
   rw [List.any_cons, hp, Bool.false_or] at h
   obtain ⟨j, hj, h1, h2, h3⟩ := ih h
   refine ⟨j + 1, by simp; exact hj, h1, fun i hi hij => ?_, ?_⟩
   ·cases i with
    | zero => exact hp
    | succ i => exact h2 i (by simpa using hi) (by omega)
   ·rw [List.find?_cons, hp]
    exact h3
end Go.V.W
set_option linter.unusedVariables false
set_option linter.unusedSimpArgs false
namespace Go.V.W
open Go.Proofs
theorem has_nodes (n : Int) (es : List E) (v u : Unit) (l : List Int) (ho : okL es = true) (hl : okL l = true) : F_q54q 0 ((n, es, v), l, u) = some (graphB (n, es, v) && l.all (inB 0 (n - 1)), ()) := by
 unfold F_q54q G_graph G_allWithin
 simp only [ho, hl, if_true, Option.bind_some]
 cases hg : graphB (n, es, v) with
 | false => rfl
 | true =>
  have := graphB_n hg
  have hw : IntKind.wrap .i64 (n - 1) = n - 1 := wrap_in _ (by omega) (by omega)
  simp only [if_true, hw, Bool.true_and, Option.bind_some]
theorem net_some {n : Nat} {es : List E} {v u : Unit} (hg : graphB ((n : Int), es, v) = true) (ho : okL es = true) : G_netOf (((n : Int), es, v), u) = some ((toI (netN n es), ()), ()) := by
 obtain ⟨h0, h8⟩ := graphB_n hg
 obtain ⟨g1, g2⟩ := graphB_edges hg
 unfold G_netOf
 have a1 : (decide (0 <= (n : Int)) && decide ((n : Int) <= 8) && okL es && es.all (edgeB (n : Int))) = true := by simp only [h0, h8, ho, g1, decide_true, Bool.and_self]
 simp only [a1, if_true, Int.toNat_natCast]
end Go.V.W
set_option linter.unusedVariables false
set_option linter.unusedSimpArgs false
namespace Go.V.W
open Go.Proofs
def InvC (n : Nat) (ball : Int -> List Int) (f : Nat -> Nat -> Int) : Prop := ∀ c r, c < n -> r < n -> 1 <= f c r -> ∃ b ∈ ball (c : Int), 0 <= afterT ball (tabL n f) b (r : Int) /\ afterT ball (tabL n f) b (r : Int) + 1 = f c r
theorem after_keep {n : Nat} {ball : Int -> List Int} (hb : okBall n ball) {t : Nat} {f : Nat -> Nat -> Int} {b r : Nat} (hbn : b < n) (hr : r < n) (h : 0 <= afterT ball (tabL n f) (b : Int) (r : Int)) :
  afterT ball (tabL n (stepF n ball (t : Int) f)) (b : Int) (r : Int) = afterT ball (tabL n f) (b : Int) (r : Int) := by
 unfold afterT at h |-
 by_cases hbr : (b : Int) = (r : Int)
 ·rw [if_pos hbr, if_pos hbr]
 ·rw [if_neg hbr] at h |-
  rw [if_neg hbr]
  rcases worst_spec (tab2 (tabL n f) (b : Int)) (ball (r : Int)) 0 with ⟨_, h'⟩ | ⟨hall, _, _⟩
  ·omega
  ·refine worst_congr fun x hx => ?_
   obtain ⟨y, hy, rfl⟩ := hb r hr x hx
   have := (hall (y : Int) hx).1
   rw [tab2_tabL _ hbn hy] at this
   rw [tab2_tabL _ hbn hy, tab2_tabL _ hbn hy]
   refine if_neg fun hcan => ?_
   unfold canF at hcan
   simp only [Bool.and_eq_true, decide_eq_true_eq] at hcan
   omega
theorem InvC.next {n : Nat} {ball : Int -> List Int} (hb : okBall n ball) {t : Nat} {f : Nat -> Nat -> Int} (hI : InvT n ball t f) (hC : InvC n ball f) : InvC n ball (stepF n ball (t : Int) f) := by
 intro c r hc hr h
 by_cases hcan : canF n ball f c r = true
 ·have e : stepF n ball (t : Int) f c r = (t : Int) := if_pos hcan
  rw [e]
  unfold canF at hcan
  simp only [Bool.and_eq_true, decide_eq_true_eq, List.any_eq_true] at hcan
  obtain ⟨hf, b, hbm, h0⟩ := hcan
  have h1 := hI.none c r hc hr hf b hbm
  have h2 := after_high hb hI hc hr hbm
  obtain ⟨b', hb1, rfl⟩ := hb c hc b hbm
  refine ⟨_, hbm, ?_⟩
  rw [after_keep hb hb1 hr h0]
  omega
 ·have e : stepF n ball (t : Int) f c r = f c r := if_neg hcan
  rw [e] at h |-
  obtain ⟨b, hbm, h0, h1⟩ := hC c r hc hr h
  obtain ⟨b', hb1, rfl⟩ := hb c hc b hbm
  refine ⟨_, hbm, ?_⟩
  rw [after_keep hb hb1 hr h0]
  exact ⟨h0, h1⟩
end Go.V.W
set_option linter.unusedVariables false
set_option linter.unusedSimpArgs false
namespace Go.V.W
open Go.Proofs
theorem has2 {S : List Int} {y : Int} (h : okL S = true) (u : Unit) : F_q6q 0 (S, y, u) = some (hasL S y, ()) := by
 unfold F_q6q G_index
 have hge := idxI_ge (fun z => y == z) S 0
 simp only [h, if_true, Option.bind_some, ge_iff_le, hge]
 unfold hasL
 have : (fun z => y == z) = fun z : Int => z == y := by
  funext z
  rw [Bool.beq_comm]
 rw [this]
end Go.V.W
set_option linter.unusedVariables false
set_option linter.unusedSimpArgs false
namespace Go.V.W
open Go.Proofs
theorem setOf_some {m : Nat} (h : m < 256) (u : Unit) : G_setOf ((m : Int), u) = some (setF (fun y => m.testBit y) 8 0, ()) := by
 unfold G_setOf
 simp only [nonneg_dec, Bool.true_and, decide_eq_true (show (m : Int) < 256 by omega), if_true, Int.toNat_natCast]
end Go.V.W
set_option linter.unusedVariables false
set_option linter.unusedSimpArgs false
namespace Go.V.W
open Go.Proofs
theorem small_wrap {j : Nat} (h : j <= 100000) : IntKind.wrap .i64 ((j : Int) + 1) = ((j + 1 : Nat) : Int) := by
 rw [wrap_in _ (by omega) (by omega)]
 rfl
end Go.V.W
set_option linter.unusedVariables false
set_option linter.unusedSimpArgs false
namespace Go.V.W
open Go.Proofs
structure TimI (cf mv : List (List Int)) (ball : Int -> List Int) (n : Nat) (T : Tab) : Prop where
 caught : ∀ c x : Nat, c < cf.length -> x < n -> hasL (cf.getD c []) (x : Int) = true -> tab2 T (c : Int) (x : Int) = 0
 some : ∀ c x : Nat, c < cf.length -> x < n -> 0 <= tab2 T (c : Int) (x : Int) -> hasL (cf.getD c []) (x : Int) = true \/ (1 <= tab2 T (c : Int) (x : Int) /\ ∃ d ∈ mv.getD c [], 0 <= afterG cf ball T d (x : Int))
end Go.V.W
set_option linter.unusedVariables false
set_option linter.unusedSimpArgs false
namespace Go.V.W
open Go.Proofs
structure PlayI (m q : Nat) (es : List E) (v : Unit) : Prop where
 hg : graphB ((m : Int), es, v) = true
 ho : okL es = true
 m1 : 1 <= m
 m8 : m <= 8
 q3 : q <= 3
end Go.V.W
set_option linter.unusedVariables false
set_option linter.unusedSimpArgs false
namespace Go.V.W
open Go.Proofs
structure RoundI (cf mv : List (List Int)) (ball : Int -> List Int) (n : Nat) (t : Int) (T : Tab) : Prop where
 pos : 1 <= t
 low : ∀ c x : Nat, c < cf.length -> x < n -> -1 <= tab2 T (c : Int) (x : Int)
 high : ∀ c x : Nat, c < cf.length -> x < n -> tab2 T (c : Int) (x : Int) < t
 none : ∀ c x : Nat, c < cf.length -> x < n -> tab2 T (c : Int) (x : Int) < 0 -> ∀ d ∈ mv.getD c [], 0 <= afterG cf ball T d (x : Int) -> t - 1 <= afterG cf ball T d (x : Int)
 ex : ∀ c x : Nat, c < cf.length -> x < n -> 1 <= tab2 T (c : Int) (x : Int) -> ∃ d ∈ mv.getD c [], 0 <= afterG cf ball T d (x : Int) /\ afterG cf ball T d (x : Int) + 1 <= tab2 T (c : Int) (x : Int)
 least : ∀ c x : Nat, c < cf.length -> x < n -> 1 <= tab2 T (c : Int) (x : Int) -> ∀ d ∈ mv.getD c [], 0 <= afterG cf ball T d (x : Int) -> tab2 T (c : Int) (x : Int) <= afterG cf ball T d (x : Int) + 1
 zero : ∀ c x : Nat, c < cf.length -> x < n -> (tab2 T (c : Int) (x : Int) = 0 ↔ hasL (cf.getD c []) (x : Int) = true)
structure TimesI (cf mv : List (List Int)) (ball : Int -> List Int) (n : Nat) (T : Tab) : Prop where
 low : ∀ c x : Nat, c < cf.length -> x < n -> -1 <= tab2 T (c : Int) (x : Int)
 none : ∀ c x : Nat, c < cf.length -> x < n -> tab2 T (c : Int) (x : Int) < 0 -> ∀ d ∈ mv.getD c [], afterG cf ball T d (x : Int) < 0
 ex : ∀ c x : Nat, c < cf.length -> x < n -> 1 <= tab2 T (c : Int) (x : Int) -> ∃ d ∈ mv.getD c [], 0 <= afterG cf ball T d (x : Int) /\ afterG cf ball T d (x : Int) + 1 <= tab2 T (c : Int) (x : Int)
 least : ∀ c x : Nat, c < cf.length -> x < n -> 1 <= tab2 T (c : Int) (x : Int) -> ∀ d ∈ mv.getD c [], 0 <= afterG cf ball T d (x : Int) -> tab2 T (c : Int) (x : Int) <= afterG cf ball T d (x : Int) + 1
 zero : ∀ c x : Nat, c < cf.length -> x < n -> (tab2 T (c : Int) (x : Int) = 0 ↔ hasL (cf.getD c []) (x : Int) = true)
end Go.V.W
set_option linter.unusedVariables false
set_option linter.unusedSimpArgs false
namespace Go.V.W
open Go.Proofs
theorem okL_mx {α : Type} {l : List α} (h : okL l = true) : l.length <= maxLen := lim_max (of_decide_eq_true h)
theorem rHas_lim (d) (r) (h : G_rHas d = some r) : ∃ N, F_laws_rHas N d = some r := by
 obtain ⟨l, x, _⟩ := d
 unfold G_rHas at h
 split at h
 ·rename_i hl
  have hl : okL l = true := hl
  have hmx := okL_mx hl
  have h := Option.some.inj h
  subst h
  refine ⟨l.length + 1, ?_⟩
  unfold F_laws_rHas
  have := loop_idx (L := laws_rHas_l0 (l.length + 1)) (r := laws_rHas_l0_r (l.length + 1)) (fun _ _ => rfl) (e := I) l (mk := fun i => (l, x, (i : Int), ())) (q := fun z => z == x) (o := fun _ => .inl (true, ())) (f := .inr (.inl ()))
   (by
    intro back i hi
    unfold laws_rHas_l0_r
    simp only [lt_dec hi, if_true, idxIn_nat hi, Int.toNat_natCast, wrap_up hi hmx])
   (by intro back; unfold laws_rHas_l0_r; simp only [lt_not, Bool.false_eq_true, if_false]) l.length 0 (by omega) (by omega)
  simp only [Int.natCast_zero, List.drop_zero] at this
  have hge := idxI_ge (fun z => z == x) l 0
  simp only [this, Option.bind_some]
  unfold hasL
  cases hi : idxN (fun z => z == x) l 0 with
  | none =>
   rw [hi] at hge
   have : (l.any fun z => z == x) = false := by rw [<- hge]; rfl
   simp only [this]
  | some j =>
   rw [hi] at hge
   have : (l.any fun z => z == x) = true := by
    rw [<- hge]
    simp [idxI]
   simp only [this]
 ·cases h
theorem ri_l0 (N : Nat) (a b : List Int) (hl : a.length = b.length) (hmx : a.length <= maxLen) : ∀ k i f, i + k = a.length -> k < f -> ∃ o, laws_rInts_l0 N f (a, b, (i : Int), ()) = some o /\ ((o = .inl (false, ()) /\ ¬ a.drop i = b.drop i) \/ (o = .inr (.inl ()) /\ a.drop i = b.drop i)) := by
 intro k
 induction k with
 | zero =>
  intro i f h1 h2
  obtain ⟨f, rfl⟩ : ∃ m, f = m + 1 := ⟨f - 1, by omega⟩
  have e : i = a.length := by omega
  refine ⟨.inr (.inl ()), ?_, .inr ⟨rfl, by rw [List.drop_of_length_le (by omega), List.drop_of_length_le (by omega)]⟩⟩
  subst e
  show laws_rInts_l0_r _ _ _ = _
  unfold laws_rInts_l0_r
  simp only [lt_not, Bool.false_eq_true, if_false]
 | succ k ih =>
  intro i f h1 h2
  obtain ⟨f, rfl⟩ : ∃ m, f = m + 1 := ⟨f - 1, by omega⟩
  have hi : i < a.length := by omega
  have hi2 : i < b.length := by omega
  have ea : at_ I a i = a[i] := at_get (e := I) hi
  have eb : at_ I b i = b[i] := at_get (e := I) hi2
  obtain ⟨o, o1, o2⟩ := ih (i + 1) f (by omega) (by omega)
  rw [List.drop_eq_getElem_cons hi, List.drop_eq_getElem_cons hi2]
  have step : laws_rInts_l0 N (f + 1) (a, b, (i : Int), ()) = if (a[i] != b[i]) = true then some (.inl (false, ())) else laws_rInts_l0 N f (a, b, ((i + 1 : Nat) : Int), ()) := by
   show laws_rInts_l0_r _ _ _ = _
   unfold laws_rInts_l0_r
   simp only [lt_dec hi, if_true, idxIn_nat hi, idxIn_nat hi2, Int.toNat_natCast, ea, eb, wrap_up hi hmx]
  rw [step]
  by_cases e : a[i] = b[i]
  ·have : (a[i] != b[i]) = false := by simp [e]
   rw [this]
   simp only [Bool.false_eq_true, if_false]
   refine ⟨o, o1, ?_⟩
   rcases o2 with ⟨p1, p2⟩ | ⟨p1, p2⟩
   ·exact .inl ⟨p1, fun h => p2 (List.cons.inj h).2⟩
   ·exact .inr ⟨p1, by rw [e, p2]⟩
  ·have : (a[i] != b[i]) = true := by simp [e]
   rw [this]
   simp only [if_true]
   exact ⟨_, rfl, .inl ⟨rfl, fun h => e (List.cons.inj h).1⟩⟩
theorem rInts_lim (d) (r) (h : G_rInts d = some r) : ∃ N, F_laws_rInts N d = some r := by
 obtain ⟨a, b, _⟩ := d
 unfold G_rInts at h
 split at h
 ·rename_i hl
  have hl : okL a = true := hl
  have hmx := okL_mx hl
  have h := Option.some.inj h
  subst h
  refine ⟨a.length + 1, ?_⟩
  unfold F_laws_rInts
  by_cases hne : a.length = b.length
  ·have e : ((a.length : Int) != (b.length : Int)) = false := by simp; omega
   obtain ⟨o, o1, o2⟩ := ri_l0 (a.length + 1) a b hne hmx a.length 0 (a.length + 1) (by omega) (by omega)
   simp only [Int.natCast_zero, List.drop_zero] at o1 o2
   simp only [e, Bool.false_eq_true, if_false, o1, Option.bind_some]
   rcases o2 with ⟨rfl, h2⟩ | ⟨rfl, h2⟩
   ·simp only [h2, decide_false]
   ·simp only [h2, decide_true]
  ·have e : ((a.length : Int) != (b.length : Int)) = true := by simp; omega
   have h2 : ¬ a = b := fun h => hne (by rw [h])
   simp only [e, if_true, h2, decide_false]
 ·cases h
theorem rt_l0 (N : Nat) (a b : List (List Int)) (hl : a.length = b.length) (hok : a.all okL = true) (hmx : a.length <= maxLen) : ∀ k i f, i + k = a.length -> k < f -> ∃ o, q75q_l0 N f (a, b, (i : Int), ()) = some o /\ ((o = .inl (false, ()) /\ ¬ a.drop i = b.drop i) \/ (o = .inr (.inl ()) /\ a.drop i = b.drop i)) := by
 intro k
 induction k with
 | zero =>
  intro i f h1 h2
  obtain ⟨f, rfl⟩ : ∃ m, f = m + 1 := ⟨f - 1, by omega⟩
  have e : i = a.length := by omega
  refine ⟨.inr (.inl ()), ?_, .inr ⟨rfl, by rw [List.drop_of_length_le (by omega), List.drop_of_length_le (by omega)]⟩⟩
  subst e
  show q75q_l0_r _ _ _ = _
  unfold q75q_l0_r
  simp only [lt_not, Bool.false_eq_true, if_false]
 | succ k ih =>
  intro i f h1 h2
  obtain ⟨f, rfl⟩ : ∃ m, f = m + 1 := ⟨f - 1, by omega⟩
  have hi : i < a.length := by omega
  have hi2 : i < b.length := by omega
  have ea : at_ K_Si a i = a[i] := at_get (e := K_Si) hi
  have eb : at_ K_Si b i = b[i] := at_get (e := K_Si) hi2
  have hoi : okL a[i] = true := List.all_eq_true.1 hok _ (List.getElem_mem hi)
  obtain ⟨o, o1, o2⟩ := ih (i + 1) f (by omega) (by omega)
  rw [List.drop_eq_getElem_cons hi, List.drop_eq_getElem_cons hi2]
  have step : q75q_l0 N (f + 1) (a, b, (i : Int), ()) = if (!decide (a[i] = b[i])) = true then some (.inl (false, ())) else q75q_l0 N f (a, b, ((i + 1 : Nat) : Int), ()) := by
   show q75q_l0_r _ _ _ = _
   unfold q75q_l0_r
   simp only [lt_dec hi, if_true, idxIn_nat hi, idxIn_nat hi2, Int.toNat_natCast, ea, eb, G_rInts, hoi, Option.bind_some, wrap_up hi hmx]
  rw [step]
  by_cases e : a[i] = b[i]
  ·have : (!decide (a[i] = b[i])) = false := by simp [e]
   rw [this]
   simp only [Bool.false_eq_true, if_false]
   refine ⟨o, o1, ?_⟩
   rcases o2 with ⟨p1, p2⟩ | ⟨p1, p2⟩
   ·exact .inl ⟨p1, fun h => p2 (List.cons.inj h).2⟩
   ·exact .inr ⟨p1, by rw [e, p2]⟩
  ·have : (!decide (a[i] = b[i])) = true := by simp [e]
   rw [this]
   simp only [if_true]
   exact ⟨_, rfl, .inl ⟨rfl, fun h => e (List.cons.inj h).1⟩⟩
theorem rTable_lim (d) (r) (h : G_rTable d = some r) : ∃ N, F_q75q N d = some r := by
 obtain ⟨a, b, _⟩ := d
 unfold G_rTable at h
 split at h
 ·rename_i hl
  have hl : okLL a = true := hl
  obtain ⟨hl1, hl2⟩ := okLL_of hl
  have hmx := okL_mx hl1
  have h := Option.some.inj h
  subst h
  refine ⟨a.length + 1, ?_⟩
  unfold F_q75q
  by_cases hne : a.length = b.length
  ·have e : ((a.length : Int) != (b.length : Int)) = false := by simp; omega
   obtain ⟨o, o1, o2⟩ := rt_l0 (a.length + 1) a b hne hl2 hmx a.length 0 (a.length + 1) (by omega) (by omega)
   simp only [Int.natCast_zero, List.drop_zero] at o1 o2
   simp only [e, Bool.false_eq_true, if_false, o1, Option.bind_some]
   rcases o2 with ⟨rfl, h2⟩ | ⟨rfl, h2⟩
   ·simp only [h2, decide_false]
   ·simp only [h2, decide_true]
  ·have e : ((a.length : Int) != (b.length : Int)) = true := by simp; omega
   have h2 : ¬ a = b := fun h => hne (by rw [h])
   simp only [e, if_true, h2, decide_false]
 ·cases h
end Go.V.W
set_option linter.unusedVariables false
set_option linter.unusedSimpArgs false
namespace Go.V.W
open Go.Proofs
theorem rPart_lim (d) (r) (h : G_rPart d = some r) : ∃ N, F_laws_rPart N d = some r := by
 obtain ⟨a, b, _⟩ := d
 unfold G_rPart at h
 split at h
 ·rename_i hc
  rw [Bool.and_eq_true] at hc
  have ha : okL a = true := hc.1
  have hb : okL b = true := hc.2
  have hmx := okL_mx ha
  cases Option.some.inj h
  refine ⟨a.length + 1, ?_⟩
  unfold F_laws_rPart
  have hl := loop_every (L := laws_rPart_l0 (a.length + 1)) (r := laws_rPart_l0_r (a.length + 1)) (fun _ _ => rfl) a (mk := fun i => (a, b, (i : Int), ())) (q := hasL b) (o := .inl (false, ())) (f := .inr (.inl ()))
   (by
    intro back i hi
    have e : at_ I a i = a[i] := at_get (e := I) hi
    have hg : G_rHas (b, a[i], ()) = some (hasL b a[i], ()) := by unfold G_rHas; simp only [hb, if_true]
    unfold laws_rPart_l0_r
    simp only [lt_dec hi, if_true, idxIn_nat hi, Int.toNat_natCast, e, hg, Option.bind_some, wrap_up hi hmx]
    cases hasL b a[i] <;> simp)
   (by intro back; unfold laws_rPart_l0_r; simp only [lt_not, Bool.false_eq_true, if_false]) a.length 0 (by omega) (by omega)
  simp only [Int.natCast_zero, List.drop_zero] at hl
  simp only [hl, Option.bind_some]
  cases a.all (hasL b) <;> simp
 ·cases h
end Go.V.W
set_option linter.unusedVariables false
set_option linter.unusedSimpArgs false
namespace Go.V.W
open Go.Proofs
theorem implNB {m : Nat} {es : List E} {v : Unit} (hg : graphB ((m : Int), es, v) = true) (ho : okL es = true) {x : Nat} (hx : x < m) (u : Unit) : F_q26q 0 (((m : Int), es, v), (x : Int), u) = some (setF (fun y => nearI es (x : Int) (y : Int)) m 0, true, ()) := by
 obtain ⟨n0, n8⟩ := graphB_n hg
 have m8 : m <= 8 := by omega
 obtain ⟨g1, _⟩ := graphB_edges hg
 have hok := netN_ok m8 g1
 have hxi : inB 0 ((m : Int) - 1) (x : Int) = true := inB_iff.2 (by omega)
 have hlt : x < (netN m es).length := by rw [hok.1]; exact hx
 have hlt2 : x < (toI (netN m es)).length := by rw [toI_len]; exact hlt
 have ex : at_ I (toI (netN m es)) x = (((netN m es).getD x 0 : Nat) : Int) := by
  rw [at_get (e := I) hlt2]
  show (toI (netN m es))[x] = _
  simp only [toI, List.getElem_map, List.getD_eq_getElem?_getD, List.getElem?_eq_getElem hlt, Option.getD_some]
 have hM : isM m ((netN m es).getD x 0) (fun y => nearI es (x : Int) (y : Int)) := by
  refine ⟨hok.2 x, fun y => ?_⟩
  have := netN_bit m8 g1 x y
  unfold hasN at this
  rw [this, isE_near es g1]
  cases hn : nearI es (x : Int) (y : Int) with
  | false => simp [hn]
  | true => simp [hn, near_lt g1 hn]
 unfold F_q26q
 simp only [has_nodes (m : Int) es v () [(x : Int)] ho (okL_of (by simp)), hg, List.all_cons, List.all_nil, hxi, Bool.and_true, Bool.and_self, Option.bind_some, Bool.not_true, Bool.false_eq_true, if_false, net_some hg ho, idxIn_nat hlt2, if_true, Int.toNat_natCast, ex, setOf_some hM.1, setF_mask m8 hM]
end Go.V.W
set_option linter.unusedVariables false
set_option linter.unusedSimpArgs false
namespace Go.V.W
open Go.Proofs
theorem at_l {e : Kd} {l : List e.den} {i : Nat} (h : i < l.length) : at_ e l i = l[i] := at_get h
end Go.V.W
set_option linter.unusedVariables false
set_option linter.unusedSimpArgs false
namespace Go.V.W
open Go.Proofs
theorem time_n {t : Tt} (h : timeB t = true) : t.1.1 = (t.1.1.toNat : Int) /\ 0 < t.1.1.toNat /\ t.1.1.toNat <= 8 /\ t.2.1 = (t.2.1.toNat : Int) /\ 1 <= t.2.1.toNat /\ t.2.1.toNat <= 4 /\ t.1.2.1.all (edgeB (t.1.1.toNat : Int)) = true /\ risingE t.1.2.1 = true := by
 obtain ⟨g1, g2, g3, g4⟩ := timeB_parts h
 have g3 := inB_iff.1 g3
 have hn := graphB_n (n := t.1.1) (l := t.1.2.1) (u := t.1.2.2) g1
 obtain ⟨hE, hR⟩ := graphB_edges (n := t.1.1) (l := t.1.2.1) (u := t.1.2.2) g1
 have e : t.1.1 = (t.1.1.toNat : Int) := by omega
 refine ⟨e, by omega, by omega, by omega, by omega, by omega, by rw [<- e]; exact hE, hR⟩
end Go.V.W
set_option linter.unusedVariables false
set_option linter.unusedSimpArgs false
namespace Go.V.W
theorem tabL_at {n c : Nat} (f : Nat -> Nat -> Int) (hc : c < n) : at_ K_Si (tabL n f) c = (List.range n).map (f c) := by
 have h : c < (tabL n f).length := by rw [tabL_len]; exact hc
 rw [at_l (e := K_Si) h]
 apply Option.some.inj
 rw [<- List.getElem?_eq_getElem h]
 exact tabL_row f hc
structure Inv3 (p n : Nat) (ball : Nat -> Int -> List Int) (f : Nat -> Nat -> Nat -> Int) : Prop where
 low : ∀ r c q, -1 <= f r c q
 home : ∀ r c, f r c c = 0
 away : ∀ r c q, c ≠ q -> f r c q ≠ 0
 why : ∀ r c q, r < p -> c < n -> q < n -> 0 <= f r c q -> c = q \/ ∃ b ∈ ball r (c : Int), 0 <= afterT (ball r) (tabL n (f ((r + 1) % p))) b (q : Int)
theorem Inv3.start (p n : Nat) (ball : Nat -> Int -> List Int) : Inv3 p n ball start3 := by
 refine ⟨fun r c q => ?_, fun r c => ?_, fun r c q h => ?_, fun r c q _ _ _ h => ?_⟩
 ·unfold start3 startF; split <;> omega
 ·unfold start3 startF; simp
 ·unfold start3 startF; rw [if_neg h]; omega
 ·unfold start3 startF at h
  by_cases e : c = q
  ·exact .inl e
  ·rw [if_neg e] at h; omega
def okBalls (p n : Nat) (ball : Nat -> Int -> List Int) : Prop := ∀ r, r < p -> okBall n (ball r)
theorem after_mono {n : Nat} {ball : Int -> List Int} (hb : okBall n ball) {f g : Nat -> Nat -> Int} (h : ∀ c q, 0 <= f c q -> 0 <= g c q) {b q : Nat} (hbn : b < n) (hq : q < n) (h0 : 0 <= afterT ball (tabL n f) (b : Int) (q : Int)) : 0 <= afterT ball (tabL n g) (b : Int) (q : Int) := by
 unfold afterT at h0 |-
 by_cases e : (b : Int) = (q : Int)
 ·rw [if_pos e]; exact Int.le_refl _
 ·rw [if_neg e] at h0 |-
  rcases worst_spec (tab2 (tabL n f) (b : Int)) (ball (q : Int)) 0 with ⟨_, h1⟩ | ⟨h1, _, _⟩
  ·omega
  ·rcases worst_spec (tab2 (tabL n g) (b : Int)) (ball (q : Int)) 0 with ⟨⟨x, hx, h2⟩, _⟩ | ⟨_, h2, _⟩
   ·exfalso
    obtain ⟨y, hy, rfl⟩ := hb q hq x hx
    have := (h1 _ hx).1
    rw [tab2_tabL _ hbn hy] at this h2
    have := h _ _ this
    omega
   ·exact h2
theorem Inv3.next {p n : Nat} {ball : Nat -> Int -> List Int} (hb : okBalls p n ball) {t : Int} (ht : 1 <= t) {f : Nat -> Nat -> Nat -> Int} (hI : Inv3 p n ball f) : Inv3 p n ball (step3 p n ball t f) := by
 have hkeep : ∀ r c q, 0 <= f r c q -> step3 p n ball t f r c q = f r c q := fun r c q h => by
  unfold step3 can3
  have : decide (f r c q < 0) = false := by simp; omega
  simp [this]
 have hge : ∀ r c q, 0 <= f r c q -> 0 <= step3 p n ball t f r c q := fun r c q h => by rw [hkeep r c q h]; exact h
 refine ⟨fun r c q => ?_, fun r c => ?_, fun r c q h => ?_, fun r c q hr hc hq h => ?_⟩
 ·unfold step3; split
  ·omega
  ·exact hI.low r c q
 ·rw [hkeep r c c (by rw [hI.home]; exact Int.le_refl _)]; exact hI.home r c
 ·unfold step3; split
  ·omega
  ·exact hI.away r c q h
 ·have key : (∃ b ∈ ball r (c : Int), 0 <= afterT (ball r) (tabL n (f ((r + 1) % p))) b (q : Int)) -> ∃ b ∈ ball r (c : Int), 0 <= afterT (ball r) (tabL n (step3 p n ball t f ((r + 1) % p))) b (q : Int) := by
   rintro ⟨b, hbm, h1⟩
   obtain ⟨y, hy, rfl⟩ := hb r hr c hc b hbm
   exact ⟨_, hbm, after_mono (hb r hr) (hge _) hy hq h1⟩
  by_cases hf : 0 <= f r c q
  ·exact (hI.why r c q hr hc hq hf).imp _root_.id key
  ·right
   have hcan : can3 p n ball f r c q = true := by
    cases hcan : can3 p n ball f r c q with
    | true => rfl
    | false => unfold step3 at h; rw [if_neg (by rw [hcan]; simp)] at h; exact absurd h hf
   unfold can3 at hcan
   simp only [Bool.and_eq_true, List.any_eq_true, decide_eq_true_eq] at hcan
   exact key hcan.2
end Go.V.W
set_option linter.unusedVariables false
set_option linter.unusedSimpArgs false
namespace Go.V.W
open Go.Proofs
theorem repeat_some {n : Nat} (h1 : 1 <= n) (h8 : n <= 8) : G_repeat ([-1], (n : Int), ()) = some (List.replicate n (-1), ()) := by
 unfold G_repeat
 have e1 : decide (1 <= (n : Int)) = true := by simp; omega
 have e2 : decide ((n : Int) <= 8) = true := by simp; omega
 simp only [List.length_singleton, decide_true, e1, e2, Bool.and_self, if_true, Int.toNat_natCast, List.headD_cons]
structure TT (nets : List Nt) (p n : Nat) : Prop where
 ok : netsB n nets = true
 len : nets.length = p
 n8 : n <= 8
end Go.V.W
set_option linter.unusedVariables false
set_option linter.unusedSimpArgs false
namespace Go.V.W
open Go.Proofs
theorem sq_ok {n : Nat} (hn : n <= 8) {rows : Tab} (h : sqL n rows = true) : okLL rows = true /\ sumL rows <= 64 := by
 unfold sqL at h
 simp only [Bool.and_eq_true, decide_eq_true_eq, List.all_eq_true] at h
 have key : ∀ (l : Tab), (∀ x ∈ l, x.length = n) -> sumL l <= 8 * l.length := by
  intro l
  induction l with
  | nil => intro _; simp [sumL]
  | cons x l ih =>
   intro hl
   have h1 := hl x (by simp)
   have h2 := ih fun y hy => hl y (by simp [hy])
   simp only [sumL, List.length_cons]
   omega
 refine ⟨okLL_small (by omega) (List.all_eq_true.2 fun x hx => decide_eq_true (by rw [h.2 x hx]; omega)), ?_⟩
 have := key rows h.2
 omega
theorem clock_ok {t : Tt} (ht : timeB t = true) {c : Int} (hc : inB 0 1000 c = true) : (t.2.1 != 0) = true /\ c.tmod t.2.1 = (clockN t c : Int) /\ clockN t c < t.2.1.toNat := by
 obtain ⟨n1, n2, n3, p1, p2, p3, _⟩ := time_n ht
 have hc := inB_iff.1 hc
 have := tmod_lt hc.1 (show 0 < t.2.1 by omega)
 unfold clockN
 refine ⟨?_, by omega, by omega⟩
 rw [bne_iff_ne]
 omega
end Go.V.W
