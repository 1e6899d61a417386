/- What is held of the types' rows, and what the machine does at them. -/
import Derived.Test.YtmeglfoapdkhdaaVStore
import Derived.Laws.Entries
import Derived.Laws.Append
import Derived.Laws.AppendOwn
import Derived.Laws.Cells
import Derived.Laws.Tables
namespace Go.V

/-- A zero value's cells. -/
def zeroC : Kd → List Value
  | .int ik => [.int ik 0]
  | .bool => [.bool false]
  | .str => [.string ByteArray.empty]
  | .slice _ => [.slice none 0 0]
  | .unit => []
  | .pair a b => zeroC a ++ zeroC b
  | .bx _ => [.pointer none]
  | .clo .. => [.nilFunc]
def isZero1 : Kd → Value → Bool
  | .int ik, .int ik' n => decide (ik = ik') && decide (n = 0)
  | .bool, .bool b => !b
  | .str, .string s => decide (s = ByteArray.empty)
  | .slice _, .slice none 0 0 => true
  | _, _ => false
/-- Whether cells begin with a kind's zero; what is left. -/
def zeroL : Kd → List Value → Option (List Value)
  | .unit, c => some c
  | .pair a b, c => (zeroL a c).bind (zeroL b)
  | k, v :: c => bif isZero1 k v then some c else none
  | _, [] => none
def isZeroV (k : Kd) (v : Value) : Bool :=
  (isAggV v == k.agg) && match zeroL k v.cells.toList with
    | some [] => true
    | _ => false

def fieldsOk (P : Program) (tk : TypeId → Option Kd) : List Field → Nat → Kd → Bool
  | [], _, .unit => true
  | f :: fs, off, .pair a b => Nat.beq f.offset off && decide (tk f.type = some a) && decide (0 < a.size) && fieldsOk P tk fs (off + a.size) b
  | _, _, _ => false
def arrOk (tk : TypeId → Option Kd) (e : TypeId) : Nat → Kd → Bool
  | 0, .unit => true
  | n + 1, .pair a b => decide (tk e = some a) && arrOk tk e n b
  | _, _ => false

def tyOkB (P : Program) (tk : TypeId → Option Kd) (ar : TypeId → Option TypeId) (t : TypeId) (k : Kd) : Bool :=
  match P.info? t with
  | none => false
  | some i => Nat.beq i.size k.size && (match i.zero with | some z => isZeroV k z | none => false) && decide (i.bytes ≤ 128) &&
    match P.underlying t, k with
    | some (.int ik), .int ik' => decide (ik = ik')
    | some .bool, .bool => true
    | some .string, .str => true
    | some (.slice e), .slice ke => decide (tk e = some ke) && decide (0 < ke.size)
    | some (.struct fs), k => k.agg && (ar t).isNone && fieldsOk P tk fs.toList 0 k
    | some (.array n e), k => k.agg && decide (ar t = some e) && arrOk tk e n k
    | _, _ => false

/-- The table is the program's. -/
def TabOk (P : Program) (tk : TypeId → Option Kd) (ar : TypeId → Option TypeId) : Prop := ∀ t k, tk t = some k → tyOkB P tk ar t k = true

theorem decL_rep {w : World} : ∀ {k : Kd} {q : Path} {c r : List Value} {d : k.den}, decL k c = some (d, r) → ∃ c', c = c' ++ r ∧ c'.length = k.size ∧ Rep w (fun _ _ => False) k q c' d := by
  intro k
  induction k with
  | int ik =>
    intro q c r d h
    cases c with
    | nil => simp [decL] at h
    | cons v c =>
      cases v <;> simp [decL] at h
      obtain ⟨h1, h2, h3⟩ := h
      subst h1 h2 h3
      exact ⟨[_], rfl, rfl, rfl⟩
  | bool =>
    intro q c r d h
    cases c with
    | nil => simp [decL] at h
    | cons v c =>
      cases v <;> simp [decL] at h
      obtain ⟨h2, h3⟩ := h
      subst h2 h3
      exact ⟨[_], rfl, rfl, rfl⟩
  | str =>
    intro q c r d h
    cases c with
    | nil => simp [decL] at h
    | cons v c =>
      cases v <;> simp [decL] at h
      obtain ⟨h2, h3⟩ := h
      subst h2 h3
      exact ⟨[_], rfl, rfl, rfl⟩
  | slice e ih =>
    intro q c r d h
    have key : c = .slice none 0 0 :: r ∧ d = [] := by
      cases c with
      | nil => simp [decL] at h
      | cons v c =>
        cases v with
        | slice a n m =>
          cases a with
          | some a => simp [decL] at h
          | none =>
            cases n with
            | succ n => simp [decL] at h
            | zero =>
              cases m with
              | succ m => simp [decL] at h
              | zero => simp [decL] at h; obtain ⟨h2, h3⟩ := h; subst h2 h3; exact ⟨rfl, rfl⟩
        | _ => simp [decL] at h
    obtain ⟨h2, h3⟩ := key
    subst h2 h3
    exact ⟨[_], rfl, rfl, by simp [Rep]⟩
  | unit =>
    intro q c r d h
    simp [decL] at h
    subst h
    exact ⟨[], rfl, rfl, rfl⟩
  | pair a b iha ihb =>
    intro q c r d h
    simp only [decL] at h
    split at h
    · rename_i x r1 h1
      split at h
      · rename_i y r2 h2
        simp only [Option.some.injEq, Prod.mk.injEq] at h
        obtain ⟨h3, h4⟩ := h
        subst h3 h4
        obtain ⟨c1, e1, l1, p1⟩ := iha (q := q ++ [.l]) h1
        obtain ⟨c2, e2, l2, p2⟩ := ihb (q := q ++ [.r]) h2
        refine ⟨c1 ++ c2, by rw [e1, e2, List.append_assoc], by simp [Kd.size, l1, l2], ?_⟩
        simp only [Rep]
        rw [List.take_append_of_le_length (by omega), List.take_of_length_le (by omega), List.drop_append_of_le_length (by omega), List.drop_of_length_le (by omega)]
        exact ⟨p1, by simpa using p2⟩
      · simp at h
    · simp at h
  | bx k ih => intro q c r d h; cases c <;> simp [decL] at h
  | clo f a b iha ihb => intro q c r d h; cases c <;> simp [decL] at h

theorem mkVal_cells {w : World} {S : OwnS} {k : Kd} {q : Path} {c : List Value} {d : k.den} (h : Rep w S k q c d) : (mkVal k c).cells.toList = c := by
  cases k with
  | int ik => simp only [Rep] at h; subst h; rfl
  | bool => simp only [Rep] at h; subst h; rfl
  | str => simp only [Rep] at h; subst h; rfl
  | slice e =>
    simp only [Rep] at h
    rcases h with ⟨⟨_, h⟩, _⟩ | ⟨b, off, cap, h, _⟩ <;> subst h <;> rfl
  | unit => rfl
  | pair a b => rfl
  | bx k => obtain ⟨b, off, h, _⟩ := h; subst h; rfl
  | clo f a b => obtain ⟨c1, c2, h, _⟩ := h; subst h; rfl
theorem mkVal_agg {w : World} {S : OwnS} {k : Kd} {q : Path} {c : List Value} {d : k.den} (h : Rep w S k q c d) : isAggV (mkVal k c) = k.agg := by
  cases k with
  | int ik => simp only [Rep] at h; subst h; rfl
  | bool => simp only [Rep] at h; subst h; rfl
  | str => simp only [Rep] at h; subst h; rfl
  | slice e =>
    simp only [Rep] at h
    rcases h with ⟨⟨_, h⟩, _⟩ | ⟨b, off, cap, h, _⟩ <;> subst h <;> rfl
  | unit => rfl
  | pair a b => rfl
  | bx k => obtain ⟨b, off, h, _⟩ := h; subst h; rfl
  | clo f a b => obtain ⟨c1, c2, h, _⟩ := h; subst h; rfl

theorem dec_rep {w : World} {k : Kd} {v : Value} {d : k.den} (h : dec k v = some d) : ∃ c, v = mkVal k c ∧ Rep w (fun _ _ => False) k [] c d := by
  unfold dec at h
  cases ha : isAggV v == k.agg with
  | false => rw [ha] at h; simp at h
  | true =>
    rw [ha] at h
    simp only [cond_true] at h
    split at h
    · rename_i d' hd
      simp only [Option.some.injEq] at h
      subst h
      obtain ⟨c, h1, h2, h3⟩ := decL_rep (w := w) (q := []) hd
      simp only [List.append_nil] at h1
      refine ⟨c, ?_, h3⟩
      have ha' : isAggV v = k.agg := by simpa using ha
      unfold mkVal
      rw [← ha']
      cases v with
      | agg cs => simp only [isAggV, cond_true]; rw [← h1]; simp [Value.cells]
      | _ => simp only [isAggV, cond_false]; rw [← h1]; simp [Value.cells]
    · simp at h

theorem zeroL_spec : ∀ {k : Kd} {c r : List Value}, zeroL k c = some r → c = zeroC k ++ r := by
  intro k
  induction k with
  | pair a b iha ihb =>
    intro c r h
    simp only [zeroL, Option.bind_eq_some_iff] at h
    obtain ⟨r1, h1, h2⟩ := h
    rw [iha h1, ihb h2]
    simp [zeroC]
  | unit => intro c r h; simp [zeroL] at h; subst h; rfl
  | bx k ih => intro c r h; cases c <;> simp [zeroL, isZero1] at h
  | clo f a b iha ihb => intro c r h; cases c <;> simp [zeroL, isZero1] at h
  | int ik =>
    intro c r h
    cases c with
    | nil => simp [zeroL] at h
    | cons v c =>
      simp only [zeroL] at h
      cases hb : isZero1 (.int ik) v with
      | false => rw [hb] at h; simp at h
      | true =>
        rw [hb] at h
        simp at h
        subst h
        cases v <;> simp [isZero1] at hb
        obtain ⟨h1, h2⟩ := hb
        subst h1 h2
        rfl
  | bool =>
    intro c r h
    cases c with
    | nil => simp [zeroL] at h
    | cons v c =>
      simp only [zeroL] at h
      cases hb : isZero1 .bool v with
      | false => rw [hb] at h; simp at h
      | true =>
        rw [hb] at h
        simp at h
        subst h
        cases v <;> simp [isZero1] at hb
        subst hb
        rfl
  | str =>
    intro c r h
    cases c with
    | nil => simp [zeroL] at h
    | cons v c =>
      simp only [zeroL] at h
      cases hb : isZero1 .str v with
      | false => rw [hb] at h; simp at h
      | true =>
        rw [hb] at h
        simp at h
        subst h
        cases v <;> simp [isZero1] at hb
        subst hb
        rfl
  | slice e ih =>
    intro c r h
    cases c with
    | nil => simp [zeroL] at h
    | cons v c =>
      simp only [zeroL] at h
      cases hb : isZero1 (.slice e) v with
      | false => rw [hb] at h; simp at h
      | true =>
        rw [hb] at h
        simp at h
        subst h
        unfold isZero1 at hb
        split at hb <;> simp_all [zeroC]
theorem zeroC_length (k : Kd) : (zeroC k).length = k.size := by
  induction k <;> simp_all [zeroC, Kd.size]
theorem zeroC_rep {w : World} {S : OwnS} : ∀ (k : Kd) (q : Path), k.pure = true → Rep w S k q (zeroC k) k.zero := by
  intro k
  induction k with
  | pair a b iha ihb =>
    intro q hp
    simp only [Kd.pure, Bool.and_eq_true] at hp
    have la := zeroC_length a
    simp only [Rep, zeroC, Kd.zero]
    rw [List.take_append_of_le_length (by omega), List.take_of_length_le (by omega), List.drop_append_of_le_length (by omega), List.drop_of_length_le (by omega)]
    exact ⟨iha _ hp.1, by simpa using ihb _ hp.2⟩
  | slice e ih => intro q _; simp [Rep, zeroC, Kd.zero]
  | bx k ih => intro q hp; simp [Kd.pure] at hp
  | clo f a b iha ihb => intro q hp; simp [Kd.pure] at hp
  | _ => intro q _; simp [Rep, zeroC, Kd.zero]

/-- A type's row, opened. -/
structure Row (P : Program) (t : TypeId) (k : Kd) (i : TypeInfo) (z : Value) : Prop where
  info : P.info? t = some i
  size : i.size = k.size
  zero : i.zero = some z
  zcells : z.cells.toList = zeroC k
  zval : z = mkVal k (zeroC k)
  bytes : i.bytes ≤ 128
theorem row_of {P : Program} {tk : TypeId → Option Kd} {ar : TypeId → Option TypeId} (hT : TabOk P tk ar) {t : TypeId} {k : Kd} (h : tk t = some k) : ∃ i z, Row P t k i z := by
  have h := hT t k h
  unfold tyOkB at h
  cases hi : P.info? t with
  | none => rw [hi] at h; simp at h
  | some i =>
    rw [hi] at h
    simp only [Bool.and_eq_true, decide_eq_true_eq] at h
    obtain ⟨⟨⟨h1, h2⟩, h3⟩, _⟩ := h
    cases hz : i.zero with
    | none => rw [hz] at h2; simp at h2
    | some z =>
      rw [hz] at h2
      simp only [isZeroV, Bool.and_eq_true, beq_iff_eq] at h2
      obtain ⟨h2, h4⟩ := h2
      split at h4
      · rename_i hl
        have hc := zeroL_spec hl
        simp only [List.append_nil] at hc
        refine ⟨i, z, hi, Nat.eq_of_beq_eq_true h1, hz, hc, ?_, h3⟩
        unfold mkVal
        rw [← h2]
        cases z with
        | agg cs => simp only [isAggV, cond_true]; rw [← hc]; simp [Value.cells]
        | _ => simp only [isAggV, cond_false]; rw [← hc]; simp [Value.cells]
      · simp at h4

section
variable {P : Program} {tk : TypeId → Option Kd} {ar : TypeId → Option TypeId}
theorem under_slice (hT : TabOk P tk ar) {t : TypeId} {ke : Kd} (h : tk t = some (.slice ke)) : ∃ e, P.underlying t = some (.slice e) ∧ tk e = some ke ∧ 0 < ke.size := by
  have h := hT t _ h
  unfold tyOkB at h
  cases hi : P.info? t with
  | none => rw [hi] at h; simp at h
  | some i =>
    rw [hi] at h
    simp only [Bool.and_eq_true] at h
    have h := h.2
    split at h <;> simp_all [Kd.agg]
theorem under_str (hT : TabOk P tk ar) {t : TypeId} (h : tk t = some .str) : P.underlying t = some .string := by
  have h := hT t _ h
  unfold tyOkB at h
  cases hi : P.info? t with
  | none => rw [hi] at h; simp at h
  | some i =>
    rw [hi] at h
    simp only [Bool.and_eq_true] at h
    have h := h.2
    split at h <;> simp_all [Kd.agg]
theorem under_int (hT : TabOk P tk ar) {t : TypeId} {ik : IntKind} (h : tk t = some (.int ik)) : P.underlying t = some (.int ik) := by
  have h := hT t _ h
  unfold tyOkB at h
  cases hi : P.info? t with
  | none => rw [hi] at h; simp at h
  | some i =>
    rw [hi] at h
    simp only [Bool.and_eq_true] at h
    have h := h.2
    split at h <;> simp_all [Kd.agg]
theorem under_bool (hT : TabOk P tk ar) {t : TypeId} (h : tk t = some .bool) : P.underlying t = some .bool := by
  have h := hT t _ h
  unfold tyOkB at h
  cases hi : P.info? t with
  | none => rw [hi] at h; simp at h
  | some i =>
    rw [hi] at h
    simp only [Bool.and_eq_true] at h
    have h := h.2
    split at h <;> simp_all [Kd.agg]
theorem under_agg (hT : TabOk P tk ar) {t : TypeId} {k : Kd} (h : tk t = some k) (ha : k.agg = true) :
    (∃ fs, P.underlying t = some (.struct fs) ∧ ar t = none ∧ fieldsOk P tk fs.toList 0 k = true) ∨ (∃ n e, P.underlying t = some (.array n e) ∧ ar t = some e ∧ arrOk tk e n k = true) := by
  have h := hT t _ h
  unfold tyOkB at h
  cases hi : P.info? t with
  | none => rw [hi] at h; simp at h
  | some i =>
    rw [hi] at h
    simp only [Bool.and_eq_true] at h
    have h := h.2
    split at h
    · simp [Kd.agg] at ha
    · simp [Kd.agg] at ha
    · simp [Kd.agg] at ha
    · simp [Kd.agg] at ha
    · simp only [Bool.and_eq_true] at h; exact .inl ⟨_, by assumption, by simpa using h.1.2, h.2⟩
    · simp only [Bool.and_eq_true] at h; exact .inr ⟨_, _, by assumption, by simpa using h.1.2, h.2⟩
    · simp at h
theorem pure_aux (hT : TabOk P tk ar) : ∀ k : Kd, (∀ t, tk t = some k → k.pure = true) ∧ (∀ fs off, fieldsOk P tk fs off k = true → k.pure = true) ∧ (∀ e n, arrOk tk e n k = true → k.pure = true) := by
  have no : ∀ k : Kd, k.agg = false → (∀ fs off, fieldsOk P tk fs off k = true → k.pure = true) ∧ (∀ e n, arrOk tk e n k = true → k.pure = true) := fun k hk =>
    ⟨fun fs off h => by cases k <;> simp [Kd.agg] at hk <;> cases fs <;> simp [fieldsOk] at h, fun e n h => by cases k <;> simp [Kd.agg] at hk <;> cases n <;> simp [arrOk] at h⟩
  have bad : ∀ (k : Kd) (t : TypeId), tk t = some k → (∀ d, P.underlying t = some d → (match some d, k with
    | some (.int ik), .int ik' => decide (ik = ik')
    | some .bool, .bool => true
    | some .string, .str => true
    | some (.slice e), .slice ke => decide (tk e = some ke) && decide (0 < ke.size)
    | some (.struct fs), k => k.agg && (ar t).isNone && fieldsOk P tk fs.toList 0 k
    | some (.array n e), k => k.agg && decide (ar t = some e) && arrOk tk e n k
    | _, _ => false) = false) → False := by
    intro k t h hb
    have h := hT t _ h
    unfold tyOkB at h
    cases hi : P.info? t with
    | none => rw [hi] at h; simp at h
    | some i =>
      rw [hi] at h
      cases hu : P.underlying t with
      | none => rw [hu] at h; simp at h
      | some d => rw [hu] at h; simp only at h; rw [hb d hu] at h; simp at h
  intro k
  induction k with
  | int ik => exact ⟨fun _ _ => rfl, no _ rfl⟩
  | bool => exact ⟨fun _ _ => rfl, no _ rfl⟩
  | str => exact ⟨fun _ _ => rfl, no _ rfl⟩
  | unit => exact ⟨fun _ _ => rfl, fun _ _ _ => rfl, fun _ _ _ => rfl⟩
  | slice e ih =>
    refine ⟨fun t h => ?_, no _ rfl⟩
    obtain ⟨te, _, h2, _⟩ := under_slice hT h
    exact ih.1 te h2
  | pair a b iha ihb =>
    have hf : ∀ fs off, fieldsOk P tk fs off (.pair a b) = true → (Kd.pair a b).pure = true := fun fs off h => by
      cases fs with
      | nil => simp [fieldsOk] at h
      | cons f fs =>
        simp only [fieldsOk, Bool.and_eq_true, decide_eq_true_eq] at h
        simp only [Kd.pure, Bool.and_eq_true]
        exact ⟨iha.1 _ h.1.1.2, ihb.2.1 _ _ h.2⟩
    have ha : ∀ e n, arrOk tk e n (.pair a b) = true → (Kd.pair a b).pure = true := fun e n h => by
      cases n with
      | zero => simp [arrOk] at h
      | succ n =>
        simp only [arrOk, Bool.and_eq_true, decide_eq_true_eq] at h
        simp only [Kd.pure, Bool.and_eq_true]
        exact ⟨iha.1 _ h.1, ihb.2.2 _ _ h.2⟩
    refine ⟨fun t h => ?_, hf, ha⟩
    rcases under_agg hT h rfl with ⟨fs, _, _, h2⟩ | ⟨n, e, _, _, h2⟩
    · exact hf _ _ h2
    · exact ha _ _ h2
  | bx k ih => exact ⟨fun t h => (bad _ t h (fun d _ => by cases d <;> rfl)).elim, no _ rfl⟩
  | clo f a b iha ihb => exact ⟨fun t h => (bad _ t h (fun d _ => by cases d <;> rfl)).elim, no _ rfl⟩
theorem tab_pure (hT : TabOk P tk ar) {t : TypeId} {k : Kd} (h : tk t = some k) : k.pure = true := (pure_aux hT k).1 t h
theorem run_isAgg (hT : TabOk P tk ar) {t : TypeId} {k : Kd} (h : tk t = some k) (w : World) : (isAgg t).run P w = .ok k.agg w := by
  cases k with
  | int ik => simp [isAgg, run_underlying (under_int hT h), Kd.agg]
  | bool => simp [isAgg, run_underlying (under_bool hT h), Kd.agg]
  | str => simp [isAgg, run_underlying (under_str hT h), Kd.agg]
  | slice e => obtain ⟨e, h, _⟩ := under_slice hT h; simp [isAgg, run_underlying h, Kd.agg]
  | bx k => have := tab_pure hT h; simp [Kd.pure] at this
  | clo f a b => have := tab_pure hT h; simp [Kd.pure] at this
  | unit => rcases under_agg hT h rfl with ⟨fs, h, _⟩ | ⟨n, e, h, _⟩ <;> simp [isAgg, run_underlying h, Kd.agg]
  | pair a b => rcases under_agg hT h rfl with ⟨fs, h, _⟩ | ⟨n, e, h, _⟩ <;> simp [isAgg, run_underlying h, Kd.agg]
theorem run_size {t : TypeId} {k : Kd} {i : TypeInfo} {z : Value} (h : Row P t k i z) (w : World) : (sizeOf t).run P w = .ok k.size w := by
  simp [sizeOf, typeInfo, h.info, h.size]
theorem run_zero {t : TypeId} {k : Kd} {i : TypeInfo} {z : Value} (h : Row P t k i z) (w : World) : (zeroValue t).run P w = .ok z w := by
  simp [zeroValue, typeInfo, h.info, h.zero]
end

theorem cell?_cellsAt {w : World} {b o n : Nat} (h : BlockOk w b (o + n)) : ∀ j v, (cellsAt w b o n)[j]? = some v → w.cell? ((⟨b, o, none⟩ : Addr).add j) = some v := by
  intro j v hv
  obtain ⟨cs, T, fr, h1, h2⟩ := h
  unfold cellsAt at hv
  rw [h1] at hv
  simp only [List.getElem?_take, List.getElem?_drop] at hv
  split at hv
  · unfold World.cell? Addr.add
    by_cases hj : j = 0
    · subst hj; simp [h1] at hv ⊢; exact hv
    · simp [h1, hj] at hv ⊢; exact hv
  · simp at hv
end Go.V
