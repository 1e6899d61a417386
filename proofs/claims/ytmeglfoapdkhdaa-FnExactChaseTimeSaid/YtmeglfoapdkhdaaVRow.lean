/- A law's row, out of its contract: the arguments' reading as data. -/
import Derived.Test.YtmeglfoapdkhdaaVFnOk
import Derived.ChangeOld
import Derived.Below
import Derived.Carry
import Derived.OpenShut
import Derived.SizedLaws
set_option linter.unusedVariables false
set_option linter.unusedSimpArgs false
namespace Go.V

/-- Data as a program's input has it. -/
def WfD : (k : Kd) → k.den → Prop
  | .int ik, n => (Lit.int ik n).wf = true
  | .bool, _ => True
  | .str, s => s.size ≤ maxLen
  | .slice e, l => List.length l ≤ maxLen ∧ ∀ x ∈ (l : List e.den), WfD e x
  | .unit, _ => True
  | .pair a b, d => WfD a d.1 ∧ WfD b d.2
  | .bx _, _ | .clo .., _ => True

theorem mapM_range' {β : Type} {f : Nat → Option β} : ∀ {n s : Nat} {l : List β}, (List.range' s n).mapM f = some l → l.length = n ∧ ∀ i, i < n → ∃ y, l[i]? = some y ∧ f (s + i) = some y := by
  intro n
  induction n with
  | zero => intro s l h; simp at h; subst h; exact ⟨rfl, fun i hi => by omega⟩
  | succ n ih =>
    intro s l h
    rw [List.range'_succ, List.mapM_cons] at h
    cases h1 : f s with
    | none => rw [h1] at h; simp at h
    | some y =>
      rw [h1] at h
      cases h2 : (List.range' (s + 1) n).mapM f with
      | none => rw [h2] at h; simp at h
      | some ys =>
        rw [h2] at h
        simp at h
        subst h
        obtain ⟨e1, e2⟩ := ih h2
        refine ⟨by simp [e1], fun i hi => ?_⟩
        cases i with
        | zero => exact ⟨y, rfl, h1⟩
        | succ i =>
          obtain ⟨z, z1, z2⟩ := e2 i (by omega)
          exact ⟨z, by simpa using z1, by rw [show s + (i + 1) = s + 1 + i by omega]; exact z2⟩
theorem mapM_range {β : Type} {f : Nat → Option β} {n : Nat} {l : List β} (h : (List.range n).mapM f = some l) : l.length = n ∧ ∀ i, i < n → ∃ y, l[i]? = some y ∧ f i = some y := by
  rw [List.range_eq_range'] at h
  obtain ⟨h1, h2⟩ := mapM_range' h
  exact ⟨h1, fun i hi => by simpa using h2 i hi⟩

theorem cell?_block {w : World} {b o : Nat} {v : Value} (h : w.cell? ⟨b, o, none⟩ = some v) : ∃ cs T fr, w.heap[b]? = some (.cells cs T fr) ∧ cs[o]? = some v := by
  unfold World.cell? at h
  split at h
  · rename_i c T fr hb
    exact ⟨c, T, fr, hb, by simpa using h⟩
  · cases h
theorem cells?_at {w : World} {b o n : Nat} {cs : List Value} (h : w.cells? 0 ⟨b, o, none⟩ n = some cs) (hn : 0 < n) : BlockOk w b (o + n) ∧ cellsAt w b o n = cs := by
  obtain ⟨_, hl, hc⟩ := World.cells?_some h
  have hlast := hc (n - 1) (by omega)
  rw [add_mk] at hlast
  have hl1 : n - 1 < cs.length := by omega
  rw [List.getElem?_eq_getElem hl1] at hlast
  obtain ⟨c, T, fr, hb, hv⟩ := cell?_block hlast
  have hlt := (Array.getElem?_eq_some_iff.1 hv).1
  have hok : BlockOk w b (o + n) := ⟨c, T, fr, hb, by omega⟩
  refine ⟨hok, ?_⟩
  apply List.ext_getElem?
  intro j
  by_cases hj : j < n
  · have h1 := hc j hj
    rw [add_mk] at h1
    have hlen := cellsAt_length hok
    have hv2 : ∃ v, (cellsAt w b o n)[j]? = some v := ⟨_, List.getElem?_eq_getElem (by omega)⟩
    obtain ⟨v, hv2⟩ := hv2
    have h3 := cell?_cellsAt hok j v hv2
    rw [add_mk, h1] at h3
    rw [hv2, h3]
  · rw [List.getElem?_eq_none (by rw [cellsAt_length hok]; omega), List.getElem?_eq_none (by omega)]

section
variable {H : Type} {enc : TypeId × Value → H} {P : Program} {tk : TypeId → Option Kd} {ar : TypeId → Option TypeId} {w : World} {held : Bool}

theorem cellsOf_eq (hT : TabOk P tk ar) {t : TypeId} {k : Kd} (ht : tk t = some k) : P.cellsOf t = k.size := by
  obtain ⟨i, z, hr⟩ := row_of hT ht
  simp [Program.cellsOf, hr.info, hr.size]

/-- Elements read one after the other. -/
theorem open_list {e : Kd} {f : Nat → List Value} {n : Nat} {R : List Value → e.den → Prop} (h : ∀ i, i < n → ∃ x, R (f i) x) : ∃ l : List e.den, l.length = n ∧ ∀ i (hi : i < l.length), R (f i) (l.get ⟨i, hi⟩) := by
  induction n with
  | zero => exact ⟨[], rfl, fun i hi => by simp at hi⟩
  | succ n ih =>
    obtain ⟨l, h1, h2⟩ := ih fun i hi => h i (by omega)
    obtain ⟨x, hx⟩ := h n (by omega)
    refine ⟨l ++ [x], by simp [h1], fun i hi => ?_⟩
    rw [List.length_append, List.length_singleton] at hi
    by_cases hl : i < l.length
    · have := h2 i hl
      simpa [List.getElem_append_left hl] using this
    · have : i = n := by omega
      subst this
      simpa [List.getElem_append_right (show l.length ≤ i by omega), h1] using hx

theorem trod_arr {t e : TypeId} {n fuel : Nat} {cs : List Value} {x : DataW H × List MemPlace} {spare : Nat → Bool} {base : Nat} (ht : P.underlying t = some (.array n e)) (h : DataW.trod enc P w base spare held fuel t cs = some x) :
    ∃ m, fuel = m + 1 ∧ cs.length = P.cellsOf t ∧ ∀ i, i < n → ∃ y, DataW.trod enc P w base spare held m e ((cs.drop (i * P.cellsOf e)).take (P.cellsOf e)) = some y := by
  cases fuel with
  | zero => simp [DataW.trod] at h
  | succ m =>
    unfold DataW.trod at h
    rw [ht] at h
    split at h <;> simp_all
    obtain ⟨_, xs, hp, _⟩ := h
    intro i hi
    obtain ⟨y, _, h2⟩ := (mapM_range hp).2 i hi
    exact ⟨y.1, y.2, h2⟩

theorem open_data (hT : TabOk P tk ar) : ∀ (k : Kd),
    (∀ (t : TypeId) (fuel : Nat) (cs : List Value) (x : DataW H × List MemPlace) (q : Path), tk t = some k → DataW.trod enc P w 0 (fun _ => true) held fuel t cs = some x → ∃ d : k.den, Rep w (fun _ _ => True) k q cs d ∧ WfD k d) ∧
    (∀ (fs : List Field) (off fuel : Nat) (cs : List Value) (q : Path), fieldsOk P tk fs off k = true → (∀ f ∈ fs, ∃ x, DataW.trod enc P w 0 (fun _ => true) held fuel f.type ((cs.drop f.offset).take (P.cellsOf f.type)) = some x) →
      ∃ d : k.den, Rep w (fun _ _ => True) k q ((cs.drop off).take k.size) d ∧ WfD k d) ∧
    (∀ (n j fuel : Nat) (e : TypeId) (cs : List Value) (q : Path), arrOk tk e n k = true → (∀ i, i < n → ∃ x, DataW.trod enc P w 0 (fun _ => true) held fuel e ((cs.drop ((j + i) * P.cellsOf e)).take (P.cellsOf e)) = some x) →
      ∃ d : k.den, Rep w (fun _ _ => True) k q ((cs.drop (j * P.cellsOf e)).take k.size) d ∧ WfD k d) := by
  intro k
  induction k with
  | bx k ih => exact ⟨fun t fuel cs x q ht h => absurd (tab_pure hT ht) (by simp [Kd.pure]), fun fs off fuel cs q h => by cases fs <;> simp [fieldsOk] at h, fun n j fuel e cs q h => by cases n <;> simp [arrOk] at h⟩
  | clo f a b iha ihb => exact ⟨fun t fuel cs x q ht h => absurd (tab_pure hT ht) (by simp [Kd.pure]), fun fs off fuel cs q h => by cases fs <;> simp [fieldsOk] at h, fun n j fuel e cs q h => by cases n <;> simp [arrOk] at h⟩
  | int ik =>
    refine ⟨fun t fuel cs x q ht h => ?_, fun fs off fuel cs q h => ?_, fun n j fuel e cs q h => ?_⟩
    · obtain ⟨n, h1, _, h2⟩ := DataW.trod_int (under_int hT ht) h
      exact ⟨n, h1, h2⟩
    · cases fs <;> simp [fieldsOk] at h
    · cases n <;> simp [arrOk] at h
  | bool =>
    refine ⟨fun t fuel cs x q ht h => ?_, fun fs off fuel cs q h => ?_, fun n j fuel e cs q h => ?_⟩
    · obtain ⟨b, h1, _⟩ := DataW.trod_bool (under_bool hT ht) h
      exact ⟨b, h1, trivial⟩
    · cases fs <;> simp [fieldsOk] at h
    · cases n <;> simp [arrOk] at h
  | str =>
    refine ⟨fun t fuel cs x q ht h => ?_, fun fs off fuel cs q h => ?_, fun n j fuel e cs q h => ?_⟩
    · obtain ⟨b, h1, _, h2⟩ := DataW.trod_string (under_str hT ht) h
      exact ⟨b, h1, h2⟩
    · cases fs <;> simp [fieldsOk] at h
    · cases n <;> simp [arrOk] at h
  | slice e ih =>
    refine ⟨fun t fuel cs x q ht h => ?_, fun fs off fuel cs q h => ?_, fun n j fuel e cs q h => ?_⟩
    · obtain ⟨te, hu, he, hpos⟩ := under_slice hT ht
      have hce := cellsOf_eq hT he
      rcases DataW.trod_slice hu h with ⟨h1, _⟩ | ⟨a, len, cap, elems, rest, n, _, h1, _, _, hlc, hcm, hel, helems, hrest, _⟩
      · exact ⟨[], by simp only [Rep]; exact .inl ⟨⟨none, h1⟩, trivial⟩, Nat.zero_le _, fun x hx => by cases hx⟩
      · rw [hce] at helems hrest
        obtain ⟨hrl, hrest⟩ := hrest rfl
        -- each place is there
        have hall : ∀ i, i < cap → ∃ c y, w.cells? 0 (a.add (i * e.size)) e.size = some c ∧ DataW.trod enc P w 0 (fun _ => true) held n te c = some y := by
          intro i hi
          by_cases hl : i < len
          · have := helems i hl
            rw [List.getElem?_eq_getElem (by omega)] at this
            obtain ⟨c, c1, c2⟩ := Option.bind_eq_some_iff.1 this
            exact ⟨c, _, c1, c2⟩
          · obtain ⟨j, rfl⟩ : ∃ j, i = len + j := ⟨i - len, by omega⟩
            have := hrest j (by omega)
            rw [List.getElem?_eq_getElem (by omega)] at this
            obtain ⟨c, c1, c2⟩ := Option.bind_eq_some_iff.1 this
            exact ⟨c, _, c1, c2⟩
        by_cases hc0 : cap = 0
        · have hl0 : len = 0 := by omega
          subst hc0 hl0
          exact ⟨[], by simp only [Rep]; exact .inl ⟨⟨some a, h1⟩, trivial⟩, Nat.zero_le _, fun x hx => by cases hx⟩
        · have hspot : a.spot = none := by
            obtain ⟨c, y, c1, _⟩ := hall 0 (by omega)
            obtain ⟨_, hl, hcell⟩ := World.cells?_some c1
            have h0 := hcell 0 hpos
            rw [List.getElem?_eq_getElem (by omega)] at h0
            have := World.cell?_spot h0
            simpa [Addr.add] using this
          obtain ⟨b, off, spot⟩ := a
          simp only at hspot
          subst hspot
          simp only [add_mk] at hall
          have hblk : BlockOk w b (off + cap * e.size) := by
            obtain ⟨c, y, c1, _⟩ := hall (cap - 1) (by omega)
            have := (cells?_at c1 hpos).1
            have e2 : off + (cap - 1) * e.size + e.size = off + cap * e.size := by
              rw [Nat.sub_mul, Nat.one_mul]
              have : e.size ≤ cap * e.size := Nat.le_mul_of_pos_left _ (by omega)
              omega
            rw [e2] at this
            exact this
          obtain ⟨l, l1, l2⟩ := open_list (e := e) (n := len) (f := fun i => cellsAt w b (off + i * e.size) e.size) (R := fun c x => (∀ q, Rep w (fun _ _ => True) e q c x) ∧ WfD e x) (fun i hi => by
            obtain ⟨c, y, c1, c2⟩ := hall i (by omega)
            obtain ⟨d, d1, d2⟩ := ih.1 te n c y [] he c2
            refine ⟨d, fun q => ?_, d2⟩
            rw [(cells?_at c1 hpos).2]
            exact d1.move fun _ _ _ _ => trivial)
          refine ⟨l, ?_, by omega, fun x hx => ?_⟩
          · simp only [Rep]
            refine .inr ⟨b, off, cap, by rw [h1, l1], by omega, trivial, hblk, fun i hi => (l2 i hi).1 _⟩
          · obtain ⟨i, hi, rfl⟩ := List.getElem_of_mem hx
            exact (l2 i hi).2
    · cases fs <;> simp [fieldsOk] at h
    · cases n <;> simp [arrOk] at h
  | unit =>
    refine ⟨fun t fuel cs x q ht h => ?_, fun fs off fuel cs q h _ => ⟨(), by simp [Rep, Kd.size], trivial⟩, fun n j fuel e cs q h _ => ⟨(), by simp [Rep, Kd.size], trivial⟩⟩
    have hcs : cs.length = 0 := by
      rcases under_agg hT ht rfl with ⟨fs, u1, _, _⟩ | ⟨n, e, u1, _, _⟩
      · obtain ⟨_, _, _, _, hl, _⟩ := DataW.trod_struct u1 h
        rw [hl, cellsOf_eq hT ht]; rfl
      · obtain ⟨_, _, hl, _⟩ := trod_arr u1 h
        rw [hl, cellsOf_eq hT ht]; rfl
    exact ⟨(), by simp only [Rep]; exact List.length_eq_zero_iff.1 hcs, trivial⟩
  | pair a b iha ihb =>
    have partB : ∀ (fs : List Field) (off fuel : Nat) (cs : List Value) (q : Path), fieldsOk P tk fs off (.pair a b) = true → (∀ f ∈ fs, ∃ x, DataW.trod enc P w 0 (fun _ => true) held fuel f.type ((cs.drop f.offset).take (P.cellsOf f.type)) = some x) →
        ∃ d : (Kd.pair a b).den, Rep w (fun _ _ => True) (.pair a b) q ((cs.drop off).take (Kd.pair a b).size) d ∧ WfD (.pair a b) d := by
      intro fs off fuel cs q h hall
      cases fs with
      | nil => simp [fieldsOk] at h
      | cons f fs =>
        simp only [fieldsOk, Bool.and_eq_true, decide_eq_true_eq] at h
        obtain ⟨⟨⟨h1, h2⟩, _⟩, h4⟩ := h
        have h1 := Nat.eq_of_beq_eq_true h1
        obtain ⟨x, hx⟩ := hall f (by simp)
        rw [cellsOf_eq hT h2, h1] at hx
        obtain ⟨d1, r1, w1⟩ := iha.1 f.type fuel _ x (q ++ [.l]) h2 hx
        obtain ⟨d2, r2, w2⟩ := ihb.2.1 fs (off + a.size) fuel cs (q ++ [.r]) h4 (fun g hg => hall g (by simp [hg]))
        refine ⟨(d1, d2), ?_, w1, w2⟩
        simp only [Rep, Kd.size]
        rw [List.take_take, Nat.min_eq_left (by omega), List.drop_take, List.drop_drop, show a.size + b.size - a.size = b.size by omega]
        exact ⟨r1, r2⟩
    have partC : ∀ (n j fuel : Nat) (e : TypeId) (cs : List Value) (q : Path), arrOk tk e n (.pair a b) = true → (∀ i, i < n → ∃ x, DataW.trod enc P w 0 (fun _ => true) held fuel e ((cs.drop ((j + i) * P.cellsOf e)).take (P.cellsOf e)) = some x) →
        ∃ d : (Kd.pair a b).den, Rep w (fun _ _ => True) (.pair a b) q ((cs.drop (j * P.cellsOf e)).take (Kd.pair a b).size) d ∧ WfD (.pair a b) d := by
      intro n j fuel e cs q h hall
      cases n with
      | zero => simp [arrOk] at h
      | succ n =>
        simp only [arrOk, Bool.and_eq_true, decide_eq_true_eq] at h
        obtain ⟨h2, h4⟩ := h
        have hce := cellsOf_eq hT h2
        obtain ⟨x, hx⟩ := hall 0 (by omega)
        rw [Nat.add_zero] at hx
        rw [hce] at hx
        obtain ⟨d1, r1, w1⟩ := iha.1 e fuel _ x (q ++ [.l]) h2 hx
        obtain ⟨d2, r2, w2⟩ := ihb.2.2 n (j + 1) fuel e cs (q ++ [.r]) h4 (fun i hi => by
          have := hall (i + 1) (by omega)
          rw [show j + (i + 1) = j + 1 + i by omega] at this
          exact this)
        refine ⟨(d1, d2), ?_, w1, w2⟩
        simp only [Rep, Kd.size]
        rw [hce] at r2 ⊢
        rw [Nat.add_mul, Nat.one_mul] at r2
        rw [List.take_take, Nat.min_eq_left (by omega), List.drop_take, List.drop_drop, show a.size + b.size - a.size = b.size by omega]
        exact ⟨r1, r2⟩
    refine ⟨fun t fuel cs x q ht h => ?_, partB, partC⟩
    have hsz := cellsOf_eq hT ht
    rcases under_agg hT ht rfl with ⟨fs, u1, _, u3⟩ | ⟨n, e, u1, _, u3⟩
    · obtain ⟨xs, m, _, _, hl, hxl, hf⟩ := DataW.trod_struct u1 h
      have := partB fs.toList 0 m cs q u3 (fun f hf' => by
        obtain ⟨i, hi, rfl⟩ := List.getElem_of_mem hf'
        have hi' : i < fs.size := by simpa using hi
        have h2 := hf i fs[i] (by simp [hi'])
        rw [List.getElem?_eq_getElem (by omega)] at h2
        exact ⟨_, by simpa using h2⟩)
      rw [List.drop_zero, List.take_of_length_le (by omega)] at this
      exact this
    · obtain ⟨m, _, hl, hf⟩ := trod_arr u1 h
      have := partC n 0 m e cs q u3 (fun i hi => by rw [Nat.zero_add]; exact hf i hi)
      rw [Nat.zero_mul, List.drop_zero, List.take_of_length_le (by omega)] at this
      exact this

theorem open_val (hT : TabOk P tk ar) {t : TypeId} {k : Kd} (ht : tk t = some k) {r : Reach} {base : Nat} {v : Value} {d : DataW H} {ps : List MemPlace} (hv : Value.okWide P w r base t v) (h : DataW.Trod enc P w 0 (fun _ => true) held t v d ps) :
    ∃ c x, v = mkVal k c ∧ Rep w (fun _ _ => True) k [] c x ∧ WfD k x := by
  obtain ⟨fuel, hf⟩ := h
  obtain ⟨x, h1, h2⟩ := (open_data hT k).1 t fuel _ _ [] ht hf
  refine ⟨v.cells.toList, x, ?_, h1, h2⟩
  have hc := mkVal_cells h1
  have hagg : isAggV v = k.agg := by
    cases k with
    | bx k => exact absurd (tab_pure hT ht) (by simp [Kd.pure])
    | clo f a b => exact absurd (tab_pure hT ht) (by simp [Kd.pure])
    | int ik =>
      simp only [Rep] at h1
      obtain ⟨n, rfl⟩ := Go.WideShapes.okWide_int (under_int hT ht) hv
      rfl
    | bool =>
      have hu := under_bool hT ht
      simp only [Value.okWide, hu, Cell.okWide] at hv
      cases v <;> simp_all [Cell.ok, isAggV, Kd.agg]
    | str =>
      obtain ⟨s, rfl⟩ := Go.WideShapes.okWide_string (under_str hT ht) hv
      rfl
    | slice e =>
      obtain ⟨te, hu, _, _⟩ := under_slice hT ht
      obtain ⟨a, len, cap, rfl⟩ := Go.WideShapes.okWide_slice hu hv
      rfl
    | unit =>
      rcases under_agg hT ht rfl with ⟨fs, u1, _, _⟩ | ⟨n, e, u1, _, _⟩ <;>
      · simp only [Value.okWide, u1] at hv
        obtain ⟨cs, rfl, _⟩ := hv
        rfl
    | pair a b =>
      rcases under_agg hT ht rfl with ⟨fs, u1, _, _⟩ | ⟨n, e, u1, _, _⟩ <;>
      · simp only [Value.okWide, u1] at hv
        obtain ⟨cs, rfl, _⟩ := hv
        rfl
  unfold mkVal
  rw [← hagg]
  cases v with
  | agg cs => simp [isAggV, Value.cells]
  | _ => simp [isAggV, Value.cells]

/-- All arguments opened. -/
theorem open_all (hT : TabOk P tk ar) {r : Reach} {base : Nat} : ∀ {ts : List TypeId} {ps : List (Kd × Bool)} {vs : List Value} {ds : List (DataW H)} {pl : List MemPlace} (i : Nat), ts.map tk = ps.map (fun p => some p.1) → (∀ p ∈ ps, p.2 = false) →
    (∀ (j : Nat) t v, ts[j]? = some t → vs[j]? = some v → Value.okWide P w r base t v) → DataW.TrodAll enc P w 0 (fun _ => true) held ts vs ds pl →
    ∃ x, ArgsOk w (fun _ => none) (fun _ => True) i ps vs x ∧ WfD (Kd.tuple (ps.map (·.1))) x := by
  intro ts
  induction ts with
  | nil =>
    intro ps vs ds pl i hm hps hv h
    cases ps with
    | nil =>
      obtain ⟨rfl, _, _⟩ := Go.ChangeShapes.trodAll_nil h
      exact ⟨(), rfl, trivial⟩
    | cons p ps => simp at hm
  | cons t ts ih =>
    intro ps vs ds pl i hm hps hv h
    cases ps with
    | nil => simp at hm
    | cons p ps =>
      obtain ⟨k, io⟩ := p
      have hio : io = false := hps (k, io) (by simp)
      subst hio
      simp only [List.map_cons, List.cons.injEq] at hm
      obtain ⟨v, vs', d, ds', p1, q1, rfl, rfl, rfl, h1, h2⟩ := Go.ChangeShapes.trodAll_cons h
      obtain ⟨c, x, e1, e2, e3⟩ := open_val hT hm.1 (hv 0 t v rfl rfl) h1
      obtain ⟨y, f1, f2⟩ := ih (i + 1) hm.2 (fun p hp => hps p (by simp [hp])) (fun j t v hj hw => hv (j + 1) t v (by simpa using hj) (by simpa using hw)) h2
      exact ⟨(x, y), ⟨c, vs', by rw [e1], e2, f1⟩, e3, f2⟩

/-- All arguments read as they did. -/
theorem shut_all {W W' : World} (hl : laidOutB P = true) (hb : Go.RowKit.Below W.heap.size W W') : ∀ {ts : List TypeId} {vs : List Value} {ds : List (DataW H)} {pl : List MemPlace}, (∀ t ∈ ts, P.readableRec t = true ∧ t < P.types.size) →
    DataW.TrodAll enc P W 0 (fun _ => true) true ts vs ds pl → ∃ pl', DataW.TrodAll enc P W' 0 (fun b => decide (b < W.heap.size)) true ts vs ds pl' := by
  intro ts
  induction ts with
  | nil =>
    intro vs ds pl _ h
    obtain ⟨rfl, rfl, _⟩ := Go.ChangeShapes.trodAll_nil h
    exact ⟨[], rfl⟩
  | cons t ts ih =>
    intro vs ds pl hr h
    obtain ⟨v, vs', d, ds', p1, q1, rfl, rfl, rfl, h1, h2⟩ := Go.ChangeShapes.trodAll_cons h
    obtain ⟨pl', h3⟩ := ih (fun t ht => hr t (by simp [ht])) h2
    have hlt : ∀ x ∈ p1, x.block < W.heap.size := by
      obtain ⟨m, hm⟩ := h1
      exact DataW.trod_lt m _ _ _ hm
    exact ⟨p1 ++ pl', p1, pl', Go.RowKit.Below.trod hl (hr t (by simp)).1 (hr t (by simp)).2 h1 hb hlt, h3, rfl⟩

/-- A law's calls, out of its contract. -/
theorem law_calls (hT : TabOk P tk ar) (hl : laidOutB P = true) {f : FuncId} {fn : Func} (hf : P.funcs[f]? = some fn) (hbody : fn.body.isSome = true) (hname : (fn.name == "runtime.NumGoroutine") = false) {s : ChangeSpec} (hvars : s.vars = [])
    {rt : TypeId} (hres : fn.resultTypes = #[rt]) (hrt : P.underlying rt = some .bool) {ps : List (Kd × Bool)} (hps : ∀ p ∈ ps, p.2 = false) (hts : fn.params.toList.map tk = ps.map (fun p => some p.1)) (hread : fn.params.toList.all (fun t => P.readableRec t && decide (t < P.types.size)) = true)
    (hspec : ∀ ds : List (DataW H), ds.length = ps.length → s.fn H ds = { results := [.lit (.bool true)], args := ds })
    {own : Bool} {F : (Kd.tuple (ps.map (·.1))).den → Option (Kd.tuple ([.bool] ++ (ps.filter (·.2)).map (·.1))).den} (con : Contract P f ⟨ps, [.bool], own, F⟩) (hF : ∀ d, WfD (Kd.tuple (ps.map (·.1))) d → ∃ out, F d = some out ∧ (splitT [.bool] _ out).1.1 = true)
    {W : World} {base : Nat} {args : Array Value} {ds gs : List (DataW H)} {before : List MemPlace} (hval : ∀ (j : Nat) t v, fn.params[j]? = some t → args[j]? = some v → Value.okWide P W .any base t v) (hW : DataW.Whole enc P fn.params.toList s.vars false W args.toList ds gs before) :
    Calls P f args W fun e W' => ∃ v, e = .returned v ∧ s.post enc P fn false true false false W args v W' := by
  have hW' := hW
  obtain ⟨p, q, hA, hV, rfl, hfz, hnd⟩ := hW
  rw [hvars] at hV
  obtain ⟨rfl, rfl⟩ := Go.ChangeShapes.trodVars_none hV
  obtain ⟨x, hargs, hwf⟩ := open_all hT 0 hts hps (fun j t v hj hv => hval j t v (by simpa using hj) (by simpa using hv)) hA
  obtain ⟨out, ho, htrue⟩ := hF x hwf
  have hc := con W (fun _ => none) (fun _ => True) args.toList x out hargs (fun _ _ => rfl) (fun b z h => by cases h) ho
  have hcall : (callFunc f args).run P W = .ok (.enter f args) W := by
    simp only [beq_eq_false_iff_ne, ne_eq] at hname
    cases hb : fn.body with
    | none => rw [hb] at hbody; cases hbody
    | some c => simp [callFunc, hf, hname, hb]
  unfold CallsTo at hc
  simp only [Array.toArray_toList] at hc
  rw [hcall] at hc
  refine Calls.mono hc fun e W' he => ?_
  cases e with
  | panicked chain => exact he.elim
  | outgrown => exact he.elim
  | returned v =>
    obtain ⟨χ, hp⟩ := he
    refine ⟨v, rfl, ?_⟩
    have bel : Go.RowKit.Below W.heap.size W W' := ⟨hp.os, hp.tape, hp.output, hp.size, fun k hk => hp.kept k hk rfl⟩
    have hvt : v = .bool true := by
      obtain ⟨c, h1, h2⟩ := hp.res
      have h1 : v = mkVal .bool (c.take 1) := h1
      simp only [Kd.tuple, Rep] at h2
      have h3 : c.take 1 = [.bool true] := by have := h2.1; rw [htrue] at this; exact this
      rw [h1, h3]
      rfl
    subst hvt
    have hlen : ds.length = ps.length := by
      have key : ∀ (ts : List TypeId) (vs : List Value) (ds : List (DataW H)) (pl : List MemPlace), DataW.TrodAll enc P W 0 (fun _ => true) true ts vs ds pl → ds.length = ts.length := by
        intro ts
        induction ts with
        | nil => intro vs ds pl h; obtain ⟨_, rfl, _⟩ := Go.ChangeShapes.trodAll_nil h; rfl
        | cons t ts ih =>
          intro vs ds pl h
          obtain ⟨v, vs', d, ds', p1, q1, rfl, rfl, rfl, _, h2⟩ := Go.ChangeShapes.trodAll_cons h
          simp [ih _ _ _ h2]
      have h1 := key _ _ _ _ hA
      have h2 := congrArg List.length hts
      simp only [List.length_map] at h2
      omega
    have hs := hspec (ds ++ []) (by simpa using hlen)
    obtain ⟨pl', hback⟩ := shut_all hl bel (fun t ht => by
      have := List.all_eq_true.1 hread t ht
      simpa using this) hA
    refine ⟨ds, [], p ++ [], [], pl', [], hW', ?_, ?_, ?_, bel.frame _, fun h => by cases h⟩
    · rw [hs, hres]
      exact Go.ChangeShapes.trodAll_mk1 ⟨1, by simp [DataW.trod, Value.cells, hrt]⟩
    · rw [hs]
      simpa using hback
    · rw [hs, hvars]
      rfl
end
end Go.V
