/- The operations' soundness, sixth part: append. -/
import Derived.Test.YtmeglfoapdkhdaaVOps5
import Derived.Laws.CopyRow
set_option linter.unusedVariables false
set_option linter.unusedSimpArgs false
namespace Go.V

theorem rep_one {w : World} {S : OwnS} : ∀ {k : Kd} {q : Path} {c : List Value} {d : k.den}, Rep w S k q c d → ∀ v ∈ c, v.oneCell' = true := by
  intro k
  induction k with
  | int ik => intro q c d h v hv; simp only [Rep] at h; subst h; simp at hv; subst hv; rfl
  | bool => intro q c d h v hv; simp only [Rep] at h; subst h; simp at hv; subst hv; rfl
  | str => intro q c d h v hv; simp only [Rep] at h; subst h; simp at hv; subst hv; rfl
  | slice e ih =>
    intro q c d h v hv
    simp only [Rep] at h
    rcases h with ⟨⟨_, h⟩, _⟩ | ⟨b, off, cap, h, _⟩ <;> subst h <;> simp at hv <;> subst hv <;> rfl
  | unit => intro q c d h v hv; simp only [Rep] at h; subst h; simp at hv
  | pair a b iha ihb =>
    intro q c d h v hv
    simp only [Rep] at h
    rw [← List.take_append_drop a.size c] at hv
    rcases List.mem_append.1 hv with hv | hv
    · exact iha h.1 v hv
    · exact ihb h.2 v hv
  | bx k ih => intro q c d h v hv; obtain ⟨b, off, h, _⟩ := h; subst h; simp at hv; subst hv; rfl
  | clo f a b iha ihb => intro q c d h v hv; obtain ⟨c1, c2, h, _⟩ := h; subst h; simp at hv; subst hv; rfl

theorem chunk_mem {l : List Value} {e m : Nat} (he : 0 < e) (hl : l.length = m * e) {v : Value} (hv : v ∈ l) : ∃ i, i < m ∧ v ∈ (l.drop (i * e)).take e := by
  obtain ⟨j, hj, rfl⟩ := List.getElem_of_mem hv
  refine ⟨j / e, ?_, ?_⟩
  · rw [hl] at hj
    exact Nat.div_lt_of_lt_mul (by rw [Nat.mul_comm]; exact hj)
  · have hm := Nat.div_add_mod j e
    have hlt := Nat.mod_lt j he
    rw [List.mem_iff_getElem?]
    refine ⟨j % e, ?_⟩
    rw [List.getElem?_take, if_pos hlt, List.getElem?_drop]
    rw [show j / e * e + j % e = j by rw [Nat.mul_comm]; exact hm]
    exact List.getElem?_eq_getElem hj

theorem cellsAt_chunk {w : World} {b off n i e : Nat} (h : i * e + e ≤ n) : ((cellsAt w b off n).drop (i * e)).take e = cellsAt w b (off + i * e) e := by
  unfold cellsAt
  split
  · rw [List.drop_take, List.take_take, List.drop_drop]
    congr 1
    omega
  · simp

/-- A slice's cells. -/
theorem run_firstCells_zero {P : Program} (w : World) (size : Nat) (sb : Option Addr) (cap : Nat) : (Builtin.firstCells size 0 (.slice sb 0 cap)).run P w = .ok #[] w := by
  cases sb with
  | none => simp [Builtin.firstCells]
  | some a => exact run_firstCells_some (P := P) w size 0 a 0 cap [] (by simp) fun j u hu => by simp at hu

theorem slice_cells {P : Program} {w : World} {S : OwnS} {e : Kd} {q : Path} {v : Value} {l : List e.den} (he : 0 < e.size) (h : Rep w S (.slice e) q [v] l) :
    ∃ (ad : Option Addr) (cap : Nat) (news : List Value), v = .slice ad l.length cap ∧ news.length = l.length * e.size ∧ (∀ w1 : World, w1.heap = w.heap → (Builtin.firstCells e.size l.length v).run P w1 = .ok news.toArray w1) ∧
      (∀ i (h : i < l.length), Rep w S e (q ++ [.i i]) ((news.drop (i * e.size)).take e.size) (l.get ⟨i, h⟩)) ∧ (∀ u ∈ news, u.oneCell' = true) ∧ l.length ≤ cap ∧
      (cap = 0 ∨ ∃ b off, ad = some ⟨b, off, none⟩ ∧ S q b ∧ BlockOk w b (off + cap * e.size) ∧ ∀ j (h : j < l.length), cellsAt w b (off + j * e.size) e.size = (news.drop (j * e.size)).take e.size) := by
  have hone : ∀ news : List Value, news.length = l.length * e.size → (∀ i (h : i < l.length), Rep w S e (q ++ [.i i]) ((news.drop (i * e.size)).take e.size) (l.get ⟨i, h⟩)) → ∀ u ∈ news, u.oneCell' = true := by
    intro news hl hr u hu
    obtain ⟨i, hi, hm⟩ := chunk_mem he hl hu
    exact rep_one (hr i hi) u hm
  have h0 := h
  simp only [Rep] at h
  rcases h with ⟨⟨sb, h1⟩, h2⟩ | ⟨b, off, cap, h1, h2, h3, h4, h5⟩
  · simp only [List.cons.injEq, and_true] at h1
    subst h1 h2
    exact ⟨sb, 0, [], rfl, by simp, fun w1 _ => run_firstCells_zero w1 e.size sb 0, fun i hi => by simp at hi, by simp, by simp, .inl rfl⟩
  · simp only [List.cons.injEq, and_true] at h1
    subst h1
    have hle : l.length * e.size ≤ cap * e.size := Nat.mul_le_mul_right _ h2
    have hb : BlockOk w b (off + l.length * e.size) := by
      obtain ⟨cs, T, fr, k1, k2⟩ := h4
      exact ⟨cs, T, fr, k1, by omega⟩
    have hlen := cellsAt_length hb
    have hch : ∀ i (h : i < l.length), Rep w S e (q ++ [.i i]) (((cellsAt w b off (l.length * e.size)).drop (i * e.size)).take e.size) (l.get ⟨i, h⟩) := by
      intro i hi
      have : (i + 1) * e.size ≤ l.length * e.size := Nat.mul_le_mul_right _ hi
      rw [Nat.add_mul] at this
      rw [cellsAt_chunk (by omega)]
      exact h5 i hi
    refine ⟨_, cap, cellsAt w b off (l.length * e.size), rfl, hlen, fun w1 hw1 => ?_, hch, hone _ hlen hch, h2, .inr ⟨b, off, rfl, h3, h4, fun j hj => ?_⟩⟩
    rotate_left
    · have : (j + 1) * e.size ≤ l.length * e.size := Nat.mul_le_mul_right _ hj
      rw [Nat.add_mul] at this
      rw [cellsAt_chunk (by omega)]
    refine run_firstCells_some (P := P) w1 e.size l.length ⟨b, off, none⟩ l.length cap (cellsAt w b off (l.length * e.size)) hlen fun j u hu => ?_
    have := cell?_cellsAt hb j u hu
    unfold World.cell? at this ⊢
    rw [hw1]
    exact this

section
variable {P : Program} {Γ : Ctx} {Kp : Keep} {B0 : World} {n : Nat} {G : Gh} {s : State} {a : Act} {w w' : World} {id : Nat} {o : Oper} {Q : Exit → Act → World → Prop} {ws : Writes}

theorem run_append_grown {t ty te : TypeId} {i : TypeInfo} {z : Value} (ht : P.underlying t = some (.slice te)) (hi : P.info? te = some i) (hz : i.zero = some z) (sb xb : Option Addr) (sLen sCap xLen xCap : Nat) (olds news : List Value)
    (hs : ∀ w1 : World, w1.heap = w.heap → (Builtin.firstCells i.size sLen (.slice sb sLen sCap)).run P w1 = .ok olds.toArray w1) (hx : ∀ w1 : World, w1.heap = w.heap → (Builtin.firstCells i.size xLen (.slice xb xLen xCap)).run P w1 = .ok news.toArray w1)
    (hg : sCap < sLen + xLen) (h63 : ((sLen + xLen : Nat) : Int) ≤ 9223372036854775807) (hfit : Builtin.nextslicecap (sLen + xLen) sCap * i.bytes ≤ 281474976710656) :
    (Builtin.append_ #[t, t] ty #[.slice sb sLen sCap, .slice xb xLen xCap]).run P w =
      .ok (.slice (some ⟨w.heap.size, 0, none⟩) (sLen + xLen) (grownCap w (sLen + xLen) sCap te))
        (w.drew.alloc (.cells (olds.toArray ++ news.toArray ++ Builtin.zeroCells z.cells (grownCap w (sLen + xLen) sCap te - (sLen + xLen))) te)) := by
  have hn : ¬ (sLen + xLen ≤ sCap) := by omega
  have h63' : ¬ (9223372036854775807 < ((sLen : Int) + (xLen : Int))) := by omega
  have h48' : ¬ (281474976710656 < Builtin.nextslicecap (sLen + xLen) sCap * i.bytes) := by omega
  have hf := hx w.drew rfl
  have hfo := hs w.drew rfl
  simp [Builtin.append_, run_underlying ht, sizeOf, typeInfo, zeroValue, hi, hz, Builtin.lenOf, hn, h63', h48', Question.forced, hf, hfo, newRow, grownCap]
  congr 2
  apply Array.ext'
  simp [List.append_assoc]

theorem run_append_into {t ty te : TypeId} {i : TypeInfo} (ht : P.underlying t = some (.slice te)) (hi : P.info? te = some i) (b off sLen sCap : Nat) (xb : Option Addr) (xLen xCap : Nat) (news : List Value) {cur : Array Value} {T : TypeId}
    (hx : ∀ w1 : World, w1.heap = w.heap → (Builtin.firstCells i.size xLen (.slice xb xLen xCap)).run P w1 = .ok news.toArray w1) (hb : w.heap[b]? = some (.cells cur T (0, 0))) (h1 : ∀ u ∈ news, u.oneCell' = true)
    (hroom : sLen + xLen ≤ sCap) (hfit : off + sLen * i.size + news.length ≤ cur.size) :
    (Builtin.append_ #[t, t] ty #[.slice (some ⟨b, off, none⟩) sLen sCap, .slice xb xLen xCap]).run P w =
      .ok (.slice (some ⟨b, off, none⟩) (sLen + xLen) sCap) (w.setRow b (cur.toList.take (off + sLen * i.size) ++ news ++ cur.toList.drop (off + sLen * i.size + news.length)).toArray) := by
  have hf := hx w rfl
  have hst := run_storeCells_at P b (off + sLen * i.size) T news 0 cur w hb (by simpa using hfit) h1
  simp only [Nat.add_zero] at hst
  simp [Builtin.append_, run_underlying ht, sizeOf, typeInfo, hi, Builtin.lenOf, hroom, hf, add_mk, hst]
theorem run_append_none {t ty te : TypeId} {i : TypeInfo} (ht : P.underlying t = some (.slice te)) (hi : P.info? te = some i) (sb xb : Option Addr) (xCap : Nat)
    (hx : ∀ w1 : World, w1.heap = w.heap → (Builtin.firstCells i.size 0 (.slice xb 0 xCap)).run P w1 = .ok #[] w1) :
    (Builtin.append_ #[t, t] ty #[.slice sb 0 0, .slice xb 0 xCap]).run P w = .ok (.slice sb 0 0) w := by
  have hf := hx w rfl
  cases sb <;> simp [storeCells, Builtin.append_, run_underlying ht, sizeOf, typeInfo, hi, Builtin.lenOf, hf]

theorem setRow_put {b o : Nat} {cur : Array Value} {T : TypeId} {x : List Value} (hb : w.heap[b]? = some (.cells cur T (0, 0))) (hl : o + x.length ≤ cur.size) :
    Put w (w.setRow b (cur.toList.take o ++ x ++ cur.toList.drop (o + x.length)).toArray) b o x :=
  ⟨fun k hk => setRow_other w b k _ hk, cur, _, T, _, hb, setRow_heap w b cur _ T _ hb, hl, by simp⟩

/-- Cells elsewhere turned. -/
theorem Holds.world {v : V} {cs : List Value} {dp : Nat} {ro : Option (Nat × Path)} (h : Holds G w s v cs dp ro)
    (hn : ∀ b, b < w.heap.size → G.φ b = none → w'.heap[b]? = w.heap[b]?) (ho : ∀ b r p q, b < w.heap.size → ro = some (r, p) → G.φ b = some (false, r, p ++ q) → w'.heap[b]? = w.heap[b]?) : Holds G w' s v cs dp ro := by
  cases h with
  | free _ h => exact .free _ (h.frame fun q b _ hb _ => hb.elim)
  | shared h => exact .shared (h.frame fun q b _ hb hl => ⟨hn b hl hb, hb⟩)
  | dead r p _ hr h =>
    refine .dead r p _ hr (h.frame fun q b hq hb hl => ⟨?_, hb⟩)
    rcases ownS_lev hb with ⟨_, hb⟩ | ⟨_, hb⟩
    · obtain ⟨q', rfl⟩ := hq
      exact ho b r p q' hl rfl hb
    · exact hn b hl hb

/-- The elements of what was given up. -/
theorem Holds.elem {e : Kd} {m : List e.den} {v : Value} {dp : Nat} {ro : Option (Nat × Path)} (h : Holds G w s ⟨.slice e, m⟩ [v] dp ro) {news : List Value} {j : Nat} (hj : j < m.length)
    (hn : ∀ (S : OwnS) (q : Path), Rep w S (.slice e) q [v] m → Rep w S e (q ++ [.i j]) ((news.drop (j * e.size)).take e.size) (m.get ⟨j, hj⟩)) :
    ∃ ro', Holds G w s ⟨e, m.get ⟨j, hj⟩⟩ ((news.drop (j * e.size)).take e.size) (dp - 1) ro' ∧ ∀ r p, ro' = some (r, p) → ∃ p0, ro = some (r, p0) ∧ p = p0 ++ [.i j] := by
  cases h with
  | free _ h =>
    simp only [Rep] at h
    rcases h with ⟨_, h⟩ | ⟨b, off, cap, _, _, h, _⟩
    · subst h; simp at hj
    · exact h.elim
  | shared h => exact ⟨none, .shared ((hn _ _ h).move fun p b hs _ => hs), fun r p hr => by cases hr⟩
  | dead r p _ hr h =>
    have hl : lev (p ++ [.i j]) = lev p + 1 := by rw [lev_append]; rfl
    cases dp with
    | zero => exact ⟨none, .shared ((hn _ _ h).move (q' := []) fun p' b hs _ => by
        rcases ownS_lev hs with ⟨hlt, _⟩ | ⟨_, hs⟩
        · rw [lev_append, hl] at hlt; omega
        · exact hs), fun r p hr => by cases hr⟩
    | succ dp =>
      refine ⟨some (r, p ++ [.i j]), .dead r _ _ hr ?_, fun r' p' hr' => ⟨p, ?_⟩⟩
      · have := hn _ _ h
        rw [show lev (p ++ [.i j]) + (dp + 1 - 1) = lev p + (dp + 1) by rw [hl]; omega]
        exact this
      · simp only [Option.some.injEq, Prod.mk.injEq] at hr'
        exact ⟨by rw [hr'.1], hr'.2.symm⟩

theorem chunk_append_l {x y : List Value} {i e k : Nat} (hx : x.length = k * e) (hi : i < k) : ((x ++ y).drop (i * e)).take e = (x.drop (i * e)).take e := by
  have : (i + 1) * e ≤ k * e := Nat.mul_le_mul_right _ hi
  rw [Nat.add_mul] at this
  rw [List.drop_append_of_le_length (by omega), List.take_append_of_le_length (by simp; omega)]
theorem chunk_append_r {x y : List Value} {j e k : Nat} (hx : x.length = k * e) : ((x ++ y).drop ((k + j) * e)).take e = (y.drop (j * e)).take e := by
  have : (k + j) * e = x.length + j * e := by rw [Nat.add_mul, hx]
  rw [this, List.drop_append, List.drop_of_length_le (by omega), List.nil_append]
  congr 2
  omega

theorem append_finish (S : Set_ P Γ Kp B0 n G s a w o) {s2 : State} {G2 : Gh} (g2 : GOk Kp G2 s2 a w) {d : Nat} (hd : o.dst = some d) (hid : s2 (rt id) = .none) {e : Kd} {t te : TypeId} {i : TypeInfo} {z : Value}
    (ut : P.underlying t = some (.slice te)) (hr : Row P te e i z) (he : 0 < e.size) {l m : List e.den} {dep : Nat} (hdep : 1 ≤ dep) (M : Nat → Path → Option Path) {olds news : List Value} {sb xb : Option Addr} {sCap xCap : Nat}
    (hol : olds.length = l.length * e.size) (hnl : news.length = m.length * e.size)
    (helO : ∀ j (h : j < l.length), ∃ dp ro, Holds G2 w s2 ⟨e, l.get ⟨j, h⟩⟩ ((olds.drop (j * e.size)).take e.size) dp ro ∧ dep ≤ dp + 1 ∧ ∀ r p, ro = some (r, p) → p ≠ [] ∧ ∀ q, M r (p ++ q) = some (.i j :: q))
    (helN : ∀ j (h : j < m.length), ∃ dp ro, Holds G2 w s2 ⟨e, m.get ⟨j, h⟩⟩ ((news.drop (j * e.size)).take e.size) dp ro ∧ dep ≤ dp + 1 ∧ ∀ r p, ro = some (r, p) → p ≠ [] ∧ ∀ q, M r (p ++ q) = some (.i (l.length + j) :: q))
    (hs : ∀ w1 : World, w1.heap = w.heap → (Builtin.firstCells e.size l.length (.slice sb l.length sCap)).run P w1 = .ok olds.toArray w1)
    (hx : ∀ w1 : World, w1.heap = w.heap → (Builtin.firstCells e.size m.length (.slice xb m.length xCap)).run P w1 = .ok news.toArray w1)
    (h1 : ∀ u ∈ news, u.oneCell' = true) (hlim : l.length + m.length ≤ lim) (hlc : l.length ≤ sCap)
    (hin : sCap = 0 ∨ ∃ b off cur T r, sb = some ⟨b, off, none⟩ ∧ w.heap[b]? = some (.cells cur T (0, 0)) ∧ off + sCap * e.size ≤ cur.size ∧ G2.φ b = some (false, r, []) ∧ s2 (rt r) = .dead ∧ M r [] = some [] ∧
      ∀ j (h : j < l.length), (cellsAt w b (off + j * e.size) e.size) = (olds.drop (j * e.size)).take e.size)
    (hexec : ∀ v w', (Builtin.append_ #[t, t] o.type #[.slice sb l.length sCap, .slice xb m.length xCap]).run P w = .ok v w' → (execOp a.eval o).run P w = .ok (.value v) w') :
    o.wp P a w (fun a' w' => Inv Kp B0 n (s2.put [(rt id, .root (.slice e) (l ++ m) dep false false 0), (sl d, .al id [] 0)]) a' w') Q := by
  rw [← hr.size] at hs hx
  have hdn := S.dst d hd
  have hchunk : ∀ (rest : List Value) j (h : j < (l ++ m).length), ∃ dp ro, Holds G2 w s2 ⟨e, (l ++ m).get ⟨j, h⟩⟩ (((olds ++ news ++ rest).drop (j * e.size)).take e.size) dp ro ∧ dep ≤ dp + 1 ∧ ∀ r p, ro = some (r, p) → p ≠ [] ∧ ∀ q, M r (p ++ q) = some (.i j :: q) := by
    intro rest j h
    rw [List.length_append] at h
    by_cases hj : j < l.length
    · rw [List.append_assoc, chunk_append_l hol hj]
      obtain ⟨dp, ro, k1, k2, k3⟩ := helO j hj
      refine ⟨dp, ro, ?_, k2, k3⟩
      simpa [List.getElem_append_left hj] using k1
    · obtain ⟨j', rfl⟩ : ∃ j', j = l.length + j' := ⟨j - l.length, by omega⟩
      rw [List.append_assoc, chunk_append_r hol, chunk_append_l hnl (by omega)]
      obtain ⟨dp, ro, k1, k2, k3⟩ := helN j' (by omega)
      refine ⟨dp, ro, ?_, k2, k3⟩
      simpa [List.getElem_append_right] using k1
  by_cases hroom : l.length + m.length ≤ sCap
  · rcases hin with rfl | ⟨b, off, cur, T, r, rfl, hb, hcap, hφ, hdead, hM0, hcl⟩
    · have hl0 : l.length = 0 := by omega
      have hm0 : m.length = 0 := by omega
      have hl : l = [] := List.length_eq_zero_iff.1 hl0
      have hm : m = [] := List.length_eq_zero_iff.1 hm0
      subst hl hm
      have hn0 : news = [] := by
        apply List.length_eq_zero_iff.1
        rw [hnl]
        simp
      subst hn0
      have hrun := run_append_none (t := t) (ty := o.type) ut hr.info sb xb xCap (w := w) (fun w1 h => by simpa using hx w1 h)
      exact value_root S g2 hd hid [.slice sb 0 0] M (by simp [Rep]) (hexec _ _ hrun)
    · have hle : (l.length + m.length) * e.size ≤ sCap * e.size := Nat.mul_le_mul_right _ hroom
      rw [Nat.add_mul] at hle
      have hfit : off + l.length * e.size + news.length ≤ cur.size := by rw [hnl]; omega
      have hrun := run_append_into (t := t) (ty := o.type) ut hr.info b off l.length sCap xb m.length xCap news hx hb h1 hroom (by rw [hr.size]; exact hfit)
      rw [hr.size] at hrun
      have hput := setRow_put hb hfit (x := news)
      refine wp_new hd (hexec _ _ hrun) ?_
      have hsame : ∀ b', b' < w.heap.size → (G2.φ b' = none ∨ ∃ f r q, G2.φ b' = some (f, r, q) ∧ ∃ k d dep box frz ver, s2 (rt r) = .root k d dep box frz ver) → (w.setRow b (cur.toList.take (off + l.length * e.size) ++ news ++ cur.toList.drop (off + l.length * e.size + news.length)).toArray).heap[b']? = w.heap[b']? := by
        intro b' _ hh
        refine hput.other b' fun eq => ?_
        subst eq
        rcases hh with hh | ⟨f, r', q, hh, k, d', dep', box, frz, ver, hroot⟩
        · rw [hφ] at hh; cases hh
        · rw [hφ] at hh
          injection hh with hh
          injection hh with _ hh
          injection hh with hh _
          subst hh
          rw [hdead] at hroot
          cases hroot
      obtain ⟨_, cs', _, _, p1, p2, p3, p4⟩ := hput.here
      have hbl : b < w.heap.size := (Array.getElem?_eq_some_iff.1 hb).1
      have hb' : (w.setRow b (cur.toList.take (off + l.length * e.size) ++ news ++ cur.toList.drop (off + l.length * e.size + news.length)).toArray).heap[b]? = some (.cells (cur.toList.take (off + l.length * e.size) ++ news ++ cur.toList.drop (off + l.length * e.size + news.length)).toArray T (0, 0)) := setRow_heap w b cur _ T _ hb
      obtain ⟨G', g', _⟩ := mk_rootW g2 (w' := w.setRow b (cur.toList.take (off + l.length * e.size) ++ news ++ cur.toList.drop (off + l.length * e.size + news.length)).toArray) (moveT s2 id dep M) none [.slice (some ⟨b, off, none⟩) (l.length + m.length) sCap] hsame
        (fun b' cs T' h => by
          by_cases eq : b' = b
          · subst eq; exact ⟨_, _, hb'⟩
          · exact ⟨cs, T', (hput.other b' eq).trans h⟩)
        (fun f r q h => moveT_live f r q h) moveT_far (by rw [setRow_size]; exact Nat.le_refl _) (fun x hx => by cases hx) hid (cell := .root (.slice e) (l ++ m) dep false false 0) (d := d) (v := .slice (some ⟨b, off, none⟩) (l.length + m.length) sCap) (sc := .al id [] 0) (by rw [S.inv.size]; exact hdn)
        (by
          refine ⟨?_, fun h => by cases h⟩
          simp only [if_true, Rep]
          refine .inr ⟨b, off, sCap, by simp, by simpa using hroom, ?_, hput.block ⟨cur, T, _, hb, hcap⟩, fun j hj => ?_⟩
          · have : lev [] < dep := by simp [lev]; omega
            simp only [ownS, this, if_true, reφ, hbl, hφ, Option.bind_some]
            rw [moveT_dead hdead hM0, if_pos this]
          · obtain ⟨dp, ro, k1, k2, k3⟩ := hchunk [] j hj
            have hcell : cellsAt (w.setRow b (cur.toList.take (off + l.length * e.size) ++ news ++ cur.toList.drop (off + l.length * e.size + news.length)).toArray) b (off + j * e.size) e.size = ((olds ++ news ++ []).drop (j * e.size)).take e.size := by
              rw [List.length_append] at hj
              by_cases hjl : j < l.length
              · have : (j + 1) * e.size ≤ l.length * e.size := Nat.mul_le_mul_right _ hjl
                rw [Nat.add_mul] at this
                have hr2 : ((olds ++ news ++ []).drop (j * e.size)).take e.size = (olds.drop (j * e.size)).take e.size := by rw [List.append_assoc, chunk_append_l hol hjl]
                rw [hput.cells_other (.inr (.inl (by omega))), hcl j hjl, hr2]
              · obtain ⟨j', rfl⟩ : ∃ j', j = l.length + j' := ⟨j - l.length, by omega⟩
                have hj2 : (j' + 1) * e.size ≤ m.length * e.size := Nat.mul_le_mul_right _ (by omega)
                rw [Nat.add_mul] at hj2
                have hr2 : ((olds ++ news ++ []).drop ((l.length + j') * e.size)).take e.size = (news.drop (j' * e.size)).take e.size := by rw [List.append_assoc, chunk_append_r hol, chunk_append_l hnl (by omega)]
                rw [hr2]
                rw [show off + (l.length + j') * e.size = (off + l.length * e.size) + j' * e.size by rw [Nat.add_mul]; omega]
                rw [← cellsAt_chunk (n := news.length) (by omega), hput.cells_same]
            rw [hcell]
            have k1' := Holds.world (w' := w.setRow b (cur.toList.take (off + l.length * e.size) ++ news ++ cur.toList.drop (off + l.length * e.size + news.length)).toArray) k1 (fun b' hl' hn => hsame b' hl' (.inl hn)) (fun b' r' p q hl' hro hb2 => by
              refine hput.other b' fun eq => ?_
              subst eq
              rw [hφ] at hb2
              injection hb2 with hb2
              injection hb2 with _ hb2
              injection hb2 with _ hb2
              have := (k3 r' p hro).1
              cases p with
              | nil => exact this rfl
              | cons x p => simp at hb2)
            have hsz : (w.setRow b (cur.toList.take (off + l.length * e.size) ++ news ++ cur.toList.drop (off + l.length * e.size + news.length)).toArray).heap.size = w.heap.size := setRow_size _ _ _
            have := holds_move (w' := w.setRow b (cur.toList.take (off + l.length * e.size) ++ news ++ cur.toList.drop (off + l.length * e.size + news.length)).toArray) (id := id) (dep := dep) (M := M) (pre := [.i j]) (nb := none) k1' (fun _ _ => rfl) (by simp [lev]; omega) (fun r p hr q => by simpa using (k3 r p hr).2 q)
            rw [hsz] at this
            simpa using this)
        (.inr ⟨_, _, _, _, _, _, rfl⟩)
        (by
          have e' : (s2.put [(rt id, Cell.root (.slice e) (l ++ m) dep false false 0), (sl d, .al id [] 0)]) (rt id) = .root (.slice e) (l ++ m) dep false false 0 := by
            simp only [State.put]; rw [State.set_other _ _ (sl_rt d id).symm, State.set_same]
          simp only [CellOk]
          rw [e']
          exact ⟨Nat.le_refl _, fun _ => ⟨⟨.slice e, l ++ m⟩, rfl, trivial, by simp [subC, mkVal, Kd.agg]⟩⟩)
      refine ⟨by simp [Act.put, S.inv.defers], by simp [Act.put, S.inv.size], ?_, G', g'⟩
      have hbase := S.inv.base
      have hkb := (g2.mine hφ (.inl rfl)).1
      exact ⟨hbase.os, hbase.tape, hbase.output, by rw [setRow_size]; exact hbase.size, fun b' hk => (hput.other b' fun eq => hkb (eq ▸ hk)).trans (hbase.kept b' hk), hbase.old⟩
  · have hbytes := hr.bytes
    have hfit : Builtin.nextslicecap (l.length + m.length) sCap * i.bytes ≤ 281474976710656 := by
      refine growslice_fits (by omega) ?_
      have : (l.length + m.length) * i.bytes ≤ lim * 128 := Nat.mul_le_mul hlim hbytes
      unfold lim at this
      omega
    have hrun := run_append_grown (t := t) (ty := o.type) (w := w) ut hr.info hr.zero sb xb l.length sCap m.length xCap olds news hs hx (by omega) (by unfold lim at hlim; omega) hfit
    have hcapge : l.length + m.length ≤ grownCap w (l.length + m.length) sCap te := grownCap_ge w _ _ _
    have hzc : z.cells = (zeroC e).toArray := zcells_arr hr
    have := slice_root (Q := Q) S (w1 := w.drew) (l := l ++ m) (dep := dep) g2.drew S.inv.base.drew hd hid te (olds.toArray ++ news.toArray ++ Builtin.zeroCells z.cells (grownCap w (l.length + m.length) sCap te - (l.length + m.length))) (grownCap w (l.length + m.length) sCap te) M hdep (by simpa using hcapge)
      (by
        have hzs : (Builtin.zeroCells z.cells (grownCap w (l.length + m.length) sCap te - (l.length + m.length))).size = (grownCap w (l.length + m.length) sCap te - (l.length + m.length)) * e.size := by
          rw [size_zeroCells, hzc, List.size_toArray, zeroC_length]
        simp only [Array.size_append, List.size_toArray, hzs, hol, hnl]
        have : grownCap w (l.length + m.length) sCap te = (l.length + m.length) + (grownCap w (l.length + m.length) sCap te - (l.length + m.length)) := by omega
        rw [Nat.sub_mul, Nat.add_mul]
        have h2 : (l.length + m.length) * e.size ≤ grownCap w (l.length + m.length) sCap te * e.size := Nat.mul_le_mul_right _ hcapge
        rw [Nat.add_mul] at h2
        omega)
      (fun j hj => by
        obtain ⟨dp, ro, k1, k2, k3⟩ := hchunk (Builtin.zeroCells z.cells (grownCap w (l.length + m.length) sCap te - (l.length + m.length))).toList j hj
        refine ⟨dp, ro, ?_, k2, fun r p hr => (k3 r p hr).2⟩
        have e2 : (olds.toArray ++ news.toArray ++ Builtin.zeroCells z.cells (grownCap w (l.length + m.length) sCap te - (l.length + m.length))).toList = olds ++ news ++ (Builtin.zeroCells z.cells (grownCap w (l.length + m.length) sCap te - (l.length + m.length))).toList := by simp
        rw [e2]
        exact Holds.world k1 (fun _ _ _ => rfl) (fun _ _ _ _ _ _ _ => rfl))
      (by
        have := hexec _ _ hrun
        simpa using this)
    exact this

theorem append_cst (S : Set_ P Γ Kp B0 n G s a w o) {s1 : State} {G1 : Gh} (g1 : GOk Kp G1 s1 a w) {d : Nat} (hd : o.dst = some d) (hid : s1 (rt id) = .none) {e : Kd} {t te : TypeId} {i : TypeInfo} {z : Value}
    (ut : P.underlying t = some (.slice te)) (hr : Row P te e i z) (he : 0 < e.size) {m : List e.den} {dep : Nat} (hdep : 1 ≤ dep) (M : Nat → Path → Option Path) {news : List Value} {sb xb : Option Addr} {xCap : Nat}
    (hnl : news.length = m.length * e.size)
    (helN : ∀ j (h : j < m.length), ∃ dp ro, Holds G1 w s1 ⟨e, m.get ⟨j, h⟩⟩ ((news.drop (j * e.size)).take e.size) dp ro ∧ dep ≤ dp + 1 ∧ ∀ r p, ro = some (r, p) → p ≠ [] ∧ ∀ q, M r (p ++ q) = some (.i j :: q))
    (hx : ∀ w1 : World, w1.heap = w.heap → (Builtin.firstCells e.size m.length (.slice xb m.length xCap)).run P w1 = .ok news.toArray w1)
    (h1 : ∀ u ∈ news, u.oneCell' = true) (hlim : m.length ≤ lim)
    (hexec : ∀ v w', (Builtin.append_ #[t, t] o.type #[.slice sb 0 0, .slice xb m.length xCap]).run P w = .ok v w' → (execOp a.eval o).run P w = .ok (.value v) w') :
    o.wp P a w (fun a' w' => Inv Kp B0 n (s1.put [(rt id, .root (.slice e) ([] ++ m) dep false false 0), (sl d, .al id [] 0)]) a' w') Q :=
  append_finish S g1 hd hid ut hr he (l := []) hdep M (olds := []) (sb := sb) (sCap := 0) (by simp) hnl (fun j h => by simp at h)
    (fun j h => by
      obtain ⟨dp, ro, k1, k2, k3⟩ := helN j h
      exact ⟨dp, ro, k1, k2, fun r p hr => by simpa using k3 r p hr⟩)
    (fun w1 _ => run_firstCells_zero w1 e.size sb 0) hx h1 (by simpa using hlim) (by simp) (.inl rfl) hexec

theorem append_al (S : Set_ P Γ Kp B0 n G s a w o) {s1 : State} {G1 : Gh} (g1 : GOk Kp G1 s1 a w) {d : Nat} (hd : o.dst = some d) (hid : s1 (rt id) = .none) {e : Kd} {t te : TypeId} {i : TypeInfo} {z : Value}
    (ut : P.underlying t = some (.slice te)) (hr : Row P te e i z) (he : 0 < e.size) {l m : List e.den} {dep dep0 ver r : Nat} {sv : Value} (hroot : s1 (rt r) = .root (.slice e) l dep0 false false ver) (hsv : sv = mkVal (.slice e) (G1.C r)) (hdep : 1 ≤ dep) (hdd : dep ≤ dep0)
    (N : Nat → Path → Option Path) {news : List Value} {xb : Option Addr} {xCap : Nat} (hnl : news.length = m.length * e.size)
    (helN : ∀ j (h : j < m.length), ∃ dp ro, Holds G1 w s1 ⟨e, m.get ⟨j, h⟩⟩ ((news.drop (j * e.size)).take e.size) dp ro ∧ dep ≤ dp + 1 ∧ ∀ r' p, ro = some (r', p) → r' ≠ r ∧ p ≠ [] ∧ ∀ q, N r' (p ++ q) = some (.i (l.length + j) :: q))
    (hx : ∀ w1 : World, w1.heap = w.heap → (Builtin.firstCells e.size m.length (.slice xb m.length xCap)).run P w1 = .ok news.toArray w1)
    (h1 : ∀ u ∈ news, u.oneCell' = true) (hlim : l.length + m.length ≤ lim)
    (hexec : ∀ v w', (Builtin.append_ #[t, t] o.type #[sv, .slice xb m.length xCap]).run P w = .ok v w' → (execOp a.eval o).run P w = .ok (.value v) w') :
    o.wp P a w (fun a' w' => Inv Kp B0 n (s1.put [(rt r, .dead), (rt id, .root (.slice e) (l ++ m) dep false false 0), (sl d, .al id [] 0)]) a' w') Q := by
  have hro := g1.roots r
  rw [hroot] at hro
  have hrep := hro.1
  have hlen := hrep.length
  obtain ⟨v, hv⟩ : ∃ v, G1.C r = [v] := by
    match hq : G1.C r, hlen with
    | [v], _ => exact ⟨v, rfl⟩
  rw [hv] at hrep
  obtain ⟨ad, cap, olds, e1, e2, e3, e4, e5, e6, e7⟩ := slice_cells (P := P) he hrep
  have hsv' : sv = .slice ad l.length cap := by rw [hsv, hv, ← e1]; rfl
  rw [e1] at e3
  subst hsv'
  have g2 := kill_ok g1 ⟨_, _, _, _, _, _, hroot⟩
  have hne : id ≠ r := fun e => by subst e; rw [hid] at hroot; cases hroot
  have hid2 : (s1.set (rt r) .dead) (rt id) = .none := by rw [State.set_other _ _ (fun h => hne (rt_inj h))]; exact hid
  have hlevi : ∀ j, lev [St.i j] = 1 := fun j => rfl
  have key := append_finish (Q := Q) S g2 hd hid2 ut hr he (l := l) (m := m) hdep (fun r' q => if r' = r then some q else N r' q) (olds := olds) (news := news) (sb := ad) (sCap := cap) e2 hnl
    (fun j h => ⟨dep0 - 1, some (r, [.i j]), .dead r [.i j] _ (State.set_same _ _ _) (by
        rw [hlevi, show 1 + (dep0 - 1) = dep0 by omega]
        simpa using e4 j h), by omega, fun r' p hr' => by
          simp only [Option.some.injEq, Prod.mk.injEq] at hr'
          obtain ⟨rfl, rfl⟩ := hr'
          exact ⟨by simp, fun q => by simp⟩⟩)
    (fun j h => by
      obtain ⟨dp, ro, k1, k2, k3⟩ := helN j h
      refine ⟨dp, ro, k1.keep (fun r' p hr' => State.set_other _ _ (fun h => (k3 r' p hr').1 (rt_inj h))) (fun _ h => h) (fun _ _ _ _ h _ => h), k2, fun r' p hr' => ?_⟩
      obtain ⟨n1, n2, n3⟩ := k3 r' p hr'
      exact ⟨n2, fun q => by simp only [n1, if_false]; exact n3 q⟩)
    e3 hx h1 hlim e6 (by
      rcases e7 with h | ⟨b, off, k1, k2, k3, k4⟩
      · exact .inl h
      · right
        have hφ : G1.φ b = some (false, r, []) := by
          rcases ownS_lev k2 with ⟨_, h⟩ | ⟨h, _⟩
          · exact h
          · simp [lev] at h; omega
        obtain ⟨_, cur, T, hb⟩ := g1.mine hφ (.inl rfl)
        refine ⟨b, off, cur, T, r, k1, hb, ?_, hφ, State.set_same _ _ _, by simp, k4⟩
        obtain ⟨cs, T', fr, hb', hle⟩ := k3
        rw [hb] at hb'
        injection hb' with hb'
        injection hb' with hb' _ _
        rw [hb']
        exact hle)
    hexec
  exact key

/-! ### a part of a box is appended to -/
/-- A block grew behind what is read of it. -/
theorem rep_grow {w w' : World} {S S' : OwnS} : ∀ {p : Path} {k : Kd} {q : Path} {c : List Value} {d : k.den} {e : Kd} {l : List e.den}, Rep w S k q c d → noIdx p = true → getP p k d = some ⟨.slice e, l⟩ →
    (∀ q' b, q <+: q' → S q' b → b < w.heap.size → S' q' b ∧ (q' ≠ q ++ p → w'.heap[b]? = w.heap[b]?)) →
    Rep w' S' (.slice e) (q ++ p) (subC w p k c) l → Rep w' S' k q c d := by
  intro p
  induction p with
  | nil =>
    intro k q c d e l _ _ hg _ hn
    simp only [getP, Option.some.injEq, V.mk.injEq] at hg
    obtain ⟨rfl, hg⟩ := hg
    have hg := eq_of_heq hg
    subst hg
    simpa [subC] using hn
  | cons s p ih =>
    intro k q c d e l hr hp hg H hn
    cases s with
    | l => cases k with
      | pair a b =>
        simp only [subC] at hn
        simp only [getP, Rep, noIdx] at hg hr hp ⊢
        refine ⟨ih hr.1 hp hg (fun q' b' h1 h2 h3 => ?_) (by simpa using hn), hr.2.frame fun q' b' h1 h2 h3 => ?_⟩
        · obtain ⟨k1, k2⟩ := H q' b' ((List.prefix_append _ _).trans h1) h2 h3
          exact ⟨k1, fun hne => k2 (by simpa using hne)⟩
        · obtain ⟨k1, k2⟩ := H q' b' ((List.prefix_append _ _).trans h1) h2 h3
          exact ⟨k2 (fun e => prefix_l_r (q := q) (show q ++ [St.l] <+: q' from by rw [e]; exact ⟨p, by simp⟩) h1), k1⟩
      | _ => simp [getP] at hg
    | r => cases k with
      | pair a b =>
        simp only [subC] at hn
        simp only [getP, Rep, noIdx] at hg hr hp ⊢
        refine ⟨hr.1.frame fun q' b' h1 h2 h3 => ?_, ih hr.2 hp hg (fun q' b' h1 h2 h3 => ?_) (by simpa using hn)⟩
        · obtain ⟨k1, k2⟩ := H q' b' ((List.prefix_append _ _).trans h1) h2 h3
          exact ⟨k2 (fun e => prefix_l_r (q := q) h1 (show q ++ [St.r] <+: q' from by rw [e]; exact ⟨p, by simp⟩)), k1⟩
        · obtain ⟨k1, k2⟩ := H q' b' ((List.prefix_append _ _).trans h1) h2 h3
          exact ⟨k1, fun hne => k2 (by simpa using hne)⟩
      | _ => simp [getP] at hg
    | i n => simp [noIdx] at hp
theorem lev_noIdx : ∀ {p : Path}, noIdx p = true → lev p = 0 := by
  intro p
  induction p with
  | nil => intro _; rfl
  | cons s p ih => intro h; cases s <;> simp [noIdx] at h <;> simp [lev, ih h]

/-- The ghosts' step: the part's own blocks may have turned. -/
theorem box_step (S : Set_ P Γ Kp B0 n G s a w o) {s1 : State} {G1 : Gh} (g1 : GOk Kp G1 s1 a w) {d : Nat} (hd : d < a.tmps.size) {e : Kd} {L : List e.den} {k : Kd} {dd : k.den} {dep ver r : Nat} {p : Path} (hroot : s1 (rt r) = .root k dd dep true false ver)
    (M : Nat → Path → Option Path) {nb : Option (Bool × Nat × Path)} (hw : ∀ b, b < w.heap.size → G1.φ b ≠ some (false, r, p) → w'.heap[b]? = w.heap[b]?)
    (hcw : ∀ (b : Nat) (cs : Array Value) (T : TypeId), w.heap[b]? = some (Obj.cells cs T (0, 0)) → ∃ cs' T', w'.heap[b]? = some (Obj.cells cs' T' (0, 0)))
    (hsz : w.heap.size ≤ w'.heap.size) (hnb : ∀ x, nb = some x → ¬ Kp.K w.heap.size ∧ ∃ cs T, w'.heap[w.heap.size]? = some (.cells cs T (0, 0)))
    (hrep : Rep w' (ownS (reφ G1.φ (moveT s1 r dep M) w.heap.size nb) r dep) k [] (G1.C r) dd) {v' : Value} {cs' : List Value} (hv : v' = mkVal (.slice e) cs')
    (hval : Rep w' (ownS (reφ G1.φ (moveT s1 r dep M) w.heap.size nb) r dep) (.slice e) p cs' L) :
    ∃ G', GOk Kp G' (s1.put [(rt r, .root k dd dep true false (ver + 1)), (sl d, .apd r p (ver + 1) e L)]) (a.put (some d) v') w' := by
  have hlive : ∃ k d dep box frz ver, s1 (rt r) = .root k d dep box frz ver := ⟨_, _, _, _, _, _, hroot⟩
  have hs2 : ∀ r', r' ≠ r → (s1.put [(rt r, Cell.root k dd dep true false (ver + 1)), (sl d, .apd r p (ver + 1) e L)]) (rt r') = s1 (rt r') := fun r' h => by
    simp only [State.put]
    rw [State.set_other _ _ (sl_rt d r').symm, State.set_other _ _ (fun e => h (rt_inj e))]
  have hs2r : (s1.put [(rt r, Cell.root k dd dep true false (ver + 1)), (sl d, .apd r p (ver + 1) e L)]) (rt r) = .root k dd dep true false (ver + 1) := by
    simp only [State.put]
    rw [State.set_other _ _ (sl_rt d r).symm, State.set_same]
  have hnone : ∀ b, G1.φ b = none → b < w.heap.size → reφ G1.φ (moveT s1 r dep M) w.heap.size nb b = none := fun b h hl => by simp [reφ, hl, h]
  have hkeep : ∀ b f r' q, G1.φ b = some (f, r', q) → (∃ k d dep box frz ver, s1 (rt r') = .root k d dep box frz ver) → reφ G1.φ (moveT s1 r dep M) w.heap.size nb b = some (f, r', q) := fun b f r' q h hr => by
    have hl := g1.col.lt b _ h
    simp only [reφ, hl, if_true, h, Option.bind_some]
    exact moveT_live f r' q hr
  refine ⟨⟨reφ G1.φ (moveT s1 r dep M) w.heap.size nb, G1.C, G1.β⟩, g1.step ⟨fun b hb hl => ⟨hnone b hb hl, hw b hl (by rw [hb]; simp)⟩, fun r' k' d' dep' box' frz' ver' h => ?_, fun r' h => ?_⟩ (some d) v' (fun t ht => ?_) (fun d' hd' => ?_) (fun r' => ?_) ⟨fun b x hx => ?_, fun b x hx => ?_, fun b hx => ?_⟩⟩
  · by_cases er : r' = r
    · subst er
      rw [hroot] at h
      simp only [Cell.root.injEq] at h
      obtain ⟨rfl, _, rfl, rfl, rfl, rfl⟩ := h
      exact .inr ⟨_, _, _, _, hs2r, rfl, fun _ => rfl, fun h => h, .inr (Nat.lt_succ_self _)⟩
    · refine .inr ⟨d', dep', frz', ver', (hs2 r' er).trans h, rfl, fun _ => rfl, fun h => h, .inl ⟨rfl, rfl, rfl, fun q b hb => hw b (g1.col.lt b _ hb) (fun hc => by rw [hb] at hc; simp only [Option.some.injEq, Prod.mk.injEq] at hc; exact er hc.2.1), fun q b hl hq => ?_⟩⟩
      rcases ownS_lev hq with ⟨h1, h2⟩ | ⟨h1, h2⟩
      · simp only [ownS, h1, if_true]; exact hkeep b _ _ _ h2 ⟨_, _, _, _, _, _, h⟩
      · simp only [ownS, Nat.not_lt.2 h1, if_false]; exact hnone b h2 hl
  · have er : r' ≠ r := fun e => by subst e; rw [hroot] at h; cases h
    exact (hs2 r' er).trans h
  · simp only [State.put]
    rw [State.set_other _ _ (fun h => ht (by rw [sl_inj h])), State.set_other _ _ (sl_rt t r)]
  · injection hd' with hd'
    subst hd'
    refine ⟨hd, ?_⟩
    have e1 : (s1.put [(rt r, Cell.root k dd dep true false (ver + 1)), (sl d, .apd r p (ver + 1) e L)]) (sl d) = .apd r p (ver + 1) e L := by simp only [State.put]; exact State.set_same _ _ _
    rw [e1]
    simp only [CellOk]
    rw [hs2r]
    exact ⟨Nat.le_refl _, fun _ => ⟨cs', hv, hval⟩⟩
  · by_cases er : r' = r
    · subst er
      rw [hs2r]
      have hro := g1.roots r'
      rw [hroot] at hro
      obtain ⟨⟨cs, T, h1, h2⟩, h3⟩ := hro.2 rfl
      simp only [Bool.false_eq_true, if_false] at h3
      refine ⟨hrep, fun _ => ⟨⟨cs, T, ?_, h2⟩, ?_⟩⟩
      · exact (hw _ (g1.col.lt _ _ h3) (by rw [h3]; simp)).trans h1
      · simp only [Bool.false_eq_true, if_false]
        exact hkeep _ _ _ _ h3 hlive
    · rw [hs2 r' er]
      cases hc : s1 (rt r') with
      | root k0 d0 dep0 box frz ver0 =>
        have hk := g1.roots r'
        rw [hc] at hk
        exact RootOk.keep hk (fun b hb hl => ⟨hnone b hb hl, hw b hl (by rw [hb]; simp)⟩) rfl rfl (fun b f q hb => ⟨hkeep b f r' q hb ⟨_, _, _, _, _, _, hc⟩, hw b (g1.col.lt b _ hb) (fun hc => by rw [hb] at hc; simp only [Option.some.injEq, Prod.mk.injEq] at hc; exact er hc.2.1)⟩)
      | _ => trivial
  · simp only [reφ] at hx
    split at hx
    · rename_i hl
      cases hb : G1.φ b with
      | none => rw [hb] at hx; simp at hx
      | some y =>
        rw [hb] at hx
        rcases g1.col.col b y hb with e' | ⟨h1, cs0, T0, h2⟩
        · subst e'
          simp only [Option.bind_some, moveT_far, Option.some.injEq] at hx
          exact .inl hx.symm
        · obtain ⟨cs2, T2, h3⟩ := hcw b cs0 T0 h2
          exact .inr ⟨h1, cs2, T2, h3⟩
    · split at hx
      · rename_i e'
        subst e'
        exact .inr (hnb x hx)
      · simp at hx
  · simp only [reφ] at hx
    split at hx
    · omega
    · split at hx
      · rename_i e'
        subst e'
        obtain ⟨_, _, _, h⟩ := hnb x hx
        exact (Array.getElem?_eq_some_iff.1 h).1
      · simp at hx
  · have hb := g1.col.out b hx
    have hl := g1.col.lt b _ hb
    simp only [reφ, hl, if_true, hb, Option.bind_some, moveT_far]

theorem append_box (S : Set_ P Γ Kp B0 n G s a w o) {s1 : State} {G1 : Gh} (g1 : GOk Kp G1 s1 a w) {d : Nat} (hd : o.dst = some d) {e : Kd} {t te : TypeId} {i : TypeInfo} {z : Value}
    (ut : P.underlying t = some (.slice te)) (hr : Row P te e i z) (he : 0 < e.size) {l m : List e.den} {k : Kd} {dd : k.den} {dep ver r : Nat} {p : Path} {sv : Value} (hroot : s1 (rt r) = .root k dd dep true false ver)
    (hget : getP p k dd = some ⟨.slice e, l⟩) (hokp : okP p k dd) (hp : noIdx p = true) (hsv : sv = mkVal (.slice e) (subC w p k (G1.C r))) (hdep : 1 ≤ dep)
    (N : Nat → Path → Option Path) {news : List Value} {xb : Option Addr} {xCap : Nat} (hnl : news.length = m.length * e.size)
    (helN : ∀ j (h : j < m.length), ∃ dp ro, Holds G1 w s1 ⟨e, m.get ⟨j, h⟩⟩ ((news.drop (j * e.size)).take e.size) dp ro ∧ dep ≤ dp + 1 ∧ ∀ r' p', ro = some (r', p') → r' ≠ r ∧ ∀ q, N r' (p' ++ q) = some (.i (l.length + j) :: q))
    (hx : ∀ w1 : World, w1.heap = w.heap → (Builtin.firstCells e.size m.length (.slice xb m.length xCap)).run P w1 = .ok news.toArray w1)
    (h1 : ∀ u ∈ news, u.oneCell' = true) (hlim : l.length + m.length ≤ lim)
    (hexec : ∀ v w', (Builtin.append_ #[t, t] o.type #[sv, .slice xb m.length xCap]).run P w = .ok v w' → (execOp a.eval o).run P w = .ok (.value v) w') :
    o.wp P a w (fun a' w' => Inv Kp B0 n (s1.put [(rt r, .root k dd dep true false (ver + 1)), (sl d, .apd r p (ver + 1) e (l ++ m))]) a' w') Q := by
  have hro := g1.roots r
  rw [hroot] at hro
  have hrep : Rep w (ownS G1.φ r dep) (.slice e) p (subC w p k (G1.C r)) l := by
    have := getP_rep hro.1 hokp hget
    rwa [List.nil_append] at this
  have hlen := hrep.length
  have hlp := lev_noIdx hp
  obtain ⟨v, hv⟩ : ∃ v, subC w p k (G1.C r) = [v] := by
    match hq : subC w p k (G1.C r), hlen with
    | [v], _ => exact ⟨v, rfl⟩
  have hrep0 := hrep
  rw [hv] at hrep
  obtain ⟨ad, cap, olds, e1, e2, e3, e4, e5, e6, e7⟩ := slice_cells (P := P) he hrep
  have hsv' : sv = .slice ad l.length cap := by rw [hsv, hv, ← e1]; rfl
  rw [e1] at e3
  subst hsv'
  rw [← hr.size] at e3 hx
  have hdn : d < a.tmps.size := by rw [S.inv.size]; exact S.dst d hd
  have hlive : ∃ k d dep box frz ver, s1 (rt r) = .root k d dep box frz ver := ⟨_, _, _, _, _, _, hroot⟩
  let M : Nat → Path → Option Path := fun r' q => (N r' q).map (p ++ ·)
  have hM : ∀ j (hj : j < m.length) (ro : Option (Nat × Path)), (∀ r' p', ro = some (r', p') → r' ≠ r ∧ ∀ q, N r' (p' ++ q) = some (.i (l.length + j) :: q)) → ∀ r' p', ro = some (r', p') → ∀ q, M r' (p' ++ q) = some ((p ++ [.i (l.length + j)]) ++ q) := by
    intro j hj ro h r' p' hr' q
    simp [M, (h r' p' hr').2 q]
  have hpi : ∀ j, lev (p ++ [St.i j]) = 1 := fun j => by rw [lev_append, hlp]; rfl
  -- old elements, by the owners told anew, where their blocks stay
  have helO : ∀ (w' : World) (nb : Option (Bool × Nat × Path)), (∀ b, b < w.heap.size → G1.φ b ≠ some (false, r, p) → w'.heap[b]? = w.heap[b]?) → ∀ j (h : j < l.length), Rep w' (ownS (reφ G1.φ (moveT s1 r dep M) w.heap.size nb) r dep) e (p ++ [.i j]) ((olds.drop (j * e.size)).take e.size) (l.get ⟨j, h⟩) := by
    intro w' nb hw j hj
    refine (e4 j hj).frame fun q b hq hs hl => ?_
    rcases ownS_lev hs with ⟨k1, k2⟩ | ⟨k1, k2⟩
    · refine ⟨hw b hl (fun hc => ?_), ?_⟩
      · rw [k2] at hc
        simp only [Option.some.injEq, Prod.mk.injEq, true_and] at hc
        subst hc
        have := hq.length_le
        simp at this
        omega
      · simp only [ownS, k1, if_true, reφ, hl, k2, Option.bind_some]
        exact moveT_live _ _ _ hlive
    · refine ⟨hw b hl (by rw [k2]; simp), ?_⟩
      simp only [ownS, Nat.not_lt.2 k1, if_false, reφ, hl, if_true, k2, Option.bind_none]
  -- the whole, the part being so
  have hwhole : ∀ (w' : World) (nb : Option (Bool × Nat × Path)), (∀ b, b < w.heap.size → G1.φ b ≠ some (false, r, p) → w'.heap[b]? = w.heap[b]?) → Rep w' (ownS (reφ G1.φ (moveT s1 r dep M) w.heap.size nb) r dep) (.slice e) p [.slice ad l.length cap] l →
      Rep w' (ownS (reφ G1.φ (moveT s1 r dep M) w.heap.size nb) r dep) k [] (G1.C r) dd := by
    intro w' nb hw hpart
    refine rep_grow hro.1 hp hget (fun q b hq hs hl => ?_) (by rw [List.nil_append, hv, e1]; exact hpart)
    rcases ownS_lev hs with ⟨k1, k2⟩ | ⟨k1, k2⟩
    · refine ⟨?_, fun hne => hw b hl (fun hc => ?_)⟩
      · simp only [ownS, k1, if_true, reφ, hl, k2, Option.bind_some]
        exact moveT_live _ _ _ hlive
      · rw [k2] at hc
        simp only [Option.some.injEq, Prod.mk.injEq, true_and] at hc
        exact hne (by simpa using hc)
    · refine ⟨?_, fun _ => hw b hl (by rw [k2]; simp)⟩
      simp only [ownS, Nat.not_lt.2 k1, if_false, reφ, hl, if_true, k2, Option.bind_none]
  by_cases hroom : l.length + m.length ≤ cap
  · rcases e7 with rfl | ⟨b, off, rfl, hS, hB, hcl⟩
    · have hl0 : l.length = 0 := by omega
      have hm0 : m.length = 0 := by omega
      have hl : l = [] := List.length_eq_zero_iff.1 hl0
      have hm : m = [] := List.length_eq_zero_iff.1 hm0
      subst hl hm
      have hn0 : news = [] := by
        apply List.length_eq_zero_iff.1
        rw [hnl]
        simp
      subst hn0
      have hrun := run_append_none (t := t) (ty := o.type) ut hr.info ad xb xCap (w := w) (fun w1 h => by simpa using hx w1 h)
      refine wp_new hd (hexec _ _ hrun) ?_
      have hpart : ∀ nb, Rep w (ownS (reφ G1.φ (moveT s1 r dep M) w.heap.size nb) r dep) (.slice e) p [.slice ad 0 0] [] := fun nb => by simp [Rep]
      obtain ⟨G', g'⟩ := box_step S g1 hdn (w' := w) (L := []) hroot M (nb := none) (fun _ _ _ => rfl) (fun b cs T h => ⟨cs, T, h⟩) (Nat.le_refl _) (fun x hx => by cases hx) (hwhole w none (fun _ _ _ => rfl) (hpart none)) (v' := .slice ad 0 0) (cs' := [.slice ad 0 0]) rfl (hpart none)
      exact ⟨by simp [Act.put, S.inv.defers], by simp [Act.put, S.inv.size], S.inv.base, G', g'⟩
    · have hφ : G1.φ b = some (false, r, p) := by
        rcases ownS_lev hS with ⟨_, h⟩ | ⟨h, _⟩
        · exact h
        · omega
      obtain ⟨hkb, cur, T, hb⟩ := g1.mine hφ (.inl rfl)
      obtain ⟨cs0, T0, fr0, hb0, hfit0⟩ := hB
      rw [hb] at hb0
      injection hb0 with hb0
      injection hb0 with hb0 _ _
      subst hb0
      have hle : (l.length + m.length) * e.size ≤ cap * e.size := Nat.mul_le_mul_right _ hroom
      rw [Nat.add_mul] at hle
      have hfit : off + l.length * e.size + news.length ≤ cur.size := by rw [hnl]; omega
      have hrun := run_append_into (t := t) (ty := o.type) ut hr.info b off l.length cap xb m.length xCap news hx hb h1 hroom (by rw [hr.size]; exact hfit)
      rw [hr.size] at hrun
      have hput := setRow_put hb hfit (x := news)
      refine wp_new hd (hexec _ _ hrun) ?_
      generalize hW : w.setRow b (cur.toList.take (off + l.length * e.size) ++ news ++ cur.toList.drop (off + l.length * e.size + news.length)).toArray = W at hput ⊢
      have hWsz : W.heap.size = w.heap.size := by rw [← hW]; exact setRow_size _ _ _
      have hWb : W.heap[b]? = some (.cells (cur.toList.take (off + l.length * e.size) ++ news ++ cur.toList.drop (off + l.length * e.size + news.length)).toArray T (0, 0)) := by rw [← hW]; exact setRow_heap w b cur _ T _ hb
      have hbl : b < w.heap.size := (Array.getElem?_eq_some_iff.1 hb).1
      have hw : ∀ b', b' < w.heap.size → G1.φ b' ≠ some (false, r, p) → W.heap[b']? = w.heap[b']? := fun b' _ hne => hput.other b' (fun eq => hne (eq ▸ hφ))
      have hSb : ownS (reφ G1.φ (moveT s1 r dep M) w.heap.size none) r dep p b := by
        have : lev p < dep := by omega
        simp only [ownS, this, if_true, reφ, hbl, hφ, Option.bind_some]
        exact moveT_live _ _ _ hlive
      have hcO : ∀ j, j < l.length → cellsAt W b (off + j * e.size) e.size = (olds.drop (j * e.size)).take e.size := fun j hj => by
        have : (j + 1) * e.size ≤ l.length * e.size := Nat.mul_le_mul_right _ hj
        rw [Nat.add_mul] at this
        rw [hput.cells_other (.inr (.inl (by omega))), hcl j hj]
      have hpart : Rep W (ownS (reφ G1.φ (moveT s1 r dep M) w.heap.size none) r dep) (.slice e) p [.slice (some ⟨b, off, none⟩) l.length cap] l := by
        simp only [Rep]
        refine .inr ⟨b, off, cap, rfl, e6, hSb, hput.block ⟨cur, T, _, hb, hfit0⟩, fun j hj => ?_⟩
        rw [hcO j hj]
        exact helO W none hw j hj
      have hval : Rep W (ownS (reφ G1.φ (moveT s1 r dep M) w.heap.size none) r dep) (.slice e) p [.slice (some ⟨b, off, none⟩) (l.length + m.length) cap] (l ++ m) := by
        simp only [Rep]
        refine .inr ⟨b, off, cap, by simp, by simpa using hroom, hSb, hput.block ⟨cur, T, _, hb, hfit0⟩, fun j hj => ?_⟩
        rw [List.length_append] at hj
        by_cases hjl : j < l.length
        · rw [hcO j hjl]
          have := helO W none hw j hjl
          simpa [List.getElem_append_left hjl] using this
        · obtain ⟨j', rfl⟩ : ∃ j', j = l.length + j' := ⟨j - l.length, by omega⟩
          have hj' : j' < m.length := by omega
          have hj2 : (j' + 1) * e.size ≤ m.length * e.size := Nat.mul_le_mul_right _ hj'
          rw [Nat.add_mul] at hj2
          have hc : cellsAt W b (off + (l.length + j') * e.size) e.size = (news.drop (j' * e.size)).take e.size := by
            rw [show off + (l.length + j') * e.size = (off + l.length * e.size) + j' * e.size by rw [Nat.add_mul]; omega]
            rw [← cellsAt_chunk (n := news.length) (by omega), hput.cells_same]
          rw [hc]
          obtain ⟨dp, ro, k1, k2, k3⟩ := helN j' hj'
          have k1' := Holds.world (w' := W) k1 (fun b' hl' hn => hw b' hl' (by rw [hn]; simp)) (fun b' r' p' q hl' hro' hb2 => hw b' hl' (fun hc => by
            rw [hb2] at hc
            simp only [Option.some.injEq, Prod.mk.injEq, true_and] at hc
            exact (k3 r' p' hro').1 hc.1))
          have := holds_move (w' := W) (id := r) (dep := dep) (M := M) (pre := p ++ [.i (l.length + j')]) (nb := none) k1' (fun _ _ => rfl) (by rw [hpi]; omega) (hM j' hj' ro k3)
          rw [hWsz] at this
          simpa [List.getElem_append_right] using this
      obtain ⟨G', g'⟩ := box_step S g1 hdn (w' := W) (L := l ++ m) hroot M (nb := none) hw (fun b' cs T' h => by
          by_cases eq : b' = b
          · subst eq; exact ⟨_, _, hWb⟩
          · exact ⟨cs, T', (hput.other b' eq).trans h⟩) (by rw [hWsz]; exact Nat.le_refl _) (fun x hx => by cases hx) (hwhole W none hw hpart) (v' := .slice (some ⟨b, off, none⟩) (l.length + m.length) cap) (cs' := [.slice (some ⟨b, off, none⟩) (l.length + m.length) cap]) rfl hval
      refine ⟨by simp [Act.put, S.inv.defers], by simp [Act.put, S.inv.size], ?_, G', g'⟩
      have hbase := S.inv.base
      exact ⟨by rw [← hW]; exact hbase.os, by rw [← hW]; exact hbase.tape, by rw [← hW]; exact hbase.output, by rw [hWsz]; exact hbase.size, fun b' hk => (hput.other b' fun eq => hkb (eq ▸ hk)).trans (hbase.kept b' hk), hbase.old⟩
  · have hbytes := hr.bytes
    have hfit : Builtin.nextslicecap (l.length + m.length) cap * i.bytes ≤ 281474976710656 := by
      refine growslice_fits (by omega) ?_
      have : (l.length + m.length) * i.bytes ≤ lim * 128 := Nat.mul_le_mul hlim hbytes
      unfold lim at this
      omega
    have hrun := run_append_grown (t := t) (ty := o.type) (w := w) ut hr.info hr.zero ad xb l.length cap m.length xCap olds news e3 hx (by omega) (by unfold lim at hlim; omega) hfit
    have hcapge : l.length + m.length ≤ grownCap w (l.length + m.length) cap te := grownCap_ge w _ _ _
    have hzc : z.cells = (zeroC e).toArray := zcells_arr hr
    generalize hcp : grownCap w (l.length + m.length) cap te = cp at hrun hcapge
    refine wp_new hd (hexec _ _ hrun) ?_
    have hsz2 : (olds.toArray ++ news.toArray ++ Builtin.zeroCells z.cells (cp - (l.length + m.length))).size = cp * e.size := by
      have hzs : (Builtin.zeroCells z.cells (cp - (l.length + m.length))).size = (cp - (l.length + m.length)) * e.size := by
        rw [size_zeroCells, hzc, List.size_toArray, zeroC_length]
      simp only [Array.size_append, List.size_toArray, hzs, e2, hnl]
      rw [Nat.sub_mul, Nat.add_mul]
      have h2 : (l.length + m.length) * e.size ≤ cp * e.size := Nat.mul_le_mul_right _ hcapge
      rw [Nat.add_mul] at h2
      omega
    generalize hW : w.drew.alloc (.cells (olds.toArray ++ news.toArray ++ Builtin.zeroCells z.cells (cp - (l.length + m.length))) te) = W
    have hold : ∀ b, b < w.heap.size → W.heap[b]? = w.heap[b]? := fun b hl => by rw [← hW]; exact alloc_old w.drew _ b hl
    have hnew : W.heap[w.heap.size]? = some (.cells (olds.toArray ++ news.toArray ++ Builtin.zeroCells z.cells (cp - (l.length + m.length))) te (0, 0)) := by rw [← hW]; exact alloc_new w.drew _
    have hw : ∀ b', b' < w.heap.size → G1.φ b' ≠ some (false, r, p) → W.heap[b']? = w.heap[b']? := fun b' hl _ => hold b' hl
    have hlevp : lev p < dep := by omega
    have hval : Rep W (ownS (reφ G1.φ (moveT s1 r dep M) w.heap.size (some (false, r, p))) r dep) (.slice e) p [.slice (some ⟨w.heap.size, 0, none⟩) (l.length + m.length) cp] (l ++ m) := by
      simp only [Rep]
      refine .inr ⟨w.heap.size, 0, cp, by simp, by simpa using hcapge, by simp [ownS, hlevp, reφ], ⟨_, te, _, hnew, by rw [hsz2]; omega⟩, fun j hj => ?_⟩
      have hc : cellsAt W w.heap.size (0 + j * e.size) e.size = (((olds ++ news) ++ (Builtin.zeroCells z.cells (cp - (l.length + m.length))).toList).drop (j * e.size)).take e.size := by
        unfold cellsAt
        rw [hnew, Nat.zero_add]
        simp
      rw [hc]
      rw [List.length_append] at hj
      by_cases hjl : j < l.length
      · rw [List.append_assoc, chunk_append_l e2 hjl]
        have := helO W (some (false, r, p)) hw j hjl
        simpa [List.getElem_append_left hjl] using this
      · obtain ⟨j', rfl⟩ : ∃ j', j = l.length + j' := ⟨j - l.length, by omega⟩
        have hj' : j' < m.length := by omega
        rw [List.append_assoc, chunk_append_r e2, chunk_append_l hnl hj']
        obtain ⟨dp, ro, k1, k2, k3⟩ := helN j' hj'
        have := holds_move (w' := W) (id := r) (dep := dep) (M := M) (pre := p ++ [.i (l.length + j')]) (nb := some (false, r, p)) k1 hold (by rw [hpi]; omega) (hM j' hj' ro k3)
        simpa [List.getElem_append_right] using this
    have hpart : Rep W (ownS (reφ G1.φ (moveT s1 r dep M) w.heap.size (some (false, r, p))) r dep) (.slice e) p [.slice ad l.length cap] l := by
      rw [e1] at hrep
      refine hrep.frame fun q b _ hs hl => ⟨hold b hl, ?_⟩
      rcases ownS_lev hs with ⟨k1, k2⟩ | ⟨k1, k2⟩
      · simp only [ownS, k1, if_true, reφ, hl, k2, Option.bind_some]
        exact moveT_live _ _ _ hlive
      · simp only [ownS, Nat.not_lt.2 k1, if_false, reφ, hl, if_true, k2, Option.bind_none]
    obtain ⟨G', g'⟩ := box_step S g1 hdn (w' := W) (L := l ++ m) hroot M (nb := some (false, r, p)) hw (fun b' cs T' h => ⟨cs, T', (hold b' (Array.getElem?_eq_some_iff.1 h).1).trans h⟩) (by rw [← hW]; simp) (fun x hx => ⟨S.inv.base.fresh, _, _, hnew⟩) (hwhole W _ hw hpart) (v' := .slice (some ⟨w.heap.size, 0, none⟩) (l.length + m.length) cp) (cs' := [.slice (some ⟨w.heap.size, 0, none⟩) (l.length + m.length) cp]) rfl hval
    refine ⟨by simp [Act.put, S.inv.defers], by simp [Act.put, S.inv.size], ?_, G', g'⟩
    rw [← hW]
    exact S.inv.base.drew.alloc _

theorem append_ok (S : Set_ P Γ Kp B0 n G s a w o) {as : Array Operand} {ts : Array TypeId} (ho : o.op = .call { callee := .builtin .append, args := as, argTypes := ts }) (h : (opD Γ id o).out s = some ws) (hok : dstOk o ws = true) :
    o.wp P a w (fun a' w' => Inv Kp B0 n (s.put ws) a' w') Q := by
  unfold opD at h
  rw [ho] at h
  simp only at h
  split at h
  · rename_i s' x t t' ha ht
    simp only [bif_out] at h
    rcases bif_some h with ⟨htt, h0⟩ | ⟨_, h0⟩
    · have htt := Nat.eq_of_beq_eq_true htt
      clear h
      subst htt
      have has : as = #[s', x] := by apply Array.ext'; simpa using ha
      have hts : ts = #[t, t] := by apply Array.ext'; simpa using ht
      subst has hts
      have hexec : ∀ v w', (Builtin.append_ #[t, t] o.type #[a.eval s', a.eval x]).run P w = .ok v w' → (execOp a.eval o).run P w = .ok (.value v) w' := by
        intro v w' hrun
        unfold execOp
        rw [ho]
        simp [resolve, invoke, builtin, hrun]
      simp only [appendR, Rd.out_bind, Option.bind_eq_some_iff] at h0
      obtain ⟨cs, h1, vs, h2, u, h3, h4⟩ := h0
      have hkt := kindIs_ok h3
      have hcs := rdOp_ok S.g h1
      obtain ⟨k, l⟩ := vs
      cases k with
      | slice e =>
        obtain ⟨te, u1, u2, u3⟩ := under_slice S.tab hkt
        obtain ⟨i, z, hr⟩ := row_of S.tab u2
        -- what the first operand is
        have hcst : ∀ k d, cs = .cst k d → l = [] ∧ ∃ sb, a.eval s' = .slice sb 0 0 := by
          intro k d hc
          subst hc
          simp only [look, Rd.out, Option.some.injEq, V.mk.injEq] at h2
          obtain ⟨rfl, h2⟩ := h2
          have h2 := eq_of_heq h2
          subst h2
          obtain ⟨c, c1, c2⟩ := hcs
          simp only [Rep] at c2
          rcases c2 with ⟨⟨sb, c2⟩, c3⟩ | ⟨_, _, _, _, _, c2, _⟩
          · subst c2; exact ⟨c3, sb, c1⟩
          · exact c2.elim
        have hal : ∀ r ver k0 d0 dep ver', cs = .al r [] ver → s (rt r) = .root k0 d0 dep false false ver' → s (rt r) = .root (.slice e) l dep false false ver' ∧ a.eval s' = mkVal (.slice e) (G.C r) := by
          intro r ver k0 d0 dep ver' hc hs
          subst hc
          simp only [look, Rd.out] at h2
          rw [hs] at h2
          simp only [CellOk] at hcs
          rw [hs] at hcs
          simp only [Bool.not_false, List.isEmpty_nil, Bool.and_self, Bool.or_true, cond_true, getP, Rd.out_opt, Option.some.injEq, V.mk.injEq] at h2
          obtain ⟨rfl, h2⟩ := h2
          have h2 := eq_of_heq h2
          subst h2
          obtain ⟨y, y1, y2, y3⟩ := hcs.2 (.inr (by simp))
          simp only [getP, Option.some.injEq] at y1
          subst y1
          exact ⟨hs, by simpa [subC] using y3⟩
        have hbx : ∀ r p ver k0 d0 dep ver', cs = .al r p ver → s (rt r) = .root k0 d0 dep true false ver' → getP p k0 d0 = some ⟨.slice e, l⟩ ∧ okP p k0 d0 ∧ a.eval s' = mkVal (.slice e) (subC w p k0 (G.C r)) := by
          intro r p ver k0 d0 dep ver' hc hs
          subst hc
          simp only [look, Rd.out] at h2
          rw [hs] at h2
          simp only [CellOk] at hcs
          rw [hs] at hcs
          simp only [bif_out, Rd.out_opt, Rd.out] at h2
          rcases bif_some h2 with ⟨hv, h2⟩ | ⟨_, h2⟩
          · obtain ⟨y, y1, y2, y3⟩ := hcs.2 (verOk hv)
            rw [h2] at y1
            have y1 := Option.some.inj y1
            subst y1
            exact ⟨h2, y2, y3⟩
          · cases h2
        simp only [bif_out] at h4
        rcases bif_some h4 with ⟨hf, h5⟩ | ⟨hf, h5⟩
        · -- flat elements
          simp only [Rd.out_bind, Option.bind_eq_some_iff, Rd.out_opt] at h5
          obtain ⟨vx, h6, m, h7, h8⟩ := h5
          have h7 := cast?_eq h7
          subst h7
          obtain ⟨T, q, c, x1, x2⟩ := rdVt_ok S.g h6
          simp only [Rd.out] at h8
          split at h8
          · rename_i hl
            have hl := of_decide_eq_true hl
            have hc1 : ∃ v, c = [v] := by
              have := x2.length
              match c, this with
              | [v], _ => exact ⟨v, rfl⟩
            obtain ⟨v, rfl⟩ := hc1
            obtain ⟨ad, cap, news, e1, e2, e3, e4, e5, e6, e7⟩ := slice_cells (P := P) u3 x2
            have hxv : a.eval x = .slice ad m.length cap := by rw [x1, e1]; rfl
            rw [e1] at e3
            rw [hxv] at hexec
            have helN : ∀ (s1 : State) (dep : Nat) j (h : j < m.length), Holds G w s1 ⟨e, m.get ⟨j, h⟩⟩ ((news.drop (j * e.size)).take e.size) dep none := fun s1 dep j h => .free _ ((e4 j h).flat w _ [] hf)
            cases cs with
            | cst k0 d0 =>
              obtain ⟨rfl, sb0, hsv⟩ := hcst k0 d0 rfl
              obtain ⟨hid, rfl⟩ := newAt_ok h8
              obtain ⟨d, hd⟩ := dst_some (c := .al id [] 0) hok (by simp)
              rw [hsv] at hexec
              rw [hd]
              exact append_cst S S.g hd hid u1 hr u3 (by omega) (fun _ _ => none) e2 (fun j h => ⟨99, none, helN s 99 j h, by omega, fun _ _ h => by cases h⟩) e3 e5 (by simpa using hl) hexec
            | al r p ver =>
              simp only [Rd.out] at h8
              cases hs : s (rt r) with
              | root k0 d0 dep box frz ver' =>
                rw [hs] at h8
                cases box with
                | false =>
                  cases frz with
                  | true => simp only [Rd.out, bif_out, reduceCtorEq] at h8
                  | false =>
                    simp only [Rd.out, bif_out, reduceCtorEq] at h8
                    rcases bif_some h8 with ⟨hd1, h9⟩ | ⟨_, h9⟩
                    · simp only [Bool.and_eq_true, List.isEmpty_iff, decide_eq_true_eq] at hd1
                      obtain ⟨rfl, hd1⟩ := hd1
                      obtain ⟨hs', hsv⟩ := hal r ver k0 d0 dep ver' rfl hs
                      obtain ⟨hid, rfl⟩ := newAt_ok h9
                      obtain ⟨d, hd⟩ := dst_some (c := .al id [] 0) hok (by simp)
                      rw [hd]
                      exact append_al S S.g hd hid u1 hr u3 hs' hsv hd1 (Nat.le_refl _) (fun _ _ => none) e2 (fun j h => ⟨dep, none, helN s dep j h, by omega, fun _ _ h => by cases h⟩) e3 e5 hl hexec
                    · simp at h9
                | true =>
                  cases frz with
                  | true => simp only [Rd.out, bif_out, reduceCtorEq] at h8
                  | false =>
                    simp only [Rd.out, bif_out, reduceCtorEq] at h8
                    rcases bif_some h8 with ⟨hd1, h9⟩ | ⟨_, h9⟩
                    · simp only [Bool.and_eq_true, decide_eq_true_eq] at hd1
                      obtain ⟨hget, hokp, hsv⟩ := hbx r p ver k0 d0 dep ver' rfl hs
                      have h9 := Option.some.inj h9
                      subst h9
                      obtain ⟨d, hd⟩ := dst_some (c := .apd r p (ver' + 1) e (l ++ m)) hok (by simp)
                      rw [hd]
                      exact append_box S S.g hd u1 hr u3 hs hget hokp hd1.1 hsv hd1.2 (fun _ _ => none) e2 (fun j h => ⟨dep, none, helN s dep j h, by omega, fun _ _ h => by cases h⟩) e3 e5 hl hexec
                    · simp at h9
              | _ => rw [hs] at h8; simp [Rd.out] at h8
            | _ => simp [Rd.out] at h8
          · simp at h8
        · -- elements with memory behind them
          simp only [Rd.out_bind, Option.bind_eq_some_iff, Rd.out_opt] at h5
          obtain ⟨cx, h6, gx, h6', m, h7, h8⟩ := h5
          have h7 := cast?_eq h7
          have hg := got_ok S.g (rdOp_ok S.g h6) h6'
          simp only [Rd.out] at h8
          split at h8
          · rename_i hl
            have hl := of_decide_eq_true hl
            -- the second operand, given up
            have given : ∀ own : Bool, ∃ (G1 : Gh) (v : Value) (ad : Option Addr) (cap : Nat) (news : List Value), GOk Kp G1 (s.put (leave own gx)) a w ∧ G1.C = G.C ∧ a.eval x = .slice ad m.length cap ∧ news.length = m.length * e.size ∧
                (∀ w1 : World, w1.heap = w.heap → (Builtin.firstCells e.size m.length (.slice ad m.length cap)).run P w1 = .ok news.toArray w1) ∧ (∀ u ∈ news, u.oneCell' = true) ∧
                Holds G1 w (s.put (leave own gx)) ⟨.slice e, m⟩ [v] (bif own then gx.dp else 0) (fromOf own gx) ∧
                (∀ (S : OwnS) (q : Path) j (h : j < m.length), Rep w S (.slice e) q [v] m → Rep w S e (q ++ [.i j]) ((news.drop (j * e.size)).take e.size) (m.get ⟨j, h⟩)) := by
              intro own
              obtain ⟨G1, c, g1, x1, hh, eC, eβ, n1, o1, m1⟩ := leave_ok S.g hg own
              rw [h7] at hh x1
              have hc1 : ∃ v, c = [v] := by
                have := hh.length
                match c, this with
                | [v], _ => exact ⟨v, rfl⟩
              obtain ⟨v, rfl⟩ := hc1
              obtain ⟨T, q, x2⟩ := hh.rep
              simp only at x2
              obtain ⟨ad, cap, news, e1, e2, e3, e4, e5, e6, e7⟩ := slice_cells (P := P) u3 x2
              refine ⟨G1, v, ad, cap, news, g1, eC, by rw [x1, e1]; rfl, e2, by rw [e1] at e3; exact e3, e5, hh, fun T' q' j hj hrep => ?_⟩
              subst e1
              simp only [Rep] at hrep
              rcases hrep with ⟨_, hn⟩ | ⟨b, off, cap', k1, k2, k3, k4, k5⟩
              · subst hn; simp at hj
              · simp only [List.cons.injEq, Value.slice.injEq, and_true] at k1
                obtain ⟨rfl, _, rfl⟩ := k1
                rcases e7 with hn | ⟨b', off', f1, f2, f3, f4⟩
                · omega
                · injection f1 with f1
                  injection f1 with f1 f1' _
                  subst f1 f1'
                  rw [← f4 j hj]
                  exact k5 j hj
            have hidn : ∀ own, s (rt id) = .none → (s.put (leave own gx)) (rt id) = .none := by
              intro own hid
              refine (leave_root (fun c hc => ?_) s).trans hid
              obtain ⟨_, _, hq⟩ := hg
              rcases hq with ⟨hf, _⟩ | ⟨hf, _⟩ | ⟨r, _, _, _, _, _, _, _, hf, hs, _⟩
              · rw [hc] at hf; cases hf
              · rw [hc] at hf; cases hf
              · rw [hc] at hf
                injection hf with hf
                injection hf with hf _
                subst hf
                rw [hid] at hs
                cases hs
            -- an element given up
            have elem : ∀ (own : Bool) (G1 : Gh) (v : Value) (news : List Value) (dep : Nat), (own = true → 2 ≤ gx.dp ∧ dep ≤ gx.dp) → (own = false → dep ≤ 1) →
                Holds G1 w (s.put (leave own gx)) ⟨.slice e, m⟩ [v] (bif own then gx.dp else 0) (fromOf own gx) →
                (∀ (S : OwnS) (q : Path) j (h : j < m.length), Rep w S (.slice e) q [v] m → Rep w S e (q ++ [.i j]) ((news.drop (j * e.size)).take e.size) (m.get ⟨j, h⟩)) →
                ∀ (k : Nat) j (h : j < m.length), ∃ dp ro, Holds G1 w (s.put (leave own gx)) ⟨e, m.get ⟨j, h⟩⟩ ((news.drop (j * e.size)).take e.size) dp ro ∧ dep ≤ dp + 1 ∧
                  ∀ r p, ro = some (r, p) → (∃ c, gx.from_ = some (r, c)) ∧ p ≠ [] ∧ ∀ q, (fun (r : Nat) (q : Path) => match q with | .i j :: q => some (St.i (k + j) :: q) | _ => none) r (p ++ q) = some (.i (k + j) :: q) := by
              intro own G1 v news dep ho1 ho2 hh hel k j hj
              obtain ⟨ro', k1, k2⟩ := hh.elem hj (fun S q hrep => hel S q j hj hrep)
              refine ⟨_, ro', k1, ?_, fun r p hr' => ?_⟩
              · cases own with
                | true => have := ho1 rfl; simp only [cond_true]; omega
                | false => have := ho2 rfl; simp only [cond_false]; omega
              · obtain ⟨p0, hp0, rfl⟩ := k2 r p hr'
                obtain ⟨rfl, hc⟩ := fromOf_nil hp0
                exact ⟨hc, by simp, fun q => by simp⟩
            cases cs with
            | cst k0 d0 =>
              obtain ⟨rfl, sb0, hsv⟩ := hcst k0 d0 rfl
              obtain ⟨hid, rfl⟩ := newAt_ok h8
              obtain ⟨d, hd⟩ := dst_some (c := .al id [] 0) hok (by simp)
              obtain ⟨G1, v, ad, cap, news, g1, eC, hxv, e2, e3, e5, hh, hel⟩ := given (decide (2 ≤ max gx.dp 1))
              rw [hsv, hxv] at hexec
              rw [hd, State.put_append]
              refine append_cst S g1 hd (hidn _ hid) u1 hr u3 (by omega) (fun r q => match q with | .i j :: q => some (St.i (0 + j) :: q) | _ => none) e2 (fun j h => ?_) e3 e5 (by simpa using hl) hexec
              obtain ⟨dp, ro, k1, k2, k3⟩ := elem _ G1 v news (max gx.dp 1) (fun h => by have := of_decide_eq_true h; omega) (fun h => by have := of_decide_eq_false h; omega) hh hel 0 j h
              exact ⟨dp, ro, k1, k2, fun r p hr => ⟨(k3 r p hr).2.1, fun q => by simpa using (k3 r p hr).2.2 q⟩⟩
            | al r p ver =>
              simp only [Rd.out] at h8
              cases hs : s (rt r) with
              | root k0 d0 dep box frz ver' =>
                rw [hs] at h8
                cases box with
                | true =>
                  cases frz with
                  | true => simp only [Rd.out, bif_out, reduceCtorEq] at h8
                  | false =>
                    simp only [Rd.out, bif_out, reduceCtorEq] at h8
                    rcases bif_some h8 with ⟨hd1, h9⟩ | ⟨_, h9⟩
                    · simp only [Bool.and_eq_true, decide_eq_true_eq, Bool.not_eq_true'] at hd1
                      obtain ⟨⟨⟨hp, hdep⟩, hfi⟩, hdg⟩ := hd1
                      obtain ⟨hget, hokp, hsv⟩ := hbx r p ver k0 d0 dep ver' rfl hs
                      have h9 := Option.some.inj h9
                      subst h9
                      obtain ⟨d, hd⟩ := dst_some (c := .apd r p (ver' + 1) e (l ++ m)) hok (by simp)
                      obtain ⟨G1, v, ad, cap, news, g1, eC, hxv, e2, e3, e5, hh, hel⟩ := given true
                      rw [hxv] at hexec
                      rw [hd, State.put_append]
                      have hsC : a.eval s' = mkVal (.slice e) (subC w p k0 (G1.C r)) := by rw [eC]; exact hsv
                      refine append_box S g1 hd u1 hr u3 ((leave_root (fromIs_spec hfi) s).trans hs) hget hokp hp hsC hdep (fun r q => match q with | .i j :: q => some (St.i (l.length + j) :: q) | _ => none) e2 (fun j h => ?_) e3 e5 hl hexec
                      obtain ⟨ro', k1, k2⟩ := hh.elem h (fun S q hrep => hel S q j h hrep)
                      refine ⟨_, ro', k1, by simp only [cond_true]; omega, fun r' p' hr' => ?_⟩
                      obtain ⟨p0, hp0, rfl⟩ := k2 r' p' hr'
                      obtain ⟨rfl, c, hc⟩ := fromOf_nil hp0
                      exact ⟨fun eq => by subst eq; exact fromIs_spec hfi c hc, fun q => by simp⟩
                    · simp at h9
                | false =>
                  cases frz with
                  | true => simp only [Rd.out, bif_out, reduceCtorEq] at h8
                  | false =>
                  simp only [Rd.out, bif_out, reduceCtorEq] at h8
                  rcases bif_some h8 with ⟨hd1, h9⟩ | ⟨_, h9⟩
                  · simp only [Bool.and_eq_true, decide_eq_true_eq, Bool.not_eq_true', List.isEmpty_iff] at hd1
                    obtain ⟨⟨rfl, hd1⟩, hfi⟩ := hd1
                    obtain ⟨hs', hsv⟩ := hal r ver k0 d0 dep ver' rfl hs
                    obtain ⟨hid, rfl⟩ := newAt_ok h9
                    obtain ⟨d, hd⟩ := dst_some (c := .al id [] 0) hok (by simp)
                    obtain ⟨G1, v, ad, cap, news, g1, eC, hxv, e2, e3, e5, hh, hel⟩ := given (decide (2 ≤ min dep (max gx.dp 1)))
                    rw [hxv] at hexec
                    rw [hd, State.put_append]
                    refine append_al S g1 hd (hidn _ hid) u1 hr u3 ((leave_root (fromIs_spec hfi) s).trans hs') (by rw [eC]; exact hsv) (by omega) (by omega) (fun r q => match q with | .i j :: q => some (St.i (l.length + j) :: q) | _ => none) e2 (fun j h => ?_) e3 e5 hl hexec
                    obtain ⟨dp, ro, k1, k2, k3⟩ := elem _ G1 v news (min dep (max gx.dp 1)) (fun h => by have := of_decide_eq_true h; omega) (fun h => by have := of_decide_eq_false h; omega) hh hel l.length j h
                    refine ⟨dp, ro, k1, k2, fun r' p hr' => ?_⟩
                    obtain ⟨⟨c, hc⟩, k4, k5⟩ := k3 r' p hr'
                    refine ⟨fun eq => ?_, k4, k5⟩
                    subst eq
                    exact fromIs_spec hfi c hc
                  · simp at h9
              | _ => rw [hs] at h8; simp [Rd.out] at h8
            | _ => simp [Rd.out] at h8
          · simp at h8
      | _ => simp [Rd.out] at h4
    · simp [Rd.out] at h0
  · simp [Rd.out] at h
end
end Go.V
