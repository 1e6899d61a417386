/- The operations' soundness, sixth part: append. -/
import Derived.Test.YtmeglfoapdkhdaaVOps5
import Derived.Laws.CopyRow
set_option linter.unusedVariables false
set_option linter.unusedSimpArgs false
namespace Go.V

theorem rep_one {w : World} {S : OwnS} : ∀ {k : Kd} {q : Path} {c : List Value} {d : k.den}, Rep w S k q c d → ∀ v ∈ c, v.oneCell' = true := by
  intro k
  induction k with
  | int ik => intro q c d h v hv; simp only [Rep] at h; subst h; simp at hv; subst hv; rfl
  | bool => intro q c d h v hv; simp only [Rep] at h; subst h; simp at hv; subst hv; rfl
  | str => intro q c d h v hv; simp only [Rep] at h; subst h; simp at hv; subst hv; rfl
  | slice e ih =>
    intro q c d h v hv
    simp only [Rep] at h
    rcases h with ⟨⟨_, h⟩, _⟩ | ⟨b, off, cap, h, _⟩ <;> subst h <;> simp at hv <;> subst hv <;> rfl
  | unit => intro q c d h v hv; simp only [Rep] at h; subst h; simp at hv
  | pair a b iha ihb =>
    intro q c d h v hv
    simp only [Rep] at h
    rw [← List.take_append_drop a.size c] at hv
    rcases List.mem_append.1 hv with hv | hv
    · exact iha h.1 v hv
    · exact ihb h.2 v hv
  | bx k ih => intro q c d h v hv; obtain ⟨b, off, h, _⟩ := h; subst h; simp at hv; subst hv; rfl
  | clo f a b iha ihb => intro q c d h v hv; obtain ⟨c1, c2, h, _⟩ := h; subst h; simp at hv; subst hv; rfl

theorem chunk_mem {l : List Value} {e m : Nat} (he : 0 < e) (hl : l.length = m * e) {v : Value} (hv : v ∈ l) : ∃ i, i < m ∧ v ∈ (l.drop (i * e)).take e := by
  obtain ⟨j, hj, rfl⟩ := List.getElem_of_mem hv
  refine ⟨j / e, ?_, ?_⟩
  · rw [hl] at hj
    exact Nat.div_lt_of_lt_mul (by rw [Nat.mul_comm]; exact hj)
  · have hm := Nat.div_add_mod j e
    have hlt := Nat.mod_lt j he
    rw [List.mem_iff_getElem?]
    refine ⟨j % e, ?_⟩
    rw [List.getElem?_take, if_pos hlt, List.getElem?_drop]
    rw [show j / e * e + j % e = j by rw [Nat.mul_comm]; exact hm]
    exact List.getElem?_eq_getElem hj

theorem cellsAt_chunk {w : World} {b off n i e : Nat} (h : i * e + e ≤ n) : ((cellsAt w b off n).drop (i * e)).take e = cellsAt w b (off + i * e) e := by
  unfold cellsAt
  split
  · rw [List.drop_take, List.take_take, List.drop_drop]
    congr 1
    omega
  · simp

/-- A slice's cells. -/
theorem run_firstCells_zero {P : Program} (w : World) (size : Nat) (sb : Option Addr) (cap : Nat) : (Builtin.firstCells size 0 (.slice sb 0 cap)).run P w = .ok #[] w := by
  cases sb with
  | none => simp [Builtin.firstCells]
  | some a => exact run_firstCells_some (P := P) w size 0 a 0 cap [] (by simp) fun j u hu => by simp at hu

theorem slice_cells {P : Program} {w : World} {S : OwnS} {e : Kd} {q : Path} {v : Value} {l : List e.den} (he : 0 < e.size) (h : Rep w S (.slice e) q [v] l) :
    ∃ (ad : Option Addr) (cap : Nat) (news : List Value), v = .slice ad l.length cap ∧ news.length = l.length * e.size ∧ (∀ w1 : World, w1.heap = w.heap → (Builtin.firstCells e.size l.length v).run P w1 = .ok news.toArray w1) ∧
      (∀ i (h : i < l.length), Rep w S e (q ++ [.i i]) ((news.drop (i * e.size)).take e.size) (l.get ⟨i, h⟩)) ∧ (∀ u ∈ news, u.oneCell' = true) ∧ l.length ≤ cap ∧
      (cap = 0 ∨ ∃ b off, ad = some ⟨b, off, none⟩ ∧ S q b ∧ BlockOk w b (off + cap * e.size) ∧ ∀ j (h : j < l.length), cellsAt w b (off + j * e.size) e.size = (news.drop (j * e.size)).take e.size) := by
  have hone : ∀ news : List Value, news.length = l.length * e.size → (∀ i (h : i < l.length), Rep w S e (q ++ [.i i]) ((news.drop (i * e.size)).take e.size) (l.get ⟨i, h⟩)) → ∀ u ∈ news, u.oneCell' = true := by
    intro news hl hr u hu
    obtain ⟨i, hi, hm⟩ := chunk_mem he hl hu
    exact rep_one (hr i hi) u hm
  have h0 := h
  simp only [Rep] at h
  rcases h with ⟨⟨sb, h1⟩, h2⟩ | ⟨b, off, cap, h1, h2, h3, h4, h5⟩
  · simp only [List.cons.injEq, and_true] at h1
    subst h1 h2
    exact ⟨sb, 0, [], rfl, by simp, fun w1 _ => run_firstCells_zero w1 e.size sb 0, fun i hi => by simp at hi, by simp, by simp, .inl rfl⟩
  · simp only [List.cons.injEq, and_true] at h1
    subst h1
    have hle : l.length * e.size ≤ cap * e.size := Nat.mul_le_mul_right _ h2
    have hb : BlockOk w b (off + l.length * e.size) := by
      obtain ⟨cs, T, fr, k1, k2⟩ := h4
      exact ⟨cs, T, fr, k1, by omega⟩
    have hlen := cellsAt_length hb
    have hch : ∀ i (h : i < l.length), Rep w S e (q ++ [.i i]) (((cellsAt w b off (l.length * e.size)).drop (i * e.size)).take e.size) (l.get ⟨i, h⟩) := by
      intro i hi
      have : (i + 1) * e.size ≤ l.length * e.size := Nat.mul_le_mul_right _ hi
      rw [Nat.add_mul] at this
      rw [cellsAt_chunk (by omega)]
      exact h5 i hi
    refine ⟨_, cap, cellsAt w b off (l.length * e.size), rfl, hlen, fun w1 hw1 => ?_, hch, hone _ hlen hch, h2, .inr ⟨b, off, rfl, h3, h4, fun j hj => ?_⟩⟩
    rotate_left
    · have : (j + 1) * e.size ≤ l.length * e.size := Nat.mul_le_mul_right _ hj
      rw [Nat.add_mul] at this
      rw [cellsAt_chunk (by omega)]
    refine run_firstCells_some (P := P) w1 e.size l.length ⟨b, off, none⟩ l.length cap (cellsAt w b off (l.length * e.size)) hlen fun j u hu => ?_
    have := cell?_cellsAt hb j u hu
    unfold World.cell? at this ⊢
    rw [hw1]
    exact this

section
variable {P : Program} {Γ : Ctx} {Kp : Keep} {B0 : World} {n : Nat} {G : Gh} {s : State} {a : Act} {w w' : World} {id : Nat} {o : Oper} {Q : Exit → Act → World → Prop} {ws : Writes}

theorem run_append_grown {t ty te : TypeId} {i : TypeInfo} {z : Value} (ht : P.underlying t = some (.slice te)) (hi : P.info? te = some i) (hz : i.zero = some z) (sb xb : Option Addr) (sLen sCap xLen xCap : Nat) (olds news : List Value)
    (hs : ∀ w1 : World, w1.heap = w.heap → (Builtin.firstCells i.size sLen (.slice sb sLen sCap)).run P w1 = .ok olds.toArray w1) (hx : ∀ w1 : World, w1.heap = w.heap → (Builtin.firstCells i.size xLen (.slice xb xLen xCap)).run P w1 = .ok news.toArray w1)
    (hg : sCap < sLen + xLen) (h63 : ((sLen + xLen : Nat) : Int) ≤ 9223372036854775807) (hfit : Builtin.nextslicecap (sLen + xLen) sCap * i.bytes ≤ 281474976710656) :
    (Builtin.append_ #[t, t] ty #[.slice sb sLen sCap, .slice xb xLen xCap]).run P w =
      .ok (.slice (some ⟨w.heap.size, 0, none⟩) (sLen + xLen) (grownCap w (sLen + xLen) sCap te))
        (w.drew.alloc (.cells (olds.toArray ++ news.toArray ++ Builtin.zeroCells z.cells (grownCap w (sLen + xLen) sCap te - (sLen + xLen))) te)) := by
  have hn : ¬ (sLen + xLen ≤ sCap) := by omega
  have h63' : ¬ (9223372036854775807 < ((sLen : Int) + (xLen : Int))) := by omega
  have h48' : ¬ (281474976710656 < Builtin.nextslicecap (sLen + xLen) sCap * i.bytes) := by omega
  have hf := hx w.drew rfl
  have hfo := hs w.drew rfl
  simp [Builtin.append_, run_underlying ht, sizeOf, typeInfo, zeroValue, hi, hz, Builtin.lenOf, hn, h63', h48', Question.forced, hf, hfo, newRow, grownCap]
  congr 2
  apply Array.ext'
  simp [List.append_assoc]

theorem run_append_into {t ty te : TypeId} {i : TypeInfo} (ht : P.underlying t = some (.slice te)) (hi : P.info? te = some i) (b off sLen sCap : Nat) (xb : Option Addr) (xLen xCap : Nat) (news : List Value) {cur : Array Value} {T : TypeId}
    (hx : ∀ w1 : World, w1.heap = w.heap → (Builtin.firstCells i.size xLen (.slice xb xLen xCap)).run P w1 = .ok news.toArray w1) (hb : w.heap[b]? = some (.cells cur T (0, 0))) (h1 : ∀ u ∈ news, u.oneCell' = true)
    (hroom : sLen + xLen ≤ sCap) (hfit : off + sLen * i.size + news.length ≤ cur.size) :
    (Builtin.append_ #[t, t] ty #[.slice (some ⟨b, off, none⟩) sLen sCap, .slice xb xLen xCap]).run P w =
      .ok (.slice (some ⟨b, off, none⟩) (sLen + xLen) sCap) (w.setRow b (cur.toList.take (off + sLen * i.size) ++ news ++ cur.toList.drop (off + sLen * i.size + news.length)).toArray) := by
  have hf := hx w rfl
  have hst := run_storeCells_at P b (off + sLen * i.size) T news 0 cur w hb (by simpa using hfit) h1
  simp only [Nat.add_zero] at hst
  simp [Builtin.append_, run_underlying ht, sizeOf, typeInfo, hi, Builtin.lenOf, hroom, hf, add_mk, hst]
theorem run_append_none {t ty te : TypeId} {i : TypeInfo} (ht : P.underlying t = some (.slice te)) (hi : P.info? te = some i) (sb xb : Option Addr) (xCap : Nat)
    (hx : ∀ w1 : World, w1.heap = w.heap → (Builtin.firstCells i.size 0 (.slice xb 0 xCap)).run P w1 = .ok #[] w1) :
    (Builtin.append_ #[t, t] ty #[.slice sb 0 0, .slice xb 0 xCap]).run P w = .ok (.slice sb 0 0) w := by
  have hf := hx w rfl
  cases sb <;> simp [storeCells, Builtin.append_, run_underlying ht, sizeOf, typeInfo, hi, Builtin.lenOf, hf]

theorem setRow_put {b o : Nat} {cur : Array Value} {T : TypeId} {x : List Value} (hb : w.heap[b]? = some (.cells cur T (0, 0))) (hl : o + x.length ≤ cur.size) :
    Put w (w.setRow b (cur.toList.take o ++ x ++ cur.toList.drop (o + x.length)).toArray) b o x :=
  ⟨fun k hk => setRow_other w b k _ hk, cur, _, T, _, hb, setRow_heap w b cur _ T _ hb, hl, by simp⟩

/-- Cells elsewhere turned. -/
theorem Holds.world {v : V} {cs : List Value} {dp : Nat} {ro : Option (Nat × Path)} (h : Holds G w s v cs dp ro)
    (hn : ∀ b, b < w.heap.size → G.φ b = none → w'.heap[b]? = w.heap[b]?) (ho : ∀ b r p q, b < w.heap.size → ro = some (r, p) → G.φ b = some (false, r, p ++ q) → w'.heap[b]? = w.heap[b]?) : Holds G w' s v cs dp ro := by
  cases h with
  | free _ h => exact .free _ (h.frame fun q b _ hb _ => hb.elim)
  | shared h => exact .shared (h.frame fun q b _ hb hl => ⟨hn b hl hb, hb⟩)
  | dead r p _ hr h =>
    refine .dead r p _ hr (h.frame fun q b hq hb hl => ⟨?_, hb⟩)
    rcases ownS_lev hb with ⟨_, hb⟩ | ⟨_, hb⟩
    · obtain ⟨q', rfl⟩ := hq
      exact ho b r p q' hl rfl hb
    · exact hn b hl hb

/-- The elements of what was given up. -/
theorem Holds.elem {e : Kd} {m : List e.den} {v : Value} {dp : Nat} {ro : Option (Nat × Path)} (h : Holds G w s ⟨.slice e, m⟩ [v] dp ro) {news : List Value} {j : Nat} (hj : j < m.length)
    (hn : ∀ (S : OwnS) (q : Path), Rep w S (.slice e) q [v] m → Rep w S e (q ++ [.i j]) ((news.drop (j * e.size)).take e.size) (m.get ⟨j, hj⟩)) :
    ∃ ro', Holds G w s ⟨e, m.get ⟨j, hj⟩⟩ ((news.drop (j * e.size)).take e.size) (dp - 1) ro' ∧ ∀ r p, ro' = some (r, p) → ∃ p0, ro = some (r, p0) ∧ p = p0 ++ [.i j] := by
  cases h with
  | free _ h =>
    simp only [Rep] at h
    rcases h with ⟨_, h⟩ | ⟨b, off, cap, _, _, h, _⟩
    · subst h; simp at hj
    · exact h.elim
  | shared h => exact ⟨none, .shared ((hn _ _ h).move fun p b hs _ => hs), fun r p hr => by cases hr⟩
  | dead r p _ hr h =>
    have hl : lev (p ++ [.i j]) = lev p + 1 := by rw [lev_append]; rfl
    cases dp with
    | zero => exact ⟨none, .shared ((hn _ _ h).move (q' := []) fun p' b hs _ => by
        rcases ownS_lev hs with ⟨hlt, _⟩ | ⟨_, hs⟩
        · rw [lev_append, hl] at hlt; omega
        · exact hs), fun r p hr => by cases hr⟩
    | succ dp =>
      refine ⟨some (r, p ++ [.i j]), .dead r _ _ hr ?_, fun r' p' hr' => ⟨p, ?_⟩⟩
      · have := hn _ _ h
        rw [show lev (p ++ [.i j]) + (dp + 1 - 1) = lev p + (dp + 1) by rw [hl]; omega]
        exact this
      · simp only [Option.some.injEq, Prod.mk.injEq] at hr'
        exact ⟨by rw [hr'.1], hr'.2.symm⟩

theorem chunk_append_l {x y : List Value} {i e k : Nat} (hx : x.length = k * e) (hi : i < k) : ((x ++ y).drop (i * e)).take e = (x.drop (i * e)).take e := by
  have : (i + 1) * e ≤ k * e := Nat.mul_le_mul_right _ hi
  rw [Nat.add_mul] at this
  rw [List.drop_append_of_le_length (by omega), List.take_append_of_le_length (by simp; omega)]
theorem chunk_append_r {x y : List Value} {j e k : Nat} (hx : x.length = k * e) : ((x ++ y).drop ((k + j) * e)).take e = (y.drop (j * e)).take e := by
  have : (k + j) * e = x.length + j * e := by rw [Nat.add_mul, hx]
  rw [this, List.drop_append, List.drop_of_length_le (by omega), List.nil_append]
  congr 2
  omega

theorem append_finish (S : Set_ P Γ Kp B0 n G s a w o) {s2 : State} {G2 : Gh} (g2 : GOk Kp G2 s2 a w) {d : Nat} (hd : o.dst = some d) (hid : s2 (rt id) = .none) {e : Kd} {t te : TypeId} {i : TypeInfo} {z : Value}
    (ut : P.underlying t = some (.slice te)) (hr : Row P te e i z) (he : 0 < e.size) {l m : List e.den} {dep : Nat} (hdep : 1 ≤ dep) (M : Nat → Path → Option Path) {olds news : List Value} {sb xb : Option Addr} {sCap xCap : Nat}
    (hol : olds.length = l.length * e.size) (hnl : news.length = m.length * e.size)
    (helO : ∀ j (h : j < l.length), ∃ dp ro, Holds G2 w s2 ⟨e, l.get ⟨j, h⟩⟩ ((olds.drop (j * e.size)).take e.size) dp ro ∧ dep ≤ dp + 1 ∧ ∀ r p, ro = some (r, p) → p ≠ [] ∧ ∀ q, M r (p ++ q) = some (.i j :: q))
    (helN : ∀ j (h : j < m.length), ∃ dp ro, Holds G2 w s2 ⟨e, m.get ⟨j, h⟩⟩ ((news.drop (j * e.size)).take e.size) dp ro ∧ dep ≤ dp + 1 ∧ ∀ r p, ro = some (r, p) → p ≠ [] ∧ ∀ q, M r (p ++ q) = some (.i (l.length + j) :: q))
    (hs : ∀ w1 : World, w1.heap = w.heap → (Builtin.firstCells e.size l.length (.slice sb l.length sCap)).run P w1 = .ok olds.toArray w1)
    (hx : ∀ w1 : World, w1.heap = w.heap → (Builtin.firstCells e.size m.length (.slice xb m.length xCap)).run P w1 = .ok news.toArray w1)
    (h1 : ∀ u ∈ news, u.oneCell' = true) (hlim : l.length + m.length ≤ lim) (hlc : l.length ≤ sCap)
    (hin : sCap = 0 ∨ ∃ b off cur T r, sb = some ⟨b, off, none⟩ ∧ w.heap[b]? = some (.cells cur T (0, 0)) ∧ off + sCap * e.size ≤ cur.size ∧ G2.φ b = some (false, r, []) ∧ s2 (rt r) = .dead ∧ M r [] = some [] ∧
      ∀ j (h : j < l.length), (cellsAt w b (off + j * e.size) e.size) = (olds.drop (j * e.size)).take e.size)
    (hexec : ∀ v w', (Builtin.append_ #[t, t] o.type #[.slice sb l.length sCap, .slice xb m.length xCap]).run P w = .ok v w' → (execOp a.eval o).run P w = .ok (.value v) w') :
    o.wp P a w (fun a' w' => Inv Kp B0 n (s2.put [(rt id, .root (.slice e) (l ++ m) dep false false 0), (sl d, .al id [] 0)]) a' w') Q := by
  rw [← hr.size] at hs hx
  have hdn := S.dst d hd
  have hchunk : ∀ (rest : List Value) j (h : j < (l ++ m).length), ∃ dp ro, Holds G2 w s2 ⟨e, (l ++ m).get ⟨j, h⟩⟩ (((olds ++ news ++ rest).drop (j * e.size)).take e.size) dp ro ∧ dep ≤ dp + 1 ∧ ∀ r p, ro = some (r, p) → p ≠ [] ∧ ∀ q, M r (p ++ q) = some (.i j :: q) := by
    intro rest j h
    rw [List.length_append] at h
    by_cases hj : j < l.length
    · rw [List.append_assoc, chunk_append_l hol hj]
      obtain ⟨dp, ro, k1, k2, k3⟩ := helO j hj
      refine ⟨dp, ro, ?_, k2, k3⟩
      simpa [List.getElem_append_left hj] using k1
    · obtain ⟨j', rfl⟩ : ∃ j', j = l.length + j' := ⟨j - l.length, by omega⟩
      rw [List.append_assoc, chunk_append_r hol, chunk_append_l hnl (by omega)]
      obtain ⟨dp, ro, k1, k2, k3⟩ := helN j' (by omega)
      refine ⟨dp, ro, ?_, k2, k3⟩
      simpa [List.getElem_append_right] using k1
  by_cases hroom : l.length + m.length ≤ sCap
  · rcases hin with rfl | ⟨b, off, cur, T, r, rfl, hb, hcap, hφ, hdead, hM0, hcl⟩
    · have hl0 : l.length = 0 := by omega
      have hm0 : m.length = 0 := by omega
      have hl : l = [] := List.length_eq_zero_iff.1 hl0
      have hm : m = [] := List.length_eq_zero_iff.1 hm0
      subst hl hm
      have hn0 : news = [] := by
        apply List.length_eq_zero_iff.1
        rw [hnl]
        simp
      subst hn0
      have hrun := run_append_none (t := t) (ty := o.type) ut hr.info sb xb xCap (w := w) (fun w1 h => by simpa using hx w1 h)
      exact value_root S g2 hd hid [.slice sb 0 0] M (by simp [Rep]) (hexec _ _ hrun)
    · have hle : (l.length + m.length) * e.size ≤ sCap * e.size := Nat.mul_le_mul_right _ hroom
      rw [Nat.add_mul] at hle
      have hfit : off + l.length * e.size + news.length ≤ cur.size := by rw [hnl]; omega
      have hrun := run_append_into (t := t) (ty := o.type) ut hr.info b off l.length sCap xb m.length xCap news hx hb h1 hroom (by rw [hr.size]; exact hfit)
      rw [hr.size] at hrun
      have hput := setRow_put hb hfit (x := news)
      refine wp_new hd (hexec _ _ hrun) ?_
      have hsame : ∀ b', b' < w.heap.size → (G2.φ b' = none ∨ ∃ f r q, G2.φ b' = some (f, r, q) ∧ ∃ k d dep box frz ver, s2 (rt r) = .root k d dep box frz ver) → (w.setRow b (cur.toList.take (off + l.length * e.size) ++ news ++ cur.toList.drop (off + l.length * e.size + news.length)).toArray).heap[b']? = w.heap[b']? := by
        intro b' _ hh
        refine hput.other b' fun eq => ?_
        subst eq
        rcases hh with hh | ⟨f, r', q, hh, k, d', dep', box, frz, ver, hroot⟩
        · rw [hφ] at hh; cases hh
        · rw [hφ] at hh
          injection hh with hh
          injection hh with _ hh
          injection hh with hh _
          subst hh
          rw [hdead] at hroot
          cases hroot
      obtain ⟨_, cs', _, _, p1, p2, p3, p4⟩ := hput.here
      have hbl : b < w.heap.size := (Array.getElem?_eq_some_iff.1 hb).1
      have hb' : (w.setRow b (cur.toList.take (off + l.length * e.size) ++ news ++ cur.toList.drop (off + l.length * e.size + news.length)).toArray).heap[b]? = some (.cells (cur.toList.take (off + l.length * e.size) ++ news ++ cur.toList.drop (off + l.length * e.size + news.length)).toArray T (0, 0)) := setRow_heap w b cur _ T _ hb
      obtain ⟨G', g', _⟩ := mk_rootW g2 (w' := w.setRow b (cur.toList.take (off + l.length * e.size) ++ news ++ cur.toList.drop (off + l.length * e.size + news.length)).toArray) (moveT s2 id dep M) none [.slice (some ⟨b, off, none⟩) (l.length + m.length) sCap] hsame
        (fun b' cs T' h => by
          by_cases eq : b' = b
          · subst eq; exact ⟨_, _, hb'⟩
          · exact ⟨cs, T', (hput.other b' eq).trans h⟩)
        (fun f r q h => moveT_live f r q h) moveT_far (by rw [setRow_size]; exact Nat.le_refl _) (fun x hx => by cases hx) hid (cell := .root (.slice e) (l ++ m) dep false false 0) (d := d) (v := .slice (some ⟨b, off, none⟩) (l.length + m.length) sCap) (sc := .al id [] 0) (by rw [S.inv.size]; exact hdn)
        (by
          refine ⟨?_, fun h => by cases h⟩
          simp only [if_true, Rep]
          refine .inr ⟨b, off, sCap, by simp, by simpa using hroom, ?_, hput.block ⟨cur, T, _, hb, hcap⟩, fun j hj => ?_⟩
          · have : lev [] < dep := by simp [lev]; omega
            simp only [ownS, this, if_true, reφ, hbl, hφ, Option.bind_some]
            rw [moveT_dead hdead hM0, if_pos this]
          · obtain ⟨dp, ro, k1, k2, k3⟩ := hchunk [] j hj
            have hcell : cellsAt (w.setRow b (cur.toList.take (off + l.length * e.size) ++ news ++ cur.toList.drop (off + l.length * e.size + news.length)).toArray) b (off + j * e.size) e.size = ((olds ++ news ++ []).drop (j * e.size)).take e.size := by
              rw [List.length_append] at hj
              by_cases hjl : j < l.length
              · have : (j + 1) * e.size ≤ l.length * e.size := Nat.mul_le_mul_right _ hjl
                rw [Nat.add_mul] at this
                have hr2 : ((olds ++ news ++ []).drop (j * e.size)).take e.size = (olds.drop (j * e.size)).take e.size := by rw [List.append_assoc, chunk_append_l hol hjl]
                rw [hput.cells_other (.inr (.inl (by omega))), hcl j hjl, hr2]
              · obtain ⟨j', rfl⟩ : ∃ j', j = l.length + j' := ⟨j - l.length, by omega⟩
                have hj2 : (j' + 1) * e.size ≤ m.length * e.size := Nat.mul_le_mul_right _ (by omega)
                rw [Nat.add_mul] at hj2
                have hr2 : ((olds ++ news ++ []).drop ((l.length + j') * e.size)).take e.size = (news.drop (j' * e.size)).take e.size := by rw [List.append_assoc, chunk_append_r hol, chunk_append_l hnl (by omega)]
                rw [hr2]
                rw [show off + (l.length + j') * e.size = (off + l.length * e.size) + j' * e.size by rw [Nat.add_mul]; omega]
                rw [← cellsAt_chunk (n := news.length) (by omega), hput.cells_same]
            rw [hcell]
            have k1' := Holds.world (w' := w.setRow b (cur.toList.take (off + l.length * e.size) ++ news ++ cur.toList.drop (off + l.length * e.size + news.length)).toArray) k1 (fun b' hl' hn => hsame b' hl' (.inl hn)) (fun b' r' p q hl' hro hb2 => by
              refine hput.other b' fun eq => ?_
              subst eq
              rw [hφ] at hb2
              injection hb2 with hb2
              injection hb2 with _ hb2
              injection hb2 with _ hb2
              have := (k3 r' p hro).1
              cases p with
              | nil => exact this rfl
              | cons x p => simp at hb2)
            have hsz : (w.setRow b (cur.toList.take (off + l.length * e.size) ++ news ++ cur.toList.drop (off + l.length * e.size + news.length)).toArray).heap.size = w.heap.size := setRow_size _ _ _
            have := holds_move (w' := w.setRow b (cur.toList.take (off + l.length * e.size) ++ news ++ cur.toList.drop (off + l.length * e.size + news.length)).toArray) (id := id) (dep := dep) (M := M) (pre := [.i j]) (nb := none) k1' (fun _ _ => rfl) (by simp [lev]; omega) (fun r p hr q => by simpa using (k3 r p hr).2 q)
            rw [hsz] at this
            simpa using this)
        (.inr ⟨_, _, _, _, _, _, rfl⟩)
        (by
          have e' : (s2.put [(rt id, Cell.root (.slice e) (l ++ m) dep false false 0), (sl d, .al id [] 0)]) (rt id) = .root (.slice e) (l ++ m) dep false false 0 := by
            simp only [State.put]; rw [State.set_other _ _ (sl_rt d id).symm, State.set_same]
          simp only [CellOk]
          rw [e']
          exact ⟨Nat.le_refl _, fun _ => ⟨⟨.slice e, l ++ m⟩, rfl, trivial, by simp [subC, mkVal, Kd.agg]⟩⟩)
      refine ⟨by simp [Act.put, S.inv.defers], by simp [Act.put, S.inv.size], ?_, G', g'⟩
      have hbase := S.inv.base
      have hkb := (g2.mine hφ (.inl rfl)).1
      exact ⟨hbase.os, hbase.tape, hbase.output, by rw [setRow_size]; exact hbase.size, fun b' hk => (hput.other b' fun eq => hkb (eq ▸ hk)).trans (hbase.kept b' hk), hbase.old⟩
  · have hbytes := hr.bytes
    have hfit : Builtin.nextslicecap (l.length + m.length) sCap * i.bytes ≤ 281474976710656 := by
      refine growslice_fits (by omega) ?_
      have : (l.length + m.length) * i.bytes ≤ lim * 128 := Nat.mul_le_mul hlim hbytes
      unfold lim at this
      omega
    have hrun := run_append_grown (t := t) (ty := o.type) (w := w) ut hr.info hr.zero sb xb l.length sCap m.length xCap olds news hs hx (by omega) (by unfold lim at hlim; omega) hfit
    have hcapge : l.length + m.length ≤ grownCap w (l.length + m.length) sCap te := grownCap_ge w _ _ _
    have hzc : z.cells = (zeroC e).toArray := zcells_arr hr
    have := slice_root (Q := Q) S (w1 := w.drew) (l := l ++ m) (dep := dep) g2.drew S.inv.base.drew hd hid te (olds.toArray ++ news.toArray ++ Builtin.zeroCells z.cells (grownCap w (l.length + m.length) sCap te - (l.length + m.length))) (grownCap w (l.length + m.length) sCap te) M hdep (by simpa using hcapge)
      (by
        have hzs : (Builtin.zeroCells z.cells (grownCap w (l.length + m.length) sCap te - (l.length + m.length))).size = (grownCap w (l.length + m.length) sCap te - (l.length + m.length)) * e.size := by
          rw [size_zeroCells, hzc, List.size_toArray, zeroC_length]
        simp only [Array.size_append, List.size_toArray, hzs, hol, hnl]
        have : grownCap w (l.length + m.length) sCap te = (l.length + m.length) + (grownCap w (l.length + m.length) sCap te - (l.length + m.length)) := by omega
        rw [Nat.sub_mul, Nat.add_mul]
        have h2 : (l.length + m.length) * e.size ≤ grownCap w (l.length + m.length) sCap te * e.size := Nat.mul_le_mul_right _ hcapge
        rw [Nat.add_mul] at h2
        omega)
      (fun j hj => by
        obtain ⟨dp, ro, k1, k2, k3⟩ := hchunk (Builtin.zeroCells z.cells (grownCap w (l.length + m.length) sCap te - (l.length + m.length))).toList j hj
        refine ⟨dp, ro, ?_, k2, fun r p hr => (k3 r p hr).2⟩
        have e2 : (olds.toArray ++ news.toArray ++ Builtin.zeroCells z.cells (grownCap w (l.length + m.length) sCap te - (l.length + m.length))).toList = olds ++ news ++ (Builtin.zeroCells z.cells (grownCap w (l.length + m.length) sCap te - (l.length + m.length))).toList := by simp
        rw [e2]
        exact Holds.world k1 (fun _ _ _ => rfl) (fun _ _ _ _ _ _ _ => rfl))
      (by
        have := hexec _ _ hrun
        simpa using this)
    exact this

theorem append_cst (S : Set_ P Γ Kp B0 n G s a w o) {s1 : State} {G1 : Gh} (g1 : GOk Kp G1 s1 a w) {d : Nat} (hd : o.dst = some d) (hid : s1 (rt id) = .none) {e : Kd} {t te : TypeId} {i : TypeInfo} {z : Value}
    (ut : P.underlying t = some (.slice te)) (hr : Row P te e i z) (he : 0 < e.size) {m : List e.den} {dep : Nat} (hdep : 1 ≤ dep) (M : Nat → Path → Option Path) {news : List Value} {sb xb : Option Addr} {xCap : Nat}
    (hnl : news.length = m.length * e.size)
    (helN : ∀ j (h : j < m.length), ∃ dp ro, Holds G1 w s1 ⟨e, m.get ⟨j, h⟩⟩ ((news.drop (j * e.size)).take e.size) dp ro ∧ dep ≤ dp + 1 ∧ ∀ r p, ro = some (r, p) → p ≠ [] ∧ ∀ q, M r (p ++ q) = some (.i j :: q))
    (hx : ∀ w1 : World, w1.heap = w.heap → (Builtin.firstCells e.size m.length (.slice xb m.length xCap)).run P w1 = .ok news.toArray w1)
    (h1 : ∀ u ∈ news, u.oneCell' = true) (hlim : m.length ≤ lim)
    (hexec : ∀ v w', (Builtin.append_ #[t, t] o.type #[.slice sb 0 0, .slice xb m.length xCap]).run P w = .ok v w' → (execOp a.eval o).run P w = .ok (.value v) w') :
    o.wp P a w (fun a' w' => Inv Kp B0 n (s1.put [(rt id, .root (.slice e) ([] ++ m) dep false false 0), (sl d, .al id [] 0)]) a' w') Q :=
  append_finish S g1 hd hid ut hr he (l := []) hdep M (olds := []) (sb := sb) (sCap := 0) (by simp) hnl (fun j h => by simp at h)
    (fun j h => by
      obtain ⟨dp, ro, k1, k2, k3⟩ := helN j h
      exact ⟨dp, ro, k1, k2, fun r p hr => by simpa using k3 r p hr⟩)
    (fun w1 _ => run_firstCells_zero w1 e.size sb 0) hx h1 (by simpa using hlim) (by simp) (.inl rfl) hexec

theorem append_al (S : Set_ P Γ Kp B0 n G s a w o) {s1 : State} {G1 : Gh} (g1 : GOk Kp G1 s1 a w) {d : Nat} (hd : o.dst = some d) (hid : s1 (rt id) = .none) {e : Kd} {t te : TypeId} {i : TypeInfo} {z : Value}
    (ut : P.underlying t = some (.slice te)) (hr : Row P te e i z) (he : 0 < e.size) {l m : List e.den} {dep dep0 ver r : Nat} {sv : Value} (hroot : s1 (rt r) = .root (.slice e) l dep0 false false ver) (hsv : sv = mkVal (.slice e) (G1.C r)) (hdep : 1 ≤ dep) (hdd : dep ≤ dep0)
    (N : Nat → Path → Option Path) {news : List Value} {xb : Option Addr} {xCap : Nat} (hnl : news.length = m.length * e.size)
    (helN : ∀ j (h : j < m.length), ∃ dp ro, Holds G1 w s1 ⟨e, m.get ⟨j, h⟩⟩ ((news.drop (j * e.size)).take e.size) dp ro ∧ dep ≤ dp + 1 ∧ ∀ r' p, ro = some (r', p) → r' ≠ r ∧ p ≠ [] ∧ ∀ q, N r' (p ++ q) = some (.i (l.length + j) :: q))
    (hx : ∀ w1 : World, w1.heap = w.heap → (Builtin.firstCells e.size m.length (.slice xb m.length xCap)).run P w1 = .ok news.toArray w1)
    (h1 : ∀ u ∈ news, u.oneCell' = true) (hlim : l.length + m.length ≤ lim)
    (hexec : ∀ v w', (Builtin.append_ #[t, t] o.type #[sv, .slice xb m.length xCap]).run P w = .ok v w' → (execOp a.eval o).run P w = .ok (.value v) w') :
    o.wp P a w (fun a' w' => Inv Kp B0 n (s1.put [(rt r, .dead), (rt id, .root (.slice e) (l ++ m) dep false false 0), (sl d, .al id [] 0)]) a' w') Q := by
  have hro := g1.roots r
  rw [hroot] at hro
  have hrep := hro.1
  have hlen := hrep.length
  obtain ⟨v, hv⟩ : ∃ v, G1.C r = [v] := by
    match hq : G1.C r, hlen with
    | [v], _ => exact ⟨v, rfl⟩
  rw [hv] at hrep
  obtain ⟨ad, cap, olds, e1, e2, e3, e4, e5, e6, e7⟩ := slice_cells (P := P) he hrep
  have hsv' : sv = .slice ad l.length cap := by rw [hsv, hv, ← e1]; rfl
  rw [e1] at e3
  subst hsv'
  have g2 := kill_ok g1 ⟨_, _, _, _, _, _, hroot⟩
  have hne : id ≠ r := fun e => by subst e; rw [hid] at hroot; cases hroot
  have hid2 : (s1.set (rt r) .dead) (rt id) = .none := by rw [State.set_other _ _ (fun h => hne (rt_inj h))]; exact hid
  have hlevi : ∀ j, lev [St.i j] = 1 := fun j => rfl
  have key := append_finish (Q := Q) S g2 hd hid2 ut hr he (l := l) (m := m) hdep (fun r' q => if r' = r then some q else N r' q) (olds := olds) (news := news) (sb := ad) (sCap := cap) e2 hnl
    (fun j h => ⟨dep0 - 1, some (r, [.i j]), .dead r [.i j] _ (State.set_same _ _ _) (by
        rw [hlevi, show 1 + (dep0 - 1) = dep0 by omega]
        simpa using e4 j h), by omega, fun r' p hr' => by
          simp only [Option.some.injEq, Prod.mk.injEq] at hr'
          obtain ⟨rfl, rfl⟩ := hr'
          exact ⟨by simp, fun q => by simp⟩⟩)
    (fun j h => by
      obtain ⟨dp, ro, k1, k2, k3⟩ := helN j h
      refine ⟨dp, ro, k1.keep (fun r' p hr' => State.set_other _ _ (fun h => (k3 r' p hr').1 (rt_inj h))) (fun _ h => h) (fun _ _ _ _ h _ => h), k2, fun r' p hr' => ?_⟩
      obtain ⟨n1, n2, n3⟩ := k3 r' p hr'
      exact ⟨n2, fun q => by simp only [n1, if_false]; exact n3 q⟩)
    e3 hx h1 hlim e6 (by
      rcases e7 with h | ⟨b, off, k1, k2, k3, k4⟩
      · exact .inl h
      · right
        have hφ : G1.φ b = some (false, r, []) := by
          rcases ownS_lev k2 with ⟨_, h⟩ | ⟨h, _⟩
          · exact h
          · simp [lev] at h; omega
        obtain ⟨_, cur, T, hb⟩ := g1.mine hφ (.inl rfl)
        refine ⟨b, off, cur, T, r, k1, hb, ?_, hφ, State.set_same _ _ _, by simp, k4⟩
        obtain ⟨cs, T', fr, hb', hle⟩ := k3
        rw [hb] at hb'
        injection hb' with hb'
        injection hb' with hb' _ _
        rw [hb']
        exact hle)
    hexec
  exact key

theorem append_ok (S : Set_ P Γ Kp B0 n G s a w o) {as : Array Operand} {ts : Array TypeId} (ho : o.op = .call { callee := .builtin .append, args := as, argTypes := ts }) (h : (opD Γ id o).out s = some ws) (hok : dstOk o ws = true) :
    o.wp P a w (fun a' w' => Inv Kp B0 n (s.put ws) a' w') Q := by
  unfold opD at h
  rw [ho] at h
  simp only at h
  split at h
  · rename_i s' x t t' ha ht
    simp only [bif_out] at h
    rcases bif_some h with ⟨htt, h0⟩ | ⟨_, h0⟩
    · have htt := Nat.eq_of_beq_eq_true htt
      clear h
      subst htt
      have has : as = #[s', x] := by apply Array.ext'; simpa using ha
      have hts : ts = #[t, t] := by apply Array.ext'; simpa using ht
      subst has hts
      have hexec : ∀ v w', (Builtin.append_ #[t, t] o.type #[a.eval s', a.eval x]).run P w = .ok v w' → (execOp a.eval o).run P w = .ok (.value v) w' := by
        intro v w' hrun
        unfold execOp
        rw [ho]
        simp [resolve, invoke, builtin, hrun]
      simp only [appendR, Rd.out_bind, Option.bind_eq_some_iff] at h0
      obtain ⟨cs, h1, vs, h2, u, h3, h4⟩ := h0
      have hkt := kindIs_ok h3
      have hcs := rdOp_ok S.g h1
      obtain ⟨k, l⟩ := vs
      cases k with
      | slice e =>
        obtain ⟨te, u1, u2, u3⟩ := under_slice S.tab hkt
        obtain ⟨i, z, hr⟩ := row_of S.tab u2
        -- what the first operand is
        have hcst : ∀ k d, cs = .cst k d → l = [] ∧ ∃ sb, a.eval s' = .slice sb 0 0 := by
          intro k d hc
          subst hc
          simp only [look, Rd.out, Option.some.injEq, V.mk.injEq] at h2
          obtain ⟨rfl, h2⟩ := h2
          have h2 := eq_of_heq h2
          subst h2
          obtain ⟨c, c1, c2⟩ := hcs
          simp only [Rep] at c2
          rcases c2 with ⟨⟨sb, c2⟩, c3⟩ | ⟨_, _, _, _, _, c2, _⟩
          · subst c2; exact ⟨c3, sb, c1⟩
          · exact c2.elim
        have hal : ∀ r ver k0 d0 dep ver', cs = .al r [] ver → s (rt r) = .root k0 d0 dep false false ver' → s (rt r) = .root (.slice e) l dep false false ver' ∧ a.eval s' = mkVal (.slice e) (G.C r) := by
          intro r ver k0 d0 dep ver' hc hs
          subst hc
          simp only [look, Rd.out] at h2
          rw [hs] at h2
          simp only [CellOk] at hcs
          rw [hs] at hcs
          simp only [Bool.not_false, List.isEmpty_nil, Bool.and_self, Bool.or_true, cond_true, getP, Rd.out_opt, Option.some.injEq, V.mk.injEq] at h2
          obtain ⟨rfl, h2⟩ := h2
          have h2 := eq_of_heq h2
          subst h2
          obtain ⟨y, y1, y2, y3⟩ := hcs.2 (.inr (by simp))
          simp only [getP, Option.some.injEq] at y1
          subst y1
          exact ⟨hs, by simpa [subC] using y3⟩
        simp only [bif_out] at h4
        rcases bif_some h4 with ⟨hf, h5⟩ | ⟨hf, h5⟩
        · -- flat elements
          simp only [Rd.out_bind, Option.bind_eq_some_iff, Rd.out_opt] at h5
          obtain ⟨vx, h6, m, h7, h8⟩ := h5
          have h7 := cast?_eq h7
          subst h7
          obtain ⟨T, q, c, x1, x2⟩ := rdVt_ok S.g h6
          simp only [Rd.out] at h8
          split at h8
          · rename_i hl
            have hl := of_decide_eq_true hl
            have hc1 : ∃ v, c = [v] := by
              have := x2.length
              match c, this with
              | [v], _ => exact ⟨v, rfl⟩
            obtain ⟨v, rfl⟩ := hc1
            obtain ⟨ad, cap, news, e1, e2, e3, e4, e5, e6, e7⟩ := slice_cells (P := P) u3 x2
            have hxv : a.eval x = .slice ad m.length cap := by rw [x1, e1]; rfl
            rw [e1] at e3
            rw [hxv] at hexec
            have helN : ∀ (s1 : State) (dep : Nat) j (h : j < m.length), Holds G w s1 ⟨e, m.get ⟨j, h⟩⟩ ((news.drop (j * e.size)).take e.size) dep none := fun s1 dep j h => .free _ ((e4 j h).flat w _ [] hf)
            cases cs with
            | cst k0 d0 =>
              obtain ⟨rfl, sb0, hsv⟩ := hcst k0 d0 rfl
              obtain ⟨hid, rfl⟩ := newAt_ok h8
              obtain ⟨d, hd⟩ := dst_some (c := .al id [] 0) hok (by simp)
              rw [hsv] at hexec
              rw [hd]
              exact append_cst S S.g hd hid u1 hr u3 (by omega) (fun _ _ => none) e2 (fun j h => ⟨99, none, helN s 99 j h, by omega, fun _ _ h => by cases h⟩) e3 e5 (by simpa using hl) hexec
            | al r p ver =>
              cases p with
              | nil =>
                simp only [Rd.out] at h8
                cases hs : s (rt r) with
                | root k0 d0 dep box frz ver' =>
                  rw [hs] at h8
                  cases box <;> cases frz <;> simp only [Rd.out, bif_out, reduceCtorEq] at h8
                  rcases bif_some h8 with ⟨hd1, h9⟩ | ⟨_, h9⟩
                  · obtain ⟨hs', hsv⟩ := hal r ver k0 d0 dep ver' rfl hs
                    obtain ⟨hid, rfl⟩ := newAt_ok h9
                    obtain ⟨d, hd⟩ := dst_some (c := .al id [] 0) hok (by simp)
                    have hd1 := of_decide_eq_true hd1
                    rw [hd]
                    exact append_al S S.g hd hid u1 hr u3 hs' hsv hd1 (Nat.le_refl _) (fun _ _ => none) e2 (fun j h => ⟨dep, none, helN s dep j h, by omega, fun _ _ h => by cases h⟩) e3 e5 hl hexec
                  · simp at h9
                | _ => rw [hs] at h8; simp [Rd.out] at h8
              | cons _ _ => simp [Rd.out] at h8
            | _ => simp [Rd.out] at h8
          · simp at h8
        · -- elements with memory behind them
          simp only [Rd.out_bind, Option.bind_eq_some_iff, Rd.out_opt] at h5
          obtain ⟨cx, h6, gx, h6', m, h7, h8⟩ := h5
          have h7 := cast?_eq h7
          have hg := got_ok S.g (rdOp_ok S.g h6) h6'
          simp only [Rd.out] at h8
          split at h8
          · rename_i hl
            have hl := of_decide_eq_true hl
            -- the second operand, given up
            have given : ∀ own : Bool, ∃ (G1 : Gh) (v : Value) (ad : Option Addr) (cap : Nat) (news : List Value), GOk Kp G1 (s.put (leave own gx)) a w ∧ G1.C = G.C ∧ a.eval x = .slice ad m.length cap ∧ news.length = m.length * e.size ∧
                (∀ w1 : World, w1.heap = w.heap → (Builtin.firstCells e.size m.length (.slice ad m.length cap)).run P w1 = .ok news.toArray w1) ∧ (∀ u ∈ news, u.oneCell' = true) ∧
                Holds G1 w (s.put (leave own gx)) ⟨.slice e, m⟩ [v] (bif own then gx.dp else 0) (fromOf own gx) ∧
                (∀ (S : OwnS) (q : Path) j (h : j < m.length), Rep w S (.slice e) q [v] m → Rep w S e (q ++ [.i j]) ((news.drop (j * e.size)).take e.size) (m.get ⟨j, h⟩)) := by
              intro own
              obtain ⟨G1, c, g1, x1, hh, eC, eβ, n1, o1, m1⟩ := leave_ok S.g hg own
              rw [h7] at hh x1
              have hc1 : ∃ v, c = [v] := by
                have := hh.length
                match c, this with
                | [v], _ => exact ⟨v, rfl⟩
              obtain ⟨v, rfl⟩ := hc1
              obtain ⟨T, q, x2⟩ := hh.rep
              simp only at x2
              obtain ⟨ad, cap, news, e1, e2, e3, e4, e5, e6, e7⟩ := slice_cells (P := P) u3 x2
              refine ⟨G1, v, ad, cap, news, g1, eC, by rw [x1, e1]; rfl, e2, by rw [e1] at e3; exact e3, e5, hh, fun T' q' j hj hrep => ?_⟩
              subst e1
              simp only [Rep] at hrep
              rcases hrep with ⟨_, hn⟩ | ⟨b, off, cap', k1, k2, k3, k4, k5⟩
              · subst hn; simp at hj
              · simp only [List.cons.injEq, Value.slice.injEq, and_true] at k1
                obtain ⟨rfl, _, rfl⟩ := k1
                rcases e7 with hn | ⟨b', off', f1, f2, f3, f4⟩
                · omega
                · injection f1 with f1
                  injection f1 with f1 f1' _
                  subst f1 f1'
                  rw [← f4 j hj]
                  exact k5 j hj
            have hidn : ∀ own, s (rt id) = .none → (s.put (leave own gx)) (rt id) = .none := by
              intro own hid
              refine (leave_root (fun c hc => ?_) s).trans hid
              obtain ⟨_, _, hq⟩ := hg
              rcases hq with ⟨hf, _⟩ | ⟨hf, _⟩ | ⟨r, _, _, _, _, _, _, _, hf, hs, _⟩
              · rw [hc] at hf; cases hf
              · rw [hc] at hf; cases hf
              · rw [hc] at hf
                injection hf with hf
                injection hf with hf _
                subst hf
                rw [hid] at hs
                cases hs
            -- an element given up
            have elem : ∀ (own : Bool) (G1 : Gh) (v : Value) (news : List Value) (dep : Nat), (own = true → 2 ≤ gx.dp ∧ dep ≤ gx.dp) → (own = false → dep ≤ 1) →
                Holds G1 w (s.put (leave own gx)) ⟨.slice e, m⟩ [v] (bif own then gx.dp else 0) (fromOf own gx) →
                (∀ (S : OwnS) (q : Path) j (h : j < m.length), Rep w S (.slice e) q [v] m → Rep w S e (q ++ [.i j]) ((news.drop (j * e.size)).take e.size) (m.get ⟨j, h⟩)) →
                ∀ (k : Nat) j (h : j < m.length), ∃ dp ro, Holds G1 w (s.put (leave own gx)) ⟨e, m.get ⟨j, h⟩⟩ ((news.drop (j * e.size)).take e.size) dp ro ∧ dep ≤ dp + 1 ∧
                  ∀ r p, ro = some (r, p) → (∃ c, gx.from_ = some (r, c)) ∧ p ≠ [] ∧ ∀ q, (fun (r : Nat) (q : Path) => match q with | .i j :: q => some (St.i (k + j) :: q) | _ => none) r (p ++ q) = some (.i (k + j) :: q) := by
              intro own G1 v news dep ho1 ho2 hh hel k j hj
              obtain ⟨ro', k1, k2⟩ := hh.elem hj (fun S q hrep => hel S q j hj hrep)
              refine ⟨_, ro', k1, ?_, fun r p hr' => ?_⟩
              · cases own with
                | true => have := ho1 rfl; simp only [cond_true]; omega
                | false => have := ho2 rfl; simp only [cond_false]; omega
              · obtain ⟨p0, hp0, rfl⟩ := k2 r p hr'
                obtain ⟨rfl, hc⟩ := fromOf_nil hp0
                exact ⟨hc, by simp, fun q => by simp⟩
            cases cs with
            | cst k0 d0 =>
              obtain ⟨rfl, sb0, hsv⟩ := hcst k0 d0 rfl
              obtain ⟨hid, rfl⟩ := newAt_ok h8
              obtain ⟨d, hd⟩ := dst_some (c := .al id [] 0) hok (by simp)
              obtain ⟨G1, v, ad, cap, news, g1, eC, hxv, e2, e3, e5, hh, hel⟩ := given (decide (2 ≤ max gx.dp 1))
              rw [hsv, hxv] at hexec
              rw [hd, State.put_append]
              refine append_cst S g1 hd (hidn _ hid) u1 hr u3 (by omega) (fun r q => match q with | .i j :: q => some (St.i (0 + j) :: q) | _ => none) e2 (fun j h => ?_) e3 e5 (by simpa using hl) hexec
              obtain ⟨dp, ro, k1, k2, k3⟩ := elem _ G1 v news (max gx.dp 1) (fun h => by have := of_decide_eq_true h; omega) (fun h => by have := of_decide_eq_false h; omega) hh hel 0 j h
              exact ⟨dp, ro, k1, k2, fun r p hr => ⟨(k3 r p hr).2.1, fun q => by simpa using (k3 r p hr).2.2 q⟩⟩
            | al r p ver =>
              cases p with
              | nil =>
                simp only [Rd.out] at h8
                cases hs : s (rt r) with
                | root k0 d0 dep box frz ver' =>
                  rw [hs] at h8
                  cases box <;> cases frz <;> simp only [Rd.out, bif_out, reduceCtorEq] at h8
                  rcases bif_some h8 with ⟨hd1, h9⟩ | ⟨_, h9⟩
                  · obtain ⟨hs', hsv⟩ := hal r ver k0 d0 dep ver' rfl hs
                    obtain ⟨hid, rfl⟩ := newAt_ok h9
                    obtain ⟨d, hd⟩ := dst_some (c := .al id [] 0) hok (by simp)
                    simp only [Bool.and_eq_true, decide_eq_true_eq, Bool.not_eq_true'] at hd1
                    obtain ⟨hd1, hfi⟩ := hd1
                    obtain ⟨G1, v, ad, cap, news, g1, eC, hxv, e2, e3, e5, hh, hel⟩ := given (decide (2 ≤ min dep (max gx.dp 1)))
                    rw [hxv] at hexec
                    rw [hd, State.put_append]
                    refine append_al S g1 hd (hidn _ hid) u1 hr u3 ((leave_root (fromIs_spec hfi) s).trans hs') (by rw [eC]; exact hsv) (by omega) (by omega) (fun r q => match q with | .i j :: q => some (St.i (l.length + j) :: q) | _ => none) e2 (fun j h => ?_) e3 e5 hl hexec
                    obtain ⟨dp, ro, k1, k2, k3⟩ := elem _ G1 v news (min dep (max gx.dp 1)) (fun h => by have := of_decide_eq_true h; omega) (fun h => by have := of_decide_eq_false h; omega) hh hel l.length j h
                    refine ⟨dp, ro, k1, k2, fun r' p hr' => ?_⟩
                    obtain ⟨⟨c, hc⟩, k4, k5⟩ := k3 r' p hr'
                    refine ⟨fun eq => ?_, k4, k5⟩
                    subst eq
                    exact fromIs_spec hfi c hc
                  · simp at h9
                | _ => rw [hs] at h8; simp [Rd.out] at h8
              | cons _ _ => simp [Rd.out] at h8
            | _ => simp [Rd.out] at h8
          · simp at h8
      | _ => simp [Rd.out] at h4
    · simp [Rd.out] at h0
  · simp [Rd.out] at h
end
end Go.V
