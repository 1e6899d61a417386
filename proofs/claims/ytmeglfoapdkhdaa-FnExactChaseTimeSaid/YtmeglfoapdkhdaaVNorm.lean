/- A state brought into a form: roots named anew, what is not named given up. -/
import Derived.Test.YtmeglfoapdkhdaaVReg2
set_option linter.unusedVariables false
set_option linter.unusedSimpArgs false
namespace Go.V

/-- What an entry of a form says of the state before and of the state behind. U: which root stands for which slot. -/
inductive Ent (s s' : State) (U : List (Nat × Nat)) : Nat → Slot → Prop
  | val {i : Nat} {k : Kd} {d : k.den} : s (sl i) = .val k d → s' (sl i) = .val k d → Ent s s' U i (.v k)
  | cst {i : Nat} {k : Kd} {d : k.den} : s (sl i) = .cst k d → s' (sl i) = .val k d → Ent s s' U i (.v k)
  | al {i r : Nat} {p : Path} {ver : Nat} {k k' : Kd} {d : k.den} {d' : k'.den} {box frz : Bool} {ver' : Nat} : s (sl i) = .al r p ver → s (rt r) = .root k' d' 0 box frz ver' → (Nat.beq ver ver' || (!box && p.isEmpty)) = true →
      getP p k' d' = some ⟨k, d⟩ → s' (sl i) = .val k d → Ent s s' U i (.v k)
  | own {i r : Nat} {ver : Nat} {k : Kd} {d : k.den} {dep dep' : Nat} {frz : Bool} {ver' : Nat} : s (sl i) = .al r [] ver → s (rt r) = .root k d dep' false frz ver' → dep ≤ dep' → (i, r) ∈ U → s' (sl i) = .al i [] 0 → s' (rt i) = .root k d dep false false 0 → Ent s s' U i (.own k dep)
  | ownc {i : Nat} {k : Kd} {d : k.den} {dep : Nat} : s (sl i) = .cst k d → s' (sl i) = .al i [] 0 → s' (rt i) = .root k d dep false false 0 → Ent s s' U i (.own k dep)
  | box {i r : Nat} {ver : Nat} {k : Kd} {d : k.den} {dep dep' : Nat} {ver' : Nat} : s (sl i) = .ptr r [] ver → s (rt r) = .root k d dep' true false ver' → dep ≤ dep' → (i, r) ∈ U → s' (sl i) = .ptr i [] 0 → s' (rt i) = .root k d dep true false 0 → Ent s s' U i (.box k dep)
  | sp {i : Nat} {k : Kd} {d : k.den} : s (sl i) = .sptr k d → s' (sl i) = .sptr k d → Ent s s' U i (.sp k)
  | same {i j r : Nat} {p : Path} {ver : Nat} {k : Kd} {d : k.den} {dep : Nat} {box frz : Bool} {ver' : Nat} : s (sl i) = .al r p ver → s (rt r) = .root k d dep box frz ver' → (Nat.beq ver ver' || (!box && p.isEmpty)) = true → (j, r) ∈ U → s' (sl i) = .al j p 0 → Ent s s' U i (.same j p)

def Slot.rooted : Slot → Bool
  | .own .. | .box .. => true
  | _ => false

theorem Ent.mono {s s' s'' : State} {U U' : List (Nat × Nat)} {i : Nat} {x : Slot} (h : Ent s s' U i x) (h1 : s'' (sl i) = s' (sl i)) (h2 : s'' (rt i) = s' (rt i)) (hU : ∀ y ∈ U, y ∈ U') : Ent s s'' U' i x := by
  cases h with
  | val a b => exact .val a (h1.trans b)
  | cst a b => exact .cst a (h1.trans b)
  | al a b c d e => exact .al a b c d (h1.trans e)
  | own a b c d e f => exact .own a b c (hU _ d) (h1.trans e) (h2.trans f)
  | ownc a b c => exact .ownc a (h1.trans b) (h2.trans c)
  | box a b c d e f => exact .box a b c (hU _ d) (h1.trans e) (h2.trans f)
  | sp a b => exact .sp a (h1.trans b)
  | same a b c d e => exact .same a b c (hU _ d) (h1.trans e)

theorem build_out : ∀ {f : Form} {d : f.den} {s0 : State}, (∀ t, t ∉ f.map (·.1) → (s0.put (build f d)) (sl t) = s0 (sl t) ∧ (s0.put (build f d)) (rt t) = s0 (rt t)) ∧
    (∀ t, (∀ x, (t, x) ∈ f → x.rooted = false) → (s0.put (build f d)) (rt t) = s0 (rt t)) := by
  intro f
  induction f with
  | nil => intro d s0; exact ⟨fun _ _ => ⟨rfl, rfl⟩, fun _ _ => rfl⟩
  | cons x f ih =>
    intro d s0
    obtain ⟨i, x⟩ := x
    have one : ∀ (W : Writes), (∀ y ∈ W, y.1 = sl i ∨ (y.1 = rt i ∧ x.rooted = true)) → ∀ (d' : Form.den f), build ((i, x) :: f) d = W ++ build f d' →
        (∀ t, t ∉ ((i, x) :: f).map (·.1) → (s0.put (build ((i, x) :: f) d)) (sl t) = s0 (sl t) ∧ (s0.put (build ((i, x) :: f) d)) (rt t) = s0 (rt t)) ∧
        (∀ t, (∀ y, (t, y) ∈ (i, x) :: f → y.rooted = false) → (s0.put (build ((i, x) :: f) d)) (rt t) = s0 (rt t)) := by
      intro W hW d' hb
      rw [hb]
      refine ⟨fun t ht => ?_, fun t ht => ?_⟩
      · simp only [List.map_cons, List.mem_cons, not_or] at ht
        rw [State.put_append]
        obtain ⟨h1, h2⟩ := (ih (d := d') (s0 := s0.put W)).1 t ht.2
        rw [h1, h2]
        refine ⟨put_notin fun c hc => ?_, put_notin fun c hc => ?_⟩
        · rcases hW _ hc with h | ⟨h, _⟩
          · exact ht.1 (sl_inj h)
          · exact sl_rt t i h
        · rcases hW _ hc with h | ⟨h, _⟩
          · exact sl_rt i t h.symm
          · exact ht.1 (rt_inj h)
      · rw [State.put_append, (ih (d := d') (s0 := s0.put W)).2 t fun y hy => ht y (by simp [hy])]
        refine put_notin fun c hc => ?_
        rcases hW _ hc with h | ⟨h, hx⟩
        · exact sl_rt i t h.symm
        · have := ht x (by simp [rt_inj h])
          rw [hx] at this
          cases this
    cases x with
    | v k => exact one [(sl i, .val k d.1)] (by simp) d.2 rfl
    | own k dep => exact one [(rt i, .root k d.1 dep false false 0), (sl i, .al i [] 0)] (by simp [Slot.rooted]) d.2 rfl
    | box k dep => exact one [(rt i, .root k d.1 dep true false 0), (sl i, .ptr i [] 0)] (by simp [Slot.rooted]) d.2 rfl
    | sp k => exact one [(sl i, .sptr k d.1)] (by simp) d.2 rfl
    | same j p => exact one [(sl i, .al j p 0)] (by simp) d.2 rfl

theorem contains_mem {u : List (Nat × Nat)} {r : Nat} (h : (u.map (·.2)).contains r = false) : ∀ i, (i, r) ∉ u := by
  intro i hi
  have : (u.map (·.2)).contains r = true := by
    rw [List.contains_iff_mem]
    exact List.mem_map.2 ⟨(i, r), hi, rfl⟩
  rw [h] at this
  cases this

/-- What the bringing into a form tells. -/
theorem norm_ents {s : State} : ∀ {f : Form} {u : List (Nat × Nat)} {d : f.den} {s0 : State}, norm s f u = some d → (f.map (·.1)).Nodup → (∀ x ∈ u, x.1 ∉ f.map (·.1)) → (u.Pairwise fun x y => x.2 ≠ y.2 ∧ x.1 ≠ y.1) →
    ∃ U, (∀ x ∈ u, x ∈ U) ∧ (U.Pairwise fun x y => x.2 ≠ y.2 ∧ x.1 ≠ y.1) ∧ (∀ x ∈ U, x ∈ u ∨ ∃ y, (x.1, y) ∈ f ∧ y.rooted = true ∧ ∃ p ver, s (sl x.1) = .al x.2 p ver ∨ s (sl x.1) = .ptr x.2 p ver) ∧ ∀ i x, (i, x) ∈ f → Ent s (s0.put (build f d)) U i x := by
  intro f
  induction f with
  | nil => intro u d s0 _ _ _ hp; exact ⟨u, fun _ h => h, hp, fun x h => .inl h, fun i x h => by simp at h⟩
  | cons z f ih =>
    intro u d s0 h hn hu hp
    obtain ⟨i, x⟩ := z
    simp only [List.map_cons, List.nodup_cons] at hn
    -- an entry without a root
    have plain : ∀ (W : Writes) (d' : Form.den f), norm s f u = some d' → build ((i, x) :: f) d = W ++ build f d' → (∀ (U : List (Nat × Nat)) (s1 : State), (∀ y ∈ u, y ∈ U) → Ent s (s1.put W) U i x) →
        ∃ U, (∀ x ∈ u, x ∈ U) ∧ (U.Pairwise fun x y => x.2 ≠ y.2 ∧ x.1 ≠ y.1) ∧ (∀ z ∈ U, z ∈ u ∨ ∃ y, (z.1, y) ∈ (i, x) :: f ∧ y.rooted = true ∧ ∃ p ver, s (sl z.1) = .al z.2 p ver ∨ s (sl z.1) = .ptr z.2 p ver) ∧ ∀ j y, (j, y) ∈ (i, x) :: f → Ent s (s0.put (build ((i, x) :: f) d)) U j y := by
      intro W d' h1 h2 h3
      obtain ⟨U, a1, a2, a3, a4⟩ := ih (s0 := s0.put W) h1 hn.2 (fun y hy => by have := hu y hy; simp at this; simp; exact this.2) hp
      refine ⟨U, a1, a2, fun z hz => (a3 z hz).imp _root_.id fun ⟨y, h1, h2⟩ => ⟨y, by simp [h1], h2⟩, fun j y hy => ?_⟩
      rw [h2, State.put_append]
      rcases List.mem_cons.1 hy with hy | hy
      · simp only [Prod.mk.injEq] at hy
        obtain ⟨rfl, rfl⟩ := hy
        have ho := (build_out (d := d') (s0 := s0.put W)).1 j hn.1
        exact (h3 U s0 a1).mono ho.1 ho.2 fun _ h => h
      · exact a4 j y hy
    have rooted : ∀ (W : Writes) (d' : Form.den f) (r : Nat), x.rooted = true → (∃ p ver, s (sl i) = .al r p ver ∨ s (sl i) = .ptr r p ver) → (∀ j, (j, r) ∉ u) → norm s f ((i, r) :: u) = some d' → build ((i, x) :: f) d = W ++ build f d' → (∀ (U : List (Nat × Nat)) (s1 : State), (i, r) ∈ U → Ent s (s1.put W) U i x) →
        ∃ U, (∀ x ∈ u, x ∈ U) ∧ (U.Pairwise fun x y => x.2 ≠ y.2 ∧ x.1 ≠ y.1) ∧ (∀ z ∈ U, z ∈ u ∨ ∃ y, (z.1, y) ∈ (i, x) :: f ∧ y.rooted = true ∧ ∃ p ver, s (sl z.1) = .al z.2 p ver ∨ s (sl z.1) = .ptr z.2 p ver) ∧ ∀ j y, (j, y) ∈ (i, x) :: f → Ent s (s0.put (build ((i, x) :: f) d)) U j y := by
      intro W d' r hxr hsr hr h1 h2 h3
      obtain ⟨U, a1, a2, a3, a4⟩ := ih (u := (i, r) :: u) (s0 := s0.put W) h1 hn.2
        (fun y hy => by
          rcases List.mem_cons.1 hy with rfl | hy
          · exact hn.1
          · have := hu y hy; simp at this; simp; exact this.2)
        (by
          rw [List.pairwise_cons]
          refine ⟨fun y hy => ⟨fun e => hr y.1 (by have e : r = y.2 := e; rw [e]; exact hy), fun e => ?_⟩, hp⟩
          have := hu y hy
          rw [← e] at this
          simp at this)
      refine ⟨U, fun y hy => a1 y (by simp [hy]), a2, fun z hz => ?_, fun j y hy => ?_⟩
      · rcases a3 z hz with h | ⟨y, h1, h2⟩
        · rcases List.mem_cons.1 h with rfl | h
          · exact .inr ⟨x, by simp, hxr, hsr⟩
          · exact .inl h
        · exact .inr ⟨y, by simp [h1], h2⟩
      · rw [h2, State.put_append]
        rcases List.mem_cons.1 hy with hy | hy
        · simp only [Prod.mk.injEq] at hy
          obtain ⟨rfl, rfl⟩ := hy
          have ho := (build_out (d := d') (s0 := s0.put W)).1 j hn.1
          exact (h3 U s0 (a1 _ (by simp))).mono ho.1 ho.2 fun _ h => h
        · exact a4 j y hy
    cases x with
    | v k =>
      simp only [norm] at h
      split at h
      · rename_i k' d' hs
        split at h
        · rename_i y z h1 h2
          injection h with h
          subst h
          have := cast?_eq h1
          injection this with e1 e2
          subst e1
          have e2 := eq_of_heq e2
          subst e2
          exact plain [(sl i, .val k' d')] z h2 rfl fun U s1 _ => .val hs (by simp only [State.put]; exact State.set_same _ _ _)
        · cases h
      · rename_i k' d' hs
        split at h
        · rename_i y z h1 h2
          injection h with h
          subst h
          have := cast?_eq h1
          injection this with e1 e2
          subst e1
          have e2 := eq_of_heq e2
          subst e2
          exact plain [(sl i, .val k' d')] z h2 rfl fun U s1 _ => .cst hs (by simp only [State.put]; exact State.set_same _ _ _)
        · cases h
      · rename_i r p ver hs
        split at h
        · rename_i k' d' box frz ver' hs'
          rcases bif_some h with ⟨hv, h1⟩ | ⟨_, h1⟩
          · split at h1
            · rename_i v hg
              split at h1
              · rename_i y z h2 h3
                injection h1 with h1
                subst h1
                have := cast?_eq h2
                subst this
                exact plain [(sl i, .val k y)] z h3 rfl fun U s1 _ => .al hs hs' hv hg (by simp only [State.put]; exact State.set_same _ _ _)
              · cases h1
            · cases h1
          · cases h1
        · cases h
      · cases h
    | own k dep =>
      simp only [norm] at h
      split at h
      · rename_i r p ver hs
        split at h
        · rename_i k' d' dep' box frz ver' hs'
          rcases bif_some h with ⟨hv, h1⟩ | ⟨_, h1⟩
          · simp only [Bool.and_eq_true, List.isEmpty_iff, Bool.not_eq_true', decide_eq_true_eq] at hv
            obtain ⟨⟨⟨rfl, rfl⟩, hd⟩, hc⟩ := hv
            split at h1
            · rename_i y z h2 h3
              injection h1 with h1
              subst h1
              have := cast?_eq h2
              injection this with e1 e2
              subst e1
              have e2 := eq_of_heq e2
              subst e2
              exact rooted [(rt i, .root k' d' dep false false 0), (sl i, .al i [] 0)] z r rfl ⟨_, _, .inl hs⟩ (contains_mem hc) h3 rfl fun U s1 hU => .own hs hs' hd hU (by simp only [State.put]; exact State.set_same _ _ _) (by simp only [State.put]; rw [State.set_other _ _ (sl_rt i i).symm, State.set_same])
            · cases h1
          · cases h1
        · cases h
      · rename_i k' d' hs
        split at h
        · rename_i y z h1 h2
          injection h with h
          subst h
          have := cast?_eq h1
          injection this with e1 e2
          subst e1
          have e2 := eq_of_heq e2
          subst e2
          exact plain [(rt i, .root k' d' dep false false 0), (sl i, .al i [] 0)] z h2 rfl fun U s1 _ => .ownc hs (by simp only [State.put]; exact State.set_same _ _ _) (by simp only [State.put]; rw [State.set_other _ _ (sl_rt i i).symm, State.set_same])
        · cases h
      · cases h
    | box k dep =>
      simp only [norm] at h
      split at h
      · rename_i r p ver hs
        split at h
        · rename_i k' d' dep' ver' hs'
          rcases bif_some h with ⟨hv, h1⟩ | ⟨_, h1⟩
          · simp only [Bool.and_eq_true, List.isEmpty_iff, Bool.not_eq_true', decide_eq_true_eq] at hv
            obtain ⟨⟨rfl, hd⟩, hc⟩ := hv
            split at h1
            · rename_i y z h2 h3
              injection h1 with h1
              subst h1
              have := cast?_eq h2
              injection this with e1 e2
              subst e1
              have e2 := eq_of_heq e2
              subst e2
              exact rooted [(rt i, .root k' d' dep true false 0), (sl i, .ptr i [] 0)] z r rfl ⟨_, _, .inr hs⟩ (contains_mem hc) h3 rfl fun U s1 hU => .box hs hs' hd hU (by simp only [State.put]; exact State.set_same _ _ _) (by simp only [State.put]; rw [State.set_other _ _ (sl_rt i i).symm, State.set_same])
            · cases h1
          · cases h1
        · cases h
      · cases h
    | sp k =>
      simp only [norm] at h
      split at h
      · rename_i k' d' hs
        split at h
        · rename_i y z h1 h2
          injection h with h
          subst h
          have := cast?_eq h1
          injection this with e1 e2
          subst e1
          have e2 := eq_of_heq e2
          subst e2
          exact plain [(sl i, .sptr k' d')] z h2 rfl fun U s1 _ => .sp hs (by simp only [State.put]; exact State.set_same _ _ _)
        · cases h
      · cases h
    | same j p =>
      simp only [norm] at h
      split at h
      · rename_i r q ver hs
        split at h
        · rename_i k' d' dep' box frz ver' hs'
          rcases bif_some h with ⟨hv, h1⟩ | ⟨_, h1⟩
          · simp only [Bool.and_eq_true, decide_eq_true_eq] at hv
            obtain ⟨⟨hc, rfl⟩, hver⟩ := hv
            have hc : (j, r) ∈ u := by rwa [List.contains_iff_mem] at hc
            split at h1
            · rename_i z h3
              injection h1 with h1
              subst h1
              exact plain [(sl i, .al j p 0)] z h3 rfl fun U s1 hU => .same hs hs' hver (hU _ hc) (by simp only [State.put]; exact State.set_same _ _ _)
            · cases h1
          · cases h1
        · cases h
      · cases h

/-- The owners behind. -/
noncomputable def normφ (φ : Nat → Option (Bool × Nat × Path)) (U : List (Nat × Nat)) (s' : State) : Nat → Option (Bool × Nat × Path) := fun b =>
  open Classical in
  match φ b with
  | none => none
  | some x => if x = far then some far else
    match U.find? (fun y => Nat.beq y.2 x.2.1) with
    | none => none
    | some y => if x.1 = true then some (true, y.1, x.2.2) else
      match s' (rt y.1) with
      | .root _ _ dep _ _ _ => if lev x.2.2 < dep then some (false, y.1, x.2.2) else none
      | _ => none

theorem find_snd : ∀ {U : List (Nat × Nat)}, (U.Pairwise fun x y => x.2 ≠ y.2 ∧ x.1 ≠ y.1) → ∀ x ∈ U, U.find? (fun y => Nat.beq y.2 x.2) = some x := by
  intro U
  induction U with
  | nil => intro _ x h; simp at h
  | cons y U ih =>
    intro hp x hx
    rw [List.pairwise_cons] at hp
    rcases List.mem_cons.1 hx with rfl | hx
    · simp
    · have : Nat.beq y.2 x.2 = false := by
        cases hb : Nat.beq y.2 x.2 with
        | false => rfl
        | true => exact absurd (Nat.eq_of_beq_eq_true hb) (hp.1 x hx).1
      rw [List.find?_cons, this]
      exact ih hp.2 x hx

section
variable {P : Program} {Γ : Ctx} {Kp : Keep} {B0 : World} {n : Nat} {G : Gh} {s : State} {a : Act} {w w' : World} {id : Nat} {o : Oper} {Q : Exit → Act → World → Prop} {ws : Writes}

theorem normφ_none {φ : Nat → Option (Bool × Nat × Path)} {U : List (Nat × Nat)} {s' : State} {b : Nat} (h : φ b = none) : normφ φ U s' b = none := by unfold normφ; rw [h]
theorem normφ_own {φ : Nat → Option (Bool × Nat × Path)} {U : List (Nat × Nat)} (hp : U.Pairwise fun x y => x.2 ≠ y.2 ∧ x.1 ≠ y.1) {s' : State} {b i r : Nat} {q : Path} {k : Kd} {d : k.den} {dep : Nat} {box frz : Bool} {ver : Nat} (hU : (i, r) ∈ U) (h : φ b = some (false, r, q)) (hs : s' (rt i) = .root k d dep box frz ver) :
    normφ φ U s' b = if lev q < dep then some (false, i, q) else none := by
  have hf : ((false, r, q) : Bool × Nat × Path) ≠ far := by simp [far]
  have hfd := find_snd hp _ hU
  simp only at hfd
  unfold normφ
  rw [h]
  simp only [hf, if_false, hfd, Bool.false_eq_true, hs]
theorem normφ_box {φ : Nat → Option (Bool × Nat × Path)} {U : List (Nat × Nat)} (hp : U.Pairwise fun x y => x.2 ≠ y.2 ∧ x.1 ≠ y.1) {s' : State} {b i r : Nat} (hU : (i, r) ∈ U) (h : φ b = some (true, r, [])) : normφ φ U s' b = some (true, i, []) := by
  have hf : ((true, r, []) : Bool × Nat × Path) ≠ far := by simp [far]
  have hfd := find_snd hp _ hU
  simp only at hfd
  unfold normφ
  rw [h]
  simp only [hf, if_false, hfd, if_true]

theorem norm_ok {f : Form} {d : f.den} (hn : (f.map (·.1)).Nodup) (h : norm s f [] = some d) (hi : Inv Kp B0 n s a w) : Inv Kp B0 n (f.state d) a w := by
  obtain ⟨G, g⟩ := hi.ghost
  obtain ⟨U, _, hp, hUf, hE⟩ := norm_ents (s0 := State.empty) h hn (by simp) List.Pairwise.nil
  have hUf : ∀ x ∈ U, ∃ y, (x.1, y) ∈ f ∧ y.rooted = true ∧ ∃ p ver, s (sl x.1) = .al x.2 p ver ∨ s (sl x.1) = .ptr x.2 p ver := fun x hx => (hUf x hx).resolve_left (by simp)
  refine ⟨hi.defers, hi.size, hi.base, ?_⟩
  let s' := f.state d
  have hs' : ∀ i x, (i, x) ∈ f → Ent s s' U i x := hE
  have hout := build_out (f := f) (d := d) (s0 := State.empty)
  let C' : Nat → List Value := fun i => match s (sl i) with
    | .al r _ _ => G.C r
    | .ptr r _ _ => G.C r
    | _ => (a.tmps.getD i undef).cells.toList
  let β' : Nat → Nat := fun i => match s (sl i) with
    | .ptr r _ _ => G.β r
    | _ => 0
  -- a root is one entry's
  have huniq : ∀ i x y, (i, x) ∈ f → (i, y) ∈ f → x = y := by
    intro i x y hx hy
    have key : ∀ (f : Form), (f.map (·.1)).Nodup → (i, x) ∈ f → (i, y) ∈ f → x = y := by
      intro f
      induction f with
      | nil => intro _ h; simp at h
      | cons z f ih =>
        intro hn hx hy
        simp only [List.map_cons, List.nodup_cons] at hn
        rcases List.mem_cons.1 hx with hx | hx <;> rcases List.mem_cons.1 hy with hy | hy
        · rw [← hx] at hy; injection hy with _ hy; exact hy.symm
        · exfalso; apply hn.1; rw [← hx]; exact List.mem_map.2 ⟨(i, y), hy, rfl⟩
        · exfalso; apply hn.1; rw [← hy]; exact List.mem_map.2 ⟨(i, x), hx, rfl⟩
        · exact ih hn.2 hx hy
    exact key f hn hx hy
  -- what stands at a slot whose root is carried on
  have hUroot : ∀ i r, (i, r) ∈ U → ∃ k d dep box frz ver dep', s (rt r) = .root k d dep' box frz ver ∧ dep ≤ dep' ∧ s' (rt i) = .root k d dep box false 0 ∧ C' i = G.C r ∧ (box = true → β' i = G.β r ∧ frz = false) := by
    intro i r hU
    obtain ⟨y, hy, hyr, p, ver, hsl⟩ := hUf _ hU
    have hone : ∀ r', (i, r') ∈ U → r' = r := by
      intro r' h'
      have key : ∀ (U : List (Nat × Nat)), (U.Pairwise fun x y => x.2 ≠ y.2 ∧ x.1 ≠ y.1) → (i, r) ∈ U → (i, r') ∈ U → r' = r := by
        intro U
        induction U with
        | nil => intro _ h; simp at h
        | cons z U ih =>
          intro hp h1 h2
          rw [List.pairwise_cons] at hp
          rcases List.mem_cons.1 h1 with h1 | h1 <;> rcases List.mem_cons.1 h2 with h2 | h2
          · rw [← h1] at h2; injection h2
          · exact absurd (by rw [← h1]) (hp.1 _ h2).2
          · exact absurd (by rw [← h2]) (hp.1 _ h1).2
          · exact ih hp.2 h1 h2
      exact key U hp hU h'
    cases hs' i y hy with
    | val => simp [Slot.rooted] at hyr
    | cst => simp [Slot.rooted] at hyr
    | al => simp [Slot.rooted] at hyr
    | sp => simp [Slot.rooted] at hyr
    | same => simp [Slot.rooted] at hyr
    | ownc a1 a2 a3 => rw [a1] at hsl; rcases hsl with h | h <;> cases h
    | own a1 a2 a3 a4 a5 a6 =>
      have := hone _ a4
      subst this
      exact ⟨_, _, _, _, _, _, _, a2, a3, a6, by simp only [C', a1], fun h => by cases h⟩
    | box a1 a2 a3 a4 a5 a6 =>
      have := hone _ a4
      subst this
      exact ⟨_, _, _, _, _, _, _, a2, a3, a6, by simp only [C', a1], fun _ => ⟨by simp only [β', a1], rfl⟩⟩
  let φ' := normφ G.φ U s'
  have hcell : ∀ i r k d dep frz ver dep', (i, r) ∈ U → s (rt r) = .root k d dep' false frz ver → dep ≤ dep' → s' (rt i) = .root k d dep false false 0 → Rep w (ownS φ' i dep) k [] (G.C r) d := by
    intro i r k d dep frz ver dep' hU h1 h2 h3
    have hro := g.roots r
    rw [h1] at hro
    refine hro.1.frame fun q b _ hb _ => ⟨rfl, ?_⟩
    rcases ownS_lev hb with ⟨hl, hb⟩ | ⟨hl, hb⟩
    · have := normφ_own hp hU hb h3
      by_cases hlt : lev q < dep
      · simp only [ownS, hlt, if_true]; rw [if_pos hlt] at this; exact this
      · simp only [ownS, hlt, if_false]; rw [if_neg hlt] at this; exact this
    · have hlt : ¬ lev q < dep := by omega
      simp only [ownS, hlt, if_false]
      exact normφ_none hb
  have hcellb : ∀ i r k d dep ver dep', (i, r) ∈ U → s (rt r) = .root k d dep' true false ver → dep ≤ dep' → s' (rt i) = .root k d dep true false 0 → RootOk ⟨φ', C', β'⟩ w i (.root k d dep true false 0) := by
    intro i r k d dep ver dep' hU h1 h2 h3
    obtain ⟨_, _, _, _, _, _, _, e1, e2, e3, e4, e5⟩ := hUroot i r hU
    rw [h1] at e1
    simp only [Cell.root.injEq] at e1
    obtain ⟨rfl, _, _, rfl, _, _⟩ := e1
    have hro := g.roots r
    rw [h1] at hro
    refine ⟨?_, fun _ => ?_⟩
    · simp only
      rw [e4]
      refine hro.1.frame fun q b _ hb _ => ⟨rfl, ?_⟩
      rcases ownS_lev hb with ⟨hl, hb⟩ | ⟨hl, hb⟩
      · have := normφ_own hp hU hb h3
        by_cases hlt : lev q < dep
        · simp only [ownS, hlt, if_true]; rw [if_pos hlt] at this; exact this
        · simp only [ownS, hlt, if_false]; rw [if_neg hlt] at this; exact this
      · have hlt : ¬ lev q < dep := by omega
        simp only [ownS, hlt, if_false]
        exact normφ_none hb
    · obtain ⟨f1, f2⟩ := hro.2 rfl
      simp only [Bool.false_eq_true, if_false] at f2 ⊢
      rw [(e5 rfl).1, e4]
      exact ⟨f1, normφ_box hp hU f2⟩
  refine ⟨⟨φ', C', β'⟩, fun t => ?_, fun t => ?_, ?_⟩
  · show CellOk ⟨φ', C', β'⟩ w s' (a.tmps.getD t undef) (s' (sl t))
    by_cases ht : t ∈ f.map (·.1)
    · obtain ⟨⟨t', x⟩, hx, rfl⟩ := List.mem_map.1 ht
      simp only
      have hv := g.slots t'
      cases hs' t' x hx with
      | val a1 a2 =>
        rw [a2]
        rw [a1] at hv
        obtain ⟨c, c1, c2⟩ := hv
        exact ⟨c, c1, c2.frame fun q b _ hb _ => ⟨rfl, normφ_none hb⟩⟩
      | cst a1 a2 =>
        rw [a2]
        rw [a1] at hv
        obtain ⟨c, c1, c2⟩ := hv
        exact ⟨c, c1, c2.frame fun q b _ hb _ => hb.elim⟩
      | al a1 a2 a3 a4 a5 =>
        rename_i r p ver k k' d d' box frz ver'
        rw [a5]
        rw [a1] at hv
        simp only [CellOk] at hv
        rw [a2] at hv
        obtain ⟨z, e1, e2, e3⟩ := hv.2 (verOk a3)
        rw [a4] at e1
        have e1 := Option.some.inj e1
        subst e1
        have hro := g.roots r
        rw [a2] at hro
        have hrep := getP_rep hro.1 e2 a4
        exact ⟨_, e3, hrep.move fun q b hb _ => normφ_none (by simpa [ownS] using hb)⟩
      | own a1 a2 a3 a4 a5 a6 =>
        rename_i r ver k d dep dep' frz ver'
        rw [a5]
        rw [a1] at hv
        simp only [CellOk] at hv ⊢
        rw [a2] at hv
        rw [a6]
        obtain ⟨z, e1, e2, e3⟩ := hv.2 (.inr (by simp [noIdx]))
        simp only [getP, Option.some.injEq] at e1
        subst e1
        refine ⟨Nat.le_refl _, fun _ => ⟨_, rfl, trivial, ?_⟩⟩
        have : C' t' = G.C r := by simp only [C', a1]
        simp only [subC] at e3 ⊢
        rw [this]
        exact e3
      | ownc a1 a2 a3 =>
        rename_i k d dep
        rw [a2]
        rw [a1] at hv
        simp only [CellOk]
        rw [a3]
        obtain ⟨c, c1, c2⟩ := hv
        refine ⟨Nat.le_refl _, fun _ => ⟨_, rfl, trivial, ?_⟩⟩
        have : C' t' = c := by simp only [C', a1]; rw [c1]; exact mkVal_cells c2
        simp only [subC]
        rw [this]
        exact c1
      | box a1 a2 a3 a4 a5 a6 =>
        rename_i r ver k d dep dep' ver'
        rw [a5]
        rw [a1] at hv
        simp only [CellOk] at hv ⊢
        rw [a2] at hv
        rw [a6]
        obtain ⟨z, e1, e2, B, O, e3, e4⟩ := hv.2 (.inr (by simp [noIdx]))
        simp only [subA, home, cond_true, Option.some.injEq, Prod.mk.injEq] at e3
        obtain ⟨rfl, rfl⟩ := e3
        have : β' t' = G.β r := by simp only [β', a1]
        exact ⟨Nat.le_refl _, fun _ => ⟨_, rfl, trivial, _, _, by simp only [subA, home, cond_true]; rw [this], e4⟩⟩
      | sp a1 a2 =>
        rw [a2]
        rw [a1] at hv
        obtain ⟨B, O, e1, e2, e3, e4⟩ := hv
        exact ⟨B, O, e1, normφ_none e2, e3, e4.frame fun q b _ hb _ => ⟨rfl, normφ_none hb⟩⟩
      | same a1 a2 a3 a4 a5 =>
        rename_i j r p ver k d dep box frz ver'
        rw [a5]
        rw [a1] at hv
        simp only [CellOk] at hv ⊢
        rw [a2] at hv
        obtain ⟨k2, d2, dep2, box2, frz2, ver2, dep3, f1, f2, f3, f4, f5⟩ := hUroot j r a4
        rw [a2] at f1
        simp only [Cell.root.injEq] at f1
        obtain ⟨rfl, f1, rfl, rfl, rfl, rfl⟩ := f1
        have f1 := eq_of_heq f1
        subst f1
        rw [f3]
        obtain ⟨z, e1, e2, e3⟩ := hv.2 (verOk a3)
        refine ⟨Nat.le_refl _, fun _ => ⟨z, e1, e2, ?_⟩⟩
        rw [f4]
        exact e3
    · have e : s' (sl t) = .none := (hout.1 t ht).1
      rw [e]
      trivial
  · show RootOk ⟨φ', C', β'⟩ w t (s' (rt t))
    by_cases ht : ∃ x, (t, x) ∈ f ∧ x.rooted = true
    · obtain ⟨x, hx, hxr⟩ := ht
      cases hs' t x hx with
      | val => simp [Slot.rooted] at hxr
      | cst => simp [Slot.rooted] at hxr
      | al => simp [Slot.rooted] at hxr
      | sp => simp [Slot.rooted] at hxr
      | same => simp [Slot.rooted] at hxr
      | own a1 a2 a3 a4 a5 a6 =>
        rename_i r ver k d dep dep' frz ver'
        rw [a6]
        refine ⟨?_, fun h => by cases h⟩
        have : C' t = G.C r := by simp only [C', a1]
        simp only
        rw [this]
        exact hcell t r k d dep frz ver' dep' a4 a2 a3 a6
      | ownc a1 a2 a3 =>
        rename_i k d dep
        rw [a3]
        have hv := g.slots t
        rw [a1] at hv
        obtain ⟨c, c1, c2⟩ := hv
        refine ⟨?_, fun h => by cases h⟩
        have : C' t = c := by simp only [C', a1]; rw [c1]; exact mkVal_cells c2
        simp only
        rw [this]
        exact c2.frame fun q b _ hb _ => hb.elim
      | box a1 a2 a3 a4 a5 a6 =>
        rw [a6]
        exact hcellb _ _ _ _ _ _ _ a4 a2 a3 a6
    · have e : s' (rt t) = .none := hout.2 t fun x hx => by
        cases hb : x.rooted with
        | false => rfl
        | true => exact absurd ⟨x, hx, hb⟩ ht
      rw [e]
      trivial
  · have key : ∀ b x, φ' b = some x → ∃ y, G.φ b = some y ∧ (y = far → x = far) := by
      intro b x hx
      cases hb : G.φ b with
      | none => simp only [φ', normφ_none hb] at hx; cases hx
      | some y =>
        refine ⟨y, rfl, fun e => ?_⟩
        subst e
        simp only [φ', normφ, hb, if_true, Option.some.injEq] at hx
        exact hx.symm
    refine ⟨fun b x hx => ?_, fun b x hx => ?_, fun b hx => ?_⟩
    · obtain ⟨y, hy, hf⟩ := key b x hx
      rcases g.col.col b y hy with e | e
      · exact .inl (hf e)
      · exact .inr e
    · obtain ⟨y, hy, _⟩ := key b x hx
      exact g.col.lt b y hy
    · have hb := g.col.out b hx
      simp only [φ', normφ, hb, if_true]

theorem normP_ok {A : Nat → Option Value} {f : Form} {d : f.den} (hn : (f.map (·.1)).Nodup) (h : norm s f [] = some d) (hi : InvP Kp B0 n A s a w) : InvP Kp B0 n A (f.state d) a w := ⟨norm_ok hn h hi.inv, hi.pin⟩
end
end Go.V
