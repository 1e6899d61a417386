/- What the law FnExactTimedTimes leans on, part 3: an interpreter of the model as plain data, its soundness, the functions as it tells them, and their laws. -/
import Derived.LoopN
import Derived.ChangeOld
import Derived.Below
import Derived.Carry
import Derived.OpenShut
import Derived.SizedLaws
import Derived.Shelf.Vars
import Derived.IntWalk
import Derived.Lib.IndexAny
import Derived.Test.YtmcbhnnjcikfdaaVB
set_option linter.unusedVariables false
set_option linter.unusedSimpArgs false
set_option maxRecDepth 100000
set_option linter.unusedVariables false
set_option linter.unusedSimpArgs false
namespace Go.V
/-- What an entry of a form says of the state before and of the state behind. U: which root stands for which slot. -/
inductive Ent (s s' : State) (U : List (Nat × Nat)) : Nat → Slot → Prop
  | val {i : Nat} {k : Kd} {d : k.den} : s (sl i) = .val k d → s' (sl i) = .val k d → Ent s s' U i (.v k)
  | cst {i : Nat} {k : Kd} {d : k.den} : s (sl i) = .cst k d → s' (sl i) = .val k d → Ent s s' U i (.v k)
  | al {i r : Nat} {p : Path} {ver : Nat} {k k' : Kd} {d : k.den} {d' : k'.den} {box frz : Bool} {ver' : Nat} : s (sl i) = .al r p ver → s (rt r) = .root k' d' 0 box frz ver' → (Nat.beq ver ver' || (!box && p.isEmpty)) = true →
      getP p k' d' = some ⟨k, d⟩ → s' (sl i) = .val k d → Ent s s' U i (.v k)
  | own {i r : Nat} {ver : Nat} {k : Kd} {d : k.den} {dep dep' : Nat} {frz : Bool} {ver' : Nat} : s (sl i) = .al r [] ver → s (rt r) = .root k d dep' false frz ver' → dep ≤ dep' → (i, r) ∈ U → s' (sl i) = .al i [] 0 → s' (rt i) = .root k d dep false false 0 → Ent s s' U i (.own k dep)
  | ownc {i : Nat} {k : Kd} {d : k.den} {dep : Nat} : s (sl i) = .cst k d → s' (sl i) = .al i [] 0 → s' (rt i) = .root k d dep false false 0 → Ent s s' U i (.own k dep)
  | box {i r : Nat} {ver : Nat} {k : Kd} {d : k.den} {dep dep' : Nat} {ver' : Nat} : s (sl i) = .ptr r [] ver → s (rt r) = .root k d dep' true false ver' → dep ≤ dep' → (i, r) ∈ U → s' (sl i) = .ptr i [] 0 → s' (rt i) = .root k d dep true false 0 → Ent s s' U i (.box k dep)
  | sp {i : Nat} {k : Kd} {d : k.den} : s (sl i) = .sptr k d → s' (sl i) = .sptr k d → Ent s s' U i (.sp k)
  | spf {i r : Nat} {ver : Nat} {k : Kd} {d : k.den} {dep ver' : Nat} : s (sl i) = .ptr r [] ver → s (rt r) = .root k d dep true true ver' → (k.flat = true ∨ dep = 0) → s' (sl i) = .sptr k d → Ent s s' U i (.sp k)
  | same {i j r : Nat} {p : Path} {ver : Nat} {k : Kd} {d : k.den} {dep : Nat} {box frz : Bool} {ver' : Nat} : s (sl i) = .al r p ver → s (rt r) = .root k d dep box frz ver' → (Nat.beq ver ver' || (!box && p.isEmpty)) = true → (j, r) ∈ U → s' (sl i) = .al j p 0 → Ent s s' U i (.same j p)
def Slot.rooted : Slot → Bool
  | .own .. | .box .. => true
  | _ => false
theorem Ent.mono {s s' s'' : State} {U U' : List (Nat × Nat)} {i : Nat} {x : Slot} (h : Ent s s' U i x) (h1 : s'' (sl i) = s' (sl i)) (h2 : s'' (rt i) = s' (rt i)) (hU : ∀ y ∈ U, y ∈ U') : Ent s s'' U' i x := by
  cases h with
  | val a b => exact .val a (h1.trans b)
  | cst a b => exact .cst a (h1.trans b)
  | al a b c d e => exact .al a b c d (h1.trans e)
  | own a b c d e f => exact .own a b c (hU _ d) (h1.trans e) (h2.trans f)
  | ownc a b c => exact .ownc a (h1.trans b) (h2.trans c)
  | box a b c d e f => exact .box a b c (hU _ d) (h1.trans e) (h2.trans f)
  | sp a b => exact .sp a (h1.trans b)
  | spf a b c e => exact .spf a b c (h1.trans e)
  | same a b c d e => exact .same a b c (hU _ d) (h1.trans e)
theorem build_out : ∀ {f : Form} {d : f.den} {s0 : State}, (∀ t, t ∉ f.map (·.1) → (s0.put (build f d)) (sl t) = s0 (sl t) ∧ (s0.put (build f d)) (rt t) = s0 (rt t)) ∧
    (∀ t, (∀ x, (t, x) ∈ f → x.rooted = false) → (s0.put (build f d)) (rt t) = s0 (rt t)) := by
  intro f
  induction f with
  | nil => intro d s0; exact ⟨fun _ _ => ⟨rfl, rfl⟩, fun _ _ => rfl⟩
  | cons x f ih =>
    intro d s0
    obtain ⟨i, x⟩ := x
    have one : ∀ (W : Writes), (∀ y ∈ W, y.1 = sl i ∨ (y.1 = rt i ∧ x.rooted = true)) → ∀ (d' : Form.den f), build ((i, x) :: f) d = W ++ build f d' →
        (∀ t, t ∉ ((i, x) :: f).map (·.1) → (s0.put (build ((i, x) :: f) d)) (sl t) = s0 (sl t) ∧ (s0.put (build ((i, x) :: f) d)) (rt t) = s0 (rt t)) ∧
        (∀ t, (∀ y, (t, y) ∈ (i, x) :: f → y.rooted = false) → (s0.put (build ((i, x) :: f) d)) (rt t) = s0 (rt t)) := by
      intro W hW d' hb
      rw [hb]
      refine ⟨fun t ht => ?_, fun t ht => ?_⟩
      · simp only [List.map_cons, List.mem_cons, not_or] at ht
        rw [State.put_append]
        obtain ⟨h1, h2⟩ := (ih (d := d') (s0 := s0.put W)).1 t ht.2
        rw [h1, h2]
        refine ⟨put_notin fun c hc => ?_, put_notin fun c hc => ?_⟩
        · rcases hW _ hc with h | ⟨h, _⟩
          · exact ht.1 (sl_inj h)
          · exact sl_rt t i h
        · rcases hW _ hc with h | ⟨h, _⟩
          · exact sl_rt i t h.symm
          · exact ht.1 (rt_inj h)
      · rw [State.put_append, (ih (d := d') (s0 := s0.put W)).2 t fun y hy => ht y (by simp [hy])]
        refine put_notin fun c hc => ?_
        rcases hW _ hc with h | ⟨h, hx⟩
        · exact sl_rt i t h.symm
        · have := ht x (by simp [rt_inj h])
          rw [hx] at this
          cases this
    cases x with
    | v k => exact one [(sl i, .val k d.1)] (by simp) d.2 rfl
    | own k dep => exact one [(rt i, .root k d.1 dep false false 0), (sl i, .al i [] 0)] (by simp [Slot.rooted]) d.2 rfl
    | box k dep => exact one [(rt i, .root k d.1 dep true false 0), (sl i, .ptr i [] 0)] (by simp [Slot.rooted]) d.2 rfl
    | sp k => exact one [(sl i, .sptr k d.1)] (by simp) d.2 rfl
    | same j p => exact one [(sl i, .al j p 0)] (by simp) d.2 rfl
theorem contains_mem {u : List (Nat × Nat)} {r : Nat} (h : (u.map (·.2)).contains r = false) : ∀ i, (i, r) ∉ u := by
  intro i hi
  have : (u.map (·.2)).contains r = true := by
    rw [List.contains_iff_mem]
    exact List.mem_map.2 ⟨(i, r), hi, rfl⟩
  rw [h] at this
  cases this
/-- What the bringing into a form tells. -/
theorem norm_ents {s : State} : ∀ {f : Form} {u : List (Nat × Nat)} {d : f.den} {s0 : State}, norm s f u = some d → (f.map (·.1)).Nodup → (∀ x ∈ u, x.1 ∉ f.map (·.1)) → (u.Pairwise fun x y => x.2 ≠ y.2 ∧ x.1 ≠ y.1) →
    ∃ U, (∀ x ∈ u, x ∈ U) ∧ (U.Pairwise fun x y => x.2 ≠ y.2 ∧ x.1 ≠ y.1) ∧ (∀ x ∈ U, x ∈ u ∨ ∃ y, (x.1, y) ∈ f ∧ y.rooted = true ∧ ∃ p ver, s (sl x.1) = .al x.2 p ver ∨ s (sl x.1) = .ptr x.2 p ver) ∧ ∀ i x, (i, x) ∈ f → Ent s (s0.put (build f d)) U i x := by
  intro f
  induction f with
  | nil => intro u d s0 _ _ _ hp; exact ⟨u, fun _ h => h, hp, fun x h => .inl h, fun i x h => by simp at h⟩
  | cons z f ih =>
    intro u d s0 h hn hu hp
    obtain ⟨i, x⟩ := z
    simp only [List.map_cons, List.nodup_cons] at hn
    -- an entry without a root
    have plain : ∀ (W : Writes) (d' : Form.den f), norm s f u = some d' → build ((i, x) :: f) d = W ++ build f d' → (∀ (U : List (Nat × Nat)) (s1 : State), (∀ y ∈ u, y ∈ U) → Ent s (s1.put W) U i x) →
        ∃ U, (∀ x ∈ u, x ∈ U) ∧ (U.Pairwise fun x y => x.2 ≠ y.2 ∧ x.1 ≠ y.1) ∧ (∀ z ∈ U, z ∈ u ∨ ∃ y, (z.1, y) ∈ (i, x) :: f ∧ y.rooted = true ∧ ∃ p ver, s (sl z.1) = .al z.2 p ver ∨ s (sl z.1) = .ptr z.2 p ver) ∧ ∀ j y, (j, y) ∈ (i, x) :: f → Ent s (s0.put (build ((i, x) :: f) d)) U j y := by
      intro W d' h1 h2 h3
      obtain ⟨U, a1, a2, a3, a4⟩ := ih (s0 := s0.put W) h1 hn.2 (fun y hy => by have := hu y hy; simp at this; simp; exact this.2) hp
      refine ⟨U, a1, a2, fun z hz => (a3 z hz).imp _root_.id fun ⟨y, h1, h2⟩ => ⟨y, by simp [h1], h2⟩, fun j y hy => ?_⟩
      rw [h2, State.put_append]
      rcases List.mem_cons.1 hy with hy | hy
      · simp only [Prod.mk.injEq] at hy
        obtain ⟨rfl, rfl⟩ := hy
        have ho := (build_out (d := d') (s0 := s0.put W)).1 j hn.1
        exact (h3 U s0 a1).mono ho.1 ho.2 fun _ h => h
      · exact a4 j y hy
    have rooted : ∀ (W : Writes) (d' : Form.den f) (r : Nat), x.rooted = true → (∃ p ver, s (sl i) = .al r p ver ∨ s (sl i) = .ptr r p ver) → (∀ j, (j, r) ∉ u) → norm s f ((i, r) :: u) = some d' → build ((i, x) :: f) d = W ++ build f d' → (∀ (U : List (Nat × Nat)) (s1 : State), (i, r) ∈ U → Ent s (s1.put W) U i x) →
        ∃ U, (∀ x ∈ u, x ∈ U) ∧ (U.Pairwise fun x y => x.2 ≠ y.2 ∧ x.1 ≠ y.1) ∧ (∀ z ∈ U, z ∈ u ∨ ∃ y, (z.1, y) ∈ (i, x) :: f ∧ y.rooted = true ∧ ∃ p ver, s (sl z.1) = .al z.2 p ver ∨ s (sl z.1) = .ptr z.2 p ver) ∧ ∀ j y, (j, y) ∈ (i, x) :: f → Ent s (s0.put (build ((i, x) :: f) d)) U j y := by
      intro W d' r hxr hsr hr h1 h2 h3
      obtain ⟨U, a1, a2, a3, a4⟩ := ih (u := (i, r) :: u) (s0 := s0.put W) h1 hn.2
        (fun y hy => by
          rcases List.mem_cons.1 hy with rfl | hy
          · exact hn.1
          · have := hu y hy; simp at this; simp; exact this.2)
        (by
          rw [List.pairwise_cons]
          refine ⟨fun y hy => ⟨fun e => hr y.1 (by have e : r = y.2 := e; rw [e]; exact hy), fun e => ?_⟩, hp⟩
          have := hu y hy
          rw [← e] at this
          simp at this)
      refine ⟨U, fun y hy => a1 y (by simp [hy]), a2, fun z hz => ?_, fun j y hy => ?_⟩
      · rcases a3 z hz with h | ⟨y, h1, h2⟩
        · rcases List.mem_cons.1 h with rfl | h
          · exact .inr ⟨x, by simp, hxr, hsr⟩
          · exact .inl h
        · exact .inr ⟨y, by simp [h1], h2⟩
      · rw [h2, State.put_append]
        rcases List.mem_cons.1 hy with hy | hy
        · simp only [Prod.mk.injEq] at hy
          obtain ⟨rfl, rfl⟩ := hy
          have ho := (build_out (d := d') (s0 := s0.put W)).1 j hn.1
          exact (h3 U s0 (a1 _ (by simp))).mono ho.1 ho.2 fun _ h => h
        · exact a4 j y hy
    cases x with
    | v k =>
      simp only [norm] at h
      split at h
      · rename_i k' d' hs
        split at h
        · rename_i y z h1 h2
          injection h with h
          subst h
          have := cast?_eq h1
          injection this with e1 e2
          subst e1
          have e2 := eq_of_heq e2
          subst e2
          exact plain [(sl i, .val k' d')] z h2 rfl fun U s1 _ => .val hs (by simp only [State.put]; exact State.set_same _ _ _)
        · cases h
      · rename_i k' d' hs
        split at h
        · rename_i y z h1 h2
          injection h with h
          subst h
          have := cast?_eq h1
          injection this with e1 e2
          subst e1
          have e2 := eq_of_heq e2
          subst e2
          exact plain [(sl i, .val k' d')] z h2 rfl fun U s1 _ => .cst hs (by simp only [State.put]; exact State.set_same _ _ _)
        · cases h
      · rename_i r p ver hs
        split at h
        · rename_i k' d' box frz ver' hs'
          rcases bif_some h with ⟨hv, h1⟩ | ⟨_, h1⟩
          · split at h1
            · rename_i v hg
              split at h1
              · rename_i y z h2 h3
                injection h1 with h1
                subst h1
                have := cast?_eq h2
                subst this
                exact plain [(sl i, .val k y)] z h3 rfl fun U s1 _ => .al hs hs' hv hg (by simp only [State.put]; exact State.set_same _ _ _)
              · cases h1
            · cases h1
          · cases h1
        · cases h
      · cases h
    | own k dep =>
      simp only [norm] at h
      split at h
      · rename_i r p ver hs
        split at h
        · rename_i k' d' dep' box frz ver' hs'
          rcases bif_some h with ⟨hv, h1⟩ | ⟨_, h1⟩
          · simp only [Bool.and_eq_true, List.isEmpty_iff, Bool.not_eq_true', decide_eq_true_eq] at hv
            obtain ⟨⟨⟨rfl, rfl⟩, hd⟩, hc⟩ := hv
            split at h1
            · rename_i y z h2 h3
              injection h1 with h1
              subst h1
              have := cast?_eq h2
              injection this with e1 e2
              subst e1
              have e2 := eq_of_heq e2
              subst e2
              exact rooted [(rt i, .root k' d' dep false false 0), (sl i, .al i [] 0)] z r rfl ⟨_, _, .inl hs⟩ (contains_mem hc) h3 rfl fun U s1 hU => .own hs hs' hd hU (by simp only [State.put]; exact State.set_same _ _ _) (by simp only [State.put]; rw [State.set_other _ _ (sl_rt i i).symm, State.set_same])
            · cases h1
          · cases h1
        · cases h
      · rename_i k' d' hs
        split at h
        · rename_i y z h1 h2
          injection h with h
          subst h
          have := cast?_eq h1
          injection this with e1 e2
          subst e1
          have e2 := eq_of_heq e2
          subst e2
          exact plain [(rt i, .root k' d' dep false false 0), (sl i, .al i [] 0)] z h2 rfl fun U s1 _ => .ownc hs (by simp only [State.put]; exact State.set_same _ _ _) (by simp only [State.put]; rw [State.set_other _ _ (sl_rt i i).symm, State.set_same])
        · cases h
      · cases h
    | box k dep =>
      simp only [norm] at h
      split at h
      · rename_i r p ver hs
        split at h
        · rename_i k' d' dep' ver' hs'
          rcases bif_some h with ⟨hv, h1⟩ | ⟨_, h1⟩
          · simp only [Bool.and_eq_true, List.isEmpty_iff, Bool.not_eq_true', decide_eq_true_eq] at hv
            obtain ⟨⟨rfl, hd⟩, hc⟩ := hv
            split at h1
            · rename_i y z h2 h3
              injection h1 with h1
              subst h1
              have := cast?_eq h2
              injection this with e1 e2
              subst e1
              have e2 := eq_of_heq e2
              subst e2
              exact rooted [(rt i, .root k' d' dep true false 0), (sl i, .ptr i [] 0)] z r rfl ⟨_, _, .inr hs⟩ (contains_mem hc) h3 rfl fun U s1 hU => .box hs hs' hd hU (by simp only [State.put]; exact State.set_same _ _ _) (by simp only [State.put]; rw [State.set_other _ _ (sl_rt i i).symm, State.set_same])
            · cases h1
          · cases h1
        · cases h
      · cases h
    | sp k =>
      simp only [norm] at h
      split at h
      · rename_i k' d' hs
        split at h
        · rename_i y z h1 h2
          injection h with h
          subst h
          have := cast?_eq h1
          injection this with e1 e2
          subst e1
          have e2 := eq_of_heq e2
          subst e2
          exact plain [(sl i, .sptr k' d')] z h2 rfl fun U s1 _ => .sp hs (by simp only [State.put]; exact State.set_same _ _ _)
        · cases h
      · rename_i r p ver hs
        split at h
        · rename_i k' d' dep' ver' hs'
          rcases bif_some h with ⟨hv, h1⟩ | ⟨_, h1⟩
          · simp only [Bool.and_eq_true, Bool.or_eq_true, List.isEmpty_iff] at hv
            obtain ⟨rfl, hk0⟩ := hv
            split at h1
            · rename_i y z h2 h3
              injection h1 with h1
              subst h1
              have := cast?_eq h2
              injection this with e1 e2
              subst e1
              have e2 := eq_of_heq e2
              subst e2
              exact plain [(sl i, .sptr k' d')] z h3 rfl fun U s1 _ => .spf hs hs' (hk0.imp _root_.id fun h => Nat.eq_of_beq_eq_true h) (by simp only [State.put]; exact State.set_same _ _ _)
            · cases h1
          · cases h1
        · cases h
      · cases h
    | same j p =>
      simp only [norm] at h
      split at h
      · rename_i r q ver hs
        split at h
        · rename_i k' d' dep' box frz ver' hs'
          rcases bif_some h with ⟨hv, h1⟩ | ⟨_, h1⟩
          · simp only [Bool.and_eq_true, decide_eq_true_eq] at hv
            obtain ⟨⟨hc, rfl⟩, hver⟩ := hv
            have hc : (j, r) ∈ u := by rwa [List.contains_iff_mem] at hc
            split at h1
            · rename_i z h3
              injection h1 with h1
              subst h1
              exact plain [(sl i, .al j p 0)] z h3 rfl fun U s1 hU => .same hs hs' hver (hU _ hc) (by simp only [State.put]; exact State.set_same _ _ _)
            · cases h1
          · cases h1
        · cases h
      · cases h
/-- The owners behind. -/
noncomputable def normφ (φ : Nat → Option (Bool × Nat × Path)) (U : List (Nat × Nat)) (s' : State) : Nat → Option (Bool × Nat × Path) := fun b =>
  open Classical in
  match φ b with
  | none => none
  | some x => if x = far then some far else
    match U.find? (fun y => Nat.beq y.2 x.2.1) with
    | none => none
    | some y => if x.1 = true then some (true, y.1, x.2.2) else
      match s' (rt y.1) with
      | .root _ _ dep _ _ _ => if lev x.2.2 < dep then some (false, y.1, x.2.2) else none
      | _ => none
theorem find_snd : ∀ {U : List (Nat × Nat)}, (U.Pairwise fun x y => x.2 ≠ y.2 ∧ x.1 ≠ y.1) → ∀ x ∈ U, U.find? (fun y => Nat.beq y.2 x.2) = some x := by
  intro U
  induction U with
  | nil => intro _ x h; simp at h
  | cons y U ih =>
    intro hp x hx
    rw [List.pairwise_cons] at hp
    rcases List.mem_cons.1 hx with rfl | hx
    · simp
    · have : Nat.beq y.2 x.2 = false := by
        cases hb : Nat.beq y.2 x.2 with
        | false => rfl
        | true => exact absurd (Nat.eq_of_beq_eq_true hb) (hp.1 x hx).1
      rw [List.find?_cons, this]
      exact ih hp.2 x hx
section
variable {P : Program} {Γ : Ctx} {Kp : Keep} {B0 : World} {n : Nat} {G : Gh} {s : State} {a : Act} {w w' : World} {id : Nat} {o : Oper} {Q : Exit → Act → World → Prop} {ws : Writes}
theorem normφ_none {φ : Nat → Option (Bool × Nat × Path)} {U : List (Nat × Nat)} {s' : State} {b : Nat} (h : φ b = none) : normφ φ U s' b = none := by unfold normφ; rw [h]
theorem normφ_own {φ : Nat → Option (Bool × Nat × Path)} {U : List (Nat × Nat)} (hp : U.Pairwise fun x y => x.2 ≠ y.2 ∧ x.1 ≠ y.1) {s' : State} {b i r : Nat} {q : Path} {k : Kd} {d : k.den} {dep : Nat} {box frz : Bool} {ver : Nat} (hU : (i, r) ∈ U) (h : φ b = some (false, r, q)) (hs : s' (rt i) = .root k d dep box frz ver) :
    normφ φ U s' b = if lev q < dep then some (false, i, q) else none := by
  have hf : ((false, r, q) : Bool × Nat × Path) ≠ far := by simp [far]
  have hfd := find_snd hp _ hU
  simp only at hfd
  unfold normφ
  rw [h]
  simp only [hf, if_false, hfd, Bool.false_eq_true, hs]
theorem normφ_box {φ : Nat → Option (Bool × Nat × Path)} {U : List (Nat × Nat)} (hp : U.Pairwise fun x y => x.2 ≠ y.2 ∧ x.1 ≠ y.1) {s' : State} {b i r : Nat} (hU : (i, r) ∈ U) (h : φ b = some (true, r, [])) : normφ φ U s' b = some (true, i, []) := by
  have hf : ((true, r, []) : Bool × Nat × Path) ≠ far := by simp [far]
  have hfd := find_snd hp _ hU
  simp only at hfd
  unfold normφ
  rw [h]
  simp only [hf, if_false, hfd, if_true]
theorem norm_ok {f : Form} {d : f.den} (hn : (f.map (·.1)).Nodup) (h : norm s f [] = some d) (hi : Inv P Kp B0 n s a w) : Inv P Kp B0 n (f.state d) a w := by
  obtain ⟨G, g⟩ := hi.ghost
  obtain ⟨U, _, hp, hUf, hE⟩ := norm_ents (s0 := State.empty) h hn (by simp) List.Pairwise.nil
  have hUf : ∀ x ∈ U, ∃ y, (x.1, y) ∈ f ∧ y.rooted = true ∧ ∃ p ver, s (sl x.1) = .al x.2 p ver ∨ s (sl x.1) = .ptr x.2 p ver := fun x hx => (hUf x hx).resolve_left (by simp)
  refine ⟨hi.defers, hi.size, hi.base, ?_⟩
  let s' := f.state d
  have hs' : ∀ i x, (i, x) ∈ f → Ent s s' U i x := hE
  have hout := build_out (f := f) (d := d) (s0 := State.empty)
  let C' : Nat → List Value := fun i => match s (sl i) with
    | .al r _ _ => G.C r
    | .ptr r _ _ => G.C r
    | _ => (a.tmps.getD i undef).cells.toList
  let β' : Nat → Nat := fun i => match s (sl i) with
    | .ptr r _ _ => G.β r
    | _ => 0
  -- a root is one entry's
  have huniq : ∀ i x y, (i, x) ∈ f → (i, y) ∈ f → x = y := by
    intro i x y hx hy
    have key : ∀ (f : Form), (f.map (·.1)).Nodup → (i, x) ∈ f → (i, y) ∈ f → x = y := by
      intro f
      induction f with
      | nil => intro _ h; simp at h
      | cons z f ih =>
        intro hn hx hy
        simp only [List.map_cons, List.nodup_cons] at hn
        rcases List.mem_cons.1 hx with hx | hx <;> rcases List.mem_cons.1 hy with hy | hy
        · rw [← hx] at hy; injection hy with _ hy; exact hy.symm
        · exfalso; apply hn.1; rw [← hx]; exact List.mem_map.2 ⟨(i, y), hy, rfl⟩
        · exfalso; apply hn.1; rw [← hy]; exact List.mem_map.2 ⟨(i, x), hx, rfl⟩
        · exact ih hn.2 hx hy
    exact key f hn hx hy
  -- what stands at a slot whose root is carried on
  have hUroot : ∀ i r, (i, r) ∈ U → ∃ k d dep box frz ver dep', s (rt r) = .root k d dep' box frz ver ∧ dep ≤ dep' ∧ s' (rt i) = .root k d dep box false 0 ∧ C' i = G.C r ∧ (box = true → β' i = G.β r ∧ frz = false) := by
    intro i r hU
    obtain ⟨y, hy, hyr, p, ver, hsl⟩ := hUf _ hU
    have hone : ∀ r', (i, r') ∈ U → r' = r := by
      intro r' h'
      have key : ∀ (U : List (Nat × Nat)), (U.Pairwise fun x y => x.2 ≠ y.2 ∧ x.1 ≠ y.1) → (i, r) ∈ U → (i, r') ∈ U → r' = r := by
        intro U
        induction U with
        | nil => intro _ h; simp at h
        | cons z U ih =>
          intro hp h1 h2
          rw [List.pairwise_cons] at hp
          rcases List.mem_cons.1 h1 with h1 | h1 <;> rcases List.mem_cons.1 h2 with h2 | h2
          · rw [← h1] at h2; injection h2
          · exact absurd (by rw [← h1]) (hp.1 _ h2).2
          · exact absurd (by rw [← h2]) (hp.1 _ h1).2
          · exact ih hp.2 h1 h2
      exact key U hp hU h'
    cases hs' i y hy with
    | val => simp [Slot.rooted] at hyr
    | cst => simp [Slot.rooted] at hyr
    | al => simp [Slot.rooted] at hyr
    | sp => simp [Slot.rooted] at hyr
    | spf => simp [Slot.rooted] at hyr
    | same => simp [Slot.rooted] at hyr
    | ownc a1 a2 a3 => rw [a1] at hsl; rcases hsl with h | h <;> cases h
    | own a1 a2 a3 a4 a5 a6 =>
      have := hone _ a4
      subst this
      exact ⟨_, _, _, _, _, _, _, a2, a3, a6, by simp only [C', a1], fun h => by cases h⟩
    | box a1 a2 a3 a4 a5 a6 =>
      have := hone _ a4
      subst this
      exact ⟨_, _, _, _, _, _, _, a2, a3, a6, by simp only [C', a1], fun _ => ⟨by simp only [β', a1], rfl⟩⟩
  let φ' := normφ G.φ U s'
  have hcell : ∀ i r k d dep frz ver dep', (i, r) ∈ U → s (rt r) = .root k d dep' false frz ver → dep ≤ dep' → s' (rt i) = .root k d dep false false 0 → Rep w (ownS φ' i dep) k [] (G.C r) d := by
    intro i r k d dep frz ver dep' hU h1 h2 h3
    have hro := g.roots r
    rw [h1] at hro
    refine hro.1.frame fun q b _ hb _ => ⟨rfl, ?_⟩
    rcases ownS_lev hb with ⟨hl, hb⟩ | ⟨hl, hb⟩
    · have := normφ_own hp hU hb h3
      by_cases hlt : lev q < dep
      · simp only [ownS, hlt, if_true]; rw [if_pos hlt] at this; exact this
      · simp only [ownS, hlt, if_false]; rw [if_neg hlt] at this; exact this
    · have hlt : ¬ lev q < dep := by omega
      simp only [ownS, hlt, if_false]
      exact normφ_none hb
  have hcellb : ∀ i r k d dep ver dep', (i, r) ∈ U → s (rt r) = .root k d dep' true false ver → dep ≤ dep' → s' (rt i) = .root k d dep true false 0 → RootOk ⟨φ', C', β'⟩ w i (.root k d dep true false 0) := by
    intro i r k d dep ver dep' hU h1 h2 h3
    obtain ⟨_, _, _, _, _, _, _, e1, e2, e3, e4, e5⟩ := hUroot i r hU
    rw [h1] at e1
    simp only [Cell.root.injEq] at e1
    obtain ⟨rfl, _, _, rfl, _, _⟩ := e1
    have hro := g.roots r
    rw [h1] at hro
    refine ⟨?_, fun _ => ?_⟩
    · simp only
      rw [e4]
      refine hro.1.frame fun q b _ hb _ => ⟨rfl, ?_⟩
      rcases ownS_lev hb with ⟨hl, hb⟩ | ⟨hl, hb⟩
      · have := normφ_own hp hU hb h3
        by_cases hlt : lev q < dep
        · simp only [ownS, hlt, if_true]; rw [if_pos hlt] at this; exact this
        · simp only [ownS, hlt, if_false]; rw [if_neg hlt] at this; exact this
      · have hlt : ¬ lev q < dep := by omega
        simp only [ownS, hlt, if_false]
        exact normφ_none hb
    · obtain ⟨f1, f2⟩ := hro.2 rfl
      simp only [Bool.false_eq_true, if_false] at f2 ⊢
      rw [(e5 rfl).1, e4]
      exact ⟨f1, normφ_box hp hU f2⟩
  refine ⟨⟨φ', C', β'⟩, fun t => ?_, fun t => ?_, ?_⟩
  · show CellOk ⟨φ', C', β'⟩ w s' (a.tmps.getD t undef) (s' (sl t))
    by_cases ht : t ∈ f.map (·.1)
    · obtain ⟨⟨t', x⟩, hx, rfl⟩ := List.mem_map.1 ht
      simp only
      have hv := g.slots t'
      cases hs' t' x hx with
      | val a1 a2 =>
        rw [a2]
        rw [a1] at hv
        obtain ⟨c, c1, c2⟩ := hv
        exact ⟨c, c1, c2.frame fun q b _ hb _ => ⟨rfl, normφ_none hb⟩⟩
      | cst a1 a2 =>
        rw [a2]
        rw [a1] at hv
        obtain ⟨c, c1, c2⟩ := hv
        exact ⟨c, c1, c2.frame fun q b _ hb _ => hb.elim⟩
      | al a1 a2 a3 a4 a5 =>
        rename_i r p ver k k' d d' box frz ver'
        rw [a5]
        rw [a1] at hv
        simp only [CellOk] at hv
        rw [a2] at hv
        obtain ⟨z, e1, e2, e3⟩ := hv.2 (verOk a3)
        rw [a4] at e1
        have e1 := Option.some.inj e1
        subst e1
        have hro := g.roots r
        rw [a2] at hro
        have hrep := getP_rep hro.1 e2 a4
        exact ⟨_, e3, hrep.move fun q b hb _ => normφ_none (by simpa [ownS] using hb)⟩
      | own a1 a2 a3 a4 a5 a6 =>
        rename_i r ver k d dep dep' frz ver'
        rw [a5]
        rw [a1] at hv
        simp only [CellOk] at hv ⊢
        rw [a2] at hv
        rw [a6]
        obtain ⟨z, e1, e2, e3⟩ := hv.2 (.inr (by simp [noIdx]))
        simp only [getP, Option.some.injEq] at e1
        subst e1
        refine ⟨Nat.le_refl _, fun _ => ⟨_, rfl, trivial, ?_⟩⟩
        have : C' t' = G.C r := by simp only [C', a1]
        simp only [subC] at e3 ⊢
        rw [this]
        exact e3
      | ownc a1 a2 a3 =>
        rename_i k d dep
        rw [a2]
        rw [a1] at hv
        simp only [CellOk]
        rw [a3]
        obtain ⟨c, c1, c2⟩ := hv
        refine ⟨Nat.le_refl _, fun _ => ⟨_, rfl, trivial, ?_⟩⟩
        have : C' t' = c := by simp only [C', a1]; rw [c1]; exact mkVal_cells c2
        simp only [subC]
        rw [this]
        exact c1
      | box a1 a2 a3 a4 a5 a6 =>
        rename_i r ver k d dep dep' ver'
        rw [a5]
        rw [a1] at hv
        simp only [CellOk] at hv ⊢
        rw [a2] at hv
        rw [a6]
        obtain ⟨z, e1, e2, B, O, e3, e4⟩ := hv.2 (.inr (by simp [noIdx]))
        simp only [subA, home, cond_true, Option.some.injEq, Prod.mk.injEq] at e3
        obtain ⟨rfl, rfl⟩ := e3
        have : β' t' = G.β r := by simp only [β', a1]
        exact ⟨Nat.le_refl _, fun _ => ⟨_, rfl, trivial, _, _, by simp only [subA, home, cond_true]; rw [this], e4⟩⟩
      | sp a1 a2 =>
        rw [a2]
        rw [a1] at hv
        obtain ⟨B, O, e1, e2, e3, e4⟩ := hv
        exact ⟨B, O, e1, normφ_none e2, e3, e4.frame fun q b _ hb _ => ⟨rfl, normφ_none hb⟩⟩
      | spf a1 a2 a3 a4 =>
        rw [a4]
        rw [a1] at hv
        obtain ⟨B, e1, e2, e3, e4⟩ := frz_open g hv a2 a3
        exact ⟨B, 0, e1, normφ_none e2, e3, e4.frame fun q b _ hb _ => ⟨rfl, normφ_none hb⟩⟩
      | same a1 a2 a3 a4 a5 =>
        rename_i j r p ver k d dep box frz ver'
        rw [a5]
        rw [a1] at hv
        simp only [CellOk] at hv ⊢
        rw [a2] at hv
        obtain ⟨k2, d2, dep2, box2, frz2, ver2, dep3, f1, f2, f3, f4, f5⟩ := hUroot j r a4
        rw [a2] at f1
        simp only [Cell.root.injEq] at f1
        obtain ⟨rfl, f1, rfl, rfl, rfl, rfl⟩ := f1
        have f1 := eq_of_heq f1
        subst f1
        rw [f3]
        obtain ⟨z, e1, e2, e3⟩ := hv.2 (verOk a3)
        refine ⟨Nat.le_refl _, fun _ => ⟨z, e1, e2, ?_⟩⟩
        rw [f4]
        exact e3
    · have e : s' (sl t) = .none := (hout.1 t ht).1
      rw [e]
      trivial
  · show RootOk ⟨φ', C', β'⟩ w t (s' (rt t))
    by_cases ht : ∃ x, (t, x) ∈ f ∧ x.rooted = true
    · obtain ⟨x, hx, hxr⟩ := ht
      cases hs' t x hx with
      | val => simp [Slot.rooted] at hxr
      | cst => simp [Slot.rooted] at hxr
      | al => simp [Slot.rooted] at hxr
      | sp => simp [Slot.rooted] at hxr
      | spf => simp [Slot.rooted] at hxr
      | same => simp [Slot.rooted] at hxr
      | own a1 a2 a3 a4 a5 a6 =>
        rename_i r ver k d dep dep' frz ver'
        rw [a6]
        refine ⟨?_, fun h => by cases h⟩
        have : C' t = G.C r := by simp only [C', a1]
        simp only
        rw [this]
        exact hcell t r k d dep frz ver' dep' a4 a2 a3 a6
      | ownc a1 a2 a3 =>
        rename_i k d dep
        rw [a3]
        have hv := g.slots t
        rw [a1] at hv
        obtain ⟨c, c1, c2⟩ := hv
        refine ⟨?_, fun h => by cases h⟩
        have : C' t = c := by simp only [C', a1]; rw [c1]; exact mkVal_cells c2
        simp only
        rw [this]
        exact c2.frame fun q b _ hb _ => hb.elim
      | box a1 a2 a3 a4 a5 a6 =>
        rw [a6]
        exact hcellb _ _ _ _ _ _ _ a4 a2 a3 a6
    · have e : s' (rt t) = .none := hout.2 t fun x hx => by
        cases hb : x.rooted with
        | false => rfl
        | true => exact absurd ⟨x, hx, hb⟩ ht
      rw [e]
      trivial
  · have key : ∀ b x, φ' b = some x → ∃ y, G.φ b = some y ∧ (y = far → x = far) := by
      intro b x hx
      cases hb : G.φ b with
      | none => simp only [φ', normφ_none hb] at hx; cases hx
      | some y =>
        refine ⟨y, rfl, fun e => ?_⟩
        subst e
        simp only [φ', normφ, hb, if_true, Option.some.injEq] at hx
        exact hx.symm
    refine ⟨fun b x hx => ?_, fun b x hx => ?_, fun b hx => ?_⟩
    · obtain ⟨y, hy, hf⟩ := key b x hx
      rcases g.col.col b y hy with e | e
      · exact .inl (hf e)
      · exact .inr e
    · obtain ⟨y, hy, _⟩ := key b x hx
      exact g.col.lt b y hy
    · have hb := g.col.out b hx
      simp only [φ', normφ, hb, if_true]
theorem normP_ok {A : Nat → Option Value} {f : Form} {d : f.den} (hn : (f.map (·.1)).Nodup) (h : norm s f [] = some d) (hi : InvP P Kp B0 n A s a w) : InvP P Kp B0 n A (f.state d) a w := ⟨norm_ok hn h hi.inv, hi.pin⟩
end
end Go.V
set_option linter.unusedVariables false
set_option linter.unusedSimpArgs false
namespace Go.V
def Ex.to : Ex → Exit
  | .normal => .normal
  | .exit id => .exit id
  | .goto l => .goto l
  | .ret => .ret
def Outs.at : (o : Outs) → o.den → Ex × State
  | [], x => nomatch x
  | (e, f) :: r, x => match x with
    | .inl d => (e, f.state d)
    | .inr d => Outs.at r d
theorem Outs.give_at {R : Type} {K : Ex → State → Option R} : ∀ {o : Outs} {x : o.den}, Outs.give K o x = K (Outs.at o x).1 (Outs.at o x).2 := by
  intro o
  induction o with
  | nil => intro x; exact nomatch x
  | cons p o ih =>
    intro x
    obtain ⟨e, f⟩ := p
    cases x with
    | inl d => rfl
    | inr d => exact ih
def Outs.ok (o : Outs) : Prop := ∀ x ∈ o, (x.2.map (·.1)).Nodup
structure Piece.ok (p : Piece) : Prop where
  head : (p.head.map (·.1)).Nodup
  outs : Outs.ok p.outs
section
variable {P : Program} {Γ : Ctx} {Kp : Keep} {B0 : World} {n : Nat} {G : Gh} {s : State} {a : Act} {w w' : World} {id : Nat} {o : Oper} {Q : Exit → Act → World → Prop} {ws : Writes} {A : Nat → Option Value}
theorem take_ok {e : Ex} : ∀ {o : Outs} {x : o.den}, Outs.ok o → Outs.take s e o = some x → InvP P Kp B0 n A s a w → (Outs.at o x).1 = e ∧ InvP P Kp B0 n A (Outs.at o x).2 a w := by
  intro o
  induction o with
  | nil => intro x; exact nomatch x
  | cons p o ih =>
    intro x ho h hi
    obtain ⟨e', f⟩ := p
    simp only [Outs.take] at h
    rcases bif_some h with ⟨he, h1⟩ | ⟨_, h1⟩
    · rw [Option.map_eq_some_iff] at h1
      obtain ⟨d, h2, rfl⟩ := h1
      exact ⟨(of_decide_eq_true he).symm, normP_ok (ho (e', f) (by simp)) h2 hi⟩
    · rw [Option.map_eq_some_iff] at h1
      obtain ⟨d, h2, rfl⟩ := h1
      exact ih (fun y hy => ho y (by simp [hy])) h2 hi
/-- What is told of a piece of code is so. -/
def PieceOk (P : Program) (n : Nat) (A : Nat → Option Value) (c : Code) (p : Piece) : Prop :=
  ∀ (Kp : Keep) (B0 : World) (d : p.head.den) (x : p.outs.den) (a : Act) (w : World), p.run d = some x → InvP P Kp B0 n A (p.head.state d) a w →
    c.wp P (fun e a' w' => e = (Outs.at p.outs x).1.to ∧ InvP P Kp B0 n A (Outs.at p.outs x).2 a' w') a w
/-- The blocks of a code. -/
def blocksOf : Code → List (Nat × Code)
  | .seq a b | .cond _ a b => blocksOf a ++ blocksOf b
  | .block j b => (j, b) :: blocksOf b
  | .scope b | .loop b => blocksOf b
  | _ => []
/-- The slots that a code writes. -/
def dstsOk (q : Nat → Bool) : Code → Bool
  | .seq a b | .cond _ a b => dstsOk q a && dstsOk q b
  | .block _ b | .scope b | .loop b => dstsOk q b
  | .region _ ops _ => ops.toList.all fun o => match o.dst with | some d => q d | none => true
  | _ => true
theorem both_some {R : Type} {x y : Option R} {r : R} (h : both x y = some r) : x = some r ∧ y = some r := by
  unfold both at h
  split at h
  · rename_i e
    subst e
    exact ⟨h, h⟩
  · cases h
theorem pi_ok (E : Env P Γ) (hm : P.follows .mixedOrders = true) {Pc : Nat → Option Piece} {q : Nat → Bool} (hq : ∀ d, q d = true → d < n ∧ A d = none) : ∀ (c : Code) {R : Type} {clk : Nat} {s : State} {a : Act} {w : World} {K : Ex → Nat → State → Option R} {r : R} {Q : Exit → Act → World → Prop},
    dstsOk q c = true → (∀ id b o, (id, b) ∈ blocksOf c → Pc id = some o → o.ok ∧ PieceOk P n A (.block id b) o) → InvP P Kp B0 n A s a w → pi Γ Pc c clk s K = some r →
    (∀ e clk' s' a' w', InvP P Kp B0 n A s' a' w' → K e clk' s' = some r → Q e.to a' w') → c.wp P Q a w := by
  intro c
  induction c with
  | skip =>
    intro R clk s a w K r Q _ _ hi h hK
    exact wp_skip (hK .normal clk s a w hi (by simpa [pi] using h))
  | region rid ops draw =>
    intro R clk s a w K r Q hd _ hi h hK
    have hdst : ∀ o ∈ ops.toList, ∀ d, o.dst = some d → d < n ∧ A d = none := by
      intro o ho d hod
      simp only [dstsOk, List.all_eq_true] at hd
      have := hd o ho
      rw [hod] at this
      exact hq d this
    simp only [pi] at h
    cases draw with
    | false =>
      have := wp_plain (P := P) (Q := Q) E hdst ops.toList [] (by simp) hi (by simpa using h) (fun s' a' w' hi' hk => hK .normal _ s' a' w' hi' hk)
      exact wp_region (by simpa [List.range_eq_range'] using this)
    | true => exact wp_draw E hm hdst hi h fun s' a' w' hi' hk => hK .normal _ s' a' w' hi' hk
  | seq x y ihx ihy =>
    intro R clk s a w K r Q hd hP hi h hK
    simp only [pi] at h
    simp only [dstsOk, Bool.and_eq_true] at hd
    refine wp_seq (ihx hd.1 (fun id b o hb => hP id b o (by simp [blocksOf, hb])) hi h fun e clk' s' a' w' hi' hk => ?_)
    cases e with
    | normal => exact ihy hd.2 (fun id b o hb => hP id b o (by simp [blocksOf, hb])) hi' hk hK
    | exit id => exact hK _ _ _ _ _ hi' hk
    | goto l => exact hK _ _ _ _ _ hi' hk
    | ret => exact hK _ _ _ _ _ hi' hk
  | cond c x y ihx ihy =>
    intro R clk s a w K r Q hd hP hi h hK
    simp only [dstsOk, Bool.and_eq_true] at hd
    have hx := fun {clk : Nat} (hh : pi Γ Pc x clk s K = some r) => ihx (Q := Q) hd.1 (fun id b o hb => hP id b o (by simp [blocksOf, hb])) hi hh hK
    have hy := fun {clk : Nat} (hh : pi Γ Pc y clk s K = some r) => ihy (Q := Q) hd.2 (fun id b o hb => hP id b o (by simp [blocksOf, hb])) hi hh hK
    cases c with
    | tmp t =>
      simp only [pi] at h
      split at h
      · rename_i z hz
        obtain ⟨G, g⟩ := hi.inv.ghost
        have hv := g.slots t
        rw [hz] at hv
        obtain ⟨c, e1, e2⟩ := hv
        simp only [Rep] at e2
        subst e2
        have hev : a.eval (.tmp t) = .bool z := by
          have e1 : a.tmps.getD t undef = .bool z := e1
          simpa [Act.eval, Array.getD_eq_getD_getElem?] using e1
        cases z with
        | true =>
          rw [set_self _ _ _ hz] at h
          simp only [if_true] at h
          exact wp_cond_true hev (hx h)
        | false =>
          rw [set_self _ _ _ hz] at h
          simp only [Bool.false_eq_true, if_false] at h
          exact wp_cond_false hev (hy h)
      · rename_i z hz
        obtain ⟨G, g⟩ := hi.inv.ghost
        have hv := g.slots t
        rw [hz] at hv
        obtain ⟨z', e1, e2⟩ := hv
        have hev : a.eval (.tmp t) = .bool z' := by
          simpa [Act.eval, Array.getD_eq_getD_getElem?] using e1
        cases z with
        | true =>
          simp only [if_true] at h
          obtain ⟨h1, h2⟩ := both_some h
          cases z' with
          | true => exact wp_cond_true hev (hx h1)
          | false => exact wp_cond_false hev (hy h2)
        | false =>
          simp only [Bool.false_eq_true, if_false] at h
          cases z' with
          | true => exact absurd (e2 rfl) (by simp)
          | false => exact wp_cond_false hev (hy h)
      · cases h
    | const v =>
      cases v with
      | bool z =>
        simp only [pi] at h
        cases z with
        | true => exact wp_cond_true rfl (hx h)
        | false => exact wp_cond_false rfl (hy h)
      | _ => simp [pi] at h
    | _ => simp [pi] at h
  | block id b ih =>
    intro R clk s a w K r Q hd hP hi h hK
    simp only [pi] at h
    cases hp : Pc id with
    | some o =>
      rw [hp] at h
      simp only at h
      split at h
      · rename_i d hn
        rw [Option.bind_eq_some_iff] at h
        obtain ⟨x, h1, h2⟩ := h
        obtain ⟨k1, k2⟩ := hP id b o (by simp [blocksOf]) hp
        have hi' := normP_ok k1.head hn hi
        refine wp_mono (k2 Kp B0 d x a w h1 hi') fun e a' w' hh => ?_
        obtain ⟨rfl, hi2⟩ := hh
        rw [Outs.give_at] at h2
        exact hK _ _ _ _ _ hi2 h2
      · cases h
    | none =>
      rw [hp] at h
      simp only at h
      refine wp_block (ih hd (fun id' b' o hb => hP id' b' o (by simp [blocksOf, hb])) hi h fun e clk' s' a' w' hi' hk => ?_)
      cases e with
      | exit j =>
        simp only [Ex.to, Exit.inBlock]
        rcases bif_some hk with ⟨e1, hk⟩ | ⟨e1, hk⟩
        · rw [if_pos (Nat.eq_of_beq_eq_true e1)]
          exact hK _ _ _ _ _ hi' hk
        · rw [if_neg (fun e => by subst e; rw [Nat.beq_refl] at e1; cases e1)]
          exact hK _ _ _ _ _ hi' hk
      | normal => exact hK _ _ _ _ _ hi' hk
      | goto l => exact hK _ _ _ _ _ hi' hk
      | ret => exact hK _ _ _ _ _ hi' hk
  | exit id =>
    intro R clk s a w K r Q _ _ hi h hK
    exact wp_exit (hK (.exit id) clk s a w hi (by simpa [pi] using h))
  | label l =>
    intro R clk s a w K r Q _ _ hi h hK
    exact wp_label (hK .normal clk s a w hi (by simpa [pi] using h))
  | goto l =>
    intro R clk s a w K r Q _ _ hi h hK
    exact wp_goto (hK (.goto l) clk s a w hi (by simpa [pi] using h))
  | ret =>
    intro R clk s a w K r Q _ _ hi h hK
    exact wp_ret (hK .ret clk s a w hi (by simpa [pi] using h))
  | _ => intro R clk s a w K r Q _ _ _ h _; simp [pi] at h
/-- A loop, round after round. -/
theorem loop_ok (E : Env P Γ) (hm : P.follows .mixedOrders = true) {Pc : Nat → Option Piece} {q : Nat → Bool} (hq : ∀ d, q d = true → d < n ∧ A d = none) {id : Nat} {head : Form} {outs : Outs} {body : Code} (hok : (head.map (·.1)).Nodup ∧ Outs.ok outs) (hd : dstsOk q body = true)
    (hP : ∀ id b o, (id, b) ∈ blocksOf body → Pc id = some o → o.ok ∧ PieceOk P n A (.block id b) o) {L : Nat → head.den → Option outs.den} (h0 : ∀ d, L 0 d = none) (hL : ∀ m d, L (m + 1) d = roundR Γ Pc id head outs body (L m) d) :
    ∀ m, PieceOk P n A (.block id (.loop body)) ⟨head, outs, L m⟩ := by
  intro m Kp B0 d x a w hrun hi
  refine wp_block (wp_loop_rounds m ?_)
  simp only at hrun hi x d
  revert hrun hi
  generalize hQ : Exit.inBlock id (fun e a' w' => e = (Outs.at outs x).1.to ∧ InvP P Kp B0 n A (Outs.at outs x).2 a' w') = Q
  have hfin : ∀ (e : Ex) (s : State) (a' : Act) (w' : World), InvP P Kp B0 n A s a' w' → (match e with
      | .normal => none
      | .exit j => bif Nat.beq j id then Outs.take s .normal outs else Outs.take s (.exit j) outs
      | e => Outs.take s e outs) = some x → Q e.to a' w' := by
    intro e s a' w' hi' hk
    rw [← hQ]
    cases e with
    | normal => cases hk
    | exit j =>
      simp only [Ex.to, Exit.inBlock]
      rcases bif_some hk with ⟨e1, hk⟩ | ⟨e1, hk⟩
      · rw [if_pos (Nat.eq_of_beq_eq_true e1)]
        obtain ⟨k1, k2⟩ := take_ok hok.2 hk hi'
        exact ⟨by simp [k1, Ex.to], k2⟩
      · rw [if_neg (fun e => by subst e; rw [Nat.beq_refl] at e1; cases e1)]
        obtain ⟨k1, k2⟩ := take_ok hok.2 hk hi'
        exact ⟨by simp [k1, Ex.to], k2⟩
    | goto l =>
      obtain ⟨k1, k2⟩ := take_ok hok.2 hk hi'
      exact ⟨by rw [k1], k2⟩
    | ret =>
      obtain ⟨k1, k2⟩ := take_ok hok.2 hk hi'
      exact ⟨by rw [k1], k2⟩
  clear hQ
  induction m generalizing d a w with
  | zero => intro h; rw [h0] at h; cases h
  | succ m ih =>
    intro hrun hi
    rw [hL] at hrun
    rw [rounds_succ]
    refine pi_ok E hm hq body hd hP hi hrun fun e clk' s' a' w' hi' hk => ?_
    cases e with
    | normal =>
      simp only [Option.bind_eq_some_iff] at hk
      obtain ⟨d', k1, k2⟩ := hk
      exact ih d' a' w' k2 (normP_ok hok.1 k1 hi')
    | exit j => exact hfin (.exit j) s' a' w' hi' hk
    | goto l => exact hfin (.goto l) s' a' w' hi' hk
    | ret => exact hfin .ret s' a' w' hi' hk
end
end Go.V
set_option linter.unusedVariables false
set_option linter.unusedSimpArgs false
namespace Go.V
section
variable {P : Program} {Γ : Ctx} {Kp : Keep} {B0 : World} {n : Nat} {G : Gh} {s : State} {a : Act} {w w' : World} {id : Nat} {o : Oper} {Q : Exit → Act → World → Prop} {ws : Writes} {A : Nat → Option Value}
theorem ArgsOk.length {ψ : Nat → Option (Nat × Path)} {U : Nat → Prop} : ∀ {ps : List (Kd × Bool)} {i : Nat} {vs : List Value} {d : (Kd.tuple (ps.map (·.1))).den}, ArgsOk w ψ U i ps vs d → vs.length = ps.length := by
  intro ps
  induction ps with
  | nil => intro i vs d h; rw [show vs = [] from h]; rfl
  | cons p ps ih =>
    intro i vs d h
    obtain ⟨k, io⟩ := p
    obtain ⟨c, r, h1, _, h2⟩ := h
    subst h1
    simp [ih h2]
/-- What stands at the begin. -/
theorem start_ents {ψ : Nat → Option (Nat × Path)} {U : Nat → Prop} : ∀ {ps : List (Kd × Bool)} {i : Nat} {vs : List Value} {d : (Kd.tuple (ps.map (·.1))).den} {s1 : State}, ArgsOk w ψ U i ps vs d →
    (∀ t, (t < i ∨ i + ps.length ≤ t) → (s1.put (start i ps d)) (sl t) = s1 (sl t) ∧ (s1.put (start i ps d)) (rt t) = s1 (rt t)) ∧
    ∀ j, j < ps.length → ∃ k c, ∃ dd : k.den, vs[j]? = some (mkVal k c) ∧
      (((s1.put (start i ps d)) (sl (i + j)) = .val k dd ∧ (s1.put (start i ps d)) (rt (i + j)) = s1 (rt (i + j)) ∧ Rep w (fun _ b => U b) k [] c dd) ∨
       ((s1.put (start i ps d)) (sl (i + j)) = .al (i + j) [] 0 ∧ (s1.put (start i ps d)) (rt (i + j)) = .root k dd k.lev false false 0 ∧ Rep w (fun q b => ψ b = some (i + j, q)) k [] c dd)) := by
  intro ps
  induction ps with
  | nil => intro i vs d s1 h; exact ⟨fun _ _ => ⟨rfl, rfl⟩, fun j hj => by simp at hj⟩
  | cons p ps ih =>
    intro i vs d s1 h
    obtain ⟨k, io⟩ := p
    obtain ⟨c, r, h1, h2, h3⟩ := h
    subst h1
    cases io with
    | false =>
      obtain ⟨e1, e2⟩ := ih (s1 := s1.set (sl i) (.val k d.1)) h3
      have eq : s1.put (start i ((k, false) :: ps) d) = (s1.set (sl i) (.val k d.1)).put (start (i + 1) ps d.2) := rfl
      rw [eq]
      refine ⟨fun t ht => ?_, fun j hj => ?_⟩
      · simp only [List.length_cons] at ht
        obtain ⟨f1, f2⟩ := e1 t (by omega)
        rw [f1, f2, State.set_other _ _ (fun e => by have := sl_inj e; omega), State.set_other _ _ (sl_rt i t).symm]
        exact ⟨rfl, rfl⟩
      · cases j with
        | zero =>
          obtain ⟨f1, f2⟩ := e1 i (by omega)
          refine ⟨k, c, d.1, rfl, .inl ⟨?_, ?_, h2⟩⟩
          · exact f1.trans (State.set_same _ _ _)
          · exact f2.trans (State.set_other _ _ (sl_rt i i).symm)
        | succ j =>
          obtain ⟨k', c', dd, g1, g2⟩ := e2 j (by simpa using hj)
          refine ⟨k', c', dd, by simpa using g1, ?_⟩
          rw [show i + (j + 1) = i + 1 + j by omega]
          rw [State.set_other _ _ (sl_rt i (i + 1 + j)).symm] at g2
          exact g2
    | true =>
      obtain ⟨e1, e2⟩ := ih (s1 := (s1.set (rt i) (.root k d.1 k.lev false false 0)).set (sl i) (.al i [] 0)) h3
      have eq : s1.put (start i ((k, true) :: ps) d) = ((s1.set (rt i) (.root k d.1 k.lev false false 0)).set (sl i) (.al i [] 0)).put (start (i + 1) ps d.2) := rfl
      rw [eq]
      refine ⟨fun t ht => ?_, fun j hj => ?_⟩
      · simp only [List.length_cons] at ht
        obtain ⟨f1, f2⟩ := e1 t (by omega)
        rw [f1, f2, State.set_other _ _ (fun e => by have := sl_inj e; omega), State.set_other _ _ (sl_rt t i), State.set_other _ _ (sl_rt i t).symm, State.set_other _ _ (fun e => by have := rt_inj e; omega)]
        exact ⟨rfl, rfl⟩
      · cases j with
        | zero =>
          obtain ⟨f1, f2⟩ := e1 i (by omega)
          refine ⟨k, c, d.1, rfl, .inr ⟨?_, ?_, h2⟩⟩
          · exact f1.trans (State.set_same _ _ _)
          · exact f2.trans ((State.set_other _ _ (sl_rt i i).symm).trans (State.set_same _ _ _))
        | succ j =>
          obtain ⟨k', c', dd, g1, g2⟩ := e2 j (by simpa using hj)
          refine ⟨k', c', dd, by simpa using g1, ?_⟩
          rw [show i + (j + 1) = i + 1 + j by omega]
          have : ((s1.set (rt i) (.root k d.1 k.lev false false 0)).set (sl i) (.al i [] 0)) (rt (i + 1 + j)) = s1 (rt (i + 1 + j)) := by
            rw [State.set_other _ _ (sl_rt i (i + 1 + j)).symm, State.set_other _ _ (fun e => by have := rt_inj e; omega)]
          rw [this] at g2
          exact g2
/-- Which blocks the callee counts as whose. -/
noncomputable def inφ (ψ : Nat → Option (Nat × Path)) (U : Nat → Prop) (size : Nat) : Nat → Option (Bool × Nat × Path) := fun b =>
  open Classical in
  match ψ b with
  | some (i, q) => some (false, i, q)
  | none => if b < size ∧ ¬ U b then some far else none
def inK (ψ : Nat → Option (Nat × Path)) (U : Nat → Prop) (size : Nat) : Keep := ⟨fun b => b < size ∧ ψ b = none, fun b => b < size ∧ ψ b = none ∧ ¬ U b⟩
/-- Whether a parameter is lent. -/
def ioAt (ps : List (Kd × Bool)) (d : Nat) : Bool := match ps[d]? with
  | some p => p.2
  | none => false
def inA (ps : List (Kd × Bool)) (vs : List Value) : Nat → Option Value := fun t => bif ioAt ps t then vs[t]? else none
theorem start_ok {ψ : Nat → Option (Nat × Path)} {U : Nat → Prop} {ps : List (Kd × Bool)} {vs : List Value} {d : (Kd.tuple (ps.map (·.1))).den} (h : ArgsOk w ψ U 0 ps vs d) (hU : ∀ b, U b → ψ b = none)
    (hψ : ∀ b z, ψ b = some z → ∃ cs T, w.heap[b]? = some (.cells cs T (0, 0))) (hgl : Gl P w ψ) (hn : ps.length ≤ n) :
    InvP P (inK ψ U w.heap.size) w n (inA ps vs) (State.empty.put (start 0 ps d)) { tmps := vs.toArray ++ Array.replicate (n - vs.toArray.size) undef, defers := [] } w := by
  have hlen := h.length
  obtain ⟨e1, e2⟩ := start_ents (s1 := State.empty) h
  have htmp : ∀ t v, vs[t]? = some v → (vs.toArray ++ Array.replicate (n - vs.toArray.size) undef).getD t undef = v := by
    intro t v hv
    have hlt := (List.getElem?_eq_some_iff.1 hv).1
    rw [Array.getD_eq_getD_getElem?, Array.getElem?_append_left (by simpa using hlt)]
    simp [hv]
  refine ⟨⟨rfl, by simp; omega, ⟨rfl, rfl, rfl, Nat.le_refl _, fun _ _ => rfl, fun b hb => hb.1, fun b hb => ⟨⟨(hgl b hb).2.lt hb, (hgl b hb).1⟩, (hgl b hb).2⟩⟩, ⟨inφ ψ U w.heap.size, fun t => (vs.getD t undef).cells.toList, fun _ => 0⟩, ?_, ?_, ?_⟩, fun t v hv => by
    unfold inA at hv
    rcases bif_some hv with ⟨_, hv⟩ | ⟨_, hv⟩
    · exact htmp t v hv
    · cases hv⟩
  · intro t
    by_cases ht : t < ps.length
    · obtain ⟨k, c, dd, f1, f2⟩ := e2 t ht
      rw [Nat.zero_add] at f2
      simp only
      rw [htmp t _ f1]
      rcases f2 with ⟨f2, _, f3⟩ | ⟨f2, f4, f3⟩
      · rw [f2]
        refine ⟨c, rfl, f3.frame fun q b _ hb _ => ⟨rfl, ?_⟩⟩
        simp only [shS, inφ, hU b hb, hb, not_true_eq_false, and_false, if_false]
      · rw [f2]
        simp only [CellOk]
        rw [f4]
        refine ⟨Nat.le_refl _, fun _ => ⟨⟨k, dd⟩, rfl, trivial, ?_⟩⟩
        simp only [subC, List.getD_eq_getElem?_getD, f1, Option.getD_some]
        rw [mkVal_cells f3]
    · have := (e1 t (by omega)).1
      rw [this]
      trivial
  · intro t
    by_cases ht : t < ps.length
    · obtain ⟨k, c, dd, f1, f2⟩ := e2 t ht
      rw [Nat.zero_add] at f2
      rcases f2 with ⟨_, f4, _⟩ | ⟨_, f4, f3⟩
      · rw [f4]
        trivial
      · rw [f4]
        refine ⟨?_, fun h => by cases h⟩
        simp only [List.getD_eq_getElem?_getD, f1, Option.getD_some]
        rw [mkVal_cells f3]
        refine f3.lim.frame fun q b _ hb _ => ⟨rfl, ?_⟩
        obtain ⟨g1, _, g2⟩ := hb
        simp only [lev, Nat.zero_add] at g2
        simp only [ownS, g2, if_true, inφ, g1]
    · have := (e1 t (by omega)).2
      rw [this]
      trivial
  · have key : ∀ b x, inφ ψ U w.heap.size b = some x → (∃ i q, ψ b = some (i, q) ∧ x = (false, i, q)) ∨ (ψ b = none ∧ b < w.heap.size ∧ ¬ U b ∧ x = far) := by
      intro b x hx
      unfold inφ at hx
      split at hx
      · rename_i i q hb
        exact .inl ⟨i, q, hb, (Option.some.inj hx).symm⟩
      · rename_i hb
        split at hx
        · rename_i hc
          exact .inr ⟨hb, hc.1, hc.2, (Option.some.inj hx).symm⟩
        · cases hx
    refine ⟨fun b x hx => ?_, fun b x hx => ?_, fun b hb => ?_⟩
    · rcases key b x hx with ⟨i, q, h1, h2⟩ | ⟨_, _, _, h2⟩
      · refine .inr ⟨fun hk => ?_, hψ b _ h1⟩
        rw [hk.2] at h1
        cases h1
      · exact .inl h2
    · rcases key b x hx with ⟨i, q, h1, h2⟩ | ⟨_, h1, _, h2⟩
      · obtain ⟨cs, T, h3⟩ := hψ b _ h1
        exact (Array.getElem?_eq_some_iff.1 h3).1
      · exact h1
    · simp only [inφ, hb.2.1]
      rw [if_pos ⟨hb.1, hb.2.2⟩]
end
end Go.V
set_option linter.unusedVariables false
set_option linter.unusedSimpArgs false
namespace Go.V
section
variable {P : Program} {Γ : Ctx} {Kp : Keep} {B0 : World} {n : Nat} {G : Gh} {s : State} {a : Act} {w w' : World} {id : Nat} {o : Oper} {Q : Exit → Act → World → Prop} {ws : Writes} {A : Nat → Option Value}
theorem ft {p : Prop} (h : false = true) : p := Bool.noConfusion h
theorem tf {p : Prop} (h : true = false) : p := Bool.noConfusion h
theorem ns {α : Type} {x : α} {p : Prop} (h : none = some x) : p := by cases h
theorem sn {α : Type} {x : α} {p : Prop} (h : some x = none) : p := by cases h
theorem any_beq {u : List Nat} {r : Nat} (h : u.any (Nat.beq r) = false) : r ∉ u := by
  intro hm
  rw [List.any_eq_false] at h
  exact h r hm (Nat.beq_refl r)
theorem ioV_ok (g : GOk Kp G s a w) : ∀ {ps : List (Kd × Bool)} {i : Nat} {u : List Nat} {y : (Kd.tuple ((ps.filter (·.2)).map (·.1))).den} {u' : List Nat}, ioV s i ps u = some (y, u') →
    ∃ L : List (Nat × Nat), (∀ x ∈ L, i ≤ x.1) ∧ (L.Pairwise fun x y => x.2 ≠ y.2) ∧ (∀ x ∈ L, x.2 ∉ u) ∧ (∀ r, r ∈ u' ↔ r ∈ u ∨ ∃ x ∈ L, x.2 = r) ∧
      ∀ vs : List Value, vs.length = ps.length → (∀ j v, ioAt ps j = true → vs[j]? = some v → a.tmps.getD (i + j) undef = v) → ∀ χ : Nat → Option Lab, (∀ x ∈ L, ∀ b q, G.φ b = some (false, x.2, q) → χ b = some (.io x.1 q)) → IoOk w χ i ps vs y := by
  intro ps
  induction ps with
  | nil =>
    intro i u y u' h
    simp only [ioV, Option.some.injEq, Prod.mk.injEq] at h
    obtain ⟨_, rfl⟩ := h
    exact ⟨[], fun _ h => by simp at h, List.Pairwise.nil, fun _ h => by simp at h, fun r => by simp, fun _ _ _ _ _ => trivial⟩
  | cons p ps ih =>
    intro i u y u' h
    obtain ⟨k, io⟩ := p
    cases io with
    | false =>
      have h : ioV s (i + 1) ps u = some (y, u') := h
      obtain ⟨L, l1, l2, l3, l4, l5⟩ := ih h
      refine ⟨L, fun x hx => by have := l1 x hx; omega, l2, l3, l4, fun vs hlen hv χ hχ => ?_⟩
      cases vs with
      | nil => simp at hlen
      | cons v vs =>
        exact l5 vs (by simpa using hlen) (fun j v' hio hj => by have := hv (j + 1) v' (by simpa [ioAt] using hio) (by simpa using hj); rw [show i + 1 + j = i + (j + 1) by omega]; exact this) χ hχ
    | true =>
      simp only [ioV] at h
      split at h
      · rename_i r p ver hs
        split at h
        · rename_i k' d dep box frz ver' hr
          rcases bif_some h with ⟨hc, h1⟩ | ⟨_, h1⟩
          · simp only [Bool.and_eq_true, List.isEmpty_iff, Bool.not_eq_true', decide_eq_true_eq] at hc
            obtain ⟨⟨⟨rfl, rfl⟩, hd⟩, hu⟩ := hc
            have hu := any_beq hu
            split at h1
            · rename_i x z hx hz
              have h2 := Option.some.inj h1
              have hk := cast?_eq hx
              injection hk with e1 e2
              subst e1
              have e2 := eq_of_heq e2
              subst e2
              obtain ⟨L, l1, l2, l3, l4, l5⟩ := ih (y := z.1) (u' := z.2) hz
              refine ⟨(i, r) :: L, fun x hx => ?_, ?_, fun x hx => ?_, fun r' => ?_, fun vs hlen hv χ hχ => ?_⟩
              · rcases List.mem_cons.1 hx with rfl | hx
                · exact Nat.le_refl _
                · have := l1 x hx; omega
              · rw [List.pairwise_cons]
                exact ⟨fun x hx e => l3 x hx (by rw [← e]; simp), l2⟩
              · rcases List.mem_cons.1 hx with rfl | hx
                · exact hu
                · exact fun hm => l3 x hx (by simp [hm])
              · injection h2 with _ h2
                rw [← h2, l4]
                simp only [List.mem_cons, exists_eq_or_imp]
                constructor
                · rintro ((rfl | h) | h)
                  · exact .inr (.inl rfl)
                  · exact .inl h
                  · exact .inr (.inr h)
                · rintro (h | rfl | h)
                  · exact .inl (.inr h)
                  · exact .inl (.inl rfl)
                  · exact .inr h
              · cases vs with
                | nil => simp at hlen
                | cons v vs =>
                  have h3 : y = (d, z.1) := by injection h2 with h2 _; exact h2.symm
                  have hrest := l5 vs (by simpa using hlen) (fun j v' hio hj => by have := hv (j + 1) v' (by simpa [ioAt] using hio) (by simpa using hj); rw [show i + 1 + j = i + (j + 1) by omega]; exact this) χ (fun x hx => hχ x (by simp [hx]))
                  have hcell := g.slots i
                  rw [hs] at hcell
                  simp only [CellOk] at hcell
                  rw [hr] at hcell
                  obtain ⟨z', f1, f2, f3⟩ := hcell.2 (.inr (by simp))
                  simp only [getP, Option.some.injEq] at f1
                  subst f1
                  have hv0 := hv 0 v rfl rfl
                  rw [Nat.add_zero] at hv0
                  rw [hv0] at f3
                  simp only [subC] at f3
                  have hro := g.roots r
                  rw [hr] at hro
                  show ∃ c r, (v :: vs) = mkVal k' c :: r ∧ c.length = k'.size ∧ Rep w (fun q b => χ b = some (.io i q)) k' [] c y.1 ∧ IoOk w χ (i + 1) ps r y.2
                  refine ⟨G.C r, vs, by rw [f3], hro.1.length, ?_, ?_⟩
                  · rw [h3]
                    refine hro.1.lim.frame fun q b _ hb _ => ⟨rfl, ?_⟩
                    obtain ⟨g1, _, g2⟩ := hb
                    simp only [lev, Nat.zero_add] at g2
                    have : lev q < dep := by omega
                    simp only [ownS, this, if_true] at g1
                    exact hχ (i, r) (by simp) b q g1
                  · rw [h3]; exact hrest
            · cases h1
          · cases h1
        · cases h
      · rename_i r hs
        split at h
        · rename_i k' d dep ver' hr
          rcases bif_some h with ⟨hc, h1⟩ | ⟨_, h1⟩
          · simp only [Bool.and_eq_true, Bool.not_eq_true', decide_eq_true_eq] at hc
            obtain ⟨hd, hu⟩ := hc
            have hu := any_beq hu
            split at h1
            · rename_i x z hx hz
              have h2 := Option.some.inj h1
              have hk := cast?_eq hx
              injection hk with e1 e2
              subst e1
              have e2 := eq_of_heq e2
              subst e2
              obtain ⟨L, l1, l2, l3, l4, l5⟩ := ih (y := z.1) (u' := z.2) hz
              refine ⟨(i, r) :: L, fun x hx => ?_, ?_, fun x hx => ?_, fun r' => ?_, fun vs hlen hv χ hχ => ?_⟩
              · rcases List.mem_cons.1 hx with rfl | hx
                · exact Nat.le_refl _
                · have := l1 x hx; omega
              · rw [List.pairwise_cons]
                exact ⟨fun x hx e => l3 x hx (by rw [← e]; simp), l2⟩
              · rcases List.mem_cons.1 hx with rfl | hx
                · exact hu
                · exact fun hm => l3 x hx (by simp [hm])
              · injection h2 with _ h2
                rw [← h2, l4]
                simp only [List.mem_cons, exists_eq_or_imp]
                constructor
                · rintro ((rfl | h) | h)
                  · exact .inr (.inl rfl)
                  · exact .inl h
                  · exact .inr (.inr h)
                · rintro (h | rfl | h)
                  · exact .inl (.inr h)
                  · exact .inl (.inl rfl)
                  · exact .inr h
              · cases vs with
                | nil => simp at hlen
                | cons v vs =>
                  have h3 : y = (d, z.1) := by injection h2 with h2 _; exact h2.symm
                  have hrest := l5 vs (by simpa using hlen) (fun j v' hio hj => by have := hv (j + 1) v' (by simpa [ioAt] using hio) (by simpa using hj); rw [show i + 1 + j = i + (j + 1) by omega]; exact this) χ (fun x hx => hχ x (by simp [hx]))
                  have hcell := g.slots i
                  rw [hs] at hcell
                  simp only [CellOk] at hcell
                  rw [hr] at hcell
                  obtain ⟨_, _, f3⟩ := hcell
                  have hv0 := hv 0 v rfl rfl
                  rw [Nat.add_zero] at hv0
                  rw [hv0] at f3
                  have hro := g.roots r
                  rw [hr] at hro
                  show ∃ c r, (v :: vs) = mkVal k' c :: r ∧ c.length = k'.size ∧ Rep w (fun q b => χ b = some (.io i q)) k' [] c y.1 ∧ IoOk w χ (i + 1) ps r y.2
                  refine ⟨G.C r, vs, by rw [f3], hro.1.length, ?_, ?_⟩
                  · rw [h3]
                    refine hro.1.lim.frame fun q b _ hb _ => ⟨rfl, ?_⟩
                    obtain ⟨g1, _, g2⟩ := hb
                    simp only [lev, Nat.zero_add] at g2
                    have : lev q < dep := by omega
                    simp only [ownS, this, if_true] at g1
                    exact hχ (i, r) (by simp) b q g1
                  · rw [h3]; exact hrest
            · cases h1
          · cases h1
        · cases h
      · cases h
/-- How a result is read. -/
def resRd (tmps : Array Value) : ResultVar → Sem Value
  | .tmp t => pure (tmps.getD t undef)
  | .cell a t => do loadVar t (← asAddr (tmps.getD a undef))
theorem oneV_ok (hT : TabOk P Γ.tk Γ.ar) (g : GOk Kp G s a w) {v : ResultVar} {x : V} {ro : Option (Nat × Nat)} {free : Bool} (h : oneV Γ s v = some (x, ro, free)) :
    ∃ c, (resRd a.tmps v).run P w = .ok (mkVal x.k c) w ∧ (free = true → Rep w noS x.k [] c x.d) ∧ (free = false → ro = none → Rep w (shS G.φ) x.k [] c x.d) ∧
      (free = false → ∀ r dep, ro = some (r, dep) → (∃ T q, Rep w T x.k q c x.d ∧ ∀ q' b, T q' b → G.φ b = none ∨ ∃ q, G.φ b = some (false, r, q)) ∧ (x.k.lev ≤ dep → Rep w (fun q b => G.φ b = some (false, r, q)) x.k [] c x.d)) := by
  cases v with
  | tmp t =>
    simp only [oneV] at h
    have hv := g.slots t
    have hrd : ∀ v, a.tmps.getD t undef = v → (resRd a.tmps (.tmp t)).run P w = .ok v w := fun v h => by subst h; rfl
    split at h
    · rename_i k d hs
      simp only [Option.some.injEq, Prod.mk.injEq] at h
      obtain ⟨rfl, rfl, rfl⟩ := h
      rw [hs] at hv
      obtain ⟨c, e1, e2⟩ := hv
      exact ⟨c, hrd _ e1, ft, fun _ _ => e2, fun _ r dep => ns⟩
    · rename_i k d hs
      simp only [Option.some.injEq, Prod.mk.injEq] at h
      obtain ⟨rfl, rfl, rfl⟩ := h
      rw [hs] at hv
      obtain ⟨c, e1, e2⟩ := hv
      exact ⟨c, hrd _ e1, fun _ => e2, tf, tf⟩
    · rename_i r p ver hs
      split at h
      · rename_i k d dep box frz ver' hr
        rcases bif_some h with ⟨hver, h1⟩ | ⟨_, h1⟩
        · split at h1
          · rename_i x' hg
            simp only [Option.some.injEq, Prod.mk.injEq] at h1
            obtain ⟨rfl, rfl, rfl⟩ := h1
            rw [hs] at hv
            simp only [CellOk] at hv
            rw [hr] at hv
            obtain ⟨z, e1, e2, e3⟩ := hv.2 (verOk hver)
            rw [hg] at e1
            have e1 := Option.some.inj e1
            subst e1
            have hro := g.roots r
            rw [hr] at hro
            have hrep := getP_rep hro.1 e2 hg
            refine ⟨_, hrd _ e3, ft, fun _ => sn, fun _ r' dep' he => ?_⟩
            simp only [Option.some.injEq, Prod.mk.injEq] at he
            obtain ⟨rfl, rfl⟩ := he
            refine ⟨⟨_, _, hrep, fun q' b hb => ?_⟩, fun hl => ?_⟩
            · rcases ownS_lev hb with ⟨_, hb⟩ | ⟨_, hb⟩
              · exact .inr ⟨q', hb⟩
              · exact .inl hb
            · rw [List.nil_append] at hrep
              refine hrep.lim.move fun q b hb _ => ?_
              obtain ⟨f1, _, f2⟩ := hb
              cases p with
              | nil =>
                simp only [List.isEmpty_nil, cond_true] at hl
                simp only [List.nil_append] at f1 f2 ⊢
                have : lev q < dep := by simp only [lev] at f2; omega
                simp only [ownS, this, if_true] at f1
                exact f1
              | cons x' p =>
                simp only [List.isEmpty_cons, cond_false] at hl
                rw [lev_append] at f2
                omega
          · cases h1
        · cases h1
      · cases h
    · cases h
  | cell a0 t =>
    simp only [oneV] at h
    have hv := g.slots a0
    split at h
    · rename_i r p ver hs
      split at h
      · rename_i k d dep frz ver' hr
        rcases bif_some h with ⟨hver, h1⟩ | ⟨_, h1⟩
        · simp only [Bool.and_eq_true, List.isEmpty_iff, decide_eq_true_eq] at hver
          obtain ⟨rfl, ht⟩ := hver
          simp only [Option.some.injEq, Prod.mk.injEq] at h1
          obtain ⟨rfl, rfl, rfl⟩ := h1
          rw [hs] at hv
          obtain ⟨y, B, O, e1, e2, e3, e4, e5, e6, e7, hro⟩ := ptr_open g hv hr (by simp [noIdx])
          simp only [getP, Option.some.injEq] at e1
          subst e1
          refine ⟨cellsAt w B O k.size, ?_, ft, fun _ => sn, fun _ r' dep' he => ?_⟩
          · simp [resRd, e4, asAddr, run_loadVar hT ht e6]
          · simp only [Option.some.injEq, Prod.mk.injEq] at he
            obtain ⟨rfl, rfl⟩ := he
            refine ⟨⟨_, _, e7, fun q' b hb => ?_⟩, fun hl => ?_⟩
            · rcases ownS_lev hb with ⟨_, hb⟩ | ⟨_, hb⟩
              · exact .inr ⟨q', hb⟩
              · exact .inl hb
            · refine e7.lim.frame fun q b _ hb _ => ⟨rfl, ?_⟩
              obtain ⟨f1, _, f2⟩ := hb
              have : lev q < dep := by simp only [lev, Nat.zero_add] at f2; simp only at hl; omega
              simp only [ownS, this, if_true] at f1
              exact f1
        · cases h1
      · cases h
    · cases h
theorem resV_ok (hT : TabOk P Γ.tk Γ.ar) (g : GOk Kp G s a w) {own : Bool} : ∀ {rs : List Kd} {vs : List ResultVar} {u : List Nat} {x : (Kd.tuple rs).den}, resV Γ own s rs vs u = some x → ∀ pre : Path,
    ∃ (L : List (Path × Nat)) (vals : List Value) (c : List Value), (L.Pairwise fun x y => x.2 ≠ y.2) ∧ (∀ x ∈ L, x.2 ∉ u) ∧ (vs.mapM (resRd a.tmps)).run P w = .ok vals w ∧ vals = tupV rs c ∧ vals.length = rs.length ∧ c.length = (Kd.tuple rs).size ∧
      ∀ S : OwnS, (own = true → ∀ x ∈ L, ∀ b q, G.φ b = some (false, x.2, q) → S (x.1 ++ q) b) → (own = false → ∀ q b, (G.φ b = none ∨ ∃ r q, r ∉ u ∧ G.φ b = some (false, r, q)) → S q b) → Rep w S (Kd.tuple rs) pre c x := by
  intro rs
  induction rs with
  | nil =>
    intro vs u x h pre
    cases vs with
    | nil => exact ⟨[], [], [], List.Pairwise.nil, fun _ h => by simp at h, by simp, rfl, rfl, rfl, fun S _ _ => rfl⟩
    | cons _ _ => simp [resV] at h
  | cons k ks ih =>
    intro vs u x h pre
    cases vs with
    | nil => simp [resV] at h
    | cons v vs =>
      simp only [resV] at h
      split at h
      · cases h
      · rename_i y hy
        split at h
        · cases h
        · rename_i u' ht
          split at h
          · rename_i y1 z hc hz
            have h := Option.some.inj h
            subst h
            have hk := cast?_eq hc
            obtain ⟨y0, ro, free⟩ := y
            simp only at hk ht hc
            subst hk
            obtain ⟨c1, r1, r2, r3, r4⟩ := oneV_ok hT g hy
            simp only at r1 r2 r3 r4
            obtain ⟨L, vals, c, l1, l2, l3, l4, l5, l6, l7⟩ := ih hz (pre ++ [.r])
            have hlen : c1.length = k.size := by
              cases free with
              | true => exact (r2 rfl).length
              | false =>
                cases ro with
                | none => exact (r3 rfl rfl).length
                | some z => exact ((r4 rfl z.1 z.2 rfl).1).elim fun T hh => hh.elim fun q hh => hh.1.length
            -- the first one by its new owners
            have hhead : ∃ L0 : List (Path × Nat), (∀ x ∈ L0, x.2 ∉ u ∧ x.2 ∈ u') ∧ L0.length ≤ 1 ∧ (∀ r, r ∉ u' → r ∉ u) ∧
                ∀ S : OwnS, (own = true → ∀ x ∈ L0, ∀ b q, G.φ b = some (false, x.2, q) → S (x.1 ++ q) b) → (own = false → ∀ q b, (G.φ b = none ∨ ∃ r q, r ∉ u ∧ G.φ b = some (false, r, q)) → S q b) → Rep w S k (pre ++ [.l]) c1 y1 := by
              have flatc : k.flat = true → ∃ T q, Rep w T k q c1 y1 → True := fun _ => ⟨noS, [], fun _ => trivial⟩
              have anyRep : ∃ T q, Rep w T k q c1 y1 := by
                cases free with
                | true => exact ⟨_, _, r2 rfl⟩
                | false =>
                  cases ro with
                  | none => exact ⟨_, _, r3 rfl rfl⟩
                  | some z => obtain ⟨T, q, hh, _⟩ := (r4 rfl z.1 z.2 rfl).1; exact ⟨T, q, hh⟩
              unfold takeR at ht
              rcases bif_some ht with ⟨hf, hu⟩ | ⟨hf, hu⟩
              · have hu := Option.some.inj hu
                subst hu
                refine ⟨[], fun _ h => by simp at h, by simp, fun _ h => h, fun S _ _ => ?_⟩
                simp only [Bool.or_eq_true] at hf
                rcases hf with hf | hf
                · obtain ⟨T, q, hh⟩ := anyRep
                  exact hh.flat w _ _ hf
                · subst hf
                  exact (r2 rfl).move fun p b hb _ => hb.elim
              · simp only [Bool.or_eq_false_iff] at hf
                obtain ⟨_, rfl⟩ := hf
                cases ro with
                | none =>
                  simp only at hu
                  rcases bif_some hu with ⟨_, hu⟩ | ⟨ho, hu⟩
                  · cases hu
                  · have hu := Option.some.inj hu
                    subst hu
                    exact ⟨[], fun _ h => by simp at h, by simp, fun _ h => h, fun S _ hS => (r3 rfl rfl).move fun p b hb _ => hS ho _ b (.inl hb)⟩
                | some z =>
                  obtain ⟨r, dep⟩ := z
                  simp only at hu
                  rcases bif_some hu with ⟨_, hu⟩ | ⟨hnu, hu⟩
                  · cases hu
                  · have hnu := any_beq hnu
                    rcases bif_some hu with ⟨ho, hu⟩ | ⟨ho, hu⟩
                    · rcases bif_some hu with ⟨hl, hu⟩ | ⟨_, hu⟩
                      · have hu := Option.some.inj hu
                        subst hu
                        have hl := of_decide_eq_true hl
                        refine ⟨[(pre ++ [.l], r)], fun x hx => ?_, by simp, fun r' h => fun hm => h (by simp [hm]), fun S hS _ => ?_⟩
                        · simp only [List.mem_singleton] at hx
                          subst hx
                          exact ⟨hnu, by simp⟩
                        · exact ((r4 rfl r dep rfl).2 hl).move fun p b hb _ => hS ho (pre ++ [St.l], r) (by simp) b p (by simpa using hb)
                      · cases hu
                    · have hu := Option.some.inj hu
                      subst hu
                      refine ⟨[], fun _ h => by simp at h, by simp, fun _ h => h, fun S _ hS => ?_⟩
                      obtain ⟨T, q, hh, hT'⟩ := (r4 rfl r dep rfl).1
                      refine hh.move fun p b hb _ => hS ho _ b ?_
                      rcases hT' _ b hb with h | ⟨q, h⟩
                      · exact .inl h
                      · exact .inr ⟨r, q, hnu, h⟩
            obtain ⟨L0, m1, m2, m3, m4⟩ := hhead
            refine ⟨L0 ++ L, mkVal k c1 :: vals, c1 ++ c, ?_, fun x hx => ?_, ?_, ?_, by simp [l5], by simp [Kd.tuple, Kd.size, hlen, l6], fun S hS1 hS2 => ?_⟩
            · rw [List.pairwise_append]
              refine ⟨?_, l1, fun x hx y hy e => l2 y hy (e ▸ (m1 x hx).2)⟩
              match L0, m2 with
              | [], _ => exact List.Pairwise.nil
              | [x], _ => exact List.pairwise_singleton _ _
            · rcases List.mem_append.1 hx with hx | hx
              · exact (m1 x hx).1
              · exact m3 _ (l2 x hx)
            · rw [List.mapM_cons]
              simp [r1, l3]
            · simp only [tupV, l4]
              rw [List.take_append_of_le_length (by omega), List.take_of_length_le (by omega), List.drop_append_of_le_length (by omega), List.drop_of_length_le (by omega)]
              rfl
            · simp only [Kd.tuple, Rep]
              rw [List.take_append_of_le_length (by omega), List.take_of_length_le (by omega), List.drop_append_of_le_length (by omega), List.drop_of_length_le (by omega)]
              refine ⟨m4 S (fun ho x hx => hS1 ho x (by simp [hx])) hS2, ?_⟩
              exact l7 S (fun ho x hx => hS1 ho x (by simp [hx])) (fun ho q b hb => hS2 ho q b (hb.imp _root_.id fun ⟨r, q, h1, h2⟩ => ⟨r, q, m3 r h1, h2⟩))
          · cases h
end
end Go.V
set_option linter.unusedVariables false
set_option linter.unusedSimpArgs false
namespace Go.V
theorem splitT_join : ∀ {a b : List Kd} (x : (Kd.tuple a).den) (y : (Kd.tuple b).den), splitT a b (joinT a b x y) = (x, y) := by
  intro a
  induction a with
  | nil => intro b x y; rfl
  | cons k a ih =>
    intro b x y
    have h := ih x.2 y
    have e : splitT (k :: a) b (joinT (k :: a) b x y) = ((x.1, (splitT a b (joinT a b x.2 y)).1), (splitT a b (joinT a b x.2 y)).2) := rfl
    rw [e, h]
    rfl
/-- What the labels are behind a call. -/
noncomputable def outχ (φ : Nat → Option (Bool × Nat × Path)) (Li : List (Nat × Nat)) (Lr : List (Path × Nat)) (own : Bool) : Nat → Option Lab := fun b =>
  match φ b with
  | some (false, r, q) => match Li.find? (fun x => Nat.beq x.2 r) with
    | some x => some (.io x.1 q)
    | none => if own = true then match Lr.find? (fun x => Nat.beq x.2 r) with
      | some x => some (.res (x.1 ++ q))
      | none => none
      else none
  | _ => none
theorem find_in {α : Type} : ∀ {L : List (α × Nat)}, (L.Pairwise fun x y => x.2 ≠ y.2) → ∀ x ∈ L, L.find? (fun y => Nat.beq y.2 x.2) = some x := by
  intro L
  induction L with
  | nil => intro _ x h; simp at h
  | cons y L ih =>
    intro hp x hx
    rw [List.pairwise_cons] at hp
    rcases List.mem_cons.1 hx with rfl | hx
    · simp
    · have : Nat.beq y.2 x.2 = false := by
        cases hb : Nat.beq y.2 x.2 with
        | false => rfl
        | true => exact absurd (Nat.eq_of_beq_eq_true hb) (hp.1 x hx)
      rw [List.find?_cons, this]
      exact ih hp.2 x hx
theorem find_out {α : Type} {L : List (α × Nat)} {r : Nat} (h : ∀ x ∈ L, x.2 ≠ r) : L.find? (fun y => Nat.beq y.2 r) = none := by
  rw [List.find?_eq_none]
  intro x hx hb
  exact h x hx (Nat.eq_of_beq_eq_true hb)
section
variable {P : Program} {Γ : Ctx} {Kp : Keep} {B0 : World} {n : Nat} {G : Gh} {s : State} {a : Act} {w w' : World} {id : Nat} {o : Oper} {Q : Exit → Act → World → Prop} {ws : Writes} {A : Nat → Option Value}
theorem run_results_of {fn : Func} {tmps : Array Value} {vals : List Value} (h : (fn.results.toList.mapM (resRd tmps)).run P w = .ok vals w) :
    (results fn tmps).run P w = .ok (if h : vals.toArray.size = 1 then vals.toArray[0] else .tuple vals.toArray) w := by
  have e : results fn tmps = (do
    let vs ← fn.results.mapM (resRd tmps)
    pure (if h : vs.size = 1 then vs[0] else .tuple vs)) := by
    unfold results
    congr 1
  rw [e, Array.mapM_eq_mapM_toList]
  simp [h]
theorem fn_ok (E : Env P Γ) (hm : P.follows .mixedOrders = true) {f : FuncId} {fn : Func} {body : Code} (hf : P.funcs[f]? = some fn) (hb : fn.body = some body) (hname : (fn.name == "runtime.NumGoroutine") = false)
    {ps : List (Kd × Bool)} {rs : List Kd} {own : Bool} {F : (Kd.tuple (ps.map (·.1))).den → Option (Kd.tuple (rs ++ (ps.filter (·.2)).map (·.1))).den} (hn : ps.length ≤ fn.ntmps) {q : Nat → Bool} (hq : ∀ d, q d = true → ioAt ps d = false ∧ d < fn.ntmps) (hd : dstsOk q body = true)
    {Pc : Nat → Option Piece} (hP : ∀ A : Nat → Option Value, (∀ d, q d = true → d < fn.ntmps ∧ A d = none) → ∀ id b o, (id, b) ∈ blocksOf body → Pc id = some o → o.ok ∧ PieceOk P fn.ntmps A (.block id b) o)
    (hF : ∀ d r, F d = some r → fnR Γ Pc own ps rs fn.results.toList body d = some r) : Contract P f ⟨ps, rs, own, F⟩ := by
  intro w ψ U vs d out hargs hU hψ hgl hout
  simp only at hargs d out hout
  have hlen := hargs.length
  have hrun := hF d out hout
  have hcall : (callFunc f vs.toArray).run P w = .ok (.enter f vs.toArray) w := by
    simp only [beq_eq_false_iff_ne, ne_eq] at hname
    simp [callFunc, hf, hb, hname]
  unfold CallsTo
  rw [hcall]
  simp only
  have hA : ∀ d, q d = true → d < fn.ntmps ∧ inA ps vs d = none := fun d hd => ⟨(hq d hd).2, by unfold inA; rw [(hq d hd).1]; rfl⟩
  refine calls_of_wp hf hb ?_
  have hstart := start_ok (n := fn.ntmps) hargs hU hψ hgl hn
  unfold fnR at hrun
  refine pi_ok E hm hA body hd (hP _ hA) hstart hrun fun e clk' s' a' w' hi' hk => ?_
  have hend : ∀ (hk : (match ioV s' 0 ps [] with
      | some y => match resV Γ own s' rs fn.results.toList y.2 with
        | some x => some (joinT rs _ x y.1)
        | none => none
      | none => none) = some out), a'.defers = [] ∧ ∃ v, (results fn a'.tmps).run P w' = .ok v w' ∧ ∃ χ, Post ⟨ps, rs, own, F⟩ ψ U vs w out χ v w' := by
    intro hk
    split at hk
    · rename_i y hy
      split at hk
      · rename_i x hx
        have hk := Option.some.inj hk
        obtain ⟨G, g⟩ := hi'.inv.ghost
        obtain ⟨Li, i1, i2, i3, i4, i5⟩ := ioV_ok g (y := y.1) (u' := y.2) hy
        obtain ⟨Lr, vals, c, r1, r2, r3, r4, r5, r6, r7⟩ := resV_ok E.tab g hx []
        refine ⟨hi'.inv.defers, _, run_results_of r3, outχ G.φ Li Lr own, ?_⟩
        have hχio : ∀ x ∈ Li, ∀ b q, G.φ b = some (false, x.2, q) → outχ G.φ Li Lr own b = some (.io x.1 q) := fun x hx b q hb => by
          unfold outχ
          rw [hb]
          simp only [find_in i2 x hx]
        have hdis : ∀ x ∈ Lr, ∀ z ∈ Li, z.2 ≠ x.2 := fun x hx z hz e => r2 x hx ((i4 x.2).2 (.inr ⟨z, hz, e⟩))
        have hχres : own = true → ∀ x ∈ Lr, ∀ b q, G.φ b = some (false, x.2, q) → outχ G.φ Li Lr own b = some (.res (x.1 ++ q)) := fun ho x hx b q hb => by
          unfold outχ
          rw [hb]
          simp only [find_out (hdis x hx), ho, if_true, find_in r1 x hx]
        have hX : ∀ b, G.φ b ≠ some far → U b ∨ w.heap.size ≤ b ∨ ψ b ≠ none := fun b hne => by
          by_cases hlt : b < w.heap.size
          · by_cases hz : ψ b = none
            · left
              apply Classical.byContradiction
              intro hu
              exact hne (g.col.out b ⟨hlt, hz, hu⟩)
            · exact .inr (.inr hz)
          · exact .inr (.inl (by omega))
        have hbase := hi'.inv.base
        have hsplit : splitT rs ((ps.filter (·.2)).map (·.1)) out = (x, y.1) := by rw [← hk]; exact splitT_join x y.1
        refine ⟨hbase.os, hbase.tape, hbase.output, hbase.size, fun b hlt hz => hbase.kept b ⟨hlt, hz⟩, fun b z hz => ?_, ⟨c, ?_, ?_⟩, ?_⟩
        · have : ∃ r q, G.φ b = some (false, r, q) := by
            unfold outχ at hz
            split at hz
            · rename_i r q hb; exact ⟨r, q, hb⟩
            · cases hz
          obtain ⟨r, q, hb⟩ := this
          obtain ⟨k1, k2⟩ := g.mine hb (.inl rfl)
          refine ⟨?_, k2⟩
          by_cases hlt : b < w.heap.size
          · right; intro hz2; exact k1 ⟨hlt, hz2⟩
          · left; omega
        · simp only
          match rs, c, r4, r5, r6 with
          | [], _, _, _, _ => trivial
          | [k], c, r4, r5, r6 =>
            subst r4
            simp [ResVal, tupV]
          | k :: k' :: ks, c, r4, r5, r6 =>
            subst r4
            simp [ResVal, tupV]
        · simp only
          rw [hsplit]
          simp only
          refine r7 _ (fun ho z hz b q hb => ?_) (fun ho q b hb => ?_)
          · have := hχres ho z hz b q hb
            simp only [ho, cond_true] at this ⊢
            exact this
          · rw [ho]
            simp only [cond_false]
            rcases hb with hb | ⟨r, q', hr, hb⟩
            · refine ⟨by unfold outχ; rw [hb], hX b (by rw [hb]; simp)⟩
            · refine ⟨?_, hX b (by rw [hb]; simp [far])⟩
              unfold outχ
              rw [hb]
              simp only [find_out fun z hz e => hr ((i4 r).2 (.inr ⟨z, hz, e⟩)), ho, Bool.false_eq_true, if_false]
        · simp only
          rw [hsplit]
          simp only
          refine i5 vs hlen (fun j v hio hj => ?_) _ hχio
          rw [Nat.zero_add]
          exact hi'.pin j v (by unfold inA; rw [hio]; exact hj)
      · cases hk
    · cases hk
  cases e with
  | normal =>
    obtain ⟨h1, v, h2, h3⟩ := hend hk
    exact ⟨h1, v, h2, h3⟩
  | ret =>
    obtain ⟨h1, v, h2, h3⟩ := hend hk
    exact ⟨h1, v, h2, h3⟩
  | exit j => cases hk
  | goto l => cases hk
/-- A contract for what is defined less often. -/
theorem Contract.less {f : FuncId} {ps : List (Kd × Bool)} {rs : List Kd} {own : Bool} {F : (Kd.tuple (ps.map (·.1))).den → Option (Kd.tuple (rs ++ (ps.filter (·.2)).map (·.1))).den} {ι : Type} (Fn : ι → (Kd.tuple (ps.map (·.1))).den → Option (Kd.tuple (rs ++ (ps.filter (·.2)).map (·.1))).den)
    (h : ∀ i, Contract P f ⟨ps, rs, own, Fn i⟩) (hF : ∀ d r, F d = some r → ∃ i, Fn i d = some r) : Contract P f ⟨ps, rs, own, F⟩ := by
  intro w ψ U vs d out hargs hU hψ hgl hout
  obtain ⟨i, hi⟩ := hF d out hout
  have := h i w ψ U vs d out hargs hU hψ hgl hi
  unfold CallsTo at this ⊢
  cases hr : (callFunc f vs.toArray).run P w with
  | ok x w1 =>
    rw [hr] at this
    cases x with
    | value v => obtain ⟨χ, p⟩ := this; exact ⟨χ, p.os, p.tape, p.output, p.size, p.kept, p.col, p.res, p.io⟩
    | enter f' args' =>
      refine Calls.mono this fun e w'' he => ?_
      cases e with
      | returned v => obtain ⟨χ, p⟩ := he; exact ⟨χ, p.os, p.tape, p.output, p.size, p.kept, p.col, p.res, p.io⟩
      | panicked chain => exact he.elim
      | outgrown => exact he.elim
    | row row args' => exact Rows.mono this fun v w'' ⟨χ, p⟩ => ⟨χ, p.os, p.tape, p.output, p.size, p.kept, p.col, p.res, p.io⟩
    | _ => exact this.elim
  | halt x w1 => rw [hr] at this; exact this.elim
end
end Go.V
set_option linter.unusedVariables false
set_option linter.unusedSimpArgs false
namespace Go.V
def assoc {α : Type} : List (Nat × α) → Nat → Option α
  | [], _ => none
  | x :: r, n => bif Nat.beq x.1 n then some x.2 else assoc r n
theorem assoc_mem {α : Type} {n : Nat} {y : α} : ∀ {l : List (Nat × α)}, assoc l n = some y → (n, y) ∈ l := by
  intro l
  induction l with
  | nil => intro h; cases h
  | cons x l ih =>
    intro h
    simp only [assoc] at h
    rcases bif_some h with ⟨h1, h2⟩ | ⟨_, h2⟩
    · have h1 := Nat.eq_of_beq_eq_true h1
      have h2 := Option.some.inj h2
      subst h1 h2
      simp
    · exact List.mem_cons_of_mem _ (ih h2)
/-- The tables, checked at once. -/
theorem tab_of {P : Program} {l : List (Nat × Kd)} {ar : TypeId → Option TypeId} (h : l.all (fun x => tyOkB P (assoc l) ar x.1 x.2) = true) : TabOk P (assoc l) ar := by
  intro t k hk
  have := List.all_eq_true.1 h _ (assoc_mem hk)
  exact this
def AllC (P : Program) : List (Nat × FSig) → Prop
  | [] => True
  | x :: r => Contract P x.1 x.2 ∧ AllC P r
theorem allC_get {P : Program} {n : Nat} {y : FSig} : ∀ {l : List (Nat × FSig)}, AllC P l → assoc l n = some y → Contract P n y := by
  intro l
  induction l with
  | nil => intro _ h; cases h
  | cons x l ih =>
    intro hA h
    simp only [assoc] at h
    rcases bif_some h with ⟨h1, h2⟩ | ⟨_, h2⟩
    · have h1 := Nat.eq_of_beq_eq_true h1
      have h2 := Option.some.inj h2
      subst h1 h2
      exact hA.1
    · exact ih hA.2 h2
theorem env_of {P : Program} {l : List (Nat × Kd)} {ar : TypeId → Option TypeId} {ln : Nat → Bool} {fs : List (Nat × FSig)} (h : TabOk P (assoc l) ar) (hfs : AllC P fs) : Env P { tk := assoc l, ar := ar, fs := assoc fs, lent := ln } :=
  ⟨h, fun _ _ hg => allC_get hfs hg, fun _ _ hg => (by cases hg), fun _ hg => (by cases hg)⟩
def AllV (P : Program) : List (Nat × FSig) → Prop
  | [] => True
  | x :: r => ContractV P x.2 ∧ AllV P r
theorem allV_get {P : Program} {n : Nat} {y : FSig} : ∀ {l : List (Nat × FSig)}, AllV P l → assoc l n = some y → ContractV P y := by
  intro l
  induction l with
  | nil => intro _ h; cases h
  | cons x l ih =>
    intro hA h
    simp only [assoc] at h
    rcases bif_some h with ⟨_, h2⟩ | ⟨_, h2⟩
    · have h2 := Option.some.inj h2
      subst h2
      exact hA.1
    · exact ih hA.2 h2
/-- Types of one cell: functions, pointers. -/
def inL (l : List Nat) (t : Nat) : Bool := l.any fun x => Nat.beq x t
def oneT (P : Program) (t : Nat) : Bool := match P.underlying t with
  | some (.struct _) | some (.array _ _) | none => false
  | _ => true
def W1Ok (P : Program) (w1 : Nat → Bool) : Prop := ∀ t, w1 t = true → ∀ w, (isAgg t).run P w = .ok false w
theorem w1_of {P : Program} {l : List Nat} (h : l.all (oneT P) = true) : W1Ok P (inL l) := by
  intro t ht w
  unfold inL at ht
  obtain ⟨x, hx, he⟩ := List.any_eq_true.1 ht
  have he := Nat.eq_of_beq_eq_true he
  subst he
  have := List.all_eq_true.1 h _ hx
  unfold oneT at this
  cases hu : P.underlying x with
  | none => rw [hu] at this; cases this
  | some u =>
    rw [hu] at this
    cases u <;> first | (cases this; done) | simp [isAgg, run_underlying hu]
theorem env_ofV {P : Program} {l : List (Nat × Kd)} {ar : TypeId → Option TypeId} {ln fz dm w1 : Nat → Bool} {fs vs : List (Nat × FSig)} (h : TabOk P (assoc l) ar) (hfs : AllC P fs) (hvs : AllV P vs) (hw : W1Ok P w1) : Env P { tk := assoc l, ar := ar, fs := assoc fs, lent := ln, cs := assoc vs, fz := fz, dm := dm, w1 := w1 } :=
  ⟨h, fun _ _ hg => allC_get hfs hg, fun _ _ hg => allV_get hvs hg, hw⟩
/-- A loop's piece in a code. -/
def PcOk (P : Program) (n : Nat) (A : Nat → Option Value) (body : Code) (x : Nat × Piece) : Prop :=
  ∃ c, (blocksOf body).filter (fun y => Nat.beq y.1 x.1) = [(x.1, .loop c)] ∧ x.2.ok ∧ PieceOk P n A (.block x.1 (.loop c)) x.2
def AllP (P : Program) (n : Nat) (A : Nat → Option Value) (body : Code) : List (Nat × Piece) → Prop
  | [] => True
  | x :: r => PcOk P n A body x ∧ AllP P n A body r
theorem allP_get {P : Program} {n : Nat} {A : Nat → Option Value} {body : Code} {id : Nat} {b : Code} {o : Piece} : ∀ {l : List (Nat × Piece)}, AllP P n A body l → (id, b) ∈ blocksOf body → assoc l id = some o → o.ok ∧ PieceOk P n A (.block id b) o := by
  intro l
  induction l with
  | nil => intro _ _ h; cases h
  | cons x l ih =>
    intro hA hb h
    simp only [assoc] at h
    rcases bif_some h with ⟨h1, h2⟩ | ⟨_, h2⟩
    · have h1 := Nat.eq_of_beq_eq_true h1
      have h2 := Option.some.inj h2
      subst h1 h2
      obtain ⟨c, hc, hok, hp⟩ := hA.1
      have : (x.1, b) ∈ (blocksOf body).filter (fun y => Nat.beq y.1 x.1) := List.mem_filter.2 ⟨hb, Nat.beq_refl _⟩
      rw [hc] at this
      simp only [List.mem_singleton, Prod.mk.injEq, true_and] at this
      subst this
      exact ⟨hok, hp⟩
    · exact ih hA.2 hb h2
def nodupB (f : Form) : Bool := decide ((f.map (·.1)).Nodup)
def outsB (o : Outs) : Bool := o.all fun x => nodupB x.2
theorem outs_ok {o : Outs} (h : outsB o = true) : Outs.ok o := fun x hx => of_decide_eq_true (List.all_eq_true.1 h x hx)
def inTmps (ps : List (Kd × Bool)) (hi : Nat) (d : Nat) : Bool := !ioAt ps d && Nat.blt d hi
theorem inTmps_ok {ps : List (Kd × Bool)} {hi d : Nat} (h : inTmps ps hi d = true) : ioAt ps d = false ∧ d < hi := by
  simp only [inTmps, Bool.and_eq_true, Bool.not_eq_true'] at h
  exact ⟨h.1, by have := h.2; rw [Nat.blt_eq] at this; exact this⟩
/-- A loop's piece, out of its rounds. -/
theorem pc_of {P : Program} {Γ : Ctx} (E : Env P Γ) (hm : P.follows .mixedOrders = true) {n : Nat} {np : List (Kd × Bool)} {A : Nat → Option Value} (hA : ∀ d, inTmps np n d = true → d < n ∧ A d = none) {inner : List (Nat × Piece)} {id : Nat} {head : Form} {outs : Outs} {body c : Code}
    (hc : (blocksOf c).filter (fun y => Nat.beq y.1 id) = [(id, .loop body)]) (hok : (nodupB head && outsB outs) = true) (hd : dstsOk (inTmps np n) body = true) (hin : AllP P n A body inner)
    {L : Nat → head.den → Option outs.den} (h0 : ∀ d, L 0 d = none) (hL : ∀ m d, L (m + 1) d = roundR Γ (assoc inner) id head outs body (L m) d) (m : Nat) : PcOk P n A c (id, ⟨head, outs, L m⟩) := by
  simp only [Bool.and_eq_true] at hok
  have h1 : (head.map (·.1)).Nodup := of_decide_eq_true hok.1
  have h2 := outs_ok hok.2
  exact ⟨body, hc, ⟨h1, h2⟩, loop_ok E hm hA ⟨h1, h2⟩ hd (fun id b o hb ho => allP_get hin hb ho) h0 hL m⟩
/-- A function's contract, out of the printed lemma. -/
theorem con_of {P : Program} {Γ : Ctx} (E : Env P Γ) (hm : P.follows .mixedOrders = true) {f : FuncId} {fn : Func} {body : Code} (hf : P.funcs[f]? = some fn) (hb : fn.body = some body) (hname : (fn.name == "runtime.NumGoroutine") = false)
    {ps : List (Kd × Bool)} {rs : List Kd} {own : Bool} {F : (Kd.tuple (ps.map (·.1))).den → Option (Kd.tuple (rs ++ (ps.filter (·.2)).map (·.1))).den} (hn : Nat.ble ps.length fn.ntmps = true) (hd : dstsOk (inTmps ps fn.ntmps) body = true)
    {Pc : List (Nat × Piece)} (hP : ∀ A : Nat → Option Value, (∀ d, inTmps ps fn.ntmps d = true → d < fn.ntmps ∧ A d = none) → AllP P fn.ntmps A body Pc)
    (hF : ∀ d, fnR Γ (assoc Pc) own ps rs fn.results.toList body d = F d) : Contract P f ⟨ps, rs, own, F⟩ :=
  fn_ok E hm hf hb hname (Nat.le_of_ble_eq_true hn) (fun d h => inTmps_ok h) hd (fun A hA id b o hb ho => allP_get (hP A hA) hb ho) (fun d r h => (hF d).trans h)
end Go.V
set_option linter.unusedVariables false
set_option linter.unusedSimpArgs false
namespace Go.V
/-- Data as a program's input has it. -/
def WfD : (k : Kd) → k.den → Prop
  | .int ik, n => (Lit.int ik n).wf = true
  | .bool, _ => True
  | .str, s => s.size ≤ maxLen
  | .slice e, l => List.length l ≤ maxLen ∧ ∀ x ∈ (l : List e.den), WfD e x
  | .unit, _ => True
  | .pair a b, d => WfD a d.1 ∧ WfD b d.2
  | .bx _, _ | .clo .., _ => True
theorem mapM_range' {β : Type} {f : Nat → Option β} : ∀ {n s : Nat} {l : List β}, (List.range' s n).mapM f = some l → l.length = n ∧ ∀ i, i < n → ∃ y, l[i]? = some y ∧ f (s + i) = some y := by
  intro n
  induction n with
  | zero => intro s l h; simp at h; subst h; exact ⟨rfl, fun i hi => by omega⟩
  | succ n ih =>
    intro s l h
    rw [List.range'_succ, List.mapM_cons] at h
    cases h1 : f s with
    | none => rw [h1] at h; simp at h
    | some y =>
      rw [h1] at h
      cases h2 : (List.range' (s + 1) n).mapM f with
      | none => rw [h2] at h; simp at h
      | some ys =>
        rw [h2] at h
        simp at h
        subst h
        obtain ⟨e1, e2⟩ := ih h2
        refine ⟨by simp [e1], fun i hi => ?_⟩
        cases i with
        | zero => exact ⟨y, rfl, h1⟩
        | succ i =>
          obtain ⟨z, z1, z2⟩ := e2 i (by omega)
          exact ⟨z, by simpa using z1, by rw [show s + (i + 1) = s + 1 + i by omega]; exact z2⟩
theorem mapM_range {β : Type} {f : Nat → Option β} {n : Nat} {l : List β} (h : (List.range n).mapM f = some l) : l.length = n ∧ ∀ i, i < n → ∃ y, l[i]? = some y ∧ f i = some y := by
  rw [List.range_eq_range'] at h
  obtain ⟨h1, h2⟩ := mapM_range' h
  exact ⟨h1, fun i hi => by simpa using h2 i hi⟩
theorem cell?_block {w : World} {b o : Nat} {v : Value} (h : w.cell? ⟨b, o, none⟩ = some v) : ∃ cs T fr, w.heap[b]? = some (.cells cs T fr) ∧ cs[o]? = some v := by
  unfold World.cell? at h
  split at h
  · rename_i c T fr hb
    exact ⟨c, T, fr, hb, by simpa using h⟩
  · cases h
theorem cells?_at {w : World} {b o n : Nat} {cs : List Value} (h : w.cells? 0 ⟨b, o, none⟩ n = some cs) (hn : 0 < n) : BlockOk w b (o + n) ∧ cellsAt w b o n = cs := by
  obtain ⟨_, hl, hc⟩ := World.cells?_some h
  have hlast := hc (n - 1) (by omega)
  rw [add_mk] at hlast
  have hl1 : n - 1 < cs.length := by omega
  rw [List.getElem?_eq_getElem hl1] at hlast
  obtain ⟨c, T, fr, hb, hv⟩ := cell?_block hlast
  have hlt := (Array.getElem?_eq_some_iff.1 hv).1
  have hok : BlockOk w b (o + n) := ⟨c, T, fr, hb, by omega⟩
  refine ⟨hok, ?_⟩
  apply List.ext_getElem?
  intro j
  by_cases hj : j < n
  · have h1 := hc j hj
    rw [add_mk] at h1
    have hlen := cellsAt_length hok
    have hv2 : ∃ v, (cellsAt w b o n)[j]? = some v := ⟨_, List.getElem?_eq_getElem (by omega)⟩
    obtain ⟨v, hv2⟩ := hv2
    have h3 := cell?_cellsAt hok j v hv2
    rw [add_mk, h1] at h3
    rw [hv2, h3]
  · rw [List.getElem?_eq_none (by rw [cellsAt_length hok]; omega), List.getElem?_eq_none (by omega)]
section
variable {H : Type} {enc : TypeId × Value → H} {P : Program} {tk : TypeId → Option Kd} {ar : TypeId → Option TypeId} {w : World} {held : Bool}
theorem cellsOf_eq (hT : TabOk P tk ar) {t : TypeId} {k : Kd} (ht : tk t = some k) : P.cellsOf t = k.size := by
  obtain ⟨i, z, hr⟩ := row_of hT ht
  simp [Program.cellsOf, hr.info, hr.size]
/-- Elements read one after the other. -/
theorem open_list {e : Kd} {f : Nat → List Value} {n : Nat} {R : List Value → e.den → Prop} (h : ∀ i, i < n → ∃ x, R (f i) x) : ∃ l : List e.den, l.length = n ∧ ∀ i (hi : i < l.length), R (f i) (l.get ⟨i, hi⟩) := by
  induction n with
  | zero => exact ⟨[], rfl, fun i hi => by simp at hi⟩
  | succ n ih =>
    obtain ⟨l, h1, h2⟩ := ih fun i hi => h i (by omega)
    obtain ⟨x, hx⟩ := h n (by omega)
    refine ⟨l ++ [x], by simp [h1], fun i hi => ?_⟩
    rw [List.length_append, List.length_singleton] at hi
    by_cases hl : i < l.length
    · have := h2 i hl
      simpa [List.getElem_append_left hl] using this
    · have : i = n := by omega
      subst this
      simpa [List.getElem_append_right (show l.length ≤ i by omega), h1] using hx
theorem trod_arr {t e : TypeId} {n fuel : Nat} {cs : List Value} {x : DataW H × List MemPlace} {spare : Nat → Bool} {base : Nat} (ht : P.underlying t = some (.array n e)) (h : DataW.trod enc P w base spare held fuel t cs = some x) :
    ∃ m, fuel = m + 1 ∧ cs.length = P.cellsOf t ∧ ∀ i, i < n → ∃ y, DataW.trod enc P w base spare held m e ((cs.drop (i * P.cellsOf e)).take (P.cellsOf e)) = some y := by
  cases fuel with
  | zero => simp [DataW.trod] at h
  | succ m =>
    unfold DataW.trod at h
    rw [ht] at h
    split at h <;> simp_all
    obtain ⟨_, xs, hp, _⟩ := h
    intro i hi
    obtain ⟨y, _, h2⟩ := (mapM_range hp).2 i hi
    exact ⟨y.1, y.2, h2⟩
theorem open_data (hT : TabOk P tk ar) : ∀ (k : Kd),
    (∀ (t : TypeId) (fuel : Nat) (cs : List Value) (x : DataW H × List MemPlace) (q : Path), tk t = some k → DataW.trod enc P w 0 (fun _ => true) held fuel t cs = some x → ∃ d : k.den, Rep w (fun _ _ => True) k q cs d ∧ WfD k d) ∧
    (∀ (fs : List Field) (off fuel : Nat) (cs : List Value) (q : Path), fieldsOk P tk fs off k = true → (∀ f ∈ fs, ∃ x, DataW.trod enc P w 0 (fun _ => true) held fuel f.type ((cs.drop f.offset).take (P.cellsOf f.type)) = some x) →
      ∃ d : k.den, Rep w (fun _ _ => True) k q ((cs.drop off).take k.size) d ∧ WfD k d) ∧
    (∀ (n j fuel : Nat) (e : TypeId) (cs : List Value) (q : Path), arrOk tk e n k = true → (∀ i, i < n → ∃ x, DataW.trod enc P w 0 (fun _ => true) held fuel e ((cs.drop ((j + i) * P.cellsOf e)).take (P.cellsOf e)) = some x) →
      ∃ d : k.den, Rep w (fun _ _ => True) k q ((cs.drop (j * P.cellsOf e)).take k.size) d ∧ WfD k d) := by
  intro k
  induction k with
  | bx k ih => exact ⟨fun t fuel cs x q ht h => absurd (tab_pure hT ht) (by simp [Kd.pure]), fun fs off fuel cs q h => by cases fs <;> simp [fieldsOk] at h, fun n j fuel e cs q h => by cases n <;> simp [arrOk] at h⟩
  | clo f a b iha ihb => exact ⟨fun t fuel cs x q ht h => absurd (tab_pure hT ht) (by simp [Kd.pure]), fun fs off fuel cs q h => by cases fs <;> simp [fieldsOk] at h, fun n j fuel e cs q h => by cases n <;> simp [arrOk] at h⟩
  | int ik =>
    refine ⟨fun t fuel cs x q ht h => ?_, fun fs off fuel cs q h => ?_, fun n j fuel e cs q h => ?_⟩
    · obtain ⟨n, h1, _, h2⟩ := DataW.trod_int (under_int hT ht) h
      exact ⟨n, h1, h2⟩
    · cases fs <;> simp [fieldsOk] at h
    · cases n <;> simp [arrOk] at h
  | bool =>
    refine ⟨fun t fuel cs x q ht h => ?_, fun fs off fuel cs q h => ?_, fun n j fuel e cs q h => ?_⟩
    · obtain ⟨b, h1, _⟩ := DataW.trod_bool (under_bool hT ht) h
      exact ⟨b, h1, trivial⟩
    · cases fs <;> simp [fieldsOk] at h
    · cases n <;> simp [arrOk] at h
  | str =>
    refine ⟨fun t fuel cs x q ht h => ?_, fun fs off fuel cs q h => ?_, fun n j fuel e cs q h => ?_⟩
    · obtain ⟨b, h1, _, h2⟩ := DataW.trod_string (under_str hT ht) h
      exact ⟨b, h1, h2⟩
    · cases fs <;> simp [fieldsOk] at h
    · cases n <;> simp [arrOk] at h
  | slice e ih =>
    refine ⟨fun t fuel cs x q ht h => ?_, fun fs off fuel cs q h => ?_, fun n j fuel e cs q h => ?_⟩
    · obtain ⟨te, hu, he, hpos⟩ := under_slice hT ht
      have hce := cellsOf_eq hT he
      rcases DataW.trod_slice hu h with ⟨h1, _⟩ | ⟨a, len, cap, elems, rest, n, _, h1, _, _, hlc, hcm, hel, helems, hrest, _⟩
      · exact ⟨[], by simp only [Rep]; exact .inl ⟨⟨none, h1⟩, trivial⟩, Nat.zero_le _, fun x hx => by cases hx⟩
      · rw [hce] at helems hrest
        obtain ⟨hrl, hrest⟩ := hrest rfl
        -- each place is there
        have hall : ∀ i, i < cap → ∃ c y, w.cells? 0 (a.add (i * e.size)) e.size = some c ∧ DataW.trod enc P w 0 (fun _ => true) held n te c = some y := by
          intro i hi
          by_cases hl : i < len
          · have := helems i hl
            rw [List.getElem?_eq_getElem (by omega)] at this
            obtain ⟨c, c1, c2⟩ := Option.bind_eq_some_iff.1 this
            exact ⟨c, _, c1, c2⟩
          · obtain ⟨j, rfl⟩ : ∃ j, i = len + j := ⟨i - len, by omega⟩
            have := hrest j (by omega)
            rw [List.getElem?_eq_getElem (by omega)] at this
            obtain ⟨c, c1, c2⟩ := Option.bind_eq_some_iff.1 this
            exact ⟨c, _, c1, c2⟩
        by_cases hc0 : cap = 0
        · have hl0 : len = 0 := by omega
          subst hc0 hl0
          exact ⟨[], by simp only [Rep]; exact .inl ⟨⟨some a, h1⟩, trivial⟩, Nat.zero_le _, fun x hx => by cases hx⟩
        · have hspot : a.spot = none := by
            obtain ⟨c, y, c1, _⟩ := hall 0 (by omega)
            obtain ⟨_, hl, hcell⟩ := World.cells?_some c1
            have h0 := hcell 0 hpos
            rw [List.getElem?_eq_getElem (by omega)] at h0
            have := World.cell?_spot h0
            simpa [Addr.add] using this
          obtain ⟨b, off, spot⟩ := a
          simp only at hspot
          subst hspot
          simp only [add_mk] at hall
          have hblk : BlockOk w b (off + cap * e.size) := by
            obtain ⟨c, y, c1, _⟩ := hall (cap - 1) (by omega)
            have := (cells?_at c1 hpos).1
            have e2 : off + (cap - 1) * e.size + e.size = off + cap * e.size := by
              rw [Nat.sub_mul, Nat.one_mul]
              have : e.size ≤ cap * e.size := Nat.le_mul_of_pos_left _ (by omega)
              omega
            rw [e2] at this
            exact this
          obtain ⟨l, l1, l2⟩ := open_list (e := e) (n := len) (f := fun i => cellsAt w b (off + i * e.size) e.size) (R := fun c x => (∀ q, Rep w (fun _ _ => True) e q c x) ∧ WfD e x) (fun i hi => by
            obtain ⟨c, y, c1, c2⟩ := hall i (by omega)
            obtain ⟨d, d1, d2⟩ := ih.1 te n c y [] he c2
            refine ⟨d, fun q => ?_, d2⟩
            rw [(cells?_at c1 hpos).2]
            exact d1.move fun _ _ _ _ => trivial)
          refine ⟨l, ?_, by omega, fun x hx => ?_⟩
          · simp only [Rep]
            refine .inr ⟨b, off, cap, by rw [h1, l1], by omega, trivial, hblk, fun i hi => (l2 i hi).1 _⟩
          · obtain ⟨i, hi, rfl⟩ := List.getElem_of_mem hx
            exact (l2 i hi).2
    · cases fs <;> simp [fieldsOk] at h
    · cases n <;> simp [arrOk] at h
  | unit =>
    refine ⟨fun t fuel cs x q ht h => ?_, fun fs off fuel cs q h _ => ⟨(), by simp [Rep, Kd.size], trivial⟩, fun n j fuel e cs q h _ => ⟨(), by simp [Rep, Kd.size], trivial⟩⟩
    have hcs : cs.length = 0 := by
      rcases under_agg hT ht rfl with ⟨fs, u1, _, _⟩ | ⟨n, e, u1, _, _⟩
      · obtain ⟨_, _, _, _, hl, _⟩ := DataW.trod_struct u1 h
        rw [hl, cellsOf_eq hT ht]; rfl
      · obtain ⟨_, _, hl, _⟩ := trod_arr u1 h
        rw [hl, cellsOf_eq hT ht]; rfl
    exact ⟨(), by simp only [Rep]; exact List.length_eq_zero_iff.1 hcs, trivial⟩
  | pair a b iha ihb =>
    have partB : ∀ (fs : List Field) (off fuel : Nat) (cs : List Value) (q : Path), fieldsOk P tk fs off (.pair a b) = true → (∀ f ∈ fs, ∃ x, DataW.trod enc P w 0 (fun _ => true) held fuel f.type ((cs.drop f.offset).take (P.cellsOf f.type)) = some x) →
        ∃ d : (Kd.pair a b).den, Rep w (fun _ _ => True) (.pair a b) q ((cs.drop off).take (Kd.pair a b).size) d ∧ WfD (.pair a b) d := by
      intro fs off fuel cs q h hall
      cases fs with
      | nil => simp [fieldsOk] at h
      | cons f fs =>
        simp only [fieldsOk, Bool.and_eq_true, decide_eq_true_eq] at h
        obtain ⟨⟨⟨h1, h2⟩, _⟩, h4⟩ := h
        have h1 := Nat.eq_of_beq_eq_true h1
        obtain ⟨x, hx⟩ := hall f (by simp)
        rw [cellsOf_eq hT h2, h1] at hx
        obtain ⟨d1, r1, w1⟩ := iha.1 f.type fuel _ x (q ++ [.l]) h2 hx
        obtain ⟨d2, r2, w2⟩ := ihb.2.1 fs (off + a.size) fuel cs (q ++ [.r]) h4 (fun g hg => hall g (by simp [hg]))
        refine ⟨(d1, d2), ?_, w1, w2⟩
        simp only [Rep, Kd.size]
        rw [List.take_take, Nat.min_eq_left (by omega), List.drop_take, List.drop_drop, show a.size + b.size - a.size = b.size by omega]
        exact ⟨r1, r2⟩
    have partC : ∀ (n j fuel : Nat) (e : TypeId) (cs : List Value) (q : Path), arrOk tk e n (.pair a b) = true → (∀ i, i < n → ∃ x, DataW.trod enc P w 0 (fun _ => true) held fuel e ((cs.drop ((j + i) * P.cellsOf e)).take (P.cellsOf e)) = some x) →
        ∃ d : (Kd.pair a b).den, Rep w (fun _ _ => True) (.pair a b) q ((cs.drop (j * P.cellsOf e)).take (Kd.pair a b).size) d ∧ WfD (.pair a b) d := by
      intro n j fuel e cs q h hall
      cases n with
      | zero => simp [arrOk] at h
      | succ n =>
        simp only [arrOk, Bool.and_eq_true, decide_eq_true_eq] at h
        obtain ⟨h2, h4⟩ := h
        have hce := cellsOf_eq hT h2
        obtain ⟨x, hx⟩ := hall 0 (by omega)
        rw [Nat.add_zero] at hx
        rw [hce] at hx
        obtain ⟨d1, r1, w1⟩ := iha.1 e fuel _ x (q ++ [.l]) h2 hx
        obtain ⟨d2, r2, w2⟩ := ihb.2.2 n (j + 1) fuel e cs (q ++ [.r]) h4 (fun i hi => by
          have := hall (i + 1) (by omega)
          rw [show j + (i + 1) = j + 1 + i by omega] at this
          exact this)
        refine ⟨(d1, d2), ?_, w1, w2⟩
        simp only [Rep, Kd.size]
        rw [hce] at r2 ⊢
        rw [Nat.add_mul, Nat.one_mul] at r2
        rw [List.take_take, Nat.min_eq_left (by omega), List.drop_take, List.drop_drop, show a.size + b.size - a.size = b.size by omega]
        exact ⟨r1, r2⟩
    refine ⟨fun t fuel cs x q ht h => ?_, partB, partC⟩
    have hsz := cellsOf_eq hT ht
    rcases under_agg hT ht rfl with ⟨fs, u1, _, u3⟩ | ⟨n, e, u1, _, u3⟩
    · obtain ⟨xs, m, _, _, hl, hxl, hf⟩ := DataW.trod_struct u1 h
      have := partB fs.toList 0 m cs q u3 (fun f hf' => by
        obtain ⟨i, hi, rfl⟩ := List.getElem_of_mem hf'
        have hi' : i < fs.size := by simpa using hi
        have h2 := hf i fs[i] (by simp [hi'])
        rw [List.getElem?_eq_getElem (by omega)] at h2
        exact ⟨_, by simpa using h2⟩)
      rw [List.drop_zero, List.take_of_length_le (by omega)] at this
      exact this
    · obtain ⟨m, _, hl, hf⟩ := trod_arr u1 h
      have := partC n 0 m e cs q u3 (fun i hi => by rw [Nat.zero_add]; exact hf i hi)
      rw [Nat.zero_mul, List.drop_zero, List.take_of_length_le (by omega)] at this
      exact this
theorem open_val (hT : TabOk P tk ar) {t : TypeId} {k : Kd} (ht : tk t = some k) {r : Reach} {base : Nat} {v : Value} {d : DataW H} {ps : List MemPlace} (hv : Value.okWide P w r base t v) (h : DataW.Trod enc P w 0 (fun _ => true) held t v d ps) :
    ∃ c x, v = mkVal k c ∧ Rep w (fun _ _ => True) k [] c x ∧ WfD k x := by
  obtain ⟨fuel, hf⟩ := h
  obtain ⟨x, h1, h2⟩ := (open_data hT k).1 t fuel _ _ [] ht hf
  refine ⟨v.cells.toList, x, ?_, h1, h2⟩
  have hc := mkVal_cells h1
  have hagg : isAggV v = k.agg := by
    cases k with
    | bx k => exact absurd (tab_pure hT ht) (by simp [Kd.pure])
    | clo f a b => exact absurd (tab_pure hT ht) (by simp [Kd.pure])
    | int ik =>
      simp only [Rep] at h1
      obtain ⟨n, rfl⟩ := Go.WideShapes.okWide_int (under_int hT ht) hv
      rfl
    | bool =>
      have hu := under_bool hT ht
      simp only [Value.okWide, hu, Cell.okWide] at hv
      cases v <;> simp_all [Cell.ok, isAggV, Kd.agg]
    | str =>
      obtain ⟨s, rfl⟩ := Go.WideShapes.okWide_string (under_str hT ht) hv
      rfl
    | slice e =>
      obtain ⟨te, hu, _, _⟩ := under_slice hT ht
      obtain ⟨a, len, cap, rfl⟩ := Go.WideShapes.okWide_slice hu hv
      rfl
    | unit =>
      rcases under_agg hT ht rfl with ⟨fs, u1, _, _⟩ | ⟨n, e, u1, _, _⟩ <;>
      · simp only [Value.okWide, u1] at hv
        obtain ⟨cs, rfl, _⟩ := hv
        rfl
    | pair a b =>
      rcases under_agg hT ht rfl with ⟨fs, u1, _, _⟩ | ⟨n, e, u1, _, _⟩ <;>
      · simp only [Value.okWide, u1] at hv
        obtain ⟨cs, rfl, _⟩ := hv
        rfl
  unfold mkVal
  rw [← hagg]
  cases v with
  | agg cs => simp [isAggV, Value.cells]
  | _ => simp [isAggV, Value.cells]
/-- All arguments opened. -/
theorem open_all (hT : TabOk P tk ar) {r : Reach} {base : Nat} : ∀ {ts : List TypeId} {ps : List (Kd × Bool)} {vs : List Value} {ds : List (DataW H)} {pl : List MemPlace} (i : Nat), ts.map tk = ps.map (fun p => some p.1) → (∀ p ∈ ps, p.2 = false) →
    (∀ (j : Nat) t v, ts[j]? = some t → vs[j]? = some v → Value.okWide P w r base t v) → DataW.TrodAll enc P w 0 (fun _ => true) held ts vs ds pl →
    ∃ x, ArgsOk w (fun _ => none) (fun _ => True) i ps vs x ∧ WfD (Kd.tuple (ps.map (·.1))) x := by
  intro ts
  induction ts with
  | nil =>
    intro ps vs ds pl i hm hps hv h
    cases ps with
    | nil =>
      obtain ⟨rfl, _, _⟩ := Go.ChangeShapes.trodAll_nil h
      exact ⟨(), rfl, trivial⟩
    | cons p ps => simp at hm
  | cons t ts ih =>
    intro ps vs ds pl i hm hps hv h
    cases ps with
    | nil => simp at hm
    | cons p ps =>
      obtain ⟨k, io⟩ := p
      have hio : io = false := hps (k, io) (by simp)
      subst hio
      simp only [List.map_cons, List.cons.injEq] at hm
      obtain ⟨v, vs', d, ds', p1, q1, rfl, rfl, rfl, h1, h2⟩ := Go.ChangeShapes.trodAll_cons h
      obtain ⟨c, x, e1, e2, e3⟩ := open_val hT hm.1 (hv 0 t v rfl rfl) h1
      obtain ⟨y, f1, f2⟩ := ih (i + 1) hm.2 (fun p hp => hps p (by simp [hp])) (fun j t v hj hw => hv (j + 1) t v (by simpa using hj) (by simpa using hw)) h2
      exact ⟨(x, y), ⟨c, vs', by rw [e1], e2, f1⟩, e3, f2⟩
/-- All arguments read as they did. -/
theorem shut_all {W W' : World} (hl : laidOutB P = true) (hb : Go.RowKit.Below W.heap.size W W') : ∀ {ts : List TypeId} {vs : List Value} {ds : List (DataW H)} {pl : List MemPlace}, (∀ t ∈ ts, P.readableRec t = true ∧ t < P.types.size) →
    DataW.TrodAll enc P W 0 (fun _ => true) true ts vs ds pl → ∃ pl', DataW.TrodAll enc P W' 0 (fun b => decide (b < W.heap.size)) true ts vs ds pl' := by
  intro ts
  induction ts with
  | nil =>
    intro vs ds pl _ h
    obtain ⟨rfl, rfl, _⟩ := Go.ChangeShapes.trodAll_nil h
    exact ⟨[], rfl⟩
  | cons t ts ih =>
    intro vs ds pl hr h
    obtain ⟨v, vs', d, ds', p1, q1, rfl, rfl, rfl, h1, h2⟩ := Go.ChangeShapes.trodAll_cons h
    obtain ⟨pl', h3⟩ := ih (fun t ht => hr t (by simp [ht])) h2
    have hlt : ∀ x ∈ p1, x.block < W.heap.size := by
      obtain ⟨m, hm⟩ := h1
      exact DataW.trod_lt m _ _ _ hm
    exact ⟨p1 ++ pl', p1, pl', Go.RowKit.Below.trod hl (hr t (by simp)).1 (hr t (by simp)).2 h1 hb hlt, h3, rfl⟩
/-- The library's variables: none, or a number and a table. -/
theorem gl_none {P : Program} {W : World} {ψ : Nat → Option (Nat × Path)} (h : glv P = none) (h2 : powv P = none) : Gl P W ψ := fun b hb => by rcases hb with hb | hb <;> simp_all
/-- A law's calls, out of its contract. -/
theorem law_calls (hT : TabOk P tk ar) (hl : laidOutB P = true) {f : FuncId} {fn : Func} (hf : P.funcs[f]? = some fn) (hbody : fn.body.isSome = true) (hname : (fn.name == "runtime.NumGoroutine") = false) {s : ChangeSpec} (hvars : s.vars = [])
    {rt : TypeId} (hres : fn.resultTypes = #[rt]) (hrt : P.underlying rt = some .bool) {ps : List (Kd × Bool)} (hps : ∀ p ∈ ps, p.2 = false) (hts : fn.params.toList.map tk = ps.map (fun p => some p.1)) (hread : fn.params.toList.all (fun t => P.readableRec t && decide (t < P.types.size)) = true)
    (hspec : ∀ ds : List (DataW H), ds.length = ps.length → s.fn H ds = { results := [.lit (.bool true)], args := ds })
    {own : Bool} {F : (Kd.tuple (ps.map (·.1))).den → Option (Kd.tuple ([.bool] ++ (ps.filter (·.2)).map (·.1))).den} (con : Contract P f ⟨ps, [.bool], own, F⟩) (hF : ∀ d, WfD (Kd.tuple (ps.map (·.1))) d → ∃ out, F d = some out ∧ (splitT [.bool] _ out).1.1 = true)
    {W : World} {base : Nat} {args : Array Value} {ds gs : List (DataW H)} {before : List MemPlace} (hgl : Gl P W (fun _ => none)) (hval : ∀ (j : Nat) t v, fn.params[j]? = some t → args[j]? = some v → Value.okWide P W .any base t v) (hW : DataW.Whole enc P fn.params.toList s.vars false W args.toList ds gs before) :
    Calls P f args W fun e W' => ∃ v, e = .returned v ∧ s.post enc P fn false true false false W args v W' := by
  have hW' := hW
  obtain ⟨p, q, hA, hV, rfl, hfz, hnd⟩ := hW
  rw [hvars] at hV
  obtain ⟨rfl, rfl⟩ := Go.ChangeShapes.trodVars_none hV
  obtain ⟨x, hargs, hwf⟩ := open_all hT 0 hts hps (fun j t v hj hv => hval j t v (by simpa using hj) (by simpa using hv)) hA
  obtain ⟨out, ho, htrue⟩ := hF x hwf
  have hc := con W (fun _ => none) (fun _ => True) args.toList x out hargs (fun _ _ => rfl) (fun b z h => by cases h) hgl ho
  have hcall : (callFunc f args).run P W = .ok (.enter f args) W := by
    simp only [beq_eq_false_iff_ne, ne_eq] at hname
    cases hb : fn.body with
    | none => rw [hb] at hbody; cases hbody
    | some c => simp [callFunc, hf, hname, hb]
  unfold CallsTo at hc
  simp only [Array.toArray_toList] at hc
  rw [hcall] at hc
  refine Calls.mono hc fun e W' he => ?_
  cases e with
  | panicked chain => exact he.elim
  | outgrown => exact he.elim
  | returned v =>
    obtain ⟨χ, hp⟩ := he
    refine ⟨v, rfl, ?_⟩
    have bel : Go.RowKit.Below W.heap.size W W' := ⟨hp.os, hp.tape, hp.output, hp.size, fun k hk => hp.kept k hk rfl⟩
    have hvt : v = .bool true := by
      obtain ⟨c, h1, h2⟩ := hp.res
      have h1 : v = mkVal .bool (c.take 1) := h1
      simp only [Kd.tuple, Rep] at h2
      have h3 : c.take 1 = [.bool true] := by have := h2.1; rw [htrue] at this; exact this
      rw [h1, h3]
      rfl
    subst hvt
    have hlen : ds.length = ps.length := by
      have key : ∀ (ts : List TypeId) (vs : List Value) (ds : List (DataW H)) (pl : List MemPlace), DataW.TrodAll enc P W 0 (fun _ => true) true ts vs ds pl → ds.length = ts.length := by
        intro ts
        induction ts with
        | nil => intro vs ds pl h; obtain ⟨_, rfl, _⟩ := Go.ChangeShapes.trodAll_nil h; rfl
        | cons t ts ih =>
          intro vs ds pl h
          obtain ⟨v, vs', d, ds', p1, q1, rfl, rfl, rfl, _, h2⟩ := Go.ChangeShapes.trodAll_cons h
          simp [ih _ _ _ h2]
      have h1 := key _ _ _ _ hA
      have h2 := congrArg List.length hts
      simp only [List.length_map] at h2
      omega
    have hs := hspec (ds ++ []) (by simpa using hlen)
    obtain ⟨pl', hback⟩ := shut_all hl bel (fun t ht => by
      have := List.all_eq_true.1 hread t ht
      simpa using this) hA
    refine ⟨ds, [], p ++ [], [], pl', [], hW', ?_, ?_, ?_, bel.frame _, fun h => by cases h⟩
    · rw [hs, hres]
      exact Go.ChangeShapes.trodAll_mk1 ⟨1, by simp [DataW.trod, Value.cells, hrt]⟩
    · rw [hs]
      simpa using hback
    · rw [hs, hvars]
      rfl
end
end Go.V
set_option linter.unusedVariables false
namespace Go.V
theorem idxIn_nat {i n : Nat} (h : i < n) : idxIn (i : Int) n = true := by simp [idxIn]; omega
theorem wrap_up {i n : Nat} (h : i < n) (hn : n ≤ maxLen) : IntKind.wrap .i64 ((i : Int) + 1) = ((i + 1 : Nat) : Int) := by
  unfold maxLen at hn
  rw [Go.IntWalk.i64_in _ (by omega)]
  rfl
theorem wrap_in (n : Int) (h0 : -9223372036854775808 ≤ n) (h1 : n ≤ 9223372036854775807) : IntKind.wrap .i64 n = n := Go.IntWalk.i64_in n ⟨h0, h1⟩
theorem at_get {e : Kd} {l : List e.den} {i : Nat} (h : i < l.length) : at_ e l i = l.get ⟨i, h⟩ := at_eq h
/-- A checking loop along a list. -/
theorem loop_every {H O γ : Type} {L : Nat → H → Option O} {r : (H → Option O) → H → Option O} (hL : ∀ k d, L (k + 1) d = r (L k) d) (l : List γ) {mk : Nat → H} {q : γ → Bool} {o f : O}
    (hr : ∀ back i (hi : i < l.length), r back (mk i) = if q l[i] = true then back (mk (i + 1)) else some o) (hf : ∀ back, r back (mk l.length) = some f) :
    ∀ k i, i ≤ l.length → l.length ≤ i + k → L (k + 1) (mk i) = some (if (l.drop i).all q = true then f else o) := by
  intro k
  induction k with
  | zero =>
    intro i h1 h2
    have e : i = l.length := by omega
    subst e
    rw [hL, hf, List.drop_of_length_le (Nat.le_refl _)]
    rfl
  | succ k ih =>
    intro i h1 h2
    by_cases h : i < l.length
    · rw [hL, hr _ i h, List.drop_eq_getElem_cons h, List.all_cons]
      by_cases hq : q l[i] = true
      · simp only [hq, if_true, Bool.true_and]
        exact ih (i + 1) (by omega) (by omega)
      · have hq' : q l[i] = false := by simpa using hq
        simp only [hq', Bool.false_eq_true, if_false, Bool.false_and]
    · have e : i = l.length := by omega
      subst e
      rw [hL, hf, List.drop_of_length_le (Nat.le_refl _)]
      rfl
/-- A loop that appends what is told of each number. -/
theorem loop_map {H O γ : Type} {L : Nat → H → Option O} {r : (H → Option O) → H → Option O} (hL : ∀ k d, L (k + 1) d = r (L k) d) {n : Nat} {mk : Nat → List γ → H} {f : Nat → γ} {o : List γ → O}
    (hr : ∀ back i m, i < n → m = (List.range i).map f → r back (mk i m) = back (mk (i + 1) (m ++ [f i]))) (hf : ∀ back m, m = (List.range n).map f → r back (mk n m) = some (o m)) :
    ∀ k, n ≤ k → L (k + 1) (mk 0 []) = some (o ((List.range n).map f)) := by
  have key : ∀ k i m, i ≤ n → n ≤ i + k → m = (List.range i).map f → L (k + 1) (mk i m) = some (o ((List.range n).map f)) := by
    intro k
    induction k with
    | zero =>
      intro i m h1 h2 h3
      have e : i = n := by omega
      subst e
      rw [hL, hf _ _ h3, h3]
    | succ k ih =>
      intro i m h1 h2 h3
      by_cases h : i < n
      · rw [hL, hr _ i m h h3]
        exact ih (i + 1) _ (by omega) (by omega) (by rw [h3, List.range_succ]; simp)
      · have e : i = n := by omega
        subst e
        rw [hL, hf _ _ h3, h3]
  intro k h
  exact key k 0 [] (Nat.zero_le _) (by omega) rfl
/-- A loop whose state is told for each number. -/
theorem loop_iter {H O : Type} {L : Nat → H → Option O} {r : (H → Option O) → H → Option O} (hL : ∀ k d, L (k + 1) d = r (L k) d) {n : Nat} {mk : Nat → H} {o : O}
    (hr : ∀ back i, i < n → r back (mk i) = back (mk (i + 1))) (hf : ∀ back, r back (mk n) = some o) : ∀ k, n ≤ k → L (k + 1) (mk 0) = some o := by
  have key : ∀ k i, i ≤ n → n ≤ i + k → L (k + 1) (mk i) = some o := by
    intro k
    induction k with
    | zero =>
      intro i h1 h2
      have e : i = n := by omega
      subst e
      rw [hL, hf]
    | succ k ih =>
      intro i h1 h2
      by_cases h : i < n
      · rw [hL, hr _ i h]
        exact ih (i + 1) (by omega) (by omega)
      · have e : i = n := by omega
        subst e
        rw [hL, hf]
  intro k h
  exact key k 0 (Nat.zero_le _) (by omega)
end Go.V
set_option linter.unusedVariables false
set_option linter.unusedSimpArgs false
namespace Go.V
theorem CallsTo.mono {P : Program} {f : FuncId} {args : Array Value} {w : World} {R R' : Value → World → Prop} (h : CallsTo P f args w R) (hR : ∀ v w', R v w' → R' v w') : CallsTo P f args w R' := by
  unfold CallsTo at h ⊢
  cases hr : (callFunc f args).run P w with
  | ok x w1 =>
    rw [hr] at h
    cases x with
    | value v => exact hR _ _ h
    | enter f' args' =>
      refine Calls.mono h fun e w'' he => ?_
      cases e with
      | returned v => exact hR _ _ he
      | panicked chain => exact he.elim
      | outgrown => exact he.elim
    | row row args' => exact Rows.mono h fun v w'' p => hR _ _ p
    | _ => exact h.elim
  | halt x w1 => rw [hr] at h; exact h.elim
theorem conV_0_1_1 {P : Program} {f : Nat} {k0 c0 : Kd} {rs : List Kd} {own : Bool} {F : (k0.den × c0.den × Unit) → Option (Kd.tuple (rs ++ [])).den} (h : Contract P f ⟨[(k0, false), (c0, false)], rs, own, F⟩) :
    ContractV P ⟨[(k0, false), (.clo f (.unit) (.pair c0 (.unit)), false)], rs, own, fun (d : k0.den × ((Unit) × (c0.den × Unit)) × Unit) => F (d.1, d.2.1.2)⟩ := by
  intro w ψ U vs d out hargs hU hψ hgl ho
  obtain ⟨x0, r0, rfl, h0, ⟨xc, rc, rfl, hc, he⟩⟩ := hargs
  have he : rc = [] := he
  subst he
  obtain ⟨y1, y2, rfl, hf, hc⟩ := hc
  refine ⟨f, _, _, [mkVal k0 x0], rfl, ?_⟩
  have key := h w ψ U [mkVal k0 x0, mkVal c0 (y2.take c0.size)] (d.1, d.2.1.2) out ⟨_, _, rfl, h0, ⟨_, _, rfl, (hc.1.move fun _ _ hb _ => hb), rfl⟩⟩ hU hψ hgl ho
  have e : ((tupK (.unit) y1).toArray ++ [mkVal k0 x0].toArray ++ (tupK (.pair c0 (.unit)) y2).toArray) = [mkVal k0 x0, mkVal c0 (y2.take c0.size)].toArray := by simp [tupK]
  rw [e]
  exact key.mono fun v w' ⟨χ, p⟩ => ⟨χ, p.os, p.tape, p.output, p.size, p.kept, p.col, p.res, trivial⟩
theorem conV_0_1_4 {P : Program} {f : Nat} {k0 c0 c1 c2 c3 : Kd} {rs : List Kd} {own : Bool} {F : (k0.den × c0.den × c1.den × c2.den × c3.den × Unit) → Option (Kd.tuple (rs ++ [])).den} (h : Contract P f ⟨[(k0, false), (c0, false), (c1, false), (c2, false), (c3, false)], rs, own, F⟩) :
    ContractV P ⟨[(k0, false), (.clo f (.unit) (.pair c0 (.pair c1 (.pair c2 (.pair c3 (.unit))))), false)], rs, own, fun (d : k0.den × ((Unit) × (c0.den × c1.den × c2.den × c3.den × Unit)) × Unit) => F (d.1, d.2.1.2)⟩ := by
  intro w ψ U vs d out hargs hU hψ hgl ho
  obtain ⟨x0, r0, rfl, h0, ⟨xc, rc, rfl, hc, he⟩⟩ := hargs
  have he : rc = [] := he
  subst he
  obtain ⟨y1, y2, rfl, hf, hc⟩ := hc
  refine ⟨f, _, _, [mkVal k0 x0], rfl, ?_⟩
  have key := h w ψ U [mkVal k0 x0, mkVal c0 (y2.take c0.size), mkVal c1 ((y2.drop c0.size).take c1.size), mkVal c2 (((y2.drop c0.size).drop c1.size).take c2.size), mkVal c3 ((((y2.drop c0.size).drop c1.size).drop c2.size).take c3.size)] (d.1, d.2.1.2) out ⟨_, _, rfl, h0, ⟨_, _, rfl, (hc.1.move fun _ _ hb _ => hb), ⟨_, _, rfl, (hc.2.1.move fun _ _ hb _ => hb), ⟨_, _, rfl, (hc.2.2.1.move fun _ _ hb _ => hb), ⟨_, _, rfl, (hc.2.2.2.1.move fun _ _ hb _ => hb), rfl⟩⟩⟩⟩⟩ hU hψ hgl ho
  have e : ((tupK (.unit) y1).toArray ++ [mkVal k0 x0].toArray ++ (tupK (.pair c0 (.pair c1 (.pair c2 (.pair c3 (.unit))))) y2).toArray) = [mkVal k0 x0, mkVal c0 (y2.take c0.size), mkVal c1 ((y2.drop c0.size).take c1.size), mkVal c2 (((y2.drop c0.size).drop c1.size).take c2.size), mkVal c3 ((((y2.drop c0.size).drop c1.size).drop c2.size).take c3.size)].toArray := by simp [tupK]
  rw [e]
  exact key.mono fun v w' ⟨χ, p⟩ => ⟨χ, p.os, p.tape, p.output, p.size, p.kept, p.col, p.res, trivial⟩
theorem conV_0_1_0 {P : Program} {f : Nat} {k0 : Kd} {rs : List Kd} {own : Bool} {F : (k0.den × Unit) → Option (Kd.tuple (rs ++ [])).den} (h : Contract P f ⟨[(k0, false)], rs, own, F⟩) :
    ContractV P ⟨[(k0, false), (.clo f (.unit) (.unit), false)], rs, own, fun (d : k0.den × ((Unit) × (Unit)) × Unit) => F (d.1, d.2.1.2)⟩ := by
  intro w ψ U vs d out hargs hU hψ hgl ho
  obtain ⟨x0, r0, rfl, h0, ⟨xc, rc, rfl, hc, he⟩⟩ := hargs
  have he : rc = [] := he
  subst he
  obtain ⟨y1, y2, rfl, hf, hc⟩ := hc
  refine ⟨f, _, _, [mkVal k0 x0], rfl, ?_⟩
  have key := h w ψ U [mkVal k0 x0] (d.1, d.2.1.2) out ⟨_, _, rfl, h0, rfl⟩ hU hψ hgl ho
  have e : ((tupK (.unit) y1).toArray ++ [mkVal k0 x0].toArray ++ (tupK (.unit) y2).toArray) = [mkVal k0 x0].toArray := by simp [tupK]
  rw [e]
  exact key.mono fun v w' ⟨χ, p⟩ => ⟨χ, p.os, p.tape, p.output, p.size, p.kept, p.col, p.res, trivial⟩
end Go.V
namespace Go.V.W
abbrev E := Int × Int × Unit
abbrev Gr := Int × List E × Unit
def okL {α : Type} (l : List α) : Bool := decide (l.length ≤ lim)
def printed1 (b : UInt8) : Bool := decide (32 ≤ b.toNat) && decide (b.toNat ≤ 126)
def printedB (s : ByteArray) : Bool := s.data.toList.all printed1
def G_toIntA2 (d : E × Unit) : Option (E × Unit) := some (d.1, ())
def G_toIntA2S (d : List E × Unit) : Option (List E × Unit) := if okL d.1 = true then some (d.1, ()) else none
def G_toIntS (d : List Int × Unit) : Option (List Int × Unit) := if okL d.1 = true then some (d.1, ()) else none
def G_eqIntA2 (d : E × E × Unit) : Option (Bool × Unit) := some (decide (d.1 = d.2.1), ())
def G_eqIntA2S (d : List E × List E × Unit) : Option (Bool × Unit) := if okL d.1 = true then some (decide (d.1 = d.2.1), ()) else none
def G_eqIntS (d : List Int × List Int × Unit) : Option (Bool × Unit) := if okL d.1 = true then some (decide (d.1 = d.2.1), ()) else none
/-- Strictly rising. -/
def risingB : List Int → Bool
  | [] => true
  | [_] => true
  | a :: b :: l => decide (a < b) && risingB (b :: l)
def inB (lo hi : Int) (x : Int) : Bool := decide (lo ≤ x) && decide (x ≤ hi)
def G_l1Rising (d : List Int × Int × Int × Unit) : Option (Bool × Unit) := if okL d.1 = true then some (d.1.all (inB d.2.1 d.2.2.1) && risingB d.1, ()) else none
def G_increasing (d : List Int × Unit) : Option (Bool × Unit) := if okL d.1 = true then some (risingB d.1, ()) else none
def G_allWithin (d : List Int × Int × Int × Unit) : Option (Bool × Unit) := if okL d.1 = true then some (d.1.all (inB d.2.1 d.2.2.1), ()) else none
/-- Lists compared from the front. -/
def cmpL : List Int → List Int → Int
  | [], [] => 0
  | [], _ :: _ => -1
  | _ :: _, [] => 1
  | a :: l, b :: m => if a < b then -1 else if b < a then 1 else cmpL l m
def G_compare (d : List Int × List Int × Unit) : Option (Int × Unit) := if (okL d.1 && okL d.2.1) = true then some (cmpL d.1 d.2.1, ()) else none
def lessE (a b : E) : Bool := decide (a.1 < b.1) || (decide (a.1 = b.1) && decide (a.2.1 < b.2.1))
def risingE : List E → Bool
  | [] => true
  | [_] => true
  | a :: b :: l => lessE a b && risingE (b :: l)
def edgeB (n : Int) (e : E) : Bool := decide (0 ≤ e.1) && decide (e.1 < e.2.1) && decide (e.2.1 < n)
def graphB (g : Gr) : Bool := decide (0 ≤ g.1) && decide (g.1 ≤ 8) && g.2.1.all (edgeB g.1) && risingE g.2.1
def G_graph (d : Gr × Unit) : Option (Bool × Unit) := if okL d.1.2.1 = true then some (graphB d.1, ()) else none
def okK (k : Int) : Bool := decide (0 ≤ k) && decide (k ≤ 4398046511104)
def markL : Int → List Int → List Int
  | _, [] => []
  | k, _ :: l => k :: markL (k + 1) l
def markA : Int → List E → List E
  | _, [] => []
  | k, _ :: l => (k, k + 1, ()) :: markA (k + 2) l
def heldL : Int → List Int → Int
  | k, [] => k
  | k, x :: l => if x = k then heldL (k + 1) l else -1
def G_markIntS (d : List Int × Int × Unit) : Option (Int × List Int × Unit) := if (okL d.1 && okK d.2.1) = true then some (d.2.1 + (d.1.length : Int), markL d.2.1 d.1, ()) else none
def G_markIntA2S (d : List E × Int × Unit) : Option (Int × List E × Unit) := if (okL d.1 && okK d.2.1) = true then some (d.2.1 + 2 * (d.1.length : Int), markA d.2.1 d.1, ()) else none
def G_heldIntS (d : List Int × Int × Unit) : Option (Int × Unit) := if (okL d.1 && okK d.2.1) = true then some (heldL d.2.1 d.1, ()) else none
def okLL (l : List (List Int)) : Bool := okL l && l.all okL
def szStep (a : Int) (n : Nat) : Int := if a - (n : Int) < 0 then -1 else a - (n : Int)
def szFold : Int → List (List Int) → Int
  | a, [] => a
  | a, x :: l => if szStep a x.length < 0 then -1 else szFold (szStep a x.length) l
def okMx (n : Nat) : Bool := decide (n ≤ maxLen)
def G_szIntSS (d : List (List Int) × Int × Unit) : Option (Int × Unit) :=
  if (okMx d.1.length && d.1.all (fun x => okMx x.length) && decide (0 ≤ d.2.1) && decide (d.2.1 ≤ 1048576)) = true then some (if szStep d.2.1 d.1.length < 0 then -1 else szFold (szStep d.2.1 d.1.length) d.1, ()) else none
def G_toIntSS (d : List (List Int) × Unit) : Option (List (List Int) × Unit) := if okLL d.1 = true then some (d.1, ()) else none
def G_eqIntSS (d : List (List Int) × List (List Int) × Unit) : Option (Bool × Unit) := if okLL d.1 = true then some (decide (d.1 = d.2.1), ()) else none
abbrev Tt := Gr × Int × List (List Int) × Unit
def badT (t : Tt) (x : List Int) : Bool := !risingB x || !x.all (inB 0 (IntKind.wrap .i64 (t.2.1 - 1)))
def timeB (t : Tt) : Bool := graphB t.1 && decide (t.1.1 > 0) && inB 1 4 t.2.1 && decide (t.2.2.1.length = t.1.2.1.length) && !t.2.2.1.any (badT t)
def okT (t : Tt) : Bool := okL t.1.2.1 && okLL t.2.2.1
def G_l11Good (d : Tt × Unit) : Option (Bool × Unit) := if okT d.1 = true then some (timeB d.1, ()) else none
/-- The first place where something is so. -/
def idxN {α : Type} (q : α → Bool) : List α → Nat → Option Nat
  | [], _ => none
  | x :: l, i => if q x = true then some i else idxN q l (i + 1)
def idxI (o : Option Nat) : Int := match o with | some i => (i : Int) | none => -1
def G_index84 (d : List (List Int) × (Unit × Tt × Unit) × Unit) : Option (Int × Unit) := if okLL d.1 = true then some (idxI (idxN (badT d.2.1.2.1) d.1 0), ()) else none
def sumL : List (List Int) → Int
  | [] => 0
  | x :: l => (x.length : Int) + sumL l
def markLL : Int → List (List Int) → List (List Int)
  | _, [] => []
  | k, x :: l => markL k x :: markLL (k + x.length) l
def heldLL : Int → List (List Int) → Int
  | k, [] => k
  | k, x :: l => if heldL k x < 0 then -1 else heldLL (heldL k x) l
def G_markIntSS (d : List (List Int) × Int × Unit) : Option (Int × List (List Int) × Unit) := if (okLL d.1 && okK d.2.1 && okK (d.2.1 + sumL d.1)) = true then some (d.2.1 + sumL d.1, markLL d.2.1 d.1, ()) else none
def G_heldIntSS (d : List (List Int) × Int × Unit) : Option (Int × Unit) := if (okLL d.1 && okK d.2.1 && okK (d.2.1 + sumL d.1)) = true then some (heldLL d.2.1 d.1, ()) else none
def orN (ms : List Nat) (x y : Nat) : List Nat := ms.set x (ms.getD x 0 ||| 2 ^ y)
def addN (ms : List Nat) (e : E) : List Nat := orN (orN ms e.1.toNat e.2.1.toNat) e.2.1.toNat e.1.toNat
def netN (n : Nat) (es : List E) : List Nat := es.foldl addN (List.replicate n 0)
def toI (ms : List Nat) : List Int := ms.map fun m : Nat => (m : Int)
abbrev Nt := List Int × Unit
def G_netOf (d : Gr × Unit) : Option (Nt × Unit) := if (decide (0 ≤ d.1.1) && decide (d.1.1 ≤ 8) && okL d.1.2.1 && d.1.2.1.all (edgeB d.1.1)) = true then some ((toI (netN d.1.1.toNat d.1.2.1), ()), ()) else none
def G_l1Has (d : List Int × Int × Unit) : Option (Bool × Unit) := if okL d.1 = true then some (d.1.any (fun y => y == d.2.1), ()) else none
def G_index (d : List Int × Int × Unit) : Option (Int × Unit) := if okL d.1 = true then some (idxI (idxN (fun y => d.2.1 == y) d.1 0), ()) else none
/-- The edges that are open at a remainder. -/
def selE : List E → List (List Int) → Int → List E
  | e :: es, t :: ts, r => if t.any (fun y => y == r) = true then e :: selE es ts r else selE es ts r
  | _, _, _ => []
def openE (t : Tt) (r : Int) : List E := selE t.1.2.1 t.2.2.1 r
def G_l11Open (d : Tt × Int × Unit) : Option (Gr × Unit) := if (timeB d.1 && okT d.1 && decide (0 ≤ d.2.1) && decide (d.2.1 ≤ 5000)) = true then some ((d.1.1.1, openE d.1 (d.2.1.tmod d.1.2.1), ()), ()) else none
def netsL (t : Tt) : List Nt := (List.range t.2.1.toNat).map fun r : Nat => (toI (netN t.1.1.toNat (openE t (r : Int))), ())
def G_openNets (d : Tt × Unit) : Option (List Nt × Unit) := if (timeB d.1 && okT d.1) = true then some (netsL d.1, ()) else none
def hasN (ms : List Nat) (x y : Nat) : Bool := (ms.getD x 0).testBit y
def fromI (l : List Int) : List Nat := l.map Int.toNat
def smallN (l : List Int) : Bool := decide (l.length ≤ 8) && l.all fun m => decide (0 ≤ m) && decide (m < 256)
/-- The numbers from x on, k of them, for which p holds. -/
def setF (p : Nat → Bool) : Nat → Nat → List Int
  | 0, _ => []
  | k + 1, x => if p x = true then (x : Int) :: setF p k (x + 1) else setF p k (x + 1)
def nearI (es : List E) (a b : Int) : Bool := es.any fun e => (e.1 == a && e.2.1 == b) || (e.1 == b && e.2.1 == a)
def G_l2Near (d : Gr × Int × Int × Unit) : Option (Bool × Unit) := if okL d.1.2.1 = true then some (nearI d.1.2.1 d.2.1 d.2.2.1, ()) else none
def G_l2Neighbors (d : Gr × Int × Unit) : Option (List Int × Unit) := if (okL d.1.2.1 && decide (0 ≤ d.1.1) && decide (d.1.1 ≤ 8)) = true then some (setF (fun y => nearI d.1.2.1 d.2.1 (y : Int)) d.1.1.toNat 0, ()) else none
def putL (x : Int) : List Int → List Int
  | [] => [x]
  | a :: l => if a < x then a :: putL x l else if a = x then a :: l else x :: a :: l
def okS1 (l : List Int) : Bool := decide (l.length ≤ 1000)
def G_l1Put (d : List Int × Int × Unit) : Option (List Int × Unit) := if okS1 d.1 = true then some (putL d.2.1 d.1, ()) else none
def ballL (n : Nat) (es : List E) (x : Int) : List Int := putL x (setF (fun y => nearI es x (y : Int)) n 0)
def G_setOf (d : Int × Unit) : Option (List Int × Unit) := if (decide (0 ≤ d.1) && decide (d.1 < 256)) = true then some (setF (fun y => d.1.toNat.testBit y) 8 0, ()) else none
def G_repeat (d : List Int × Int × Unit) : Option (List Int × Unit) := if (decide (d.1.length = 1) && decide (1 ≤ d.2.1) && decide (d.2.1 ≤ 8)) = true then some (List.replicate d.2.1.toNat (d.1.headD 0), ()) else none
abbrev Tab := List (List Int)
def tab2 (T : Tab) (c r : Int) : Int := (T.getD c.toNat []).getD r.toNat 0
def worstL (row : Int → Int) : List Int → Int → Int
  | [], m => m
  | b :: bs, m => if row b < 0 then -1 else worstL row bs (if m < row b then row b else m)
/-- The closed neighborhoods, by edges and by bits. -/
def ballF (n : Nat) (es : List E) (x : Int) : List Int := setF (fun y => nearI es x (y : Int) || decide ((y : Int) = x)) n 0
def ballM (l : List Int) (x : Int) : List Int := setF (fun y => (((fromI l).getD x.toNat 0) ||| 2 ^ x.toNat).testBit y) 8 0
def afterT (ball : Int → List Int) (T : Tab) (b r : Int) : Int := if b = r then 0 else worstL (tab2 T b) (ball r) 0
def sqL (n : Nat) (T : Tab) : Bool := decide (T.length = n) && T.all fun row => decide (row.length = n)
def grB (g : Gr) : Bool := okL g.2.1 && decide (0 ≤ g.1) && decide (g.1 ≤ 8) && g.2.1.all (edgeB g.1)
/-- The times, as a function. -/
def tabL (n : Nat) (f : Nat → Nat → Int) : Tab := (List.range n).map fun c => (List.range n).map fun r => f c r
def canF (n : Nat) (ball : Int → List Int) (f : Nat → Nat → Int) (c r : Nat) : Bool := decide (f c r < 0) && (ball (c : Int)).any fun b => decide (0 ≤ afterT ball (tabL n f) b (r : Int))
def stepF (n : Nat) (ball : Int → List Int) (t : Int) (f : Nat → Nat → Int) (c r : Nat) : Int := if canF n ball f c r = true then t else f c r
def startF (c r : Nat) : Int := if c = r then 0 else -1
def netB (l : List Int) : Bool := smallN l && l.all fun m => decide (m < ((2 ^ l.length : Nat) : Int))
def G_timeAfter (d : Nt × List Int × Int × Unit) : Option (Int × Unit) := if (netB d.1.1 && decide (d.2.1.length = d.1.1.length) && inB 0 ((d.1.1.length : Int) - 1) d.2.2.1) = true then some (worstL (fun z => d.2.1.getD z.toNat 0) (ballM d.1.1 d.2.2.1) 0, ()) else none
end Go.V.W
namespace Go.V.W
def okL3 (l : List Tab) : Bool := okL l && l.all okLL
def G_eqIntSSS (d : List Tab × List Tab × Unit) : Option (Bool × Unit) := if okL3 d.1 = true then some (decide (d.1 = d.2.1), ()) else none
def ballsT (t : Tt) : List Tab := (List.range t.2.1.toNat).map fun r : Nat => (List.range t.1.1.toNat).map fun x : Nat => ballF t.1.1.toNat (openE t (r : Int)) (x : Int)
def G_l11Balls (d : Tt × Unit) : Option (List Tab × Unit) := if (timeB d.1 && okT d.1) = true then some (ballsT d.1, ()) else none
/-- Balls of all remainders, tables of all remainders. -/
def okB (n : Nat) (B : List Tab) : Bool := decide (1 ≤ B.length) && decide (B.length ≤ 8) && B.all fun b => decide (b.length = n) && b.all fun l => decide (l.length ≤ 8) && l.all (inB 0 ((n : Int) - 1))
def okT3 (n p : Nat) (T : List Tab) : Bool := decide (T.length = p) && T.all (sqL n)
def ballB (B : List Tab) (r : Int) (x : Int) : List Int := (B.getD r.toNat []).getD x.toNat []
def nextT (p : Nat) (T : List Tab) (r : Int) : Tab := T.getD ((r + 1).tmod (p : Int)).toNat []
def nB (B : List Tab) : Nat := (B.headD []).length
def okA (d : List Tab × List Tab × Int × Int × Int × Unit) : Bool := okB (nB d.1) d.1 && decide (nB d.1 ≤ 8) && okT3 (nB d.1) d.1.length d.2.1 && inB 0 ((d.1.length : Int) - 1) d.2.2.1 && inB 0 ((nB d.1 : Int) - 1) d.2.2.2.1 && inB 0 ((nB d.1 : Int) - 1) d.2.2.2.2.1
def G_l11After (d : List Tab × List Tab × Int × Int × Int × Unit) : Option (Int × Unit) := if okA d = true then some (afterT (ballB d.1 d.2.2.1) (nextT d.1.length d.2.1 d.2.2.1) d.2.2.2.1 d.2.2.2.2.1, ()) else none
def netsB (n : Nat) (nets : List Nt) : Bool := decide (1 ≤ nets.length) && decide (nets.length ≤ 8) && nets.all fun w => netB w.1 && decide (w.1.length = n)
def nN (nets : List Nt) : Nat := (nets.headD ([], ())).1.length
def ballN (nets : List Nt) (r : Nat) : Int → List Int := ballM (nets.getD r ([], ())).1
def tab3 (p n : Nat) (f : Nat → Nat → Nat → Int) : List Tab := (List.range p).map fun r => tabL n (f r)
def can3 (p n : Nat) (ball : Nat → Int → List Int) (f : Nat → Nat → Nat → Int) (r c q : Nat) : Bool := decide (f r c q < 0) && (ball r (c : Int)).any fun b => decide (0 ≤ afterT (ball r) (tabL n (f ((r + 1) % p))) b (q : Int))
def step3 (p n : Nat) (ball : Nat → Int → List Int) (t : Int) (f : Nat → Nat → Nat → Int) (r c q : Nat) : Int := if can3 p n ball f r c q = true then t else f r c q
def any3 (p n : Nat) (g : Nat → Nat → Nat → Bool) : Bool := (List.range p).any fun r => (List.range n).any fun c => (List.range n).any fun q => g r c q
def times3 (p n : Nat) (ball : Nat → Int → List Int) : Nat → Int → (Nat → Nat → Nat → Int) → (Nat → Nat → Nat → Int)
  | 0, _, f => f
  | k + 1, t, f => if any3 p n (can3 p n ball f) = true then times3 p n ball k (t + 1) (step3 p n ball t f) else f
def start3 (_ c q : Nat) : Int := startF c q
def timesT3 (p n : Nat) (ball : Nat → Int → List Int) : List Tab := tab3 p n (times3 p n ball 520 1 start3)
def ballO (t : Tt) (r : Nat) : Int → List Int := ballF t.1.1.toNat (openE t (r : Int))
def timesO (t : Tt) : List Tab := timesT3 t.2.1.toNat t.1.1.toNat (ballO t)
def G_l11Start (d : Int × Int × Unit) : Option (List Tab × Unit) := if (inB 0 8 d.1 && inB 0 8 d.2.1) = true then some (tab3 d.1.toNat d.2.1.toNat start3, ()) else none
def G_l11Can (d : List Tab × List Tab × Int × Int × Int × Unit) : Option (Bool × Unit) := if okA d = true then some ((ballB d.1 d.2.2.1 d.2.2.2.1).any fun b => decide (0 ≤ afterT (ballB d.1 d.2.2.1) (nextT d.1.length d.2.1 d.2.2.1) b d.2.2.2.2.1), ()) else none
def G_l11Times (d : Tt × Unit) : Option (List Tab × Unit) := if (timeB d.1 && okT d.1) = true then some (timesO d.1, ()) else none
def G_indexTT (d : List Int × (Unit × Int × Nt × Tab × (Unit × Unit) × Unit) × Unit) : Option (Int × Unit) :=
  if (netB d.2.1.2.2.1.1 && sqL d.2.1.2.2.1.1.length d.2.1.2.2.2.1 && inB 0 ((d.2.1.2.2.1.1.length : Int) - 1) d.2.1.2.1 && d.1.all (inB 0 ((d.2.1.2.2.1.1.length : Int) - 1)) && okS1 d.1) = true then
    some (idxI (idxN (fun b => decide (0 ≤ afterT (ballM d.2.1.2.2.1.1) d.2.1.2.2.2.1 b d.2.1.2.1)) d.1 0), ()) else none
def G_timedTimes (d : List Nt × Unit) : Option (List Tab × Unit) := if netsB (nN d.1) d.1 = true then some (timesT3 d.1.length (nN d.1) (ballN d.1), ()) else none
def sum3 : List Tab → Int
  | [] => 0
  | x :: l => sumL x + sum3 l
def mark3 : Int → List Tab → List Tab
  | _, [] => []
  | k, x :: l => markLL k x :: mark3 (k + sumL x) l
def held3 : Int → List Tab → Int
  | k, [] => k
  | k, x :: l => if heldLL k x < 0 then -1 else held3 (heldLL k x) l
def G_markIntSSS (d : List Tab × Int × Unit) : Option (Int × List Tab × Unit) := if (okL3 d.1 && okK d.2.1 && okK (d.2.1 + sum3 d.1)) = true then some (d.2.1 + sum3 d.1, mark3 d.2.1 d.1, ()) else none
def G_heldIntSSS (d : List Tab × Int × Unit) : Option (Int × Unit) := if (okL3 d.1 && okK d.2.1 && okK (d.2.1 + sum3 d.1)) = true then some (held3 d.2.1 d.1, ()) else none
end Go.V.W
