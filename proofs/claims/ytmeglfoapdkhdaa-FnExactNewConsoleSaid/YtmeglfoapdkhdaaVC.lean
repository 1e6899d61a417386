/- What the law FnExactNewConsole leans on, part 3: an interpreter of the model as plain data, its soundness, the functions as it tells them, and their laws. -/
import Derived.LoopN
import Derived.ChangeOld
import Derived.Below
import Derived.Carry
import Derived.OpenShut
import Derived.SizedLaws
import Derived.Shelf.Vars
import Derived.IntWalk
import Derived.Lib.IndexAny
import Derived.Lib.ItoaNum
import Derived.Lib.IndexMore
import Derived.WalkKit
import Derived.Deep.DeepFit
import Derived.Laws.Rows
import Derived.KernelRfl
import Derived.Test.YtmeglfoapdkhdaaProg
import Derived.Shelf.Lays
import Derived.Laws.CopyOwn
import Derived.Deep.OwnRows
import Derived.Lib.Builder
import Derived.Test.YtmeglfoapdkhdaaVB
set_option linter.unusedVariables false
set_option linter.unusedSimpArgs false
set_option maxRecDepth 100000
set_option linter.unusedVariables false
set_option linter.unusedSimpArgs false
namespace Go.V
/-- What an entry of a form says of the state before and of the state behind. U: which root stands for which slot. -/
inductive Ent (s s' : State) (U : List (Nat × Nat)) : Nat → Slot → Prop
  | val {i : Nat} {k : Kd} {d : k.den} : s (sl i) = .val k d → s' (sl i) = .val k d → Ent s s' U i (.v k)
  | cst {i : Nat} {k : Kd} {d : k.den} : s (sl i) = .cst k d → s' (sl i) = .val k d → Ent s s' U i (.v k)
  | al {i r : Nat} {p : Path} {ver : Nat} {k k' : Kd} {d : k.den} {d' : k'.den} {box frz : Bool} {ver' : Nat} : s (sl i) = .al r p ver → s (rt r) = .root k' d' 0 box frz ver' → (Nat.beq ver ver' || (!box && p.isEmpty)) = true →
      getP p k' d' = some ⟨k, d⟩ → s' (sl i) = .val k d → Ent s s' U i (.v k)
  | own {i r : Nat} {ver : Nat} {k : Kd} {d : k.den} {dep dep' : Nat} {frz : Bool} {ver' : Nat} : s (sl i) = .al r [] ver → s (rt r) = .root k d dep' false frz ver' → dep ≤ dep' → (i, r) ∈ U → s' (sl i) = .al i [] 0 → s' (rt i) = .root k d dep false false 0 → Ent s s' U i (.own k dep)
  | ownc {i : Nat} {k : Kd} {d : k.den} {dep : Nat} : s (sl i) = .cst k d → s' (sl i) = .al i [] 0 → s' (rt i) = .root k d dep false false 0 → Ent s s' U i (.own k dep)
  | box {i r : Nat} {ver : Nat} {k : Kd} {d : k.den} {dep dep' : Nat} {ver' : Nat} : s (sl i) = .ptr r [] ver → s (rt r) = .root k d dep' true false ver' → dep ≤ dep' → (i, r) ∈ U → s' (sl i) = .ptr i [] 0 → s' (rt i) = .root k d dep true false 0 → Ent s s' U i (.box k dep)
  | sp {i : Nat} {k : Kd} {d : k.den} : s (sl i) = .sptr k d → s' (sl i) = .sptr k d → Ent s s' U i (.sp k)
  | spf {i r : Nat} {ver : Nat} {k : Kd} {d : k.den} {dep ver' : Nat} : s (sl i) = .ptr r [] ver → s (rt r) = .root k d dep true true ver' → (k.flat = true ∨ dep = 0) → s' (sl i) = .sptr k d → Ent s s' U i (.sp k)
  | same {i j r : Nat} {p : Path} {ver : Nat} {k : Kd} {d : k.den} {dep : Nat} {box frz : Bool} {ver' : Nat} : s (sl i) = .al r p ver → s (rt r) = .root k d dep box frz ver' → (Nat.beq ver ver' || (!box && p.isEmpty)) = true → (j, r) ∈ U → s' (sl i) = .al j p 0 → Ent s s' U i (.same j p)
def Slot.rooted : Slot → Bool
  | .own .. | .box .. => true
  | _ => false
theorem Ent.mono {s s' s'' : State} {U U' : List (Nat × Nat)} {i : Nat} {x : Slot} (h : Ent s s' U i x) (h1 : s'' (sl i) = s' (sl i)) (h2 : s'' (rt i) = s' (rt i)) (hU : ∀ y ∈ U, y ∈ U') : Ent s s'' U' i x := by
  cases h with
  | val a b => exact .val a (h1.trans b)
  | cst a b => exact .cst a (h1.trans b)
  | al a b c d e => exact .al a b c d (h1.trans e)
  | own a b c d e f => exact .own a b c (hU _ d) (h1.trans e) (h2.trans f)
  | ownc a b c => exact .ownc a (h1.trans b) (h2.trans c)
  | box a b c d e f => exact .box a b c (hU _ d) (h1.trans e) (h2.trans f)
  | sp a b => exact .sp a (h1.trans b)
  | spf a b c e => exact .spf a b c (h1.trans e)
  | same a b c d e => exact .same a b c (hU _ d) (h1.trans e)
theorem build_out : ∀ {f : Form} {d : f.den} {s0 : State}, (∀ t, t ∉ f.map (·.1) → (s0.put (build f d)) (sl t) = s0 (sl t) ∧ (s0.put (build f d)) (rt t) = s0 (rt t)) ∧
    (∀ t, (∀ x, (t, x) ∈ f → x.rooted = false) → (s0.put (build f d)) (rt t) = s0 (rt t)) := by
  intro f
  induction f with
  | nil => intro d s0; exact ⟨fun _ _ => ⟨rfl, rfl⟩, fun _ _ => rfl⟩
  | cons x f ih =>
    intro d s0
    obtain ⟨i, x⟩ := x
    have one : ∀ (W : Writes), (∀ y ∈ W, y.1 = sl i ∨ (y.1 = rt i ∧ x.rooted = true)) → ∀ (d' : Form.den f), build ((i, x) :: f) d = W ++ build f d' →
        (∀ t, t ∉ ((i, x) :: f).map (·.1) → (s0.put (build ((i, x) :: f) d)) (sl t) = s0 (sl t) ∧ (s0.put (build ((i, x) :: f) d)) (rt t) = s0 (rt t)) ∧
        (∀ t, (∀ y, (t, y) ∈ (i, x) :: f → y.rooted = false) → (s0.put (build ((i, x) :: f) d)) (rt t) = s0 (rt t)) := by
      intro W hW d' hb
      rw [hb]
      refine ⟨fun t ht => ?_, fun t ht => ?_⟩
      · simp only [List.map_cons, List.mem_cons, not_or] at ht
        rw [State.put_append]
        obtain ⟨h1, h2⟩ := (ih (d := d') (s0 := s0.put W)).1 t ht.2
        rw [h1, h2]
        refine ⟨put_notin fun c hc => ?_, put_notin fun c hc => ?_⟩
        · rcases hW _ hc with h | ⟨h, _⟩
          · exact ht.1 (sl_inj h)
          · exact sl_rt t i h
        · rcases hW _ hc with h | ⟨h, _⟩
          · exact sl_rt i t h.symm
          · exact ht.1 (rt_inj h)
      · rw [State.put_append, (ih (d := d') (s0 := s0.put W)).2 t fun y hy => ht y (by simp [hy])]
        refine put_notin fun c hc => ?_
        rcases hW _ hc with h | ⟨h, hx⟩
        · exact sl_rt i t h.symm
        · have := ht x (by simp [rt_inj h])
          rw [hx] at this
          cases this
    cases x with
    | v k => exact one [(sl i, .val k d.1)] (by simp) d.2 rfl
    | own k dep => exact one [(rt i, .root k d.1 dep false false 0), (sl i, .al i [] 0)] (by simp [Slot.rooted]) d.2 rfl
    | box k dep => exact one [(rt i, .root k d.1 dep true false 0), (sl i, .ptr i [] 0)] (by simp [Slot.rooted]) d.2 rfl
    | sp k => exact one [(sl i, .sptr k d.1)] (by simp) d.2 rfl
    | same j p => exact one [(sl i, .al j p 0)] (by simp) d.2 rfl
theorem contains_mem {u : List (Nat × Nat)} {r : Nat} (h : (u.map (·.2)).contains r = false) : ∀ i, (i, r) ∉ u := by
  intro i hi
  have : (u.map (·.2)).contains r = true := by
    rw [List.contains_iff_mem]
    exact List.mem_map.2 ⟨(i, r), hi, rfl⟩
  rw [h] at this
  cases this
/-- What the bringing into a form tells. -/
theorem norm_ents {s : State} : ∀ {f : Form} {u : List (Nat × Nat)} {d : f.den} {s0 : State}, norm s f u = some d → (f.map (·.1)).Nodup → (∀ x ∈ u, x.1 ∉ f.map (·.1)) → (u.Pairwise fun x y => x.2 ≠ y.2 ∧ x.1 ≠ y.1) →
    ∃ U, (∀ x ∈ u, x ∈ U) ∧ (U.Pairwise fun x y => x.2 ≠ y.2 ∧ x.1 ≠ y.1) ∧ (∀ x ∈ U, x ∈ u ∨ ∃ y, (x.1, y) ∈ f ∧ y.rooted = true ∧ ∃ p ver, s (sl x.1) = .al x.2 p ver ∨ s (sl x.1) = .ptr x.2 p ver) ∧ ∀ i x, (i, x) ∈ f → Ent s (s0.put (build f d)) U i x := by
  intro f
  induction f with
  | nil => intro u d s0 _ _ _ hp; exact ⟨u, fun _ h => h, hp, fun x h => .inl h, fun i x h => by simp at h⟩
  | cons z f ih =>
    intro u d s0 h hn hu hp
    obtain ⟨i, x⟩ := z
    simp only [List.map_cons, List.nodup_cons] at hn
    -- an entry without a root
    have plain : ∀ (W : Writes) (d' : Form.den f), norm s f u = some d' → build ((i, x) :: f) d = W ++ build f d' → (∀ (U : List (Nat × Nat)) (s1 : State), (∀ y ∈ u, y ∈ U) → Ent s (s1.put W) U i x) →
        ∃ U, (∀ x ∈ u, x ∈ U) ∧ (U.Pairwise fun x y => x.2 ≠ y.2 ∧ x.1 ≠ y.1) ∧ (∀ z ∈ U, z ∈ u ∨ ∃ y, (z.1, y) ∈ (i, x) :: f ∧ y.rooted = true ∧ ∃ p ver, s (sl z.1) = .al z.2 p ver ∨ s (sl z.1) = .ptr z.2 p ver) ∧ ∀ j y, (j, y) ∈ (i, x) :: f → Ent s (s0.put (build ((i, x) :: f) d)) U j y := by
      intro W d' h1 h2 h3
      obtain ⟨U, a1, a2, a3, a4⟩ := ih (s0 := s0.put W) h1 hn.2 (fun y hy => by have := hu y hy; simp at this; simp; exact this.2) hp
      refine ⟨U, a1, a2, fun z hz => (a3 z hz).imp _root_.id fun ⟨y, h1, h2⟩ => ⟨y, by simp [h1], h2⟩, fun j y hy => ?_⟩
      rw [h2, State.put_append]
      rcases List.mem_cons.1 hy with hy | hy
      · simp only [Prod.mk.injEq] at hy
        obtain ⟨rfl, rfl⟩ := hy
        have ho := (build_out (d := d') (s0 := s0.put W)).1 j hn.1
        exact (h3 U s0 a1).mono ho.1 ho.2 fun _ h => h
      · exact a4 j y hy
    have rooted : ∀ (W : Writes) (d' : Form.den f) (r : Nat), x.rooted = true → (∃ p ver, s (sl i) = .al r p ver ∨ s (sl i) = .ptr r p ver) → (∀ j, (j, r) ∉ u) → norm s f ((i, r) :: u) = some d' → build ((i, x) :: f) d = W ++ build f d' → (∀ (U : List (Nat × Nat)) (s1 : State), (i, r) ∈ U → Ent s (s1.put W) U i x) →
        ∃ U, (∀ x ∈ u, x ∈ U) ∧ (U.Pairwise fun x y => x.2 ≠ y.2 ∧ x.1 ≠ y.1) ∧ (∀ z ∈ U, z ∈ u ∨ ∃ y, (z.1, y) ∈ (i, x) :: f ∧ y.rooted = true ∧ ∃ p ver, s (sl z.1) = .al z.2 p ver ∨ s (sl z.1) = .ptr z.2 p ver) ∧ ∀ j y, (j, y) ∈ (i, x) :: f → Ent s (s0.put (build ((i, x) :: f) d)) U j y := by
      intro W d' r hxr hsr hr h1 h2 h3
      obtain ⟨U, a1, a2, a3, a4⟩ := ih (u := (i, r) :: u) (s0 := s0.put W) h1 hn.2
        (fun y hy => by
          rcases List.mem_cons.1 hy with rfl | hy
          · exact hn.1
          · have := hu y hy; simp at this; simp; exact this.2)
        (by
          rw [List.pairwise_cons]
          refine ⟨fun y hy => ⟨fun e => hr y.1 (by have e : r = y.2 := e; rw [e]; exact hy), fun e => ?_⟩, hp⟩
          have := hu y hy
          rw [← e] at this
          simp at this)
      refine ⟨U, fun y hy => a1 y (by simp [hy]), a2, fun z hz => ?_, fun j y hy => ?_⟩
      · rcases a3 z hz with h | ⟨y, h1, h2⟩
        · rcases List.mem_cons.1 h with rfl | h
          · exact .inr ⟨x, by simp, hxr, hsr⟩
          · exact .inl h
        · exact .inr ⟨y, by simp [h1], h2⟩
      · rw [h2, State.put_append]
        rcases List.mem_cons.1 hy with hy | hy
        · simp only [Prod.mk.injEq] at hy
          obtain ⟨rfl, rfl⟩ := hy
          have ho := (build_out (d := d') (s0 := s0.put W)).1 j hn.1
          exact (h3 U s0 (a1 _ (by simp))).mono ho.1 ho.2 fun _ h => h
        · exact a4 j y hy
    cases x with
    | v k =>
      simp only [norm] at h
      split at h
      · rename_i k' d' hs
        split at h
        · rename_i y z h1 h2
          injection h with h
          subst h
          have := cast?_eq h1
          injection this with e1 e2
          subst e1
          have e2 := eq_of_heq e2
          subst e2
          exact plain [(sl i, .val k' d')] z h2 rfl fun U s1 _ => .val hs (by simp only [State.put]; exact State.set_same _ _ _)
        · cases h
      · rename_i k' d' hs
        split at h
        · rename_i y z h1 h2
          injection h with h
          subst h
          have := cast?_eq h1
          injection this with e1 e2
          subst e1
          have e2 := eq_of_heq e2
          subst e2
          exact plain [(sl i, .val k' d')] z h2 rfl fun U s1 _ => .cst hs (by simp only [State.put]; exact State.set_same _ _ _)
        · cases h
      · rename_i r p ver hs
        split at h
        · rename_i k' d' box frz ver' hs'
          rcases bif_some h with ⟨hv, h1⟩ | ⟨_, h1⟩
          · split at h1
            · rename_i v hg
              split at h1
              · rename_i y z h2 h3
                injection h1 with h1
                subst h1
                have := cast?_eq h2
                subst this
                exact plain [(sl i, .val k y)] z h3 rfl fun U s1 _ => .al hs hs' hv hg (by simp only [State.put]; exact State.set_same _ _ _)
              · cases h1
            · cases h1
          · cases h1
        · cases h
      · cases h
    | own k dep =>
      simp only [norm] at h
      split at h
      · rename_i r p ver hs
        split at h
        · rename_i k' d' dep' box frz ver' hs'
          rcases bif_some h with ⟨hv, h1⟩ | ⟨_, h1⟩
          · simp only [Bool.and_eq_true, List.isEmpty_iff, Bool.not_eq_true', decide_eq_true_eq] at hv
            obtain ⟨⟨⟨rfl, rfl⟩, hd⟩, hc⟩ := hv
            split at h1
            · rename_i y z h2 h3
              injection h1 with h1
              subst h1
              have := cast?_eq h2
              injection this with e1 e2
              subst e1
              have e2 := eq_of_heq e2
              subst e2
              exact rooted [(rt i, .root k' d' dep false false 0), (sl i, .al i [] 0)] z r rfl ⟨_, _, .inl hs⟩ (contains_mem hc) h3 rfl fun U s1 hU => .own hs hs' hd hU (by simp only [State.put]; exact State.set_same _ _ _) (by simp only [State.put]; rw [State.set_other _ _ (sl_rt i i).symm, State.set_same])
            · cases h1
          · cases h1
        · cases h
      · rename_i k' d' hs
        split at h
        · rename_i y z h1 h2
          injection h with h
          subst h
          have := cast?_eq h1
          injection this with e1 e2
          subst e1
          have e2 := eq_of_heq e2
          subst e2
          exact plain [(rt i, .root k' d' dep false false 0), (sl i, .al i [] 0)] z h2 rfl fun U s1 _ => .ownc hs (by simp only [State.put]; exact State.set_same _ _ _) (by simp only [State.put]; rw [State.set_other _ _ (sl_rt i i).symm, State.set_same])
        · cases h
      · cases h
    | box k dep =>
      simp only [norm] at h
      split at h
      · rename_i r p ver hs
        split at h
        · rename_i k' d' dep' ver' hs'
          rcases bif_some h with ⟨hv, h1⟩ | ⟨_, h1⟩
          · simp only [Bool.and_eq_true, List.isEmpty_iff, Bool.not_eq_true', decide_eq_true_eq] at hv
            obtain ⟨⟨rfl, hd⟩, hc⟩ := hv
            split at h1
            · rename_i y z h2 h3
              injection h1 with h1
              subst h1
              have := cast?_eq h2
              injection this with e1 e2
              subst e1
              have e2 := eq_of_heq e2
              subst e2
              exact rooted [(rt i, .root k' d' dep true false 0), (sl i, .ptr i [] 0)] z r rfl ⟨_, _, .inr hs⟩ (contains_mem hc) h3 rfl fun U s1 hU => .box hs hs' hd hU (by simp only [State.put]; exact State.set_same _ _ _) (by simp only [State.put]; rw [State.set_other _ _ (sl_rt i i).symm, State.set_same])
            · cases h1
          · cases h1
        · cases h
      · cases h
    | sp k =>
      simp only [norm] at h
      split at h
      · rename_i k' d' hs
        split at h
        · rename_i y z h1 h2
          injection h with h
          subst h
          have := cast?_eq h1
          injection this with e1 e2
          subst e1
          have e2 := eq_of_heq e2
          subst e2
          exact plain [(sl i, .sptr k' d')] z h2 rfl fun U s1 _ => .sp hs (by simp only [State.put]; exact State.set_same _ _ _)
        · cases h
      · rename_i r p ver hs
        split at h
        · rename_i k' d' dep' ver' hs'
          rcases bif_some h with ⟨hv, h1⟩ | ⟨_, h1⟩
          · simp only [Bool.and_eq_true, Bool.or_eq_true, List.isEmpty_iff] at hv
            obtain ⟨rfl, hk0⟩ := hv
            split at h1
            · rename_i y z h2 h3
              injection h1 with h1
              subst h1
              have := cast?_eq h2
              injection this with e1 e2
              subst e1
              have e2 := eq_of_heq e2
              subst e2
              exact plain [(sl i, .sptr k' d')] z h3 rfl fun U s1 _ => .spf hs hs' (hk0.imp _root_.id fun h => Nat.eq_of_beq_eq_true h) (by simp only [State.put]; exact State.set_same _ _ _)
            · cases h1
          · cases h1
        · cases h
      · cases h
    | same j p =>
      simp only [norm] at h
      split at h
      · rename_i r q ver hs
        split at h
        · rename_i k' d' dep' box frz ver' hs'
          rcases bif_some h with ⟨hv, h1⟩ | ⟨_, h1⟩
          · simp only [Bool.and_eq_true, decide_eq_true_eq] at hv
            obtain ⟨⟨hc, rfl⟩, hver⟩ := hv
            have hc : (j, r) ∈ u := by rwa [List.contains_iff_mem] at hc
            split at h1
            · rename_i z h3
              injection h1 with h1
              subst h1
              exact plain [(sl i, .al j p 0)] z h3 rfl fun U s1 hU => .same hs hs' hver (hU _ hc) (by simp only [State.put]; exact State.set_same _ _ _)
            · cases h1
          · cases h1
        · cases h
      · cases h
/-- The owners behind. -/
noncomputable def normφ (φ : Nat → Option (Bool × Nat × Path)) (U : List (Nat × Nat)) (s' : State) : Nat → Option (Bool × Nat × Path) := fun b =>
  open Classical in
  match φ b with
  | none => none
  | some x => if x = far then some far else
    match U.find? (fun y => Nat.beq y.2 x.2.1) with
    | none => none
    | some y => if x.1 = true then some (true, y.1, x.2.2) else
      match s' (rt y.1) with
      | .root _ _ dep _ _ _ => if lev x.2.2 < dep then some (false, y.1, x.2.2) else none
      | _ => none
theorem find_snd : ∀ {U : List (Nat × Nat)}, (U.Pairwise fun x y => x.2 ≠ y.2 ∧ x.1 ≠ y.1) → ∀ x ∈ U, U.find? (fun y => Nat.beq y.2 x.2) = some x := by
  intro U
  induction U with
  | nil => intro _ x h; simp at h
  | cons y U ih =>
    intro hp x hx
    rw [List.pairwise_cons] at hp
    rcases List.mem_cons.1 hx with rfl | hx
    · simp
    · have : Nat.beq y.2 x.2 = false := by
        cases hb : Nat.beq y.2 x.2 with
        | false => rfl
        | true => exact absurd (Nat.eq_of_beq_eq_true hb) (hp.1 x hx).1
      rw [List.find?_cons, this]
      exact ih hp.2 x hx
section
variable {P : Program} {Γ : Ctx} {Kp : Keep} {B0 : World} {n : Nat} {G : Gh} {s : State} {a : Act} {w w' : World} {id : Nat} {o : Oper} {Q : Exit → Act → World → Prop} {ws : Writes}
theorem normφ_none {φ : Nat → Option (Bool × Nat × Path)} {U : List (Nat × Nat)} {s' : State} {b : Nat} (h : φ b = none) : normφ φ U s' b = none := by unfold normφ; rw [h]
theorem normφ_own {φ : Nat → Option (Bool × Nat × Path)} {U : List (Nat × Nat)} (hp : U.Pairwise fun x y => x.2 ≠ y.2 ∧ x.1 ≠ y.1) {s' : State} {b i r : Nat} {q : Path} {k : Kd} {d : k.den} {dep : Nat} {box frz : Bool} {ver : Nat} (hU : (i, r) ∈ U) (h : φ b = some (false, r, q)) (hs : s' (rt i) = .root k d dep box frz ver) :
    normφ φ U s' b = if lev q < dep then some (false, i, q) else none := by
  have hf : ((false, r, q) : Bool × Nat × Path) ≠ far := by simp [far]
  have hfd := find_snd hp _ hU
  simp only at hfd
  unfold normφ
  rw [h]
  simp only [hf, if_false, hfd, Bool.false_eq_true, hs]
theorem normφ_box {φ : Nat → Option (Bool × Nat × Path)} {U : List (Nat × Nat)} (hp : U.Pairwise fun x y => x.2 ≠ y.2 ∧ x.1 ≠ y.1) {s' : State} {b i r : Nat} (hU : (i, r) ∈ U) (h : φ b = some (true, r, [])) : normφ φ U s' b = some (true, i, []) := by
  have hf : ((true, r, []) : Bool × Nat × Path) ≠ far := by simp [far]
  have hfd := find_snd hp _ hU
  simp only at hfd
  unfold normφ
  rw [h]
  simp only [hf, if_false, hfd, if_true]
theorem norm_ok {f : Form} {d : f.den} (hn : (f.map (·.1)).Nodup) (h : norm s f [] = some d) (hi : Inv P Kp B0 n s a w) : Inv P Kp B0 n (f.state d) a w := by
  obtain ⟨G, g⟩ := hi.ghost
  obtain ⟨U, _, hp, hUf, hE⟩ := norm_ents (s0 := State.empty) h hn (by simp) List.Pairwise.nil
  have hUf : ∀ x ∈ U, ∃ y, (x.1, y) ∈ f ∧ y.rooted = true ∧ ∃ p ver, s (sl x.1) = .al x.2 p ver ∨ s (sl x.1) = .ptr x.2 p ver := fun x hx => (hUf x hx).resolve_left (by simp)
  refine ⟨hi.defers, hi.size, hi.base, ?_⟩
  let s' := f.state d
  have hs' : ∀ i x, (i, x) ∈ f → Ent s s' U i x := hE
  have hout := build_out (f := f) (d := d) (s0 := State.empty)
  let C' : Nat → List Value := fun i => match s (sl i) with
    | .al r _ _ => G.C r
    | .ptr r _ _ => G.C r
    | _ => (a.tmps.getD i undef).cells.toList
  let β' : Nat → Nat := fun i => match s (sl i) with
    | .ptr r _ _ => G.β r
    | _ => 0
  -- a root is one entry's
  have huniq : ∀ i x y, (i, x) ∈ f → (i, y) ∈ f → x = y := by
    intro i x y hx hy
    have key : ∀ (f : Form), (f.map (·.1)).Nodup → (i, x) ∈ f → (i, y) ∈ f → x = y := by
      intro f
      induction f with
      | nil => intro _ h; simp at h
      | cons z f ih =>
        intro hn hx hy
        simp only [List.map_cons, List.nodup_cons] at hn
        rcases List.mem_cons.1 hx with hx | hx <;> rcases List.mem_cons.1 hy with hy | hy
        · rw [← hx] at hy; injection hy with _ hy; exact hy.symm
        · exfalso; apply hn.1; rw [← hx]; exact List.mem_map.2 ⟨(i, y), hy, rfl⟩
        · exfalso; apply hn.1; rw [← hy]; exact List.mem_map.2 ⟨(i, x), hx, rfl⟩
        · exact ih hn.2 hx hy
    exact key f hn hx hy
  -- what stands at a slot whose root is carried on
  have hUroot : ∀ i r, (i, r) ∈ U → ∃ k d dep box frz ver dep', s (rt r) = .root k d dep' box frz ver ∧ dep ≤ dep' ∧ s' (rt i) = .root k d dep box false 0 ∧ C' i = G.C r ∧ (box = true → β' i = G.β r ∧ frz = false) := by
    intro i r hU
    obtain ⟨y, hy, hyr, p, ver, hsl⟩ := hUf _ hU
    have hone : ∀ r', (i, r') ∈ U → r' = r := by
      intro r' h'
      have key : ∀ (U : List (Nat × Nat)), (U.Pairwise fun x y => x.2 ≠ y.2 ∧ x.1 ≠ y.1) → (i, r) ∈ U → (i, r') ∈ U → r' = r := by
        intro U
        induction U with
        | nil => intro _ h; simp at h
        | cons z U ih =>
          intro hp h1 h2
          rw [List.pairwise_cons] at hp
          rcases List.mem_cons.1 h1 with h1 | h1 <;> rcases List.mem_cons.1 h2 with h2 | h2
          · rw [← h1] at h2; injection h2
          · exact absurd (by rw [← h1]) (hp.1 _ h2).2
          · exact absurd (by rw [← h2]) (hp.1 _ h1).2
          · exact ih hp.2 h1 h2
      exact key U hp hU h'
    cases hs' i y hy with
    | val => simp [Slot.rooted] at hyr
    | cst => simp [Slot.rooted] at hyr
    | al => simp [Slot.rooted] at hyr
    | sp => simp [Slot.rooted] at hyr
    | spf => simp [Slot.rooted] at hyr
    | same => simp [Slot.rooted] at hyr
    | ownc a1 a2 a3 => rw [a1] at hsl; rcases hsl with h | h <;> cases h
    | own a1 a2 a3 a4 a5 a6 =>
      have := hone _ a4
      subst this
      exact ⟨_, _, _, _, _, _, _, a2, a3, a6, by simp only [C', a1], fun h => by cases h⟩
    | box a1 a2 a3 a4 a5 a6 =>
      have := hone _ a4
      subst this
      exact ⟨_, _, _, _, _, _, _, a2, a3, a6, by simp only [C', a1], fun _ => ⟨by simp only [β', a1], rfl⟩⟩
  let φ' := normφ G.φ U s'
  have hcell : ∀ i r k d dep frz ver dep', (i, r) ∈ U → s (rt r) = .root k d dep' false frz ver → dep ≤ dep' → s' (rt i) = .root k d dep false false 0 → Rep w (ownS φ' i dep) k [] (G.C r) d := by
    intro i r k d dep frz ver dep' hU h1 h2 h3
    have hro := g.roots r
    rw [h1] at hro
    refine hro.1.frame fun q b _ hb _ => ⟨rfl, ?_⟩
    rcases ownS_lev hb with ⟨hl, hb⟩ | ⟨hl, hb⟩
    · have := normφ_own hp hU hb h3
      by_cases hlt : lev q < dep
      · simp only [ownS, hlt, if_true]; rw [if_pos hlt] at this; exact this
      · simp only [ownS, hlt, if_false]; rw [if_neg hlt] at this; exact this
    · have hlt : ¬ lev q < dep := by omega
      simp only [ownS, hlt, if_false]
      exact normφ_none hb
  have hcellb : ∀ i r k d dep ver dep', (i, r) ∈ U → s (rt r) = .root k d dep' true false ver → dep ≤ dep' → s' (rt i) = .root k d dep true false 0 → RootOk ⟨φ', C', β'⟩ w i (.root k d dep true false 0) := by
    intro i r k d dep ver dep' hU h1 h2 h3
    obtain ⟨_, _, _, _, _, _, _, e1, e2, e3, e4, e5⟩ := hUroot i r hU
    rw [h1] at e1
    simp only [Cell.root.injEq] at e1
    obtain ⟨rfl, _, _, rfl, _, _⟩ := e1
    have hro := g.roots r
    rw [h1] at hro
    refine ⟨?_, fun _ => ?_⟩
    · simp only
      rw [e4]
      refine hro.1.frame fun q b _ hb _ => ⟨rfl, ?_⟩
      rcases ownS_lev hb with ⟨hl, hb⟩ | ⟨hl, hb⟩
      · have := normφ_own hp hU hb h3
        by_cases hlt : lev q < dep
        · simp only [ownS, hlt, if_true]; rw [if_pos hlt] at this; exact this
        · simp only [ownS, hlt, if_false]; rw [if_neg hlt] at this; exact this
      · have hlt : ¬ lev q < dep := by omega
        simp only [ownS, hlt, if_false]
        exact normφ_none hb
    · obtain ⟨f1, f2⟩ := hro.2 rfl
      simp only [Bool.false_eq_true, if_false] at f2 ⊢
      rw [(e5 rfl).1, e4]
      exact ⟨f1, normφ_box hp hU f2⟩
  refine ⟨⟨φ', C', β'⟩, fun t => ?_, fun t => ?_, ?_⟩
  · show CellOk ⟨φ', C', β'⟩ w s' (a.tmps.getD t undef) (s' (sl t))
    by_cases ht : t ∈ f.map (·.1)
    · obtain ⟨⟨t', x⟩, hx, rfl⟩ := List.mem_map.1 ht
      simp only
      have hv := g.slots t'
      cases hs' t' x hx with
      | val a1 a2 =>
        rw [a2]
        rw [a1] at hv
        obtain ⟨c, c1, c2⟩ := hv
        exact ⟨c, c1, c2.frame fun q b _ hb _ => ⟨rfl, normφ_none hb⟩⟩
      | cst a1 a2 =>
        rw [a2]
        rw [a1] at hv
        obtain ⟨c, c1, c2⟩ := hv
        exact ⟨c, c1, c2.frame fun q b _ hb _ => hb.elim⟩
      | al a1 a2 a3 a4 a5 =>
        rename_i r p ver k k' d d' box frz ver'
        rw [a5]
        rw [a1] at hv
        simp only [CellOk] at hv
        rw [a2] at hv
        obtain ⟨z, e1, e2, e3⟩ := hv.2 (verOk a3)
        rw [a4] at e1
        have e1 := Option.some.inj e1
        subst e1
        have hro := g.roots r
        rw [a2] at hro
        have hrep := getP_rep hro.1 e2 a4
        exact ⟨_, e3, hrep.move fun q b hb _ => normφ_none (by simpa [ownS] using hb)⟩
      | own a1 a2 a3 a4 a5 a6 =>
        rename_i r ver k d dep dep' frz ver'
        rw [a5]
        rw [a1] at hv
        simp only [CellOk] at hv ⊢
        rw [a2] at hv
        rw [a6]
        obtain ⟨z, e1, e2, e3⟩ := hv.2 (.inr (by simp [noIdx]))
        simp only [getP, Option.some.injEq] at e1
        subst e1
        refine ⟨Nat.le_refl _, fun _ => ⟨_, rfl, trivial, ?_⟩⟩
        have : C' t' = G.C r := by simp only [C', a1]
        simp only [subC] at e3 ⊢
        rw [this]
        exact e3
      | ownc a1 a2 a3 =>
        rename_i k d dep
        rw [a2]
        rw [a1] at hv
        simp only [CellOk]
        rw [a3]
        obtain ⟨c, c1, c2⟩ := hv
        refine ⟨Nat.le_refl _, fun _ => ⟨_, rfl, trivial, ?_⟩⟩
        have : C' t' = c := by simp only [C', a1]; rw [c1]; exact mkVal_cells c2
        simp only [subC]
        rw [this]
        exact c1
      | box a1 a2 a3 a4 a5 a6 =>
        rename_i r ver k d dep dep' ver'
        rw [a5]
        rw [a1] at hv
        simp only [CellOk] at hv ⊢
        rw [a2] at hv
        rw [a6]
        obtain ⟨z, e1, e2, B, O, e3, e4⟩ := hv.2 (.inr (by simp [noIdx]))
        simp only [subA, home, cond_true, Option.some.injEq, Prod.mk.injEq] at e3
        obtain ⟨rfl, rfl⟩ := e3
        have : β' t' = G.β r := by simp only [β', a1]
        exact ⟨Nat.le_refl _, fun _ => ⟨_, rfl, trivial, _, _, by simp only [subA, home, cond_true]; rw [this], e4⟩⟩
      | sp a1 a2 =>
        rw [a2]
        rw [a1] at hv
        obtain ⟨B, O, e1, e2, e3, e4⟩ := hv
        exact ⟨B, O, e1, normφ_none e2, e3, e4.frame fun q b _ hb _ => ⟨rfl, normφ_none hb⟩⟩
      | spf a1 a2 a3 a4 =>
        rw [a4]
        rw [a1] at hv
        obtain ⟨B, e1, e2, e3, e4⟩ := frz_open g hv a2 a3
        exact ⟨B, 0, e1, normφ_none e2, e3, e4.frame fun q b _ hb _ => ⟨rfl, normφ_none hb⟩⟩
      | same a1 a2 a3 a4 a5 =>
        rename_i j r p ver k d dep box frz ver'
        rw [a5]
        rw [a1] at hv
        simp only [CellOk] at hv ⊢
        rw [a2] at hv
        obtain ⟨k2, d2, dep2, box2, frz2, ver2, dep3, f1, f2, f3, f4, f5⟩ := hUroot j r a4
        rw [a2] at f1
        simp only [Cell.root.injEq] at f1
        obtain ⟨rfl, f1, rfl, rfl, rfl, rfl⟩ := f1
        have f1 := eq_of_heq f1
        subst f1
        rw [f3]
        obtain ⟨z, e1, e2, e3⟩ := hv.2 (verOk a3)
        refine ⟨Nat.le_refl _, fun _ => ⟨z, e1, e2, ?_⟩⟩
        rw [f4]
        exact e3
    · have e : s' (sl t) = .none := (hout.1 t ht).1
      rw [e]
      trivial
  · show RootOk ⟨φ', C', β'⟩ w t (s' (rt t))
    by_cases ht : ∃ x, (t, x) ∈ f ∧ x.rooted = true
    · obtain ⟨x, hx, hxr⟩ := ht
      cases hs' t x hx with
      | val => simp [Slot.rooted] at hxr
      | cst => simp [Slot.rooted] at hxr
      | al => simp [Slot.rooted] at hxr
      | sp => simp [Slot.rooted] at hxr
      | spf => simp [Slot.rooted] at hxr
      | same => simp [Slot.rooted] at hxr
      | own a1 a2 a3 a4 a5 a6 =>
        rename_i r ver k d dep dep' frz ver'
        rw [a6]
        refine ⟨?_, fun h => by cases h⟩
        have : C' t = G.C r := by simp only [C', a1]
        simp only
        rw [this]
        exact hcell t r k d dep frz ver' dep' a4 a2 a3 a6
      | ownc a1 a2 a3 =>
        rename_i k d dep
        rw [a3]
        have hv := g.slots t
        rw [a1] at hv
        obtain ⟨c, c1, c2⟩ := hv
        refine ⟨?_, fun h => by cases h⟩
        have : C' t = c := by simp only [C', a1]; rw [c1]; exact mkVal_cells c2
        simp only
        rw [this]
        exact c2.frame fun q b _ hb _ => hb.elim
      | box a1 a2 a3 a4 a5 a6 =>
        rw [a6]
        exact hcellb _ _ _ _ _ _ _ a4 a2 a3 a6
    · have e : s' (rt t) = .none := hout.2 t fun x hx => by
        cases hb : x.rooted with
        | false => rfl
        | true => exact absurd ⟨x, hx, hb⟩ ht
      rw [e]
      trivial
  · have key : ∀ b x, φ' b = some x → ∃ y, G.φ b = some y ∧ (y = far → x = far) := by
      intro b x hx
      cases hb : G.φ b with
      | none => simp only [φ', normφ_none hb] at hx; cases hx
      | some y =>
        refine ⟨y, rfl, fun e => ?_⟩
        subst e
        simp only [φ', normφ, hb, if_true, Option.some.injEq] at hx
        exact hx.symm
    refine ⟨fun b x hx => ?_, fun b x hx => ?_, fun b hx => ?_⟩
    · obtain ⟨y, hy, hf⟩ := key b x hx
      rcases g.col.col b y hy with e | e
      · exact .inl (hf e)
      · exact .inr e
    · obtain ⟨y, hy, _⟩ := key b x hx
      exact g.col.lt b y hy
    · have hb := g.col.out b hx
      simp only [φ', normφ, hb, if_true]
theorem normP_ok {A : Nat → Option Value} {f : Form} {d : f.den} (hn : (f.map (·.1)).Nodup) (h : norm s f [] = some d) (hi : InvP P Kp B0 n A s a w) : InvP P Kp B0 n A (f.state d) a w := ⟨norm_ok hn h hi.inv, hi.pin⟩
end
end Go.V
set_option linter.unusedVariables false
set_option linter.unusedSimpArgs false
namespace Go.V
def Ex.to : Ex → Exit
  | .normal => .normal
  | .exit id => .exit id
  | .goto l => .goto l
  | .ret => .ret
def Outs.at : (o : Outs) → o.den → Ex × State
  | [], x => nomatch x
  | (e, f) :: r, x => match x with
    | .inl d => (e, f.state d)
    | .inr d => Outs.at r d
theorem Outs.give_at {R : Type} {K : Ex → State → Option R} : ∀ {o : Outs} {x : o.den}, Outs.give K o x = K (Outs.at o x).1 (Outs.at o x).2 := by
  intro o
  induction o with
  | nil => intro x; exact nomatch x
  | cons p o ih =>
    intro x
    obtain ⟨e, f⟩ := p
    cases x with
    | inl d => rfl
    | inr d => exact ih
def Outs.ok (o : Outs) : Prop := ∀ x ∈ o, (x.2.map (·.1)).Nodup
structure Piece.ok (p : Piece) : Prop where
  head : (p.head.map (·.1)).Nodup
  outs : Outs.ok p.outs
section
variable {P : Program} {Γ : Ctx} {Kp : Keep} {B0 : World} {n : Nat} {G : Gh} {s : State} {a : Act} {w w' : World} {id : Nat} {o : Oper} {Q : Exit → Act → World → Prop} {ws : Writes} {A : Nat → Option Value}
theorem take_ok {e : Ex} : ∀ {o : Outs} {x : o.den}, Outs.ok o → Outs.take s e o = some x → InvP P Kp B0 n A s a w → (Outs.at o x).1 = e ∧ InvP P Kp B0 n A (Outs.at o x).2 a w := by
  intro o
  induction o with
  | nil => intro x; exact nomatch x
  | cons p o ih =>
    intro x ho h hi
    obtain ⟨e', f⟩ := p
    simp only [Outs.take] at h
    rcases bif_some h with ⟨he, h1⟩ | ⟨_, h1⟩
    · rw [Option.map_eq_some_iff] at h1
      obtain ⟨d, h2, rfl⟩ := h1
      exact ⟨(of_decide_eq_true he).symm, normP_ok (ho (e', f) (by simp)) h2 hi⟩
    · rw [Option.map_eq_some_iff] at h1
      obtain ⟨d, h2, rfl⟩ := h1
      exact ih (fun y hy => ho y (by simp [hy])) h2 hi
/-- What is told of a piece of code is so. -/
def PieceOk (P : Program) (n : Nat) (A : Nat → Option Value) (c : Code) (p : Piece) : Prop :=
  ∀ (Kp : Keep) (B0 : World) (d : p.head.den) (x : p.outs.den) (a : Act) (w : World), p.run d = some x → InvP P Kp B0 n A (p.head.state d) a w →
    c.wp P (fun e a' w' => e = (Outs.at p.outs x).1.to ∧ InvP P Kp B0 n A (Outs.at p.outs x).2 a' w') a w
/-- The blocks of a code. -/
def blocksOf : Code → List (Nat × Code)
  | .seq a b | .cond _ a b => blocksOf a ++ blocksOf b
  | .block j b => (j, b) :: blocksOf b
  | .scope b | .loop b => blocksOf b
  | _ => []
/-- The slots that a code writes. -/
def dstsOk (q : Nat → Bool) : Code → Bool
  | .seq a b | .cond _ a b => dstsOk q a && dstsOk q b
  | .block _ b | .scope b | .loop b => dstsOk q b
  | .region _ ops _ => ops.toList.all fun o => match o.dst with | some d => q d | none => true
  | _ => true
theorem both_some {R : Type} {x y : Option R} {r : R} (h : both x y = some r) : x = some r ∧ y = some r := by
  unfold both at h
  split at h
  · rename_i e
    subst e
    exact ⟨h, h⟩
  · cases h
theorem pi_ok (E : Env P Γ) (hm : P.follows .mixedOrders = true) {Pc : Nat → Option Piece} {q : Nat → Bool} (hq : ∀ d, q d = true → d < n ∧ A d = none) : ∀ (c : Code) {R : Type} {clk : Nat} {s : State} {a : Act} {w : World} {K : Ex → Nat → State → Option R} {r : R} {Q : Exit → Act → World → Prop},
    dstsOk q c = true → (∀ id b o, (id, b) ∈ blocksOf c → Pc id = some o → o.ok ∧ PieceOk P n A (.block id b) o) → InvP P Kp B0 n A s a w → pi Γ Pc c clk s K = some r →
    (∀ e clk' s' a' w', InvP P Kp B0 n A s' a' w' → K e clk' s' = some r → Q e.to a' w') → c.wp P Q a w := by
  intro c
  induction c with
  | skip =>
    intro R clk s a w K r Q _ _ hi h hK
    exact wp_skip (hK .normal clk s a w hi (by simpa [pi] using h))
  | region rid ops draw =>
    intro R clk s a w K r Q hd _ hi h hK
    have hdst : ∀ o ∈ ops.toList, ∀ d, o.dst = some d → d < n ∧ A d = none := by
      intro o ho d hod
      simp only [dstsOk, List.all_eq_true] at hd
      have := hd o ho
      rw [hod] at this
      exact hq d this
    simp only [pi] at h
    cases draw with
    | false =>
      have := wp_plain (P := P) (Q := Q) E hdst ops.toList [] (by simp) hi (by simpa using h) (fun s' a' w' hi' hk => hK .normal _ s' a' w' hi' hk)
      exact wp_region (by simpa [List.range_eq_range'] using this)
    | true => exact wp_draw E hm hdst hi h fun s' a' w' hi' hk => hK .normal _ s' a' w' hi' hk
  | seq x y ihx ihy =>
    intro R clk s a w K r Q hd hP hi h hK
    simp only [pi] at h
    simp only [dstsOk, Bool.and_eq_true] at hd
    refine wp_seq (ihx hd.1 (fun id b o hb => hP id b o (by simp [blocksOf, hb])) hi h fun e clk' s' a' w' hi' hk => ?_)
    cases e with
    | normal => exact ihy hd.2 (fun id b o hb => hP id b o (by simp [blocksOf, hb])) hi' hk hK
    | exit id => exact hK _ _ _ _ _ hi' hk
    | goto l => exact hK _ _ _ _ _ hi' hk
    | ret => exact hK _ _ _ _ _ hi' hk
  | cond c x y ihx ihy =>
    intro R clk s a w K r Q hd hP hi h hK
    simp only [dstsOk, Bool.and_eq_true] at hd
    have hx := fun {clk : Nat} (hh : pi Γ Pc x clk s K = some r) => ihx (Q := Q) hd.1 (fun id b o hb => hP id b o (by simp [blocksOf, hb])) hi hh hK
    have hy := fun {clk : Nat} (hh : pi Γ Pc y clk s K = some r) => ihy (Q := Q) hd.2 (fun id b o hb => hP id b o (by simp [blocksOf, hb])) hi hh hK
    cases c with
    | tmp t =>
      simp only [pi] at h
      split at h
      · rename_i z hz
        obtain ⟨G, g⟩ := hi.inv.ghost
        have hv := g.slots t
        rw [hz] at hv
        obtain ⟨c, e1, e2⟩ := hv
        simp only [Rep] at e2
        subst e2
        have hev : a.eval (.tmp t) = .bool z := by
          have e1 : a.tmps.getD t undef = .bool z := e1
          simpa [Act.eval, Array.getD_eq_getD_getElem?] using e1
        cases z with
        | true =>
          rw [set_self _ _ _ hz] at h
          simp only [if_true] at h
          exact wp_cond_true hev (hx h)
        | false =>
          rw [set_self _ _ _ hz] at h
          simp only [Bool.false_eq_true, if_false] at h
          exact wp_cond_false hev (hy h)
      · rename_i z hz
        obtain ⟨G, g⟩ := hi.inv.ghost
        have hv := g.slots t
        rw [hz] at hv
        obtain ⟨z', e1, e2⟩ := hv
        have hev : a.eval (.tmp t) = .bool z' := by
          simpa [Act.eval, Array.getD_eq_getD_getElem?] using e1
        cases z with
        | true =>
          simp only [if_true] at h
          obtain ⟨h1, h2⟩ := both_some h
          cases z' with
          | true => exact wp_cond_true hev (hx h1)
          | false => exact wp_cond_false hev (hy h2)
        | false =>
          simp only [Bool.false_eq_true, if_false] at h
          cases z' with
          | true => exact absurd (e2 rfl) (by simp)
          | false => exact wp_cond_false hev (hy h)
      · cases h
    | const v =>
      cases v with
      | bool z =>
        simp only [pi] at h
        cases z with
        | true => exact wp_cond_true rfl (hx h)
        | false => exact wp_cond_false rfl (hy h)
      | _ => simp [pi] at h
    | _ => simp [pi] at h
  | block id b ih =>
    intro R clk s a w K r Q hd hP hi h hK
    simp only [pi] at h
    cases hp : Pc id with
    | some o =>
      rw [hp] at h
      simp only at h
      split at h
      · rename_i d hn
        rw [Option.bind_eq_some_iff] at h
        obtain ⟨x, h1, h2⟩ := h
        obtain ⟨k1, k2⟩ := hP id b o (by simp [blocksOf]) hp
        have hi' := normP_ok k1.head hn hi
        refine wp_mono (k2 Kp B0 d x a w h1 hi') fun e a' w' hh => ?_
        obtain ⟨rfl, hi2⟩ := hh
        rw [Outs.give_at] at h2
        exact hK _ _ _ _ _ hi2 h2
      · cases h
    | none =>
      rw [hp] at h
      simp only at h
      refine wp_block (ih hd (fun id' b' o hb => hP id' b' o (by simp [blocksOf, hb])) hi h fun e clk' s' a' w' hi' hk => ?_)
      cases e with
      | exit j =>
        simp only [Ex.to, Exit.inBlock]
        rcases bif_some hk with ⟨e1, hk⟩ | ⟨e1, hk⟩
        · rw [if_pos (Nat.eq_of_beq_eq_true e1)]
          exact hK _ _ _ _ _ hi' hk
        · rw [if_neg (fun e => by subst e; rw [Nat.beq_refl] at e1; cases e1)]
          exact hK _ _ _ _ _ hi' hk
      | normal => exact hK _ _ _ _ _ hi' hk
      | goto l => exact hK _ _ _ _ _ hi' hk
      | ret => exact hK _ _ _ _ _ hi' hk
  | exit id =>
    intro R clk s a w K r Q _ _ hi h hK
    exact wp_exit (hK (.exit id) clk s a w hi (by simpa [pi] using h))
  | label l =>
    intro R clk s a w K r Q _ _ hi h hK
    exact wp_label (hK .normal clk s a w hi (by simpa [pi] using h))
  | goto l =>
    intro R clk s a w K r Q _ _ hi h hK
    exact wp_goto (hK (.goto l) clk s a w hi (by simpa [pi] using h))
  | ret =>
    intro R clk s a w K r Q _ _ hi h hK
    exact wp_ret (hK .ret clk s a w hi (by simpa [pi] using h))
  | _ => intro R clk s a w K r Q _ _ _ h _; simp [pi] at h
/-- A loop, round after round. -/
theorem loop_ok (E : Env P Γ) (hm : P.follows .mixedOrders = true) {Pc : Nat → Option Piece} {q : Nat → Bool} (hq : ∀ d, q d = true → d < n ∧ A d = none) {id : Nat} {head : Form} {outs : Outs} {body : Code} (hok : (head.map (·.1)).Nodup ∧ Outs.ok outs) (hd : dstsOk q body = true)
    (hP : ∀ id b o, (id, b) ∈ blocksOf body → Pc id = some o → o.ok ∧ PieceOk P n A (.block id b) o) {L : Nat → head.den → Option outs.den} (h0 : ∀ d, L 0 d = none) (hL : ∀ m d, L (m + 1) d = roundR Γ Pc id head outs body (L m) d) :
    ∀ m, PieceOk P n A (.block id (.loop body)) ⟨head, outs, L m⟩ := by
  intro m Kp B0 d x a w hrun hi
  refine wp_block (wp_loop_rounds m ?_)
  simp only at hrun hi x d
  revert hrun hi
  generalize hQ : Exit.inBlock id (fun e a' w' => e = (Outs.at outs x).1.to ∧ InvP P Kp B0 n A (Outs.at outs x).2 a' w') = Q
  have hfin : ∀ (e : Ex) (s : State) (a' : Act) (w' : World), InvP P Kp B0 n A s a' w' → (match e with
      | .normal => none
      | .exit j => bif Nat.beq j id then Outs.take s .normal outs else Outs.take s (.exit j) outs
      | e => Outs.take s e outs) = some x → Q e.to a' w' := by
    intro e s a' w' hi' hk
    rw [← hQ]
    cases e with
    | normal => cases hk
    | exit j =>
      simp only [Ex.to, Exit.inBlock]
      rcases bif_some hk with ⟨e1, hk⟩ | ⟨e1, hk⟩
      · rw [if_pos (Nat.eq_of_beq_eq_true e1)]
        obtain ⟨k1, k2⟩ := take_ok hok.2 hk hi'
        exact ⟨by simp [k1, Ex.to], k2⟩
      · rw [if_neg (fun e => by subst e; rw [Nat.beq_refl] at e1; cases e1)]
        obtain ⟨k1, k2⟩ := take_ok hok.2 hk hi'
        exact ⟨by simp [k1, Ex.to], k2⟩
    | goto l =>
      obtain ⟨k1, k2⟩ := take_ok hok.2 hk hi'
      exact ⟨by rw [k1], k2⟩
    | ret =>
      obtain ⟨k1, k2⟩ := take_ok hok.2 hk hi'
      exact ⟨by rw [k1], k2⟩
  clear hQ
  induction m generalizing d a w with
  | zero => intro h; rw [h0] at h; cases h
  | succ m ih =>
    intro hrun hi
    rw [hL] at hrun
    rw [rounds_succ]
    refine pi_ok E hm hq body hd hP hi hrun fun e clk' s' a' w' hi' hk => ?_
    cases e with
    | normal =>
      simp only [Option.bind_eq_some_iff] at hk
      obtain ⟨d', k1, k2⟩ := hk
      exact ih d' a' w' k2 (normP_ok hok.1 k1 hi')
    | exit j => exact hfin (.exit j) s' a' w' hi' hk
    | goto l => exact hfin (.goto l) s' a' w' hi' hk
    | ret => exact hfin .ret s' a' w' hi' hk
end
end Go.V
set_option linter.unusedVariables false
set_option linter.unusedSimpArgs false
namespace Go.V
section
variable {P : Program} {Γ : Ctx} {Kp : Keep} {B0 : World} {n : Nat} {G : Gh} {s : State} {a : Act} {w w' : World} {id : Nat} {o : Oper} {Q : Exit → Act → World → Prop} {ws : Writes} {A : Nat → Option Value}
theorem ArgsOk.length {ψ : Nat → Option (Nat × Path)} {U : Nat → Prop} : ∀ {ps : List (Kd × Bool)} {i : Nat} {vs : List Value} {d : (Kd.tuple (ps.map (·.1))).den}, ArgsOk w ψ U i ps vs d → vs.length = ps.length := by
  intro ps
  induction ps with
  | nil => intro i vs d h; rw [show vs = [] from h]; rfl
  | cons p ps ih =>
    intro i vs d h
    obtain ⟨k, io⟩ := p
    obtain ⟨c, r, h1, _, h2⟩ := h
    subst h1
    simp [ih h2]
/-- What stands at the begin. -/
theorem start_ents {ψ : Nat → Option (Nat × Path)} {U : Nat → Prop} : ∀ {ps : List (Kd × Bool)} {i : Nat} {vs : List Value} {d : (Kd.tuple (ps.map (·.1))).den} {s1 : State}, ArgsOk w ψ U i ps vs d →
    (∀ t, (t < i ∨ i + ps.length ≤ t) → (s1.put (start i ps d)) (sl t) = s1 (sl t) ∧ (s1.put (start i ps d)) (rt t) = s1 (rt t)) ∧
    ∀ j, j < ps.length → ∃ k c, ∃ dd : k.den, vs[j]? = some (mkVal k c) ∧
      (((s1.put (start i ps d)) (sl (i + j)) = .val k dd ∧ (s1.put (start i ps d)) (rt (i + j)) = s1 (rt (i + j)) ∧ Rep w (fun _ b => U b) k [] c dd) ∨
       ((s1.put (start i ps d)) (sl (i + j)) = .al (i + j) [] 0 ∧ (s1.put (start i ps d)) (rt (i + j)) = .root k dd k.lev false false 0 ∧ Rep w (fun q b => ψ b = some (i + j, q)) k [] c dd)) := by
  intro ps
  induction ps with
  | nil => intro i vs d s1 h; exact ⟨fun _ _ => ⟨rfl, rfl⟩, fun j hj => by simp at hj⟩
  | cons p ps ih =>
    intro i vs d s1 h
    obtain ⟨k, io⟩ := p
    obtain ⟨c, r, h1, h2, h3⟩ := h
    subst h1
    cases io with
    | false =>
      obtain ⟨e1, e2⟩ := ih (s1 := s1.set (sl i) (.val k d.1)) h3
      have eq : s1.put (start i ((k, false) :: ps) d) = (s1.set (sl i) (.val k d.1)).put (start (i + 1) ps d.2) := rfl
      rw [eq]
      refine ⟨fun t ht => ?_, fun j hj => ?_⟩
      · simp only [List.length_cons] at ht
        obtain ⟨f1, f2⟩ := e1 t (by omega)
        rw [f1, f2, State.set_other _ _ (fun e => by have := sl_inj e; omega), State.set_other _ _ (sl_rt i t).symm]
        exact ⟨rfl, rfl⟩
      · cases j with
        | zero =>
          obtain ⟨f1, f2⟩ := e1 i (by omega)
          refine ⟨k, c, d.1, rfl, .inl ⟨?_, ?_, h2⟩⟩
          · exact f1.trans (State.set_same _ _ _)
          · exact f2.trans (State.set_other _ _ (sl_rt i i).symm)
        | succ j =>
          obtain ⟨k', c', dd, g1, g2⟩ := e2 j (by simpa using hj)
          refine ⟨k', c', dd, by simpa using g1, ?_⟩
          rw [show i + (j + 1) = i + 1 + j by omega]
          rw [State.set_other _ _ (sl_rt i (i + 1 + j)).symm] at g2
          exact g2
    | true =>
      obtain ⟨e1, e2⟩ := ih (s1 := (s1.set (rt i) (.root k d.1 k.lev false false 0)).set (sl i) (.al i [] 0)) h3
      have eq : s1.put (start i ((k, true) :: ps) d) = ((s1.set (rt i) (.root k d.1 k.lev false false 0)).set (sl i) (.al i [] 0)).put (start (i + 1) ps d.2) := rfl
      rw [eq]
      refine ⟨fun t ht => ?_, fun j hj => ?_⟩
      · simp only [List.length_cons] at ht
        obtain ⟨f1, f2⟩ := e1 t (by omega)
        rw [f1, f2, State.set_other _ _ (fun e => by have := sl_inj e; omega), State.set_other _ _ (sl_rt t i), State.set_other _ _ (sl_rt i t).symm, State.set_other _ _ (fun e => by have := rt_inj e; omega)]
        exact ⟨rfl, rfl⟩
      · cases j with
        | zero =>
          obtain ⟨f1, f2⟩ := e1 i (by omega)
          refine ⟨k, c, d.1, rfl, .inr ⟨?_, ?_, h2⟩⟩
          · exact f1.trans (State.set_same _ _ _)
          · exact f2.trans ((State.set_other _ _ (sl_rt i i).symm).trans (State.set_same _ _ _))
        | succ j =>
          obtain ⟨k', c', dd, g1, g2⟩ := e2 j (by simpa using hj)
          refine ⟨k', c', dd, by simpa using g1, ?_⟩
          rw [show i + (j + 1) = i + 1 + j by omega]
          have : ((s1.set (rt i) (.root k d.1 k.lev false false 0)).set (sl i) (.al i [] 0)) (rt (i + 1 + j)) = s1 (rt (i + 1 + j)) := by
            rw [State.set_other _ _ (sl_rt i (i + 1 + j)).symm, State.set_other _ _ (fun e => by have := rt_inj e; omega)]
          rw [this] at g2
          exact g2
/-- Which blocks the callee counts as whose. -/
noncomputable def inφ (ψ : Nat → Option (Nat × Path)) (U : Nat → Prop) (size : Nat) : Nat → Option (Bool × Nat × Path) := fun b =>
  open Classical in
  match ψ b with
  | some (i, q) => some (false, i, q)
  | none => if b < size ∧ ¬ U b then some far else none
def inK (ψ : Nat → Option (Nat × Path)) (U : Nat → Prop) (size : Nat) : Keep := ⟨fun b => b < size ∧ ψ b = none, fun b => b < size ∧ ψ b = none ∧ ¬ U b⟩
/-- Whether a parameter is lent. -/
def ioAt (ps : List (Kd × Bool)) (d : Nat) : Bool := match ps[d]? with
  | some p => p.2
  | none => false
def inA (ps : List (Kd × Bool)) (vs : List Value) : Nat → Option Value := fun t => bif ioAt ps t then vs[t]? else none
theorem start_ok {ψ : Nat → Option (Nat × Path)} {U : Nat → Prop} {ps : List (Kd × Bool)} {vs : List Value} {d : (Kd.tuple (ps.map (·.1))).den} (h : ArgsOk w ψ U 0 ps vs d) (hU : ∀ b, U b → ψ b = none)
    (hψ : ∀ b z, ψ b = some z → ∃ cs T, w.heap[b]? = some (.cells cs T (0, 0))) (hgl : Gl P w ψ) (hn : ps.length ≤ n) :
    InvP P (inK ψ U w.heap.size) w n (inA ps vs) (State.empty.put (start 0 ps d)) { tmps := vs.toArray ++ Array.replicate (n - vs.toArray.size) undef, defers := [] } w := by
  have hlen := h.length
  obtain ⟨e1, e2⟩ := start_ents (s1 := State.empty) h
  have htmp : ∀ t v, vs[t]? = some v → (vs.toArray ++ Array.replicate (n - vs.toArray.size) undef).getD t undef = v := by
    intro t v hv
    have hlt := (List.getElem?_eq_some_iff.1 hv).1
    rw [Array.getD_eq_getD_getElem?, Array.getElem?_append_left (by simpa using hlt)]
    simp [hv]
  refine ⟨⟨rfl, by simp; omega, ⟨rfl, rfl, rfl, Nat.le_refl _, fun _ _ => rfl, fun b hb => hb.1, fun b hb => ⟨⟨(hgl b hb).2.lt hb, (hgl b hb).1⟩, (hgl b hb).2⟩⟩, ⟨inφ ψ U w.heap.size, fun t => (vs.getD t undef).cells.toList, fun _ => 0⟩, ?_, ?_, ?_⟩, fun t v hv => by
    unfold inA at hv
    rcases bif_some hv with ⟨_, hv⟩ | ⟨_, hv⟩
    · exact htmp t v hv
    · cases hv⟩
  · intro t
    by_cases ht : t < ps.length
    · obtain ⟨k, c, dd, f1, f2⟩ := e2 t ht
      rw [Nat.zero_add] at f2
      simp only
      rw [htmp t _ f1]
      rcases f2 with ⟨f2, _, f3⟩ | ⟨f2, f4, f3⟩
      · rw [f2]
        refine ⟨c, rfl, f3.frame fun q b _ hb _ => ⟨rfl, ?_⟩⟩
        simp only [shS, inφ, hU b hb, hb, not_true_eq_false, and_false, if_false]
      · rw [f2]
        simp only [CellOk]
        rw [f4]
        refine ⟨Nat.le_refl _, fun _ => ⟨⟨k, dd⟩, rfl, trivial, ?_⟩⟩
        simp only [subC, List.getD_eq_getElem?_getD, f1, Option.getD_some]
        rw [mkVal_cells f3]
    · have := (e1 t (by omega)).1
      rw [this]
      trivial
  · intro t
    by_cases ht : t < ps.length
    · obtain ⟨k, c, dd, f1, f2⟩ := e2 t ht
      rw [Nat.zero_add] at f2
      rcases f2 with ⟨_, f4, _⟩ | ⟨_, f4, f3⟩
      · rw [f4]
        trivial
      · rw [f4]
        refine ⟨?_, fun h => by cases h⟩
        simp only [List.getD_eq_getElem?_getD, f1, Option.getD_some]
        rw [mkVal_cells f3]
        refine f3.lim.frame fun q b _ hb _ => ⟨rfl, ?_⟩
        obtain ⟨g1, _, g2⟩ := hb
        simp only [lev, Nat.zero_add] at g2
        simp only [ownS, g2, if_true, inφ, g1]
    · have := (e1 t (by omega)).2
      rw [this]
      trivial
  · have key : ∀ b x, inφ ψ U w.heap.size b = some x → (∃ i q, ψ b = some (i, q) ∧ x = (false, i, q)) ∨ (ψ b = none ∧ b < w.heap.size ∧ ¬ U b ∧ x = far) := by
      intro b x hx
      unfold inφ at hx
      split at hx
      · rename_i i q hb
        exact .inl ⟨i, q, hb, (Option.some.inj hx).symm⟩
      · rename_i hb
        split at hx
        · rename_i hc
          exact .inr ⟨hb, hc.1, hc.2, (Option.some.inj hx).symm⟩
        · cases hx
    refine ⟨fun b x hx => ?_, fun b x hx => ?_, fun b hb => ?_⟩
    · rcases key b x hx with ⟨i, q, h1, h2⟩ | ⟨_, _, _, h2⟩
      · refine .inr ⟨fun hk => ?_, hψ b _ h1⟩
        rw [hk.2] at h1
        cases h1
      · exact .inl h2
    · rcases key b x hx with ⟨i, q, h1, h2⟩ | ⟨_, h1, _, h2⟩
      · obtain ⟨cs, T, h3⟩ := hψ b _ h1
        exact (Array.getElem?_eq_some_iff.1 h3).1
      · exact h1
    · simp only [inφ, hb.2.1]
      rw [if_pos ⟨hb.1, hb.2.2⟩]
end
end Go.V
set_option linter.unusedVariables false
set_option linter.unusedSimpArgs false
namespace Go.V
section
variable {P : Program} {Γ : Ctx} {Kp : Keep} {B0 : World} {n : Nat} {G : Gh} {s : State} {a : Act} {w w' : World} {id : Nat} {o : Oper} {Q : Exit → Act → World → Prop} {ws : Writes} {A : Nat → Option Value}
theorem ft {p : Prop} (h : false = true) : p := Bool.noConfusion h
theorem tf {p : Prop} (h : true = false) : p := Bool.noConfusion h
theorem ns {α : Type} {x : α} {p : Prop} (h : none = some x) : p := by cases h
theorem sn {α : Type} {x : α} {p : Prop} (h : some x = none) : p := by cases h
theorem any_beq {u : List Nat} {r : Nat} (h : u.any (Nat.beq r) = false) : r ∉ u := by
  intro hm
  rw [List.any_eq_false] at h
  exact h r hm (Nat.beq_refl r)
theorem ioV_ok (g : GOk Kp G s a w) : ∀ {ps : List (Kd × Bool)} {i : Nat} {u : List Nat} {y : (Kd.tuple ((ps.filter (·.2)).map (·.1))).den} {u' : List Nat}, ioV s i ps u = some (y, u') →
    ∃ L : List (Nat × Nat), (∀ x ∈ L, i ≤ x.1) ∧ (L.Pairwise fun x y => x.2 ≠ y.2) ∧ (∀ x ∈ L, x.2 ∉ u) ∧ (∀ r, r ∈ u' ↔ r ∈ u ∨ ∃ x ∈ L, x.2 = r) ∧
      ∀ vs : List Value, vs.length = ps.length → (∀ j v, ioAt ps j = true → vs[j]? = some v → a.tmps.getD (i + j) undef = v) → ∀ χ : Nat → Option Lab, (∀ x ∈ L, ∀ b q, G.φ b = some (false, x.2, q) → χ b = some (.io x.1 q)) → IoOk w χ i ps vs y := by
  intro ps
  induction ps with
  | nil =>
    intro i u y u' h
    simp only [ioV, Option.some.injEq, Prod.mk.injEq] at h
    obtain ⟨_, rfl⟩ := h
    exact ⟨[], fun _ h => by simp at h, List.Pairwise.nil, fun _ h => by simp at h, fun r => by simp, fun _ _ _ _ _ => trivial⟩
  | cons p ps ih =>
    intro i u y u' h
    obtain ⟨k, io⟩ := p
    cases io with
    | false =>
      have h : ioV s (i + 1) ps u = some (y, u') := h
      obtain ⟨L, l1, l2, l3, l4, l5⟩ := ih h
      refine ⟨L, fun x hx => by have := l1 x hx; omega, l2, l3, l4, fun vs hlen hv χ hχ => ?_⟩
      cases vs with
      | nil => simp at hlen
      | cons v vs =>
        exact l5 vs (by simpa using hlen) (fun j v' hio hj => by have := hv (j + 1) v' (by simpa [ioAt] using hio) (by simpa using hj); rw [show i + 1 + j = i + (j + 1) by omega]; exact this) χ hχ
    | true =>
      simp only [ioV] at h
      split at h
      · rename_i r p ver hs
        split at h
        · rename_i k' d dep box frz ver' hr
          rcases bif_some h with ⟨hc, h1⟩ | ⟨_, h1⟩
          · simp only [Bool.and_eq_true, List.isEmpty_iff, Bool.not_eq_true', decide_eq_true_eq] at hc
            obtain ⟨⟨⟨rfl, rfl⟩, hd⟩, hu⟩ := hc
            have hu := any_beq hu
            split at h1
            · rename_i x z hx hz
              have h2 := Option.some.inj h1
              have hk := cast?_eq hx
              injection hk with e1 e2
              subst e1
              have e2 := eq_of_heq e2
              subst e2
              obtain ⟨L, l1, l2, l3, l4, l5⟩ := ih (y := z.1) (u' := z.2) hz
              refine ⟨(i, r) :: L, fun x hx => ?_, ?_, fun x hx => ?_, fun r' => ?_, fun vs hlen hv χ hχ => ?_⟩
              · rcases List.mem_cons.1 hx with rfl | hx
                · exact Nat.le_refl _
                · have := l1 x hx; omega
              · rw [List.pairwise_cons]
                exact ⟨fun x hx e => l3 x hx (by rw [← e]; simp), l2⟩
              · rcases List.mem_cons.1 hx with rfl | hx
                · exact hu
                · exact fun hm => l3 x hx (by simp [hm])
              · injection h2 with _ h2
                rw [← h2, l4]
                simp only [List.mem_cons, exists_eq_or_imp]
                constructor
                · rintro ((rfl | h) | h)
                  · exact .inr (.inl rfl)
                  · exact .inl h
                  · exact .inr (.inr h)
                · rintro (h | rfl | h)
                  · exact .inl (.inr h)
                  · exact .inl (.inl rfl)
                  · exact .inr h
              · cases vs with
                | nil => simp at hlen
                | cons v vs =>
                  have h3 : y = (d, z.1) := by injection h2 with h2 _; exact h2.symm
                  have hrest := l5 vs (by simpa using hlen) (fun j v' hio hj => by have := hv (j + 1) v' (by simpa [ioAt] using hio) (by simpa using hj); rw [show i + 1 + j = i + (j + 1) by omega]; exact this) χ (fun x hx => hχ x (by simp [hx]))
                  have hcell := g.slots i
                  rw [hs] at hcell
                  simp only [CellOk] at hcell
                  rw [hr] at hcell
                  obtain ⟨z', f1, f2, f3⟩ := hcell.2 (.inr (by simp))
                  simp only [getP, Option.some.injEq] at f1
                  subst f1
                  have hv0 := hv 0 v rfl rfl
                  rw [Nat.add_zero] at hv0
                  rw [hv0] at f3
                  simp only [subC] at f3
                  have hro := g.roots r
                  rw [hr] at hro
                  show ∃ c r, (v :: vs) = mkVal k' c :: r ∧ c.length = k'.size ∧ Rep w (fun q b => χ b = some (.io i q)) k' [] c y.1 ∧ IoOk w χ (i + 1) ps r y.2
                  refine ⟨G.C r, vs, by rw [f3], hro.1.length, ?_, ?_⟩
                  · rw [h3]
                    refine hro.1.lim.frame fun q b _ hb _ => ⟨rfl, ?_⟩
                    obtain ⟨g1, _, g2⟩ := hb
                    simp only [lev, Nat.zero_add] at g2
                    have : lev q < dep := by omega
                    simp only [ownS, this, if_true] at g1
                    exact hχ (i, r) (by simp) b q g1
                  · rw [h3]; exact hrest
            · cases h1
          · cases h1
        · cases h
      · rename_i r hs
        split at h
        · rename_i k' d dep ver' hr
          rcases bif_some h with ⟨hc, h1⟩ | ⟨_, h1⟩
          · simp only [Bool.and_eq_true, Bool.not_eq_true', decide_eq_true_eq] at hc
            obtain ⟨hd, hu⟩ := hc
            have hu := any_beq hu
            split at h1
            · rename_i x z hx hz
              have h2 := Option.some.inj h1
              have hk := cast?_eq hx
              injection hk with e1 e2
              subst e1
              have e2 := eq_of_heq e2
              subst e2
              obtain ⟨L, l1, l2, l3, l4, l5⟩ := ih (y := z.1) (u' := z.2) hz
              refine ⟨(i, r) :: L, fun x hx => ?_, ?_, fun x hx => ?_, fun r' => ?_, fun vs hlen hv χ hχ => ?_⟩
              · rcases List.mem_cons.1 hx with rfl | hx
                · exact Nat.le_refl _
                · have := l1 x hx; omega
              · rw [List.pairwise_cons]
                exact ⟨fun x hx e => l3 x hx (by rw [← e]; simp), l2⟩
              · rcases List.mem_cons.1 hx with rfl | hx
                · exact hu
                · exact fun hm => l3 x hx (by simp [hm])
              · injection h2 with _ h2
                rw [← h2, l4]
                simp only [List.mem_cons, exists_eq_or_imp]
                constructor
                · rintro ((rfl | h) | h)
                  · exact .inr (.inl rfl)
                  · exact .inl h
                  · exact .inr (.inr h)
                · rintro (h | rfl | h)
                  · exact .inl (.inr h)
                  · exact .inl (.inl rfl)
                  · exact .inr h
              · cases vs with
                | nil => simp at hlen
                | cons v vs =>
                  have h3 : y = (d, z.1) := by injection h2 with h2 _; exact h2.symm
                  have hrest := l5 vs (by simpa using hlen) (fun j v' hio hj => by have := hv (j + 1) v' (by simpa [ioAt] using hio) (by simpa using hj); rw [show i + 1 + j = i + (j + 1) by omega]; exact this) χ (fun x hx => hχ x (by simp [hx]))
                  have hcell := g.slots i
                  rw [hs] at hcell
                  simp only [CellOk] at hcell
                  rw [hr] at hcell
                  obtain ⟨_, _, f3⟩ := hcell
                  have hv0 := hv 0 v rfl rfl
                  rw [Nat.add_zero] at hv0
                  rw [hv0] at f3
                  have hro := g.roots r
                  rw [hr] at hro
                  show ∃ c r, (v :: vs) = mkVal k' c :: r ∧ c.length = k'.size ∧ Rep w (fun q b => χ b = some (.io i q)) k' [] c y.1 ∧ IoOk w χ (i + 1) ps r y.2
                  refine ⟨G.C r, vs, by rw [f3], hro.1.length, ?_, ?_⟩
                  · rw [h3]
                    refine hro.1.lim.frame fun q b _ hb _ => ⟨rfl, ?_⟩
                    obtain ⟨g1, _, g2⟩ := hb
                    simp only [lev, Nat.zero_add] at g2
                    have : lev q < dep := by omega
                    simp only [ownS, this, if_true] at g1
                    exact hχ (i, r) (by simp) b q g1
                  · rw [h3]; exact hrest
            · cases h1
          · cases h1
        · cases h
      · cases h
/-- How a result is read. -/
def resRd (tmps : Array Value) : ResultVar → Sem Value
  | .tmp t => pure (tmps.getD t undef)
  | .cell a t => do loadVar t (← asAddr (tmps.getD a undef))
theorem oneV_ok (hT : TabOk P Γ.tk Γ.ar) (g : GOk Kp G s a w) {v : ResultVar} {x : V} {ro : Option (Nat × Nat)} {free : Bool} (h : oneV Γ s v = some (x, ro, free)) :
    ∃ c, (resRd a.tmps v).run P w = .ok (mkVal x.k c) w ∧ (free = true → Rep w noS x.k [] c x.d) ∧ (free = false → ro = none → Rep w (shS G.φ) x.k [] c x.d) ∧
      (free = false → ∀ r dep, ro = some (r, dep) → (∃ T q, Rep w T x.k q c x.d ∧ ∀ q' b, T q' b → G.φ b = none ∨ ∃ q, G.φ b = some (false, r, q)) ∧ (x.k.lev ≤ dep → Rep w (fun q b => G.φ b = some (false, r, q)) x.k [] c x.d)) := by
  cases v with
  | tmp t =>
    simp only [oneV] at h
    have hv := g.slots t
    have hrd : ∀ v, a.tmps.getD t undef = v → (resRd a.tmps (.tmp t)).run P w = .ok v w := fun v h => by subst h; rfl
    split at h
    · rename_i k d hs
      simp only [Option.some.injEq, Prod.mk.injEq] at h
      obtain ⟨rfl, rfl, rfl⟩ := h
      rw [hs] at hv
      obtain ⟨c, e1, e2⟩ := hv
      exact ⟨c, hrd _ e1, ft, fun _ _ => e2, fun _ r dep => ns⟩
    · rename_i k d hs
      simp only [Option.some.injEq, Prod.mk.injEq] at h
      obtain ⟨rfl, rfl, rfl⟩ := h
      rw [hs] at hv
      obtain ⟨c, e1, e2⟩ := hv
      exact ⟨c, hrd _ e1, fun _ => e2, tf, tf⟩
    · rename_i r p ver hs
      split at h
      · rename_i k d dep box frz ver' hr
        rcases bif_some h with ⟨hver, h1⟩ | ⟨_, h1⟩
        · split at h1
          · rename_i x' hg
            simp only [Option.some.injEq, Prod.mk.injEq] at h1
            obtain ⟨rfl, rfl, rfl⟩ := h1
            rw [hs] at hv
            simp only [CellOk] at hv
            rw [hr] at hv
            obtain ⟨z, e1, e2, e3⟩ := hv.2 (verOk hver)
            rw [hg] at e1
            have e1 := Option.some.inj e1
            subst e1
            have hro := g.roots r
            rw [hr] at hro
            have hrep := getP_rep hro.1 e2 hg
            refine ⟨_, hrd _ e3, ft, fun _ => sn, fun _ r' dep' he => ?_⟩
            simp only [Option.some.injEq, Prod.mk.injEq] at he
            obtain ⟨rfl, rfl⟩ := he
            refine ⟨⟨_, _, hrep, fun q' b hb => ?_⟩, fun hl => ?_⟩
            · rcases ownS_lev hb with ⟨_, hb⟩ | ⟨_, hb⟩
              · exact .inr ⟨q', hb⟩
              · exact .inl hb
            · rw [List.nil_append] at hrep
              refine hrep.lim.move fun q b hb _ => ?_
              obtain ⟨f1, _, f2⟩ := hb
              cases p with
              | nil =>
                simp only [List.isEmpty_nil, cond_true] at hl
                simp only [List.nil_append] at f1 f2 ⊢
                have : lev q < dep := by simp only [lev] at f2; omega
                simp only [ownS, this, if_true] at f1
                exact f1
              | cons x' p =>
                simp only [List.isEmpty_cons, cond_false] at hl
                rw [lev_append] at f2
                omega
          · cases h1
        · cases h1
      · cases h
    · cases h
  | cell a0 t =>
    simp only [oneV] at h
    have hv := g.slots a0
    split at h
    · rename_i r p ver hs
      split at h
      · rename_i k d dep frz ver' hr
        rcases bif_some h with ⟨hver, h1⟩ | ⟨_, h1⟩
        · simp only [Bool.and_eq_true, List.isEmpty_iff, decide_eq_true_eq] at hver
          obtain ⟨rfl, ht⟩ := hver
          simp only [Option.some.injEq, Prod.mk.injEq] at h1
          obtain ⟨rfl, rfl, rfl⟩ := h1
          rw [hs] at hv
          obtain ⟨y, B, O, e1, e2, e3, e4, e5, e6, e7, hro⟩ := ptr_open g hv hr (by simp [noIdx])
          simp only [getP, Option.some.injEq] at e1
          subst e1
          refine ⟨cellsAt w B O k.size, ?_, ft, fun _ => sn, fun _ r' dep' he => ?_⟩
          · simp [resRd, e4, asAddr, run_loadVar hT ht e6]
          · simp only [Option.some.injEq, Prod.mk.injEq] at he
            obtain ⟨rfl, rfl⟩ := he
            refine ⟨⟨_, _, e7, fun q' b hb => ?_⟩, fun hl => ?_⟩
            · rcases ownS_lev hb with ⟨_, hb⟩ | ⟨_, hb⟩
              · exact .inr ⟨q', hb⟩
              · exact .inl hb
            · refine e7.lim.frame fun q b _ hb _ => ⟨rfl, ?_⟩
              obtain ⟨f1, _, f2⟩ := hb
              have : lev q < dep := by simp only [lev, Nat.zero_add] at f2; simp only at hl; omega
              simp only [ownS, this, if_true] at f1
              exact f1
        · cases h1
      · cases h
    · cases h
theorem resV_ok (hT : TabOk P Γ.tk Γ.ar) (g : GOk Kp G s a w) {own : Bool} : ∀ {rs : List Kd} {vs : List ResultVar} {u : List Nat} {x : (Kd.tuple rs).den}, resV Γ own s rs vs u = some x → ∀ pre : Path,
    ∃ (L : List (Path × Nat)) (vals : List Value) (c : List Value), (L.Pairwise fun x y => x.2 ≠ y.2) ∧ (∀ x ∈ L, x.2 ∉ u) ∧ (vs.mapM (resRd a.tmps)).run P w = .ok vals w ∧ vals = tupV rs c ∧ vals.length = rs.length ∧ c.length = (Kd.tuple rs).size ∧
      ∀ S : OwnS, (own = true → ∀ x ∈ L, ∀ b q, G.φ b = some (false, x.2, q) → S (x.1 ++ q) b) → (own = false → ∀ q b, (G.φ b = none ∨ ∃ r q, r ∉ u ∧ G.φ b = some (false, r, q)) → S q b) → Rep w S (Kd.tuple rs) pre c x := by
  intro rs
  induction rs with
  | nil =>
    intro vs u x h pre
    cases vs with
    | nil => exact ⟨[], [], [], List.Pairwise.nil, fun _ h => by simp at h, by simp, rfl, rfl, rfl, fun S _ _ => rfl⟩
    | cons _ _ => simp [resV] at h
  | cons k ks ih =>
    intro vs u x h pre
    cases vs with
    | nil => simp [resV] at h
    | cons v vs =>
      simp only [resV] at h
      split at h
      · cases h
      · rename_i y hy
        split at h
        · cases h
        · rename_i u' ht
          split at h
          · rename_i y1 z hc hz
            have h := Option.some.inj h
            subst h
            have hk := cast?_eq hc
            obtain ⟨y0, ro, free⟩ := y
            simp only at hk ht hc
            subst hk
            obtain ⟨c1, r1, r2, r3, r4⟩ := oneV_ok hT g hy
            simp only at r1 r2 r3 r4
            obtain ⟨L, vals, c, l1, l2, l3, l4, l5, l6, l7⟩ := ih hz (pre ++ [.r])
            have hlen : c1.length = k.size := by
              cases free with
              | true => exact (r2 rfl).length
              | false =>
                cases ro with
                | none => exact (r3 rfl rfl).length
                | some z => exact ((r4 rfl z.1 z.2 rfl).1).elim fun T hh => hh.elim fun q hh => hh.1.length
            -- the first one by its new owners
            have hhead : ∃ L0 : List (Path × Nat), (∀ x ∈ L0, x.2 ∉ u ∧ x.2 ∈ u') ∧ L0.length ≤ 1 ∧ (∀ r, r ∉ u' → r ∉ u) ∧
                ∀ S : OwnS, (own = true → ∀ x ∈ L0, ∀ b q, G.φ b = some (false, x.2, q) → S (x.1 ++ q) b) → (own = false → ∀ q b, (G.φ b = none ∨ ∃ r q, r ∉ u ∧ G.φ b = some (false, r, q)) → S q b) → Rep w S k (pre ++ [.l]) c1 y1 := by
              have flatc : k.flat = true → ∃ T q, Rep w T k q c1 y1 → True := fun _ => ⟨noS, [], fun _ => trivial⟩
              have anyRep : ∃ T q, Rep w T k q c1 y1 := by
                cases free with
                | true => exact ⟨_, _, r2 rfl⟩
                | false =>
                  cases ro with
                  | none => exact ⟨_, _, r3 rfl rfl⟩
                  | some z => obtain ⟨T, q, hh, _⟩ := (r4 rfl z.1 z.2 rfl).1; exact ⟨T, q, hh⟩
              unfold takeR at ht
              rcases bif_some ht with ⟨hf, hu⟩ | ⟨hf, hu⟩
              · have hu := Option.some.inj hu
                subst hu
                refine ⟨[], fun _ h => by simp at h, by simp, fun _ h => h, fun S _ _ => ?_⟩
                simp only [Bool.or_eq_true] at hf
                rcases hf with hf | hf
                · obtain ⟨T, q, hh⟩ := anyRep
                  exact hh.flat w _ _ hf
                · subst hf
                  exact (r2 rfl).move fun p b hb _ => hb.elim
              · simp only [Bool.or_eq_false_iff] at hf
                obtain ⟨_, rfl⟩ := hf
                cases ro with
                | none =>
                  simp only at hu
                  rcases bif_some hu with ⟨_, hu⟩ | ⟨ho, hu⟩
                  · cases hu
                  · have hu := Option.some.inj hu
                    subst hu
                    exact ⟨[], fun _ h => by simp at h, by simp, fun _ h => h, fun S _ hS => (r3 rfl rfl).move fun p b hb _ => hS ho _ b (.inl hb)⟩
                | some z =>
                  obtain ⟨r, dep⟩ := z
                  simp only at hu
                  rcases bif_some hu with ⟨_, hu⟩ | ⟨hnu, hu⟩
                  · cases hu
                  · have hnu := any_beq hnu
                    rcases bif_some hu with ⟨ho, hu⟩ | ⟨ho, hu⟩
                    · rcases bif_some hu with ⟨hl, hu⟩ | ⟨_, hu⟩
                      · have hu := Option.some.inj hu
                        subst hu
                        have hl := of_decide_eq_true hl
                        refine ⟨[(pre ++ [.l], r)], fun x hx => ?_, by simp, fun r' h => fun hm => h (by simp [hm]), fun S hS _ => ?_⟩
                        · simp only [List.mem_singleton] at hx
                          subst hx
                          exact ⟨hnu, by simp⟩
                        · exact ((r4 rfl r dep rfl).2 hl).move fun p b hb _ => hS ho (pre ++ [St.l], r) (by simp) b p (by simpa using hb)
                      · cases hu
                    · have hu := Option.some.inj hu
                      subst hu
                      refine ⟨[], fun _ h => by simp at h, by simp, fun _ h => h, fun S _ hS => ?_⟩
                      obtain ⟨T, q, hh, hT'⟩ := (r4 rfl r dep rfl).1
                      refine hh.move fun p b hb _ => hS ho _ b ?_
                      rcases hT' _ b hb with h | ⟨q, h⟩
                      · exact .inl h
                      · exact .inr ⟨r, q, hnu, h⟩
            obtain ⟨L0, m1, m2, m3, m4⟩ := hhead
            refine ⟨L0 ++ L, mkVal k c1 :: vals, c1 ++ c, ?_, fun x hx => ?_, ?_, ?_, by simp [l5], by simp [Kd.tuple, Kd.size, hlen, l6], fun S hS1 hS2 => ?_⟩
            · rw [List.pairwise_append]
              refine ⟨?_, l1, fun x hx y hy e => l2 y hy (e ▸ (m1 x hx).2)⟩
              match L0, m2 with
              | [], _ => exact List.Pairwise.nil
              | [x], _ => exact List.pairwise_singleton _ _
            · rcases List.mem_append.1 hx with hx | hx
              · exact (m1 x hx).1
              · exact m3 _ (l2 x hx)
            · rw [List.mapM_cons]
              simp [r1, l3]
            · simp only [tupV, l4]
              rw [List.take_append_of_le_length (by omega), List.take_of_length_le (by omega), List.drop_append_of_le_length (by omega), List.drop_of_length_le (by omega)]
              rfl
            · simp only [Kd.tuple, Rep]
              rw [List.take_append_of_le_length (by omega), List.take_of_length_le (by omega), List.drop_append_of_le_length (by omega), List.drop_of_length_le (by omega)]
              refine ⟨m4 S (fun ho x hx => hS1 ho x (by simp [hx])) hS2, ?_⟩
              exact l7 S (fun ho x hx => hS1 ho x (by simp [hx])) (fun ho q b hb => hS2 ho q b (hb.imp _root_.id fun ⟨r, q, h1, h2⟩ => ⟨r, q, m3 r h1, h2⟩))
          · cases h
end
end Go.V
set_option linter.unusedVariables false
set_option linter.unusedSimpArgs false
namespace Go.V
theorem splitT_join : ∀ {a b : List Kd} (x : (Kd.tuple a).den) (y : (Kd.tuple b).den), splitT a b (joinT a b x y) = (x, y) := by
  intro a
  induction a with
  | nil => intro b x y; rfl
  | cons k a ih =>
    intro b x y
    have h := ih x.2 y
    have e : splitT (k :: a) b (joinT (k :: a) b x y) = ((x.1, (splitT a b (joinT a b x.2 y)).1), (splitT a b (joinT a b x.2 y)).2) := rfl
    rw [e, h]
    rfl
/-- What the labels are behind a call. -/
noncomputable def outχ (φ : Nat → Option (Bool × Nat × Path)) (Li : List (Nat × Nat)) (Lr : List (Path × Nat)) (own : Bool) : Nat → Option Lab := fun b =>
  match φ b with
  | some (false, r, q) => match Li.find? (fun x => Nat.beq x.2 r) with
    | some x => some (.io x.1 q)
    | none => if own = true then match Lr.find? (fun x => Nat.beq x.2 r) with
      | some x => some (.res (x.1 ++ q))
      | none => none
      else none
  | _ => none
theorem find_in {α : Type} : ∀ {L : List (α × Nat)}, (L.Pairwise fun x y => x.2 ≠ y.2) → ∀ x ∈ L, L.find? (fun y => Nat.beq y.2 x.2) = some x := by
  intro L
  induction L with
  | nil => intro _ x h; simp at h
  | cons y L ih =>
    intro hp x hx
    rw [List.pairwise_cons] at hp
    rcases List.mem_cons.1 hx with rfl | hx
    · simp
    · have : Nat.beq y.2 x.2 = false := by
        cases hb : Nat.beq y.2 x.2 with
        | false => rfl
        | true => exact absurd (Nat.eq_of_beq_eq_true hb) (hp.1 x hx)
      rw [List.find?_cons, this]
      exact ih hp.2 x hx
theorem find_out {α : Type} {L : List (α × Nat)} {r : Nat} (h : ∀ x ∈ L, x.2 ≠ r) : L.find? (fun y => Nat.beq y.2 r) = none := by
  rw [List.find?_eq_none]
  intro x hx hb
  exact h x hx (Nat.eq_of_beq_eq_true hb)
section
variable {P : Program} {Γ : Ctx} {Kp : Keep} {B0 : World} {n : Nat} {G : Gh} {s : State} {a : Act} {w w' : World} {id : Nat} {o : Oper} {Q : Exit → Act → World → Prop} {ws : Writes} {A : Nat → Option Value}
theorem run_results_of {fn : Func} {tmps : Array Value} {vals : List Value} (h : (fn.results.toList.mapM (resRd tmps)).run P w = .ok vals w) :
    (results fn tmps).run P w = .ok (if h : vals.toArray.size = 1 then vals.toArray[0] else .tuple vals.toArray) w := by
  have e : results fn tmps = (do
    let vs ← fn.results.mapM (resRd tmps)
    pure (if h : vs.size = 1 then vs[0] else .tuple vs)) := by
    unfold results
    congr 1
  rw [e, Array.mapM_eq_mapM_toList]
  simp [h]
theorem fn_ok (E : Env P Γ) (hm : P.follows .mixedOrders = true) {f : FuncId} {fn : Func} {body : Code} (hf : P.funcs[f]? = some fn) (hb : fn.body = some body) (hname : (fn.name == "runtime.NumGoroutine") = false)
    {ps : List (Kd × Bool)} {rs : List Kd} {own : Bool} {F : (Kd.tuple (ps.map (·.1))).den → Option (Kd.tuple (rs ++ (ps.filter (·.2)).map (·.1))).den} (hn : ps.length ≤ fn.ntmps) {q : Nat → Bool} (hq : ∀ d, q d = true → ioAt ps d = false ∧ d < fn.ntmps) (hd : dstsOk q body = true)
    {Pc : Nat → Option Piece} (hP : ∀ A : Nat → Option Value, (∀ d, q d = true → d < fn.ntmps ∧ A d = none) → ∀ id b o, (id, b) ∈ blocksOf body → Pc id = some o → o.ok ∧ PieceOk P fn.ntmps A (.block id b) o)
    (hF : ∀ d r, F d = some r → fnR Γ Pc own ps rs fn.results.toList body d = some r) : Contract P f ⟨ps, rs, own, F⟩ := by
  intro w ψ U vs d out hargs hU hψ hgl hout
  simp only at hargs d out hout
  have hlen := hargs.length
  have hrun := hF d out hout
  have hcall : (callFunc f vs.toArray).run P w = .ok (.enter f vs.toArray) w := by
    simp only [beq_eq_false_iff_ne, ne_eq] at hname
    simp [callFunc, hf, hb, hname]
  unfold CallsTo
  rw [hcall]
  simp only
  have hA : ∀ d, q d = true → d < fn.ntmps ∧ inA ps vs d = none := fun d hd => ⟨(hq d hd).2, by unfold inA; rw [(hq d hd).1]; rfl⟩
  refine calls_of_wp hf hb ?_
  have hstart := start_ok (n := fn.ntmps) hargs hU hψ hgl hn
  unfold fnR at hrun
  refine pi_ok E hm hA body hd (hP _ hA) hstart hrun fun e clk' s' a' w' hi' hk => ?_
  have hend : ∀ (hk : (match ioV s' 0 ps [] with
      | some y => match resV Γ own s' rs fn.results.toList y.2 with
        | some x => some (joinT rs _ x y.1)
        | none => none
      | none => none) = some out), a'.defers = [] ∧ ∃ v, (results fn a'.tmps).run P w' = .ok v w' ∧ ∃ χ, Post ⟨ps, rs, own, F⟩ ψ U vs w out χ v w' := by
    intro hk
    split at hk
    · rename_i y hy
      split at hk
      · rename_i x hx
        have hk := Option.some.inj hk
        obtain ⟨G, g⟩ := hi'.inv.ghost
        obtain ⟨Li, i1, i2, i3, i4, i5⟩ := ioV_ok g (y := y.1) (u' := y.2) hy
        obtain ⟨Lr, vals, c, r1, r2, r3, r4, r5, r6, r7⟩ := resV_ok E.tab g hx []
        refine ⟨hi'.inv.defers, _, run_results_of r3, outχ G.φ Li Lr own, ?_⟩
        have hχio : ∀ x ∈ Li, ∀ b q, G.φ b = some (false, x.2, q) → outχ G.φ Li Lr own b = some (.io x.1 q) := fun x hx b q hb => by
          unfold outχ
          rw [hb]
          simp only [find_in i2 x hx]
        have hdis : ∀ x ∈ Lr, ∀ z ∈ Li, z.2 ≠ x.2 := fun x hx z hz e => r2 x hx ((i4 x.2).2 (.inr ⟨z, hz, e⟩))
        have hχres : own = true → ∀ x ∈ Lr, ∀ b q, G.φ b = some (false, x.2, q) → outχ G.φ Li Lr own b = some (.res (x.1 ++ q)) := fun ho x hx b q hb => by
          unfold outχ
          rw [hb]
          simp only [find_out (hdis x hx), ho, if_true, find_in r1 x hx]
        have hX : ∀ b, G.φ b ≠ some far → U b ∨ w.heap.size ≤ b ∨ ψ b ≠ none := fun b hne => by
          by_cases hlt : b < w.heap.size
          · by_cases hz : ψ b = none
            · left
              apply Classical.byContradiction
              intro hu
              exact hne (g.col.out b ⟨hlt, hz, hu⟩)
            · exact .inr (.inr hz)
          · exact .inr (.inl (by omega))
        have hbase := hi'.inv.base
        have hsplit : splitT rs ((ps.filter (·.2)).map (·.1)) out = (x, y.1) := by rw [← hk]; exact splitT_join x y.1
        refine ⟨hbase.os, hbase.tape, hbase.output, hbase.size, fun b hlt hz => hbase.kept b ⟨hlt, hz⟩, fun b z hz => ?_, ⟨c, ?_, ?_⟩, ?_⟩
        · have : ∃ r q, G.φ b = some (false, r, q) := by
            unfold outχ at hz
            split at hz
            · rename_i r q hb; exact ⟨r, q, hb⟩
            · cases hz
          obtain ⟨r, q, hb⟩ := this
          obtain ⟨k1, k2⟩ := g.mine hb (.inl rfl)
          refine ⟨?_, k2⟩
          by_cases hlt : b < w.heap.size
          · right; intro hz2; exact k1 ⟨hlt, hz2⟩
          · left; omega
        · simp only
          match rs, c, r4, r5, r6 with
          | [], _, _, _, _ => trivial
          | [k], c, r4, r5, r6 =>
            subst r4
            simp [ResVal, tupV]
          | k :: k' :: ks, c, r4, r5, r6 =>
            subst r4
            simp [ResVal, tupV]
        · simp only
          rw [hsplit]
          simp only
          refine r7 _ (fun ho z hz b q hb => ?_) (fun ho q b hb => ?_)
          · have := hχres ho z hz b q hb
            simp only [ho, cond_true] at this ⊢
            exact this
          · rw [ho]
            simp only [cond_false]
            rcases hb with hb | ⟨r, q', hr, hb⟩
            · refine ⟨by unfold outχ; rw [hb], hX b (by rw [hb]; simp)⟩
            · refine ⟨?_, hX b (by rw [hb]; simp [far])⟩
              unfold outχ
              rw [hb]
              simp only [find_out fun z hz e => hr ((i4 r).2 (.inr ⟨z, hz, e⟩)), ho, Bool.false_eq_true, if_false]
        · simp only
          rw [hsplit]
          simp only
          refine i5 vs hlen (fun j v hio hj => ?_) _ hχio
          rw [Nat.zero_add]
          exact hi'.pin j v (by unfold inA; rw [hio]; exact hj)
      · cases hk
    · cases hk
  cases e with
  | normal =>
    obtain ⟨h1, v, h2, h3⟩ := hend hk
    exact ⟨h1, v, h2, h3⟩
  | ret =>
    obtain ⟨h1, v, h2, h3⟩ := hend hk
    exact ⟨h1, v, h2, h3⟩
  | exit j => cases hk
  | goto l => cases hk
/-- A contract for what is defined less often. -/
theorem Contract.less {f : FuncId} {ps : List (Kd × Bool)} {rs : List Kd} {own : Bool} {F : (Kd.tuple (ps.map (·.1))).den → Option (Kd.tuple (rs ++ (ps.filter (·.2)).map (·.1))).den} {ι : Type} (Fn : ι → (Kd.tuple (ps.map (·.1))).den → Option (Kd.tuple (rs ++ (ps.filter (·.2)).map (·.1))).den)
    (h : ∀ i, Contract P f ⟨ps, rs, own, Fn i⟩) (hF : ∀ d r, F d = some r → ∃ i, Fn i d = some r) : Contract P f ⟨ps, rs, own, F⟩ := by
  intro w ψ U vs d out hargs hU hψ hgl hout
  obtain ⟨i, hi⟩ := hF d out hout
  have := h i w ψ U vs d out hargs hU hψ hgl hi
  unfold CallsTo at this ⊢
  cases hr : (callFunc f vs.toArray).run P w with
  | ok x w1 =>
    rw [hr] at this
    cases x with
    | value v => obtain ⟨χ, p⟩ := this; exact ⟨χ, p.os, p.tape, p.output, p.size, p.kept, p.col, p.res, p.io⟩
    | enter f' args' =>
      refine Calls.mono this fun e w'' he => ?_
      cases e with
      | returned v => obtain ⟨χ, p⟩ := he; exact ⟨χ, p.os, p.tape, p.output, p.size, p.kept, p.col, p.res, p.io⟩
      | panicked chain => exact he.elim
      | outgrown => exact he.elim
    | row row args' => exact Rows.mono this fun v w'' ⟨χ, p⟩ => ⟨χ, p.os, p.tape, p.output, p.size, p.kept, p.col, p.res, p.io⟩
    | _ => exact this.elim
  | halt x w1 => rw [hr] at this; exact this.elim
end
end Go.V
set_option linter.unusedVariables false
set_option linter.unusedSimpArgs false
namespace Go.V
def assoc {α : Type} : List (Nat × α) → Nat → Option α
  | [], _ => none
  | x :: r, n => bif Nat.beq x.1 n then some x.2 else assoc r n
theorem assoc_mem {α : Type} {n : Nat} {y : α} : ∀ {l : List (Nat × α)}, assoc l n = some y → (n, y) ∈ l := by
  intro l
  induction l with
  | nil => intro h; cases h
  | cons x l ih =>
    intro h
    simp only [assoc] at h
    rcases bif_some h with ⟨h1, h2⟩ | ⟨_, h2⟩
    · have h1 := Nat.eq_of_beq_eq_true h1
      have h2 := Option.some.inj h2
      subst h1 h2
      simp
    · exact List.mem_cons_of_mem _ (ih h2)
/-- The tables, checked at once. -/
theorem tab_of {P : Program} {l : List (Nat × Kd)} {ar : TypeId → Option TypeId} (h : l.all (fun x => tyOkB P (assoc l) ar x.1 x.2) = true) : TabOk P (assoc l) ar := by
  intro t k hk
  have := List.all_eq_true.1 h _ (assoc_mem hk)
  exact this
def AllC (P : Program) : List (Nat × FSig) → Prop
  | [] => True
  | x :: r => Contract P x.1 x.2 ∧ AllC P r
theorem allC_get {P : Program} {n : Nat} {y : FSig} : ∀ {l : List (Nat × FSig)}, AllC P l → assoc l n = some y → Contract P n y := by
  intro l
  induction l with
  | nil => intro _ h; cases h
  | cons x l ih =>
    intro hA h
    simp only [assoc] at h
    rcases bif_some h with ⟨h1, h2⟩ | ⟨_, h2⟩
    · have h1 := Nat.eq_of_beq_eq_true h1
      have h2 := Option.some.inj h2
      subst h1 h2
      exact hA.1
    · exact ih hA.2 h2
theorem env_of {P : Program} {l : List (Nat × Kd)} {ar : TypeId → Option TypeId} {ln : Nat → Bool} {fs : List (Nat × FSig)} (h : TabOk P (assoc l) ar) (hfs : AllC P fs) : Env P { tk := assoc l, ar := ar, fs := assoc fs, lent := ln } :=
  ⟨h, fun _ _ hg => allC_get hfs hg, fun _ _ hg => (by cases hg), fun _ hg => (by cases hg)⟩
/-- A loop's piece in a code. -/
def PcOk (P : Program) (n : Nat) (A : Nat → Option Value) (body : Code) (x : Nat × Piece) : Prop :=
  ∃ c, (blocksOf body).filter (fun y => Nat.beq y.1 x.1) = [(x.1, .loop c)] ∧ x.2.ok ∧ PieceOk P n A (.block x.1 (.loop c)) x.2
def AllP (P : Program) (n : Nat) (A : Nat → Option Value) (body : Code) : List (Nat × Piece) → Prop
  | [] => True
  | x :: r => PcOk P n A body x ∧ AllP P n A body r
theorem allP_get {P : Program} {n : Nat} {A : Nat → Option Value} {body : Code} {id : Nat} {b : Code} {o : Piece} : ∀ {l : List (Nat × Piece)}, AllP P n A body l → (id, b) ∈ blocksOf body → assoc l id = some o → o.ok ∧ PieceOk P n A (.block id b) o := by
  intro l
  induction l with
  | nil => intro _ _ h; cases h
  | cons x l ih =>
    intro hA hb h
    simp only [assoc] at h
    rcases bif_some h with ⟨h1, h2⟩ | ⟨_, h2⟩
    · have h1 := Nat.eq_of_beq_eq_true h1
      have h2 := Option.some.inj h2
      subst h1 h2
      obtain ⟨c, hc, hok, hp⟩ := hA.1
      have : (x.1, b) ∈ (blocksOf body).filter (fun y => Nat.beq y.1 x.1) := List.mem_filter.2 ⟨hb, Nat.beq_refl _⟩
      rw [hc] at this
      simp only [List.mem_singleton, Prod.mk.injEq, true_and] at this
      subst this
      exact ⟨hok, hp⟩
    · exact ih hA.2 hb h2
def nodupB (f : Form) : Bool := decide ((f.map (·.1)).Nodup)
def outsB (o : Outs) : Bool := o.all fun x => nodupB x.2
theorem outs_ok {o : Outs} (h : outsB o = true) : Outs.ok o := fun x hx => of_decide_eq_true (List.all_eq_true.1 h x hx)
def inTmps (ps : List (Kd × Bool)) (hi : Nat) (d : Nat) : Bool := !ioAt ps d && Nat.blt d hi
theorem inTmps_ok {ps : List (Kd × Bool)} {hi d : Nat} (h : inTmps ps hi d = true) : ioAt ps d = false ∧ d < hi := by
  simp only [inTmps, Bool.and_eq_true, Bool.not_eq_true'] at h
  exact ⟨h.1, by have := h.2; rw [Nat.blt_eq] at this; exact this⟩
/-- A loop's piece, out of its rounds. -/
theorem pc_of {P : Program} {Γ : Ctx} (E : Env P Γ) (hm : P.follows .mixedOrders = true) {n : Nat} {np : List (Kd × Bool)} {A : Nat → Option Value} (hA : ∀ d, inTmps np n d = true → d < n ∧ A d = none) {inner : List (Nat × Piece)} {id : Nat} {head : Form} {outs : Outs} {body c : Code}
    (hc : (blocksOf c).filter (fun y => Nat.beq y.1 id) = [(id, .loop body)]) (hok : (nodupB head && outsB outs) = true) (hd : dstsOk (inTmps np n) body = true) (hin : AllP P n A body inner)
    {L : Nat → head.den → Option outs.den} (h0 : ∀ d, L 0 d = none) (hL : ∀ m d, L (m + 1) d = roundR Γ (assoc inner) id head outs body (L m) d) (m : Nat) : PcOk P n A c (id, ⟨head, outs, L m⟩) := by
  simp only [Bool.and_eq_true] at hok
  have h1 : (head.map (·.1)).Nodup := of_decide_eq_true hok.1
  have h2 := outs_ok hok.2
  exact ⟨body, hc, ⟨h1, h2⟩, loop_ok E hm hA ⟨h1, h2⟩ hd (fun id b o hb ho => allP_get hin hb ho) h0 hL m⟩
/-- A function's contract, out of the printed lemma. -/
theorem con_of {P : Program} {Γ : Ctx} (E : Env P Γ) (hm : P.follows .mixedOrders = true) {f : FuncId} {fn : Func} {body : Code} (hf : P.funcs[f]? = some fn) (hb : fn.body = some body) (hname : (fn.name == "runtime.NumGoroutine") = false)
    {ps : List (Kd × Bool)} {rs : List Kd} {own : Bool} {F : (Kd.tuple (ps.map (·.1))).den → Option (Kd.tuple (rs ++ (ps.filter (·.2)).map (·.1))).den} (hn : Nat.ble ps.length fn.ntmps = true) (hd : dstsOk (inTmps ps fn.ntmps) body = true)
    {Pc : List (Nat × Piece)} (hP : ∀ A : Nat → Option Value, (∀ d, inTmps ps fn.ntmps d = true → d < fn.ntmps ∧ A d = none) → AllP P fn.ntmps A body Pc)
    (hF : ∀ d, fnR Γ (assoc Pc) own ps rs fn.results.toList body d = F d) : Contract P f ⟨ps, rs, own, F⟩ :=
  fn_ok E hm hf hb hname (Nat.le_of_ble_eq_true hn) (fun d h => inTmps_ok h) hd (fun A hA id b o hb ho => allP_get (hP A hA) hb ho) (fun d r h => (hF d).trans h)
end Go.V
set_option linter.unusedVariables false
set_option linter.unusedSimpArgs false
namespace Go.V
/-- Data as a program's input has it. -/
def WfD : (k : Kd) → k.den → Prop
  | .int ik, n => (Lit.int ik n).wf = true
  | .bool, _ => True
  | .str, s => s.size ≤ maxLen
  | .slice e, l => List.length l ≤ maxLen ∧ ∀ x ∈ (l : List e.den), WfD e x
  | .unit, _ => True
  | .pair a b, d => WfD a d.1 ∧ WfD b d.2
  | .bx _, _ | .clo .., _ => True
theorem mapM_range' {β : Type} {f : Nat → Option β} : ∀ {n s : Nat} {l : List β}, (List.range' s n).mapM f = some l → l.length = n ∧ ∀ i, i < n → ∃ y, l[i]? = some y ∧ f (s + i) = some y := by
  intro n
  induction n with
  | zero => intro s l h; simp at h; subst h; exact ⟨rfl, fun i hi => by omega⟩
  | succ n ih =>
    intro s l h
    rw [List.range'_succ, List.mapM_cons] at h
    cases h1 : f s with
    | none => rw [h1] at h; simp at h
    | some y =>
      rw [h1] at h
      cases h2 : (List.range' (s + 1) n).mapM f with
      | none => rw [h2] at h; simp at h
      | some ys =>
        rw [h2] at h
        simp at h
        subst h
        obtain ⟨e1, e2⟩ := ih h2
        refine ⟨by simp [e1], fun i hi => ?_⟩
        cases i with
        | zero => exact ⟨y, rfl, h1⟩
        | succ i =>
          obtain ⟨z, z1, z2⟩ := e2 i (by omega)
          exact ⟨z, by simpa using z1, by rw [show s + (i + 1) = s + 1 + i by omega]; exact z2⟩
theorem mapM_range {β : Type} {f : Nat → Option β} {n : Nat} {l : List β} (h : (List.range n).mapM f = some l) : l.length = n ∧ ∀ i, i < n → ∃ y, l[i]? = some y ∧ f i = some y := by
  rw [List.range_eq_range'] at h
  obtain ⟨h1, h2⟩ := mapM_range' h
  exact ⟨h1, fun i hi => by simpa using h2 i hi⟩
theorem cell?_block {w : World} {b o : Nat} {v : Value} (h : w.cell? ⟨b, o, none⟩ = some v) : ∃ cs T fr, w.heap[b]? = some (.cells cs T fr) ∧ cs[o]? = some v := by
  unfold World.cell? at h
  split at h
  · rename_i c T fr hb
    exact ⟨c, T, fr, hb, by simpa using h⟩
  · cases h
theorem cells?_at {w : World} {b o n : Nat} {cs : List Value} (h : w.cells? 0 ⟨b, o, none⟩ n = some cs) (hn : 0 < n) : BlockOk w b (o + n) ∧ cellsAt w b o n = cs := by
  obtain ⟨_, hl, hc⟩ := World.cells?_some h
  have hlast := hc (n - 1) (by omega)
  rw [add_mk] at hlast
  have hl1 : n - 1 < cs.length := by omega
  rw [List.getElem?_eq_getElem hl1] at hlast
  obtain ⟨c, T, fr, hb, hv⟩ := cell?_block hlast
  have hlt := (Array.getElem?_eq_some_iff.1 hv).1
  have hok : BlockOk w b (o + n) := ⟨c, T, fr, hb, by omega⟩
  refine ⟨hok, ?_⟩
  apply List.ext_getElem?
  intro j
  by_cases hj : j < n
  · have h1 := hc j hj
    rw [add_mk] at h1
    have hlen := cellsAt_length hok
    have hv2 : ∃ v, (cellsAt w b o n)[j]? = some v := ⟨_, List.getElem?_eq_getElem (by omega)⟩
    obtain ⟨v, hv2⟩ := hv2
    have h3 := cell?_cellsAt hok j v hv2
    rw [add_mk, h1] at h3
    rw [hv2, h3]
  · rw [List.getElem?_eq_none (by rw [cellsAt_length hok]; omega), List.getElem?_eq_none (by omega)]
section
variable {H : Type} {enc : TypeId × Value → H} {P : Program} {tk : TypeId → Option Kd} {ar : TypeId → Option TypeId} {w : World} {held : Bool}
theorem cellsOf_eq (hT : TabOk P tk ar) {t : TypeId} {k : Kd} (ht : tk t = some k) : P.cellsOf t = k.size := by
  obtain ⟨i, z, hr⟩ := row_of hT ht
  simp [Program.cellsOf, hr.info, hr.size]
/-- Elements read one after the other. -/
theorem open_list {e : Kd} {f : Nat → List Value} {n : Nat} {R : List Value → e.den → Prop} (h : ∀ i, i < n → ∃ x, R (f i) x) : ∃ l : List e.den, l.length = n ∧ ∀ i (hi : i < l.length), R (f i) (l.get ⟨i, hi⟩) := by
  induction n with
  | zero => exact ⟨[], rfl, fun i hi => by simp at hi⟩
  | succ n ih =>
    obtain ⟨l, h1, h2⟩ := ih fun i hi => h i (by omega)
    obtain ⟨x, hx⟩ := h n (by omega)
    refine ⟨l ++ [x], by simp [h1], fun i hi => ?_⟩
    rw [List.length_append, List.length_singleton] at hi
    by_cases hl : i < l.length
    · have := h2 i hl
      simpa [List.getElem_append_left hl] using this
    · have : i = n := by omega
      subst this
      simpa [List.getElem_append_right (show l.length ≤ i by omega), h1] using hx
theorem trod_arr {t e : TypeId} {n fuel : Nat} {cs : List Value} {x : DataW H × List MemPlace} {spare : Nat → Bool} {base : Nat} (ht : P.underlying t = some (.array n e)) (h : DataW.trod enc P w base spare held fuel t cs = some x) :
    ∃ m, fuel = m + 1 ∧ cs.length = P.cellsOf t ∧ ∀ i, i < n → ∃ y, DataW.trod enc P w base spare held m e ((cs.drop (i * P.cellsOf e)).take (P.cellsOf e)) = some y := by
  cases fuel with
  | zero => simp [DataW.trod] at h
  | succ m =>
    unfold DataW.trod at h
    rw [ht] at h
    split at h <;> simp_all
    obtain ⟨_, xs, hp, _⟩ := h
    intro i hi
    obtain ⟨y, _, h2⟩ := (mapM_range hp).2 i hi
    exact ⟨y.1, y.2, h2⟩
theorem open_data (hT : TabOk P tk ar) : ∀ (k : Kd),
    (∀ (t : TypeId) (fuel : Nat) (cs : List Value) (x : DataW H × List MemPlace) (q : Path), tk t = some k → DataW.trod enc P w 0 (fun _ => true) held fuel t cs = some x → ∃ d : k.den, Rep w (fun _ _ => True) k q cs d ∧ WfD k d) ∧
    (∀ (fs : List Field) (off fuel : Nat) (cs : List Value) (q : Path), fieldsOk P tk fs off k = true → (∀ f ∈ fs, ∃ x, DataW.trod enc P w 0 (fun _ => true) held fuel f.type ((cs.drop f.offset).take (P.cellsOf f.type)) = some x) →
      ∃ d : k.den, Rep w (fun _ _ => True) k q ((cs.drop off).take k.size) d ∧ WfD k d) ∧
    (∀ (n j fuel : Nat) (e : TypeId) (cs : List Value) (q : Path), arrOk tk e n k = true → (∀ i, i < n → ∃ x, DataW.trod enc P w 0 (fun _ => true) held fuel e ((cs.drop ((j + i) * P.cellsOf e)).take (P.cellsOf e)) = some x) →
      ∃ d : k.den, Rep w (fun _ _ => True) k q ((cs.drop (j * P.cellsOf e)).take k.size) d ∧ WfD k d) := by
  intro k
  induction k with
  | bx k ih => exact ⟨fun t fuel cs x q ht h => absurd (tab_pure hT ht) (by simp [Kd.pure]), fun fs off fuel cs q h => by cases fs <;> simp [fieldsOk] at h, fun n j fuel e cs q h => by cases n <;> simp [arrOk] at h⟩
  | clo f a b iha ihb => exact ⟨fun t fuel cs x q ht h => absurd (tab_pure hT ht) (by simp [Kd.pure]), fun fs off fuel cs q h => by cases fs <;> simp [fieldsOk] at h, fun n j fuel e cs q h => by cases n <;> simp [arrOk] at h⟩
  | int ik =>
    refine ⟨fun t fuel cs x q ht h => ?_, fun fs off fuel cs q h => ?_, fun n j fuel e cs q h => ?_⟩
    · obtain ⟨n, h1, _, h2⟩ := DataW.trod_int (under_int hT ht) h
      exact ⟨n, h1, h2⟩
    · cases fs <;> simp [fieldsOk] at h
    · cases n <;> simp [arrOk] at h
  | bool =>
    refine ⟨fun t fuel cs x q ht h => ?_, fun fs off fuel cs q h => ?_, fun n j fuel e cs q h => ?_⟩
    · obtain ⟨b, h1, _⟩ := DataW.trod_bool (under_bool hT ht) h
      exact ⟨b, h1, trivial⟩
    · cases fs <;> simp [fieldsOk] at h
    · cases n <;> simp [arrOk] at h
  | str =>
    refine ⟨fun t fuel cs x q ht h => ?_, fun fs off fuel cs q h => ?_, fun n j fuel e cs q h => ?_⟩
    · obtain ⟨b, h1, _, h2⟩ := DataW.trod_string (under_str hT ht) h
      exact ⟨b, h1, h2⟩
    · cases fs <;> simp [fieldsOk] at h
    · cases n <;> simp [arrOk] at h
  | slice e ih =>
    refine ⟨fun t fuel cs x q ht h => ?_, fun fs off fuel cs q h => ?_, fun n j fuel e cs q h => ?_⟩
    · obtain ⟨te, hu, he, hpos⟩ := under_slice hT ht
      have hce := cellsOf_eq hT he
      rcases DataW.trod_slice hu h with ⟨h1, _⟩ | ⟨a, len, cap, elems, rest, n, _, h1, _, _, hlc, hcm, hel, helems, hrest, _⟩
      · exact ⟨[], by simp only [Rep]; exact .inl ⟨⟨none, h1⟩, trivial⟩, Nat.zero_le _, fun x hx => by cases hx⟩
      · rw [hce] at helems hrest
        obtain ⟨hrl, hrest⟩ := hrest rfl
        -- each place is there
        have hall : ∀ i, i < cap → ∃ c y, w.cells? 0 (a.add (i * e.size)) e.size = some c ∧ DataW.trod enc P w 0 (fun _ => true) held n te c = some y := by
          intro i hi
          by_cases hl : i < len
          · have := helems i hl
            rw [List.getElem?_eq_getElem (by omega)] at this
            obtain ⟨c, c1, c2⟩ := Option.bind_eq_some_iff.1 this
            exact ⟨c, _, c1, c2⟩
          · obtain ⟨j, rfl⟩ : ∃ j, i = len + j := ⟨i - len, by omega⟩
            have := hrest j (by omega)
            rw [List.getElem?_eq_getElem (by omega)] at this
            obtain ⟨c, c1, c2⟩ := Option.bind_eq_some_iff.1 this
            exact ⟨c, _, c1, c2⟩
        by_cases hc0 : cap = 0
        · have hl0 : len = 0 := by omega
          subst hc0 hl0
          exact ⟨[], by simp only [Rep]; exact .inl ⟨⟨some a, h1⟩, trivial⟩, Nat.zero_le _, fun x hx => by cases hx⟩
        · have hspot : a.spot = none := by
            obtain ⟨c, y, c1, _⟩ := hall 0 (by omega)
            obtain ⟨_, hl, hcell⟩ := World.cells?_some c1
            have h0 := hcell 0 hpos
            rw [List.getElem?_eq_getElem (by omega)] at h0
            have := World.cell?_spot h0
            simpa [Addr.add] using this
          obtain ⟨b, off, spot⟩ := a
          simp only at hspot
          subst hspot
          simp only [add_mk] at hall
          have hblk : BlockOk w b (off + cap * e.size) := by
            obtain ⟨c, y, c1, _⟩ := hall (cap - 1) (by omega)
            have := (cells?_at c1 hpos).1
            have e2 : off + (cap - 1) * e.size + e.size = off + cap * e.size := by
              rw [Nat.sub_mul, Nat.one_mul]
              have : e.size ≤ cap * e.size := Nat.le_mul_of_pos_left _ (by omega)
              omega
            rw [e2] at this
            exact this
          obtain ⟨l, l1, l2⟩ := open_list (e := e) (n := len) (f := fun i => cellsAt w b (off + i * e.size) e.size) (R := fun c x => (∀ q, Rep w (fun _ _ => True) e q c x) ∧ WfD e x) (fun i hi => by
            obtain ⟨c, y, c1, c2⟩ := hall i (by omega)
            obtain ⟨d, d1, d2⟩ := ih.1 te n c y [] he c2
            refine ⟨d, fun q => ?_, d2⟩
            rw [(cells?_at c1 hpos).2]
            exact d1.move fun _ _ _ _ => trivial)
          refine ⟨l, ?_, by omega, fun x hx => ?_⟩
          · simp only [Rep]
            refine .inr ⟨b, off, cap, by rw [h1, l1], by omega, trivial, hblk, fun i hi => (l2 i hi).1 _⟩
          · obtain ⟨i, hi, rfl⟩ := List.getElem_of_mem hx
            exact (l2 i hi).2
    · cases fs <;> simp [fieldsOk] at h
    · cases n <;> simp [arrOk] at h
  | unit =>
    refine ⟨fun t fuel cs x q ht h => ?_, fun fs off fuel cs q h _ => ⟨(), by simp [Rep, Kd.size], trivial⟩, fun n j fuel e cs q h _ => ⟨(), by simp [Rep, Kd.size], trivial⟩⟩
    have hcs : cs.length = 0 := by
      rcases under_agg hT ht rfl with ⟨fs, u1, _, _⟩ | ⟨n, e, u1, _, _⟩
      · obtain ⟨_, _, _, _, hl, _⟩ := DataW.trod_struct u1 h
        rw [hl, cellsOf_eq hT ht]; rfl
      · obtain ⟨_, _, hl, _⟩ := trod_arr u1 h
        rw [hl, cellsOf_eq hT ht]; rfl
    exact ⟨(), by simp only [Rep]; exact List.length_eq_zero_iff.1 hcs, trivial⟩
  | pair a b iha ihb =>
    have partB : ∀ (fs : List Field) (off fuel : Nat) (cs : List Value) (q : Path), fieldsOk P tk fs off (.pair a b) = true → (∀ f ∈ fs, ∃ x, DataW.trod enc P w 0 (fun _ => true) held fuel f.type ((cs.drop f.offset).take (P.cellsOf f.type)) = some x) →
        ∃ d : (Kd.pair a b).den, Rep w (fun _ _ => True) (.pair a b) q ((cs.drop off).take (Kd.pair a b).size) d ∧ WfD (.pair a b) d := by
      intro fs off fuel cs q h hall
      cases fs with
      | nil => simp [fieldsOk] at h
      | cons f fs =>
        simp only [fieldsOk, Bool.and_eq_true, decide_eq_true_eq] at h
        obtain ⟨⟨⟨h1, h2⟩, _⟩, h4⟩ := h
        have h1 := Nat.eq_of_beq_eq_true h1
        obtain ⟨x, hx⟩ := hall f (by simp)
        rw [cellsOf_eq hT h2, h1] at hx
        obtain ⟨d1, r1, w1⟩ := iha.1 f.type fuel _ x (q ++ [.l]) h2 hx
        obtain ⟨d2, r2, w2⟩ := ihb.2.1 fs (off + a.size) fuel cs (q ++ [.r]) h4 (fun g hg => hall g (by simp [hg]))
        refine ⟨(d1, d2), ?_, w1, w2⟩
        simp only [Rep, Kd.size]
        rw [List.take_take, Nat.min_eq_left (by omega), List.drop_take, List.drop_drop, show a.size + b.size - a.size = b.size by omega]
        exact ⟨r1, r2⟩
    have partC : ∀ (n j fuel : Nat) (e : TypeId) (cs : List Value) (q : Path), arrOk tk e n (.pair a b) = true → (∀ i, i < n → ∃ x, DataW.trod enc P w 0 (fun _ => true) held fuel e ((cs.drop ((j + i) * P.cellsOf e)).take (P.cellsOf e)) = some x) →
        ∃ d : (Kd.pair a b).den, Rep w (fun _ _ => True) (.pair a b) q ((cs.drop (j * P.cellsOf e)).take (Kd.pair a b).size) d ∧ WfD (.pair a b) d := by
      intro n j fuel e cs q h hall
      cases n with
      | zero => simp [arrOk] at h
      | succ n =>
        simp only [arrOk, Bool.and_eq_true, decide_eq_true_eq] at h
        obtain ⟨h2, h4⟩ := h
        have hce := cellsOf_eq hT h2
        obtain ⟨x, hx⟩ := hall 0 (by omega)
        rw [Nat.add_zero] at hx
        rw [hce] at hx
        obtain ⟨d1, r1, w1⟩ := iha.1 e fuel _ x (q ++ [.l]) h2 hx
        obtain ⟨d2, r2, w2⟩ := ihb.2.2 n (j + 1) fuel e cs (q ++ [.r]) h4 (fun i hi => by
          have := hall (i + 1) (by omega)
          rw [show j + (i + 1) = j + 1 + i by omega] at this
          exact this)
        refine ⟨(d1, d2), ?_, w1, w2⟩
        simp only [Rep, Kd.size]
        rw [hce] at r2 ⊢
        rw [Nat.add_mul, Nat.one_mul] at r2
        rw [List.take_take, Nat.min_eq_left (by omega), List.drop_take, List.drop_drop, show a.size + b.size - a.size = b.size by omega]
        exact ⟨r1, r2⟩
    refine ⟨fun t fuel cs x q ht h => ?_, partB, partC⟩
    have hsz := cellsOf_eq hT ht
    rcases under_agg hT ht rfl with ⟨fs, u1, _, u3⟩ | ⟨n, e, u1, _, u3⟩
    · obtain ⟨xs, m, _, _, hl, hxl, hf⟩ := DataW.trod_struct u1 h
      have := partB fs.toList 0 m cs q u3 (fun f hf' => by
        obtain ⟨i, hi, rfl⟩ := List.getElem_of_mem hf'
        have hi' : i < fs.size := by simpa using hi
        have h2 := hf i fs[i] (by simp [hi'])
        rw [List.getElem?_eq_getElem (by omega)] at h2
        exact ⟨_, by simpa using h2⟩)
      rw [List.drop_zero, List.take_of_length_le (by omega)] at this
      exact this
    · obtain ⟨m, _, hl, hf⟩ := trod_arr u1 h
      have := partC n 0 m e cs q u3 (fun i hi => by rw [Nat.zero_add]; exact hf i hi)
      rw [Nat.zero_mul, List.drop_zero, List.take_of_length_le (by omega)] at this
      exact this
theorem open_val (hT : TabOk P tk ar) {t : TypeId} {k : Kd} (ht : tk t = some k) {r : Reach} {base : Nat} {v : Value} {d : DataW H} {ps : List MemPlace} (hv : Value.okWide P w r base t v) (h : DataW.Trod enc P w 0 (fun _ => true) held t v d ps) :
    ∃ c x, v = mkVal k c ∧ Rep w (fun _ _ => True) k [] c x ∧ WfD k x := by
  obtain ⟨fuel, hf⟩ := h
  obtain ⟨x, h1, h2⟩ := (open_data hT k).1 t fuel _ _ [] ht hf
  refine ⟨v.cells.toList, x, ?_, h1, h2⟩
  have hc := mkVal_cells h1
  have hagg : isAggV v = k.agg := by
    cases k with
    | bx k => exact absurd (tab_pure hT ht) (by simp [Kd.pure])
    | clo f a b => exact absurd (tab_pure hT ht) (by simp [Kd.pure])
    | int ik =>
      simp only [Rep] at h1
      obtain ⟨n, rfl⟩ := Go.WideShapes.okWide_int (under_int hT ht) hv
      rfl
    | bool =>
      have hu := under_bool hT ht
      simp only [Value.okWide, hu, Cell.okWide] at hv
      cases v <;> simp_all [Cell.ok, isAggV, Kd.agg]
    | str =>
      obtain ⟨s, rfl⟩ := Go.WideShapes.okWide_string (under_str hT ht) hv
      rfl
    | slice e =>
      obtain ⟨te, hu, _, _⟩ := under_slice hT ht
      obtain ⟨a, len, cap, rfl⟩ := Go.WideShapes.okWide_slice hu hv
      rfl
    | unit =>
      rcases under_agg hT ht rfl with ⟨fs, u1, _, _⟩ | ⟨n, e, u1, _, _⟩ <;>
      · simp only [Value.okWide, u1] at hv
        obtain ⟨cs, rfl, _⟩ := hv
        rfl
    | pair a b =>
      rcases under_agg hT ht rfl with ⟨fs, u1, _, _⟩ | ⟨n, e, u1, _, _⟩ <;>
      · simp only [Value.okWide, u1] at hv
        obtain ⟨cs, rfl, _⟩ := hv
        rfl
  unfold mkVal
  rw [← hagg]
  cases v with
  | agg cs => simp [isAggV, Value.cells]
  | _ => simp [isAggV, Value.cells]
/-- All arguments opened. -/
theorem open_all (hT : TabOk P tk ar) {r : Reach} {base : Nat} : ∀ {ts : List TypeId} {ps : List (Kd × Bool)} {vs : List Value} {ds : List (DataW H)} {pl : List MemPlace} (i : Nat), ts.map tk = ps.map (fun p => some p.1) → (∀ p ∈ ps, p.2 = false) →
    (∀ (j : Nat) t v, ts[j]? = some t → vs[j]? = some v → Value.okWide P w r base t v) → DataW.TrodAll enc P w 0 (fun _ => true) held ts vs ds pl →
    ∃ x, ArgsOk w (fun _ => none) (fun _ => True) i ps vs x ∧ WfD (Kd.tuple (ps.map (·.1))) x := by
  intro ts
  induction ts with
  | nil =>
    intro ps vs ds pl i hm hps hv h
    cases ps with
    | nil =>
      obtain ⟨rfl, _, _⟩ := Go.ChangeShapes.trodAll_nil h
      exact ⟨(), rfl, trivial⟩
    | cons p ps => simp at hm
  | cons t ts ih =>
    intro ps vs ds pl i hm hps hv h
    cases ps with
    | nil => simp at hm
    | cons p ps =>
      obtain ⟨k, io⟩ := p
      have hio : io = false := hps (k, io) (by simp)
      subst hio
      simp only [List.map_cons, List.cons.injEq] at hm
      obtain ⟨v, vs', d, ds', p1, q1, rfl, rfl, rfl, h1, h2⟩ := Go.ChangeShapes.trodAll_cons h
      obtain ⟨c, x, e1, e2, e3⟩ := open_val hT hm.1 (hv 0 t v rfl rfl) h1
      obtain ⟨y, f1, f2⟩ := ih (i + 1) hm.2 (fun p hp => hps p (by simp [hp])) (fun j t v hj hw => hv (j + 1) t v (by simpa using hj) (by simpa using hw)) h2
      exact ⟨(x, y), ⟨c, vs', by rw [e1], e2, f1⟩, e3, f2⟩
/-- All arguments read as they did. -/
theorem shut_all {W W' : World} (hl : laidOutB P = true) (hb : Go.RowKit.Below W.heap.size W W') : ∀ {ts : List TypeId} {vs : List Value} {ds : List (DataW H)} {pl : List MemPlace}, (∀ t ∈ ts, P.readableRec t = true ∧ t < P.types.size) →
    DataW.TrodAll enc P W 0 (fun _ => true) true ts vs ds pl → ∃ pl', DataW.TrodAll enc P W' 0 (fun b => decide (b < W.heap.size)) true ts vs ds pl' := by
  intro ts
  induction ts with
  | nil =>
    intro vs ds pl _ h
    obtain ⟨rfl, rfl, _⟩ := Go.ChangeShapes.trodAll_nil h
    exact ⟨[], rfl⟩
  | cons t ts ih =>
    intro vs ds pl hr h
    obtain ⟨v, vs', d, ds', p1, q1, rfl, rfl, rfl, h1, h2⟩ := Go.ChangeShapes.trodAll_cons h
    obtain ⟨pl', h3⟩ := ih (fun t ht => hr t (by simp [ht])) h2
    have hlt : ∀ x ∈ p1, x.block < W.heap.size := by
      obtain ⟨m, hm⟩ := h1
      exact DataW.trod_lt m _ _ _ hm
    exact ⟨p1 ++ pl', p1, pl', Go.RowKit.Below.trod hl (hr t (by simp)).1 (hr t (by simp)).2 h1 hb hlt, h3, rfl⟩
theorem gl_len {P : Program} {W : World} {g : Nat} {t : TypeId} {zero : Array Value} (h : glv P = some g) (hs : W.ShapedOpen P) (hg : g < P.globals.size)
    (h0 : ((begin P (fun _ _ => 0) default).world.heap[g]?).bind Obj.row? = some (zero, t)) (hz : zero.size = 1)
    (hb : P.buildable t = true) (hc : P.cellTypes P.depth t = some [t]) (hu : P.underlying t = some (.int .i64)) : ∃ m, W.cell? ⟨g, 0, none⟩ = some (.int .i64 m) :=
  Go.Proofs.cell_of_shapedOpen_int hs hg h0 hz hb hc hu
theorem gl_some {P : Program} {W : World} {g : Nat} (h : glv P = some g) (h2 : powv P = none) (hm : ∃ m, W.cell? ⟨g, 0, none⟩ = some (.int .i64 m)) : Gl P W (fun _ => none) := fun b hb => by
  rcases hb with hb | hb
  · have e := Option.some.inj (h.symm.trans hb)
    subst e
    exact ⟨rfl, fun _ => hm, fun h3 => by rw [h2] at h3; cases h3⟩
  · rw [h2] at hb; cases hb
/-- A law's calls, out of its contract. -/
theorem law_calls (hT : TabOk P tk ar) (hl : laidOutB P = true) {f : FuncId} {fn : Func} (hf : P.funcs[f]? = some fn) (hbody : fn.body.isSome = true) (hname : (fn.name == "runtime.NumGoroutine") = false) {s : ChangeSpec} (hvars : s.vars = [])
    {rt : TypeId} (hres : fn.resultTypes = #[rt]) (hrt : P.underlying rt = some .bool) {ps : List (Kd × Bool)} (hps : ∀ p ∈ ps, p.2 = false) (hts : fn.params.toList.map tk = ps.map (fun p => some p.1)) (hread : fn.params.toList.all (fun t => P.readableRec t && decide (t < P.types.size)) = true)
    (hspec : ∀ ds : List (DataW H), ds.length = ps.length → s.fn H ds = { results := [.lit (.bool true)], args := ds })
    {own : Bool} {F : (Kd.tuple (ps.map (·.1))).den → Option (Kd.tuple ([.bool] ++ (ps.filter (·.2)).map (·.1))).den} (con : Contract P f ⟨ps, [.bool], own, F⟩) (hF : ∀ d, WfD (Kd.tuple (ps.map (·.1))) d → ∃ out, F d = some out ∧ (splitT [.bool] _ out).1.1 = true)
    {W : World} {base : Nat} {args : Array Value} {ds gs : List (DataW H)} {before : List MemPlace} (hgl : Gl P W (fun _ => none)) (hval : ∀ (j : Nat) t v, fn.params[j]? = some t → args[j]? = some v → Value.okWide P W .any base t v) (hW : DataW.Whole enc P fn.params.toList s.vars false W args.toList ds gs before) :
    Calls P f args W fun e W' => ∃ v, e = .returned v ∧ s.post enc P fn false true false false W args v W' := by
  have hW' := hW
  obtain ⟨p, q, hA, hV, rfl, hfz, hnd⟩ := hW
  rw [hvars] at hV
  obtain ⟨rfl, rfl⟩ := Go.ChangeShapes.trodVars_none hV
  obtain ⟨x, hargs, hwf⟩ := open_all hT 0 hts hps (fun j t v hj hv => hval j t v (by simpa using hj) (by simpa using hv)) hA
  obtain ⟨out, ho, htrue⟩ := hF x hwf
  have hc := con W (fun _ => none) (fun _ => True) args.toList x out hargs (fun _ _ => rfl) (fun b z h => by cases h) hgl ho
  have hcall : (callFunc f args).run P W = .ok (.enter f args) W := by
    simp only [beq_eq_false_iff_ne, ne_eq] at hname
    cases hb : fn.body with
    | none => rw [hb] at hbody; cases hbody
    | some c => simp [callFunc, hf, hname, hb]
  unfold CallsTo at hc
  simp only [Array.toArray_toList] at hc
  rw [hcall] at hc
  refine Calls.mono hc fun e W' he => ?_
  cases e with
  | panicked chain => exact he.elim
  | outgrown => exact he.elim
  | returned v =>
    obtain ⟨χ, hp⟩ := he
    refine ⟨v, rfl, ?_⟩
    have bel : Go.RowKit.Below W.heap.size W W' := ⟨hp.os, hp.tape, hp.output, hp.size, fun k hk => hp.kept k hk rfl⟩
    have hvt : v = .bool true := by
      obtain ⟨c, h1, h2⟩ := hp.res
      have h1 : v = mkVal .bool (c.take 1) := h1
      simp only [Kd.tuple, Rep] at h2
      have h3 : c.take 1 = [.bool true] := by have := h2.1; rw [htrue] at this; exact this
      rw [h1, h3]
      rfl
    subst hvt
    have hlen : ds.length = ps.length := by
      have key : ∀ (ts : List TypeId) (vs : List Value) (ds : List (DataW H)) (pl : List MemPlace), DataW.TrodAll enc P W 0 (fun _ => true) true ts vs ds pl → ds.length = ts.length := by
        intro ts
        induction ts with
        | nil => intro vs ds pl h; obtain ⟨_, rfl, _⟩ := Go.ChangeShapes.trodAll_nil h; rfl
        | cons t ts ih =>
          intro vs ds pl h
          obtain ⟨v, vs', d, ds', p1, q1, rfl, rfl, rfl, _, h2⟩ := Go.ChangeShapes.trodAll_cons h
          simp [ih _ _ _ h2]
      have h1 := key _ _ _ _ hA
      have h2 := congrArg List.length hts
      simp only [List.length_map] at h2
      omega
    have hs := hspec (ds ++ []) (by simpa using hlen)
    obtain ⟨pl', hback⟩ := shut_all hl bel (fun t ht => by
      have := List.all_eq_true.1 hread t ht
      simpa using this) hA
    refine ⟨ds, [], p ++ [], [], pl', [], hW', ?_, ?_, ?_, bel.frame _, fun h => by cases h⟩
    · rw [hs, hres]
      exact Go.ChangeShapes.trodAll_mk1 ⟨1, by simp [DataW.trod, Value.cells, hrt]⟩
    · rw [hs]
      simpa using hback
    · rw [hs, hvars]
      rfl
end
end Go.V
set_option linter.unusedVariables false
namespace Go.V
theorem idxIn_nat {i n : Nat} (h : i < n) : idxIn (i : Int) n = true := by simp [idxIn]; omega
theorem wrap_up {i n : Nat} (h : i < n) (hn : n ≤ maxLen) : IntKind.wrap .i64 ((i : Int) + 1) = ((i + 1 : Nat) : Int) := by
  unfold maxLen at hn
  rw [Go.IntWalk.i64_in _ (by omega)]
  rfl
theorem wrap_in (n : Int) (h0 : -9223372036854775808 ≤ n) (h1 : n ≤ 9223372036854775807) : IntKind.wrap .i64 n = n := Go.IntWalk.i64_in n ⟨h0, h1⟩
theorem at_get {e : Kd} {l : List e.den} {i : Nat} (h : i < l.length) : at_ e l i = l.get ⟨i, h⟩ := at_eq h
end Go.V
set_option linter.unusedVariables false
set_option linter.unusedSimpArgs false
namespace Go.V
theorem CallsTo.mono {P : Program} {f : FuncId} {args : Array Value} {w : World} {R R' : Value → World → Prop} (h : CallsTo P f args w R) (hR : ∀ v w', R v w' → R' v w') : CallsTo P f args w R' := by
  unfold CallsTo at h ⊢
  cases hr : (callFunc f args).run P w with
  | ok x w1 =>
    rw [hr] at h
    cases x with
    | value v => exact hR _ _ h
    | enter f' args' =>
      refine Calls.mono h fun e w'' he => ?_
      cases e with
      | returned v => exact hR _ _ he
      | panicked chain => exact he.elim
      | outgrown => exact he.elim
    | row row args' => exact Rows.mono h fun v w'' p => hR _ _ p
    | _ => exact h.elim
  | halt x w1 => rw [hr] at h; exact h.elim
end Go.V
namespace Go.V.W
abbrev E := Int × Int × Unit
abbrev Gr := Int × List E × Unit
def okL {α : Type} (l : List α) : Bool := decide (l.length ≤ lim)
def printed1 (b : UInt8) : Bool := decide (32 ≤ b.toNat) && decide (b.toNat ≤ 126)
def printedB (s : ByteArray) : Bool := s.data.toList.all printed1
def G_toIntA2 (d : E × Unit) : Option (E × Unit) := some (d.1, ())
def G_toIntA2S (d : List E × Unit) : Option (List E × Unit) := if okL d.1 = true then some (d.1, ()) else none
def G_toIntS (d : List Int × Unit) : Option (List Int × Unit) := if okL d.1 = true then some (d.1, ()) else none
def G_eqIntA2 (d : E × E × Unit) : Option (Bool × Unit) := some (decide (d.1 = d.2.1), ())
def G_eqIntA2S (d : List E × List E × Unit) : Option (Bool × Unit) := if okL d.1 = true then some (decide (d.1 = d.2.1), ()) else none
def G_eqIntS (d : List Int × List Int × Unit) : Option (Bool × Unit) := if okL d.1 = true then some (decide (d.1 = d.2.1), ()) else none
/-- Strictly rising. -/
def risingB : List Int → Bool
  | [] => true
  | [_] => true
  | a :: b :: l => decide (a < b) && risingB (b :: l)
def inB (lo hi : Int) (x : Int) : Bool := decide (lo ≤ x) && decide (x ≤ hi)
def G_l1Rising (d : List Int × Int × Int × Unit) : Option (Bool × Unit) := if okL d.1 = true then some (d.1.all (inB d.2.1 d.2.2.1) && risingB d.1, ()) else none
def G_increasing (d : List Int × Unit) : Option (Bool × Unit) := if okL d.1 = true then some (risingB d.1, ()) else none
def G_allWithin (d : List Int × Int × Int × Unit) : Option (Bool × Unit) := if okL d.1 = true then some (d.1.all (inB d.2.1 d.2.2.1), ()) else none
/-- Lists compared from the front. -/
def cmpL : List Int → List Int → Int
  | [], [] => 0
  | [], _ :: _ => -1
  | _ :: _, [] => 1
  | a :: l, b :: m => if a < b then -1 else if b < a then 1 else cmpL l m
def G_compare (d : List Int × List Int × Unit) : Option (Int × Unit) := if (okL d.1 && okL d.2.1) = true then some (cmpL d.1 d.2.1, ()) else none
def lessE (a b : E) : Bool := decide (a.1 < b.1) || (decide (a.1 = b.1) && decide (a.2.1 < b.2.1))
def risingE : List E → Bool
  | [] => true
  | [_] => true
  | a :: b :: l => lessE a b && risingE (b :: l)
def edgeB (n : Int) (e : E) : Bool := decide (0 ≤ e.1) && decide (e.1 < e.2.1) && decide (e.2.1 < n)
def graphB (g : Gr) : Bool := decide (0 ≤ g.1) && decide (g.1 ≤ 8) && g.2.1.all (edgeB g.1) && risingE g.2.1
def G_graph (d : Gr × Unit) : Option (Bool × Unit) := if okL d.1.2.1 = true then some (graphB d.1, ()) else none
def okK (k : Int) : Bool := decide (0 ≤ k) && decide (k ≤ 4398046511104)
def markL : Int → List Int → List Int
  | _, [] => []
  | k, _ :: l => k :: markL (k + 1) l
def markA : Int → List E → List E
  | _, [] => []
  | k, _ :: l => (k, k + 1, ()) :: markA (k + 2) l
def heldL : Int → List Int → Int
  | k, [] => k
  | k, x :: l => if x = k then heldL (k + 1) l else -1
def heldA : Int → List E → Int
  | k, [] => k
  | k, x :: l => if x.1 = k then (if x.2.1 = k + 1 then heldA (k + 2) l else -1) else -1
def G_markIntS (d : List Int × Int × Unit) : Option (Int × List Int × Unit) := if (okL d.1 && okK d.2.1) = true then some (d.2.1 + (d.1.length : Int), markL d.2.1 d.1, ()) else none
def G_markIntA2S (d : List E × Int × Unit) : Option (Int × List E × Unit) := if (okL d.1 && okK d.2.1) = true then some (d.2.1 + 2 * (d.1.length : Int), markA d.2.1 d.1, ()) else none
def G_heldIntS (d : List Int × Int × Unit) : Option (Int × Unit) := if (okL d.1 && okK d.2.1) = true then some (heldL d.2.1 d.1, ()) else none
def G_heldIntA2S (d : List E × Int × Unit) : Option (Int × Unit) := if (okL d.1 && okK d.2.1) = true then some (heldA d.2.1 d.1, ()) else none
def szStep (a : Int) (n : Nat) : Int := if a - (n : Int) < 0 then -1 else a - (n : Int)
abbrev Nt := List Int × Unit
def smallN (l : List Int) : Bool := decide (l.length ≤ 8) && l.all fun m => decide (0 ≤ m) && decide (m < 256)
abbrev Tab := List (List Int)
def tab2 (T : Tab) (c r : Int) : Int := (T.getD c.toNat []).getD r.toNat 0
def worstL (row : Int → Int) : List Int → Int → Int
  | [], m => m
  | b :: bs, m => if row b < 0 then -1 else worstL row bs (if m < row b then row b else m)
def afterT (ball : Int → List Int) (T : Tab) (b r : Int) : Int := if b = r then 0 else worstL (tab2 T b) (ball r) 0
/-- The times, as a function. -/
def tabL (n : Nat) (f : Nat → Nat → Int) : Tab := (List.range n).map fun c => (List.range n).map fun r => f c r
def canF (n : Nat) (ball : Int → List Int) (f : Nat → Nat → Int) (c r : Nat) : Bool := decide (f c r < 0) && (ball (c : Int)).any fun b => decide (0 ≤ afterT ball (tabL n f) b (r : Int))
def stepF (n : Nat) (ball : Int → List Int) (t : Int) (f : Nat → Nat → Int) (c r : Nat) : Int := if canF n ball f c r = true then t else f c r
def startF (c r : Nat) : Int := if c = r then 0 else -1
def netB (l : List Int) : Bool := smallN l && l.all fun m => decide (m < ((2 ^ l.length : Nat) : Int))
end Go.V.W
namespace Go.V.W
def netsB (n : Nat) (nets : List Nt) : Bool := decide (1 ≤ nets.length) && decide (nets.length ≤ 8) && nets.all fun w => netB w.1 && decide (w.1.length = n)
def can3 (p n : Nat) (ball : Nat → Int → List Int) (f : Nat → Nat → Nat → Int) (r c q : Nat) : Bool := decide (f r c q < 0) && (ball r (c : Int)).any fun b => decide (0 ≤ afterT (ball r) (tabL n (f ((r + 1) % p))) b (q : Int))
def step3 (p n : Nat) (ball : Nat → Int → List Int) (t : Int) (f : Nat → Nat → Nat → Int) (r c q : Nat) : Int := if can3 p n ball f r c q = true then t else f r c q
def start3 (_ c q : Nat) : Int := startF c q
end Go.V.W
namespace Go.V.W
abbrev kE : Kd := .pair (.int .i64) (.pair (.int .i64) .unit)
abbrev kSE : Kd := .slice kE
abbrev kSI : Kd := .slice (.int .i64)
abbrev kWs : Kd := .pair (.pair (.int .i64) (.pair kSE .unit)) (.pair (.int .i64) (.pair (.int .i64) (.pair kSI (.pair (.int .i64) .unit))))
def G_cloneWs (d : kWs.den × Unit) : Option (kWs.den × Unit) := if (okL d.1.1.2.1 && okL d.1.2.2.2.1) = true then some (d.1, ()) else none
end Go.V.W
set_option linter.unusedVariables false
set_option linter.unusedSimpArgs false
namespace Go.V.W
open Go.Proofs Go.RowKit
theorem cells_of_row {w : World} {b : Nat} {cs : Array Value} {T : TypeId} (h : w.heap[b]? = some (.cells cs T (0, 0))) (j : Nat) (v : Value) (hv : cs[j]? = some v) : w.cell? ⟨b, j, none⟩ = some v := by
  unfold World.cell?
  rw [h]
  exact hv
theorem thaw_of_row {w : World} {b : Nat} {cs : Array Value} {T : TypeId} (h : w.heap[b]? = some (.cells cs T (0, 0))) (j : Nat) : w.frozen? ⟨b, j, none⟩ = false := by
  unfold World.frozen?
  rw [h]
  simp
theorem row_set {w : World} {b : Nat} {cs : Array Value} {T : TypeId} (h : w.heap[b]? = some (.cells cs T (0, 0))) (j : Nat) (v : Value) : (w.setCell ⟨b, j, none⟩ v).heap[b]? = some (.cells (cs.setIfInBounds j v) T (0, 0)) := by
  have hlt := (Array.getElem?_eq_some_iff.1 h).1
  have hv := (Array.getElem?_eq_some_iff.1 h).2
  unfold World.setCell
  simp only [Array.getElem?_modify, h, if_true, Option.map_some, Option.isSome_none, Bool.false_eq_true, if_false]
theorem rows1 {w w3 : World} {o1 o2 : Obj} (b1 : Below ((w.alloc o1).alloc o2).heap.size ((w.alloc o1).alloc o2) w3) : w3.heap[w.heap.size]? = some o1 ∧ w3.heap[w.heap.size + 1]? = some o2 := by
  have hs : ((w.alloc o1).alloc o2).heap.size = w.heap.size + 2 := by
    show ((w.heap.push o1).push o2).size = _
    simp
  have e1 : ((w.alloc o1).alloc o2).heap[w.heap.size]? = some o1 := by
    show ((w.heap.push o1).push o2)[w.heap.size]? = _
    simp [Array.getElem?_push]
  have e2 : ((w.alloc o1).alloc o2).heap[w.heap.size + 1]? = some o2 := by
    show ((w.heap.push o1).push o2)[w.heap.size + 1]? = _
    have : w.heap.size + 1 = (w.heap.push o1).size := by simp
    rw [this, Array.getElem?_push_size]
  exact ⟨(b1.block _ (by omega)).trans e1, (b1.block _ (by omega)).trans e2⟩
theorem rows2 {w3 w5 : World} {g : Nat} {cs : Array Value} {T : TypeId} {o : Obj} {v : Value} (r1 : w3.heap[g]? = some (.cells cs T (0, 0))) (r2 : w3.heap[g + 1]? = some o)
    (b2 : Below (w3.setCell ⟨g, 1, none⟩ v).heap.size (w3.setCell ⟨g, 1, none⟩ v) w5) : w5.heap[g]? = some (.cells (cs.setIfInBounds 1 v) T (0, 0)) ∧ w5.heap[g + 1]? = some o := by
  have r3 := row_set r1 1 v
  have r4 : (w3.setCell ⟨g, 1, none⟩ v).heap[g + 1]? = some o := (Below.heap_setCell w3 ⟨g, 1, none⟩ v (g + 1) (by simp)).trans r2
  exact ⟨(b2.block _ (Array.getElem?_eq_some_iff.1 r3).1).trans r3, (b2.block _ (Array.getElem?_eq_some_iff.1 r4).1).trans r4⟩
/-- Only two rows have turned. -/
structure Two (g : Nat) (w w' : World) : Prop where
  os : w'.os = w.os
  tape : w'.tape = w.tape
  output : w'.output = w.output
  size : w'.heap.size = w.heap.size
  other : ∀ b, b ≠ g → b ≠ g + 1 → w'.heap[b]? = w.heap[b]?
theorem Two.refl (g : Nat) (w : World) : Two g w w := ⟨rfl, rfl, rfl, rfl, fun _ _ _ => rfl⟩
theorem Two.set {g : Nat} {w w' : World} (h : Two g w w') (a : Addr) (v : Value) (ha : a.block = g ∨ a.block = g + 1) : Two g w (w'.setCell a v) :=
  ⟨h.os, h.tape, h.output, (by rw [← h.size]; simp [World.setCell]), fun b h1 h2 => (Below.heap_setCell w' a v b (by rcases ha with e | e <;> omega)).trans (h.other b h1 h2)⟩
set_option maxRecDepth 1000000 in
set_option maxHeartbeats 4000000 in
theorem clone_walk (n c r k : Int) (e m : Value) (w : World) {A : Option Addr → Nat → Nat → World → Prop} {B : World → Option Addr → Nat → Nat → World → Prop}
    (h1 : ∀ w1, w1 = (w.alloc (.cells #[.int .i64 n, e, .int .i64 c, .int .i64 r, m, .int .i64 k] 39)).alloc (.cells #[.int .i64 0, .slice none 0 0, .int .i64 0, .int .i64 0, .slice none 0 0, .int .i64 0] 39) →
      Calls Try.prog 77 #[e] w1 fun x w' => ∃ a l p, x = .returned (.slice a l p) ∧ A a l p w' ∧ Below w1.heap.size w1 w')
    (h2 : ∀ a l p w3, A a l p w3 → ∀ w4, w4 = w3.setCell ⟨w.heap.size, 1, none⟩ (.slice a l p) →
      Calls Try.prog 130 #[m] w4 fun x w' => ∃ a2 l2 p2, x = .returned (.slice a2 l2 p2) ∧ B w3 a2 l2 p2 w' ∧ Below w4.heap.size w4 w') :
    Calls Try.prog 91 #[.agg #[.int .i64 n, e, .int .i64 c, .int .i64 r, m, .int .i64 k]] w fun x w' => ∃ a l p w3 a2 l2 p2 w5, x = .returned (.agg #[.int .i64 n, .slice a l p, .int .i64 c, .int .i64 r, .slice a2 l2 p2, .int .i64 k]) ∧ A a l p w3 ∧ B w3 a2 l2 p2 w5 ∧ Two w.heap.size w5 w' := by
  go_enter Try.func91, Try.ntmps91
  go_wp2_with (first
    | (go_at_call 77; refine (h1 _ rfl).mono ?_; rintro x w3 ⟨a1, l1, p1, rfl, hA, b1⟩
       obtain ⟨r1, r2⟩ := rows1 b1
       have q1 := cells_of_row r1 1 _ rfl
       have q4 := cells_of_row r1 4 _ rfl
       have z1 := thaw_of_row r1 1)
    | (go_at_call 130; refine (h2 a1 l1 p1 w3 hA _ rfl).mono ?_; rintro x w5 ⟨a2, l2, p2, rfl, hB, b2⟩
       obtain ⟨r3, r4⟩ := rows2 r1 r2 b2
       have y0 := cells_of_row r3 0 (.int .i64 n) rfl
       have y1 := cells_of_row r3 1 (.slice a1 l1 p1) rfl
       have y2 := cells_of_row r3 2 (.int .i64 c) rfl
       have y3 := cells_of_row r3 3 (.int .i64 r) rfl
       have y4 := cells_of_row r3 4 m rfl
       have y5 := cells_of_row r3 5 (.int .i64 k) rfl
       have x4 := thaw_of_row r3 4
       have g0 := cells_of_row r4 0 (.int .i64 0) rfl
       have g1 := cells_of_row r4 1 (.slice none 0 0) rfl
       have g2 := cells_of_row r4 2 (.int .i64 0) rfl
       have g3 := cells_of_row r4 3 (.int .i64 0) rfl
       have g4 := cells_of_row r4 4 (.slice none 0 0) rfl
       have g5 := cells_of_row r4 5 (.int .i64 0) rfl
       have u0 := thaw_of_row r4 0
       have u1 := thaw_of_row r4 1
       have u2 := thaw_of_row r4 2
       have u3 := thaw_of_row r4 3
       have u4 := thaw_of_row r4 4
       have u5 := thaw_of_row r4 5))
  have z0 : (w5.setCell ⟨w.heap.size, 4, none⟩ (.slice a2 l2 p2)).heap[w.heap.size + 1]? = _ := (Below.heap_setCell w5 ⟨w.heap.size, 4, none⟩ (.slice a2 l2 p2) (w.heap.size + 1) (by simp)).trans r4
  have z6 := row_set (row_set (row_set (row_set (row_set (row_set z0 0 (.int .i64 n)) 1 (.slice a1 l1 p1)) 2 (.int .i64 c)) 3 (.int .i64 r)) 4 (.slice a2 l2 p2)) 5 (.int .i64 k)
  refine bodyPost_ret (results_cell_row (p := 2) (ty := 39) rfl _ _ (w.heap.size + 1) 39 _ _ _ rfl z6 Try.underlying39 rfl (by kernel_rfl)) rfl ?_
  refine ⟨a1, l1, p1, w3, a2, l2, p2, w5, rfl, hA, hB, ?_⟩
  refine Two.set (Two.set (Two.set (Two.set (Two.set (Two.set (Two.set (Two.refl _ _) _ _ ?_) _ _ ?_) _ _ ?_) _ _ ?_) _ _ ?_) _ _ ?_) _ _ ?_
  · exact .inl rfl
  all_goals exact .inr rfl
end Go.V.W
set_option linter.unusedVariables false
set_option linter.unusedSimpArgs false
set_option maxRecDepth 100000
namespace Go.V.W
open Go.Proofs Go.RowKit Go.Shelf
/-- A slice of flat data stands elsewhere if its block does. -/
theorem slice_to {w w' : World} {S S' : OwnS} {e : Kd} {q q' : Path} {c : List Value} {l : List e.den} (he : e.flat = true) (h : Rep w S (.slice e) q c l)
    (hb : ∀ b, S q b → b < w.heap.size → w'.heap[b]? = w.heap[b]? ∧ S' q' b) : Rep w' S' (.slice e) q' c l := by
  simp only [Rep] at h ⊢
  rcases h with h | ⟨b, off, cap, h1, h2, h3, h4, h5⟩
  · exact .inl h
  · obtain ⟨k1, k2⟩ := hb b h3 h4.lt
    refine .inr ⟨b, off, cap, h1, h2, k2, h4.same k1, fun i hi => ?_⟩
    rw [cellsAt_same k1]
    exact Rep.flat _ _ _ he (h5 i hi)
theorem slice_val {w : World} {S : OwnS} {e : Kd} {q : Path} {c : List Value} {l : List e.den} (h : Rep w S (.slice e) q c l) : ∃ a n p, c = [.slice a n p] := by
  simp only [Rep] at h
  rcases h with ⟨⟨a, h⟩, _⟩ | ⟨b, off, cap, h, _⟩
  · exact ⟨a, 0, 0, h⟩
  · exact ⟨_, _, _, h⟩
/-- A call of a copying function, by its contract. -/
theorem clone_call {P : Program} {f : FuncId} {e : Kd} {F : List e.den × Unit → Option (List e.den × Unit)} (he : ∀ (args : Array Value) (w : World), (callFunc f args).run P w = .ok (.enter f args) w)
    (hfl : e.flat = true) (con : Contract P f ⟨[(.slice e, false)], [.slice e], true, F⟩) {l : List e.den} (hF : F (l, ()) = some (l, ())) {w : World} {v : Value} {S : OwnS} {q : Path} (hv : Rep w S (.slice e) q [v] l) (hgl : Gl P w (fun _ => none)) :
    Calls P f #[v] w fun x w' => ∃ a n p, x = .returned (.slice a n p) ∧ (∃ χ : Nat → Option Lab, (∀ b z, χ b = some z → w.heap.size ≤ b ∧ ∃ cs T, w'.heap[b]? = some (.cells cs T (0, 0))) ∧ Rep w' (fun _ b => χ b = some (.res [.l])) (.slice e) [] [.slice a n p] l) ∧ Below w.heap.size w w' := by
  obtain ⟨a0, n0, p0, hv0⟩ := slice_val hv
  simp only [List.cons.injEq, and_true] at hv0
  subst hv0
  have hc := con w (fun _ => none) (fun _ => True) [.slice a0 n0 p0] (l, ()) (l, ()) ⟨[.slice a0 n0 p0], [], rfl, slice_to hfl hv (fun b _ _ => ⟨rfl, trivial⟩), rfl⟩ (fun _ _ => rfl) (fun b z h => by cases h) hgl hF
  unfold CallsTo at hc
  rw [he] at hc
  refine Calls.mono hc fun x w' hx => ?_
  match x, hx with
  | .returned v, hx =>
    obtain ⟨χ, hp⟩ := hx
    obtain ⟨c, h1, h2⟩ := hp.res
    have h1 : v = mkVal (.slice e) (c.take 1) := h1
    have h2 : Rep w' (fun q b => χ b = some (.res q)) (.slice e) ([] ++ [.l]) (c.take 1) l := h2.1
    obtain ⟨a, n, p, hc1⟩ := slice_val h2
    rw [hc1] at h1 h2
    refine ⟨a, n, p, by rw [h1]; rfl, ⟨χ, fun b z hz => ?_, slice_to hfl h2 (fun b hb _ => ⟨rfl, hb⟩)⟩, ⟨hp.os, hp.tape, hp.output, hp.size, fun b hb => hp.kept b hb rfl⟩⟩
    obtain ⟨k1, k2⟩ := hp.col b z hz
    exact ⟨k1.resolve_right (fun h => h rfl), k2⟩
/-- The library's variables are there in a world that has kept them. -/
theorem gl_kept {P : Program} {w w' : World} {ψ : Nat → Option (Nat × Path)} (h : Gl P w ψ) (hk : ∀ b, b < w.heap.size → w'.heap[b]? = w.heap[b]?) : Gl P w' (fun _ => none) := fun b hb =>
  ⟨rfl, (h b hb).2.move (hk b ((h b hb).2.lt hb))⟩
theorem callsTo_enter {P : Program} {f : FuncId} {args : Array Value} {w : World} {R : Value → World → Prop} (he : (callFunc f args).run P w = .ok (.enter f args) w)
    (h : Calls P f args w fun | .returned v, w'' => R v w'' | _, _ => False) : CallsTo P f args w R := by
  unfold CallsTo
  rw [he]
  exact h
open Classical in
theorem con_cloneWs (con1 : Contract Try.prog 77 ⟨[(kSE, false)], [kSE], true, G_toIntA2S⟩) (con2 : Contract Try.prog 130 ⟨[(kSI, false)], [kSI], true, G_toIntS⟩) : Contract Try.prog 91 ⟨[(kWs, false)], [kWs], true, G_cloneWs⟩ := by
  intro w ψ U vs d out hargs hU hψ hgl ho
  obtain ⟨⟨⟨n, lE, uE⟩, cop, rob, lI, cnt, u2⟩, u3⟩ := d
  have ho : G_cloneWs (((n, lE, uE), cop, rob, lI, cnt, u2), u3) = some out := ho
  unfold G_cloneWs at ho
  split at ho
  case isFalse => cases ho
  rename_i hok
  simp only [Bool.and_eq_true] at hok
  obtain ⟨okE, okI⟩ := hok
  obtain rfl := Option.some.inj ho
  obtain ⟨c1, r1, rfl, k2, k5⟩ := hargs
  have k5 : r1 = [] := k5
  subst k5
  have hlen : c1.length = 6 := k2.length
  match c1, hlen with
  | [x0, e, x2, x3, m, x5], _ =>
    obtain ⟨⟨a1, a2, _⟩, b1, b2, b3, b4, _⟩ := k2
    obtain rfl : x0 = Value.int .i64 n := (List.cons.inj (show [x0] = [Value.int .i64 n] from a1)).1
    obtain rfl : x2 = Value.int .i64 cop := (List.cons.inj (show [x2] = [Value.int .i64 cop] from b1)).1
    obtain rfl : x3 = Value.int .i64 rob := (List.cons.inj (show [x3] = [Value.int .i64 rob] from b2)).1
    obtain rfl : x5 = Value.int .i64 cnt := (List.cons.inj (show [x5] = [Value.int .i64 cnt] from b4)).1
    have hE : Rep w (fun _ b => U b) kSE [.l, .r, .l] [e] lE := a2
    have hI : Rep w (fun _ b => U b) kSI [.r, .r, .r, .l] [m] lI := b3
    have f1 : G_toIntA2S (lE, ()) = some (lE, ()) := by unfold G_toIntA2S; rw [if_pos okE]
    have f2 : G_toIntS (lI, ()) = some (lI, ()) := by unfold G_toIntS; rw [if_pos okI]
    have e77 : ∀ (args : Array Value) (w : World), (callFunc 77 args).run Try.prog w = .ok (.enter 77 args) w := enters_of Try.func77 (by kernel_rfl) rfl
    have e130 : ∀ (args : Array Value) (w : World), (callFunc 130 args).run Try.prog w = .ok (.enter 130 args) w := enters_of Try.func130 (by kernel_rfl) rfl
    have e91 : ∀ (args : Array Value) (w : World), (callFunc 91 args).run Try.prog w = .ok (.enter 91 args) w := enters_of Try.func91 (by kernel_rfl) rfl
    have keep2 : ∀ (o1 o2 : Obj) (b : Nat), b < w.heap.size → ((w.alloc o1).alloc o2).heap[b]? = w.heap[b]? := fun o1 o2 b hb =>
      (Below.heap_alloc (w.alloc o1) o2 b (by rw [show (w.alloc o1).heap.size = w.heap.size + 1 by show (w.heap.push o1).size = _; simp]; omega)).trans (Below.heap_alloc w o1 b hb)
    have size2 : ∀ (o1 o2 : Obj), ((w.alloc o1).alloc o2).heap.size = w.heap.size + 2 := fun o1 o2 => by
      show ((w.heap.push o1).push o2).size = _
      simp
    have hcalls := clone_walk n cop rob cnt e m w
      (A := fun a l p w3 => (∃ χ : Nat → Option Lab, (∀ b z, χ b = some z → w.heap.size + 2 ≤ b ∧ ∃ cs T, w3.heap[b]? = some (.cells cs T (0, 0))) ∧ Rep w3 (fun _ b => χ b = some (.res [.l])) kSE [] [.slice a l p] lE) ∧ w.heap.size + 2 ≤ w3.heap.size ∧ w3.os = w.os ∧ w3.tape = w.tape ∧ w3.output = w.output ∧ ∀ b, b < w.heap.size → w3.heap[b]? = w.heap[b]?)
      (B := fun w3 a l p w5 => (∃ χ : Nat → Option Lab, (∀ b z, χ b = some z → w3.heap.size ≤ b ∧ ∃ cs T, w5.heap[b]? = some (.cells cs T (0, 0))) ∧ Rep w5 (fun _ b => χ b = some (.res [.l])) kSI [] [.slice a l p] lI) ∧ w3.heap.size ≤ w5.heap.size ∧ w5.os = w3.os ∧ w5.tape = w3.tape ∧ w5.output = w3.output ∧ ∀ b, b < w3.heap.size → b ≠ w.heap.size → w5.heap[b]? = w3.heap[b]?)
      (fun w1 hw1 => by
        subst hw1
        refine Calls.mono (clone_call e77 rfl con1 f1 (slice_to (q' := []) (S' := fun _ _ => True) rfl hE (fun b _ hb => ⟨keep2 _ _ b hb, trivial⟩)) (gl_kept hgl (keep2 _ _))) fun x w3 hx => ?_
        obtain ⟨a, l, p, h1, ⟨χ, h2, h3⟩, bel⟩ := hx
        rw [size2] at h2
        refine ⟨a, l, p, h1, ⟨⟨χ, h2, h3⟩, ?_, bel.os, bel.tape, bel.output, fun b hb => (bel.block b (by rw [size2]; omega)).trans (keep2 _ _ b hb)⟩, bel⟩
        have := bel.size
        rw [size2] at this
        exact this)
      (fun a l p w3 hA w4 hw4 => by
        subst hw4
        obtain ⟨_, hs3, _, _, _, hk3⟩ := hA
        have keep4 : ∀ b, b ≠ w.heap.size → (w3.setCell ⟨w.heap.size, 1, none⟩ (.slice a l p)).heap[b]? = w3.heap[b]? := fun b hb => Below.heap_setCell w3 ⟨w.heap.size, 1, none⟩ (.slice a l p) b hb
        have size4 : (w3.setCell ⟨w.heap.size, 1, none⟩ (.slice a l p)).heap.size = w3.heap.size := by simp [World.setCell]
        have keepw : ∀ b, b < w.heap.size → (w3.setCell ⟨w.heap.size, 1, none⟩ (.slice a l p)).heap[b]? = w.heap[b]? := fun b hb => (keep4 b (by omega)).trans (hk3 b hb)
        refine Calls.mono (clone_call e130 rfl con2 f2 (slice_to (q' := []) (S' := fun _ _ => True) rfl hI (fun b _ hb => ⟨keepw b hb, trivial⟩)) (gl_kept hgl keepw)) fun x w5 hx => ?_
        obtain ⟨a2, l2, p2, h1, ⟨χ, h2, h3⟩, bel⟩ := hx
        rw [size4] at h2
        have hsz := bel.size
        rw [size4] at hsz
        exact ⟨a2, l2, p2, h1, ⟨⟨χ, h2, h3⟩, hsz, bel.os, bel.tape, bel.output, fun b hb hne => (bel.block b (by rw [size4]; exact hb)).trans (keep4 b hne)⟩, bel⟩)
    refine callsTo_enter (e91 _ w) ?_
    refine Calls.mono hcalls fun x w' hx => ?_
    obtain ⟨a, l, p, w3, a2, l2, p2, w5, rfl, ⟨⟨χ1, hχ1, hr1⟩, hs3, ho3, ht3, hp3, hk3⟩, ⟨⟨χ2, hχ2, hr2⟩, hs5, ho5, ht5, hp5, hk5⟩, two⟩ := hx
    have end5 : ∀ b, w.heap.size + 2 ≤ b → w'.heap[b]? = w5.heap[b]? := fun b hb => two.other b (by omega) (by omega)
    have lt3 : ∀ b z, χ1 b = some z → b < w3.heap.size := fun b z hz => by
      obtain ⟨_, cs, T, h⟩ := hχ1 b z hz
      exact (Array.getElem?_eq_some_iff.1 h).1
    refine ⟨fun b => if χ1 b = some (.res [.l]) then some (.res [.l, .l, .r, .l]) else if χ2 b = some (.res [.l]) then some (.res [.l, .r, .r, .r, .l]) else none,
      ⟨two.os.trans (ho5.trans ho3), two.tape.trans (ht5.trans ht3), two.output.trans (hp5.trans hp3), by rw [two.size]; omega, fun b hb _ => ?_, fun b z hz => ?_,
        ⟨[.int .i64 n, .slice a l p, .int .i64 cop, .int .i64 rob, .slice a2 l2 p2, .int .i64 cnt], rfl, ?_⟩, trivial⟩⟩
    · exact (two.other b (by omega) (by omega)).trans ((hk5 b (by omega) (by omega)).trans (hk3 b hb))
    · split at hz
      · rename_i h1
        obtain ⟨k1, cs, T, k2⟩ := hχ1 b _ h1
        exact ⟨.inl (by omega), cs, T, (end5 b k1).trans ((hk5 b (lt3 b _ h1) (by omega)).trans k2)⟩
      · split at hz
        · rename_i h1
          obtain ⟨k1, cs, T, k2⟩ := hχ2 b _ h1
          exact ⟨.inl (by omega), cs, T, (end5 b (by omega)).trans k2⟩
        · cases hz
    · have h1 : Rep w' (fun q b => (if χ1 b = some (.res [.l]) then some (Lab.res [.l, .l, .r, .l]) else if χ2 b = some (.res [.l]) then some (Lab.res [.l, .r, .r, .r, .l]) else none) = some (.res q)) kSE [.l, .l, .r, .l] [.slice a l p] lE :=
        slice_to rfl hr1 (fun b hb hlt => ⟨(end5 b (hχ1 b _ hb).1).trans (hk5 b hlt (by have := (hχ1 b _ hb).1; omega)), by rw [if_pos hb]⟩)
      have h2 : Rep w' (fun q b => (if χ1 b = some (.res [.l]) then some (Lab.res [.l, .l, .r, .l]) else if χ2 b = some (.res [.l]) then some (Lab.res [.l, .r, .r, .r, .l]) else none) = some (.res q)) kSI [.l, .r, .r, .r, .l] [.slice a2 l2 p2] lI :=
        slice_to rfl hr2 (fun b hb hlt => ⟨end5 b (by have := (hχ2 b _ hb).1; omega), by
          rw [if_neg (fun h => by have h3 := lt3 b _ h; have h4 := (hχ2 b _ hb).1; omega), if_pos hb]⟩)
      exact ⟨⟨⟨rfl, h1, rfl⟩, rfl, rfl, h2, rfl, rfl⟩, rfl⟩
end Go.V.W
set_option linter.unusedVariables false
set_option maxRecDepth 100000
namespace Go.V.W
open Go.Proofs
abbrev I : Kd := .int .i64
abbrev K_Piq : Kd := .pair I .unit
abbrev K_Piiq : Kd := .pair I K_Piq
abbrev K_SPiiq : Kd := .slice K_Piiq
abbrev K_PSPiiqq : Kd := .pair K_SPiiq .unit
abbrev K_PiSPiiqq : Kd := .pair I K_PSPiiqq
abbrev K_Si : Kd := .slice I
abbrev K_PSiiq : Kd := .pair K_Si K_Piq
abbrev K_PiSiiq : Kd := .pair I K_PSiiq
abbrev K_PiiSiiq : Kd := .pair I K_PiSiiq
abbrev K_PPiSPiiqqiiSiiq : Kd := .pair K_PiSPiiqq K_PiiSiiq
abbrev K_Psiq : Kd := .pair .str K_Piq
abbrev K_Pssiq : Kd := .pair .str K_Psiq
abbrev K_PPssiqq : Kd := .pair K_Pssiq .unit
abbrev K_PPPiSPiiqqiiSiiqPssiqq : Kd := .pair K_PPiSPiiqqiiSiiq K_PPssiqq
def tks : List (Nat × Kd) := [(3, I), (4, .bool), (9, .str), (29, K_SPiiq), (31, K_PiSPiiqq), (32, K_Si), (34, K_PPiSPiiqqiiSiiq), (37, K_PiSPiiqq), (39, K_PPiSPiiqqiiSiiq), (65, K_Pssiq), (67, K_PPPiSPiiqqiiSiiqPssiqq), (99, K_Piiq)]
def ars : List (Nat × Nat) := [(99, 3)]
noncomputable def Γ_laws_szIntA2S : Ctx := { tk := assoc tks, ar := assoc ars, fs := assoc [] }
noncomputable def F_laws_szIntA2S (N : Nat) (d : (List (Int × Int × Unit)) × Int × Unit) : Option (Int × Unit) :=
  let a0 : List (Int × Int × Unit) := d.1
  let a1 : Int := d.2.1
  let x1 : Int := IntKind.wrap .i64 (a1 - (List.length a0 : Int))
  if (decide (x1 < (0 : Int))) = true then
    some ((-1 : Int), ())
  else
    some (x1, ())
theorem F_laws_szIntA2S_ok (N : Nat) (d) : fnR Γ_laws_szIntA2S (assoc []) true [(K_SPiiq, false), (I, false)] [I] Try.f73.results.toList (bodyOf Try.f73) d = F_laws_szIntA2S N d := by kernel_rfl
noncomputable def g_laws_szIntA2S (d : (List (Int × Int × Unit)) × Int × Unit) : Int × Unit :=
  let a0 : List (Int × Int × Unit) := d.1
  let a1 : Int := d.2.1
  let x1 : Int := IntKind.wrap .i64 (a1 - (List.length a0 : Int))
  if (decide (x1 < (0 : Int))) = true then
    ((-1 : Int), ())
  else
    (x1, ())
theorem F_laws_szIntA2S_tot (N : Nat) (d) : F_laws_szIntA2S N d = some (g_laws_szIntA2S d) := by
  unfold F_laws_szIntA2S g_laws_szIntA2S
  first
    | rfl
    | (dsimp only; (repeat' split) <;> rfl)
noncomputable def S_laws_szIntA2S : FSig := ⟨[(K_SPiiq, false), (I, false)], [I], true, (fun d => some (g_laws_szIntA2S d))⟩
noncomputable def Γ_laws_szGraph : Ctx := { tk := assoc tks, ar := assoc ars, fs := assoc [(73, S_laws_szIntA2S)] }
noncomputable def F_laws_szGraph (N : Nat) (d : (Int × (List (Int × Int × Unit)) × Unit) × Int × Unit) : Option (Int × Unit) :=
  let a0 : Int × (List (Int × Int × Unit)) × Unit := d.1
  let a1 : Int := d.2.1
  let r1 : Int × Unit := g_laws_szIntA2S ((a0.2.1, (a1, ())))
  if (decide (r1.1 < (0 : Int))) = true then
    some ((-1 : Int), ())
  else
    some (r1.1, ())
theorem F_laws_szGraph_ok (N : Nat) (d) : fnR Γ_laws_szGraph (assoc []) true [(K_PiSPiiqq, false), (I, false)] [I] Try.f24.results.toList (bodyOf Try.f24) d = F_laws_szGraph N d := by kernel_rfl
noncomputable def g_laws_szGraph (d : (Int × (List (Int × Int × Unit)) × Unit) × Int × Unit) : Int × Unit :=
  let a0 : Int × (List (Int × Int × Unit)) × Unit := d.1
  let a1 : Int := d.2.1
  let r1 : Int × Unit := g_laws_szIntA2S ((a0.2.1, (a1, ())))
  if (decide (r1.1 < (0 : Int))) = true then
    ((-1 : Int), ())
  else
    (r1.1, ())
theorem F_laws_szGraph_tot (N : Nat) (d) : F_laws_szGraph N d = some (g_laws_szGraph d) := by
  unfold F_laws_szGraph g_laws_szGraph
  first
    | rfl
    | (dsimp only; (repeat' split) <;> rfl)
noncomputable def S_laws_szGraph : FSig := ⟨[(K_PiSPiiqq, false), (I, false)], [I], true, (fun d => some (g_laws_szGraph d))⟩
noncomputable def Γ_laws_szIntS : Ctx := { tk := assoc tks, ar := assoc ars, fs := assoc [] }
noncomputable def F_laws_szIntS (N : Nat) (d : List Int × Int × Unit) : Option (Int × Unit) :=
  let a0 : List Int := d.1
  let a1 : Int := d.2.1
  let x1 : Int := IntKind.wrap .i64 (a1 - (List.length a0 : Int))
  if (decide (x1 < (0 : Int))) = true then
    some ((-1 : Int), ())
  else
    some (x1, ())
theorem F_laws_szIntS_ok (N : Nat) (d) : fnR Γ_laws_szIntS (assoc []) true [(K_Si, false), (I, false)] [I] Try.f68.results.toList (bodyOf Try.f68) d = F_laws_szIntS N d := by kernel_rfl
noncomputable def g_laws_szIntS (d : List Int × Int × Unit) : Int × Unit :=
  let a0 : List Int := d.1
  let a1 : Int := d.2.1
  let x1 : Int := IntKind.wrap .i64 (a1 - (List.length a0 : Int))
  if (decide (x1 < (0 : Int))) = true then
    ((-1 : Int), ())
  else
    (x1, ())
theorem F_laws_szIntS_tot (N : Nat) (d) : F_laws_szIntS N d = some (g_laws_szIntS d) := by
  unfold F_laws_szIntS g_laws_szIntS
  first
    | rfl
    | (dsimp only; (repeat' split) <;> rfl)
noncomputable def S_laws_szIntS : FSig := ⟨[(K_Si, false), (I, false)], [I], true, (fun d => some (g_laws_szIntS d))⟩
noncomputable def Γ_laws_szWorkshop : Ctx := { tk := assoc tks, ar := assoc ars, fs := assoc [(24, S_laws_szGraph), (68, S_laws_szIntS)] }
noncomputable def F_laws_szWorkshop (N : Nat) (d : ((Int × (List (Int × Int × Unit)) × Unit) × Int × Int × List Int × Int × Unit) × Int × Unit) : Option (Int × Unit) :=
  let a0 : (Int × (List (Int × Int × Unit)) × Unit) × Int × Int × List Int × Int × Unit := d.1
  let a1 : Int := d.2.1
  let r1 : Int × Unit := g_laws_szGraph ((a0.1, (a1, ())))
  if (decide (r1.1 < (0 : Int))) = true then
    some ((-1 : Int), ())
  else
    let r2 : Int × Unit := g_laws_szIntS ((a0.2.2.2.1, (r1.1, ())))
    if (decide (r2.1 < (0 : Int))) = true then
      some ((-1 : Int), ())
    else
      some (r2.1, ())
theorem F_laws_szWorkshop_ok (N : Nat) (d) : fnR Γ_laws_szWorkshop (assoc []) true [(K_PPiSPiiqqiiSiiq, false), (I, false)] [I] Try.f19.results.toList (bodyOf Try.f19) d = F_laws_szWorkshop N d := by kernel_rfl
noncomputable def g_laws_szWorkshop (d : ((Int × (List (Int × Int × Unit)) × Unit) × Int × Int × List Int × Int × Unit) × Int × Unit) : Int × Unit :=
  let a0 : (Int × (List (Int × Int × Unit)) × Unit) × Int × Int × List Int × Int × Unit := d.1
  let a1 : Int := d.2.1
  let r1 : Int × Unit := g_laws_szGraph ((a0.1, (a1, ())))
  if (decide (r1.1 < (0 : Int))) = true then
    ((-1 : Int), ())
  else
    let r2 : Int × Unit := g_laws_szIntS ((a0.2.2.2.1, (r1.1, ())))
    if (decide (r2.1 < (0 : Int))) = true then
      ((-1 : Int), ())
    else
      (r2.1, ())
theorem F_laws_szWorkshop_tot (N : Nat) (d) : F_laws_szWorkshop N d = some (g_laws_szWorkshop d) := by
  unfold F_laws_szWorkshop g_laws_szWorkshop
  first
    | rfl
    | (dsimp only; (repeat' split) <;> rfl)
noncomputable def S_laws_szWorkshop : FSig := ⟨[(K_PPiSPiiqqiiSiiq, false), (I, false)], [I], true, (fun d => some (g_laws_szWorkshop d))⟩
noncomputable def Γ_laws_toIntA2 : Ctx := { tk := assoc tks, ar := assoc ars, fs := assoc [] }
abbrev laws_toIntA2_l0_H := (Int × Int × Unit) × (Int × Int × Unit) × (Int × Int × Unit) × Int × Unit
abbrev laws_toIntA2_l0_O := ((Int × Int × Unit) × (Int × Int × Unit) × Unit) ⊕ Empty
def laws_toIntA2_l0_h : Form := [(1, .box K_Piiq 99), (2, .box K_Piiq 99), (3, .box K_Piiq 99), (4, .v I)]
def laws_toIntA2_l0_o : Outs := [(.normal, [(2, .box K_Piiq 99), (3, .box K_Piiq 99)])]
noncomputable def laws_toIntA2_l0_r (N : Nat) (back : laws_toIntA2_l0_H → Option laws_toIntA2_l0_O) (d : laws_toIntA2_l0_H) : Option laws_toIntA2_l0_O :=
  let s1 : Int × Int × Unit := d.1
  let s2 : Int × Int × Unit := d.2.1
  let s3 : Int × Int × Unit := d.2.2.1
  let s4 : Int := d.2.2.2.1
  if (decide (s4 < (2 : Int))) = true then
    if (s4 == (0 : Int)) = true then
      if (s4 == (0 : Int)) = true then
        let x10 : Int := IntKind.wrap .i64 (s4 + (1 : Int))
        back ((s1, (s2, ((s1.1, s3.2), (x10, ())))))
      else
        if (s4 == (1 : Int)) = true then
        let x9 : Int := IntKind.wrap .i64 (s4 + (1 : Int))
        back ((s1, (s2, ((s3.1, (s1.1, s3.2.2)), (x9, ())))))
        else none
    else
      if (s4 == (1 : Int)) = true then
      if (s4 == (0 : Int)) = true then
        let x8 : Int := IntKind.wrap .i64 (s4 + (1 : Int))
        back ((s1, (s2, ((s1.2.1, s3.2), (x8, ())))))
      else
        if (s4 == (1 : Int)) = true then
        let x7 : Int := IntKind.wrap .i64 (s4 + (1 : Int))
        back ((s1, (s2, ((s3.1, (s1.2.1, s3.2.2)), (x7, ())))))
        else none
      else none
  else
    some (.inl ((s2, (s3, ()))))
noncomputable def laws_toIntA2_l0 (N : Nat) : Nat → laws_toIntA2_l0_H → Option laws_toIntA2_l0_O
  | 0, _ => none
  | k + 1, d => laws_toIntA2_l0_r N (laws_toIntA2_l0 N k) d
theorem laws_toIntA2_l0_ok (N : Nat) (back) (d) : roundR Γ_laws_toIntA2 (assoc []) 0 laws_toIntA2_l0_h laws_toIntA2_l0_o (loopOf Try.f125 0) back d = laws_toIntA2_l0_r N back d := by kernel_rfl
noncomputable def F_laws_toIntA2 (N : Nat) (d : (Int × Int × Unit) × Unit) : Option ((Int × Int × Unit) × Unit) :=
  let a0 : Int × Int × Unit := d.1
  (laws_toIntA2_l0 N N ((a0, (((0 : Int), ((0 : Int), ())), (((0 : Int), ((0 : Int), ())), ((0 : Int), ())))))).bind fun o5 => match o5 with
  | .inl d6 =>
    some (d6.2.1, ())
theorem F_laws_toIntA2_ok (N : Nat) (d) : fnR Γ_laws_toIntA2 (assoc [(0, ⟨laws_toIntA2_l0_h, laws_toIntA2_l0_o, laws_toIntA2_l0 N N⟩)]) true [(K_Piiq, false)] [K_Piiq] Try.f125.results.toList (bodyOf Try.f125) d = F_laws_toIntA2 N d := by kernel_rfl
noncomputable def S_laws_toIntA2 : FSig := ⟨[(K_Piiq, false)], [K_Piiq], true, (G_toIntA2)⟩
noncomputable def Γ_laws_toIntA2S : Ctx := { tk := assoc tks, ar := assoc ars, fs := assoc [(125, S_laws_toIntA2)] }
abbrev laws_toIntA2S_l0_H := (List (Int × Int × Unit)) × (List (Int × Int × Unit)) × Int × Unit
abbrev laws_toIntA2S_l0_O := ((List (Int × Int × Unit)) × Unit) ⊕ Empty
def laws_toIntA2S_l0_h : Form := [(0, .v K_SPiiq), (3, .own K_SPiiq 99), (4, .v I)]
def laws_toIntA2S_l0_o : Outs := [(.normal, [(3, .own K_SPiiq 99)])]
noncomputable def laws_toIntA2S_l0_r (N : Nat) (back : laws_toIntA2S_l0_H → Option laws_toIntA2S_l0_O) (d : laws_toIntA2S_l0_H) : Option laws_toIntA2S_l0_O :=
  let s0 : List (Int × Int × Unit) := d.1
  let s3 : List (Int × Int × Unit) := d.2.1
  let s4 : Int := d.2.2.1
  if (decide (s4 < (List.length s0 : Int))) = true then
    if (idxIn s4 (List.length s0)) = true then
    (G_toIntA2 (at_ K_Piiq s0 s4.toNat, ())).bind fun r6 =>
    if (idxIn s4 (List.length s3)) = true then
    let x7 : Int := IntKind.wrap .i64 (s4 + (1 : Int))
    back ((s0, (List.set s3 s4.toNat r6.1, (x7, ()))))
    else none
    else none
  else
    some (.inl (s3, ()))
noncomputable def laws_toIntA2S_l0 (N : Nat) : Nat → laws_toIntA2S_l0_H → Option laws_toIntA2S_l0_O
  | 0, _ => none
  | k + 1, d => laws_toIntA2S_l0_r N (laws_toIntA2S_l0 N k) d
theorem laws_toIntA2S_l0_ok (N : Nat) (back) (d) : roundR Γ_laws_toIntA2S (assoc []) 0 laws_toIntA2S_l0_h laws_toIntA2S_l0_o (loopOf Try.f75 0) back d = laws_toIntA2S_l0_r N back d := by kernel_rfl
noncomputable def F_laws_toIntA2S (N : Nat) (d : (List (Int × Int × Unit)) × Unit) : Option ((List (Int × Int × Unit)) × Unit) :=
  let a0 : List (Int × Int × Unit) := d.1
  if ((decide (0 ≤ (List.length a0 : Int)) && decide ((List.length a0 : Int) ≤ (List.length a0 : Int)) && decide ((List.length a0 : Int) ≤ (lim : Int)))) = true then
  let x1 : List (Int × Int × Unit) := List.replicate (List.length a0 : Int).toNat (((0 : Int), ((0 : Int), ())))
  (laws_toIntA2S_l0 N N ((a0, (x1, ((0 : Int), ()))))).bind fun o4 => match o4 with
  | .inl d5 =>
    some (d5.1, ())
  else none
theorem F_laws_toIntA2S_ok (N : Nat) (d) : fnR Γ_laws_toIntA2S (assoc [(0, ⟨laws_toIntA2S_l0_h, laws_toIntA2S_l0_o, laws_toIntA2S_l0 N N⟩)]) true [(K_SPiiq, false)] [K_SPiiq] Try.f75.results.toList (bodyOf Try.f75) d = F_laws_toIntA2S N d := by kernel_rfl
noncomputable def S_laws_toIntA2S : FSig := ⟨[(K_SPiiq, false)], [K_SPiiq], true, (G_toIntA2S)⟩
noncomputable def Γ_laws_toGraph : Ctx := { tk := assoc tks, ar := assoc ars, fs := assoc [(75, S_laws_toIntA2S)] }
noncomputable def F_laws_toGraph (N : Nat) (d : (Int × (List (Int × Int × Unit)) × Unit) × Unit) : Option ((Int × (List (Int × Int × Unit)) × Unit) × Unit) :=
  let a0 : Int × (List (Int × Int × Unit)) × Unit := d.1
  (G_toIntA2S (a0.2.1, ())).bind fun r1 =>
  some (((a0.1, (r1.1, ())), ()))
theorem F_laws_toGraph_ok (N : Nat) (d) : fnR Γ_laws_toGraph (assoc []) true [(K_PiSPiiqq, false)] [K_PiSPiiqq] Try.f26.results.toList (bodyOf Try.f26) d = F_laws_toGraph N d := by kernel_rfl
noncomputable def S_laws_toGraph : FSig := ⟨[(K_PiSPiiqq, false)], [K_PiSPiiqq], true, (F_laws_toGraph 0)⟩
noncomputable def Γ_laws_toIntS : Ctx := { tk := assoc tks, ar := assoc ars, fs := assoc [] }
abbrev laws_toIntS_l0_H := List Int × List Int × Int × Unit
abbrev laws_toIntS_l0_O := (List Int × Unit) ⊕ Empty
def laws_toIntS_l0_h : Form := [(0, .v K_Si), (3, .own K_Si 99), (4, .v I)]
def laws_toIntS_l0_o : Outs := [(.normal, [(3, .own K_Si 99)])]
noncomputable def laws_toIntS_l0_r (N : Nat) (back : laws_toIntS_l0_H → Option laws_toIntS_l0_O) (d : laws_toIntS_l0_H) : Option laws_toIntS_l0_O :=
  let s0 : List Int := d.1
  let s3 : List Int := d.2.1
  let s4 : Int := d.2.2.1
  if (decide (s4 < (List.length s0 : Int))) = true then
    if (idxIn s4 (List.length s0)) = true then
    if (idxIn s4 (List.length s3)) = true then
    let x6 : List Int := List.set s3 s4.toNat (at_ I s0 s4.toNat)
    let x7 : Int := IntKind.wrap .i64 (s4 + (1 : Int))
    back ((s0, (x6, (x7, ()))))
    else none
    else none
  else
    some (.inl (s3, ()))
noncomputable def laws_toIntS_l0 (N : Nat) : Nat → laws_toIntS_l0_H → Option laws_toIntS_l0_O
  | 0, _ => none
  | k + 1, d => laws_toIntS_l0_r N (laws_toIntS_l0 N k) d
theorem laws_toIntS_l0_ok (N : Nat) (back) (d) : roundR Γ_laws_toIntS (assoc []) 0 laws_toIntS_l0_h laws_toIntS_l0_o (loopOf Try.f70 0) back d = laws_toIntS_l0_r N back d := by kernel_rfl
noncomputable def F_laws_toIntS (N : Nat) (d : List Int × Unit) : Option (List Int × Unit) :=
  let a0 : List Int := d.1
  if ((decide (0 ≤ (List.length a0 : Int)) && decide ((List.length a0 : Int) ≤ (List.length a0 : Int)) && decide ((List.length a0 : Int) ≤ (lim : Int)))) = true then
  let x1 : List Int := List.replicate (List.length a0 : Int).toNat (0 : Int)
  (laws_toIntS_l0 N N ((a0, (x1, ((0 : Int), ()))))).bind fun o4 => match o4 with
  | .inl d5 =>
    some (d5.1, ())
  else none
theorem F_laws_toIntS_ok (N : Nat) (d) : fnR Γ_laws_toIntS (assoc [(0, ⟨laws_toIntS_l0_h, laws_toIntS_l0_o, laws_toIntS_l0 N N⟩)]) true [(K_Si, false)] [K_Si] Try.f70.results.toList (bodyOf Try.f70) d = F_laws_toIntS N d := by kernel_rfl
noncomputable def S_laws_toIntS : FSig := ⟨[(K_Si, false)], [K_Si], true, (G_toIntS)⟩
noncomputable def Γ_laws_toWorkshop : Ctx := { tk := assoc tks, ar := assoc ars, fs := assoc [(26, S_laws_toGraph), (70, S_laws_toIntS)] }
noncomputable def F_laws_toWorkshop (N : Nat) (d : ((Int × (List (Int × Int × Unit)) × Unit) × Int × Int × List Int × Int × Unit) × Unit) : Option (((Int × (List (Int × Int × Unit)) × Unit) × Int × Int × List Int × Int × Unit) × Unit) :=
  let a0 : (Int × (List (Int × Int × Unit)) × Unit) × Int × Int × List Int × Int × Unit := d.1
  ((F_laws_toGraph 0) (a0.1, ())).bind fun r1 =>
  (G_toIntS (a0.2.2.2.1, ())).bind fun r2 =>
  some (((r1.1, (a0.2.1, (a0.2.2.1, (r2.1, (a0.2.2.2.2.1, ()))))), ()))
theorem F_laws_toWorkshop_ok (N : Nat) (d) : fnR Γ_laws_toWorkshop (assoc []) true [(K_PPiSPiiqqiiSiiq, false)] [K_PPiSPiiqqiiSiiq] Try.f21.results.toList (bodyOf Try.f21) d = F_laws_toWorkshop N d := by kernel_rfl
noncomputable def S_laws_toWorkshop : FSig := ⟨[(K_PPiSPiiqqiiSiiq, false)], [K_PPiSPiiqqiiSiiq], true, (F_laws_toWorkshop 0)⟩
noncomputable def Γ_spec_l1In : Ctx := { tk := assoc tks, ar := assoc ars, fs := assoc [] }
noncomputable def F_spec_l1In (N : Nat) (d : Int × Int × Int × Unit) : Option (Bool × Unit) :=
  let a0 : Int := d.1
  let a1 : Int := d.2.1
  let a2 : Int := d.2.2.1
  if (decide (a0 ≥ a1)) = true then
    some (decide (a0 ≤ a2), ())
  else
    some (false, ())
theorem F_spec_l1In_ok (N : Nat) (d) : fnR Γ_spec_l1In (assoc []) true [(I, false), (I, false), (I, false)] [.bool] Try.f122.results.toList (bodyOf Try.f122) d = F_spec_l1In N d := by kernel_rfl
noncomputable def g_spec_l1In (d : Int × Int × Int × Unit) : Bool × Unit :=
  let a0 : Int := d.1
  let a1 : Int := d.2.1
  let a2 : Int := d.2.2.1
  if (decide (a0 ≥ a1)) = true then
    (decide (a0 ≤ a2), ())
  else
    (false, ())
theorem F_spec_l1In_tot (N : Nat) (d) : F_spec_l1In N d = some (g_spec_l1In d) := by
  unfold F_spec_l1In g_spec_l1In
  first
    | rfl
    | (dsimp only; (repeat' split) <;> rfl)
noncomputable def S_spec_l1In : FSig := ⟨[(I, false), (I, false), (I, false)], [.bool], true, (fun d => some (g_spec_l1In d))⟩
noncomputable def Γ_spec_l2Before : Ctx := { tk := assoc tks, ar := assoc ars, fs := assoc [] }
noncomputable def F_spec_l2Before (N : Nat) (d : (Int × Int × Unit) × (Int × Int × Unit) × Unit) : Option (Bool × Unit) :=
  let a0 : Int × Int × Unit := d.1
  let a1 : Int × Int × Unit := d.2.1
  if (decide (a0.1 < a1.1)) = true then
    some (true, ())
  else
    if (a0.1 == a1.1) = true then
      some (decide (a0.2.1 < a1.2.1), ())
    else
      some (false, ())
theorem F_spec_l2Before_ok (N : Nat) (d) : fnR Γ_spec_l2Before (assoc []) true [(K_Piiq, false), (K_Piiq, false)] [.bool] Try.f148.results.toList (bodyOf Try.f148) d = F_spec_l2Before N d := by kernel_rfl
noncomputable def g_spec_l2Before (d : (Int × Int × Unit) × (Int × Int × Unit) × Unit) : Bool × Unit :=
  let a0 : Int × Int × Unit := d.1
  let a1 : Int × Int × Unit := d.2.1
  if (decide (a0.1 < a1.1)) = true then
    (true, ())
  else
    if (a0.1 == a1.1) = true then
      (decide (a0.2.1 < a1.2.1), ())
    else
      (false, ())
theorem F_spec_l2Before_tot (N : Nat) (d) : F_spec_l2Before N d = some (g_spec_l2Before d) := by
  unfold F_spec_l2Before g_spec_l2Before
  first
    | rfl
    | (dsimp only; (repeat' split) <;> rfl)
noncomputable def S_spec_l2Before : FSig := ⟨[(K_Piiq, false), (K_Piiq, false)], [.bool], true, (fun d => some (g_spec_l2Before d))⟩
noncomputable def Γ_spec_l2Good : Ctx := { tk := assoc tks, ar := assoc ars, fs := assoc [(122, S_spec_l1In), (148, S_spec_l2Before)] }
abbrev spec_l2Good_l0_H := (Int × (List (Int × Int × Unit)) × Unit) × Int × Unit
abbrev spec_l2Good_l0_O := (Bool × Unit) ⊕ ((Int × (List (Int × Int × Unit)) × Unit) × Unit) ⊕ Empty
def spec_l2Good_l0_h : Form := [(1, .box K_PiSPiiqq 0), (3, .v I)]
def spec_l2Good_l0_o : Outs := [(.ret, [(2, .v .bool)]), (.normal, [(1, .box K_PiSPiiqq 0)])]
noncomputable def spec_l2Good_l0_r (N : Nat) (back : spec_l2Good_l0_H → Option spec_l2Good_l0_O) (d : spec_l2Good_l0_H) : Option spec_l2Good_l0_O :=
  let s1 : Int × (List (Int × Int × Unit)) × Unit := d.1
  let s3 : Int := d.2.1
  if (decide (s3 < (List.length s1.2.1 : Int))) = true then
    if (idxIn s3 (List.length s1.2.1)) = true then
    let x13 : Int := IntKind.wrap .i64 (s1.1 - (1 : Int))
    let r14 : Bool × Unit := g_spec_l1In (((at_ K_Piiq s1.2.1 s3.toNat).1, ((0 : Int), (x13, ()))))
    if (!r14.1) = true then
      some (.inl (false, ()))
    else
      let x15 : Int := IntKind.wrap .i64 (s1.1 - (1 : Int))
      let r16 : Bool × Unit := g_spec_l1In (((at_ K_Piiq s1.2.1 s3.toNat).2.1, ((0 : Int), (x15, ()))))
      if (!r16.1) = true then
        some (.inl (false, ()))
      else
        if (decide ((at_ K_Piiq s1.2.1 s3.toNat).1 ≥ (at_ K_Piiq s1.2.1 s3.toNat).2.1)) = true then
          some (.inl (false, ()))
        else
          if (decide (s3 > (0 : Int))) = true then
            let x17 : Int := IntKind.wrap .i64 (s3 - (1 : Int))
            if (idxIn x17 (List.length s1.2.1)) = true then
            let r18 : Bool × Unit := g_spec_l2Before ((at_ K_Piiq s1.2.1 x17.toNat, (at_ K_Piiq s1.2.1 s3.toNat, ())))
            if (!r18.1) = true then
              some (.inl (false, ()))
            else
              let x19 : Int := IntKind.wrap .i64 (s3 + (1 : Int))
              back ((s1, (x19, ())))
            else none
          else
            let x20 : Int := IntKind.wrap .i64 (s3 + (1 : Int))
            back ((s1, (x20, ())))
    else none
  else
    some (.inr (.inl (s1, ())))
noncomputable def spec_l2Good_l0 (N : Nat) : Nat → spec_l2Good_l0_H → Option spec_l2Good_l0_O
  | 0, _ => none
  | k + 1, d => spec_l2Good_l0_r N (spec_l2Good_l0 N k) d
theorem spec_l2Good_l0_ok (N : Nat) (back) (d) : roundR Γ_spec_l2Good (assoc []) 0 spec_l2Good_l0_h spec_l2Good_l0_o (loopOf Try.f119 0) back d = spec_l2Good_l0_r N back d := by kernel_rfl
noncomputable def F_spec_l2Good (N : Nat) (d : (Int × (List (Int × Int × Unit)) × Unit) × Unit) : Option (Bool × Unit) :=
  let a0 : Int × (List (Int × Int × Unit)) × Unit := d.1
  (spec_l2Good_l0 N N ((a0, ((0 : Int), ())))).bind fun o9 => match o9 with
  | .inl d10 =>
    some (d10.1, ())
  | .inr (.inl d11) =>
    let r12 : Bool × Unit := g_spec_l1In ((d11.1.1, ((0 : Int), ((8 : Int), ()))))
    some (r12.1, ())
theorem F_spec_l2Good_ok (N : Nat) (d) : fnR Γ_spec_l2Good (assoc [(0, ⟨spec_l2Good_l0_h, spec_l2Good_l0_o, spec_l2Good_l0 N N⟩)]) true [(K_PiSPiiqq, false)] [.bool] Try.f119.results.toList (bodyOf Try.f119) d = F_spec_l2Good N d := by kernel_rfl
noncomputable def S_spec_l2Good : FSig := ⟨[(K_PiSPiiqq, false)], [.bool], true, (G_graph)⟩
noncomputable def Γ_spec_l12Spot : Ctx := { tk := assoc tks, ar := assoc ars, fs := assoc [(122, S_spec_l1In)] }
noncomputable def F_spec_l12Spot (N : Nat) (d : (Int × (List (Int × Int × Unit)) × Unit) × Int × Unit) : Option (Bool × Unit) :=
  let a0 : Int × (List (Int × Int × Unit)) × Unit := d.1
  let a1 : Int := d.2.1
  let x1 : Int := IntKind.wrap .i64 (a0.1 - (1 : Int))
  let r2 : Bool × Unit := g_spec_l1In ((a1, ((-1 : Int), (x1, ()))))
  some (r2.1, ())
theorem F_spec_l12Spot_ok (N : Nat) (d) : fnR Γ_spec_l12Spot (assoc []) true [(K_PiSPiiqq, false), (I, false)] [.bool] Try.f120.results.toList (bodyOf Try.f120) d = F_spec_l12Spot N d := by kernel_rfl
noncomputable def g_spec_l12Spot (d : (Int × (List (Int × Int × Unit)) × Unit) × Int × Unit) : Bool × Unit :=
  let a0 : Int × (List (Int × Int × Unit)) × Unit := d.1
  let a1 : Int := d.2.1
  let x1 : Int := IntKind.wrap .i64 (a0.1 - (1 : Int))
  let r2 : Bool × Unit := g_spec_l1In ((a1, ((-1 : Int), (x1, ()))))
  (r2.1, ())
theorem F_spec_l12Spot_tot (N : Nat) (d) : F_spec_l12Spot N d = some (g_spec_l12Spot d) := by
  unfold F_spec_l12Spot g_spec_l12Spot
  first
    | rfl
    | (dsimp only; (repeat' split) <;> rfl)
noncomputable def S_spec_l12Spot : FSig := ⟨[(K_PiSPiiqq, false), (I, false)], [.bool], true, (fun d => some (g_spec_l12Spot d))⟩
noncomputable def Γ_spec_l1Rising : Ctx := { tk := assoc tks, ar := assoc ars, fs := assoc [(122, S_spec_l1In)] }
abbrev spec_l1Rising_l0_H := List Int × Int × Int × Int × Unit
abbrev spec_l1Rising_l0_O := (Bool × Unit) ⊕ Unit ⊕ Empty
def spec_l1Rising_l0_h : Form := [(0, .v K_Si), (1, .v I), (2, .v I), (7, .v I)]
def spec_l1Rising_l0_o : Outs := [(.ret, [(6, .v .bool)]), (.normal, [])]
noncomputable def spec_l1Rising_l0_r (N : Nat) (back : spec_l1Rising_l0_H → Option spec_l1Rising_l0_O) (d : spec_l1Rising_l0_H) : Option spec_l1Rising_l0_O :=
  let s0 : List Int := d.1
  let s1 : Int := d.2.1
  let s2 : Int := d.2.2.1
  let s7 : Int := d.2.2.2.1
  if (decide (s7 < (List.length s0 : Int))) = true then
    if (idxIn s7 (List.length s0)) = true then
    let r8 : Bool × Unit := g_spec_l1In ((at_ I s0 s7.toNat, (s1, (s2, ()))))
    if (!r8.1) = true then
      some (.inl (false, ()))
    else
      if (decide (s7 > (0 : Int))) = true then
        let x9 : Int := IntKind.wrap .i64 (s7 - (1 : Int))
        if (idxIn x9 (List.length s0)) = true then
        if (idxIn s7 (List.length s0)) = true then
        if (decide (at_ I s0 x9.toNat ≥ at_ I s0 s7.toNat)) = true then
          some (.inl (false, ()))
        else
          let x10 : Int := IntKind.wrap .i64 (s7 + (1 : Int))
          back ((s0, (s1, (s2, (x10, ())))))
        else none
        else none
      else
        let x11 : Int := IntKind.wrap .i64 (s7 + (1 : Int))
        back ((s0, (s1, (s2, (x11, ())))))
    else none
  else
    some (.inr (.inl ()))
noncomputable def spec_l1Rising_l0 (N : Nat) : Nat → spec_l1Rising_l0_H → Option spec_l1Rising_l0_O
  | 0, _ => none
  | k + 1, d => spec_l1Rising_l0_r N (spec_l1Rising_l0 N k) d
theorem spec_l1Rising_l0_ok (N : Nat) (back) (d) : roundR Γ_spec_l1Rising (assoc []) 0 spec_l1Rising_l0_h spec_l1Rising_l0_o (loopOf Try.f128 0) back d = spec_l1Rising_l0_r N back d := by kernel_rfl
noncomputable def F_spec_l1Rising (N : Nat) (d : List Int × Int × Int × Unit) : Option (Bool × Unit) :=
  let a0 : List Int := d.1
  let a1 : Int := d.2.1
  let a2 : Int := d.2.2.1
  (spec_l1Rising_l0 N N ((a0, (a1, (a2, ((0 : Int), ())))))).bind fun o5 => match o5 with
  | .inl d6 =>
    some (d6.1, ())
  | .inr (.inl d7) =>
    some (true, ())
theorem F_spec_l1Rising_ok (N : Nat) (d) : fnR Γ_spec_l1Rising (assoc [(0, ⟨spec_l1Rising_l0_h, spec_l1Rising_l0_o, spec_l1Rising_l0 N N⟩)]) true [(K_Si, false), (I, false), (I, false)] [.bool] Try.f128.results.toList (bodyOf Try.f128) d = F_spec_l1Rising N d := by kernel_rfl
noncomputable def S_spec_l1Rising : FSig := ⟨[(K_Si, false), (I, false), (I, false)], [.bool], true, (G_l1Rising)⟩
noncomputable def Γ_spec_l2Set : Ctx := { tk := assoc tks, ar := assoc ars, fs := assoc [(128, S_spec_l1Rising)] }
noncomputable def F_spec_l2Set (N : Nat) (d : (Int × (List (Int × Int × Unit)) × Unit) × List Int × Unit) : Option (Bool × Unit) :=
  let a0 : Int × (List (Int × Int × Unit)) × Unit := d.1
  let a1 : List Int := d.2.1
  let x1 : Int := IntKind.wrap .i64 (a0.1 - (1 : Int))
  (G_l1Rising ((a1, ((0 : Int), (x1, ()))))).bind fun r2 =>
  some (r2.1, ())
theorem F_spec_l2Set_ok (N : Nat) (d) : fnR Γ_spec_l2Set (assoc []) true [(K_PiSPiiqq, false), (K_Si, false)] [.bool] Try.f121.results.toList (bodyOf Try.f121) d = F_spec_l2Set N d := by kernel_rfl
noncomputable def S_spec_l2Set : FSig := ⟨[(K_PiSPiiqq, false), (K_Si, false)], [.bool], true, (F_spec_l2Set 0)⟩
noncomputable def Γ_spec_l12Good : Ctx := { tk := assoc tks, ar := assoc ars, fs := assoc [(119, S_spec_l2Good), (120, S_spec_l12Spot), (121, S_spec_l2Set), (122, S_spec_l1In)] }
noncomputable def F_spec_l12Good (N : Nat) (d : ((Int × (List (Int × Int × Unit)) × Unit) × Int × Int × List Int × Int × Unit) × Unit) : Option (Bool × Unit) :=
  let a0 : (Int × (List (Int × Int × Unit)) × Unit) × Int × Int × List Int × Int × Unit := d.1
  (G_graph (a0.1, ())).bind fun r1 =>
  if (r1.1) = true then
    let r2 : Bool × Unit := g_spec_l12Spot ((a0.1, (a0.2.1, ())))
    if (r2.1) = true then
      let r3 : Bool × Unit := g_spec_l12Spot ((a0.1, (a0.2.2.1, ())))
      if (r3.1) = true then
        ((F_spec_l2Set 0) ((a0.1, (a0.2.2.2.1, ())))).bind fun r4 =>
        if (r4.1) = true then
          let r5 : Bool × Unit := g_spec_l1In ((a0.2.2.2.2.1, ((0 : Int), ((1000 : Int), ()))))
          some (r5.1, ())
        else
          some (false, ())
      else
        some (false, ())
    else
      some (false, ())
  else
    some (false, ())
theorem F_spec_l12Good_ok (N : Nat) (d) : fnR Γ_spec_l12Good (assoc []) true [(K_PPiSPiiqqiiSiiq, false)] [.bool] Try.f69.results.toList (bodyOf Try.f69) d = F_spec_l12Good N d := by kernel_rfl
noncomputable def S_spec_l12Good : FSig := ⟨[(K_PPiSPiiqqiiSiiq, false)], [.bool], true, (F_spec_l12Good 0)⟩
noncomputable def Γ_spec_l1Own : Ctx := { tk := assoc tks, ar := assoc ars, fs := assoc [] }
noncomputable def F_spec_l1Own (N : Nat) (d : List Int × Unit) : Option (List Int × Unit) :=
  let a0 : List Int := d.1
  if (decide (List.length ([] : List Int) + List.length a0 ≤ lim)) = true then
  some (([] : List Int) ++ a0, ())
  else none
theorem F_spec_l1Own_ok (N : Nat) (d) : fnR Γ_spec_l1Own (assoc []) true [(K_Si, false)] [K_Si] Try.f124.results.toList (bodyOf Try.f124) d = F_spec_l1Own N d := by kernel_rfl
noncomputable def S_spec_l1Own : FSig := ⟨[(K_Si, false)], [K_Si], true, (F_spec_l1Own 0)⟩
noncomputable def Γ_spec_l12Own : Ctx := { tk := assoc tks, ar := assoc ars, fs := assoc [(124, S_spec_l1Own)] }
noncomputable def F_spec_l12Own (N : Nat) (d : ((Int × (List (Int × Int × Unit)) × Unit) × Int × Int × List Int × Int × Unit) × Unit) : Option (((Int × (List (Int × Int × Unit)) × Unit) × Int × Int × List Int × Int × Unit) × Unit) :=
  let a0 : (Int × (List (Int × Int × Unit)) × Unit) × Int × Int × List Int × Int × Unit := d.1
  if (decide (List.length ([] : List (Int × Int × Unit)) + List.length a0.1.2.1 ≤ lim)) = true then
  let x1 : List (Int × Int × Unit) := ([] : List (Int × Int × Unit)) ++ a0.1.2.1
  ((F_spec_l1Own 0) (a0.2.2.2.1, ())).bind fun r2 =>
  some ((((a0.1.1, (x1, ())), (a0.2.1, (a0.2.2.1, (r2.1, (a0.2.2.2.2.1, ()))))), ()))
  else none
theorem F_spec_l12Own_ok (N : Nat) (d) : fnR Γ_spec_l12Own (assoc []) true [(K_PPiSPiiqqiiSiiq, false)] [K_PPiSPiiqqiiSiiq] Try.f74.results.toList (bodyOf Try.f74) d = F_spec_l12Own N d := by kernel_rfl
noncomputable def S_spec_l12Own : FSig := ⟨[(K_PPiSPiiqqiiSiiq, false)], [K_PPiSPiiqqiiSiiq], true, (F_spec_l12Own 0)⟩
noncomputable def Γ_spec_NewConsole : Ctx := { tk := assoc tks, ar := assoc ars, fs := assoc [(69, S_spec_l12Good), (74, S_spec_l12Own)] }
noncomputable def F_spec_NewConsole (N : Nat) (d : ((Int × (List (Int × Int × Unit)) × Unit) × Int × Int × List Int × Int × Unit) × Unit) : Option ((((Int × (List (Int × Int × Unit)) × Unit) × Int × Int × List Int × Int × Unit) × (ByteArray × ByteArray × Int × Unit) × Unit) × Bool × Unit) :=
  let a0 : (Int × (List (Int × Int × Unit)) × Unit) × Int × Int × List Int × Int × Unit := d.1
  ((F_spec_l12Good 0) (a0, ())).bind fun r1 =>
  if (!r1.1) = true then
    some ((((((0 : Int), (([] : List (Int × Int × Unit)), ())), ((0 : Int), ((0 : Int), (([] : List Int), ((0 : Int), ()))))), ((ByteArray.empty, (ByteArray.empty, ((0 : Int), ()))), ())), (false, ())))
  else
    ((F_spec_l12Own 0) (a0, ())).bind fun r2 =>
    some (((r2.1, ((ByteArray.empty, (ByteArray.empty, ((0 : Int), ()))), ())), (true, ())))
theorem F_spec_NewConsole_ok (N : Nat) (d) : fnR Γ_spec_NewConsole (assoc []) true [(K_PPiSPiiqqiiSiiq, false)] [K_PPPiSPiiqqiiSiiqPssiqq, .bool] Try.f41.results.toList (bodyOf Try.f41) d = F_spec_NewConsole N d := by kernel_rfl
noncomputable def S_spec_NewConsole : FSig := ⟨[(K_PPiSPiiqqiiSiiq, false)], [K_PPPiSPiiqqiiSiiqPssiqq, .bool], true, (F_spec_NewConsole 0)⟩
noncomputable def Γ_impl_within : Ctx := { tk := assoc tks, ar := assoc ars, fs := assoc [] }
noncomputable def F_impl_within (N : Nat) (d : Int × Int × Int × Unit) : Option (Bool × Unit) :=
  let a0 : Int := d.1
  let a1 : Int := d.2.1
  let a2 : Int := d.2.2.1
  if (decide (a0 ≥ a1)) = true then
    some (decide (a0 ≤ a2), ())
  else
    some (false, ())
theorem F_impl_within_ok (N : Nat) (d) : fnR Γ_impl_within (assoc []) true [(I, false), (I, false), (I, false)] [.bool] Try.f72.results.toList (bodyOf Try.f72) d = F_impl_within N d := by kernel_rfl
noncomputable def g_impl_within (d : Int × Int × Int × Unit) : Bool × Unit :=
  let a0 : Int := d.1
  let a1 : Int := d.2.1
  let a2 : Int := d.2.2.1
  if (decide (a0 ≥ a1)) = true then
    (decide (a0 ≤ a2), ())
  else
    (false, ())
theorem F_impl_within_tot (N : Nat) (d) : F_impl_within N d = some (g_impl_within d) := by
  unfold F_impl_within g_impl_within
  first
    | rfl
    | (dsimp only; (repeat' split) <;> rfl)
noncomputable def S_impl_within : FSig := ⟨[(I, false), (I, false), (I, false)], [.bool], true, (fun d => some (g_impl_within d))⟩
noncomputable def Γ_cmp_isNaN_int : Ctx := { tk := assoc tks, ar := assoc ars, fs := assoc [] }
noncomputable def F_cmp_isNaN_int (N : Nat) (d : Int × Unit) : Option (Bool × Unit) :=
  let a0 : Int := d.1
  some (a0 != a0, ())
theorem F_cmp_isNaN_int_ok (N : Nat) (d) : fnR Γ_cmp_isNaN_int (assoc []) true [(I, false)] [.bool] Try.f164.results.toList (bodyOf Try.f164) d = F_cmp_isNaN_int N d := by kernel_rfl
noncomputable def g_cmp_isNaN_int (d : Int × Unit) : Bool × Unit :=
  let a0 : Int := d.1
  (a0 != a0, ())
theorem F_cmp_isNaN_int_tot (N : Nat) (d) : F_cmp_isNaN_int N d = some (g_cmp_isNaN_int d) := by
  unfold F_cmp_isNaN_int g_cmp_isNaN_int
  first
    | rfl
    | (dsimp only; (repeat' split) <;> rfl)
noncomputable def S_cmp_isNaN_int : FSig := ⟨[(I, false)], [.bool], true, (fun d => some (g_cmp_isNaN_int d))⟩
noncomputable def Γ_cmp_Compare_int : Ctx := { tk := assoc tks, ar := assoc ars, fs := assoc [(164, S_cmp_isNaN_int)] }
noncomputable def F_cmp_Compare_int (N : Nat) (d : Int × Int × Unit) : Option (Int × Unit) :=
  let a0 : Int := d.1
  let a1 : Int := d.2.1
  let r1 : Bool × Unit := g_cmp_isNaN_int (a0, ())
  let r2 : Bool × Unit := g_cmp_isNaN_int (a1, ())
  if (r1.1) = true then
    if (r2.1) = true then
      some ((0 : Int), ())
    else
      some ((-1 : Int), ())
  else
    if (r2.1) = true then
      some ((1 : Int), ())
    else
      if (decide (a0 < a1)) = true then
        some ((-1 : Int), ())
      else
        if (decide (a0 > a1)) = true then
          some ((1 : Int), ())
        else
          some ((0 : Int), ())
theorem F_cmp_Compare_int_ok (N : Nat) (d) : fnR Γ_cmp_Compare_int (assoc []) true [(I, false), (I, false)] [I] Try.f149.results.toList (bodyOf Try.f149) d = F_cmp_Compare_int N d := by kernel_rfl
noncomputable def g_cmp_Compare_int (d : Int × Int × Unit) : Int × Unit :=
  let a0 : Int := d.1
  let a1 : Int := d.2.1
  let r1 : Bool × Unit := g_cmp_isNaN_int (a0, ())
  let r2 : Bool × Unit := g_cmp_isNaN_int (a1, ())
  if (r1.1) = true then
    if (r2.1) = true then
      ((0 : Int), ())
    else
      ((-1 : Int), ())
  else
    if (r2.1) = true then
      ((1 : Int), ())
    else
      if (decide (a0 < a1)) = true then
        ((-1 : Int), ())
      else
        if (decide (a0 > a1)) = true then
          ((1 : Int), ())
        else
          ((0 : Int), ())
theorem F_cmp_Compare_int_tot (N : Nat) (d) : F_cmp_Compare_int N d = some (g_cmp_Compare_int d) := by
  unfold F_cmp_Compare_int g_cmp_Compare_int
  first
    | rfl
    | (dsimp only; (repeat' split) <;> rfl)
noncomputable def S_cmp_Compare_int : FSig := ⟨[(I, false), (I, false)], [I], true, (fun d => some (g_cmp_Compare_int d))⟩
noncomputable def Γ_slices_Compare_Sint_int : Ctx := { tk := assoc tks, ar := assoc ars, fs := assoc [(149, S_cmp_Compare_int)] }
abbrev slices_Compare_Sint_int_l0_H := List Int × List Int × List Int × Int × Int × Unit
abbrev slices_Compare_Sint_int_l0_O := (Int × Unit) ⊕ (List Int × List Int × Unit) ⊕ Empty
def slices_Compare_Sint_int_l0_h : Form := [(0, .v K_Si), (1, .v K_Si), (9, .v K_Si), (10, .v I), (11, .v I)]
def slices_Compare_Sint_int_l0_o : Outs := [(.ret, [(4, .v I)]), (.normal, [(0, .v K_Si), (1, .v K_Si)])]
noncomputable def slices_Compare_Sint_int_l0_r (N : Nat) (back : slices_Compare_Sint_int_l0_H → Option slices_Compare_Sint_int_l0_O) (d : slices_Compare_Sint_int_l0_H) : Option slices_Compare_Sint_int_l0_O :=
  let s0 : List Int := d.1
  let s1 : List Int := d.2.1
  let s9 : List Int := d.2.2.1
  let s10 : Int := d.2.2.2.1
  let s11 : Int := d.2.2.2.2.1
  if (decide (s11 < s10)) = true then
    if (idxIn s11 (List.length s9)) = true then
    if (decide (s11 ≥ (List.length s1 : Int))) = true then
      some (.inl ((1 : Int), ()))
    else
      if (idxIn s11 (List.length s1)) = true then
      let r6 : Int × Unit := g_cmp_Compare_int ((at_ I s9 s11.toNat, (at_ I s1 s11.toNat, ())))
      if (r6.1 != (0 : Int)) = true then
        some (.inl (r6.1, ()))
      else
        let x7 : Int := IntKind.wrap .i64 (s11 + (1 : Int))
        back ((s0, (s1, (s9, (s10, (x7, ()))))))
      else none
    else none
  else
    some (.inr (.inl ((s0, (s1, ())))))
noncomputable def slices_Compare_Sint_int_l0 (N : Nat) : Nat → slices_Compare_Sint_int_l0_H → Option slices_Compare_Sint_int_l0_O
  | 0, _ => none
  | k + 1, d => slices_Compare_Sint_int_l0_r N (slices_Compare_Sint_int_l0 N k) d
theorem slices_Compare_Sint_int_l0_ok (N : Nat) (back) (d) : roundR Γ_slices_Compare_Sint_int (assoc []) 0 slices_Compare_Sint_int_l0_h slices_Compare_Sint_int_l0_o (loopOf Try.f126 0) back d = slices_Compare_Sint_int_l0_r N back d := by kernel_rfl
noncomputable def F_slices_Compare_Sint_int (N : Nat) (d : List Int × List Int × Unit) : Option (Int × Unit) :=
  let a0 : List Int := d.1
  let a1 : List Int := d.2.1
  (slices_Compare_Sint_int_l0 N N ((a0, (a1, (a0, ((List.length a0 : Int), ((0 : Int), ()))))))).bind fun o3 => match o3 with
  | .inl d4 =>
    some (d4.1, ())
  | .inr (.inl d5) =>
    if (decide ((List.length d5.1 : Int) < (List.length d5.2.1 : Int))) = true then
      some ((-1 : Int), ())
    else
      some ((0 : Int), ())
theorem F_slices_Compare_Sint_int_ok (N : Nat) (d) : fnR Γ_slices_Compare_Sint_int (assoc [(0, ⟨slices_Compare_Sint_int_l0_h, slices_Compare_Sint_int_l0_o, slices_Compare_Sint_int_l0 N N⟩)]) true [(K_Si, false), (K_Si, false)] [I] Try.f126.results.toList (bodyOf Try.f126) d = F_slices_Compare_Sint_int N d := by kernel_rfl
noncomputable def S_slices_Compare_Sint_int : FSig := ⟨[(K_Si, false), (K_Si, false)], [I], true, (G_compare)⟩
noncomputable def Γ_impl_IsGraph : Ctx := { tk := assoc tks, ar := assoc ars, fs := assoc [(72, S_impl_within), (126, S_slices_Compare_Sint_int)] }
abbrev impl_IsGraph_l0_H := (Int × (List (Int × Int × Unit)) × Unit) × (List (Int × Int × Unit)) × Int × Int × Unit
abbrev impl_IsGraph_l0_O := (Bool × Unit) ⊕ Unit ⊕ Empty
def impl_IsGraph_l0_h : Form := [(1, .box K_PiSPiiqq 0), (10, .v K_SPiiq), (11, .v I), (12, .v I)]
def impl_IsGraph_l0_o : Outs := [(.ret, [(2, .v .bool)]), (.normal, [])]
noncomputable def impl_IsGraph_l0_r (N : Nat) (back : impl_IsGraph_l0_H → Option impl_IsGraph_l0_O) (d : impl_IsGraph_l0_H) : Option impl_IsGraph_l0_O :=
  let s1 : Int × (List (Int × Int × Unit)) × Unit := d.1
  let s10 : List (Int × Int × Unit) := d.2.1
  let s11 : Int := d.2.2.1
  let s12 : Int := d.2.2.2.1
  if (decide (s12 < s11)) = true then
    if (idxIn s12 (List.length s10)) = true then
    if (decide ((at_ K_Piiq s10 s12.toNat).1 < (0 : Int))) = true then
      some (.inl (false, ()))
    else
      if (decide ((at_ K_Piiq s10 s12.toNat).1 ≥ (at_ K_Piiq s10 s12.toNat).2.1)) = true then
        some (.inl (false, ()))
      else
        if (decide ((at_ K_Piiq s10 s12.toNat).2.1 ≥ s1.1)) = true then
          some (.inl (false, ()))
        else
          if (decide (s12 > (0 : Int))) = true then
            let x9 : Int := IntKind.wrap .i64 (s12 - (1 : Int))
            if (idxIn x9 (List.length s1.2.1)) = true then
            (G_compare (([(at_ K_Piiq s1.2.1 x9.toNat).1, (at_ K_Piiq s1.2.1 x9.toNat).2.1], ([(at_ K_Piiq s10 s12.toNat).1, (at_ K_Piiq s10 s12.toNat).2.1], ())))).bind fun r10 =>
            if (decide (r10.1 ≥ (0 : Int))) = true then
              some (.inl (false, ()))
            else
              let x11 : Int := IntKind.wrap .i64 (s12 + (1 : Int))
              back ((s1, (s10, (s11, (x11, ())))))
            else none
          else
            let x12 : Int := IntKind.wrap .i64 (s12 + (1 : Int))
            back ((s1, (s10, (s11, (x12, ())))))
    else none
  else
    some (.inr (.inl ()))
noncomputable def impl_IsGraph_l0 (N : Nat) : Nat → impl_IsGraph_l0_H → Option impl_IsGraph_l0_O
  | 0, _ => none
  | k + 1, d => impl_IsGraph_l0_r N (impl_IsGraph_l0 N k) d
theorem impl_IsGraph_l0_ok (N : Nat) (back) (d) : roundR Γ_impl_IsGraph (assoc []) 0 impl_IsGraph_l0_h impl_IsGraph_l0_o (loopOf Try.f76 0) back d = impl_IsGraph_l0_r N back d := by kernel_rfl
noncomputable def F_impl_IsGraph (N : Nat) (d : (Int × (List (Int × Int × Unit)) × Unit) × Unit) : Option (Bool × Unit) :=
  let a0 : Int × (List (Int × Int × Unit)) × Unit := d.1
  let r1 : Bool × Unit := g_impl_within ((a0.1, ((0 : Int), ((8 : Int), ()))))
  if (!r1.1) = true then
    some (false, ())
  else
    (impl_IsGraph_l0 N N ((a0, (a0.2.1, ((List.length a0.2.1 : Int), ((0 : Int), ())))))).bind fun o6 => match o6 with
    | .inl d7 =>
      some (d7.1, ())
    | .inr (.inl d8) =>
      some (true, ())
theorem F_impl_IsGraph_ok (N : Nat) (d) : fnR Γ_impl_IsGraph (assoc [(0, ⟨impl_IsGraph_l0_h, impl_IsGraph_l0_o, impl_IsGraph_l0 N N⟩)]) true [(K_PiSPiiqq, false)] [.bool] Try.f76.results.toList (bodyOf Try.f76) d = F_impl_IsGraph N d := by kernel_rfl
noncomputable def S_impl_IsGraph : FSig := ⟨[(K_PiSPiiqq, false)], [.bool], true, (G_graph)⟩
noncomputable def Γ_impl_allWithin : Ctx := { tk := assoc tks, ar := assoc ars, fs := assoc [(72, S_impl_within)] }
abbrev impl_allWithin_l0_H := Int × Int × List Int × Int × Int × Unit
abbrev impl_allWithin_l0_O := (Bool × Unit) ⊕ Unit ⊕ Empty
def impl_allWithin_l0_h : Form := [(1, .v I), (2, .v I), (9, .v K_Si), (10, .v I), (11, .v I)]
def impl_allWithin_l0_o : Outs := [(.ret, [(6, .v .bool)]), (.normal, [])]
noncomputable def impl_allWithin_l0_r (N : Nat) (back : impl_allWithin_l0_H → Option impl_allWithin_l0_O) (d : impl_allWithin_l0_H) : Option impl_allWithin_l0_O :=
  let s1 : Int := d.1
  let s2 : Int := d.2.1
  let s9 : List Int := d.2.2.1
  let s10 : Int := d.2.2.2.1
  let s11 : Int := d.2.2.2.2.1
  if (decide (s11 < s10)) = true then
    if (idxIn s11 (List.length s9)) = true then
    let r6 : Bool × Unit := g_impl_within ((at_ I s9 s11.toNat, (s1, (s2, ()))))
    if (!r6.1) = true then
      some (.inl (false, ()))
    else
      let x7 : Int := IntKind.wrap .i64 (s11 + (1 : Int))
      back ((s1, (s2, (s9, (s10, (x7, ()))))))
    else none
  else
    some (.inr (.inl ()))
noncomputable def impl_allWithin_l0 (N : Nat) : Nat → impl_allWithin_l0_H → Option impl_allWithin_l0_O
  | 0, _ => none
  | k + 1, d => impl_allWithin_l0_r N (impl_allWithin_l0 N k) d
theorem impl_allWithin_l0_ok (N : Nat) (back) (d) : roundR Γ_impl_allWithin (assoc []) 0 impl_allWithin_l0_h impl_allWithin_l0_o (loopOf Try.f86 0) back d = impl_allWithin_l0_r N back d := by kernel_rfl
noncomputable def F_impl_allWithin (N : Nat) (d : List Int × Int × Int × Unit) : Option (Bool × Unit) :=
  let a0 : List Int := d.1
  let a1 : Int := d.2.1
  let a2 : Int := d.2.2.1
  (impl_allWithin_l0 N N ((a1, (a2, (a0, ((List.length a0 : Int), ((0 : Int), ()))))))).bind fun o3 => match o3 with
  | .inl d4 =>
    some (d4.1, ())
  | .inr (.inl d5) =>
    some (true, ())
theorem F_impl_allWithin_ok (N : Nat) (d) : fnR Γ_impl_allWithin (assoc [(0, ⟨impl_allWithin_l0_h, impl_allWithin_l0_o, impl_allWithin_l0 N N⟩)]) true [(K_Si, false), (I, false), (I, false)] [.bool] Try.f86.results.toList (bodyOf Try.f86) d = F_impl_allWithin N d := by kernel_rfl
noncomputable def S_impl_allWithin : FSig := ⟨[(K_Si, false), (I, false), (I, false)], [.bool], true, (G_allWithin)⟩
noncomputable def Γ_impl_hasNodes : Ctx := { tk := assoc tks, ar := assoc ars, fs := assoc [(76, S_impl_IsGraph), (86, S_impl_allWithin)] }
noncomputable def F_impl_hasNodes (N : Nat) (d : (Int × (List (Int × Int × Unit)) × Unit) × List Int × Unit) : Option (Bool × Unit) :=
  let a0 : Int × (List (Int × Int × Unit)) × Unit := d.1
  let a1 : List Int := d.2.1
  (G_graph (a0, ())).bind fun r1 =>
  if (r1.1) = true then
    let x2 : Int := IntKind.wrap .i64 (a0.1 - (1 : Int))
    (G_allWithin ((a1, ((0 : Int), (x2, ()))))).bind fun r3 =>
    some (r3.1, ())
  else
    some (false, ())
theorem F_impl_hasNodes_ok (N : Nat) (d) : fnR Γ_impl_hasNodes (assoc []) true [(K_PiSPiiqq, false), (K_Si, false)] [.bool] Try.f123.results.toList (bodyOf Try.f123) d = F_impl_hasNodes N d := by kernel_rfl
noncomputable def S_impl_hasNodes : FSig := ⟨[(K_PiSPiiqq, false), (K_Si, false)], [.bool], true, (F_impl_hasNodes 0)⟩
noncomputable def Γ_impl_increasing : Ctx := { tk := assoc tks, ar := assoc ars, fs := assoc [] }
abbrev impl_increasing_l0_H := List Int × Int × Unit
abbrev impl_increasing_l0_O := (Bool × Unit) ⊕ Unit ⊕ Empty
def impl_increasing_l0_h : Form := [(0, .v K_Si), (3, .v I)]
def impl_increasing_l0_o : Outs := [(.ret, [(2, .v .bool)]), (.normal, [])]
noncomputable def impl_increasing_l0_r (N : Nat) (back : impl_increasing_l0_H → Option impl_increasing_l0_O) (d : impl_increasing_l0_H) : Option impl_increasing_l0_O :=
  let s0 : List Int := d.1
  let s3 : Int := d.2.1
  if (decide (s3 < (List.length s0 : Int))) = true then
    let x6 : Int := IntKind.wrap .i64 (s3 - (1 : Int))
    if (idxIn x6 (List.length s0)) = true then
    if (idxIn s3 (List.length s0)) = true then
    if (decide (at_ I s0 x6.toNat ≥ at_ I s0 s3.toNat)) = true then
      some (.inl (false, ()))
    else
      let x7 : Int := IntKind.wrap .i64 (s3 + (1 : Int))
      back ((s0, (x7, ())))
    else none
    else none
  else
    some (.inr (.inl ()))
noncomputable def impl_increasing_l0 (N : Nat) : Nat → impl_increasing_l0_H → Option impl_increasing_l0_O
  | 0, _ => none
  | k + 1, d => impl_increasing_l0_r N (impl_increasing_l0 N k) d
theorem impl_increasing_l0_ok (N : Nat) (back) (d) : roundR Γ_impl_increasing (assoc []) 0 impl_increasing_l0_h impl_increasing_l0_o (loopOf Try.f85 0) back d = impl_increasing_l0_r N back d := by kernel_rfl
noncomputable def F_impl_increasing (N : Nat) (d : List Int × Unit) : Option (Bool × Unit) :=
  let a0 : List Int := d.1
  (impl_increasing_l0 N N ((a0, ((1 : Int), ())))).bind fun o3 => match o3 with
  | .inl d4 =>
    some (d4.1, ())
  | .inr (.inl d5) =>
    some (true, ())
theorem F_impl_increasing_ok (N : Nat) (d) : fnR Γ_impl_increasing (assoc [(0, ⟨impl_increasing_l0_h, impl_increasing_l0_o, impl_increasing_l0 N N⟩)]) true [(K_Si, false)] [.bool] Try.f85.results.toList (bodyOf Try.f85) d = F_impl_increasing N d := by kernel_rfl
noncomputable def S_impl_increasing : FSig := ⟨[(K_Si, false)], [.bool], true, (G_increasing)⟩
noncomputable def Γ_impl_isSet : Ctx := { tk := assoc tks, ar := assoc ars, fs := assoc [(85, S_impl_increasing), (123, S_impl_hasNodes)] }
noncomputable def F_impl_isSet (N : Nat) (d : (Int × (List (Int × Int × Unit)) × Unit) × List Int × Unit) : Option (Bool × Unit) :=
  let a0 : Int × (List (Int × Int × Unit)) × Unit := d.1
  let a1 : List Int := d.2.1
  ((F_impl_hasNodes 0) ((a0, (a1, ())))).bind fun r1 =>
  if (r1.1) = true then
    (G_increasing (a1, ())).bind fun r2 =>
    some (r2.1, ())
  else
    some (false, ())
theorem F_impl_isSet_ok (N : Nat) (d) : fnR Γ_impl_isSet (assoc []) true [(K_PiSPiiqq, false), (K_Si, false)] [.bool] Try.f71.results.toList (bodyOf Try.f71) d = F_impl_isSet N d := by kernel_rfl
noncomputable def S_impl_isSet : FSig := ⟨[(K_PiSPiiqq, false), (K_Si, false)], [.bool], true, (F_impl_isSet 0)⟩
noncomputable def Γ_impl_IsWorkshop : Ctx := { tk := assoc tks, ar := assoc ars, fs := assoc [(71, S_impl_isSet), (72, S_impl_within)] }
noncomputable def F_impl_IsWorkshop (N : Nat) (d : ((Int × (List (Int × Int × Unit)) × Unit) × Int × Int × List Int × Int × Unit) × Unit) : Option (Bool × Unit) :=
  let a0 : (Int × (List (Int × Int × Unit)) × Unit) × Int × Int × List Int × Int × Unit := d.1
  ((F_impl_isSet 0) ((a0.1, (a0.2.2.2.1, ())))).bind fun r1 =>
  if (r1.1) = true then
    let x2 : Int := IntKind.wrap .i64 (a0.1.1 - (1 : Int))
    let r3 : Bool × Unit := g_impl_within ((a0.2.1, ((-1 : Int), (x2, ()))))
    if (r3.1) = true then
      let x4 : Int := IntKind.wrap .i64 (a0.1.1 - (1 : Int))
      let r5 : Bool × Unit := g_impl_within ((a0.2.2.1, ((-1 : Int), (x4, ()))))
      if (r5.1) = true then
        let r6 : Bool × Unit := g_impl_within ((a0.2.2.2.2.1, ((0 : Int), ((1000 : Int), ()))))
        some (r6.1, ())
      else
        some (false, ())
    else
      some (false, ())
  else
    some (false, ())
theorem F_impl_IsWorkshop_ok (N : Nat) (d) : fnR Γ_impl_IsWorkshop (assoc []) true [(K_PPiSPiiqqiiSiiq, false)] [.bool] Try.f22.results.toList (bodyOf Try.f22) d = F_impl_IsWorkshop N d := by kernel_rfl
noncomputable def S_impl_IsWorkshop : FSig := ⟨[(K_PPiSPiiqqiiSiiq, false)], [.bool], true, (F_impl_IsWorkshop 0)⟩
noncomputable def Γ_slices_Clone_S_2_int_2_int : Ctx := { tk := assoc tks, ar := assoc ars, fs := assoc [] }
noncomputable def F_slices_Clone_S_2_int_2_int (N : Nat) (d : (List (Int × Int × Unit)) × Unit) : Option ((List (Int × Int × Unit)) × Unit) :=
  let a0 : List (Int × Int × Unit) := d.1
  if (decide (List.length a0 = 0)) = true then
    both (
        some ((([] : List (Int × Int × Unit)), ()))) (
        if (decide (List.length ([] : List (Int × Int × Unit)) + List.length a0 ≤ lim)) = true then
        let x1 : List (Int × Int × Unit) := ([] : List (Int × Int × Unit)) ++ a0
        some (x1, ())
        else none)
  else
    if (decide (List.length ([] : List (Int × Int × Unit)) + List.length a0 ≤ lim)) = true then
    let x2 : List (Int × Int × Unit) := ([] : List (Int × Int × Unit)) ++ a0
    some (x2, ())
    else none
theorem F_slices_Clone_S_2_int_2_int_ok (N : Nat) (d) : fnR Γ_slices_Clone_S_2_int_2_int (assoc []) true [(K_SPiiq, false)] [K_SPiiq] Try.f77.results.toList (bodyOf Try.f77) d = F_slices_Clone_S_2_int_2_int N d := by kernel_rfl
noncomputable def S_slices_Clone_S_2_int_2_int : FSig := ⟨[(K_SPiiq, false)], [K_SPiiq], true, (G_toIntA2S)⟩
noncomputable def Γ_slices_Clone_Sint_int : Ctx := { tk := assoc tks, ar := assoc ars, fs := assoc [] }
noncomputable def F_slices_Clone_Sint_int (N : Nat) (d : List Int × Unit) : Option (List Int × Unit) :=
  let a0 : List Int := d.1
  if (decide (List.length a0 = 0)) = true then
    both (
        some (([] : List Int), ())) (
        if (decide (List.length ([] : List Int) + List.length a0 ≤ lim)) = true then
        some (([] : List Int) ++ a0, ())
        else none)
  else
    if (decide (List.length ([] : List Int) + List.length a0 ≤ lim)) = true then
    some (([] : List Int) ++ a0, ())
    else none
theorem F_slices_Clone_Sint_int_ok (N : Nat) (d) : fnR Γ_slices_Clone_Sint_int (assoc []) true [(K_Si, false)] [K_Si] Try.f130.results.toList (bodyOf Try.f130) d = F_slices_Clone_Sint_int N d := by kernel_rfl
noncomputable def S_slices_Clone_Sint_int : FSig := ⟨[(K_Si, false)], [K_Si], true, (G_toIntS)⟩
def S_impl_cloneWorkshop : FSig := ⟨[(K_PPiSPiiqqiiSiiq, false)], [K_PPiSPiiqqiiSiiq], true, G_cloneWs⟩
noncomputable def Γ_impl_NewConsole : Ctx := { tk := assoc tks, ar := assoc ars, fs := assoc [(22, S_impl_IsWorkshop), (91, S_impl_cloneWorkshop)] }
noncomputable def F_impl_NewConsole (N : Nat) (d : ((Int × (List (Int × Int × Unit)) × Unit) × Int × Int × List Int × Int × Unit) × Unit) : Option ((((Int × (List (Int × Int × Unit)) × Unit) × Int × Int × List Int × Int × Unit) × (ByteArray × ByteArray × Int × Unit) × Unit) × Bool × Unit) :=
  let a0 : (Int × (List (Int × Int × Unit)) × Unit) × Int × Int × List Int × Int × Unit := d.1
  ((F_impl_IsWorkshop 0) (a0, ())).bind fun r1 =>
  if (!r1.1) = true then
    some ((((((0 : Int), (([] : List (Int × Int × Unit)), ())), ((0 : Int), ((0 : Int), (([] : List Int), ((0 : Int), ()))))), ((ByteArray.empty, (ByteArray.empty, ((0 : Int), ()))), ())), (false, ())))
  else
    (G_cloneWs (a0, ())).bind fun r2 =>
    some (((r2.1, ((ByteArray.empty, (ByteArray.empty, ((0 : Int), ()))), ())), (true, ())))
theorem F_impl_NewConsole_ok (N : Nat) (d) : fnR Γ_impl_NewConsole (assoc []) true [(K_PPiSPiiqqiiSiiq, false)] [K_PPPiSPiiqqiiSiiqPssiqq, .bool] Try.f42.results.toList (bodyOf Try.f42) d = F_impl_NewConsole N d := by kernel_rfl
noncomputable def S_impl_NewConsole : FSig := ⟨[(K_PPiSPiiqqiiSiiq, false)], [K_PPPiSPiiqqiiSiiqPssiqq, .bool], true, (F_impl_NewConsole 0)⟩
noncomputable def Γ_laws_eqIntA2 : Ctx := { tk := assoc tks, ar := assoc ars, fs := assoc [] }
abbrev laws_eqIntA2_l0_H := (Int × Int × Unit) × (Int × Int × Unit) × Int × Unit
abbrev laws_eqIntA2_l0_O := (Bool × Unit) ⊕ Unit ⊕ Empty
def laws_eqIntA2_l0_h : Form := [(2, .box K_Piiq 99), (3, .box K_Piiq 99), (5, .v I)]
def laws_eqIntA2_l0_o : Outs := [(.ret, [(4, .v .bool)]), (.normal, [])]
noncomputable def laws_eqIntA2_l0_r (N : Nat) (back : laws_eqIntA2_l0_H → Option laws_eqIntA2_l0_O) (d : laws_eqIntA2_l0_H) : Option laws_eqIntA2_l0_O :=
  let s2 : Int × Int × Unit := d.1
  let s3 : Int × Int × Unit := d.2.1
  let s5 : Int := d.2.2.1
  if (decide (s5 < (2 : Int))) = true then
    if (s5 == (0 : Int)) = true then
      if (s5 == (0 : Int)) = true then
        if (s2.1 != s3.1) = true then
          some (.inl (false, ()))
        else
          let x11 : Int := IntKind.wrap .i64 (s5 + (1 : Int))
          back ((s2, (s3, (x11, ()))))
      else
        if (s5 == (1 : Int)) = true then
        if (s2.1 != s3.2.1) = true then
          some (.inl (false, ()))
        else
          let x10 : Int := IntKind.wrap .i64 (s5 + (1 : Int))
          back ((s2, (s3, (x10, ()))))
        else none
    else
      if (s5 == (1 : Int)) = true then
      if (s5 == (0 : Int)) = true then
        if (s2.2.1 != s3.1) = true then
          some (.inl (false, ()))
        else
          let x9 : Int := IntKind.wrap .i64 (s5 + (1 : Int))
          back ((s2, (s3, (x9, ()))))
      else
        if (s5 == (1 : Int)) = true then
        if (s2.2.1 != s3.2.1) = true then
          some (.inl (false, ()))
        else
          let x8 : Int := IntKind.wrap .i64 (s5 + (1 : Int))
          back ((s2, (s3, (x8, ()))))
        else none
      else none
  else
    some (.inr (.inl ()))
noncomputable def laws_eqIntA2_l0 (N : Nat) : Nat → laws_eqIntA2_l0_H → Option laws_eqIntA2_l0_O
  | 0, _ => none
  | k + 1, d => laws_eqIntA2_l0_r N (laws_eqIntA2_l0 N k) d
theorem laws_eqIntA2_l0_ok (N : Nat) (back) (d) : roundR Γ_laws_eqIntA2 (assoc []) 0 laws_eqIntA2_l0_h laws_eqIntA2_l0_o (loopOf Try.f127 0) back d = laws_eqIntA2_l0_r N back d := by kernel_rfl
noncomputable def F_laws_eqIntA2 (N : Nat) (d : (Int × Int × Unit) × (Int × Int × Unit) × Unit) : Option (Bool × Unit) :=
  let a0 : Int × Int × Unit := d.1
  let a1 : Int × Int × Unit := d.2.1
  (laws_eqIntA2_l0 N N ((a0, (a1, ((0 : Int), ()))))).bind fun o5 => match o5 with
  | .inl d6 =>
    some (d6.1, ())
  | .inr (.inl d7) =>
    some (true, ())
theorem F_laws_eqIntA2_ok (N : Nat) (d) : fnR Γ_laws_eqIntA2 (assoc [(0, ⟨laws_eqIntA2_l0_h, laws_eqIntA2_l0_o, laws_eqIntA2_l0 N N⟩)]) true [(K_Piiq, false), (K_Piiq, false)] [.bool] Try.f127.results.toList (bodyOf Try.f127) d = F_laws_eqIntA2 N d := by kernel_rfl
noncomputable def S_laws_eqIntA2 : FSig := ⟨[(K_Piiq, false), (K_Piiq, false)], [.bool], true, (G_eqIntA2)⟩
noncomputable def Γ_laws_eqIntA2S : Ctx := { tk := assoc tks, ar := assoc ars, fs := assoc [(127, S_laws_eqIntA2)] }
abbrev laws_eqIntA2S_l0_H := (List (Int × Int × Unit)) × (List (Int × Int × Unit)) × Int × Unit
abbrev laws_eqIntA2S_l0_O := (Bool × Unit) ⊕ Unit ⊕ Empty
def laws_eqIntA2S_l0_h : Form := [(0, .v K_SPiiq), (1, .v K_SPiiq), (5, .v I)]
def laws_eqIntA2S_l0_o : Outs := [(.ret, [(4, .v .bool)]), (.normal, [])]
noncomputable def laws_eqIntA2S_l0_r (N : Nat) (back : laws_eqIntA2S_l0_H → Option laws_eqIntA2S_l0_O) (d : laws_eqIntA2S_l0_H) : Option laws_eqIntA2S_l0_O :=
  let s0 : List (Int × Int × Unit) := d.1
  let s1 : List (Int × Int × Unit) := d.2.1
  let s5 : Int := d.2.2.1
  if (decide (s5 < (List.length s0 : Int))) = true then
    if (idxIn s5 (List.length s0)) = true then
    if (idxIn s5 (List.length s1)) = true then
    (G_eqIntA2 ((at_ K_Piiq s0 s5.toNat, (at_ K_Piiq s1 s5.toNat, ())))).bind fun r6 =>
    if (!r6.1) = true then
      some (.inl (false, ()))
    else
      let x7 : Int := IntKind.wrap .i64 (s5 + (1 : Int))
      back ((s0, (s1, (x7, ()))))
    else none
    else none
  else
    some (.inr (.inl ()))
noncomputable def laws_eqIntA2S_l0 (N : Nat) : Nat → laws_eqIntA2S_l0_H → Option laws_eqIntA2S_l0_O
  | 0, _ => none
  | k + 1, d => laws_eqIntA2S_l0_r N (laws_eqIntA2S_l0 N k) d
theorem laws_eqIntA2S_l0_ok (N : Nat) (back) (d) : roundR Γ_laws_eqIntA2S (assoc []) 0 laws_eqIntA2S_l0_h laws_eqIntA2S_l0_o (loopOf Try.f78 0) back d = laws_eqIntA2S_l0_r N back d := by kernel_rfl
noncomputable def F_laws_eqIntA2S (N : Nat) (d : (List (Int × Int × Unit)) × (List (Int × Int × Unit)) × Unit) : Option (Bool × Unit) :=
  let a0 : List (Int × Int × Unit) := d.1
  let a1 : List (Int × Int × Unit) := d.2.1
  if ((List.length a0 : Int) != (List.length a1 : Int)) = true then
    some (false, ())
  else
    (laws_eqIntA2S_l0 N N ((a0, (a1, ((0 : Int), ()))))).bind fun o3 => match o3 with
    | .inl d4 =>
      some (d4.1, ())
    | .inr (.inl d5) =>
      some (true, ())
theorem F_laws_eqIntA2S_ok (N : Nat) (d) : fnR Γ_laws_eqIntA2S (assoc [(0, ⟨laws_eqIntA2S_l0_h, laws_eqIntA2S_l0_o, laws_eqIntA2S_l0 N N⟩)]) true [(K_SPiiq, false), (K_SPiiq, false)] [.bool] Try.f78.results.toList (bodyOf Try.f78) d = F_laws_eqIntA2S N d := by kernel_rfl
noncomputable def S_laws_eqIntA2S : FSig := ⟨[(K_SPiiq, false), (K_SPiiq, false)], [.bool], true, (G_eqIntA2S)⟩
noncomputable def Γ_laws_eqGraph : Ctx := { tk := assoc tks, ar := assoc ars, fs := assoc [(78, S_laws_eqIntA2S)] }
noncomputable def F_laws_eqGraph (N : Nat) (d : (Int × (List (Int × Int × Unit)) × Unit) × (Int × (List (Int × Int × Unit)) × Unit) × Unit) : Option (Bool × Unit) :=
  let a0 : Int × (List (Int × Int × Unit)) × Unit := d.1
  let a1 : Int × (List (Int × Int × Unit)) × Unit := d.2.1
  if (a0.1 != a1.1) = true then
    some (false, ())
  else
    (G_eqIntA2S ((a0.2.1, (a1.2.1, ())))).bind fun r1 =>
    if (!r1.1) = true then
      some (false, ())
    else
      some (true, ())
theorem F_laws_eqGraph_ok (N : Nat) (d) : fnR Γ_laws_eqGraph (assoc []) true [(K_PiSPiiqq, false), (K_PiSPiiqq, false)] [.bool] Try.f28.results.toList (bodyOf Try.f28) d = F_laws_eqGraph N d := by kernel_rfl
noncomputable def S_laws_eqGraph : FSig := ⟨[(K_PiSPiiqq, false), (K_PiSPiiqq, false)], [.bool], true, (F_laws_eqGraph 0)⟩
noncomputable def Γ_laws_eqIntS : Ctx := { tk := assoc tks, ar := assoc ars, fs := assoc [] }
abbrev laws_eqIntS_l0_H := List Int × List Int × Int × Unit
abbrev laws_eqIntS_l0_O := (Bool × Unit) ⊕ Unit ⊕ Empty
def laws_eqIntS_l0_h : Form := [(0, .v K_Si), (1, .v K_Si), (5, .v I)]
def laws_eqIntS_l0_o : Outs := [(.ret, [(4, .v .bool)]), (.normal, [])]
noncomputable def laws_eqIntS_l0_r (N : Nat) (back : laws_eqIntS_l0_H → Option laws_eqIntS_l0_O) (d : laws_eqIntS_l0_H) : Option laws_eqIntS_l0_O :=
  let s0 : List Int := d.1
  let s1 : List Int := d.2.1
  let s5 : Int := d.2.2.1
  if (decide (s5 < (List.length s0 : Int))) = true then
    if (idxIn s5 (List.length s0)) = true then
    if (idxIn s5 (List.length s1)) = true then
    if (at_ I s0 s5.toNat != at_ I s1 s5.toNat) = true then
      some (.inl (false, ()))
    else
      let x5 : Int := IntKind.wrap .i64 (s5 + (1 : Int))
      back ((s0, (s1, (x5, ()))))
    else none
    else none
  else
    some (.inr (.inl ()))
noncomputable def laws_eqIntS_l0 (N : Nat) : Nat → laws_eqIntS_l0_H → Option laws_eqIntS_l0_O
  | 0, _ => none
  | k + 1, d => laws_eqIntS_l0_r N (laws_eqIntS_l0 N k) d
theorem laws_eqIntS_l0_ok (N : Nat) (back) (d) : roundR Γ_laws_eqIntS (assoc []) 0 laws_eqIntS_l0_h laws_eqIntS_l0_o (loopOf Try.f53 0) back d = laws_eqIntS_l0_r N back d := by kernel_rfl
noncomputable def F_laws_eqIntS (N : Nat) (d : List Int × List Int × Unit) : Option (Bool × Unit) :=
  let a0 : List Int := d.1
  let a1 : List Int := d.2.1
  if ((List.length a0 : Int) != (List.length a1 : Int)) = true then
    some (false, ())
  else
    (laws_eqIntS_l0 N N ((a0, (a1, ((0 : Int), ()))))).bind fun o2 => match o2 with
    | .inl d3 =>
      some (d3.1, ())
    | .inr (.inl d4) =>
      some (true, ())
theorem F_laws_eqIntS_ok (N : Nat) (d) : fnR Γ_laws_eqIntS (assoc [(0, ⟨laws_eqIntS_l0_h, laws_eqIntS_l0_o, laws_eqIntS_l0 N N⟩)]) true [(K_Si, false), (K_Si, false)] [.bool] Try.f53.results.toList (bodyOf Try.f53) d = F_laws_eqIntS N d := by kernel_rfl
noncomputable def S_laws_eqIntS : FSig := ⟨[(K_Si, false), (K_Si, false)], [.bool], true, (G_eqIntS)⟩
noncomputable def Γ_laws_eqWorkshop : Ctx := { tk := assoc tks, ar := assoc ars, fs := assoc [(28, S_laws_eqGraph), (53, S_laws_eqIntS)] }
noncomputable def F_laws_eqWorkshop (N : Nat) (d : ((Int × (List (Int × Int × Unit)) × Unit) × Int × Int × List Int × Int × Unit) × ((Int × (List (Int × Int × Unit)) × Unit) × Int × Int × List Int × Int × Unit) × Unit) : Option (Bool × Unit) :=
  let a0 : (Int × (List (Int × Int × Unit)) × Unit) × Int × Int × List Int × Int × Unit := d.1
  let a1 : (Int × (List (Int × Int × Unit)) × Unit) × Int × Int × List Int × Int × Unit := d.2.1
  ((F_laws_eqGraph 0) ((a0.1, (a1.1, ())))).bind fun r1 =>
  if (!r1.1) = true then
    some (false, ())
  else
    if (a0.2.1 != a1.2.1) = true then
      some (false, ())
    else
      if (a0.2.2.1 != a1.2.2.1) = true then
        some (false, ())
      else
        (G_eqIntS ((a0.2.2.2.1, (a1.2.2.2.1, ())))).bind fun r2 =>
        if (!r2.1) = true then
          some (false, ())
        else
          if (a0.2.2.2.2.1 != a1.2.2.2.2.1) = true then
            some (false, ())
          else
            some (true, ())
theorem F_laws_eqWorkshop_ok (N : Nat) (d) : fnR Γ_laws_eqWorkshop (assoc []) true [(K_PPiSPiiqqiiSiiq, false), (K_PPiSPiiqqiiSiiq, false)] [.bool] Try.f23.results.toList (bodyOf Try.f23) d = F_laws_eqWorkshop N d := by kernel_rfl
noncomputable def S_laws_eqWorkshop : FSig := ⟨[(K_PPiSPiiqqiiSiiq, false), (K_PPiSPiiqqiiSiiq, false)], [.bool], true, (F_laws_eqWorkshop 0)⟩
noncomputable def Γ_laws_eqLog : Ctx := { tk := assoc tks, ar := assoc ars, fs := assoc [] }
noncomputable def F_laws_eqLog (N : Nat) (d : (ByteArray × ByteArray × Int × Unit) × (ByteArray × ByteArray × Int × Unit) × Unit) : Option (Bool × Unit) :=
  let a0 : ByteArray × ByteArray × Int × Unit := d.1
  let a1 : ByteArray × ByteArray × Int × Unit := d.2.1
  if (!seq_ a0.1 a1.1) = true then
    some (false, ())
  else
    if (!seq_ a0.2.1 a1.2.1) = true then
      some (false, ())
    else
      if (a0.2.2.1 != a1.2.2.1) = true then
        some (false, ())
      else
        some (true, ())
theorem F_laws_eqLog_ok (N : Nat) (d) : fnR Γ_laws_eqLog (assoc []) true [(K_Pssiq, false), (K_Pssiq, false)] [.bool] Try.f92.results.toList (bodyOf Try.f92) d = F_laws_eqLog N d := by kernel_rfl
noncomputable def g_laws_eqLog (d : (ByteArray × ByteArray × Int × Unit) × (ByteArray × ByteArray × Int × Unit) × Unit) : Bool × Unit :=
  let a0 : ByteArray × ByteArray × Int × Unit := d.1
  let a1 : ByteArray × ByteArray × Int × Unit := d.2.1
  if (!seq_ a0.1 a1.1) = true then
    (false, ())
  else
    if (!seq_ a0.2.1 a1.2.1) = true then
      (false, ())
    else
      if (a0.2.2.1 != a1.2.2.1) = true then
        (false, ())
      else
        (true, ())
theorem F_laws_eqLog_tot (N : Nat) (d) : F_laws_eqLog N d = some (g_laws_eqLog d) := by
  unfold F_laws_eqLog g_laws_eqLog
  first
    | rfl
    | (dsimp only; (repeat' split) <;> rfl)
noncomputable def S_laws_eqLog : FSig := ⟨[(K_Pssiq, false), (K_Pssiq, false)], [.bool], true, (fun d => some (g_laws_eqLog d))⟩
noncomputable def Γ_laws_eqConsole : Ctx := { tk := assoc tks, ar := assoc ars, fs := assoc [(23, S_laws_eqWorkshop), (92, S_laws_eqLog)] }
noncomputable def F_laws_eqConsole (N : Nat) (d : (((Int × (List (Int × Int × Unit)) × Unit) × Int × Int × List Int × Int × Unit) × (ByteArray × ByteArray × Int × Unit) × Unit) × (((Int × (List (Int × Int × Unit)) × Unit) × Int × Int × List Int × Int × Unit) × (ByteArray × ByteArray × Int × Unit) × Unit) × Unit) : Option (Bool × Unit) :=
  let a0 : ((Int × (List (Int × Int × Unit)) × Unit) × Int × Int × List Int × Int × Unit) × (ByteArray × ByteArray × Int × Unit) × Unit := d.1
  let a1 : ((Int × (List (Int × Int × Unit)) × Unit) × Int × Int × List Int × Int × Unit) × (ByteArray × ByteArray × Int × Unit) × Unit := d.2.1
  ((F_laws_eqWorkshop 0) ((a0.1, (a1.1, ())))).bind fun r1 =>
  if (!r1.1) = true then
    some (false, ())
  else
    let r2 : Bool × Unit := g_laws_eqLog ((a0.2.1, (a1.2.1, ())))
    if (!r2.1) = true then
      some (false, ())
    else
      some (true, ())
theorem F_laws_eqConsole_ok (N : Nat) (d) : fnR Γ_laws_eqConsole (assoc []) true [(K_PPPiSPiiqqiiSiiqPssiqq, false), (K_PPPiSPiiqqiiSiiqPssiqq, false)] [.bool] Try.f43.results.toList (bodyOf Try.f43) d = F_laws_eqConsole N d := by kernel_rfl
noncomputable def S_laws_eqConsole : FSig := ⟨[(K_PPPiSPiiqqiiSiiqPssiqq, false), (K_PPPiSPiiqqiiSiiqPssiqq, false)], [.bool], true, (F_laws_eqConsole 0)⟩
noncomputable def Γ_laws_markIntA2S : Ctx := { tk := assoc tks, ar := assoc ars, fs := assoc [], lent := fun t => Nat.beq t 0 }
abbrev laws_markIntA2S_l2_H := (List (Int × Int × Unit)) × Int × Int × Int × Unit
abbrev laws_markIntA2S_l2_O := ((List (Int × Int × Unit)) × Int × Int × Unit) ⊕ Empty
def laws_markIntA2S_l2_h : Form := [(0, .own K_SPiiq 1), (1, .v I), (5, .v I), (6, .v I)]
def laws_markIntA2S_l2_o : Outs := [(.normal, [(0, .own K_SPiiq 1), (1, .v I), (5, .v I)])]
noncomputable def laws_markIntA2S_l2_r (N : Nat) (back : laws_markIntA2S_l2_H → Option laws_markIntA2S_l2_O) (d : laws_markIntA2S_l2_H) : Option laws_markIntA2S_l2_O :=
  let s0 : List (Int × Int × Unit) := d.1
  let s1 : Int := d.2.1
  let s5 : Int := d.2.2.1
  let s6 : Int := d.2.2.2.1
  if (decide (s6 < (2 : Int))) = true then
    if (idxIn s5 (List.length s0)) = true then
    if (s6 == (0 : Int)) = true then
      let x24 : List (Int × Int × Unit) := List.set s0 s5.toNat (s1, (at_ K_Piiq s0 s5.toNat).2)
      let x25 : Int := IntKind.wrap .i64 (s1 + (1 : Int))
      let x26 : Int := IntKind.wrap .i64 (s6 + (1 : Int))
      back ((x24, (x25, (s5, (x26, ())))))
    else
      if (s6 == (1 : Int)) = true then
      let x21 : List (Int × Int × Unit) := List.set s0 s5.toNat (((at_ K_Piiq s0 s5.toNat).1, (s1, (at_ K_Piiq s0 s5.toNat).2.2)))
      let x22 : Int := IntKind.wrap .i64 (s1 + (1 : Int))
      let x23 : Int := IntKind.wrap .i64 (s6 + (1 : Int))
      back ((x21, (x22, (s5, (x23, ())))))
      else none
    else none
  else
    some (.inl ((s0, (s1, (s5, ())))))
noncomputable def laws_markIntA2S_l2 (N : Nat) : Nat → laws_markIntA2S_l2_H → Option laws_markIntA2S_l2_O
  | 0, _ => none
  | k + 1, d => laws_markIntA2S_l2_r N (laws_markIntA2S_l2 N k) d
theorem laws_markIntA2S_l2_ok (N : Nat) (back) (d) : roundR Γ_laws_markIntA2S (assoc []) 2 laws_markIntA2S_l2_h laws_markIntA2S_l2_o (loopOf Try.f79 2) back d = laws_markIntA2S_l2_r N back d := by kernel_rfl
abbrev laws_markIntA2S_l0_H := (List (Int × Int × Unit)) × Int × Int × Unit
abbrev laws_markIntA2S_l0_O := ((List (Int × Int × Unit)) × Int × Unit) ⊕ Empty
def laws_markIntA2S_l0_h : Form := [(0, .own K_SPiiq 1), (1, .v I), (5, .v I)]
def laws_markIntA2S_l0_o : Outs := [(.normal, [(0, .own K_SPiiq 1), (1, .v I)])]
noncomputable def laws_markIntA2S_l0_r (N : Nat) (back : laws_markIntA2S_l0_H → Option laws_markIntA2S_l0_O) (d : laws_markIntA2S_l0_H) : Option laws_markIntA2S_l0_O :=
  let s0 : List (Int × Int × Unit) := d.1
  let s1 : Int := d.2.1
  let s5 : Int := d.2.2.1
  if (decide (s5 < (List.length s0 : Int))) = true then
    (laws_markIntA2S_l2 N N ((s0, (s1, (s5, ((0 : Int), ())))))).bind fun o18 => match o18 with
    | .inl d19 =>
      let x20 : Int := IntKind.wrap .i64 (d19.2.2.1 + (1 : Int))
      back ((d19.1, (d19.2.1, (x20, ()))))
  else
    some (.inl ((s0, (s1, ()))))
noncomputable def laws_markIntA2S_l0 (N : Nat) : Nat → laws_markIntA2S_l0_H → Option laws_markIntA2S_l0_O
  | 0, _ => none
  | k + 1, d => laws_markIntA2S_l0_r N (laws_markIntA2S_l0 N k) d
theorem laws_markIntA2S_l0_ok (N : Nat) (back) (d) : roundR Γ_laws_markIntA2S (assoc [(2, ⟨laws_markIntA2S_l2_h, laws_markIntA2S_l2_o, laws_markIntA2S_l2 N N⟩)]) 0 laws_markIntA2S_l0_h laws_markIntA2S_l0_o (loopOf Try.f79 0) back d = laws_markIntA2S_l0_r N back d := by kernel_rfl
noncomputable def F_laws_markIntA2S (N : Nat) (d : (List (Int × Int × Unit)) × Int × Unit) : Option (Int × (List (Int × Int × Unit)) × Unit) :=
  let a0 : List (Int × Int × Unit) := d.1
  let a1 : Int := d.2.1
  (laws_markIntA2S_l0 N N ((a0, (a1, ((0 : Int), ()))))).bind fun o10 => match o10 with
  | .inl d11 =>
    some ((d11.2.1, (d11.1, ())))
theorem F_laws_markIntA2S_ok (N : Nat) (d) : fnR Γ_laws_markIntA2S (assoc [(0, ⟨laws_markIntA2S_l0_h, laws_markIntA2S_l0_o, laws_markIntA2S_l0 N N⟩)]) true [(K_SPiiq, true), (I, false)] [I] Try.f79.results.toList (bodyOf Try.f79) d = F_laws_markIntA2S N d := by kernel_rfl
noncomputable def S_laws_markIntA2S : FSig := ⟨[(K_SPiiq, true), (I, false)], [I], true, (G_markIntA2S)⟩
noncomputable def Γ_laws_markGraph : Ctx := { tk := assoc tks, ar := assoc ars, fs := assoc [(79, S_laws_markIntA2S)], lent := fun t => Nat.beq t 0 }
noncomputable def F_laws_markGraph (N : Nat) (d : (Int × (List (Int × Int × Unit)) × Unit) × Int × Unit) : Option (Int × (Int × (List (Int × Int × Unit)) × Unit) × Unit) :=
  let a0 : Int × (List (Int × Int × Unit)) × Unit := d.1
  let a1 : Int := d.2.1
  (G_markIntA2S ((a0.2.1, (a1, ())))).bind fun r1 =>
  some ((r1.1, ((a0.1, (r1.2.1, a0.2.2)), ())))
theorem F_laws_markGraph_ok (N : Nat) (d) : fnR Γ_laws_markGraph (assoc []) true [(K_PiSPiiqq, true), (I, false)] [I] Try.f29.results.toList (bodyOf Try.f29) d = F_laws_markGraph N d := by kernel_rfl
noncomputable def S_laws_markGraph : FSig := ⟨[(K_PiSPiiqq, true), (I, false)], [I], true, (F_laws_markGraph 0)⟩
noncomputable def Γ_laws_markIntS : Ctx := { tk := assoc tks, ar := assoc ars, fs := assoc [], lent := fun t => Nat.beq t 0 }
abbrev laws_markIntS_l0_H := List Int × Int × Int × Unit
abbrev laws_markIntS_l0_O := (List Int × Int × Unit) ⊕ Empty
def laws_markIntS_l0_h : Form := [(0, .own K_Si 1), (1, .v I), (5, .v I)]
def laws_markIntS_l0_o : Outs := [(.normal, [(0, .own K_Si 1), (1, .v I)])]
noncomputable def laws_markIntS_l0_r (N : Nat) (back : laws_markIntS_l0_H → Option laws_markIntS_l0_O) (d : laws_markIntS_l0_H) : Option laws_markIntS_l0_O :=
  let s0 : List Int := d.1
  let s1 : Int := d.2.1
  let s5 : Int := d.2.2.1
  if (decide (s5 < (List.length s0 : Int))) = true then
    if (idxIn s5 (List.length s0)) = true then
    let x5 : Int := IntKind.wrap .i64 (s1 + (1 : Int))
    let x6 : Int := IntKind.wrap .i64 (s5 + (1 : Int))
    back ((List.set s0 s5.toNat s1, (x5, (x6, ()))))
    else none
  else
    some (.inl ((s0, (s1, ()))))
noncomputable def laws_markIntS_l0 (N : Nat) : Nat → laws_markIntS_l0_H → Option laws_markIntS_l0_O
  | 0, _ => none
  | k + 1, d => laws_markIntS_l0_r N (laws_markIntS_l0 N k) d
theorem laws_markIntS_l0_ok (N : Nat) (back) (d) : roundR Γ_laws_markIntS (assoc []) 0 laws_markIntS_l0_h laws_markIntS_l0_o (loopOf Try.f54 0) back d = laws_markIntS_l0_r N back d := by kernel_rfl
noncomputable def F_laws_markIntS (N : Nat) (d : List Int × Int × Unit) : Option (Int × List Int × Unit) :=
  let a0 : List Int := d.1
  let a1 : Int := d.2.1
  (laws_markIntS_l0 N N ((a0, (a1, ((0 : Int), ()))))).bind fun o3 => match o3 with
  | .inl d4 =>
    some ((d4.2.1, (d4.1, ())))
theorem F_laws_markIntS_ok (N : Nat) (d) : fnR Γ_laws_markIntS (assoc [(0, ⟨laws_markIntS_l0_h, laws_markIntS_l0_o, laws_markIntS_l0 N N⟩)]) true [(K_Si, true), (I, false)] [I] Try.f54.results.toList (bodyOf Try.f54) d = F_laws_markIntS N d := by kernel_rfl
noncomputable def S_laws_markIntS : FSig := ⟨[(K_Si, true), (I, false)], [I], true, (G_markIntS)⟩
noncomputable def Γ_laws_markWorkshop : Ctx := { tk := assoc tks, ar := assoc ars, fs := assoc [(29, S_laws_markGraph), (54, S_laws_markIntS)], lent := fun t => Nat.beq t 0 }
noncomputable def F_laws_markWorkshop (N : Nat) (d : ((Int × (List (Int × Int × Unit)) × Unit) × Int × Int × List Int × Int × Unit) × Int × Unit) : Option (Int × ((Int × (List (Int × Int × Unit)) × Unit) × Int × Int × List Int × Int × Unit) × Unit) :=
  let a0 : (Int × (List (Int × Int × Unit)) × Unit) × Int × Int × List Int × Int × Unit := d.1
  let a1 : Int := d.2.1
  ((F_laws_markGraph 0) ((a0.1, (a1, ())))).bind fun r1 =>
  (G_markIntS ((a0.2.2.2.1, (r1.1, ())))).bind fun r2 =>
  some ((r2.1, ((r1.2.1, (a0.2.1, (a0.2.2.1, (r2.2.1, a0.2.2.2.2)))), ())))
theorem F_laws_markWorkshop_ok (N : Nat) (d) : fnR Γ_laws_markWorkshop (assoc []) true [(K_PPiSPiiqqiiSiiq, true), (I, false)] [I] Try.f30.results.toList (bodyOf Try.f30) d = F_laws_markWorkshop N d := by kernel_rfl
noncomputable def S_laws_markWorkshop : FSig := ⟨[(K_PPiSPiiqqiiSiiq, true), (I, false)], [I], true, (F_laws_markWorkshop 0)⟩
noncomputable def Γ_laws_markConsole : Ctx := { tk := assoc tks, ar := assoc ars, fs := assoc [(30, S_laws_markWorkshop)], lent := fun t => Nat.beq t 0 }
noncomputable def F_laws_markConsole (N : Nat) (d : (((Int × (List (Int × Int × Unit)) × Unit) × Int × Int × List Int × Int × Unit) × (ByteArray × ByteArray × Int × Unit) × Unit) × Int × Unit) : Option (Int × (((Int × (List (Int × Int × Unit)) × Unit) × Int × Int × List Int × Int × Unit) × (ByteArray × ByteArray × Int × Unit) × Unit) × Unit) :=
  let a0 : ((Int × (List (Int × Int × Unit)) × Unit) × Int × Int × List Int × Int × Unit) × (ByteArray × ByteArray × Int × Unit) × Unit := d.1
  let a1 : Int := d.2.1
  ((F_laws_markWorkshop 0) ((a0.1, (a1, ())))).bind fun r1 =>
  some ((r1.1, ((r1.2.1, a0.2), ())))
theorem F_laws_markConsole_ok (N : Nat) (d) : fnR Γ_laws_markConsole (assoc []) true [(K_PPPiSPiiqqiiSiiqPssiqq, true), (I, false)] [I] Try.f44.results.toList (bodyOf Try.f44) d = F_laws_markConsole N d := by kernel_rfl
noncomputable def S_laws_markConsole : FSig := ⟨[(K_PPPiSPiiqqiiSiiqPssiqq, true), (I, false)], [I], true, (F_laws_markConsole 0)⟩
noncomputable def Γ_laws_heldIntA2S : Ctx := { tk := assoc tks, ar := assoc ars, fs := assoc [] }
abbrev laws_heldIntA2S_l2_H := (List (Int × Int × Unit)) × Int × Int × Int × Unit
abbrev laws_heldIntA2S_l2_O := (Int × Unit) ⊕ ((List (Int × Int × Unit)) × Int × Int × Unit) ⊕ Empty
def laws_heldIntA2S_l2_h : Form := [(0, .v K_SPiiq), (1, .v I), (5, .v I), (6, .v I)]
def laws_heldIntA2S_l2_o : Outs := [(.ret, [(4, .v I)]), (.normal, [(0, .v K_SPiiq), (1, .v I), (5, .v I)])]
noncomputable def laws_heldIntA2S_l2_r (N : Nat) (back : laws_heldIntA2S_l2_H → Option laws_heldIntA2S_l2_O) (d : laws_heldIntA2S_l2_H) : Option laws_heldIntA2S_l2_O :=
  let s0 : List (Int × Int × Unit) := d.1
  let s1 : Int := d.2.1
  let s5 : Int := d.2.2.1
  let s6 : Int := d.2.2.2.1
  if (decide (s6 < (2 : Int))) = true then
    if (idxIn s5 (List.length s0)) = true then
    if (s6 == (0 : Int)) = true then
      if ((at_ K_Piiq s0 s5.toNat).1 != s1) = true then
        some (.inl ((-1 : Int), ()))
      else
        let x22 : Int := IntKind.wrap .i64 (s1 + (1 : Int))
        let x23 : Int := IntKind.wrap .i64 (s6 + (1 : Int))
        back ((s0, (x22, (s5, (x23, ())))))
    else
      if (s6 == (1 : Int)) = true then
      if ((at_ K_Piiq s0 s5.toNat).2.1 != s1) = true then
        some (.inl ((-1 : Int), ()))
      else
        let x20 : Int := IntKind.wrap .i64 (s1 + (1 : Int))
        let x21 : Int := IntKind.wrap .i64 (s6 + (1 : Int))
        back ((s0, (x20, (s5, (x21, ())))))
      else none
    else none
  else
    some (.inr (.inl ((s0, (s1, (s5, ()))))))
noncomputable def laws_heldIntA2S_l2 (N : Nat) : Nat → laws_heldIntA2S_l2_H → Option laws_heldIntA2S_l2_O
  | 0, _ => none
  | k + 1, d => laws_heldIntA2S_l2_r N (laws_heldIntA2S_l2 N k) d
theorem laws_heldIntA2S_l2_ok (N : Nat) (back) (d) : roundR Γ_laws_heldIntA2S (assoc []) 2 laws_heldIntA2S_l2_h laws_heldIntA2S_l2_o (loopOf Try.f98 2) back d = laws_heldIntA2S_l2_r N back d := by kernel_rfl
abbrev laws_heldIntA2S_l0_H := (List (Int × Int × Unit)) × Int × Int × Unit
abbrev laws_heldIntA2S_l0_O := (Int × Unit) ⊕ (Int × Unit) ⊕ Empty
def laws_heldIntA2S_l0_h : Form := [(0, .v K_SPiiq), (1, .v I), (5, .v I)]
def laws_heldIntA2S_l0_o : Outs := [(.ret, [(4, .v I)]), (.normal, [(1, .v I)])]
noncomputable def laws_heldIntA2S_l0_r (N : Nat) (back : laws_heldIntA2S_l0_H → Option laws_heldIntA2S_l0_O) (d : laws_heldIntA2S_l0_H) : Option laws_heldIntA2S_l0_O :=
  let s0 : List (Int × Int × Unit) := d.1
  let s1 : Int := d.2.1
  let s5 : Int := d.2.2.1
  if (decide (s5 < (List.length s0 : Int))) = true then
    (laws_heldIntA2S_l2 N N ((s0, (s1, (s5, ((0 : Int), ())))))).bind fun o16 => match o16 with
    | .inl d17 =>
      some (.inl (d17.1, ()))
    | .inr (.inl d18) =>
      let x19 : Int := IntKind.wrap .i64 (d18.2.2.1 + (1 : Int))
      back ((d18.1, (d18.2.1, (x19, ()))))
  else
    some (.inr (.inl (s1, ())))
noncomputable def laws_heldIntA2S_l0 (N : Nat) : Nat → laws_heldIntA2S_l0_H → Option laws_heldIntA2S_l0_O
  | 0, _ => none
  | k + 1, d => laws_heldIntA2S_l0_r N (laws_heldIntA2S_l0 N k) d
theorem laws_heldIntA2S_l0_ok (N : Nat) (back) (d) : roundR Γ_laws_heldIntA2S (assoc [(2, ⟨laws_heldIntA2S_l2_h, laws_heldIntA2S_l2_o, laws_heldIntA2S_l2 N N⟩)]) 0 laws_heldIntA2S_l0_h laws_heldIntA2S_l0_o (loopOf Try.f98 0) back d = laws_heldIntA2S_l0_r N back d := by kernel_rfl
noncomputable def F_laws_heldIntA2S (N : Nat) (d : (List (Int × Int × Unit)) × Int × Unit) : Option (Int × Unit) :=
  let a0 : List (Int × Int × Unit) := d.1
  let a1 : Int := d.2.1
  (laws_heldIntA2S_l0 N N ((a0, (a1, ((0 : Int), ()))))).bind fun o9 => match o9 with
  | .inl d10 =>
    some (d10.1, ())
  | .inr (.inl d11) =>
    some (d11.1, ())
theorem F_laws_heldIntA2S_ok (N : Nat) (d) : fnR Γ_laws_heldIntA2S (assoc [(0, ⟨laws_heldIntA2S_l0_h, laws_heldIntA2S_l0_o, laws_heldIntA2S_l0 N N⟩)]) true [(K_SPiiq, false), (I, false)] [I] Try.f98.results.toList (bodyOf Try.f98) d = F_laws_heldIntA2S N d := by kernel_rfl
noncomputable def S_laws_heldIntA2S : FSig := ⟨[(K_SPiiq, false), (I, false)], [I], true, (G_heldIntA2S)⟩
noncomputable def Γ_laws_heldGraph : Ctx := { tk := assoc tks, ar := assoc ars, fs := assoc [(98, S_laws_heldIntA2S)] }
noncomputable def F_laws_heldGraph (N : Nat) (d : (Int × (List (Int × Int × Unit)) × Unit) × Int × Unit) : Option (Int × Unit) :=
  let a0 : Int × (List (Int × Int × Unit)) × Unit := d.1
  let a1 : Int := d.2.1
  (G_heldIntA2S ((a0.2.1, (a1, ())))).bind fun r1 =>
  if (decide (r1.1 < (0 : Int))) = true then
    some ((-1 : Int), ())
  else
    some (r1.1, ())
theorem F_laws_heldGraph_ok (N : Nat) (d) : fnR Γ_laws_heldGraph (assoc []) true [(K_PiSPiiqq, false), (I, false)] [I] Try.f48.results.toList (bodyOf Try.f48) d = F_laws_heldGraph N d := by kernel_rfl
noncomputable def S_laws_heldGraph : FSig := ⟨[(K_PiSPiiqq, false), (I, false)], [I], true, (F_laws_heldGraph 0)⟩
noncomputable def Γ_laws_heldIntS : Ctx := { tk := assoc tks, ar := assoc ars, fs := assoc [] }
abbrev laws_heldIntS_l0_H := List Int × Int × Int × Unit
abbrev laws_heldIntS_l0_O := (Int × Unit) ⊕ (Int × Unit) ⊕ Empty
def laws_heldIntS_l0_h : Form := [(0, .v K_Si), (1, .v I), (5, .v I)]
def laws_heldIntS_l0_o : Outs := [(.ret, [(4, .v I)]), (.normal, [(1, .v I)])]
noncomputable def laws_heldIntS_l0_r (N : Nat) (back : laws_heldIntS_l0_H → Option laws_heldIntS_l0_O) (d : laws_heldIntS_l0_H) : Option laws_heldIntS_l0_O :=
  let s0 : List Int := d.1
  let s1 : Int := d.2.1
  let s5 : Int := d.2.2.1
  if (decide (s5 < (List.length s0 : Int))) = true then
    if (idxIn s5 (List.length s0)) = true then
    if (at_ I s0 s5.toNat != s1) = true then
      some (.inl ((-1 : Int), ()))
    else
      let x6 : Int := IntKind.wrap .i64 (s1 + (1 : Int))
      let x7 : Int := IntKind.wrap .i64 (s5 + (1 : Int))
      back ((s0, (x6, (x7, ()))))
    else none
  else
    some (.inr (.inl (s1, ())))
noncomputable def laws_heldIntS_l0 (N : Nat) : Nat → laws_heldIntS_l0_H → Option laws_heldIntS_l0_O
  | 0, _ => none
  | k + 1, d => laws_heldIntS_l0_r N (laws_heldIntS_l0 N k) d
theorem laws_heldIntS_l0_ok (N : Nat) (back) (d) : roundR Γ_laws_heldIntS (assoc []) 0 laws_heldIntS_l0_h laws_heldIntS_l0_o (loopOf Try.f55 0) back d = laws_heldIntS_l0_r N back d := by kernel_rfl
noncomputable def F_laws_heldIntS (N : Nat) (d : List Int × Int × Unit) : Option (Int × Unit) :=
  let a0 : List Int := d.1
  let a1 : Int := d.2.1
  (laws_heldIntS_l0 N N ((a0, (a1, ((0 : Int), ()))))).bind fun o3 => match o3 with
  | .inl d4 =>
    some (d4.1, ())
  | .inr (.inl d5) =>
    some (d5.1, ())
theorem F_laws_heldIntS_ok (N : Nat) (d) : fnR Γ_laws_heldIntS (assoc [(0, ⟨laws_heldIntS_l0_h, laws_heldIntS_l0_o, laws_heldIntS_l0 N N⟩)]) true [(K_Si, false), (I, false)] [I] Try.f55.results.toList (bodyOf Try.f55) d = F_laws_heldIntS N d := by kernel_rfl
noncomputable def S_laws_heldIntS : FSig := ⟨[(K_Si, false), (I, false)], [I], true, (G_heldIntS)⟩
noncomputable def Γ_laws_heldWorkshop : Ctx := { tk := assoc tks, ar := assoc ars, fs := assoc [(48, S_laws_heldGraph), (55, S_laws_heldIntS)] }
noncomputable def F_laws_heldWorkshop (N : Nat) (d : ((Int × (List (Int × Int × Unit)) × Unit) × Int × Int × List Int × Int × Unit) × Int × Unit) : Option (Int × Unit) :=
  let a0 : (Int × (List (Int × Int × Unit)) × Unit) × Int × Int × List Int × Int × Unit := d.1
  let a1 : Int := d.2.1
  ((F_laws_heldGraph 0) ((a0.1, (a1, ())))).bind fun r1 =>
  if (decide (r1.1 < (0 : Int))) = true then
    some ((-1 : Int), ())
  else
    (G_heldIntS ((a0.2.2.2.1, (r1.1, ())))).bind fun r2 =>
    if (decide (r2.1 < (0 : Int))) = true then
      some ((-1 : Int), ())
    else
      some (r2.1, ())
theorem F_laws_heldWorkshop_ok (N : Nat) (d) : fnR Γ_laws_heldWorkshop (assoc []) true [(K_PPiSPiiqqiiSiiq, false), (I, false)] [I] Try.f31.results.toList (bodyOf Try.f31) d = F_laws_heldWorkshop N d := by kernel_rfl
noncomputable def S_laws_heldWorkshop : FSig := ⟨[(K_PPiSPiiqqiiSiiq, false), (I, false)], [I], true, (F_laws_heldWorkshop 0)⟩
noncomputable def Γ_laws_heldConsole : Ctx := { tk := assoc tks, ar := assoc ars, fs := assoc [(31, S_laws_heldWorkshop)] }
noncomputable def F_laws_heldConsole (N : Nat) (d : (((Int × (List (Int × Int × Unit)) × Unit) × Int × Int × List Int × Int × Unit) × (ByteArray × ByteArray × Int × Unit) × Unit) × Int × Unit) : Option (Int × Unit) :=
  let a0 : ((Int × (List (Int × Int × Unit)) × Unit) × Int × Int × List Int × Int × Unit) × (ByteArray × ByteArray × Int × Unit) × Unit := d.1
  let a1 : Int := d.2.1
  ((F_laws_heldWorkshop 0) ((a0.1, (a1, ())))).bind fun r1 =>
  if (decide (r1.1 < (0 : Int))) = true then
    some ((-1 : Int), ())
  else
    some (r1.1, ())
theorem F_laws_heldConsole_ok (N : Nat) (d) : fnR Γ_laws_heldConsole (assoc []) true [(K_PPPiSPiiqqiiSiiqPssiqq, false), (I, false)] [I] Try.f45.results.toList (bodyOf Try.f45) d = F_laws_heldConsole N d := by kernel_rfl
noncomputable def S_laws_heldConsole : FSig := ⟨[(K_PPPiSPiiqqiiSiiqPssiqq, false), (I, false)], [I], true, (F_laws_heldConsole 0)⟩
noncomputable def Γ_laws_FnExactNewConsole : Ctx := { tk := assoc tks, ar := assoc ars, fs := assoc [(19, S_laws_szWorkshop), (21, S_laws_toWorkshop), (23, S_laws_eqWorkshop), (30, S_laws_markWorkshop), (41, S_spec_NewConsole), (42, S_impl_NewConsole), (43, S_laws_eqConsole), (44, S_laws_markConsole), (45, S_laws_heldConsole)] }
noncomputable def F_laws_FnExactNewConsole (N : Nat) (d : ((Int × (List (Int × Int × Unit)) × Unit) × Int × Int × List Int × Int × Unit) × Unit) : Option (Bool × Unit) :=
  let a0 : (Int × (List (Int × Int × Unit)) × Unit) × Int × Int × List Int × Int × Unit := d.1
  let r1 : Int × Unit := g_laws_szWorkshop ((a0, ((1048576 : Int), ())))
  if (decide (r1.1 < (0 : Int))) = true then
    some (true, ())
  else
    ((F_laws_toWorkshop 0) (a0, ())).bind fun r2 =>
    ((F_spec_NewConsole 0) (r2.1, ())).bind fun r3 =>
    ((F_laws_toWorkshop 0) (a0, ())).bind fun r4 =>
    ((F_impl_NewConsole 0) (r4.1, ())).bind fun r5 =>
    ((F_laws_eqConsole 0) ((r5.1, (r3.1, ())))).bind fun r6 =>
    if (!r6.1) = true then
      some (false, ())
    else
      if (!(r5.2.1 == r3.2.1)) = true then
        some (false, ())
      else
        ((F_laws_toWorkshop 0) (a0, ())).bind fun r7 =>
        ((F_laws_eqWorkshop 0) ((r4.1, (r7.1, ())))).bind fun r8 =>
        if (!r8.1) = true then
          some (false, ())
        else
          ((F_laws_markWorkshop 0) ((r4.1, ((1 : Int), ())))).bind fun r9 =>
          if (decide (r9.1 < (0 : Int))) = true then
            some (false, ())
          else
            ((F_laws_eqConsole 0) ((r5.1, (r3.1, ())))).bind fun r10 =>
            if (!r10.1) = true then
              some (false, ())
            else
              if (!(r5.2.1 == r3.2.1)) = true then
                some (false, ())
              else
                ((F_laws_markConsole 0) ((r5.1, ((1 : Int), ())))).bind fun r11 =>
                ((F_laws_heldConsole 0) ((r11.2.1, ((1 : Int), ())))).bind fun r12 =>
                if (decide (r12.1 < (0 : Int))) = true then
                  some (false, ())
                else
                  if (r12.1 != r11.1) = true then
                    some (false, ())
                  else
                    ((F_laws_toWorkshop 0) (a0, ())).bind fun r13 =>
                    ((F_impl_NewConsole 0) (r13.1, ())).bind fun r14 =>
                    ((F_laws_eqConsole 0) ((r14.1, (r3.1, ())))).bind fun r15 =>
                    if (!r15.1) = true then
                      some (false, ())
                    else
                      if (!(r14.2.1 == r3.2.1)) = true then
                        some (false, ())
                      else
                        ((F_laws_heldConsole 0) ((r11.2.1, ((1 : Int), ())))).bind fun r16 =>
                        if (decide (r16.1 < (0 : Int))) = true then
                          some (false, ())
                        else
                          if (r16.1 != r11.1) = true then
                            some (false, ())
                          else
                            some (true, ())
theorem F_laws_FnExactNewConsole_ok (N : Nat) (d) : fnR Γ_laws_FnExactNewConsole (assoc []) true [(K_PPiSPiiqqiiSiiq, false)] [.bool] Try.f8.results.toList (bodyOf Try.f8) d = F_laws_FnExactNewConsole N d := by kernel_rfl
noncomputable def S_laws_FnExactNewConsole : FSig := ⟨[(K_PPiSPiiqqiiSiiq, false)], [.bool], true, (F_laws_FnExactNewConsole 0)⟩
end Go.V.W
set_option linter.unusedVariables false
set_option linter.unusedSimpArgs false
namespace Go.V.W
theorem getD_set (ms : List Nat) (a x v : Nat) (h : a < ms.length) : (ms.set a v).getD x 0 = if x = a then v else ms.getD x 0 := by
  simp only [List.getD_eq_getElem?_getD, List.getElem?_set]
  by_cases e : x = a
  · subst e; simp [h]
  · simp [e, Ne.symm e]
end Go.V.W
set_option linter.unusedVariables false
set_option linter.unusedSimpArgs false
namespace Go.V
end Go.V
namespace Go.V.W
open Go.Proofs Go.RowKit
def val (a0 F : Nat → Value) (L : Nat → Bool) (t : Nat) : Value := if t = 8 then (if L 9 = true then F 9 else a0 8) else if 38 ≤ t ∧ t ≤ 46 then (if L (t - 38) = true then F (t - 38) else a0 t) else a0 t
def rowL (n m : Nat) (x z : Value) : List Value := List.replicate m x ++ List.replicate (n - m) z
/-- What is held of the listed operations. -/
structure Phi (a0 F : Nat → Value) (df : List Deferred) (sz g n m c B : Nat) (x z : Value) (T : TypeId) (w0 : World) (L : Nat → Bool) (a : Act) (w : World) : Prop where
  size : a.tmps.size = sz
  defers : a.defers = df
  tmps : ∀ t, a.tmps.getD t undef = val a0 F L t
  row : w.heap[g]? = some (.cells (rowL n (if L 7 = true then m + c else m) x z).toArray T (0, 0))
  below : Below B w0 w
end Go.V.W
set_option linter.unusedVariables false
set_option linter.unusedSimpArgs false
namespace Go.V.W
open Go.Proofs
theorem containsAny_any (c : List UInt8) : ∀ l : List UInt8, Lib.containsAny l c = l.any fun b => c.contains b := by
  intro l
  induction l with
  | nil => simp [Lib.containsAny, Lib.indexAny]
  | cons b l ih =>
    unfold Lib.containsAny at ih ⊢
    unfold Lib.indexAny
    rw [List.any_cons, ← ih]
    by_cases hb : c.contains b = true
    · have hb' : b ∈ c := by simpa using hb
      simp [hb']
    · simp only [Bool.not_eq_true] at hb
      rw [hb]
      simp only [Bool.false_eq_true, if_false, Bool.false_or]
      have := Lib.indexAny_ge c l
      by_cases he : Lib.indexAny l c = -1
      · simp [he]
      · have e1 : (Lib.indexAny l c == -1) = false := by simpa using he
        rw [e1]
        simp only [Bool.false_eq_true, if_false]
        have e2 : (0 ≤ Lib.indexAny l c) := by omega
        have e3 : (0 ≤ Lib.indexAny l c + 1) := by omega
        simp [e2, e3]
end Go.V.W
set_option linter.unusedVariables false
set_option linter.unusedSimpArgs false
namespace Go.V.W
open Go.Proofs
def specB (a b : ByteArray) : Bool := !seq_ a (⟨#[]⟩ : ByteArray) && ((a.data.toList.all (fun b => printed1 b && !(b.toNat == 35)) && decide ((a.size : Int) ≤ 160)) && (!(a.data.toList.any (fun b => ((b.toNat : Int) == 64))) && (b.data.toList.all (fun b => printed1 b && !(b.toNat == 35)) && decide ((b.size : Int) ≤ 200))))
def implB (a b : ByteArray) : Bool := ((decide ((a.size : Int) ≥ 1) && decide ((a.size : Int) ≤ 160)) && (printedB a && !Lib.containsAny a.data.toList [35, 64])) && (decide ((b.size : Int) ≤ 200) && (printedB b && !Lib.containsAny b.data.toList [35]))
theorem all_not (l : List UInt8) (p q : UInt8 → Bool) : l.all (fun b => p b && !q b) = (l.all p && !l.any q) := by
  induction l with
  | nil => rfl
  | cons b l ih =>
    simp only [List.all_cons, List.any_cons, ih]
    cases p b <;> cases q b <;> cases l.all p <;> cases l.any q <;> rfl
theorem any_or (l : List UInt8) (p q : UInt8 → Bool) : l.any (fun b => p b || q b) = (l.any p || l.any q) := by
  induction l with
  | nil => rfl
  | cons b l ih =>
    simp only [List.any_cons, ih]
    cases p b <;> cases q b <;> cases l.any p <;> cases l.any q <;> rfl
theorem has35 (l : List UInt8) : Lib.containsAny l [35] = l.any (fun b => b.toNat == 35) := by
  rw [containsAny_any]
  congr 1
  funext b
  simp only [List.contains_cons, List.contains_nil, Bool.or_false]
  rw [Bool.eq_iff_iff]
  simp only [beq_iff_eq]
  exact ⟨fun h => by rw [h]; rfl, fun h => UInt8.toNat_inj.1 h⟩
theorem has3564 (l : List UInt8) : Lib.containsAny l [35, 64] = (l.any (fun b => b.toNat == 35) || l.any (fun b => ((b.toNat : Int) == 64))) := by
  rw [containsAny_any, ← any_or]
  congr 1
  funext b
  simp only [List.contains_cons, List.contains_nil, Bool.or_false]
  rw [Bool.eq_iff_iff]
  simp only [Bool.or_eq_true, beq_iff_eq]
  constructor
  · rintro (h | h)
    · left; rw [h]; rfl
    · right; rw [h]; rfl
  · rintro (h | h)
    · left; exact UInt8.toNat_inj.1 h
    · right; exact UInt8.toNat_inj.1 (by have : b.toNat = 64 := by omega
                                         rw [this]; rfl)
theorem empty_size (a : ByteArray) : seq_ a (⟨#[]⟩ : ByteArray) = !decide ((a.size : Int) ≥ 1) := by
  unfold seq_
  have h1 : a.toList = a.data.toList := Lib.toList_data a
  have h2 : (⟨#[]⟩ : ByteArray).toList = [] := Lib.toList_data _
  have h3 : a.data.toList.length = a.size := by simp
  rw [h1, h2]
  cases hl : a.data.toList with
  | nil =>
    rw [hl] at h3
    simp only [List.length_nil] at h3
    simp [← h3]
  | cons x l =>
    rw [hl] at h3
    simp only [List.length_cons] at h3
    have : decide ((a.size : Int) ≥ 1) = true := by simp; omega
    rw [this]
    rfl
theorem same (a b : ByteArray) : specB a b = implB a b := by
  unfold specB implB
  rw [empty_size, all_not, all_not, has35, has3564]
  unfold printedB
  cases decide ((a.size : Int) ≥ 1) <;> cases a.data.toList.all printed1 <;> cases a.data.toList.any (fun b => b.toNat == 35) <;> cases a.data.toList.any (fun b => ((b.toNat : Int) == 64)) <;> cases decide ((a.size : Int) ≤ 160) <;> cases decide ((b.size : Int) ≤ 200) <;> cases b.data.toList.all printed1 <;> cases b.data.toList.any (fun b => b.toNat == 35) <;> rfl
end Go.V.W
set_option linter.unusedVariables false
set_option linter.unusedSimpArgs false
namespace Go.V.W
open Go.Proofs
theorem lim_max {n : Nat} (h : n ≤ lim) : n ≤ maxLen := by unfold lim at h; unfold maxLen; omega
theorem toIntA2_lim (d) (r) (h : G_toIntA2 d = some r) : ∃ N, F_laws_toIntA2 N d = some r := by
  obtain ⟨⟨a, b, _⟩, _⟩ := d
  have h := Option.some.inj h
  subst h
  exact ⟨3, rfl⟩
theorem set_copy {α : Type} (l m : List α) (i : Nat) (x : α) (hi : i < l.length) (hx : l[i] = x) (hm : m.length = l.length) (h : m.take i = l.take i) : (m.set i x).take (i + 1) = l.take (i + 1) := by
  apply List.ext_getElem?
  intro j
  simp only [List.getElem?_take]
  split
  · rename_i hj
    by_cases hji : j = i
    · subst hji
      rw [List.getElem?_set_self (by omega), List.getElem?_eq_getElem hi, hx]
    · rw [List.getElem?_set_ne (fun e => hji e.symm)]
      have := congrArg (fun z => z[j]?) h
      simp only [List.getElem?_take] at this
      rw [if_pos (by omega), if_pos (by omega)] at this
      exact this
  · rfl
theorem toIntS_l0 (N : Nat) (l : List Int) (hl : l.length ≤ lim) : ∀ k, l.length ≤ k → laws_toIntS_l0 N (k + 1) (l, List.replicate l.length (0 : Int), (0 : Int), ()) = some (.inl (l, ())) := by
  intro k hk
  have hmx := lim_max hl
  have key : ∀ n i (m : List Int), l.length ≤ i + n → i ≤ l.length → m.length = l.length → m.take i = l.take i → laws_toIntS_l0 N (n + 1) (l, m, (i : Int), ()) = some (.inl (l, ())) := by
    intro n
    induction n with
    | zero =>
      intro i m h1 h2 h3 h4
      have e : i = l.length := by omega
      subst e
      rw [List.take_of_length_le (by omega), List.take_of_length_le (by omega)] at h4
      subst h4
      simp [laws_toIntS_l0, laws_toIntS_l0_r]
    | succ n ih =>
      intro i m h1 h2 h3 h4
      by_cases hi : i < l.length
      · show laws_toIntS_l0_r N (laws_toIntS_l0 N (n + 1)) (l, m, (i : Int), ()) = _
        unfold laws_toIntS_l0_r
        have hlt : decide ((i : Int) < (List.length l : Int)) = true := by simp; omega
        simp only [hlt, if_true, idxIn_nat hi, idxIn_nat (show i < m.length by omega), Int.toNat_natCast, wrap_up hi hmx]
        refine ih (i + 1) _ (by omega) (by omega) (by simp [h3]) ?_
        exact set_copy l m i _ hi (by rw [at_get (e := I) hi]; rfl) h3 h4
      · have e : i = l.length := by omega
        subst e
        rw [List.take_of_length_le (by omega), List.take_of_length_le (by omega)] at h4
        subst h4
        simp [laws_toIntS_l0, laws_toIntS_l0_r]
  simpa using key k 0 (List.replicate l.length 0) (by omega) (by omega) (by simp) (by simp)
theorem toIntS_lim (d) (r) (h : G_toIntS d = some r) : ∃ N, F_laws_toIntS N d = some r := by
  obtain ⟨l, _⟩ := d
  unfold G_toIntS at h
  split at h
  · rename_i hl
    have hl : l.length ≤ lim := of_decide_eq_true hl
    have h := Option.some.inj h
    subst h
    refine ⟨l.length + 1, ?_⟩
    unfold F_laws_toIntS
    have hc : (decide (0 ≤ (List.length l : Int)) && decide ((List.length l : Int) ≤ (List.length l : Int)) && decide ((List.length l : Int) ≤ (lim : Int))) = true := by simp; omega
    have := toIntS_l0 (l.length + 1) l hl l.length (Nat.le_refl _)
    simp only [hc, if_true, Int.toNat_natCast]
    rw [this]
    rfl
  · cases h
theorem toIntA2S_l0 (N : Nat) (l : List E) (hl : l.length ≤ lim) : ∀ k, l.length ≤ k → laws_toIntA2S_l0 N (k + 1) (l, List.replicate l.length ((0 : Int), (0 : Int), ()), (0 : Int), ()) = some (.inl (l, ())) := by
  intro k hk
  have hmx := lim_max hl
  have key : ∀ n i (m : List E), l.length ≤ i + n → i ≤ l.length → m.length = l.length → m.take i = l.take i → laws_toIntA2S_l0 N (n + 1) (l, m, (i : Int), ()) = some (.inl (l, ())) := by
    intro n
    induction n with
    | zero =>
      intro i m h1 h2 h3 h4
      have e : i = l.length := by omega
      subst e
      rw [List.take_of_length_le (by omega), List.take_of_length_le (by omega)] at h4
      subst h4
      simp [laws_toIntA2S_l0, laws_toIntA2S_l0_r]
    | succ n ih =>
      intro i m h1 h2 h3 h4
      by_cases hi : i < l.length
      · show laws_toIntA2S_l0_r N (laws_toIntA2S_l0 N (n + 1)) (l, m, (i : Int), ()) = _
        unfold laws_toIntA2S_l0_r
        have hlt : decide ((i : Int) < (List.length l : Int)) = true := by simp; omega
        simp only [hlt, if_true, idxIn_nat hi, idxIn_nat (show i < m.length by omega), Int.toNat_natCast, wrap_up hi hmx, G_toIntA2, Option.bind_some]
        refine ih (i + 1) _ (by omega) (by omega) (by simp [h3]) ?_
        exact set_copy l m i _ hi (by rw [at_get (e := K_Piiq) hi]; rfl) h3 h4
      · have e : i = l.length := by omega
        subst e
        rw [List.take_of_length_le (by omega), List.take_of_length_le (by omega)] at h4
        subst h4
        simp [laws_toIntA2S_l0, laws_toIntA2S_l0_r]
  simpa using key k 0 (List.replicate l.length ((0 : Int), (0 : Int), ())) (by omega) (by omega) (by simp) (by simp)
theorem toIntA2S_lim (d) (r) (h : G_toIntA2S d = some r) : ∃ N, F_laws_toIntA2S N d = some r := by
  obtain ⟨l, _⟩ := d
  unfold G_toIntA2S at h
  split at h
  · rename_i hl
    have hl : l.length ≤ lim := of_decide_eq_true hl
    have h := Option.some.inj h
    subst h
    refine ⟨l.length + 1, ?_⟩
    unfold F_laws_toIntA2S
    have hc : (decide (0 ≤ (List.length l : Int)) && decide ((List.length l : Int) ≤ (List.length l : Int)) && decide ((List.length l : Int) ≤ (lim : Int))) = true := by simp; omega
    have := toIntA2S_l0 (l.length + 1) l hl l.length (Nat.le_refl _)
    simp only [hc, if_true, Int.toNat_natCast]
    rw [this]
    rfl
  · cases h
end Go.V.W
set_option linter.unusedVariables false
set_option linter.unusedSimpArgs false
namespace Go.V.W
open Go.Proofs
theorem eqIntA2_lim (d) (r) (h : G_eqIntA2 d = some r) : ∃ N, F_laws_eqIntA2 N d = some r := by
  obtain ⟨⟨a, b, _⟩, ⟨c, e, _⟩, _⟩ := d
  have h := Option.some.inj h
  subst h
  refine ⟨3, ?_⟩
  by_cases h1 : a = c
  · by_cases h2 : b = e
    · subst h1 h2
      simp [F_laws_eqIntA2, laws_eqIntA2_l0, laws_eqIntA2_l0_r, wrap_in]
    · subst h1
      simp [F_laws_eqIntA2, laws_eqIntA2_l0, laws_eqIntA2_l0_r, wrap_in, h2]
  · simp [F_laws_eqIntA2, laws_eqIntA2_l0, laws_eqIntA2_l0_r, wrap_in, h1]
theorem eqIntS_l0 (N : Nat) (l m : List Int) (hl : l.length ≤ lim) (hm : l.length = m.length) : ∀ n i, l.length ≤ i + n → i ≤ l.length → laws_eqIntS_l0 N (n + 1) (l, m, (i : Int), ()) = if l.drop i = m.drop i then some (.inr (.inl ())) else some (.inl (false, ())) := by
  have hmx := lim_max hl
  intro n
  induction n with
  | zero =>
    intro i h1 h2
    have e : i = l.length := by omega
    subst e
    rw [List.drop_of_length_le (by omega), List.drop_of_length_le (by omega)]
    simp [laws_eqIntS_l0, laws_eqIntS_l0_r]
  | succ n ih =>
    intro i h1 h2
    by_cases hi : i < l.length
    · have hi' : i < m.length := by omega
      show laws_eqIntS_l0_r N (laws_eqIntS_l0 N (n + 1)) (l, m, (i : Int), ()) = _
      unfold laws_eqIntS_l0_r
      have hlt : decide ((i : Int) < (List.length l : Int)) = true := by simp; omega
      simp only [hlt, if_true, idxIn_nat hi, idxIn_nat hi', Int.toNat_natCast, wrap_up hi hmx, at_get (e := I) hi, at_get (e := I) (l := m) hi', ih (i + 1) (by omega) (by omega)]
      rw [List.drop_eq_getElem_cons hi, List.drop_eq_getElem_cons hi']
      simp only [List.cons.injEq, List.get_eq_getElem]
      by_cases he : l[i] = m[i]
      · simp only [he, bne_self_eq_false, Bool.false_eq_true, if_false, true_and]
      · have he' : (l[i] != m[i]) = true := by simpa using he
        simp only [he', he, if_true, false_and, if_false]
    · have e : i = l.length := by omega
      subst e
      rw [List.drop_of_length_le (by omega), List.drop_of_length_le (by omega)]
      simp [laws_eqIntS_l0, laws_eqIntS_l0_r]
theorem eqIntS_lim (d) (r) (h : G_eqIntS d = some r) : ∃ N, F_laws_eqIntS N d = some r := by
  obtain ⟨l, m, _⟩ := d
  unfold G_eqIntS at h
  split at h
  · rename_i hl
    have hl : l.length ≤ lim := of_decide_eq_true hl
    have h := Option.some.inj h
    subst h
    refine ⟨l.length + 1, ?_⟩
    unfold F_laws_eqIntS
    by_cases hm : l.length = m.length
    · have := eqIntS_l0 (l.length + 1) l m hl hm l.length 0 (by omega) (by omega)
      simp only [Int.natCast_zero, List.drop_zero] at this
      have hne : ((List.length l : Int) != (List.length m : Int)) = false := by simp [hm]
      simp only [hne, Bool.false_eq_true, if_false, this]
      by_cases he : l = m
      · simp [he]
      · simp [he]
    · have hne : ((List.length l : Int) != (List.length m : Int)) = true := by simp; omega
      have he : ¬ l = m := fun e => hm (by rw [e])
      simp [hne, he]
  · cases h
end Go.V.W
set_option linter.unusedVariables false
set_option linter.unusedSimpArgs false
namespace Go.V.W
open Go.Proofs
/-- All of m numbers from i on. -/
def allB (p : Nat → Bool) : Nat → Nat → Bool
  | 0, _ => true
  | m + 1, i => p i && allB p m (i + 1)
theorem allB_iff {p : Nat → Bool} : ∀ {m i : Nat}, allB p m i = true ↔ ∀ j, i ≤ j → j < i + m → p j = true := by
  intro m
  induction m with
  | zero => intro i; simp only [allB, true_iff]; intro j h1 h2; omega
  | succ m ih =>
    intro i
    simp only [allB, Bool.and_eq_true, ih]
    constructor
    · rintro ⟨h1, h2⟩ j h3 h4
      by_cases e : j = i
      · subst e; exact h1
      · exact h2 j (by omega) (by omega)
    · intro h
      exact ⟨h i (Nat.le_refl _) (by omega), fun j h1 h2 => h j (by omega) (by omega)⟩
theorem loop_all {H O : Type} {L : Nat → H → Option O} {r : (H → Option O) → H → Option O} (hL : ∀ k d, L (k + 1) d = r (L k) d) {n : Nat} {mk : Nat → H} {p : Nat → Bool} {o f : O}
    (hr : ∀ back i, i < n → r back (mk i) = if p i = true then back (mk (i + 1)) else some o) (hf : ∀ back, r back (mk n) = some f) :
    ∀ k i, i ≤ n → n ≤ i + k → L (k + 1) (mk i) = some (if allB p (n - i) i = true then f else o) := by
  intro k
  induction k with
  | zero =>
    intro i h1 h2
    have e : i = n := by omega
    subst e
    rw [hL, hf, Nat.sub_self]
    rfl
  | succ k ih =>
    intro i h1 h2
    by_cases h : i < n
    · rw [hL, hr _ i h, show n - i = (n - (i + 1)) + 1 by omega]
      simp only [allB]
      by_cases hp : p i = true
      · simp only [hp, if_true, Bool.true_and]
        exact ih (i + 1) (by omega) (by omega)
      · simp only [Bool.not_eq_true] at hp
        simp only [hp, Bool.false_eq_true, if_false, Bool.false_and]
    · have e : i = n := by omega
      subst e
      rw [hL, hf, Nat.sub_self]
      rfl
theorem wrap_down {i : Nat} (h : 0 < i) (hn : i ≤ maxLen) : IntKind.wrap .i64 ((i : Int) - 1) = ((i - 1 : Nat) : Int) := by
  unfold maxLen at hn
  rw [Go.IntWalk.i64_in _ (by omega)]
  omega
theorem lt_dec {i n : Nat} (h : i < n) : decide ((i : Int) < (n : Int)) = true := by simp; omega
theorem lt_not (n : Nat) : decide ((n : Int) < (n : Int)) = false := by simp
theorem pos_dec {i : Nat} : decide ((i : Int) > (0 : Int)) = decide (0 < i) := by simp
theorem bool_eq_iff {a b : Bool} (h : a = true ↔ b = true) : a = b := by cases a <;> cases b <;> simp_all
theorem all_at {e : Kd} (l : List e.den) (q : e.den → Bool) : allB (fun i => q (at_ e l i)) l.length 0 = l.all q := by
  apply bool_eq_iff
  rw [allB_iff, List.all_eq_true]
  constructor
  · intro h x hx
    obtain ⟨i, hi, rfl⟩ := List.getElem_of_mem hx
    have := h i (by omega) (by omega)
    rw [at_get hi] at this
    exact this
  · intro h j _ hj
    have hj : j < l.length := by omega
    rw [at_get hj]
    exact h _ (List.getElem_mem hj)
theorem risingB_iff : ∀ l : List Int, risingB l = true ↔ ∀ j, 0 < j → j < l.length → at_ I l (j - 1) < at_ I l j := by
  intro l
  induction l with
  | nil => simp only [risingB, true_iff]; intro j _ h; exact absurd h (by simp)
  | cons a l ih =>
    cases l with
    | nil => simp only [risingB, true_iff]; intro j h1 h2; simp only [List.length_cons, List.length_nil] at h2; omega
    | cons b l =>
      simp only [risingB, Bool.and_eq_true, ih, decide_eq_true_eq]
      constructor
      · rintro ⟨h1, h2⟩ j h3 h4
        by_cases e : j = 1
        · subst e; exact h1
        · have := h2 (j - 1) (by omega) (by simp only [List.length_cons] at h4 ⊢; omega)
          obtain ⟨k, rfl⟩ : ∃ k, j = k + 2 := ⟨j - 2, by omega⟩
          exact this
      · intro h
        refine ⟨h 1 (by omega) (by simp), fun j h1 h2 => ?_⟩
        have := h (j + 1) (by omega) (by simp only [List.length_cons] at h2 ⊢; omega)
        obtain ⟨k, rfl⟩ : ∃ k, j = k + 1 := ⟨j - 1, by omega⟩
        exact this
theorem risingE_iff : ∀ l : List E, risingE l = true ↔ ∀ j, 0 < j → j < l.length → lessE (at_ K_Piiq l (j - 1)) (at_ K_Piiq l j) = true := by
  intro l
  induction l with
  | nil => simp only [risingE, true_iff]; intro j _ h; exact absurd h (by simp)
  | cons a l ih =>
    cases l with
    | nil => simp only [risingE, true_iff]; intro j h1 h2; simp only [List.length_cons, List.length_nil] at h2; omega
    | cons b l =>
      simp only [risingE, Bool.and_eq_true, ih]
      constructor
      · rintro ⟨h1, h2⟩ j h3 h4
        by_cases e : j = 1
        · subst e; exact h1
        · have := h2 (j - 1) (by omega) (by simp only [List.length_cons] at h4 ⊢; omega)
          obtain ⟨k, rfl⟩ : ∃ k, j = k + 2 := ⟨j - 2, by omega⟩
          exact this
      · intro h
        refine ⟨h 1 (by omega) (by simp), fun j h1 h2 => ?_⟩
        have := h (j + 1) (by omega) (by simp only [List.length_cons] at h2 ⊢; omega)
        obtain ⟨k, rfl⟩ : ∃ k, j = k + 1 := ⟨j - 1, by omega⟩
        exact this
theorem l1In_eq (x lo hi : Int) (u : Unit) : g_spec_l1In (x, lo, hi, u) = (inB lo hi x, ()) := by
  unfold g_spec_l1In inB
  by_cases h : lo ≤ x <;> simp [h]
theorem within_eq (x lo hi : Int) (u : Unit) : g_impl_within (x, lo, hi, u) = (inB lo hi x, ()) := by
  unfold g_impl_within inB
  by_cases h : lo ≤ x <;> simp [h]
theorem l2Before_eq (a b : E) (u : Unit) : g_spec_l2Before (a, b, u) = (lessE a b, ()) := by
  obtain ⟨a1, a2, _⟩ := a
  obtain ⟨b1, b2, _⟩ := b
  unfold g_spec_l2Before lessE
  by_cases h : a1 < b1
  · simp [h]
  · by_cases h2 : a1 = b1 <;> simp [h, h2]
theorem cmpI_eq (a b : Int) (u : Unit) : g_cmp_Compare_int (a, b, u) = (if a < b then -1 else if b < a then 1 else 0, ()) := by
  unfold g_cmp_Compare_int g_cmp_isNaN_int
  by_cases h : a < b
  · simp [h]
  · by_cases h2 : b < a <;> simp [h, h2]
theorem eqIntA2S_lim (d) (r) (h : G_eqIntA2S d = some r) : ∃ N, F_laws_eqIntA2S N d = some r := by
  obtain ⟨l, m, _⟩ := d
  unfold G_eqIntA2S at h
  split at h
  · rename_i hl
    have hl : l.length ≤ lim := of_decide_eq_true hl
    have hmx := lim_max hl
    have h := Option.some.inj h
    subst h
    refine ⟨l.length + 1, ?_⟩
    unfold F_laws_eqIntA2S
    by_cases hm : l.length = m.length
    · have := loop_all (L := laws_eqIntA2S_l0 (l.length + 1)) (r := laws_eqIntA2S_l0_r (l.length + 1)) (fun _ _ => rfl) (n := l.length) (mk := fun i => (l, m, (i : Int), ())) (p := fun i => decide (at_ K_Piiq l i = at_ K_Piiq m i)) (o := .inl (false, ())) (f := .inr (.inl ()))
        (by
          intro back i hi
          have hi' : i < m.length := by omega
          unfold laws_eqIntA2S_l0_r
          simp only [lt_dec hi, if_true, idxIn_nat hi, idxIn_nat hi', Int.toNat_natCast, wrap_up hi hmx, G_eqIntA2, Option.bind_some]
          by_cases he : at_ K_Piiq l i = at_ K_Piiq m i
          · simp only [he, decide_true, Bool.not_true, Bool.false_eq_true, if_false, if_true]
          · simp only [he, decide_false, Bool.not_false, Bool.false_eq_true, if_false, if_true])
        (by intro back; unfold laws_eqIntA2S_l0_r; simp only [lt_not, Bool.false_eq_true, if_false]) l.length 0 (by omega) (by omega)
      simp only [Int.natCast_zero] at this
      have hne : ((List.length l : Int) != (List.length m : Int)) = false := by simp [hm]
      simp only [hne, Bool.false_eq_true, if_false, this, Nat.sub_zero]
      by_cases he : l = m
      · have : allB (fun i => decide (at_ K_Piiq l i = at_ K_Piiq m i)) l.length 0 = true := allB_iff.2 (fun j _ _ => by simp [he])
        simp only [this, if_true, Option.bind_some]
        simp only [he, decide_true]
      · have : allB (fun i => decide (at_ K_Piiq l i = at_ K_Piiq m i)) l.length 0 = false := by
          apply Bool.eq_false_iff.2
          intro ha
          apply he
          rw [allB_iff] at ha
          apply List.ext_getElem hm
          intro i h1 h2
          have := of_decide_eq_true (ha i (by omega) (by omega))
          rw [at_get (e := K_Piiq) h1, at_get (e := K_Piiq) h2] at this
          exact this
        simp only [this, he, Bool.false_eq_true, if_false, Option.bind_some, decide_false]
    · have hne : ((List.length l : Int) != (List.length m : Int)) = true := by simp; omega
      have he : ¬ l = m := fun e => hm (by rw [e])
      simp [hne, he]
  · cases h
theorem l1Rising_lim (d) (r) (h : G_l1Rising d = some r) : ∃ N, F_spec_l1Rising N d = some r := by
  obtain ⟨l, lo, hi, _⟩ := d
  unfold G_l1Rising at h
  split at h
  · rename_i hl
    have hl : l.length ≤ lim := of_decide_eq_true hl
    have hmx := lim_max hl
    have h := Option.some.inj h
    subst h
    refine ⟨l.length + 1, ?_⟩
    unfold F_spec_l1Rising
    have := loop_all (L := spec_l1Rising_l0 (l.length + 1)) (r := spec_l1Rising_l0_r (l.length + 1)) (fun _ _ => rfl) (n := l.length) (mk := fun i => (l, lo, hi, (i : Int), ())) (p := fun i => inB lo hi (at_ I l i) && (!decide (0 < i) || decide (at_ I l (i - 1) < at_ I l i))) (o := .inl (false, ())) (f := .inr (.inl ()))
      (by
        intro back i hi'
        unfold spec_l1Rising_l0_r
        simp only [lt_dec hi', if_true, idxIn_nat hi', Int.toNat_natCast, wrap_up hi' hmx, l1In_eq, pos_dec]
        cases hb : inB lo hi (at_ I l i) with
        | false => simp only [Bool.not_false, if_true, Bool.false_and, Bool.false_eq_true, if_false]
        | true =>
          simp only [Bool.not_true, Bool.false_eq_true, if_false, Bool.true_and]
          by_cases h0 : 0 < i
          · have h1 : i - 1 < l.length := by omega
            simp only [h0, decide_true, if_true, wrap_down h0 (show i ≤ maxLen by omega), idxIn_nat h1, Int.toNat_natCast, Bool.not_true, Bool.false_or]
            by_cases hc : at_ I l (i - 1) < at_ I l i
            · have hc' : ¬ (at_ I l (i - 1) ≥ at_ I l i) := Int.not_le.2 hc
              simp only [hc, hc', decide_true, decide_false, if_true, Bool.false_eq_true, if_false]
            · have hc' : (at_ I l (i - 1) ≥ at_ I l i) := Int.not_lt.1 hc
              simp only [hc, hc', decide_true, decide_false, if_true, Bool.false_eq_true, if_false]
          · simp only [h0, decide_false, Bool.false_eq_true, if_false, Bool.not_false, Bool.true_or, if_true])
      (by intro back; unfold spec_l1Rising_l0_r; simp only [lt_not, Bool.false_eq_true, if_false]) l.length 0 (by omega) (by omega)
    simp only [Int.natCast_zero] at this
    simp only [this, Nat.sub_zero]
    have e : allB (fun i => inB lo hi (at_ I l i) && (!decide (0 < i) || decide (at_ I l (i - 1) < at_ I l i))) l.length 0 = (l.all (inB lo hi) && risingB l) := by
      rw [← all_at (e := I) l (inB lo hi)]
      apply bool_eq_iff
      rw [Bool.and_eq_true, allB_iff, allB_iff, risingB_iff]
      simp only [Bool.and_eq_true, Bool.or_eq_true, Bool.not_eq_true', decide_eq_true_eq, decide_eq_false_iff_not]
      constructor
      · intro h
        exact ⟨fun j h1 h2 => (h j h1 h2).1, fun j h1 h2 => ((h j (by omega) (by omega)).2).resolve_left (by omega)⟩
      · rintro ⟨h1, h2⟩ j h3 h4
        refine ⟨h1 j h3 h4, ?_⟩
        by_cases h0 : 0 < j
        · exact .inr (h2 j h0 (by omega))
        · exact .inl h0
    simp only [e]
    cases (l.all (inB lo hi) && risingB l) <;> rfl
  · cases h
theorem increasing_lim (d) (r) (h : G_increasing d = some r) : ∃ N, F_impl_increasing N d = some r := by
  obtain ⟨l, _⟩ := d
  unfold G_increasing at h
  split at h
  · rename_i hl
    have hl : l.length ≤ lim := of_decide_eq_true hl
    have hmx := lim_max hl
    have h := Option.some.inj h
    subst h
    refine ⟨l.length + 1, ?_⟩
    unfold F_impl_increasing
    by_cases hz : l.length = 0
    · have : l = [] := List.length_eq_zero_iff.1 hz
      subst this
      rfl
    · have := loop_all (L := fun k d => impl_increasing_l0 (l.length + 1) k d) (r := impl_increasing_l0_r (l.length + 1)) (fun _ _ => rfl) (n := l.length - 1) (mk := fun i => (l, ((i + 1 : Nat) : Int), ())) (p := fun i => decide (at_ I l i < at_ I l (i + 1))) (o := .inl (false, ())) (f := .inr (.inl ()))
        (by
          intro back i hi
          have h1 : i + 1 < l.length := by omega
          have h2 : i < l.length := by omega
          unfold impl_increasing_l0_r
          simp only [lt_dec h1, if_true, wrap_down (show 0 < i + 1 by omega) (show i + 1 ≤ maxLen by omega), idxIn_nat h1, wrap_up h1 hmx, Nat.add_sub_cancel, idxIn_nat h2, Int.toNat_natCast]
          by_cases hc : at_ I l i < at_ I l (i + 1)
          · have hc' : ¬ (at_ I l i ≥ at_ I l (i + 1)) := Int.not_le.2 hc
            simp only [hc, hc', decide_true, decide_false, if_true, Bool.false_eq_true, if_false]
          · have hc' : (at_ I l i ≥ at_ I l (i + 1)) := Int.not_lt.1 hc
            simp only [hc, hc', decide_true, decide_false, if_true, Bool.false_eq_true, if_false])
        (by
          intro back
          unfold impl_increasing_l0_r
          have e : l.length - 1 + 1 = l.length := by omega
          simp only [e, lt_not, Bool.false_eq_true, if_false]) l.length 0 (by omega) (by omega)
      simp only [Nat.zero_add, Int.natCast_one] at this
      simp only [this, Nat.sub_zero]
      have e : allB (fun i => decide (at_ I l i < at_ I l (i + 1))) (l.length - 1) 0 = risingB l := by
        apply bool_eq_iff
        rw [allB_iff, risingB_iff]
        simp only [decide_eq_true_eq]
        constructor
        · intro h j h1 h2
          have := h (j - 1) (by omega) (by omega)
          rwa [Nat.sub_add_cancel h1] at this
        · intro h j h1 h2
          exact h (j + 1) (by omega) (by omega)
      simp only [e]
      cases risingB l <;> rfl
  · cases h
theorem allWithin_lim (d) (r) (h : G_allWithin d = some r) : ∃ N, F_impl_allWithin N d = some r := by
  obtain ⟨l, lo, hi, _⟩ := d
  unfold G_allWithin at h
  split at h
  · rename_i hl
    have hl : l.length ≤ lim := of_decide_eq_true hl
    have hmx := lim_max hl
    have h := Option.some.inj h
    subst h
    refine ⟨l.length + 1, ?_⟩
    unfold F_impl_allWithin
    have := loop_all (L := impl_allWithin_l0 (l.length + 1)) (r := impl_allWithin_l0_r (l.length + 1)) (fun _ _ => rfl) (n := l.length) (mk := fun i => (lo, hi, l, (l.length : Int), (i : Int), ())) (p := fun i => inB lo hi (at_ I l i)) (o := .inl (false, ())) (f := .inr (.inl ()))
      (by
        intro back i hi'
        unfold impl_allWithin_l0_r
        simp only [lt_dec hi', if_true, idxIn_nat hi', Int.toNat_natCast, wrap_up hi' hmx, within_eq]
        cases hb : inB lo hi (at_ I l i) <;> rfl)
      (by intro back; unfold impl_allWithin_l0_r; simp only [lt_not, Bool.false_eq_true, if_false]) l.length 0 (by omega) (by omega)
    simp only [Int.natCast_zero] at this
    simp only [this, Nat.sub_zero, all_at (e := I) l (inB lo hi)]
    cases (l.all (inB lo hi)) <;> rfl
  · cases h
/-- What the walk answers before the first list is over. -/
def cmpW : List Int → List Int → Option Int
  | [], _ => none
  | _ :: _, [] => some 1
  | a :: l, b :: m => if a < b then some (-1) else if b < a then some 1 else cmpW l m
theorem cmpL_W : ∀ l m : List Int, cmpL l m = match cmpW l m with
    | some r => r
    | none => if l.length < m.length then -1 else 0 := by
  intro l
  induction l with
  | nil => intro m; cases m <;> simp [cmpL, cmpW]
  | cons a l ih =>
    intro m
    cases m with
    | nil => simp [cmpL, cmpW]
    | cons b m =>
      simp only [cmpL, cmpW]
      by_cases ha : a < b
      · simp [ha]
      · by_cases hb : b < a
        · simp [ha, hb]
        · simp only [ha, hb, if_false, ih m, List.length_cons, Nat.add_lt_add_iff_right]
theorem compare_l0 (N : Nat) (l m : List Int) (hl : l.length ≤ lim) (hm : m.length ≤ lim) : ∀ n i, l.length ≤ i + n → i ≤ l.length → i ≤ m.length → slices_Compare_Sint_int_l0 N (n + 1) (l, m, l, (l.length : Int), (i : Int), ()) = 
    match cmpW (l.drop i) (m.drop i) with
    | some r => some (.inl (r, ()))
    | none => some (.inr (.inl (l, m, ()))) := by
  have hmx := lim_max hl
  intro n
  induction n with
  | zero =>
    intro i h1 h2 h3
    have e : i = l.length := by omega
    subst e
    rw [List.drop_of_length_le (Nat.le_refl l.length)]
    simp [slices_Compare_Sint_int_l0, slices_Compare_Sint_int_l0_r, cmpW]
  | succ n ih =>
    intro i h1 h2 h3
    by_cases hi : i < l.length
    · show slices_Compare_Sint_int_l0_r N (slices_Compare_Sint_int_l0 N (n + 1)) (l, m, l, (l.length : Int), (i : Int), ()) = _
      unfold slices_Compare_Sint_int_l0_r
      simp only [lt_dec hi, if_true, idxIn_nat hi, Int.toNat_natCast, wrap_up hi hmx]
      rw [List.drop_eq_getElem_cons hi]
      by_cases hi' : i < m.length
      · have hge : decide ((i : Int) ≥ (m.length : Int)) = false := by simp; omega
        rw [List.drop_eq_getElem_cons hi']
        simp only [hge, Bool.false_eq_true, if_false, idxIn_nat hi', if_true, cmpI_eq, at_get (e := I) hi, at_get (e := I) (l := m) hi', List.get_eq_getElem, cmpW]
        by_cases ha : l[i] < m[i]
        · simp [ha]
        · by_cases hb : m[i] < l[i]
          · simp [ha, hb]
          · simp only [ha, hb, if_false, bne_self_eq_false, Bool.false_eq_true]
            exact ih (i + 1) (by omega) (by omega) (by omega)
      · have hge : decide ((i : Int) ≥ (m.length : Int)) = true := by simp; omega
        rw [List.drop_of_length_le (Nat.le_of_not_lt hi')]
        simp only [hge, if_true, cmpW]
    · have e : i = l.length := by omega
      subst e
      rw [List.drop_of_length_le (Nat.le_refl l.length)]
      simp [slices_Compare_Sint_int_l0, slices_Compare_Sint_int_l0_r, cmpW]
theorem compare_lim (d) (r) (h : G_compare d = some r) : ∃ N, F_slices_Compare_Sint_int N d = some r := by
  obtain ⟨l, m, _⟩ := d
  unfold G_compare at h
  split at h
  · rename_i hl
    simp only [Bool.and_eq_true] at hl
    have hm : m.length ≤ lim := of_decide_eq_true hl.2
    have hl : l.length ≤ lim := of_decide_eq_true hl.1
    have h := Option.some.inj h
    subst h
    refine ⟨l.length + 1, ?_⟩
    unfold F_slices_Compare_Sint_int
    have := compare_l0 (l.length + 1) l m hl hm l.length 0 (by omega) (by omega) (by omega)
    simp only [Int.natCast_zero, List.drop_zero] at this
    simp only [this, cmpL_W]
    cases cmpW l m with
    | some r => rfl
    | none =>
      by_cases hlt : l.length < m.length
      · have : decide ((l.length : Int) < (m.length : Int)) = true := by simp; omega
        simp only [Option.bind_some, this, if_true, hlt]
      · have : decide ((l.length : Int) < (m.length : Int)) = false := by simp; omega
        simp only [Option.bind_some, this, Bool.false_eq_true, if_false, hlt]
  · cases h
theorem graph_allB (n : Int) (l : List E) : allB (fun i => edgeB n (at_ K_Piiq l i) && (!decide (0 < i) || lessE (at_ K_Piiq l (i - 1)) (at_ K_Piiq l i))) l.length 0 = (l.all (edgeB n) && risingE l) := by
  rw [← all_at (e := K_Piiq) l (edgeB n)]
  apply bool_eq_iff
  rw [Bool.and_eq_true, allB_iff, allB_iff, risingE_iff]
  simp only [Bool.and_eq_true, Bool.or_eq_true, Bool.not_eq_true', decide_eq_false_iff_not]
  constructor
  · intro h
    exact ⟨fun j h1 h2 => (h j h1 h2).1, fun j h1 h2 => ((h j (by omega) (by omega)).2).resolve_left (by omega)⟩
  · rintro ⟨h1, h2⟩ j h3 h4
    refine ⟨h1 j h3 h4, ?_⟩
    by_cases h0 : 0 < j
    · exact .inr (h2 j h0 (by omega))
    · exact .inl h0
theorem cmp2 (a b : E) : decide (cmpL [a.1, a.2.1] [b.1, b.2.1] ≥ 0) = !lessE a b := by
  obtain ⟨a1, a2, _⟩ := a
  obtain ⟨b1, b2, _⟩ := b
  simp only [cmpL, lessE]
  by_cases h1 : a1 < b1
  · simp [h1]
  · by_cases h2 : b1 < a1
    · have : ¬ a1 = b1 := by omega
      simp [h1, h2, this]
    · have e : a1 = b1 := by omega
      subst e
      by_cases h3 : a2 < b2
      · simp [h3]
      · by_cases h4 : b2 < a2 <;> simp [h3, h4]
theorem edge_eq (n a b : Int) : (inB 0 (n - 1) a && inB 0 (n - 1) b && decide (a < b)) = (decide (0 ≤ a) && decide (a < b) && decide (b < n)) := by
  apply bool_eq_iff
  simp only [inB, Bool.and_eq_true, decide_eq_true_eq]
  omega
theorem okL2 (a b : Int) : okL [a, b] = true := decide_eq_true (show 2 ≤ lim by unfold lim; omega)
theorem IsGraph_lim (d) (r) (h : G_graph d = some r) : ∃ N, F_impl_IsGraph N d = some r := by
  obtain ⟨⟨n, l, u⟩, _⟩ := d
  unfold G_graph at h
  split at h
  · rename_i hl
    have hl : l.length ≤ lim := of_decide_eq_true hl
    have hmx := lim_max hl
    have h := Option.some.inj h
    subst h
    refine ⟨l.length + 1, ?_⟩
    unfold F_impl_IsGraph
    simp only [within_eq, graphB]
    cases hn : inB 0 8 n with
    | false =>
      simp only [inB] at hn
      simp only [Bool.not_false, if_true, hn, Bool.false_and]
    | true =>
      have hn' := hn
      simp only [inB] at hn'
      simp only [Bool.not_true, Bool.false_eq_true, if_false, hn', Bool.true_and]
      have := loop_all (L := impl_IsGraph_l0 (l.length + 1)) (r := impl_IsGraph_l0_r (l.length + 1)) (fun _ _ => rfl) (n := l.length) (mk := fun i => ((n, l, u), l, (l.length : Int), (i : Int), ())) (p := fun i => edgeB n (at_ K_Piiq l i) && (!decide (0 < i) || lessE (at_ K_Piiq l (i - 1)) (at_ K_Piiq l i))) (o := .inl (false, ())) (f := .inr (.inl ()))
        (by
          intro back i hi
          unfold impl_IsGraph_l0_r
          simp only [lt_dec hi, if_true, idxIn_nat hi, Int.toNat_natCast, wrap_up hi hmx, pos_dec]
          by_cases c1 : (at_ K_Piiq l i).1 < 0
          · have c1' : ¬ (0 ≤ (at_ K_Piiq l i).1) := Int.not_le.2 c1
            simp only [c1, decide_true, if_true, edgeB, c1', decide_false, Bool.false_and, Bool.false_eq_true, if_false]
          · have c1' : (0 ≤ (at_ K_Piiq l i).1) := Int.not_lt.1 c1
            by_cases c2 : (at_ K_Piiq l i).1 < (at_ K_Piiq l i).2.1
            · have c2' : ¬ ((at_ K_Piiq l i).1 ≥ (at_ K_Piiq l i).2.1) := Int.not_le.2 c2
              by_cases c3 : (at_ K_Piiq l i).2.1 < n
              · have c3' : ¬ ((at_ K_Piiq l i).2.1 ≥ n) := Int.not_le.2 c3
                by_cases h0 : 0 < i
                · have h1 : i - 1 < l.length := by omega
                  simp only [c1, c1', c2, c2', c3, c3', edgeB, decide_true, decide_false, if_true, if_false, Bool.false_eq_true, Bool.true_and, h0, wrap_down h0 (show i ≤ maxLen by omega), idxIn_nat h1, Int.toNat_natCast, Bool.not_true, Bool.false_or, G_compare, okL2, Option.bind_some, cmp2]
                  cases lessE (at_ K_Piiq l (i - 1)) (at_ K_Piiq l i) <;> rfl
                · simp only [c1, c1', c2, c2', c3, c3', edgeB, decide_true, decide_false, if_true, if_false, Bool.false_eq_true, Bool.true_and, h0, Bool.not_false, Bool.true_or]
              · have c3' : ((at_ K_Piiq l i).2.1 ≥ n) := Int.not_lt.1 c3
                simp only [c1, c1', c2, c2', c3, c3', edgeB, decide_true, decide_false, if_true, if_false, Bool.false_eq_true, Bool.and_false, Bool.false_and]
            · have c2' : ((at_ K_Piiq l i).1 ≥ (at_ K_Piiq l i).2.1) := Int.not_lt.1 c2
              simp only [c1, c1', c2, c2', edgeB, decide_true, decide_false, if_true, if_false, Bool.false_eq_true, Bool.and_false, Bool.false_and])
        (by intro back; unfold impl_IsGraph_l0_r; simp only [lt_not, Bool.false_eq_true, if_false]) l.length 0 (by omega) (by omega)
      simp only [Int.natCast_zero] at this
      simp only [this, Nat.sub_zero, graph_allB]
      cases (l.all (edgeB n) && risingE l) <;> rfl
  · cases h
theorem l2Good_lim (d) (r) (h : G_graph d = some r) : ∃ N, F_spec_l2Good N d = some r := by
  obtain ⟨⟨n, l, u⟩, _⟩ := d
  unfold G_graph at h
  split at h
  · rename_i hl
    have hl : l.length ≤ lim := of_decide_eq_true hl
    have hmx := lim_max hl
    have h := Option.some.inj h
    subst h
    refine ⟨l.length + 1, ?_⟩
    unfold F_spec_l2Good
    have := loop_all (L := spec_l2Good_l0 (l.length + 1)) (r := spec_l2Good_l0_r (l.length + 1)) (fun _ _ => rfl) (n := l.length) (mk := fun i => ((n, l, u), (i : Int), ())) (p := fun i => (inB 0 (IntKind.wrap .i64 (n - 1)) (at_ K_Piiq l i).1 && inB 0 (IntKind.wrap .i64 (n - 1)) (at_ K_Piiq l i).2.1 && decide ((at_ K_Piiq l i).1 < (at_ K_Piiq l i).2.1)) && (!decide (0 < i) || lessE (at_ K_Piiq l (i - 1)) (at_ K_Piiq l i))) (o := .inl (false, ())) (f := .inr (.inl ((n, l, u), ())))
        (by
          intro back i hi
          unfold spec_l2Good_l0_r
          simp only [lt_dec hi, if_true, idxIn_nat hi, Int.toNat_natCast, wrap_up hi hmx, pos_dec, l1In_eq, l2Before_eq]
          cases c1 : inB 0 (IntKind.wrap .i64 (n - 1)) (at_ K_Piiq l i).1 with
          | false => rfl
          | true =>
            cases c2 : inB 0 (IntKind.wrap .i64 (n - 1)) (at_ K_Piiq l i).2.1 with
            | false => rfl
            | true =>
              by_cases c3 : (at_ K_Piiq l i).1 < (at_ K_Piiq l i).2.1
              · have c3' : ¬ ((at_ K_Piiq l i).1 ≥ (at_ K_Piiq l i).2.1) := Int.not_le.2 c3
                by_cases h0 : 0 < i
                · have h1 : i - 1 < l.length := by omega
                  simp only [c3, c3', decide_true, decide_false, if_true, if_false, Bool.false_eq_true, Bool.true_and, h0, wrap_down h0 (show i ≤ maxLen by omega), idxIn_nat h1, Int.toNat_natCast, Bool.not_true, Bool.false_or]
                  cases lessE (at_ K_Piiq l (i - 1)) (at_ K_Piiq l i) <;> rfl
                · simp only [c3, c3', decide_true, decide_false, if_true, if_false, Bool.false_eq_true, Bool.true_and, h0, Bool.not_false, Bool.true_or, Bool.not_true]
              · have c3' : ((at_ K_Piiq l i).1 ≥ (at_ K_Piiq l i).2.1) := Int.not_lt.1 c3
                simp only [c3, c3', decide_true, decide_false, if_true, if_false, Bool.false_eq_true, Bool.true_and, Bool.false_and, Bool.not_true])
        (by intro back; unfold spec_l2Good_l0_r; simp only [lt_not, Bool.false_eq_true, if_false]) l.length 0 (by omega) (by omega)
    simp only [Int.natCast_zero] at this
    simp only [this, Nat.sub_zero, graphB]
    cases hn : inB 0 8 n with
    | false =>
      have hn' := hn
      simp only [inB] at hn'
      simp only [hn', Bool.false_and]
      split <;> simp [l1In_eq, hn]
    | true =>
      have hn' := hn
      simp only [inB] at hn'
      simp only [hn', Bool.true_and]
      simp only [Bool.and_eq_true, decide_eq_true_eq] at hn'
      have hw : IntKind.wrap .i64 (n - 1) = n - 1 := wrap_in _ (by omega) (by omega)
      have hp : (fun i => (inB 0 (IntKind.wrap .i64 (n - 1)) (at_ K_Piiq l i).1 && inB 0 (IntKind.wrap .i64 (n - 1)) (at_ K_Piiq l i).2.1 && decide ((at_ K_Piiq l i).1 < (at_ K_Piiq l i).2.1)) && (!decide (0 < i) || lessE (at_ K_Piiq l (i - 1)) (at_ K_Piiq l i))) = (fun i => edgeB n (at_ K_Piiq l i) && (!decide (0 < i) || lessE (at_ K_Piiq l (i - 1)) (at_ K_Piiq l i))) := by
        funext i
        congr 1
        rw [hw]
        exact edge_eq n _ _
      simp only [hp, graph_allB]
      cases (l.all (edgeB n) && risingE l) <;> simp [l1In_eq, hn]
  · cases h
end Go.V.W
set_option linter.unusedVariables false
set_option linter.unusedSimpArgs false
namespace Go.V.W
open Go.Proofs
theorem sz_wrap {a : Int} {n : Nat} (h0 : 0 ≤ a) (h1 : a ≤ 1048576) (hn : n ≤ maxLen) : IntKind.wrap .i64 (a - (n : Int)) = a - (n : Int) := by
  unfold maxLen at hn
  exact Go.IntWalk.i64_in _ (by omega)
theorem szStep_le {a : Int} {n : Nat} (h : ¬ szStep a n < 0) : n ≤ a ∧ szStep a n = a - n := by
  unfold szStep at h ⊢
  split at h
  · omega
  · exact ⟨by omega, by rw [if_neg (by assumption)]⟩
theorem szStep_neg {a : Int} {n : Nat} (h : szStep a n < 0) : szStep a n = -1 := by
  unfold szStep at h ⊢
  split at h
  · rw [if_pos (by assumption)]
  · omega
theorem szA2S_eq (l : List E) (a : Int) (u : Unit) (h0 : 0 ≤ a) (h1 : a ≤ 1048576) (hl : l.length ≤ maxLen) : g_laws_szIntA2S (l, a, u) = (szStep a l.length, ()) := by
  unfold g_laws_szIntA2S szStep
  simp only [sz_wrap h0 h1 hl]
  by_cases h : a - (l.length : Int) < 0 <;> simp only [h, decide_true, decide_false, if_true, if_false, Bool.false_eq_true]
theorem szS_eq (l : List Int) (a : Int) (u : Unit) (h0 : 0 ≤ a) (h1 : a ≤ 1048576) (hl : l.length ≤ maxLen) : g_laws_szIntS (l, a, u) = (szStep a l.length, ()) := by
  unfold g_laws_szIntS szStep
  simp only [sz_wrap h0 h1 hl]
  by_cases h : a - (l.length : Int) < 0 <;> simp only [h, decide_true, decide_false, if_true, if_false, Bool.false_eq_true]
theorem szGraph_eq (n : Int) (l : List E) (v : Unit) (a : Int) (u : Unit) (h0 : 0 ≤ a) (h1 : a ≤ 1048576) (hl : l.length ≤ maxLen) : g_laws_szGraph ((n, l, v), a, u) = (szStep a l.length, ()) := by
  unfold g_laws_szGraph
  simp only [szA2S_eq l a () h0 h1 hl]
  by_cases h : szStep a l.length < 0
  · simp [szStep_neg h]
  · simp only [h, decide_false, if_false, Bool.false_eq_true]
abbrev Wk := Gr × Int × Int × List Int × Int × Unit
theorem szWorkshop_neg (n : Int) (l : List E) (v : Unit) (p q : Int) (m : List Int) (t : Int) (u : Unit) (hl : l.length ≤ maxLen) (hm : m.length ≤ maxLen) : (g_laws_szWorkshop (((n, l, v), p, q, m, t, u), (1048576 : Int), ())).1 < 0 ∨ (l.length ≤ 1048576 ∧ m.length ≤ 1048576) := by
  unfold g_laws_szWorkshop
  simp only [szGraph_eq n l v 1048576 () (by omega) (by omega) hl]
  by_cases h : szStep 1048576 l.length < 0
  · left; simp only [h, decide_true, if_true]; decide
  · have := szStep_le h
    simp only [h, decide_false, if_false, Bool.false_eq_true, szS_eq m (szStep 1048576 l.length) () (by omega) (by omega) hm]
    by_cases h' : szStep (szStep 1048576 l.length) m.length < 0
    · left; simp only [h', decide_true, if_true]; decide
    · have := szStep_le h'
      right; omega
theorem okL_of {α : Type} {l : List α} (h : l.length ≤ 1048576) : okL l = true := decide_eq_true (by unfold lim; omega)
theorem toGraph_eq (n : Int) (l : List E) (u : Unit) (v : Unit) (hl : okL l = true) : F_laws_toGraph 0 ((n, l, u), v) = some ((n, l, u), v) := by
  unfold F_laws_toGraph G_toIntA2S
  simp only [hl, if_true, Option.bind_some]
theorem toWorkshop_eq (n : Int) (l : List E) (v : Unit) (p q : Int) (m : List Int) (t : Int) (u w : Unit) (hl : okL l = true) (hm : okL m = true) : F_laws_toWorkshop 0 (((n, l, v), p, q, m, t, u), w) = some (((n, l, v), p, q, m, t, u), w) := by
  unfold F_laws_toWorkshop G_toIntS
  simp only [toGraph_eq n l v _ hl, hm, if_true, Option.bind_some]
theorem eqGraph_self (n : Int) (l : List E) (u v w : Unit) (hl : okL l = true) : F_laws_eqGraph 0 ((n, l, u), (n, l, v), w) = some (true, ()) := by
  unfold F_laws_eqGraph G_eqIntA2S
  simp only [bne_self_eq_false, Bool.false_eq_true, if_false, hl, if_true, decide_true, Option.bind_some, Bool.not_true]
theorem eqWorkshop_self (n : Int) (l : List E) (v : Unit) (p q : Int) (m : List Int) (t : Int) (u w : Unit) (hl : okL l = true) (hm : okL m = true) : F_laws_eqWorkshop 0 (((n, l, v), p, q, m, t, u), ((n, l, v), p, q, m, t, u), w) = some (true, ()) := by
  unfold F_laws_eqWorkshop G_eqIntS
  simp only [eqGraph_self n l v v _ hl, hm, bne_self_eq_false, Bool.false_eq_true, if_false, if_true, decide_true, Option.bind_some, Bool.not_true]
def workB (w : Wk) : Bool := graphB w.1 && inB (-1) (w.1.1 - 1) w.2.1 && inB (-1) (w.1.1 - 1) w.2.2.1 && (w.2.2.2.1.all (inB 0 (w.1.1 - 1)) && risingB w.2.2.2.1) && inB 0 1000 w.2.2.2.2.1
theorem graphB_n {n : Int} {l : List E} {u : Unit} (h : graphB (n, l, u) = true) : 0 ≤ n ∧ n ≤ 8 := by
  unfold graphB at h
  simp only [Bool.and_eq_true, decide_eq_true_eq] at h
  exact ⟨h.1.1.1, h.1.1.2⟩
theorem implW (n : Int) (l : List E) (v : Unit) (p q : Int) (m : List Int) (t : Int) (u w : Unit) (hl : okL l = true) (hm : okL m = true) : F_impl_IsWorkshop 0 (((n, l, v), p, q, m, t, u), w) = some (workB ((n, l, v), p, q, m, t, u), ()) := by
  unfold F_impl_IsWorkshop F_impl_isSet F_impl_hasNodes workB G_allWithin G_increasing G_graph
  simp only [hl, hm, if_true, Option.bind_some, within_eq]
  cases hg : graphB (n, l, v) with
  | false => rfl
  | true =>
    have := graphB_n hg
    have hw : IntKind.wrap .i64 (n - 1) = n - 1 := wrap_in _ (by omega) (by omega)
    simp only [hw, if_true, Bool.true_and, Option.bind_some]
    cases inB (-1) (n - 1) p <;> cases inB (-1) (n - 1) q <;> cases m.all (inB 0 (n - 1)) <;> cases risingB m <;> simp
end Go.V.W
