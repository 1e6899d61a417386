/- What the law FnExactCrashLog leans on, part 3: an interpreter of the model as plain data, its soundness, the functions as it tells them, and their laws. -/
import Derived.LoopN
import Derived.Below
import Derived.Calls
import Derived.Sort.Grow
import Derived.Deep.Draws
import Derived.ChangeOld
import Derived.Carry
import Derived.OpenShut
import Derived.SizedLaws
import Derived.Shelf.Vars
import Derived.IntWalk
import Derived.Lib.IndexAny
import Derived.Lib.ItoaNum
import Derived.Lib.IndexMore
import Derived.Lib.IndexBytes
import Derived.Lib.ItoaLen
import Derived.Lib.Builder
import Derived.WalkKit
import Derived.Deep.DeepFit
import Derived.Laws.Rows
import Derived.KernelRfl
import Derived.Test.YtmcbhnnjcikfdaaDoorProg
import Derived.Laws.CopyOwn
import Derived.Deep.OwnRows
import Derived.Laws.IdiomStrings
import Derived.Test.YtmcbhnnjcikfdaaDoorVB
set_option linter.unusedVariables false
set_option linter.unusedSimpArgs false
set_option maxRecDepth 100000
set_option linter.unusedVariables false
set_option linter.unusedSimpArgs false
namespace Go.V
/-- What an entry of a form says of the state before and of the state behind. U: which root stands for which slot. -/
inductive Ent (s s' : State) (U : List (Nat × Nat)) : Nat → Slot → Prop
  | val {i : Nat} {k : Kd} {d : k.den} : s (sl i) = .val k d → s' (sl i) = .val k d → Ent s s' U i (.v k)
  | cst {i : Nat} {k : Kd} {d : k.den} : s (sl i) = .cst k d → s' (sl i) = .val k d → Ent s s' U i (.v k)
  | al {i r : Nat} {p : Path} {ver : Nat} {k k' : Kd} {d : k.den} {d' : k'.den} {box frz : Bool} {ver' : Nat} : s (sl i) = .al r p ver → s (rt r) = .root k' d' 0 box frz ver' → (Nat.beq ver ver' || (!box && p.isEmpty)) = true →
      getP p k' d' = some ⟨k, d⟩ → s' (sl i) = .val k d → Ent s s' U i (.v k)
  | own {i r : Nat} {ver : Nat} {k : Kd} {d : k.den} {dep dep' : Nat} {frz : Bool} {ver' : Nat} : s (sl i) = .al r [] ver → s (rt r) = .root k d dep' false frz ver' → dep ≤ dep' → (i, r) ∈ U → s' (sl i) = .al i [] 0 → s' (rt i) = .root k d dep false false 0 → Ent s s' U i (.own k dep)
  | ownc {i : Nat} {k : Kd} {d : k.den} {dep : Nat} : s (sl i) = .cst k d → s' (sl i) = .al i [] 0 → s' (rt i) = .root k d dep false false 0 → Ent s s' U i (.own k dep)
  | box {i r : Nat} {ver : Nat} {k : Kd} {d : k.den} {dep dep' : Nat} {ver' : Nat} : s (sl i) = .ptr r [] ver → s (rt r) = .root k d dep' true false ver' → dep ≤ dep' → (i, r) ∈ U → s' (sl i) = .ptr i [] 0 → s' (rt i) = .root k d dep true false 0 → Ent s s' U i (.box k dep)
  | sp {i : Nat} {k : Kd} {d : k.den} : s (sl i) = .sptr k d → s' (sl i) = .sptr k d → Ent s s' U i (.sp k)
  | spf {i r : Nat} {ver : Nat} {k : Kd} {d : k.den} {dep ver' : Nat} : s (sl i) = .ptr r [] ver → s (rt r) = .root k d dep true true ver' → (k.flat = true ∨ dep = 0) → s' (sl i) = .sptr k d → Ent s s' U i (.sp k)
  | same {i j r : Nat} {p : Path} {ver : Nat} {k : Kd} {d : k.den} {dep : Nat} {box frz : Bool} {ver' : Nat} : s (sl i) = .al r p ver → s (rt r) = .root k d dep box frz ver' → (Nat.beq ver ver' || (!box && p.isEmpty)) = true → (j, r) ∈ U → s' (sl i) = .al j p 0 → Ent s s' U i (.same j p)
def Slot.rooted : Slot → Bool
  | .own .. | .box .. => true
  | _ => false
theorem Ent.mono {s s' s'' : State} {U U' : List (Nat × Nat)} {i : Nat} {x : Slot} (h : Ent s s' U i x) (h1 : s'' (sl i) = s' (sl i)) (h2 : s'' (rt i) = s' (rt i)) (hU : ∀ y ∈ U, y ∈ U') : Ent s s'' U' i x := by
  cases h with
  | val a b => exact .val a (h1.trans b)
  | cst a b => exact .cst a (h1.trans b)
  | al a b c d e => exact .al a b c d (h1.trans e)
  | own a b c d e f => exact .own a b c (hU _ d) (h1.trans e) (h2.trans f)
  | ownc a b c => exact .ownc a (h1.trans b) (h2.trans c)
  | box a b c d e f => exact .box a b c (hU _ d) (h1.trans e) (h2.trans f)
  | sp a b => exact .sp a (h1.trans b)
  | spf a b c e => exact .spf a b c (h1.trans e)
  | same a b c d e => exact .same a b c (hU _ d) (h1.trans e)
theorem build_out : ∀ {f : Form} {d : f.den} {s0 : State}, (∀ t, t ∉ f.map (·.1) → (s0.put (build f d)) (sl t) = s0 (sl t) ∧ (s0.put (build f d)) (rt t) = s0 (rt t)) ∧
    (∀ t, (∀ x, (t, x) ∈ f → x.rooted = false) → (s0.put (build f d)) (rt t) = s0 (rt t)) := by
  intro f
  induction f with
  | nil => intro d s0; exact ⟨fun _ _ => ⟨rfl, rfl⟩, fun _ _ => rfl⟩
  | cons x f ih =>
    intro d s0
    obtain ⟨i, x⟩ := x
    have one : ∀ (W : Writes), (∀ y ∈ W, y.1 = sl i ∨ (y.1 = rt i ∧ x.rooted = true)) → ∀ (d' : Form.den f), build ((i, x) :: f) d = W ++ build f d' →
        (∀ t, t ∉ ((i, x) :: f).map (·.1) → (s0.put (build ((i, x) :: f) d)) (sl t) = s0 (sl t) ∧ (s0.put (build ((i, x) :: f) d)) (rt t) = s0 (rt t)) ∧
        (∀ t, (∀ y, (t, y) ∈ (i, x) :: f → y.rooted = false) → (s0.put (build ((i, x) :: f) d)) (rt t) = s0 (rt t)) := by
      intro W hW d' hb
      rw [hb]
      refine ⟨fun t ht => ?_, fun t ht => ?_⟩
      · simp only [List.map_cons, List.mem_cons, not_or] at ht
        rw [State.put_append]
        obtain ⟨h1, h2⟩ := (ih (d := d') (s0 := s0.put W)).1 t ht.2
        rw [h1, h2]
        refine ⟨put_notin fun c hc => ?_, put_notin fun c hc => ?_⟩
        · rcases hW _ hc with h | ⟨h, _⟩
          · exact ht.1 (sl_inj h)
          · exact sl_rt t i h
        · rcases hW _ hc with h | ⟨h, _⟩
          · exact sl_rt i t h.symm
          · exact ht.1 (rt_inj h)
      · rw [State.put_append, (ih (d := d') (s0 := s0.put W)).2 t fun y hy => ht y (by simp [hy])]
        refine put_notin fun c hc => ?_
        rcases hW _ hc with h | ⟨h, hx⟩
        · exact sl_rt i t h.symm
        · have := ht x (by simp [rt_inj h])
          rw [hx] at this
          cases this
    cases x with
    | v k => exact one [(sl i, .val k d.1)] (by simp) d.2 rfl
    | own k dep => exact one [(rt i, .root k d.1 dep false false 0), (sl i, .al i [] 0)] (by simp [Slot.rooted]) d.2 rfl
    | box k dep => exact one [(rt i, .root k d.1 dep true false 0), (sl i, .ptr i [] 0)] (by simp [Slot.rooted]) d.2 rfl
    | sp k => exact one [(sl i, .sptr k d.1)] (by simp) d.2 rfl
    | same j p => exact one [(sl i, .al j p 0)] (by simp) d.2 rfl
theorem contains_mem {u : List (Nat × Nat)} {r : Nat} (h : (u.map (·.2)).contains r = false) : ∀ i, (i, r) ∉ u := by
  intro i hi
  have : (u.map (·.2)).contains r = true := by
    rw [List.contains_iff_mem]
    exact List.mem_map.2 ⟨(i, r), hi, rfl⟩
  rw [h] at this
  cases this
/-- What the bringing into a form tells. -/
theorem norm_ents {s : State} : ∀ {f : Form} {u : List (Nat × Nat)} {d : f.den} {s0 : State}, norm s f u = some d → (f.map (·.1)).Nodup → (∀ x ∈ u, x.1 ∉ f.map (·.1)) → (u.Pairwise fun x y => x.2 ≠ y.2 ∧ x.1 ≠ y.1) →
    ∃ U, (∀ x ∈ u, x ∈ U) ∧ (U.Pairwise fun x y => x.2 ≠ y.2 ∧ x.1 ≠ y.1) ∧ (∀ x ∈ U, x ∈ u ∨ ∃ y, (x.1, y) ∈ f ∧ y.rooted = true ∧ ∃ p ver, s (sl x.1) = .al x.2 p ver ∨ s (sl x.1) = .ptr x.2 p ver) ∧ ∀ i x, (i, x) ∈ f → Ent s (s0.put (build f d)) U i x := by
  intro f
  induction f with
  | nil => intro u d s0 _ _ _ hp; exact ⟨u, fun _ h => h, hp, fun x h => .inl h, fun i x h => by simp at h⟩
  | cons z f ih =>
    intro u d s0 h hn hu hp
    obtain ⟨i, x⟩ := z
    simp only [List.map_cons, List.nodup_cons] at hn
    -- an entry without a root
    have plain : ∀ (W : Writes) (d' : Form.den f), norm s f u = some d' → build ((i, x) :: f) d = W ++ build f d' → (∀ (U : List (Nat × Nat)) (s1 : State), (∀ y ∈ u, y ∈ U) → Ent s (s1.put W) U i x) →
        ∃ U, (∀ x ∈ u, x ∈ U) ∧ (U.Pairwise fun x y => x.2 ≠ y.2 ∧ x.1 ≠ y.1) ∧ (∀ z ∈ U, z ∈ u ∨ ∃ y, (z.1, y) ∈ (i, x) :: f ∧ y.rooted = true ∧ ∃ p ver, s (sl z.1) = .al z.2 p ver ∨ s (sl z.1) = .ptr z.2 p ver) ∧ ∀ j y, (j, y) ∈ (i, x) :: f → Ent s (s0.put (build ((i, x) :: f) d)) U j y := by
      intro W d' h1 h2 h3
      obtain ⟨U, a1, a2, a3, a4⟩ := ih (s0 := s0.put W) h1 hn.2 (fun y hy => by have := hu y hy; simp at this; simp; exact this.2) hp
      refine ⟨U, a1, a2, fun z hz => (a3 z hz).imp _root_.id fun ⟨y, h1, h2⟩ => ⟨y, by simp [h1], h2⟩, fun j y hy => ?_⟩
      rw [h2, State.put_append]
      rcases List.mem_cons.1 hy with hy | hy
      · simp only [Prod.mk.injEq] at hy
        obtain ⟨rfl, rfl⟩ := hy
        have ho := (build_out (d := d') (s0 := s0.put W)).1 j hn.1
        exact (h3 U s0 a1).mono ho.1 ho.2 fun _ h => h
      · exact a4 j y hy
    have rooted : ∀ (W : Writes) (d' : Form.den f) (r : Nat), x.rooted = true → (∃ p ver, s (sl i) = .al r p ver ∨ s (sl i) = .ptr r p ver) → (∀ j, (j, r) ∉ u) → norm s f ((i, r) :: u) = some d' → build ((i, x) :: f) d = W ++ build f d' → (∀ (U : List (Nat × Nat)) (s1 : State), (i, r) ∈ U → Ent s (s1.put W) U i x) →
        ∃ U, (∀ x ∈ u, x ∈ U) ∧ (U.Pairwise fun x y => x.2 ≠ y.2 ∧ x.1 ≠ y.1) ∧ (∀ z ∈ U, z ∈ u ∨ ∃ y, (z.1, y) ∈ (i, x) :: f ∧ y.rooted = true ∧ ∃ p ver, s (sl z.1) = .al z.2 p ver ∨ s (sl z.1) = .ptr z.2 p ver) ∧ ∀ j y, (j, y) ∈ (i, x) :: f → Ent s (s0.put (build ((i, x) :: f) d)) U j y := by
      intro W d' r hxr hsr hr h1 h2 h3
      obtain ⟨U, a1, a2, a3, a4⟩ := ih (u := (i, r) :: u) (s0 := s0.put W) h1 hn.2
        (fun y hy => by
          rcases List.mem_cons.1 hy with rfl | hy
          · exact hn.1
          · have := hu y hy; simp at this; simp; exact this.2)
        (by
          rw [List.pairwise_cons]
          refine ⟨fun y hy => ⟨fun e => hr y.1 (by have e : r = y.2 := e; rw [e]; exact hy), fun e => ?_⟩, hp⟩
          have := hu y hy
          rw [← e] at this
          simp at this)
      refine ⟨U, fun y hy => a1 y (by simp [hy]), a2, fun z hz => ?_, fun j y hy => ?_⟩
      · rcases a3 z hz with h | ⟨y, h1, h2⟩
        · rcases List.mem_cons.1 h with rfl | h
          · exact .inr ⟨x, by simp, hxr, hsr⟩
          · exact .inl h
        · exact .inr ⟨y, by simp [h1], h2⟩
      · rw [h2, State.put_append]
        rcases List.mem_cons.1 hy with hy | hy
        · simp only [Prod.mk.injEq] at hy
          obtain ⟨rfl, rfl⟩ := hy
          have ho := (build_out (d := d') (s0 := s0.put W)).1 j hn.1
          exact (h3 U s0 (a1 _ (by simp))).mono ho.1 ho.2 fun _ h => h
        · exact a4 j y hy
    cases x with
    | v k =>
      simp only [norm] at h
      split at h
      · rename_i k' d' hs
        split at h
        · rename_i y z h1 h2
          injection h with h
          subst h
          have := cast?_eq h1
          injection this with e1 e2
          subst e1
          have e2 := eq_of_heq e2
          subst e2
          exact plain [(sl i, .val k' d')] z h2 rfl fun U s1 _ => .val hs (by simp only [State.put]; exact State.set_same _ _ _)
        · cases h
      · rename_i k' d' hs
        split at h
        · rename_i y z h1 h2
          injection h with h
          subst h
          have := cast?_eq h1
          injection this with e1 e2
          subst e1
          have e2 := eq_of_heq e2
          subst e2
          exact plain [(sl i, .val k' d')] z h2 rfl fun U s1 _ => .cst hs (by simp only [State.put]; exact State.set_same _ _ _)
        · cases h
      · rename_i r p ver hs
        split at h
        · rename_i k' d' box frz ver' hs'
          rcases bif_some h with ⟨hv, h1⟩ | ⟨_, h1⟩
          · split at h1
            · rename_i v hg
              split at h1
              · rename_i y z h2 h3
                injection h1 with h1
                subst h1
                have := cast?_eq h2
                subst this
                exact plain [(sl i, .val k y)] z h3 rfl fun U s1 _ => .al hs hs' hv hg (by simp only [State.put]; exact State.set_same _ _ _)
              · cases h1
            · cases h1
          · cases h1
        · cases h
      · cases h
    | own k dep =>
      simp only [norm] at h
      split at h
      · rename_i r p ver hs
        split at h
        · rename_i k' d' dep' box frz ver' hs'
          rcases bif_some h with ⟨hv, h1⟩ | ⟨_, h1⟩
          · simp only [Bool.and_eq_true, List.isEmpty_iff, Bool.not_eq_true', decide_eq_true_eq] at hv
            obtain ⟨⟨⟨rfl, rfl⟩, hd⟩, hc⟩ := hv
            split at h1
            · rename_i y z h2 h3
              injection h1 with h1
              subst h1
              have := cast?_eq h2
              injection this with e1 e2
              subst e1
              have e2 := eq_of_heq e2
              subst e2
              exact rooted [(rt i, .root k' d' dep false false 0), (sl i, .al i [] 0)] z r rfl ⟨_, _, .inl hs⟩ (contains_mem hc) h3 rfl fun U s1 hU => .own hs hs' hd hU (by simp only [State.put]; exact State.set_same _ _ _) (by simp only [State.put]; rw [State.set_other _ _ (sl_rt i i).symm, State.set_same])
            · cases h1
          · cases h1
        · cases h
      · rename_i k' d' hs
        split at h
        · rename_i y z h1 h2
          injection h with h
          subst h
          have := cast?_eq h1
          injection this with e1 e2
          subst e1
          have e2 := eq_of_heq e2
          subst e2
          exact plain [(rt i, .root k' d' dep false false 0), (sl i, .al i [] 0)] z h2 rfl fun U s1 _ => .ownc hs (by simp only [State.put]; exact State.set_same _ _ _) (by simp only [State.put]; rw [State.set_other _ _ (sl_rt i i).symm, State.set_same])
        · cases h
      · cases h
    | box k dep =>
      simp only [norm] at h
      split at h
      · rename_i r p ver hs
        split at h
        · rename_i k' d' dep' ver' hs'
          rcases bif_some h with ⟨hv, h1⟩ | ⟨_, h1⟩
          · simp only [Bool.and_eq_true, List.isEmpty_iff, Bool.not_eq_true', decide_eq_true_eq] at hv
            obtain ⟨⟨rfl, hd⟩, hc⟩ := hv
            split at h1
            · rename_i y z h2 h3
              injection h1 with h1
              subst h1
              have := cast?_eq h2
              injection this with e1 e2
              subst e1
              have e2 := eq_of_heq e2
              subst e2
              exact rooted [(rt i, .root k' d' dep true false 0), (sl i, .ptr i [] 0)] z r rfl ⟨_, _, .inr hs⟩ (contains_mem hc) h3 rfl fun U s1 hU => .box hs hs' hd hU (by simp only [State.put]; exact State.set_same _ _ _) (by simp only [State.put]; rw [State.set_other _ _ (sl_rt i i).symm, State.set_same])
            · cases h1
          · cases h1
        · cases h
      · cases h
    | sp k =>
      simp only [norm] at h
      split at h
      · rename_i k' d' hs
        split at h
        · rename_i y z h1 h2
          injection h with h
          subst h
          have := cast?_eq h1
          injection this with e1 e2
          subst e1
          have e2 := eq_of_heq e2
          subst e2
          exact plain [(sl i, .sptr k' d')] z h2 rfl fun U s1 _ => .sp hs (by simp only [State.put]; exact State.set_same _ _ _)
        · cases h
      · rename_i r p ver hs
        split at h
        · rename_i k' d' dep' ver' hs'
          rcases bif_some h with ⟨hv, h1⟩ | ⟨_, h1⟩
          · simp only [Bool.and_eq_true, Bool.or_eq_true, List.isEmpty_iff] at hv
            obtain ⟨rfl, hk0⟩ := hv
            split at h1
            · rename_i y z h2 h3
              injection h1 with h1
              subst h1
              have := cast?_eq h2
              injection this with e1 e2
              subst e1
              have e2 := eq_of_heq e2
              subst e2
              exact plain [(sl i, .sptr k' d')] z h3 rfl fun U s1 _ => .spf hs hs' (hk0.imp _root_.id fun h => Nat.eq_of_beq_eq_true h) (by simp only [State.put]; exact State.set_same _ _ _)
            · cases h1
          · cases h1
        · cases h
      · cases h
    | same j p =>
      simp only [norm] at h
      split at h
      · rename_i r q ver hs
        split at h
        · rename_i k' d' dep' box frz ver' hs'
          rcases bif_some h with ⟨hv, h1⟩ | ⟨_, h1⟩
          · simp only [Bool.and_eq_true, decide_eq_true_eq] at hv
            obtain ⟨⟨hc, rfl⟩, hver⟩ := hv
            have hc : (j, r) ∈ u := by rwa [List.contains_iff_mem] at hc
            split at h1
            · rename_i z h3
              injection h1 with h1
              subst h1
              exact plain [(sl i, .al j p 0)] z h3 rfl fun U s1 hU => .same hs hs' hver (hU _ hc) (by simp only [State.put]; exact State.set_same _ _ _)
            · cases h1
          · cases h1
        · cases h
      · cases h
/-- The owners behind. -/
noncomputable def normφ (φ : Nat → Option (Bool × Nat × Path)) (U : List (Nat × Nat)) (s' : State) : Nat → Option (Bool × Nat × Path) := fun b =>
  open Classical in
  match φ b with
  | none => none
  | some x => if x = far then some far else
    match U.find? (fun y => Nat.beq y.2 x.2.1) with
    | none => none
    | some y => if x.1 = true then some (true, y.1, x.2.2) else
      match s' (rt y.1) with
      | .root _ _ dep _ _ _ => if lev x.2.2 < dep then some (false, y.1, x.2.2) else none
      | _ => none
theorem find_snd : ∀ {U : List (Nat × Nat)}, (U.Pairwise fun x y => x.2 ≠ y.2 ∧ x.1 ≠ y.1) → ∀ x ∈ U, U.find? (fun y => Nat.beq y.2 x.2) = some x := by
  intro U
  induction U with
  | nil => intro _ x h; simp at h
  | cons y U ih =>
    intro hp x hx
    rw [List.pairwise_cons] at hp
    rcases List.mem_cons.1 hx with rfl | hx
    · simp
    · have : Nat.beq y.2 x.2 = false := by
        cases hb : Nat.beq y.2 x.2 with
        | false => rfl
        | true => exact absurd (Nat.eq_of_beq_eq_true hb) (hp.1 x hx).1
      rw [List.find?_cons, this]
      exact ih hp.2 x hx
section
variable {P : Program} {Γ : Ctx} {Kp : Keep} {B0 : World} {n : Nat} {G : Gh} {s : State} {a : Act} {w w' : World} {id : Nat} {o : Oper} {Q : Exit → Act → World → Prop} {ws : Writes}
theorem normφ_none {φ : Nat → Option (Bool × Nat × Path)} {U : List (Nat × Nat)} {s' : State} {b : Nat} (h : φ b = none) : normφ φ U s' b = none := by unfold normφ; rw [h]
theorem normφ_own {φ : Nat → Option (Bool × Nat × Path)} {U : List (Nat × Nat)} (hp : U.Pairwise fun x y => x.2 ≠ y.2 ∧ x.1 ≠ y.1) {s' : State} {b i r : Nat} {q : Path} {k : Kd} {d : k.den} {dep : Nat} {box frz : Bool} {ver : Nat} (hU : (i, r) ∈ U) (h : φ b = some (false, r, q)) (hs : s' (rt i) = .root k d dep box frz ver) :
    normφ φ U s' b = if lev q < dep then some (false, i, q) else none := by
  have hf : ((false, r, q) : Bool × Nat × Path) ≠ far := by simp [far]
  have hfd := find_snd hp _ hU
  simp only at hfd
  unfold normφ
  rw [h]
  simp only [hf, if_false, hfd, Bool.false_eq_true, hs]
theorem normφ_box {φ : Nat → Option (Bool × Nat × Path)} {U : List (Nat × Nat)} (hp : U.Pairwise fun x y => x.2 ≠ y.2 ∧ x.1 ≠ y.1) {s' : State} {b i r : Nat} (hU : (i, r) ∈ U) (h : φ b = some (true, r, [])) : normφ φ U s' b = some (true, i, []) := by
  have hf : ((true, r, []) : Bool × Nat × Path) ≠ far := by simp [far]
  have hfd := find_snd hp _ hU
  simp only at hfd
  unfold normφ
  rw [h]
  simp only [hf, if_false, hfd, if_true]
theorem norm_ok {f : Form} {d : f.den} (hn : (f.map (·.1)).Nodup) (h : norm s f [] = some d) (hi : Inv P Kp B0 n s a w) : Inv P Kp B0 n (f.state d) a w := by
  obtain ⟨G, g⟩ := hi.ghost
  obtain ⟨U, _, hp, hUf, hE⟩ := norm_ents (s0 := State.empty) h hn (by simp) List.Pairwise.nil
  have hUf : ∀ x ∈ U, ∃ y, (x.1, y) ∈ f ∧ y.rooted = true ∧ ∃ p ver, s (sl x.1) = .al x.2 p ver ∨ s (sl x.1) = .ptr x.2 p ver := fun x hx => (hUf x hx).resolve_left (by simp)
  refine ⟨hi.defers, hi.size, hi.base, ?_⟩
  let s' := f.state d
  have hs' : ∀ i x, (i, x) ∈ f → Ent s s' U i x := hE
  have hout := build_out (f := f) (d := d) (s0 := State.empty)
  let C' : Nat → List Value := fun i => match s (sl i) with
    | .al r _ _ => G.C r
    | .ptr r _ _ => G.C r
    | _ => (a.tmps.getD i undef).cells.toList
  let β' : Nat → Nat := fun i => match s (sl i) with
    | .ptr r _ _ => G.β r
    | _ => 0
  -- a root is one entry's
  have huniq : ∀ i x y, (i, x) ∈ f → (i, y) ∈ f → x = y := by
    intro i x y hx hy
    have key : ∀ (f : Form), (f.map (·.1)).Nodup → (i, x) ∈ f → (i, y) ∈ f → x = y := by
      intro f
      induction f with
      | nil => intro _ h; simp at h
      | cons z f ih =>
        intro hn hx hy
        simp only [List.map_cons, List.nodup_cons] at hn
        rcases List.mem_cons.1 hx with hx | hx <;> rcases List.mem_cons.1 hy with hy | hy
        · rw [← hx] at hy; injection hy with _ hy; exact hy.symm
        · exfalso; apply hn.1; rw [← hx]; exact List.mem_map.2 ⟨(i, y), hy, rfl⟩
        · exfalso; apply hn.1; rw [← hy]; exact List.mem_map.2 ⟨(i, x), hx, rfl⟩
        · exact ih hn.2 hx hy
    exact key f hn hx hy
  -- what stands at a slot whose root is carried on
  have hUroot : ∀ i r, (i, r) ∈ U → ∃ k d dep box frz ver dep', s (rt r) = .root k d dep' box frz ver ∧ dep ≤ dep' ∧ s' (rt i) = .root k d dep box false 0 ∧ C' i = G.C r ∧ (box = true → β' i = G.β r ∧ frz = false) := by
    intro i r hU
    obtain ⟨y, hy, hyr, p, ver, hsl⟩ := hUf _ hU
    have hone : ∀ r', (i, r') ∈ U → r' = r := by
      intro r' h'
      have key : ∀ (U : List (Nat × Nat)), (U.Pairwise fun x y => x.2 ≠ y.2 ∧ x.1 ≠ y.1) → (i, r) ∈ U → (i, r') ∈ U → r' = r := by
        intro U
        induction U with
        | nil => intro _ h; simp at h
        | cons z U ih =>
          intro hp h1 h2
          rw [List.pairwise_cons] at hp
          rcases List.mem_cons.1 h1 with h1 | h1 <;> rcases List.mem_cons.1 h2 with h2 | h2
          · rw [← h1] at h2; injection h2
          · exact absurd (by rw [← h1]) (hp.1 _ h2).2
          · exact absurd (by rw [← h2]) (hp.1 _ h1).2
          · exact ih hp.2 h1 h2
      exact key U hp hU h'
    cases hs' i y hy with
    | val => simp [Slot.rooted] at hyr
    | cst => simp [Slot.rooted] at hyr
    | al => simp [Slot.rooted] at hyr
    | sp => simp [Slot.rooted] at hyr
    | spf => simp [Slot.rooted] at hyr
    | same => simp [Slot.rooted] at hyr
    | ownc a1 a2 a3 => rw [a1] at hsl; rcases hsl with h | h <;> cases h
    | own a1 a2 a3 a4 a5 a6 =>
      have := hone _ a4
      subst this
      exact ⟨_, _, _, _, _, _, _, a2, a3, a6, by simp only [C', a1], fun h => by cases h⟩
    | box a1 a2 a3 a4 a5 a6 =>
      have := hone _ a4
      subst this
      exact ⟨_, _, _, _, _, _, _, a2, a3, a6, by simp only [C', a1], fun _ => ⟨by simp only [β', a1], rfl⟩⟩
  let φ' := normφ G.φ U s'
  have hcell : ∀ i r k d dep frz ver dep', (i, r) ∈ U → s (rt r) = .root k d dep' false frz ver → dep ≤ dep' → s' (rt i) = .root k d dep false false 0 → Rep w (ownS φ' i dep) k [] (G.C r) d := by
    intro i r k d dep frz ver dep' hU h1 h2 h3
    have hro := g.roots r
    rw [h1] at hro
    refine hro.1.frame fun q b _ hb _ => ⟨rfl, ?_⟩
    rcases ownS_lev hb with ⟨hl, hb⟩ | ⟨hl, hb⟩
    · have := normφ_own hp hU hb h3
      by_cases hlt : lev q < dep
      · simp only [ownS, hlt, if_true]; rw [if_pos hlt] at this; exact this
      · simp only [ownS, hlt, if_false]; rw [if_neg hlt] at this; exact this
    · have hlt : ¬ lev q < dep := by omega
      simp only [ownS, hlt, if_false]
      exact normφ_none hb
  have hcellb : ∀ i r k d dep ver dep', (i, r) ∈ U → s (rt r) = .root k d dep' true false ver → dep ≤ dep' → s' (rt i) = .root k d dep true false 0 → RootOk ⟨φ', C', β'⟩ w i (.root k d dep true false 0) := by
    intro i r k d dep ver dep' hU h1 h2 h3
    obtain ⟨_, _, _, _, _, _, _, e1, e2, e3, e4, e5⟩ := hUroot i r hU
    rw [h1] at e1
    simp only [Cell.root.injEq] at e1
    obtain ⟨rfl, _, _, rfl, _, _⟩ := e1
    have hro := g.roots r
    rw [h1] at hro
    refine ⟨?_, fun _ => ?_⟩
    · simp only
      rw [e4]
      refine hro.1.frame fun q b _ hb _ => ⟨rfl, ?_⟩
      rcases ownS_lev hb with ⟨hl, hb⟩ | ⟨hl, hb⟩
      · have := normφ_own hp hU hb h3
        by_cases hlt : lev q < dep
        · simp only [ownS, hlt, if_true]; rw [if_pos hlt] at this; exact this
        · simp only [ownS, hlt, if_false]; rw [if_neg hlt] at this; exact this
      · have hlt : ¬ lev q < dep := by omega
        simp only [ownS, hlt, if_false]
        exact normφ_none hb
    · obtain ⟨f1, f2⟩ := hro.2 rfl
      simp only [Bool.false_eq_true, if_false] at f2 ⊢
      rw [(e5 rfl).1, e4]
      exact ⟨f1, normφ_box hp hU f2⟩
  refine ⟨⟨φ', C', β'⟩, fun t => ?_, fun t => ?_, ?_⟩
  · show CellOk ⟨φ', C', β'⟩ w s' (a.tmps.getD t undef) (s' (sl t))
    by_cases ht : t ∈ f.map (·.1)
    · obtain ⟨⟨t', x⟩, hx, rfl⟩ := List.mem_map.1 ht
      simp only
      have hv := g.slots t'
      cases hs' t' x hx with
      | val a1 a2 =>
        rw [a2]
        rw [a1] at hv
        obtain ⟨c, c1, c2⟩ := hv
        exact ⟨c, c1, c2.frame fun q b _ hb _ => ⟨rfl, normφ_none hb⟩⟩
      | cst a1 a2 =>
        rw [a2]
        rw [a1] at hv
        obtain ⟨c, c1, c2⟩ := hv
        exact ⟨c, c1, c2.frame fun q b _ hb _ => hb.elim⟩
      | al a1 a2 a3 a4 a5 =>
        rename_i r p ver k k' d d' box frz ver'
        rw [a5]
        rw [a1] at hv
        simp only [CellOk] at hv
        rw [a2] at hv
        obtain ⟨z, e1, e2, e3⟩ := hv.2 (verOk a3)
        rw [a4] at e1
        have e1 := Option.some.inj e1
        subst e1
        have hro := g.roots r
        rw [a2] at hro
        have hrep := getP_rep hro.1 e2 a4
        exact ⟨_, e3, hrep.move fun q b hb _ => normφ_none (by simpa [ownS] using hb)⟩
      | own a1 a2 a3 a4 a5 a6 =>
        rename_i r ver k d dep dep' frz ver'
        rw [a5]
        rw [a1] at hv
        simp only [CellOk] at hv ⊢
        rw [a2] at hv
        rw [a6]
        obtain ⟨z, e1, e2, e3⟩ := hv.2 (.inr (by simp [noIdx]))
        simp only [getP, Option.some.injEq] at e1
        subst e1
        refine ⟨Nat.le_refl _, fun _ => ⟨_, rfl, trivial, ?_⟩⟩
        have : C' t' = G.C r := by simp only [C', a1]
        simp only [subC] at e3 ⊢
        rw [this]
        exact e3
      | ownc a1 a2 a3 =>
        rename_i k d dep
        rw [a2]
        rw [a1] at hv
        simp only [CellOk]
        rw [a3]
        obtain ⟨c, c1, c2⟩ := hv
        refine ⟨Nat.le_refl _, fun _ => ⟨_, rfl, trivial, ?_⟩⟩
        have : C' t' = c := by simp only [C', a1]; rw [c1]; exact mkVal_cells c2
        simp only [subC]
        rw [this]
        exact c1
      | box a1 a2 a3 a4 a5 a6 =>
        rename_i r ver k d dep dep' ver'
        rw [a5]
        rw [a1] at hv
        simp only [CellOk] at hv ⊢
        rw [a2] at hv
        rw [a6]
        obtain ⟨z, e1, e2, B, O, e3, e4⟩ := hv.2 (.inr (by simp [noIdx]))
        simp only [subA, home, cond_true, Option.some.injEq, Prod.mk.injEq] at e3
        obtain ⟨rfl, rfl⟩ := e3
        have : β' t' = G.β r := by simp only [β', a1]
        exact ⟨Nat.le_refl _, fun _ => ⟨_, rfl, trivial, _, _, by simp only [subA, home, cond_true]; rw [this], e4⟩⟩
      | sp a1 a2 =>
        rw [a2]
        rw [a1] at hv
        obtain ⟨B, O, e1, e2, e3, e4⟩ := hv
        exact ⟨B, O, e1, normφ_none e2, e3, e4.frame fun q b _ hb _ => ⟨rfl, normφ_none hb⟩⟩
      | spf a1 a2 a3 a4 =>
        rw [a4]
        rw [a1] at hv
        obtain ⟨B, e1, e2, e3, e4⟩ := frz_open g hv a2 a3
        exact ⟨B, 0, e1, normφ_none e2, e3, e4.frame fun q b _ hb _ => ⟨rfl, normφ_none hb⟩⟩
      | same a1 a2 a3 a4 a5 =>
        rename_i j r p ver k d dep box frz ver'
        rw [a5]
        rw [a1] at hv
        simp only [CellOk] at hv ⊢
        rw [a2] at hv
        obtain ⟨k2, d2, dep2, box2, frz2, ver2, dep3, f1, f2, f3, f4, f5⟩ := hUroot j r a4
        rw [a2] at f1
        simp only [Cell.root.injEq] at f1
        obtain ⟨rfl, f1, rfl, rfl, rfl, rfl⟩ := f1
        have f1 := eq_of_heq f1
        subst f1
        rw [f3]
        obtain ⟨z, e1, e2, e3⟩ := hv.2 (verOk a3)
        refine ⟨Nat.le_refl _, fun _ => ⟨z, e1, e2, ?_⟩⟩
        rw [f4]
        exact e3
    · have e : s' (sl t) = .none := (hout.1 t ht).1
      rw [e]
      trivial
  · show RootOk ⟨φ', C', β'⟩ w t (s' (rt t))
    by_cases ht : ∃ x, (t, x) ∈ f ∧ x.rooted = true
    · obtain ⟨x, hx, hxr⟩ := ht
      cases hs' t x hx with
      | val => simp [Slot.rooted] at hxr
      | cst => simp [Slot.rooted] at hxr
      | al => simp [Slot.rooted] at hxr
      | sp => simp [Slot.rooted] at hxr
      | spf => simp [Slot.rooted] at hxr
      | same => simp [Slot.rooted] at hxr
      | own a1 a2 a3 a4 a5 a6 =>
        rename_i r ver k d dep dep' frz ver'
        rw [a6]
        refine ⟨?_, fun h => by cases h⟩
        have : C' t = G.C r := by simp only [C', a1]
        simp only
        rw [this]
        exact hcell t r k d dep frz ver' dep' a4 a2 a3 a6
      | ownc a1 a2 a3 =>
        rename_i k d dep
        rw [a3]
        have hv := g.slots t
        rw [a1] at hv
        obtain ⟨c, c1, c2⟩ := hv
        refine ⟨?_, fun h => by cases h⟩
        have : C' t = c := by simp only [C', a1]; rw [c1]; exact mkVal_cells c2
        simp only
        rw [this]
        exact c2.frame fun q b _ hb _ => hb.elim
      | box a1 a2 a3 a4 a5 a6 =>
        rw [a6]
        exact hcellb _ _ _ _ _ _ _ a4 a2 a3 a6
    · have e : s' (rt t) = .none := hout.2 t fun x hx => by
        cases hb : x.rooted with
        | false => rfl
        | true => exact absurd ⟨x, hx, hb⟩ ht
      rw [e]
      trivial
  · have key : ∀ b x, φ' b = some x → ∃ y, G.φ b = some y ∧ (y = far → x = far) := by
      intro b x hx
      cases hb : G.φ b with
      | none => simp only [φ', normφ_none hb] at hx; cases hx
      | some y =>
        refine ⟨y, rfl, fun e => ?_⟩
        subst e
        simp only [φ', normφ, hb, if_true, Option.some.injEq] at hx
        exact hx.symm
    refine ⟨fun b x hx => ?_, fun b x hx => ?_, fun b hx => ?_⟩
    · obtain ⟨y, hy, hf⟩ := key b x hx
      rcases g.col.col b y hy with e | e
      · exact .inl (hf e)
      · exact .inr e
    · obtain ⟨y, hy, _⟩ := key b x hx
      exact g.col.lt b y hy
    · have hb := g.col.out b hx
      simp only [φ', normφ, hb, if_true]
theorem normP_ok {A : Nat → Option Value} {f : Form} {d : f.den} (hn : (f.map (·.1)).Nodup) (h : norm s f [] = some d) (hi : InvP P Kp B0 n A s a w) : InvP P Kp B0 n A (f.state d) a w := ⟨norm_ok hn h hi.inv, hi.pin⟩
end
end Go.V
set_option linter.unusedVariables false
set_option linter.unusedSimpArgs false
namespace Go.V
def Ex.to : Ex → Exit
  | .normal => .normal
  | .exit id => .exit id
  | .goto l => .goto l
  | .ret => .ret
def Outs.at : (o : Outs) → o.den → Ex × State
  | [], x => nomatch x
  | (e, f) :: r, x => match x with
    | .inl d => (e, f.state d)
    | .inr d => Outs.at r d
theorem Outs.give_at {R : Type} {K : Ex → State → Option R} : ∀ {o : Outs} {x : o.den}, Outs.give K o x = K (Outs.at o x).1 (Outs.at o x).2 := by
  intro o
  induction o with
  | nil => intro x; exact nomatch x
  | cons p o ih =>
    intro x
    obtain ⟨e, f⟩ := p
    cases x with
    | inl d => rfl
    | inr d => exact ih
def Outs.ok (o : Outs) : Prop := ∀ x ∈ o, (x.2.map (·.1)).Nodup
structure Piece.ok (p : Piece) : Prop where
  head : (p.head.map (·.1)).Nodup
  outs : Outs.ok p.outs
section
variable {P : Program} {Γ : Ctx} {Kp : Keep} {B0 : World} {n : Nat} {G : Gh} {s : State} {a : Act} {w w' : World} {id : Nat} {o : Oper} {Q : Exit → Act → World → Prop} {ws : Writes} {A : Nat → Option Value}
theorem take_ok {e : Ex} : ∀ {o : Outs} {x : o.den}, Outs.ok o → Outs.take s e o = some x → InvP P Kp B0 n A s a w → (Outs.at o x).1 = e ∧ InvP P Kp B0 n A (Outs.at o x).2 a w := by
  intro o
  induction o with
  | nil => intro x; exact nomatch x
  | cons p o ih =>
    intro x ho h hi
    obtain ⟨e', f⟩ := p
    simp only [Outs.take] at h
    rcases bif_some h with ⟨he, h1⟩ | ⟨_, h1⟩
    · rw [Option.map_eq_some_iff] at h1
      obtain ⟨d, h2, rfl⟩ := h1
      exact ⟨(of_decide_eq_true he).symm, normP_ok (ho (e', f) (by simp)) h2 hi⟩
    · rw [Option.map_eq_some_iff] at h1
      obtain ⟨d, h2, rfl⟩ := h1
      exact ih (fun y hy => ho y (by simp [hy])) h2 hi
/-- What is told of a piece of code is so. -/
def PieceOk (P : Program) (n : Nat) (A : Nat → Option Value) (c : Code) (p : Piece) : Prop :=
  ∀ (Kp : Keep) (B0 : World) (d : p.head.den) (x : p.outs.den) (a : Act) (w : World), p.run d = some x → InvP P Kp B0 n A (p.head.state d) a w →
    c.wp P (fun e a' w' => e = (Outs.at p.outs x).1.to ∧ InvP P Kp B0 n A (Outs.at p.outs x).2 a' w') a w
/-- The blocks of a code. -/
def blocksOf : Code → List (Nat × Code)
  | .seq a b | .cond _ a b => blocksOf a ++ blocksOf b
  | .block j b => (j, b) :: blocksOf b
  | .scope b | .loop b => blocksOf b
  | _ => []
/-- The slots that a code writes. -/
def dstsOk (q : Nat → Bool) : Code → Bool
  | .seq a b | .cond _ a b => dstsOk q a && dstsOk q b
  | .block _ b | .scope b | .loop b => dstsOk q b
  | .region _ ops _ => ops.toList.all fun o => match o.dst with | some d => q d | none => true
  | _ => true
theorem both_some {R : Type} {x y : Option R} {r : R} (h : both x y = some r) : x = some r ∧ y = some r := by
  unfold both at h
  split at h
  · rename_i e
    subst e
    exact ⟨h, h⟩
  · cases h
theorem pi_ok (E : Env P Γ) (hm : P.follows .mixedOrders = true) {Pc : Nat → Option Piece} {q : Nat → Bool} (hq : ∀ d, q d = true → d < n ∧ A d = none) : ∀ (c : Code) {R : Type} {clk : Nat} {s : State} {a : Act} {w : World} {K : Ex → Nat → State → Option R} {r : R} {Q : Exit → Act → World → Prop},
    dstsOk q c = true → (∀ id b o, (id, b) ∈ blocksOf c → Pc id = some o → o.ok ∧ PieceOk P n A (.block id b) o) → InvP P Kp B0 n A s a w → pi Γ Pc c clk s K = some r →
    (∀ e clk' s' a' w', InvP P Kp B0 n A s' a' w' → K e clk' s' = some r → Q e.to a' w') → c.wp P Q a w := by
  intro c
  induction c with
  | skip =>
    intro R clk s a w K r Q _ _ hi h hK
    exact wp_skip (hK .normal clk s a w hi (by simpa [pi] using h))
  | region rid ops draw =>
    intro R clk s a w K r Q hd _ hi h hK
    have hdst : ∀ o ∈ ops.toList, ∀ d, o.dst = some d → d < n ∧ A d = none := by
      intro o ho d hod
      simp only [dstsOk, List.all_eq_true] at hd
      have := hd o ho
      rw [hod] at this
      exact hq d this
    simp only [pi] at h
    cases draw with
    | false =>
      have := wp_plain (P := P) (Q := Q) E hdst ops.toList [] (by simp) hi (by simpa using h) (fun s' a' w' hi' hk => hK .normal _ s' a' w' hi' hk)
      exact wp_region (by simpa [List.range_eq_range'] using this)
    | true => exact wp_draw E hm hdst hi h fun s' a' w' hi' hk => hK .normal _ s' a' w' hi' hk
  | seq x y ihx ihy =>
    intro R clk s a w K r Q hd hP hi h hK
    simp only [pi] at h
    simp only [dstsOk, Bool.and_eq_true] at hd
    refine wp_seq (ihx hd.1 (fun id b o hb => hP id b o (by simp [blocksOf, hb])) hi h fun e clk' s' a' w' hi' hk => ?_)
    cases e with
    | normal => exact ihy hd.2 (fun id b o hb => hP id b o (by simp [blocksOf, hb])) hi' hk hK
    | exit id => exact hK _ _ _ _ _ hi' hk
    | goto l => exact hK _ _ _ _ _ hi' hk
    | ret => exact hK _ _ _ _ _ hi' hk
  | cond c x y ihx ihy =>
    intro R clk s a w K r Q hd hP hi h hK
    simp only [dstsOk, Bool.and_eq_true] at hd
    have hx := fun {clk : Nat} (hh : pi Γ Pc x clk s K = some r) => ihx (Q := Q) hd.1 (fun id b o hb => hP id b o (by simp [blocksOf, hb])) hi hh hK
    have hy := fun {clk : Nat} (hh : pi Γ Pc y clk s K = some r) => ihy (Q := Q) hd.2 (fun id b o hb => hP id b o (by simp [blocksOf, hb])) hi hh hK
    cases c with
    | tmp t =>
      simp only [pi] at h
      split at h
      · rename_i z hz
        obtain ⟨G, g⟩ := hi.inv.ghost
        have hv := g.slots t
        rw [hz] at hv
        obtain ⟨c, e1, e2⟩ := hv
        simp only [Rep] at e2
        subst e2
        have hev : a.eval (.tmp t) = .bool z := by
          have e1 : a.tmps.getD t undef = .bool z := e1
          simpa [Act.eval, Array.getD_eq_getD_getElem?] using e1
        cases z with
        | true =>
          rw [set_self _ _ _ hz] at h
          simp only [if_true] at h
          exact wp_cond_true hev (hx h)
        | false =>
          rw [set_self _ _ _ hz] at h
          simp only [Bool.false_eq_true, if_false] at h
          exact wp_cond_false hev (hy h)
      · rename_i z hz
        obtain ⟨G, g⟩ := hi.inv.ghost
        have hv := g.slots t
        rw [hz] at hv
        obtain ⟨z', e1, e2⟩ := hv
        have hev : a.eval (.tmp t) = .bool z' := by
          simpa [Act.eval, Array.getD_eq_getD_getElem?] using e1
        cases z with
        | true =>
          simp only [if_true] at h
          obtain ⟨h1, h2⟩ := both_some h
          cases z' with
          | true => exact wp_cond_true hev (hx h1)
          | false => exact wp_cond_false hev (hy h2)
        | false =>
          simp only [Bool.false_eq_true, if_false] at h
          cases z' with
          | true => exact absurd (e2 rfl) (by simp)
          | false => exact wp_cond_false hev (hy h)
      · cases h
    | const v =>
      cases v with
      | bool z =>
        simp only [pi] at h
        cases z with
        | true => exact wp_cond_true rfl (hx h)
        | false => exact wp_cond_false rfl (hy h)
      | _ => simp [pi] at h
    | _ => simp [pi] at h
  | block id b ih =>
    intro R clk s a w K r Q hd hP hi h hK
    simp only [pi] at h
    cases hp : Pc id with
    | some o =>
      rw [hp] at h
      simp only at h
      split at h
      · rename_i d hn
        rw [Option.bind_eq_some_iff] at h
        obtain ⟨x, h1, h2⟩ := h
        obtain ⟨k1, k2⟩ := hP id b o (by simp [blocksOf]) hp
        have hi' := normP_ok k1.head hn hi
        refine wp_mono (k2 Kp B0 d x a w h1 hi') fun e a' w' hh => ?_
        obtain ⟨rfl, hi2⟩ := hh
        rw [Outs.give_at] at h2
        exact hK _ _ _ _ _ hi2 h2
      · cases h
    | none =>
      rw [hp] at h
      simp only at h
      refine wp_block (ih hd (fun id' b' o hb => hP id' b' o (by simp [blocksOf, hb])) hi h fun e clk' s' a' w' hi' hk => ?_)
      cases e with
      | exit j =>
        simp only [Ex.to, Exit.inBlock]
        rcases bif_some hk with ⟨e1, hk⟩ | ⟨e1, hk⟩
        · rw [if_pos (Nat.eq_of_beq_eq_true e1)]
          exact hK _ _ _ _ _ hi' hk
        · rw [if_neg (fun e => by subst e; rw [Nat.beq_refl] at e1; cases e1)]
          exact hK _ _ _ _ _ hi' hk
      | normal => exact hK _ _ _ _ _ hi' hk
      | goto l => exact hK _ _ _ _ _ hi' hk
      | ret => exact hK _ _ _ _ _ hi' hk
  | exit id =>
    intro R clk s a w K r Q _ _ hi h hK
    exact wp_exit (hK (.exit id) clk s a w hi (by simpa [pi] using h))
  | label l =>
    intro R clk s a w K r Q _ _ hi h hK
    exact wp_label (hK .normal clk s a w hi (by simpa [pi] using h))
  | goto l =>
    intro R clk s a w K r Q _ _ hi h hK
    exact wp_goto (hK (.goto l) clk s a w hi (by simpa [pi] using h))
  | ret =>
    intro R clk s a w K r Q _ _ hi h hK
    exact wp_ret (hK .ret clk s a w hi (by simpa [pi] using h))
  | _ => intro R clk s a w K r Q _ _ _ h _; simp [pi] at h
/-- A loop, round after round. -/
theorem loop_ok (E : Env P Γ) (hm : P.follows .mixedOrders = true) {Pc : Nat → Option Piece} {q : Nat → Bool} (hq : ∀ d, q d = true → d < n ∧ A d = none) {id : Nat} {head : Form} {outs : Outs} {body : Code} (hok : (head.map (·.1)).Nodup ∧ Outs.ok outs) (hd : dstsOk q body = true)
    (hP : ∀ id b o, (id, b) ∈ blocksOf body → Pc id = some o → o.ok ∧ PieceOk P n A (.block id b) o) {L : Nat → head.den → Option outs.den} (h0 : ∀ d, L 0 d = none) (hL : ∀ m d, L (m + 1) d = roundR Γ Pc id head outs body (L m) d) :
    ∀ m, PieceOk P n A (.block id (.loop body)) ⟨head, outs, L m⟩ := by
  intro m Kp B0 d x a w hrun hi
  refine wp_block (wp_loop_rounds m ?_)
  simp only at hrun hi x d
  revert hrun hi
  generalize hQ : Exit.inBlock id (fun e a' w' => e = (Outs.at outs x).1.to ∧ InvP P Kp B0 n A (Outs.at outs x).2 a' w') = Q
  have hfin : ∀ (e : Ex) (s : State) (a' : Act) (w' : World), InvP P Kp B0 n A s a' w' → (match e with
      | .normal => none
      | .exit j => bif Nat.beq j id then Outs.take s .normal outs else Outs.take s (.exit j) outs
      | e => Outs.take s e outs) = some x → Q e.to a' w' := by
    intro e s a' w' hi' hk
    rw [← hQ]
    cases e with
    | normal => cases hk
    | exit j =>
      simp only [Ex.to, Exit.inBlock]
      rcases bif_some hk with ⟨e1, hk⟩ | ⟨e1, hk⟩
      · rw [if_pos (Nat.eq_of_beq_eq_true e1)]
        obtain ⟨k1, k2⟩ := take_ok hok.2 hk hi'
        exact ⟨by simp [k1, Ex.to], k2⟩
      · rw [if_neg (fun e => by subst e; rw [Nat.beq_refl] at e1; cases e1)]
        obtain ⟨k1, k2⟩ := take_ok hok.2 hk hi'
        exact ⟨by simp [k1, Ex.to], k2⟩
    | goto l =>
      obtain ⟨k1, k2⟩ := take_ok hok.2 hk hi'
      exact ⟨by rw [k1], k2⟩
    | ret =>
      obtain ⟨k1, k2⟩ := take_ok hok.2 hk hi'
      exact ⟨by rw [k1], k2⟩
  clear hQ
  induction m generalizing d a w with
  | zero => intro h; rw [h0] at h; cases h
  | succ m ih =>
    intro hrun hi
    rw [hL] at hrun
    rw [rounds_succ]
    refine pi_ok E hm hq body hd hP hi hrun fun e clk' s' a' w' hi' hk => ?_
    cases e with
    | normal =>
      simp only [Option.bind_eq_some_iff] at hk
      obtain ⟨d', k1, k2⟩ := hk
      exact ih d' a' w' k2 (normP_ok hok.1 k1 hi')
    | exit j => exact hfin (.exit j) s' a' w' hi' hk
    | goto l => exact hfin (.goto l) s' a' w' hi' hk
    | ret => exact hfin .ret s' a' w' hi' hk
end
end Go.V
set_option linter.unusedVariables false
set_option linter.unusedSimpArgs false
namespace Go.V
section
variable {P : Program} {Γ : Ctx} {Kp : Keep} {B0 : World} {n : Nat} {G : Gh} {s : State} {a : Act} {w w' : World} {id : Nat} {o : Oper} {Q : Exit → Act → World → Prop} {ws : Writes} {A : Nat → Option Value}
theorem ArgsOk.length {ψ : Nat → Option (Nat × Path)} {U : Nat → Prop} : ∀ {ps : List (Kd × Bool)} {i : Nat} {vs : List Value} {d : (Kd.tuple (ps.map (·.1))).den}, ArgsOk w ψ U i ps vs d → vs.length = ps.length := by
  intro ps
  induction ps with
  | nil => intro i vs d h; rw [show vs = [] from h]; rfl
  | cons p ps ih =>
    intro i vs d h
    obtain ⟨k, io⟩ := p
    obtain ⟨c, r, h1, _, h2⟩ := h
    subst h1
    simp [ih h2]
/-- What stands at the begin. -/
theorem start_ents {ψ : Nat → Option (Nat × Path)} {U : Nat → Prop} : ∀ {ps : List (Kd × Bool)} {i : Nat} {vs : List Value} {d : (Kd.tuple (ps.map (·.1))).den} {s1 : State}, ArgsOk w ψ U i ps vs d →
    (∀ t, (t < i ∨ i + ps.length ≤ t) → (s1.put (start i ps d)) (sl t) = s1 (sl t) ∧ (s1.put (start i ps d)) (rt t) = s1 (rt t)) ∧
    ∀ j, j < ps.length → ∃ k c, ∃ dd : k.den, vs[j]? = some (mkVal k c) ∧
      (((s1.put (start i ps d)) (sl (i + j)) = .val k dd ∧ (s1.put (start i ps d)) (rt (i + j)) = s1 (rt (i + j)) ∧ Rep w (fun _ b => U b) k [] c dd) ∨
       ((s1.put (start i ps d)) (sl (i + j)) = .al (i + j) [] 0 ∧ (s1.put (start i ps d)) (rt (i + j)) = .root k dd k.lev false false 0 ∧ Rep w (fun q b => ψ b = some (i + j, q)) k [] c dd)) := by
  intro ps
  induction ps with
  | nil => intro i vs d s1 h; exact ⟨fun _ _ => ⟨rfl, rfl⟩, fun j hj => by simp at hj⟩
  | cons p ps ih =>
    intro i vs d s1 h
    obtain ⟨k, io⟩ := p
    obtain ⟨c, r, h1, h2, h3⟩ := h
    subst h1
    cases io with
    | false =>
      obtain ⟨e1, e2⟩ := ih (s1 := s1.set (sl i) (.val k d.1)) h3
      have eq : s1.put (start i ((k, false) :: ps) d) = (s1.set (sl i) (.val k d.1)).put (start (i + 1) ps d.2) := rfl
      rw [eq]
      refine ⟨fun t ht => ?_, fun j hj => ?_⟩
      · simp only [List.length_cons] at ht
        obtain ⟨f1, f2⟩ := e1 t (by omega)
        rw [f1, f2, State.set_other _ _ (fun e => by have := sl_inj e; omega), State.set_other _ _ (sl_rt i t).symm]
        exact ⟨rfl, rfl⟩
      · cases j with
        | zero =>
          obtain ⟨f1, f2⟩ := e1 i (by omega)
          refine ⟨k, c, d.1, rfl, .inl ⟨?_, ?_, h2⟩⟩
          · exact f1.trans (State.set_same _ _ _)
          · exact f2.trans (State.set_other _ _ (sl_rt i i).symm)
        | succ j =>
          obtain ⟨k', c', dd, g1, g2⟩ := e2 j (by simpa using hj)
          refine ⟨k', c', dd, by simpa using g1, ?_⟩
          rw [show i + (j + 1) = i + 1 + j by omega]
          rw [State.set_other _ _ (sl_rt i (i + 1 + j)).symm] at g2
          exact g2
    | true =>
      obtain ⟨e1, e2⟩ := ih (s1 := (s1.set (rt i) (.root k d.1 k.lev false false 0)).set (sl i) (.al i [] 0)) h3
      have eq : s1.put (start i ((k, true) :: ps) d) = ((s1.set (rt i) (.root k d.1 k.lev false false 0)).set (sl i) (.al i [] 0)).put (start (i + 1) ps d.2) := rfl
      rw [eq]
      refine ⟨fun t ht => ?_, fun j hj => ?_⟩
      · simp only [List.length_cons] at ht
        obtain ⟨f1, f2⟩ := e1 t (by omega)
        rw [f1, f2, State.set_other _ _ (fun e => by have := sl_inj e; omega), State.set_other _ _ (sl_rt t i), State.set_other _ _ (sl_rt i t).symm, State.set_other _ _ (fun e => by have := rt_inj e; omega)]
        exact ⟨rfl, rfl⟩
      · cases j with
        | zero =>
          obtain ⟨f1, f2⟩ := e1 i (by omega)
          refine ⟨k, c, d.1, rfl, .inr ⟨?_, ?_, h2⟩⟩
          · exact f1.trans (State.set_same _ _ _)
          · exact f2.trans ((State.set_other _ _ (sl_rt i i).symm).trans (State.set_same _ _ _))
        | succ j =>
          obtain ⟨k', c', dd, g1, g2⟩ := e2 j (by simpa using hj)
          refine ⟨k', c', dd, by simpa using g1, ?_⟩
          rw [show i + (j + 1) = i + 1 + j by omega]
          have : ((s1.set (rt i) (.root k d.1 k.lev false false 0)).set (sl i) (.al i [] 0)) (rt (i + 1 + j)) = s1 (rt (i + 1 + j)) := by
            rw [State.set_other _ _ (sl_rt i (i + 1 + j)).symm, State.set_other _ _ (fun e => by have := rt_inj e; omega)]
          rw [this] at g2
          exact g2
/-- Which blocks the callee counts as whose. -/
noncomputable def inφ (ψ : Nat → Option (Nat × Path)) (U : Nat → Prop) (size : Nat) : Nat → Option (Bool × Nat × Path) := fun b =>
  open Classical in
  match ψ b with
  | some (i, q) => some (false, i, q)
  | none => if b < size ∧ ¬ U b then some far else none
def inK (ψ : Nat → Option (Nat × Path)) (U : Nat → Prop) (size : Nat) : Keep := ⟨fun b => b < size ∧ ψ b = none, fun b => b < size ∧ ψ b = none ∧ ¬ U b⟩
/-- Whether a parameter is lent. -/
def ioAt (ps : List (Kd × Bool)) (d : Nat) : Bool := match ps[d]? with
  | some p => p.2
  | none => false
def inA (ps : List (Kd × Bool)) (vs : List Value) : Nat → Option Value := fun t => bif ioAt ps t then vs[t]? else none
theorem start_ok {ψ : Nat → Option (Nat × Path)} {U : Nat → Prop} {ps : List (Kd × Bool)} {vs : List Value} {d : (Kd.tuple (ps.map (·.1))).den} (h : ArgsOk w ψ U 0 ps vs d) (hU : ∀ b, U b → ψ b = none)
    (hψ : ∀ b z, ψ b = some z → Live w (b)) (hgl : Gl P w ψ) (hn : ps.length ≤ n) :
    InvP P (inK ψ U w.heap.size) w n (inA ps vs) (State.empty.put (start 0 ps d)) { tmps := vs.toArray ++ Array.replicate (n - vs.toArray.size) undef, defers := [] } w := by
  have hlen := h.length
  obtain ⟨e1, e2⟩ := start_ents (s1 := State.empty) h
  have htmp : ∀ t v, vs[t]? = some v → (vs.toArray ++ Array.replicate (n - vs.toArray.size) undef).getD t undef = v := by
    intro t v hv
    have hlt := (List.getElem?_eq_some_iff.1 hv).1
    rw [Array.getD_eq_getD_getElem?, Array.getElem?_append_left (by simpa using hlt)]
    simp [hv]
  refine ⟨⟨rfl, by simp; omega, ⟨rfl, rfl, rfl, Nat.le_refl _, fun _ _ => rfl, fun b hb => hb.1, fun b hb => ⟨⟨(hgl b hb).2.lt hb, (hgl b hb).1⟩, (hgl b hb).2⟩⟩, ⟨inφ ψ U w.heap.size, fun t => (vs.getD t undef).cells.toList, fun _ => 0⟩, ?_, ?_, ?_⟩, fun t v hv => by
    unfold inA at hv
    rcases bif_some hv with ⟨_, hv⟩ | ⟨_, hv⟩
    · exact htmp t v hv
    · cases hv⟩
  · intro t
    by_cases ht : t < ps.length
    · obtain ⟨k, c, dd, f1, f2⟩ := e2 t ht
      rw [Nat.zero_add] at f2
      simp only
      rw [htmp t _ f1]
      rcases f2 with ⟨f2, _, f3⟩ | ⟨f2, f4, f3⟩
      · rw [f2]
        refine ⟨c, rfl, f3.frame fun q b _ hb _ => ⟨rfl, ?_⟩⟩
        simp only [shS, inφ, hU b hb, hb, not_true_eq_false, and_false, if_false]
      · rw [f2]
        simp only [CellOk]
        rw [f4]
        refine ⟨Nat.le_refl _, fun _ => ⟨⟨k, dd⟩, rfl, trivial, ?_⟩⟩
        simp only [subC, List.getD_eq_getElem?_getD, f1, Option.getD_some]
        rw [mkVal_cells f3]
    · have := (e1 t (by omega)).1
      rw [this]
      trivial
  · intro t
    by_cases ht : t < ps.length
    · obtain ⟨k, c, dd, f1, f2⟩ := e2 t ht
      rw [Nat.zero_add] at f2
      rcases f2 with ⟨_, f4, _⟩ | ⟨_, f4, f3⟩
      · rw [f4]
        trivial
      · rw [f4]
        refine ⟨?_, fun h => by cases h⟩
        simp only [List.getD_eq_getElem?_getD, f1, Option.getD_some]
        rw [mkVal_cells f3]
        refine f3.lim.frame fun q b _ hb _ => ⟨rfl, ?_⟩
        obtain ⟨g1, _, g2⟩ := hb
        simp only [lev, Nat.zero_add] at g2
        simp only [ownS, g2, if_true, inφ, g1]
    · have := (e1 t (by omega)).2
      rw [this]
      trivial
  · have key : ∀ b x, inφ ψ U w.heap.size b = some x → (∃ i q, ψ b = some (i, q) ∧ x = (false, i, q)) ∨ (ψ b = none ∧ b < w.heap.size ∧ ¬ U b ∧ x = far) := by
      intro b x hx
      unfold inφ at hx
      split at hx
      · rename_i i q hb
        exact .inl ⟨i, q, hb, (Option.some.inj hx).symm⟩
      · rename_i hb
        split at hx
        · rename_i hc
          exact .inr ⟨hb, hc.1, hc.2, (Option.some.inj hx).symm⟩
        · cases hx
    refine ⟨fun b x hx => ?_, fun b x hx => ?_, fun b hb => ?_⟩
    · rcases key b x hx with ⟨i, q, h1, h2⟩ | ⟨_, _, _, h2⟩
      · refine .inr ⟨fun hk => ?_, hψ b _ h1⟩
        rw [hk.2] at h1
        cases h1
      · exact .inl h2
    · rcases key b x hx with ⟨i, q, h1, h2⟩ | ⟨_, h1, _, h2⟩
      · exact (hψ b _ h1).lt
      · exact h1
    · simp only [inφ, hb.2.1]
      rw [if_pos ⟨hb.1, hb.2.2⟩]
end
end Go.V
set_option linter.unusedVariables false
set_option linter.unusedSimpArgs false
namespace Go.V
section
variable {P : Program} {Γ : Ctx} {Kp : Keep} {B0 : World} {n : Nat} {G : Gh} {s : State} {a : Act} {w w' : World} {id : Nat} {o : Oper} {Q : Exit → Act → World → Prop} {ws : Writes} {A : Nat → Option Value}
theorem ft {p : Prop} (h : false = true) : p := Bool.noConfusion h
theorem tf {p : Prop} (h : true = false) : p := Bool.noConfusion h
theorem ns {α : Type} {x : α} {p : Prop} (h : none = some x) : p := by cases h
theorem sn {α : Type} {x : α} {p : Prop} (h : some x = none) : p := by cases h
theorem any_beq {u : List Nat} {r : Nat} (h : u.any (Nat.beq r) = false) : r ∉ u := by
  intro hm
  rw [List.any_eq_false] at h
  exact h r hm (Nat.beq_refl r)
theorem ioV_ok (g : GOk Kp G s a w) : ∀ {ps : List (Kd × Bool)} {i : Nat} {u : List Nat} {y : (Kd.tuple ((ps.filter (·.2)).map (·.1))).den} {u' : List Nat}, ioV s i ps u = some (y, u') →
    ∃ L : List (Nat × Nat), (∀ x ∈ L, i ≤ x.1) ∧ (L.Pairwise fun x y => x.2 ≠ y.2) ∧ (∀ x ∈ L, x.2 ∉ u) ∧ (∀ r, r ∈ u' ↔ r ∈ u ∨ ∃ x ∈ L, x.2 = r) ∧
      ∀ vs : List Value, vs.length = ps.length → (∀ j v, ioAt ps j = true → vs[j]? = some v → a.tmps.getD (i + j) undef = v) → ∀ χ : Nat → Option Lab, (∀ x ∈ L, ∀ b q, G.φ b = some (false, x.2, q) → χ b = some (.io x.1 q)) → IoOk w χ i ps vs y := by
  intro ps
  induction ps with
  | nil =>
    intro i u y u' h
    simp only [ioV, Option.some.injEq, Prod.mk.injEq] at h
    obtain ⟨_, rfl⟩ := h
    exact ⟨[], fun _ h => by simp at h, List.Pairwise.nil, fun _ h => by simp at h, fun r => by simp, fun _ _ _ _ _ => trivial⟩
  | cons p ps ih =>
    intro i u y u' h
    obtain ⟨k, io⟩ := p
    cases io with
    | false =>
      have h : ioV s (i + 1) ps u = some (y, u') := h
      obtain ⟨L, l1, l2, l3, l4, l5⟩ := ih h
      refine ⟨L, fun x hx => by have := l1 x hx; omega, l2, l3, l4, fun vs hlen hv χ hχ => ?_⟩
      cases vs with
      | nil => simp at hlen
      | cons v vs =>
        exact l5 vs (by simpa using hlen) (fun j v' hio hj => by have := hv (j + 1) v' (by simpa [ioAt] using hio) (by simpa using hj); rw [show i + 1 + j = i + (j + 1) by omega]; exact this) χ hχ
    | true =>
      simp only [ioV] at h
      split at h
      · rename_i r p ver hs
        split at h
        · rename_i k' d dep box frz ver' hr
          rcases bif_some h with ⟨hc, h1⟩ | ⟨_, h1⟩
          · simp only [Bool.and_eq_true, List.isEmpty_iff, Bool.not_eq_true', decide_eq_true_eq] at hc
            obtain ⟨⟨⟨rfl, rfl⟩, hd⟩, hu⟩ := hc
            have hu := any_beq hu
            split at h1
            · rename_i x z hx hz
              have h2 := Option.some.inj h1
              have hk := cast?_eq hx
              injection hk with e1 e2
              subst e1
              have e2 := eq_of_heq e2
              subst e2
              obtain ⟨L, l1, l2, l3, l4, l5⟩ := ih (y := z.1) (u' := z.2) hz
              refine ⟨(i, r) :: L, fun x hx => ?_, ?_, fun x hx => ?_, fun r' => ?_, fun vs hlen hv χ hχ => ?_⟩
              · rcases List.mem_cons.1 hx with rfl | hx
                · exact Nat.le_refl _
                · have := l1 x hx; omega
              · rw [List.pairwise_cons]
                exact ⟨fun x hx e => l3 x hx (by rw [← e]; simp), l2⟩
              · rcases List.mem_cons.1 hx with rfl | hx
                · exact hu
                · exact fun hm => l3 x hx (by simp [hm])
              · injection h2 with _ h2
                rw [← h2, l4]
                simp only [List.mem_cons, exists_eq_or_imp]
                constructor
                · rintro ((rfl | h) | h)
                  · exact .inr (.inl rfl)
                  · exact .inl h
                  · exact .inr (.inr h)
                · rintro (h | rfl | h)
                  · exact .inl (.inr h)
                  · exact .inl (.inl rfl)
                  · exact .inr h
              · cases vs with
                | nil => simp at hlen
                | cons v vs =>
                  have h3 : y = (d, z.1) := by injection h2 with h2 _; exact h2.symm
                  have hrest := l5 vs (by simpa using hlen) (fun j v' hio hj => by have := hv (j + 1) v' (by simpa [ioAt] using hio) (by simpa using hj); rw [show i + 1 + j = i + (j + 1) by omega]; exact this) χ (fun x hx => hχ x (by simp [hx]))
                  have hcell := g.slots i
                  rw [hs] at hcell
                  simp only [CellOk] at hcell
                  rw [hr] at hcell
                  obtain ⟨z', f1, f2, f3⟩ := hcell.2 (.inr (by simp))
                  simp only [getP, Option.some.injEq] at f1
                  subst f1
                  have hv0 := hv 0 v rfl rfl
                  rw [Nat.add_zero] at hv0
                  rw [hv0] at f3
                  simp only [subC] at f3
                  have hro := g.roots r
                  rw [hr] at hro
                  show ∃ c r, (v :: vs) = mkVal k' c :: r ∧ c.length = k'.size ∧ Rep w (fun q b => χ b = some (.io i q)) k' [] c y.1 ∧ IoOk w χ (i + 1) ps r y.2
                  refine ⟨G.C r, vs, by rw [f3], hro.1.length, ?_, ?_⟩
                  · rw [h3]
                    refine hro.1.lim.frame fun q b _ hb _ => ⟨rfl, ?_⟩
                    obtain ⟨g1, _, g2⟩ := hb
                    simp only [lev, Nat.zero_add] at g2
                    have : lev q < dep := by omega
                    simp only [ownS, this, if_true] at g1
                    exact hχ (i, r) (by simp) b q g1
                  · rw [h3]; exact hrest
            · cases h1
          · cases h1
        · cases h
      · rename_i r hs
        split at h
        · rename_i k' d dep ver' hr
          rcases bif_some h with ⟨hc, h1⟩ | ⟨_, h1⟩
          · simp only [Bool.and_eq_true, Bool.not_eq_true', decide_eq_true_eq] at hc
            obtain ⟨hd, hu⟩ := hc
            have hu := any_beq hu
            split at h1
            · rename_i x z hx hz
              have h2 := Option.some.inj h1
              have hk := cast?_eq hx
              injection hk with e1 e2
              subst e1
              have e2 := eq_of_heq e2
              subst e2
              obtain ⟨L, l1, l2, l3, l4, l5⟩ := ih (y := z.1) (u' := z.2) hz
              refine ⟨(i, r) :: L, fun x hx => ?_, ?_, fun x hx => ?_, fun r' => ?_, fun vs hlen hv χ hχ => ?_⟩
              · rcases List.mem_cons.1 hx with rfl | hx
                · exact Nat.le_refl _
                · have := l1 x hx; omega
              · rw [List.pairwise_cons]
                exact ⟨fun x hx e => l3 x hx (by rw [← e]; simp), l2⟩
              · rcases List.mem_cons.1 hx with rfl | hx
                · exact hu
                · exact fun hm => l3 x hx (by simp [hm])
              · injection h2 with _ h2
                rw [← h2, l4]
                simp only [List.mem_cons, exists_eq_or_imp]
                constructor
                · rintro ((rfl | h) | h)
                  · exact .inr (.inl rfl)
                  · exact .inl h
                  · exact .inr (.inr h)
                · rintro (h | rfl | h)
                  · exact .inl (.inr h)
                  · exact .inl (.inl rfl)
                  · exact .inr h
              · cases vs with
                | nil => simp at hlen
                | cons v vs =>
                  have h3 : y = (d, z.1) := by injection h2 with h2 _; exact h2.symm
                  have hrest := l5 vs (by simpa using hlen) (fun j v' hio hj => by have := hv (j + 1) v' (by simpa [ioAt] using hio) (by simpa using hj); rw [show i + 1 + j = i + (j + 1) by omega]; exact this) χ (fun x hx => hχ x (by simp [hx]))
                  have hcell := g.slots i
                  rw [hs] at hcell
                  simp only [CellOk] at hcell
                  rw [hr] at hcell
                  obtain ⟨_, _, f3⟩ := hcell
                  have hv0 := hv 0 v rfl rfl
                  rw [Nat.add_zero] at hv0
                  rw [hv0] at f3
                  have hro := g.roots r
                  rw [hr] at hro
                  show ∃ c r, (v :: vs) = mkVal k' c :: r ∧ c.length = k'.size ∧ Rep w (fun q b => χ b = some (.io i q)) k' [] c y.1 ∧ IoOk w χ (i + 1) ps r y.2
                  refine ⟨G.C r, vs, by rw [f3], hro.1.length, ?_, ?_⟩
                  · rw [h3]
                    refine hro.1.lim.frame fun q b _ hb _ => ⟨rfl, ?_⟩
                    obtain ⟨g1, _, g2⟩ := hb
                    simp only [lev, Nat.zero_add] at g2
                    have : lev q < dep := by omega
                    simp only [ownS, this, if_true] at g1
                    exact hχ (i, r) (by simp) b q g1
                  · rw [h3]; exact hrest
            · cases h1
          · cases h1
        · cases h
      · cases h
/-- How a result is read. -/
def resRd (tmps : Array Value) : ResultVar → Sem Value
  | .tmp t => pure (tmps.getD t undef)
  | .cell a t => do loadVar t (← asAddr (tmps.getD a undef))
theorem oneV_ok (hT : TabOk P Γ.tk Γ.ar) (g : GOk Kp G s a w) {v : ResultVar} {x : V} {ro : Option (Nat × Nat)} {free : Bool} (h : oneV Γ s v = some (x, ro, free)) :
    ∃ c, (resRd a.tmps v).run P w = .ok (mkVal x.k c) w ∧ (free = true → Rep w noS x.k [] c x.d) ∧ (free = false → ro = none → Rep w (shS G.φ) x.k [] c x.d) ∧
      (free = false → ∀ r dep, ro = some (r, dep) → (∃ T q, Rep w T x.k q c x.d ∧ ∀ q' b, T q' b → G.φ b = none ∨ ∃ q, G.φ b = some (false, r, q)) ∧ (x.k.lev ≤ dep → Rep w (fun q b => G.φ b = some (false, r, q)) x.k [] c x.d)) := by
  cases v with
  | tmp t =>
    simp only [oneV] at h
    have hv := g.slots t
    have hrd : ∀ v, a.tmps.getD t undef = v → (resRd a.tmps (.tmp t)).run P w = .ok v w := fun v h => by subst h; rfl
    split at h
    · rename_i k d hs
      simp only [Option.some.injEq, Prod.mk.injEq] at h
      obtain ⟨rfl, rfl, rfl⟩ := h
      rw [hs] at hv
      obtain ⟨c, e1, e2⟩ := hv
      exact ⟨c, hrd _ e1, ft, fun _ _ => e2, fun _ r dep => ns⟩
    · rename_i k d hs
      simp only [Option.some.injEq, Prod.mk.injEq] at h
      obtain ⟨rfl, rfl, rfl⟩ := h
      rw [hs] at hv
      obtain ⟨c, e1, e2⟩ := hv
      exact ⟨c, hrd _ e1, fun _ => e2, tf, tf⟩
    · rename_i r p ver hs
      split at h
      · rename_i k d dep box frz ver' hr
        rcases bif_some h with ⟨hver, h1⟩ | ⟨_, h1⟩
        · split at h1
          · rename_i x' hg
            simp only [Option.some.injEq, Prod.mk.injEq] at h1
            obtain ⟨rfl, rfl, rfl⟩ := h1
            rw [hs] at hv
            simp only [CellOk] at hv
            rw [hr] at hv
            obtain ⟨z, e1, e2, e3⟩ := hv.2 (verOk hver)
            rw [hg] at e1
            have e1 := Option.some.inj e1
            subst e1
            have hro := g.roots r
            rw [hr] at hro
            have hrep := getP_rep hro.1 e2 hg
            refine ⟨_, hrd _ e3, ft, fun _ => sn, fun _ r' dep' he => ?_⟩
            simp only [Option.some.injEq, Prod.mk.injEq] at he
            obtain ⟨rfl, rfl⟩ := he
            refine ⟨⟨_, _, hrep, fun q' b hb => ?_⟩, fun hl => ?_⟩
            · rcases ownS_lev hb with ⟨_, hb⟩ | ⟨_, hb⟩
              · exact .inr ⟨q', hb⟩
              · exact .inl hb
            · rw [List.nil_append] at hrep
              refine hrep.lim.move fun q b hb _ => ?_
              obtain ⟨f1, _, f2⟩ := hb
              cases p with
              | nil =>
                simp only [List.isEmpty_nil, cond_true] at hl
                simp only [List.nil_append] at f1 f2 ⊢
                have : lev q < dep := by simp only [lev] at f2; omega
                simp only [ownS, this, if_true] at f1
                exact f1
              | cons x' p =>
                simp only [List.isEmpty_cons, cond_false] at hl
                rw [lev_append] at f2
                omega
          · cases h1
        · cases h1
      · cases h
    · cases h
  | cell a0 t =>
    simp only [oneV] at h
    have hv := g.slots a0
    split at h
    · rename_i r p ver hs
      split at h
      · rename_i k d dep frz ver' hr
        rcases bif_some h with ⟨hver, h1⟩ | ⟨_, h1⟩
        · simp only [Bool.and_eq_true, List.isEmpty_iff, decide_eq_true_eq] at hver
          obtain ⟨rfl, ht⟩ := hver
          simp only [Option.some.injEq, Prod.mk.injEq] at h1
          obtain ⟨rfl, rfl, rfl⟩ := h1
          rw [hs] at hv
          obtain ⟨y, B, O, e1, e2, e3, e4, e5, e6, e7, hro⟩ := ptr_open g hv hr (by simp [noIdx])
          simp only [getP, Option.some.injEq] at e1
          subst e1
          refine ⟨cellsAt w B O k.size, ?_, ft, fun _ => sn, fun _ r' dep' he => ?_⟩
          · simp [resRd, e4, asAddr, run_loadVar hT ht e6]
          · simp only [Option.some.injEq, Prod.mk.injEq] at he
            obtain ⟨rfl, rfl⟩ := he
            refine ⟨⟨_, _, e7, fun q' b hb => ?_⟩, fun hl => ?_⟩
            · rcases ownS_lev hb with ⟨_, hb⟩ | ⟨_, hb⟩
              · exact .inr ⟨q', hb⟩
              · exact .inl hb
            · refine e7.lim.frame fun q b _ hb _ => ⟨rfl, ?_⟩
              obtain ⟨f1, _, f2⟩ := hb
              have : lev q < dep := by simp only [lev, Nat.zero_add] at f2; simp only at hl; omega
              simp only [ownS, this, if_true] at f1
              exact f1
        · cases h1
      · cases h
    · cases h
theorem resV_ok (hT : TabOk P Γ.tk Γ.ar) (g : GOk Kp G s a w) {own : Bool} : ∀ {rs : List Kd} {vs : List ResultVar} {u : List Nat} {x : (Kd.tuple rs).den}, resV Γ own s rs vs u = some x → ∀ pre : Path,
    ∃ (L : List (Path × Nat)) (vals : List Value) (c : List Value), (L.Pairwise fun x y => x.2 ≠ y.2) ∧ (∀ x ∈ L, x.2 ∉ u) ∧ (vs.mapM (resRd a.tmps)).run P w = .ok vals w ∧ vals = tupV rs c ∧ vals.length = rs.length ∧ c.length = (Kd.tuple rs).size ∧
      ∀ S : OwnS, (own = true → ∀ x ∈ L, ∀ b q, G.φ b = some (false, x.2, q) → S (x.1 ++ q) b) → (own = false → ∀ q b, (G.φ b = none ∨ ∃ r q, r ∉ u ∧ G.φ b = some (false, r, q)) → S q b) → Rep w S (Kd.tuple rs) pre c x := by
  intro rs
  induction rs with
  | nil =>
    intro vs u x h pre
    cases vs with
    | nil => exact ⟨[], [], [], List.Pairwise.nil, fun _ h => by simp at h, by simp, rfl, rfl, rfl, fun S _ _ => rfl⟩
    | cons _ _ => simp [resV] at h
  | cons k ks ih =>
    intro vs u x h pre
    cases vs with
    | nil => simp [resV] at h
    | cons v vs =>
      simp only [resV] at h
      split at h
      · cases h
      · rename_i y hy
        split at h
        · cases h
        · rename_i u' ht
          split at h
          · rename_i y1 z hc hz
            have h := Option.some.inj h
            subst h
            have hk := cast?_eq hc
            obtain ⟨y0, ro, free⟩ := y
            simp only at hk ht hc
            subst hk
            obtain ⟨c1, r1, r2, r3, r4⟩ := oneV_ok hT g hy
            simp only at r1 r2 r3 r4
            obtain ⟨L, vals, c, l1, l2, l3, l4, l5, l6, l7⟩ := ih hz (pre ++ [.r])
            have hlen : c1.length = k.size := by
              cases free with
              | true => exact (r2 rfl).length
              | false =>
                cases ro with
                | none => exact (r3 rfl rfl).length
                | some z => exact ((r4 rfl z.1 z.2 rfl).1).elim fun T hh => hh.elim fun q hh => hh.1.length
            -- the first one by its new owners
            have hhead : ∃ L0 : List (Path × Nat), (∀ x ∈ L0, x.2 ∉ u ∧ x.2 ∈ u') ∧ L0.length ≤ 1 ∧ (∀ r, r ∉ u' → r ∉ u) ∧
                ∀ S : OwnS, (own = true → ∀ x ∈ L0, ∀ b q, G.φ b = some (false, x.2, q) → S (x.1 ++ q) b) → (own = false → ∀ q b, (G.φ b = none ∨ ∃ r q, r ∉ u ∧ G.φ b = some (false, r, q)) → S q b) → Rep w S k (pre ++ [.l]) c1 y1 := by
              have flatc : k.flat = true → ∃ T q, Rep w T k q c1 y1 → True := fun _ => ⟨noS, [], fun _ => trivial⟩
              have anyRep : ∃ T q, Rep w T k q c1 y1 := by
                cases free with
                | true => exact ⟨_, _, r2 rfl⟩
                | false =>
                  cases ro with
                  | none => exact ⟨_, _, r3 rfl rfl⟩
                  | some z => obtain ⟨T, q, hh, _⟩ := (r4 rfl z.1 z.2 rfl).1; exact ⟨T, q, hh⟩
              unfold takeR at ht
              rcases bif_some ht with ⟨hf, hu⟩ | ⟨hf, hu⟩
              · have hu := Option.some.inj hu
                subst hu
                refine ⟨[], fun _ h => by simp at h, by simp, fun _ h => h, fun S _ _ => ?_⟩
                simp only [Bool.or_eq_true] at hf
                rcases hf with hf | hf
                · obtain ⟨T, q, hh⟩ := anyRep
                  exact hh.flat w _ _ hf
                · subst hf
                  exact (r2 rfl).move fun p b hb _ => hb.elim
              · simp only [Bool.or_eq_false_iff] at hf
                obtain ⟨_, rfl⟩ := hf
                cases ro with
                | none =>
                  simp only at hu
                  rcases bif_some hu with ⟨_, hu⟩ | ⟨ho, hu⟩
                  · cases hu
                  · have hu := Option.some.inj hu
                    subst hu
                    exact ⟨[], fun _ h => by simp at h, by simp, fun _ h => h, fun S _ hS => (r3 rfl rfl).move fun p b hb _ => hS ho _ b (.inl hb)⟩
                | some z =>
                  obtain ⟨r, dep⟩ := z
                  simp only at hu
                  rcases bif_some hu with ⟨_, hu⟩ | ⟨hnu, hu⟩
                  · cases hu
                  · have hnu := any_beq hnu
                    rcases bif_some hu with ⟨ho, hu⟩ | ⟨ho, hu⟩
                    · rcases bif_some hu with ⟨hl, hu⟩ | ⟨_, hu⟩
                      · have hu := Option.some.inj hu
                        subst hu
                        have hl := of_decide_eq_true hl
                        refine ⟨[(pre ++ [.l], r)], fun x hx => ?_, by simp, fun r' h => fun hm => h (by simp [hm]), fun S hS _ => ?_⟩
                        · simp only [List.mem_singleton] at hx
                          subst hx
                          exact ⟨hnu, by simp⟩
                        · exact ((r4 rfl r dep rfl).2 hl).move fun p b hb _ => hS ho (pre ++ [St.l], r) (by simp) b p (by simpa using hb)
                      · cases hu
                    · have hu := Option.some.inj hu
                      subst hu
                      refine ⟨[], fun _ h => by simp at h, by simp, fun _ h => h, fun S _ hS => ?_⟩
                      obtain ⟨T, q, hh, hT'⟩ := (r4 rfl r dep rfl).1
                      refine hh.move fun p b hb _ => hS ho _ b ?_
                      rcases hT' _ b hb with h | ⟨q, h⟩
                      · exact .inl h
                      · exact .inr ⟨r, q, hnu, h⟩
            obtain ⟨L0, m1, m2, m3, m4⟩ := hhead
            refine ⟨L0 ++ L, mkVal k c1 :: vals, c1 ++ c, ?_, fun x hx => ?_, ?_, ?_, by simp [l5], by simp [Kd.tuple, Kd.size, hlen, l6], fun S hS1 hS2 => ?_⟩
            · rw [List.pairwise_append]
              refine ⟨?_, l1, fun x hx y hy e => l2 y hy (e ▸ (m1 x hx).2)⟩
              match L0, m2 with
              | [], _ => exact List.Pairwise.nil
              | [x], _ => exact List.pairwise_singleton _ _
            · rcases List.mem_append.1 hx with hx | hx
              · exact (m1 x hx).1
              · exact m3 _ (l2 x hx)
            · rw [List.mapM_cons]
              simp [r1, l3]
            · simp only [tupV, l4]
              rw [List.take_append_of_le_length (by omega), List.take_of_length_le (by omega), List.drop_append_of_le_length (by omega), List.drop_of_length_le (by omega)]
              rfl
            · simp only [Kd.tuple, Rep]
              rw [List.take_append_of_le_length (by omega), List.take_of_length_le (by omega), List.drop_append_of_le_length (by omega), List.drop_of_length_le (by omega)]
              refine ⟨m4 S (fun ho x hx => hS1 ho x (by simp [hx])) hS2, ?_⟩
              exact l7 S (fun ho x hx => hS1 ho x (by simp [hx])) (fun ho q b hb => hS2 ho q b (hb.imp _root_.id fun ⟨r, q, h1, h2⟩ => ⟨r, q, m3 r h1, h2⟩))
          · cases h
end
end Go.V
set_option linter.unusedVariables false
set_option linter.unusedSimpArgs false
namespace Go.V
theorem splitT_join : ∀ {a b : List Kd} (x : (Kd.tuple a).den) (y : (Kd.tuple b).den), splitT a b (joinT a b x y) = (x, y) := by
  intro a
  induction a with
  | nil => intro b x y; rfl
  | cons k a ih =>
    intro b x y
    have h := ih x.2 y
    have e : splitT (k :: a) b (joinT (k :: a) b x y) = ((x.1, (splitT a b (joinT a b x.2 y)).1), (splitT a b (joinT a b x.2 y)).2) := rfl
    rw [e, h]
    rfl
/-- What the labels are behind a call. -/
noncomputable def outχ (φ : Nat → Option (Bool × Nat × Path)) (Li : List (Nat × Nat)) (Lr : List (Path × Nat)) (own : Bool) : Nat → Option Lab := fun b =>
  match φ b with
  | some (false, r, q) => match Li.find? (fun x => Nat.beq x.2 r) with
    | some x => some (.io x.1 q)
    | none => if own = true then match Lr.find? (fun x => Nat.beq x.2 r) with
      | some x => some (.res (x.1 ++ q))
      | none => none
      else none
  | _ => none
theorem find_in {α : Type} : ∀ {L : List (α × Nat)}, (L.Pairwise fun x y => x.2 ≠ y.2) → ∀ x ∈ L, L.find? (fun y => Nat.beq y.2 x.2) = some x := by
  intro L
  induction L with
  | nil => intro _ x h; simp at h
  | cons y L ih =>
    intro hp x hx
    rw [List.pairwise_cons] at hp
    rcases List.mem_cons.1 hx with rfl | hx
    · simp
    · have : Nat.beq y.2 x.2 = false := by
        cases hb : Nat.beq y.2 x.2 with
        | false => rfl
        | true => exact absurd (Nat.eq_of_beq_eq_true hb) (hp.1 x hx)
      rw [List.find?_cons, this]
      exact ih hp.2 x hx
theorem find_out {α : Type} {L : List (α × Nat)} {r : Nat} (h : ∀ x ∈ L, x.2 ≠ r) : L.find? (fun y => Nat.beq y.2 r) = none := by
  rw [List.find?_eq_none]
  intro x hx hb
  exact h x hx (Nat.eq_of_beq_eq_true hb)
section
variable {P : Program} {Γ : Ctx} {Kp : Keep} {B0 : World} {n : Nat} {G : Gh} {s : State} {a : Act} {w w' : World} {id : Nat} {o : Oper} {Q : Exit → Act → World → Prop} {ws : Writes} {A : Nat → Option Value}
theorem run_results_of {fn : Func} {tmps : Array Value} {vals : List Value} (h : (fn.results.toList.mapM (resRd tmps)).run P w = .ok vals w) :
    (results fn tmps).run P w = .ok (if h : vals.toArray.size = 1 then vals.toArray[0] else .tuple vals.toArray) w := by
  have e : results fn tmps = (do
    let vs ← fn.results.mapM (resRd tmps)
    pure (if h : vs.size = 1 then vs[0] else .tuple vs)) := by
    unfold results
    congr 1
  rw [e, Array.mapM_eq_mapM_toList]
  simp [h]
theorem fn_ok (E : Env P Γ) (hm : P.follows .mixedOrders = true) {f : FuncId} {fn : Func} {body : Code} (hf : P.funcs[f]? = some fn) (hb : fn.body = some body) (hname : (fn.name == "runtime.NumGoroutine") = false)
    {ps : List (Kd × Bool)} {rs : List Kd} {own : Bool} {F : (Kd.tuple (ps.map (·.1))).den → Option (Kd.tuple (rs ++ (ps.filter (·.2)).map (·.1))).den} (hn : ps.length ≤ fn.ntmps) {q : Nat → Bool} (hq : ∀ d, q d = true → ioAt ps d = false ∧ d < fn.ntmps) (hd : dstsOk q body = true)
    {Pc : Nat → Option Piece} (hP : ∀ A : Nat → Option Value, (∀ d, q d = true → d < fn.ntmps ∧ A d = none) → ∀ id b o, (id, b) ∈ blocksOf body → Pc id = some o → o.ok ∧ PieceOk P fn.ntmps A (.block id b) o)
    (hF : ∀ d r, F d = some r → fnR Γ Pc own ps rs fn.results.toList body d = some r) : Contract P f ⟨ps, rs, own, F⟩ := by
  intro w ψ U vs d out hargs hU hψ hgl hout
  simp only at hargs d out hout
  have hlen := hargs.length
  have hrun := hF d out hout
  have hcall : (callFunc f vs.toArray).run P w = .ok (.enter f vs.toArray) w := by
    simp only [beq_eq_false_iff_ne, ne_eq] at hname
    simp [callFunc, hf, hb, hname]
  unfold CallsTo
  rw [hcall]
  simp only
  have hA : ∀ d, q d = true → d < fn.ntmps ∧ inA ps vs d = none := fun d hd => ⟨(hq d hd).2, by unfold inA; rw [(hq d hd).1]; rfl⟩
  refine calls_of_wp hf hb ?_
  have hstart := start_ok (n := fn.ntmps) hargs hU hψ hgl hn
  unfold fnR at hrun
  refine pi_ok E hm hA body hd (hP _ hA) hstart hrun fun e clk' s' a' w' hi' hk => ?_
  have hend : ∀ (hk : (match ioV s' 0 ps [] with
      | some y => match resV Γ own s' rs fn.results.toList y.2 with
        | some x => some (joinT rs _ x y.1)
        | none => none
      | none => none) = some out), a'.defers = [] ∧ ∃ v, (results fn a'.tmps).run P w' = .ok v w' ∧ ∃ χ, Post ⟨ps, rs, own, F⟩ ψ U vs w out χ v w' := by
    intro hk
    split at hk
    · rename_i y hy
      split at hk
      · rename_i x hx
        have hk := Option.some.inj hk
        obtain ⟨G, g⟩ := hi'.inv.ghost
        obtain ⟨Li, i1, i2, i3, i4, i5⟩ := ioV_ok g (y := y.1) (u' := y.2) hy
        obtain ⟨Lr, vals, c, r1, r2, r3, r4, r5, r6, r7⟩ := resV_ok E.tab g hx []
        refine ⟨hi'.inv.defers, _, run_results_of r3, outχ G.φ Li Lr own, ?_⟩
        have hχio : ∀ x ∈ Li, ∀ b q, G.φ b = some (false, x.2, q) → outχ G.φ Li Lr own b = some (.io x.1 q) := fun x hx b q hb => by
          unfold outχ
          rw [hb]
          simp only [find_in i2 x hx]
        have hdis : ∀ x ∈ Lr, ∀ z ∈ Li, z.2 ≠ x.2 := fun x hx z hz e => r2 x hx ((i4 x.2).2 (.inr ⟨z, hz, e⟩))
        have hχres : own = true → ∀ x ∈ Lr, ∀ b q, G.φ b = some (false, x.2, q) → outχ G.φ Li Lr own b = some (.res (x.1 ++ q)) := fun ho x hx b q hb => by
          unfold outχ
          rw [hb]
          simp only [find_out (hdis x hx), ho, if_true, find_in r1 x hx]
        have hX : ∀ b, G.φ b ≠ some far → U b ∨ w.heap.size ≤ b ∨ ψ b ≠ none := fun b hne => by
          by_cases hlt : b < w.heap.size
          · by_cases hz : ψ b = none
            · left
              apply Classical.byContradiction
              intro hu
              exact hne (g.col.out b ⟨hlt, hz, hu⟩)
            · exact .inr (.inr hz)
          · exact .inr (.inl (by omega))
        have hbase := hi'.inv.base
        have hsplit : splitT rs ((ps.filter (·.2)).map (·.1)) out = (x, y.1) := by rw [← hk]; exact splitT_join x y.1
        refine ⟨hbase.os, hbase.tape, hbase.output, hbase.size, fun b hlt hz => hbase.kept b ⟨hlt, hz⟩, fun b z hz => ?_, ⟨c, ?_, ?_⟩, ?_⟩
        · have : ∃ r q, G.φ b = some (false, r, q) := by
            unfold outχ at hz
            split at hz
            · rename_i r q hb; exact ⟨r, q, hb⟩
            · cases hz
          obtain ⟨r, q, hb⟩ := this
          obtain ⟨k1, k2⟩ := g.mine hb (.inl rfl)
          refine ⟨?_, k2⟩
          by_cases hlt : b < w.heap.size
          · right; intro hz2; exact k1 ⟨hlt, hz2⟩
          · left; omega
        · simp only
          match rs, c, r4, r5, r6 with
          | [], _, _, _, _ => trivial
          | [k], c, r4, r5, r6 =>
            subst r4
            simp [ResVal, tupV]
          | k :: k' :: ks, c, r4, r5, r6 =>
            subst r4
            simp [ResVal, tupV]
        · simp only
          rw [hsplit]
          simp only
          refine r7 _ (fun ho z hz b q hb => ?_) (fun ho q b hb => ?_)
          · have := hχres ho z hz b q hb
            simp only [ho, cond_true] at this ⊢
            exact this
          · rw [ho]
            simp only [cond_false]
            rcases hb with hb | ⟨r, q', hr, hb⟩
            · refine ⟨by unfold outχ; rw [hb], hX b (by rw [hb]; simp)⟩
            · refine ⟨?_, hX b (by rw [hb]; simp [far])⟩
              unfold outχ
              rw [hb]
              simp only [find_out fun z hz e => hr ((i4 r).2 (.inr ⟨z, hz, e⟩)), ho, Bool.false_eq_true, if_false]
        · simp only
          rw [hsplit]
          simp only
          refine i5 vs hlen (fun j v hio hj => ?_) _ hχio
          rw [Nat.zero_add]
          exact hi'.pin j v (by unfold inA; rw [hio]; exact hj)
      · cases hk
    · cases hk
  cases e with
  | normal =>
    obtain ⟨h1, v, h2, h3⟩ := hend hk
    exact ⟨h1, v, h2, h3⟩
  | ret =>
    obtain ⟨h1, v, h2, h3⟩ := hend hk
    exact ⟨h1, v, h2, h3⟩
  | exit j => cases hk
  | goto l => cases hk
/-- A contract for what is defined less often. -/
theorem Contract.less {f : FuncId} {ps : List (Kd × Bool)} {rs : List Kd} {own : Bool} {F : (Kd.tuple (ps.map (·.1))).den → Option (Kd.tuple (rs ++ (ps.filter (·.2)).map (·.1))).den} {ι : Type} (Fn : ι → (Kd.tuple (ps.map (·.1))).den → Option (Kd.tuple (rs ++ (ps.filter (·.2)).map (·.1))).den)
    (h : ∀ i, Contract P f ⟨ps, rs, own, Fn i⟩) (hF : ∀ d r, F d = some r → ∃ i, Fn i d = some r) : Contract P f ⟨ps, rs, own, F⟩ := by
  intro w ψ U vs d out hargs hU hψ hgl hout
  obtain ⟨i, hi⟩ := hF d out hout
  have := h i w ψ U vs d out hargs hU hψ hgl hi
  unfold CallsTo at this ⊢
  cases hr : (callFunc f vs.toArray).run P w with
  | ok x w1 =>
    rw [hr] at this
    cases x with
    | value v => obtain ⟨χ, p⟩ := this; exact ⟨χ, p.os, p.tape, p.output, p.size, p.kept, p.col, p.res, p.io⟩
    | enter f' args' =>
      refine Calls.mono this fun e w'' he => ?_
      cases e with
      | returned v => obtain ⟨χ, p⟩ := he; exact ⟨χ, p.os, p.tape, p.output, p.size, p.kept, p.col, p.res, p.io⟩
      | panicked chain => exact he.elim
      | outgrown => exact he.elim
    | row row args' => exact Rows.mono this fun v w'' ⟨χ, p⟩ => ⟨χ, p.os, p.tape, p.output, p.size, p.kept, p.col, p.res, p.io⟩
    | _ => exact this.elim
  | halt x w1 => rw [hr] at this; exact this.elim
end
end Go.V
set_option linter.unusedVariables false
set_option linter.unusedSimpArgs false
namespace Go.V
/-- A string's byte, as a number. -/
def byteAt (s : ByteArray) (n : Nat) : Nat := (s.data.getD n 0).toNat
def assoc {α : Type} : List (Nat × α) → Nat → Option α
  | [], _ => none
  | x :: r, n => bif Nat.beq x.1 n then some x.2 else assoc r n
theorem assoc_mem {α : Type} {n : Nat} {y : α} : ∀ {l : List (Nat × α)}, assoc l n = some y → (n, y) ∈ l := by
  intro l
  induction l with
  | nil => intro h; cases h
  | cons x l ih =>
    intro h
    simp only [assoc] at h
    rcases bif_some h with ⟨h1, h2⟩ | ⟨_, h2⟩
    · have h1 := Nat.eq_of_beq_eq_true h1
      have h2 := Option.some.inj h2
      subst h1 h2
      simp
    · exact List.mem_cons_of_mem _ (ih h2)
/-- The tables, checked at once. -/
theorem tab_of {P : Program} {l : List (Nat × Kd)} {ar : TypeId → Option TypeId} (h : l.all (fun x => tyOkB P (assoc l) ar x.1 x.2) = true) : TabOk P (assoc l) ar := by
  intro t k hk
  have := List.all_eq_true.1 h _ (assoc_mem hk)
  exact this
def AllC (P : Program) : List (Nat × FSig) → Prop
  | [] => True
  | x :: r => Contract P x.1 x.2 ∧ AllC P r
theorem allC_get {P : Program} {n : Nat} {y : FSig} : ∀ {l : List (Nat × FSig)}, AllC P l → assoc l n = some y → Contract P n y := by
  intro l
  induction l with
  | nil => intro _ h; cases h
  | cons x l ih =>
    intro hA h
    simp only [assoc] at h
    rcases bif_some h with ⟨h1, h2⟩ | ⟨_, h2⟩
    · have h1 := Nat.eq_of_beq_eq_true h1
      have h2 := Option.some.inj h2
      subst h1 h2
      exact hA.1
    · exact ih hA.2 h2
theorem env_of {P : Program} {l : List (Nat × Kd)} {ar : TypeId → Option TypeId} {ln : Nat → Bool} {fs : List (Nat × FSig)} (h : TabOk P (assoc l) ar) (hfs : AllC P fs) : Env P { tk := assoc l, ar := ar, fs := assoc fs, lent := ln } :=
  ⟨h, fun _ _ hg => allC_get hfs hg, fun _ _ hg => (by cases hg), fun _ hg => (by cases hg)⟩
/-- A loop's piece in a code. -/
def PcOk (P : Program) (n : Nat) (A : Nat → Option Value) (body : Code) (x : Nat × Piece) : Prop :=
  ∃ c, (blocksOf body).filter (fun y => Nat.beq y.1 x.1) = [(x.1, .loop c)] ∧ x.2.ok ∧ PieceOk P n A (.block x.1 (.loop c)) x.2
def AllP (P : Program) (n : Nat) (A : Nat → Option Value) (body : Code) : List (Nat × Piece) → Prop
  | [] => True
  | x :: r => PcOk P n A body x ∧ AllP P n A body r
theorem allP_get {P : Program} {n : Nat} {A : Nat → Option Value} {body : Code} {id : Nat} {b : Code} {o : Piece} : ∀ {l : List (Nat × Piece)}, AllP P n A body l → (id, b) ∈ blocksOf body → assoc l id = some o → o.ok ∧ PieceOk P n A (.block id b) o := by
  intro l
  induction l with
  | nil => intro _ _ h; cases h
  | cons x l ih =>
    intro hA hb h
    simp only [assoc] at h
    rcases bif_some h with ⟨h1, h2⟩ | ⟨_, h2⟩
    · have h1 := Nat.eq_of_beq_eq_true h1
      have h2 := Option.some.inj h2
      subst h1 h2
      obtain ⟨c, hc, hok, hp⟩ := hA.1
      have : (x.1, b) ∈ (blocksOf body).filter (fun y => Nat.beq y.1 x.1) := List.mem_filter.2 ⟨hb, Nat.beq_refl _⟩
      rw [hc] at this
      simp only [List.mem_singleton, Prod.mk.injEq, true_and] at this
      subst this
      exact ⟨hok, hp⟩
    · exact ih hA.2 hb h2
def nodupB (f : Form) : Bool := decide ((f.map (·.1)).Nodup)
def outsB (o : Outs) : Bool := o.all fun x => nodupB x.2
theorem outs_ok {o : Outs} (h : outsB o = true) : Outs.ok o := fun x hx => of_decide_eq_true (List.all_eq_true.1 h x hx)
def inTmps (ps : List (Kd × Bool)) (hi : Nat) (d : Nat) : Bool := !ioAt ps d && Nat.blt d hi
theorem inTmps_ok {ps : List (Kd × Bool)} {hi d : Nat} (h : inTmps ps hi d = true) : ioAt ps d = false ∧ d < hi := by
  simp only [inTmps, Bool.and_eq_true, Bool.not_eq_true'] at h
  exact ⟨h.1, by have := h.2; rw [Nat.blt_eq] at this; exact this⟩
/-- A loop's piece, out of its rounds. -/
theorem pc_of {P : Program} {Γ : Ctx} (E : Env P Γ) (hm : P.follows .mixedOrders = true) {n : Nat} {np : List (Kd × Bool)} {A : Nat → Option Value} (hA : ∀ d, inTmps np n d = true → d < n ∧ A d = none) {inner : List (Nat × Piece)} {id : Nat} {head : Form} {outs : Outs} {body c : Code}
    (hc : (blocksOf c).filter (fun y => Nat.beq y.1 id) = [(id, .loop body)]) (hok : (nodupB head && outsB outs) = true) (hd : dstsOk (inTmps np n) body = true) (hin : AllP P n A body inner)
    {L : Nat → head.den → Option outs.den} (h0 : ∀ d, L 0 d = none) (hL : ∀ m d, L (m + 1) d = roundR Γ (assoc inner) id head outs body (L m) d) (m : Nat) : PcOk P n A c (id, ⟨head, outs, L m⟩) := by
  simp only [Bool.and_eq_true] at hok
  have h1 : (head.map (·.1)).Nodup := of_decide_eq_true hok.1
  have h2 := outs_ok hok.2
  exact ⟨body, hc, ⟨h1, h2⟩, loop_ok E hm hA ⟨h1, h2⟩ hd (fun id b o hb ho => allP_get hin hb ho) h0 hL m⟩
/-- A function's contract, out of the printed lemma. -/
theorem con_of {P : Program} {Γ : Ctx} (E : Env P Γ) (hm : P.follows .mixedOrders = true) {f : FuncId} {fn : Func} {body : Code} (hf : P.funcs[f]? = some fn) (hb : fn.body = some body) (hname : (fn.name == "runtime.NumGoroutine") = false)
    {ps : List (Kd × Bool)} {rs : List Kd} {own : Bool} {F : (Kd.tuple (ps.map (·.1))).den → Option (Kd.tuple (rs ++ (ps.filter (·.2)).map (·.1))).den} (hn : Nat.ble ps.length fn.ntmps = true) (hd : dstsOk (inTmps ps fn.ntmps) body = true)
    {Pc : List (Nat × Piece)} (hP : ∀ A : Nat → Option Value, (∀ d, inTmps ps fn.ntmps d = true → d < fn.ntmps ∧ A d = none) → AllP P fn.ntmps A body Pc)
    (hF : ∀ d, fnR Γ (assoc Pc) own ps rs fn.results.toList body d = F d) : Contract P f ⟨ps, rs, own, F⟩ :=
  fn_ok E hm hf hb hname (Nat.le_of_ble_eq_true hn) (fun d h => inTmps_ok h) hd (fun A hA id b o hb ho => allP_get (hP A hA) hb ho) (fun d r h => (hF d).trans h)
end Go.V
set_option linter.unusedVariables false
namespace Go.V
open Go.RowKit
/-- A call that gives one flat value and turns nothing old. -/
theorem post_flat {g : FSig} {w w' : World} {ψ : Nat → Option (Nat × Path)} {U : Nat → Prop} {vs : List Value} {out} {k : Kd} (hrs : g.rs = [k]) (hk : k.flat = true) (bel : Below w.heap.size w w') {v : Value} {c : List Value} {x : (Kd.tuple g.rs).den} (hx : (splitT g.rs _ out).1 = x)
    (hv : v = mkVal k c) (hlen : c.length = k.size) (hr : ∀ S : OwnS, Rep w' S (Kd.tuple g.rs) [] c x) (hio : ∀ χ, IoOk w' χ 0 g.ps vs (splitT g.rs _ out).2) : ∃ χ, Post g ψ U vs w out χ v w' := by
  refine ⟨fun _ => none, ⟨bel.os, bel.tape, bel.output, bel.size, fun b hb _ => bel.block b hb, fun b z h => (by cases h), ⟨c, ?_, ?_⟩, hio _⟩⟩
  · rw [hrs]
    show v = mkVal k (c.take k.size)
    rw [List.take_of_length_le (by omega)]
    exact hv
  · rw [hx]
    exact hr _
/-- Two strings, a truth. -/
theorem con_ssb {P : Program} {f : FuncId} {pre : ByteArray → ByteArray → Prop} {B : ByteArray → ByteArray → Bool} (he : ∀ (args : Array Value) (w : World), (callFunc f args).run P w = .ok (.enter f args) w)
    (h : ∀ (s c : ByteArray) (w : World), pre s c → Calls P f #[.string s, .string c] w fun e w' => e = .returned (.bool (B s c)) ∧ Below w.heap.size w w')
    {F : ByteArray × ByteArray × Unit → Option (Bool × Unit)} (hF : ∀ d r, F d = some r → pre d.1 d.2.1 ∧ r = (B d.1 d.2.1, ())) : Contract P f ⟨[(.str, false), (.str, false)], [.bool], true, F⟩ := by
  intro w ψ U vs d out hargs hU hψ hgl ho
  obtain ⟨c1, r1, h1, h2, c2, r2, h3, h4, h5⟩ := hargs
  simp only [Rep] at h2 h4
  have h5 : r2 = [] := h5
  subst h2 h4 h5 h3
  subst h1
  obtain ⟨hp, hr⟩ := hF d out ho
  unfold CallsTo
  rw [he]
  refine Calls.mono (h d.1 d.2.1 w hp) fun e w' hh => ?_
  obtain ⟨rfl, bel⟩ := hh
  subst hr
  exact post_flat (k := .bool) rfl rfl bel (c := [.bool (B d.1 d.2.1)]) rfl rfl rfl (fun S => ⟨rfl, rfl⟩) (fun χ => trivial)
end Go.V
set_option linter.unusedVariables false
namespace Go.V
open Go.RowKit
open Go.Sort (grow)
theorem below_grow2 (w : World) (k : Nat) (os : Array Obj) : Below w.heap.size w (grow (w.drewN k) os) := by
  refine ⟨rfl, rfl, rfl, ?_, fun i hi => ?_⟩
  · show w.heap.size ≤ (w.heap ++ os).size
    simp
  · show (w.heap ++ os)[i]? = w.heap[i]?
    exact Array.getElem?_append_left hi
theorem below_drewN2 (w : World) (k : Nat) : Below w.heap.size w (w.drewN k) := ⟨rfl, rfl, rfl, Nat.le_refl _, fun _ _ => rfl⟩
/-- Two strings, a truth; the number is read. -/
theorem con_ssbM {P : Program} {f : FuncId} {g : Nat} (hg : glv P = some g) {pre : ByteArray → ByteArray → Prop} {B : ByteArray → ByteArray → Bool} (he : ∀ (args : Array Value) (w : World), (callFunc f args).run P w = .ok (.enter f args) w)
    (h : ∀ (s c : ByteArray) (m : Int) (w : World), pre s c → w.cell? ⟨g, 0, none⟩ = some (.int .i64 m) → Calls P f #[.string s, .string c] w fun e w' => e = .returned (.bool (B s c)) ∧ Below w.heap.size w w')
    {F : ByteArray × ByteArray × Unit → Option (Bool × Unit)} (hF : ∀ d r, F d = some r → pre d.1 d.2.1 ∧ r = (B d.1 d.2.1, ())) : Contract P f ⟨[(.str, false), (.str, false)], [.bool], true, F⟩ := by
  intro w ψ U vs d out hargs hU hψ hgl ho
  obtain ⟨c1, r1, h1, h2, c2, r2, h3, h4, h5⟩ := hargs
  simp only [Rep] at h2 h4
  have h5 : r2 = [] := h5
  subst h2 h4 h5 h3
  subst h1
  obtain ⟨hp, hr⟩ := hF d out ho
  obtain ⟨m, hm⟩ := (hgl g (.inl hg)).2.len hg
  unfold CallsTo
  rw [he]
  refine Calls.mono (h d.1 d.2.1 m w hp hm) fun e w' hh => ?_
  obtain ⟨rfl, bel⟩ := hh
  subst hr
  exact post_flat (k := .bool) rfl rfl bel (c := [.bool (B d.1 d.2.1)]) rfl rfl rfl (fun S => ⟨rfl, rfl⟩) (fun χ => trivial)
/-- Two strings: two strings and a truth; the number is read. -/
theorem con_sssbM {P : Program} {f : FuncId} {g : Nat} (hg : glv P = some g) {pre : ByteArray → ByteArray → Prop} {B : ByteArray → ByteArray → ByteArray × ByteArray × Bool} (he : ∀ (args : Array Value) (w : World), (callFunc f args).run P w = .ok (.enter f args) w)
    (h : ∀ (s c : ByteArray) (m : Int) (w : World), pre s c → w.cell? ⟨g, 0, none⟩ = some (.int .i64 m) → Calls P f #[.string s, .string c] w fun e w' => e = .returned (.tuple #[.string (B s c).1, .string (B s c).2.1, .bool (B s c).2.2]) ∧ Below w.heap.size w w')
    {F : ByteArray × ByteArray × Unit → Option (ByteArray × ByteArray × Bool × Unit)} (hF : ∀ d r, F d = some r → pre d.1 d.2.1 ∧ r = ((B d.1 d.2.1).1, (B d.1 d.2.1).2.1, (B d.1 d.2.1).2.2, ())) : Contract P f ⟨[(.str, false), (.str, false)], [.str, .str, .bool], true, F⟩ := by
  intro w ψ U vs d out hargs hU hψ hgl ho
  obtain ⟨c1, r1, h1, h2, c2, r2, h3, h4, h5⟩ := hargs
  simp only [Rep] at h2 h4
  have h5 : r2 = [] := h5
  subst h2 h4 h5 h3
  subst h1
  obtain ⟨hp, hr⟩ := hF d out ho
  obtain ⟨m, hm⟩ := (hgl g (.inl hg)).2.len hg
  unfold CallsTo
  rw [he]
  refine Calls.mono (h d.1 d.2.1 m w hp hm) fun e w' hh => ?_
  obtain ⟨rfl, bel⟩ := hh
  subst hr
  exact ⟨fun _ => none, bel.os, bel.tape, bel.output, bel.size, fun b hb _ => bel.block b hb, fun b z h => (by cases h), ⟨[.string (B d.1 d.2.1).1, .string (B d.1 d.2.1).2.1, .bool (B d.1 d.2.1).2.2], rfl, rfl, rfl, rfl, rfl⟩, trivial⟩
/-- A number, a string; the table is read. -/
theorem con_itoa {P : Program} {f : FuncId} {g : Nat} (hg : powv P = some g) {B : Int → ByteArray} (he : ∀ (args : Array Value) (w : World), (callFunc f args).run P w = .ok (.enter f args) w)
    (h : ∀ (n : Int) (w : World), -9223372036854775808 ≤ n → n ≤ 9223372036854775807 → w.var? P "internal/strconv.uint64pow10" = some (pow10s.map fun z => Value.int .u64 z).toArray → Calls P f #[.int .i64 n] w fun e w' => e = .returned (.string (B n)) ∧ Below w.heap.size w w')
    {F : Int × Unit → Option (ByteArray × Unit)} (hF : ∀ d r, F d = some r → (-9223372036854775808 ≤ d.1 ∧ d.1 ≤ 9223372036854775807) ∧ r = (B d.1, ())) : Contract P f ⟨[(.int .i64, false)], [.str], true, F⟩ := by
  intro w ψ U vs d out hargs hU hψ hgl ho
  obtain ⟨c1, r1, h1, h2, h5⟩ := hargs
  simp only [Rep] at h2
  have h5 : r1 = [] := h5
  subst h2 h5
  subst h1
  obtain ⟨hp, hr⟩ := hF d out ho
  obtain ⟨T, m, hm⟩ := (hgl g (.inr hg)).2.pow hg
  have hv : w.var? P "internal/strconv.uint64pow10" = some (pow10s.map fun z => Value.int .u64 z).toArray := by
    unfold World.var?
    unfold powv at hg
    rw [hg]
    simp [hm]
  unfold CallsTo
  rw [he]
  refine Calls.mono (h d.1 w hp.1 hp.2 hv) fun e w' hh => ?_
  obtain ⟨rfl, bel⟩ := hh
  subst hr
  exact post_flat (k := .str) rfl rfl bel (c := [.string (B d.1)]) rfl rfl rfl (fun S => ⟨rfl, rfl⟩) (fun χ => trivial)
end Go.V
set_option linter.unusedVariables false
set_option linter.unusedSimpArgs false
namespace Go.V
/-- Data as a program's input has it. -/
def WfD : (k : Kd) → k.den → Prop
  | .int ik, n => (Lit.int ik n).wf = true
  | .bool, _ => True
  | .str, s => s.size ≤ maxLen
  | .slice e, l => List.length l ≤ maxLen ∧ ∀ x ∈ (l : List e.den), WfD e x
  | .unit, _ => True
  | .pair a b, d => WfD a d.1 ∧ WfD b d.2
  | .bx _, _ | .clo .., _ => True
theorem mapM_range' {β : Type} {f : Nat → Option β} : ∀ {n s : Nat} {l : List β}, (List.range' s n).mapM f = some l → l.length = n ∧ ∀ i, i < n → ∃ y, l[i]? = some y ∧ f (s + i) = some y := by
  intro n
  induction n with
  | zero => intro s l h; simp at h; subst h; exact ⟨rfl, fun i hi => by omega⟩
  | succ n ih =>
    intro s l h
    rw [List.range'_succ, List.mapM_cons] at h
    cases h1 : f s with
    | none => rw [h1] at h; simp at h
    | some y =>
      rw [h1] at h
      cases h2 : (List.range' (s + 1) n).mapM f with
      | none => rw [h2] at h; simp at h
      | some ys =>
        rw [h2] at h
        simp at h
        subst h
        obtain ⟨e1, e2⟩ := ih h2
        refine ⟨by simp [e1], fun i hi => ?_⟩
        cases i with
        | zero => exact ⟨y, rfl, h1⟩
        | succ i =>
          obtain ⟨z, z1, z2⟩ := e2 i (by omega)
          exact ⟨z, by simpa using z1, by rw [show s + (i + 1) = s + 1 + i by omega]; exact z2⟩
theorem mapM_range {β : Type} {f : Nat → Option β} {n : Nat} {l : List β} (h : (List.range n).mapM f = some l) : l.length = n ∧ ∀ i, i < n → ∃ y, l[i]? = some y ∧ f i = some y := by
  rw [List.range_eq_range'] at h
  obtain ⟨h1, h2⟩ := mapM_range' h
  exact ⟨h1, fun i hi => by simpa using h2 i hi⟩
theorem cell?_block {w : World} {b o : Nat} {v : Value} (h : w.cell? ⟨b, o, none⟩ = some v) : ∃ cs T fr, w.heap[b]? = some (.cells cs T fr) ∧ cs[o]? = some v := by
  unfold World.cell? at h
  split at h
  · rename_i c T fr hb
    exact ⟨c, T, fr, hb, by simpa using h⟩
  · cases h
theorem cells?_at {w : World} {b o n : Nat} {cs : List Value} (h : w.cells? 0 ⟨b, o, none⟩ n = some cs) (hn : 0 < n) : BlockOk w b (o + n) ∧ cellsAt w b o n = cs := by
  obtain ⟨_, hl, hc⟩ := World.cells?_some h
  have hlast := hc (n - 1) (by omega)
  rw [add_mk] at hlast
  have hl1 : n - 1 < cs.length := by omega
  rw [List.getElem?_eq_getElem hl1] at hlast
  obtain ⟨c, T, fr, hb, hv⟩ := cell?_block hlast
  have hlt := (Array.getElem?_eq_some_iff.1 hv).1
  have hok : BlockOk w b (o + n) := ⟨c, T, fr, hb, by omega⟩
  refine ⟨hok, ?_⟩
  apply List.ext_getElem?
  intro j
  by_cases hj : j < n
  · have h1 := hc j hj
    rw [add_mk] at h1
    have hlen := cellsAt_length hok
    have hv2 : ∃ v, (cellsAt w b o n)[j]? = some v := ⟨_, List.getElem?_eq_getElem (by omega)⟩
    obtain ⟨v, hv2⟩ := hv2
    have h3 := cell?_cellsAt hok j v hv2
    rw [add_mk, h1] at h3
    rw [hv2, h3]
  · rw [List.getElem?_eq_none (by rw [cellsAt_length hok]; omega), List.getElem?_eq_none (by omega)]
section
variable {H : Type} {enc : TypeId × Value → H} {P : Program} {tk : TypeId → Option Kd} {ar : TypeId → Option TypeId} {w : World} {held : Bool}
theorem cellsOf_eq (hT : TabOk P tk ar) {t : TypeId} {k : Kd} (ht : tk t = some k) : P.cellsOf t = k.size := by
  obtain ⟨i, z, hr⟩ := row_of hT ht
  simp [Program.cellsOf, hr.info, hr.size]
/-- Elements read one after the other. -/
theorem open_list {e : Kd} {f : Nat → List Value} {n : Nat} {R : List Value → e.den → Prop} (h : ∀ i, i < n → ∃ x, R (f i) x) : ∃ l : List e.den, l.length = n ∧ ∀ i (hi : i < l.length), R (f i) (l.get ⟨i, hi⟩) := by
  induction n with
  | zero => exact ⟨[], rfl, fun i hi => by simp at hi⟩
  | succ n ih =>
    obtain ⟨l, h1, h2⟩ := ih fun i hi => h i (by omega)
    obtain ⟨x, hx⟩ := h n (by omega)
    refine ⟨l ++ [x], by simp [h1], fun i hi => ?_⟩
    rw [List.length_append, List.length_singleton] at hi
    by_cases hl : i < l.length
    · have := h2 i hl
      simpa [List.getElem_append_left hl] using this
    · have : i = n := by omega
      subst this
      simpa [List.getElem_append_right (show l.length ≤ i by omega), h1] using hx
theorem trod_arr {t e : TypeId} {n fuel : Nat} {cs : List Value} {x : DataW H × List MemPlace} {spare : Nat → Bool} {base : Nat} (ht : P.underlying t = some (.array n e)) (h : DataW.trod enc P w base spare held fuel t cs = some x) :
    ∃ m, fuel = m + 1 ∧ cs.length = P.cellsOf t ∧ ∀ i, i < n → ∃ y, DataW.trod enc P w base spare held m e ((cs.drop (i * P.cellsOf e)).take (P.cellsOf e)) = some y := by
  cases fuel with
  | zero => simp [DataW.trod] at h
  | succ m =>
    unfold DataW.trod at h
    rw [ht] at h
    split at h <;> simp_all
    obtain ⟨_, xs, hp, _⟩ := h
    intro i hi
    obtain ⟨y, _, h2⟩ := (mapM_range hp).2 i hi
    exact ⟨y.1, y.2, h2⟩
theorem open_data (hT : TabOk P tk ar) : ∀ (k : Kd),
    (∀ (t : TypeId) (fuel : Nat) (cs : List Value) (x : DataW H × List MemPlace) (q : Path), tk t = some k → DataW.trod enc P w 0 (fun _ => true) held fuel t cs = some x → ∃ d : k.den, Rep w (fun _ _ => True) k q cs d ∧ WfD k d) ∧
    (∀ (fs : List Field) (off fuel : Nat) (cs : List Value) (q : Path), fieldsOk P tk fs off k = true → (∀ f ∈ fs, ∃ x, DataW.trod enc P w 0 (fun _ => true) held fuel f.type ((cs.drop f.offset).take (P.cellsOf f.type)) = some x) →
      ∃ d : k.den, Rep w (fun _ _ => True) k q ((cs.drop off).take k.size) d ∧ WfD k d) ∧
    (∀ (n j fuel : Nat) (e : TypeId) (cs : List Value) (q : Path), arrOk tk e n k = true → (∀ i, i < n → ∃ x, DataW.trod enc P w 0 (fun _ => true) held fuel e ((cs.drop ((j + i) * P.cellsOf e)).take (P.cellsOf e)) = some x) →
      ∃ d : k.den, Rep w (fun _ _ => True) k q ((cs.drop (j * P.cellsOf e)).take k.size) d ∧ WfD k d) := by
  intro k
  induction k with
  | bx k ih => exact ⟨fun t fuel cs x q ht h => absurd (tab_pure hT ht) (by simp [Kd.pure]), fun fs off fuel cs q h => by cases fs <;> simp [fieldsOk] at h, fun n j fuel e cs q h => by cases n <;> simp [arrOk] at h⟩
  | clo f a b iha ihb => exact ⟨fun t fuel cs x q ht h => absurd (tab_pure hT ht) (by simp [Kd.pure]), fun fs off fuel cs q h => by cases fs <;> simp [fieldsOk] at h, fun n j fuel e cs q h => by cases n <;> simp [arrOk] at h⟩
  | int ik =>
    refine ⟨fun t fuel cs x q ht h => ?_, fun fs off fuel cs q h => ?_, fun n j fuel e cs q h => ?_⟩
    · obtain ⟨n, h1, _, h2⟩ := DataW.trod_int (under_int hT ht) h
      exact ⟨n, h1, h2⟩
    · cases fs <;> simp [fieldsOk] at h
    · cases n <;> simp [arrOk] at h
  | bool =>
    refine ⟨fun t fuel cs x q ht h => ?_, fun fs off fuel cs q h => ?_, fun n j fuel e cs q h => ?_⟩
    · obtain ⟨b, h1, _⟩ := DataW.trod_bool (under_bool hT ht) h
      exact ⟨b, h1, trivial⟩
    · cases fs <;> simp [fieldsOk] at h
    · cases n <;> simp [arrOk] at h
  | str =>
    refine ⟨fun t fuel cs x q ht h => ?_, fun fs off fuel cs q h => ?_, fun n j fuel e cs q h => ?_⟩
    · obtain ⟨b, h1, _, h2⟩ := DataW.trod_string (under_str hT ht) h
      exact ⟨b, h1, h2⟩
    · cases fs <;> simp [fieldsOk] at h
    · cases n <;> simp [arrOk] at h
  | slice e ih =>
    refine ⟨fun t fuel cs x q ht h => ?_, fun fs off fuel cs q h => ?_, fun n j fuel e cs q h => ?_⟩
    · obtain ⟨te, hu, he, hpos⟩ := under_slice hT ht
      have hce := cellsOf_eq hT he
      rcases DataW.trod_slice hu h with ⟨h1, _⟩ | ⟨a, len, cap, elems, rest, n, _, h1, _, _, hlc, hcm, hel, helems, hrest, _⟩
      · exact ⟨[], by simp only [Rep]; exact .inl ⟨⟨none, h1⟩, trivial⟩, Nat.zero_le _, fun x hx => by cases hx⟩
      · rw [hce] at helems hrest
        obtain ⟨hrl, hrest⟩ := hrest rfl
        -- each place is there
        have hall : ∀ i, i < cap → ∃ c y, w.cells? 0 (a.add (i * e.size)) e.size = some c ∧ DataW.trod enc P w 0 (fun _ => true) held n te c = some y := by
          intro i hi
          by_cases hl : i < len
          · have := helems i hl
            rw [List.getElem?_eq_getElem (by omega)] at this
            obtain ⟨c, c1, c2⟩ := Option.bind_eq_some_iff.1 this
            exact ⟨c, _, c1, c2⟩
          · obtain ⟨j, rfl⟩ : ∃ j, i = len + j := ⟨i - len, by omega⟩
            have := hrest j (by omega)
            rw [List.getElem?_eq_getElem (by omega)] at this
            obtain ⟨c, c1, c2⟩ := Option.bind_eq_some_iff.1 this
            exact ⟨c, _, c1, c2⟩
        by_cases hc0 : cap = 0
        · have hl0 : len = 0 := by omega
          subst hc0 hl0
          exact ⟨[], by simp only [Rep]; exact .inl ⟨⟨some a, h1⟩, trivial⟩, Nat.zero_le _, fun x hx => by cases hx⟩
        · have hspot : a.spot = none := by
            obtain ⟨c, y, c1, _⟩ := hall 0 (by omega)
            obtain ⟨_, hl, hcell⟩ := World.cells?_some c1
            have h0 := hcell 0 hpos
            rw [List.getElem?_eq_getElem (by omega)] at h0
            have := World.cell?_spot h0
            simpa [Addr.add] using this
          obtain ⟨b, off, spot⟩ := a
          simp only at hspot
          subst hspot
          simp only [add_mk] at hall
          have hblk : BlockOk w b (off + cap * e.size) := by
            obtain ⟨c, y, c1, _⟩ := hall (cap - 1) (by omega)
            have := (cells?_at c1 hpos).1
            have e2 : off + (cap - 1) * e.size + e.size = off + cap * e.size := by
              rw [Nat.sub_mul, Nat.one_mul]
              have : e.size ≤ cap * e.size := Nat.le_mul_of_pos_left _ (by omega)
              omega
            rw [e2] at this
            exact this
          obtain ⟨l, l1, l2⟩ := open_list (e := e) (n := len) (f := fun i => cellsAt w b (off + i * e.size) e.size) (R := fun c x => (∀ q, Rep w (fun _ _ => True) e q c x) ∧ WfD e x) (fun i hi => by
            obtain ⟨c, y, c1, c2⟩ := hall i (by omega)
            obtain ⟨d, d1, d2⟩ := ih.1 te n c y [] he c2
            refine ⟨d, fun q => ?_, d2⟩
            rw [(cells?_at c1 hpos).2]
            exact d1.move fun _ _ _ _ => trivial)
          refine ⟨l, ?_, by omega, fun x hx => ?_⟩
          · simp only [Rep]
            refine .inr ⟨b, off, cap, by rw [h1, l1], by omega, trivial, hblk, fun i hi => (l2 i hi).1 _⟩
          · obtain ⟨i, hi, rfl⟩ := List.getElem_of_mem hx
            exact (l2 i hi).2
    · cases fs <;> simp [fieldsOk] at h
    · cases n <;> simp [arrOk] at h
  | unit =>
    refine ⟨fun t fuel cs x q ht h => ?_, fun fs off fuel cs q h _ => ⟨(), by simp [Rep, Kd.size], trivial⟩, fun n j fuel e cs q h _ => ⟨(), by simp [Rep, Kd.size], trivial⟩⟩
    have hcs : cs.length = 0 := by
      rcases under_agg hT ht rfl with ⟨fs, u1, _, _⟩ | ⟨n, e, u1, _, _⟩
      · obtain ⟨_, _, _, _, hl, _⟩ := DataW.trod_struct u1 h
        rw [hl, cellsOf_eq hT ht]; rfl
      · obtain ⟨_, _, hl, _⟩ := trod_arr u1 h
        rw [hl, cellsOf_eq hT ht]; rfl
    exact ⟨(), by simp only [Rep]; exact List.length_eq_zero_iff.1 hcs, trivial⟩
  | pair a b iha ihb =>
    have partB : ∀ (fs : List Field) (off fuel : Nat) (cs : List Value) (q : Path), fieldsOk P tk fs off (.pair a b) = true → (∀ f ∈ fs, ∃ x, DataW.trod enc P w 0 (fun _ => true) held fuel f.type ((cs.drop f.offset).take (P.cellsOf f.type)) = some x) →
        ∃ d : (Kd.pair a b).den, Rep w (fun _ _ => True) (.pair a b) q ((cs.drop off).take (Kd.pair a b).size) d ∧ WfD (.pair a b) d := by
      intro fs off fuel cs q h hall
      cases fs with
      | nil => simp [fieldsOk] at h
      | cons f fs =>
        simp only [fieldsOk, Bool.and_eq_true, decide_eq_true_eq] at h
        obtain ⟨⟨⟨h1, h2⟩, _⟩, h4⟩ := h
        have h1 := Nat.eq_of_beq_eq_true h1
        obtain ⟨x, hx⟩ := hall f (by simp)
        rw [cellsOf_eq hT h2, h1] at hx
        obtain ⟨d1, r1, w1⟩ := iha.1 f.type fuel _ x (q ++ [.l]) h2 hx
        obtain ⟨d2, r2, w2⟩ := ihb.2.1 fs (off + a.size) fuel cs (q ++ [.r]) h4 (fun g hg => hall g (by simp [hg]))
        refine ⟨(d1, d2), ?_, w1, w2⟩
        simp only [Rep, Kd.size]
        rw [List.take_take, Nat.min_eq_left (by omega), List.drop_take, List.drop_drop, show a.size + b.size - a.size = b.size by omega]
        exact ⟨r1, r2⟩
    have partC : ∀ (n j fuel : Nat) (e : TypeId) (cs : List Value) (q : Path), arrOk tk e n (.pair a b) = true → (∀ i, i < n → ∃ x, DataW.trod enc P w 0 (fun _ => true) held fuel e ((cs.drop ((j + i) * P.cellsOf e)).take (P.cellsOf e)) = some x) →
        ∃ d : (Kd.pair a b).den, Rep w (fun _ _ => True) (.pair a b) q ((cs.drop (j * P.cellsOf e)).take (Kd.pair a b).size) d ∧ WfD (.pair a b) d := by
      intro n j fuel e cs q h hall
      cases n with
      | zero => simp [arrOk] at h
      | succ n =>
        simp only [arrOk, Bool.and_eq_true, decide_eq_true_eq] at h
        obtain ⟨h2, h4⟩ := h
        have hce := cellsOf_eq hT h2
        obtain ⟨x, hx⟩ := hall 0 (by omega)
        rw [Nat.add_zero] at hx
        rw [hce] at hx
        obtain ⟨d1, r1, w1⟩ := iha.1 e fuel _ x (q ++ [.l]) h2 hx
        obtain ⟨d2, r2, w2⟩ := ihb.2.2 n (j + 1) fuel e cs (q ++ [.r]) h4 (fun i hi => by
          have := hall (i + 1) (by omega)
          rw [show j + (i + 1) = j + 1 + i by omega] at this
          exact this)
        refine ⟨(d1, d2), ?_, w1, w2⟩
        simp only [Rep, Kd.size]
        rw [hce] at r2 ⊢
        rw [Nat.add_mul, Nat.one_mul] at r2
        rw [List.take_take, Nat.min_eq_left (by omega), List.drop_take, List.drop_drop, show a.size + b.size - a.size = b.size by omega]
        exact ⟨r1, r2⟩
    refine ⟨fun t fuel cs x q ht h => ?_, partB, partC⟩
    have hsz := cellsOf_eq hT ht
    rcases under_agg hT ht rfl with ⟨fs, u1, _, u3⟩ | ⟨n, e, u1, _, u3⟩
    · obtain ⟨xs, m, _, _, hl, hxl, hf⟩ := DataW.trod_struct u1 h
      have := partB fs.toList 0 m cs q u3 (fun f hf' => by
        obtain ⟨i, hi, rfl⟩ := List.getElem_of_mem hf'
        have hi' : i < fs.size := by simpa using hi
        have h2 := hf i fs[i] (by simp [hi'])
        rw [List.getElem?_eq_getElem (by omega)] at h2
        exact ⟨_, by simpa using h2⟩)
      rw [List.drop_zero, List.take_of_length_le (by omega)] at this
      exact this
    · obtain ⟨m, _, hl, hf⟩ := trod_arr u1 h
      have := partC n 0 m e cs q u3 (fun i hi => by rw [Nat.zero_add]; exact hf i hi)
      rw [Nat.zero_mul, List.drop_zero, List.take_of_length_le (by omega)] at this
      exact this
theorem open_val (hT : TabOk P tk ar) {t : TypeId} {k : Kd} (ht : tk t = some k) {r : Reach} {base : Nat} {v : Value} {d : DataW H} {ps : List MemPlace} (hv : Value.okWide P w r base t v) (h : DataW.Trod enc P w 0 (fun _ => true) held t v d ps) :
    ∃ c x, v = mkVal k c ∧ Rep w (fun _ _ => True) k [] c x ∧ WfD k x := by
  obtain ⟨fuel, hf⟩ := h
  obtain ⟨x, h1, h2⟩ := (open_data hT k).1 t fuel _ _ [] ht hf
  refine ⟨v.cells.toList, x, ?_, h1, h2⟩
  have hc := mkVal_cells h1
  have hagg : isAggV v = k.agg := by
    cases k with
    | bx k => exact absurd (tab_pure hT ht) (by simp [Kd.pure])
    | clo f a b => exact absurd (tab_pure hT ht) (by simp [Kd.pure])
    | int ik =>
      simp only [Rep] at h1
      obtain ⟨n, rfl⟩ := Go.WideShapes.okWide_int (under_int hT ht) hv
      rfl
    | bool =>
      have hu := under_bool hT ht
      simp only [Value.okWide, hu, Cell.okWide] at hv
      cases v <;> simp_all [Cell.ok, isAggV, Kd.agg]
    | str =>
      obtain ⟨s, rfl⟩ := Go.WideShapes.okWide_string (under_str hT ht) hv
      rfl
    | slice e =>
      obtain ⟨te, hu, _, _⟩ := under_slice hT ht
      obtain ⟨a, len, cap, rfl⟩ := Go.WideShapes.okWide_slice hu hv
      rfl
    | unit =>
      rcases under_agg hT ht rfl with ⟨fs, u1, _, _⟩ | ⟨n, e, u1, _, _⟩ <;>
      · simp only [Value.okWide, u1] at hv
        obtain ⟨cs, rfl, _⟩ := hv
        rfl
    | pair a b =>
      rcases under_agg hT ht rfl with ⟨fs, u1, _, _⟩ | ⟨n, e, u1, _, _⟩ <;>
      · simp only [Value.okWide, u1] at hv
        obtain ⟨cs, rfl, _⟩ := hv
        rfl
  unfold mkVal
  rw [← hagg]
  cases v with
  | agg cs => simp [isAggV, Value.cells]
  | _ => simp [isAggV, Value.cells]
/-- All arguments opened. -/
theorem open_all (hT : TabOk P tk ar) {r : Reach} {base : Nat} : ∀ {ts : List TypeId} {ps : List (Kd × Bool)} {vs : List Value} {ds : List (DataW H)} {pl : List MemPlace} (i : Nat), ts.map tk = ps.map (fun p => some p.1) → (∀ p ∈ ps, p.2 = false) →
    (∀ (j : Nat) t v, ts[j]? = some t → vs[j]? = some v → Value.okWide P w r base t v) → DataW.TrodAll enc P w 0 (fun _ => true) held ts vs ds pl →
    ∃ x, ArgsOk w (fun _ => none) (fun _ => True) i ps vs x ∧ WfD (Kd.tuple (ps.map (·.1))) x := by
  intro ts
  induction ts with
  | nil =>
    intro ps vs ds pl i hm hps hv h
    cases ps with
    | nil =>
      obtain ⟨rfl, _, _⟩ := Go.ChangeShapes.trodAll_nil h
      exact ⟨(), rfl, trivial⟩
    | cons p ps => simp at hm
  | cons t ts ih =>
    intro ps vs ds pl i hm hps hv h
    cases ps with
    | nil => simp at hm
    | cons p ps =>
      obtain ⟨k, io⟩ := p
      have hio : io = false := hps (k, io) (by simp)
      subst hio
      simp only [List.map_cons, List.cons.injEq] at hm
      obtain ⟨v, vs', d, ds', p1, q1, rfl, rfl, rfl, h1, h2⟩ := Go.ChangeShapes.trodAll_cons h
      obtain ⟨c, x, e1, e2, e3⟩ := open_val hT hm.1 (hv 0 t v rfl rfl) h1
      obtain ⟨y, f1, f2⟩ := ih (i + 1) hm.2 (fun p hp => hps p (by simp [hp])) (fun j t v hj hw => hv (j + 1) t v (by simpa using hj) (by simpa using hw)) h2
      exact ⟨(x, y), ⟨c, vs', by rw [e1], e2, f1⟩, e3, f2⟩
/-- All arguments read as they did. -/
theorem shut_all {W W' : World} (hl : laidOutB P = true) (hb : Go.RowKit.Below W.heap.size W W') : ∀ {ts : List TypeId} {vs : List Value} {ds : List (DataW H)} {pl : List MemPlace}, (∀ t ∈ ts, P.readableRec t = true ∧ t < P.types.size) →
    DataW.TrodAll enc P W 0 (fun _ => true) true ts vs ds pl → ∃ pl', DataW.TrodAll enc P W' 0 (fun b => decide (b < W.heap.size)) true ts vs ds pl' := by
  intro ts
  induction ts with
  | nil =>
    intro vs ds pl _ h
    obtain ⟨rfl, rfl, _⟩ := Go.ChangeShapes.trodAll_nil h
    exact ⟨[], rfl⟩
  | cons t ts ih =>
    intro vs ds pl hr h
    obtain ⟨v, vs', d, ds', p1, q1, rfl, rfl, rfl, h1, h2⟩ := Go.ChangeShapes.trodAll_cons h
    obtain ⟨pl', h3⟩ := ih (fun t ht => hr t (by simp [ht])) h2
    have hlt : ∀ x ∈ p1, x.block < W.heap.size := by
      obtain ⟨m, hm⟩ := h1
      exact DataW.trod_lt m _ _ _ hm
    exact ⟨p1 ++ pl', p1, pl', Go.RowKit.Below.trod hl (hr t (by simp)).1 (hr t (by simp)).2 h1 hb hlt, h3, rfl⟩
theorem gl_len {P : Program} {W : World} {g : Nat} {t : TypeId} {zero : Array Value} (h : glv P = some g) (hs : W.ShapedOpen P) (hg : g < P.globals.size)
    (h0 : ((begin P (fun _ _ => 0) default).world.heap[g]?).bind Obj.row? = some (zero, t)) (hz : zero.size = 1)
    (hb : P.buildable t = true) (hc : P.cellTypes P.depth t = some [t]) (hu : P.underlying t = some (.int .i64)) : ∃ m, W.cell? ⟨g, 0, none⟩ = some (.int .i64 m) :=
  Go.Proofs.cell_of_shapedOpen_int hs hg h0 hz hb hc hu
theorem gl_both {P : Program} {W : World} {g p : Nat} (h : glv P = some g) (h2 : powv P = some p) (hn : g ≠ p) (hm : ∃ m, W.cell? ⟨g, 0, none⟩ = some (.int .i64 m))
    (ht : W.var? P "internal/strconv.uint64pow10" = some (pow10s.map fun z => Value.int .u64 z).toArray) : Gl P W (fun _ => none) := fun b hb => by
  have hp : ∃ T m, W.heap[p]? = some (.cells (pow10s.map fun z => Value.int .u64 z).toArray T m) := by
    unfold World.var? at ht
    unfold powv at h2
    rw [h2] at ht
    simp only [Option.bind_some] at ht
    cases hx : W.heap[p]? with
    | none => simp [hx] at ht
    | some o =>
      cases o with
      | cells cs T m =>
        simp only [hx, Option.some.injEq] at ht
        exact ⟨T, m, by rw [ht]⟩
      | _ => simp [hx] at ht
  rcases hb with hb | hb
  · have e := Option.some.inj (h.symm.trans hb)
    subst e
    exact ⟨rfl, fun _ => hm, fun h3 => absurd (Option.some.inj (h2.symm.trans h3)).symm hn⟩
  · have e := Option.some.inj (h2.symm.trans hb)
    subst e
    exact ⟨rfl, fun h3 => absurd (Option.some.inj (h.symm.trans h3)) hn, fun _ => hp⟩
/-- The builder with a condition on the world and its shape. -/
theorem returns_laid {a : Assume} {C : Checked} {os : Os} {f : FuncId} {fn : Func} {s : ChangeSpec} {conds : List PathCond} {apart fresh handsOn again : Bool} {X : World → Array Value → Prop}
    (hX : ∀ (w w' : World) (args : Array Value), w.heap = w'.heap → X w args → X w' args)
    (own : ownKnob C.prog.godebug = none) (started : os.Started) (noInit : C.prog.inits.idxOf? f = none) (hfn : C.prog.funcs[f]? = some fn)
    (witness : ∃ (w : World) (tape : Tape) (i : Input), w.os = os ∧ (w.forCall tape i).Shaped C.prog ∧ i.vars = [] ∧ Input.okWide C.prog (w.forCall tape i) .any w.heap.size f i ∧
      ((s.pre enc C.prog fn conds apart (w.forCall tape i).memory i.args ∧ X (w.forCall tape i).memory i.args) ∧ sizedMet enc C.prog fn (OpenSpec.ofChange s) apart (w.forCall tape i).memory i.args) ∧ a.holds C.prog (lone (Frame.enter C.prog f i.args .normal) [] (w.forCall tape i)))
    (contract : ∀ (W : World) (base : Nat) (args : Array Value) (ds gs : List (DataW H)) (before : List MemPlace),
      (∀ (j : Nat) t v, fn.params[j]? = some t → args[j]? = some v → Value.okWide C.prog W .any base t v) →
      DataW.Whole enc C.prog fn.params.toList s.vars apart W args.toList ds gs before →
      conds.all (PathCond.test C.prog ⟨fn.params.toList, ds, s.plain.varTypes C.prog, gs⟩) = true →
      (DataW.weightsEach C.prog (fn.params.toList ++ s.plain.varTypes C.prog) (ds ++ gs)).all (· ≤ reachBytes) = true → X W args →
      W.ShapedOpen C.prog →
      a.holds C.prog (lone (Frame.enter C.prog f args .normal) [] W) →
      Calls C.prog f args W fun e W' => ∃ v, e = .returned v ∧ s.post enc C.prog fn apart fresh handsOn again W args v W') :
    ReturnsInHanded a C os f .any (fun w args => (s.pre enc C.prog fn conds apart w args ∧ X w args) ∧ sizedMet enc C.prog fn (OpenSpec.ofChange s) apart w args) (s.post enc C.prog fn apart fresh handsOn again) := by
  refine Go.returnsInHanded_of_calls own started noInit witness ?_
  intro w tape i _ hsh _ hok hpre hholds
  obtain ⟨_, _, _, fn', hfn', _, _, _, _, hval⟩ := hok
  have e : fn' = fn := Option.some.inj (hfn'.symm.trans hfn)
  subst e
  obtain ⟨⟨⟨ds, gs, before, hw, hc⟩, hx⟩, hz⟩ := hpre
  have hw' := DataW.Whole.of_heap (w' := w.forCall tape i) (by rfl) hw
  refine (contract (w.forCall tape i) w.heap.size i.args ds gs before hval hw' hc (hz.weights hw) (hX _ _ _ (by rfl) hx) hsh hholds).mono fun e W' ⟨v, he, hp⟩ => ?_
  subst he
  exact ChangeSpec.post_blind hp
/-- A law's calls, out of its contract. -/
theorem law_calls (hT : TabOk P tk ar) (hl : laidOutB P = true) {f : FuncId} {fn : Func} (hf : P.funcs[f]? = some fn) (hbody : fn.body.isSome = true) (hname : (fn.name == "runtime.NumGoroutine") = false) {s : ChangeSpec} (hvars : s.vars = [])
    {rt : TypeId} (hres : fn.resultTypes = #[rt]) (hrt : P.underlying rt = some .bool) {ps : List (Kd × Bool)} (hps : ∀ p ∈ ps, p.2 = false) (hts : fn.params.toList.map tk = ps.map (fun p => some p.1)) (hread : fn.params.toList.all (fun t => P.readableRec t && decide (t < P.types.size)) = true)
    (hspec : ∀ ds : List (DataW H), ds.length = ps.length → s.fn H ds = { results := [.lit (.bool true)], args := ds })
    {own : Bool} {F : (Kd.tuple (ps.map (·.1))).den → Option (Kd.tuple ([.bool] ++ (ps.filter (·.2)).map (·.1))).den} (con : Contract P f ⟨ps, [.bool], own, F⟩) (hF : ∀ d, WfD (Kd.tuple (ps.map (·.1))) d → ∃ out, F d = some out ∧ (splitT [.bool] _ out).1.1 = true)
    {W : World} {base : Nat} {args : Array Value} {ds gs : List (DataW H)} {before : List MemPlace} (hgl : Gl P W (fun _ => none)) (hval : ∀ (j : Nat) t v, fn.params[j]? = some t → args[j]? = some v → Value.okWide P W .any base t v) (hW : DataW.Whole enc P fn.params.toList s.vars false W args.toList ds gs before) :
    Calls P f args W fun e W' => ∃ v, e = .returned v ∧ s.post enc P fn false true false false W args v W' := by
  have hW' := hW
  obtain ⟨p, q, hA, hV, rfl, hfz, hnd⟩ := hW
  rw [hvars] at hV
  obtain ⟨rfl, rfl⟩ := Go.ChangeShapes.trodVars_none hV
  obtain ⟨x, hargs, hwf⟩ := open_all hT 0 hts hps (fun j t v hj hv => hval j t v (by simpa using hj) (by simpa using hv)) hA
  obtain ⟨out, ho, htrue⟩ := hF x hwf
  have hc := con W (fun _ => none) (fun _ => True) args.toList x out hargs (fun _ _ => rfl) (fun b z h => by cases h) hgl ho
  have hcall : (callFunc f args).run P W = .ok (.enter f args) W := by
    simp only [beq_eq_false_iff_ne, ne_eq] at hname
    cases hb : fn.body with
    | none => rw [hb] at hbody; cases hbody
    | some c => simp [callFunc, hf, hname, hb]
  unfold CallsTo at hc
  simp only [Array.toArray_toList] at hc
  rw [hcall] at hc
  refine Calls.mono hc fun e W' he => ?_
  cases e with
  | panicked chain => exact he.elim
  | outgrown => exact he.elim
  | returned v =>
    obtain ⟨χ, hp⟩ := he
    refine ⟨v, rfl, ?_⟩
    have bel : Go.RowKit.Below W.heap.size W W' := ⟨hp.os, hp.tape, hp.output, hp.size, fun k hk => hp.kept k hk rfl⟩
    have hvt : v = .bool true := by
      obtain ⟨c, h1, h2⟩ := hp.res
      have h1 : v = mkVal .bool (c.take 1) := h1
      simp only [Kd.tuple, Rep] at h2
      have h3 : c.take 1 = [.bool true] := by have := h2.1; rw [htrue] at this; exact this
      rw [h1, h3]
      rfl
    subst hvt
    have hlen : ds.length = ps.length := by
      have key : ∀ (ts : List TypeId) (vs : List Value) (ds : List (DataW H)) (pl : List MemPlace), DataW.TrodAll enc P W 0 (fun _ => true) true ts vs ds pl → ds.length = ts.length := by
        intro ts
        induction ts with
        | nil => intro vs ds pl h; obtain ⟨_, rfl, _⟩ := Go.ChangeShapes.trodAll_nil h; rfl
        | cons t ts ih =>
          intro vs ds pl h
          obtain ⟨v, vs', d, ds', p1, q1, rfl, rfl, rfl, _, h2⟩ := Go.ChangeShapes.trodAll_cons h
          simp [ih _ _ _ h2]
      have h1 := key _ _ _ _ hA
      have h2 := congrArg List.length hts
      simp only [List.length_map] at h2
      omega
    have hs := hspec (ds ++ []) (by simpa using hlen)
    obtain ⟨pl', hback⟩ := shut_all hl bel (fun t ht => by
      have := List.all_eq_true.1 hread t ht
      simpa using this) hA
    refine ⟨ds, [], p ++ [], [], pl', [], hW', ?_, ?_, ?_, bel.frame _, fun h => by cases h⟩
    · rw [hs, hres]
      exact Go.ChangeShapes.trodAll_mk1 ⟨1, by simp [DataW.trod, Value.cells, hrt]⟩
    · rw [hs]
      simpa using hback
    · rw [hs, hvars]
      rfl
end
end Go.V
set_option linter.unusedVariables false
namespace Go.V
theorem idxIn_nat {i n : Nat} (h : i < n) : idxIn (i : Int) n = true := by simp [idxIn]; omega
theorem wrap_in (n : Int) (h0 : -9223372036854775808 ≤ n) (h1 : n ≤ 9223372036854775807) : IntKind.wrap .i64 n = n := Go.IntWalk.i64_in n ⟨h0, h1⟩
theorem at_get {e : Kd} {l : List e.den} {i : Nat} (h : i < l.length) : at_ e l i = l.get ⟨i, h⟩ := at_eq h
end Go.V
set_option linter.unusedVariables false
set_option linter.unusedSimpArgs false
namespace Go.V
theorem CallsTo.mono {P : Program} {f : FuncId} {args : Array Value} {w : World} {R R' : Value → World → Prop} (h : CallsTo P f args w R) (hR : ∀ v w', R v w' → R' v w') : CallsTo P f args w R' := by
  unfold CallsTo at h ⊢
  cases hr : (callFunc f args).run P w with
  | ok x w1 =>
    rw [hr] at h
    cases x with
    | value v => exact hR _ _ h
    | enter f' args' =>
      refine Calls.mono h fun e w'' he => ?_
      cases e with
      | returned v => exact hR _ _ he
      | panicked chain => exact he.elim
      | outgrown => exact he.elim
    | row row args' => exact Rows.mono h fun v w'' p => hR _ _ p
    | _ => exact h.elim
  | halt x w1 => rw [hr] at h; exact h.elim
end Go.V
namespace Go.V.W
abbrev E := Int × Int × Unit
def asciiB (s : ByteArray) : Bool := s.data.toList.all fun b => decide (b.toNat < 128)
def smallB (s : ByteArray) : Bool := decide (s.size < 4294967281)
def okS (s : ByteArray) : Bool := decide (s.size ≤ maxLen)
def G_containsAny (d : ByteArray × ByteArray × Unit) : Option (Bool × Unit) :=
  if (asciiB d.1 && asciiB d.2.1 && smallB d.1 && smallB d.2.1) = true then some (Lib.containsAny d.1.data.toList d.2.1.data.toList, ()) else none
def printed1 (b : UInt8) : Bool := decide (32 ≤ b.toNat) && decide (b.toNat ≤ 126)
def printedB (s : ByteArray) : Bool := s.data.toList.all printed1
def G_isPrinted (d : ByteArray × ByteArray × Unit) : Option (Bool × Unit) :=
  if (asciiB d.2.1 && smallB d.1 && smallB d.2.1) = true then some (printedB d.1 && !Lib.containsAny d.1.data.toList d.2.1.data.toList, ()) else none
def G_l12Bytes (d : ByteArray × Int × Unit) : Option (Bool × Unit) :=
  if okS d.1 = true then some (d.1.data.toList.all (fun b => printed1 b && !(b.toNat == 35)) && decide ((d.1.size : Int) ≤ d.2.1), ()) else none
def G_l1Stands (d : ByteArray × Int × Unit) : Option (Bool × Unit) :=
  if okS d.1 = true then some (d.1.data.toList.any (fun b => ((b.toNat : Int) == d.2.1)), ()) else none
abbrev Nt := List Int × Unit
def smallN (l : List Int) : Bool := decide (l.length ≤ 8) && l.all fun m => decide (0 ≤ m) && decide (m < 256)
abbrev Tab := List (List Int)
def tab2 (T : Tab) (c r : Int) : Int := (T.getD c.toNat []).getD r.toNat 0
def worstL (row : Int → Int) : List Int → Int → Int
  | [], m => m
  | b :: bs, m => if row b < 0 then -1 else worstL row bs (if m < row b then row b else m)
def afterT (ball : Int → List Int) (T : Tab) (b r : Int) : Int := if b = r then 0 else worstL (tab2 T b) (ball r) 0
/-- The times, as a function. -/
def tabL (n : Nat) (f : Nat → Nat → Int) : Tab := (List.range n).map fun c => (List.range n).map fun r => f c r
def canF (n : Nat) (ball : Int → List Int) (f : Nat → Nat → Int) (c r : Nat) : Bool := decide (f c r < 0) && (ball (c : Int)).any fun b => decide (0 ≤ afterT ball (tabL n f) b (r : Int))
def stepF (n : Nat) (ball : Int → List Int) (t : Int) (f : Nat → Nat → Int) (c r : Nat) : Int := if canF n ball f c r = true then t else f c r
def startF (c r : Nat) : Int := if c = r then 0 else -1
def netB (l : List Int) : Bool := smallN l && l.all fun m => decide (m < ((2 ^ l.length : Nat) : Int))
end Go.V.W
namespace Go.V.W
def netsB (n : Nat) (nets : List Nt) : Bool := decide (1 ≤ nets.length) && decide (nets.length ≤ 8) && nets.all fun w => netB w.1 && decide (w.1.length = n)
def can3 (p n : Nat) (ball : Nat → Int → List Int) (f : Nat → Nat → Nat → Int) (r c q : Nat) : Bool := decide (f r c q < 0) && (ball r (c : Int)).any fun b => decide (0 ≤ afterT (ball r) (tabL n (f ((r + 1) % p))) b (q : Int))
def step3 (p n : Nat) (ball : Nat → Int → List Int) (t : Int) (f : Nat → Nat → Nat → Int) (r c q : Nat) : Int := if can3 p n ball f r c q = true then t else f r c q
def start3 (_ c q : Nat) : Int := startF c q
end Go.V.W
namespace Go.V.W
def bl (s : ByteArray) : List UInt8 := s.data.toList
def ba (l : List UInt8) : ByteArray := ⟨l.toArray⟩
def medB (s : ByteArray) : Bool := decide (s.size ≤ 4194304)
def ckL (h : Int) (l : List UInt8) : Int := l.foldl (fun h b => (41 * h + (b.toNat : Int) + 1).tmod 999979) h
def G_sum (d : ByteArray × Unit) : Option (Int × Unit) := if medB d.1 = true then some (ckL 7 (bl d.1), ()) else none
def G_itoa (d : Int × Unit) : Option (ByteArray × Unit) := if (decide (-9223372036854775808 ≤ d.1) && decide (d.1 ≤ 9223372036854775807)) = true then some (ba (Lib.itoa d.1), ()) else none
def G_l1Num (d : Int × Unit) : Option (ByteArray × Unit) := if (decide (-9223372036854775807 ≤ d.1) && decide (d.1 ≤ 9223372036854775807)) = true then some (ba (Lib.itoa d.1), ()) else none
def G_cut (d : ByteArray × ByteArray × Unit) : Option (ByteArray × ByteArray × Bool × Unit) :=
  if smallB d.1 = true then some (ba (Lib.cut (bl d.1) (bl d.2.1)).1, ba (Lib.cut (bl d.1) (bl d.2.1)).2.1, (Lib.cut (bl d.1) (bl d.2.1)).2.2, ()) else none
def G_contains (d : ByteArray × ByteArray × Unit) : Option (Bool × Unit) := if smallB d.1 = true then some (Lib.contains (bl d.1) (bl d.2.1), ()) else none
/-- The parts between bytes. -/
def splitL (c : Int) : List UInt8 → List (List UInt8)
  | [] => [[]]
  | b :: l => if (b.toNat : Int) = c then [] :: splitL c l else match splitL c l with
    | [] => [[b]]
    | x :: r => (b :: x) :: r
def G_l1Split (d : ByteArray × Int × Unit) : Option (List ByteArray × Unit) := if medB d.1 = true then some ((splitL d.2.1 (bl d.1)).map ba, ()) else none
abbrev Rc := ByteArray × ByteArray × Unit
def cutA (c : UInt8) (l : List UInt8) : List UInt8 := l.takeWhile (· != c)
def cutB (c : UInt8) (l : List UInt8) : List UInt8 := (l.dropWhile (· != c)).drop 1
def printedL (l : List UInt8) : Bool := l.all fun b => decide (32 ≤ b.toNat) && decide (b.toNat ≤ 126)
/-- A command, a reply. -/
def validL (c r : List UInt8) : Bool :=
  (decide (1 ≤ c.length) && decide (c.length ≤ 160) && printedL c && !c.contains 35 && !c.contains 64) && (decide (r.length ≤ 200) && printedL r && !r.contains 35)
def sealL (l : List UInt8) : List UInt8 := l ++ [35] ++ Lib.itoa (ckL 7 l)
def textL (k : Nat) (c r : List UInt8) : List UInt8 := Lib.itoa (k : Int) ++ [32] ++ c ++ [64] ++ r
def lineL (k : Nat) (c r : List UInt8) : List UInt8 := sealL (textL k c r) ++ [10]
/-- A line without its end, as the record with a number. -/
def decodeL (k : Nat) (l : List UInt8) : Option (List UInt8 × List UInt8) :=
  let rest := cutB 32 (cutA 35 l)
  if (validL (cutA 64 rest) (cutB 64 rest) && (lineL k (cutA 64 rest) (cutB 64 rest) == l ++ [10])) = true then some (cutA 64 rest, cutB 64 rest) else none
/-- The records at the begin, and the bytes read. -/
def openL : Nat → Nat → List UInt8 → List (List UInt8 × List UInt8) × Nat
  | 0, _, _ => ([], 0)
  | n + 1, k, l => if l.contains 10 = true then
      match decodeL k (cutA 10 l) with
      | none => ([], 0)
      | some e => (e :: (openL n (k + 1) (cutB 10 l)).1, (cutA 10 l).length + 1 + (openL n (k + 1) (cutB 10 l)).2)
    else ([], 0)
def rcOf (e : List UInt8 × List UInt8) : Rc := (ba e.1, ba e.2, ())
def G_open (d : ByteArray × Unit) : Option (List Rc × Int × Unit) := if medB d.1 = true then some ((openL 60 0 (bl d.1)).1.map rcOf, ((openL 60 0 (bl d.1)).2 : Int), ()) else none
end Go.V.W
set_option linter.unusedVariables false
set_option linter.unusedSimpArgs false
namespace Go.V.W
theorem bl_ba (l : List UInt8) : bl (ba l) = l := by simp [bl, ba]
theorem ba_bl (s : ByteArray) : ba (bl s) = s := Lib.mk_data s
theorem ba_size (l : List UInt8) : (ba l).size = l.length := by simp [ba, ByteArray.size]
theorem bl_length (s : ByteArray) : (bl s).length = s.size := by simp [bl]
theorem ba_append (l m : List UInt8) : ba l ++ ba m = ba (l ++ m) := by
  have : (ba l ++ ba m).data.toList = l ++ m := by simp [ba]
  rw [← Lib.mk_data (ba l ++ ba m), this]
  rfl
theorem subS_ba (l : List UInt8) (a b : Nat) : subS (ba l) (a : Int) (b : Int) = ba ((l.drop a).take (b - a)) := by
  unfold subS
  rw [Lib.extract_eq]
  rfl
theorem subS_end (l : List UInt8) (a : Nat) : subS (ba l) (a : Int) ((ba l).size : Int) = ba (l.drop a) := by
  rw [ba_size, subS_ba, List.take_of_length_le (by simp)]
theorem seq_ba (l m : List UInt8) : seq_ (ba l) (ba m) = (l == m) := by
  unfold seq_
  rw [Lib.toList_data, Lib.toList_data]
  simp [ba]
theorem seq_self (s : ByteArray) : seq_ s s = true := by unfold seq_; simp
theorem cutA_of_not {c : UInt8} : ∀ {l : List UInt8}, c ∉ l → cutA c l = l := by
  intro l
  induction l with
  | nil => intro _; rfl
  | cons b l ih =>
    intro h
    simp only [List.mem_cons, not_or] at h
    unfold cutA at ih ⊢
    rw [List.takeWhile_cons, if_pos (by simpa using fun e => h.1 e.symm), ih h.2]
theorem cutB_of_not {c : UInt8} : ∀ {l : List UInt8}, c ∉ l → cutB c l = [] := by
  intro l
  induction l with
  | nil => intro _; rfl
  | cons b l ih =>
    intro h
    simp only [List.mem_cons, not_or] at h
    unfold cutB at ih ⊢
    rw [List.dropWhile_cons, if_pos (by simpa using fun e => h.1 e.symm), ih h.2]
theorem cutA_mid {c : UInt8} {y : List UInt8} : ∀ {x : List UInt8}, c ∉ x → cutA c (x ++ [c] ++ y) = x := by
  intro x
  induction x with
  | nil => intro _; simp [cutA]
  | cons b l ih =>
    intro h
    simp only [List.mem_cons, not_or] at h
    have ih := ih h.2
    unfold cutA at ih ⊢
    show List.takeWhile _ (b :: (l ++ [c] ++ y)) = _
    rw [List.takeWhile_cons, if_pos (by simpa using fun e => h.1 e.symm), ih]
theorem cutB_mid {c : UInt8} {y : List UInt8} : ∀ {x : List UInt8}, c ∉ x → cutB c (x ++ [c] ++ y) = y := by
  intro x
  induction x with
  | nil => intro _; simp [cutB]
  | cons b l ih =>
    intro h
    simp only [List.mem_cons, not_or] at h
    have ih := ih h.2
    unfold cutB at ih ⊢
    show (List.dropWhile _ (b :: (l ++ [c] ++ y))).drop 1 = _
    rw [List.dropWhile_cons, if_pos (by simpa using fun e => h.1 e.symm), ih]
theorem cut_join {c : UInt8} : ∀ {l : List UInt8}, c ∈ l → l = cutA c l ++ [c] ++ cutB c l := by
  intro l
  induction l with
  | nil => intro h; cases h
  | cons b l ih =>
    intro h
    by_cases e : b = c
    · subst e
      simp [cutA, cutB]
    · have h' : c ∈ l := (List.mem_cons.1 h).resolve_left fun x => e x.symm
      have ih := ih h'
      unfold cutA cutB at ih ⊢
      rw [List.takeWhile_cons, if_pos (by simpa using e), List.dropWhile_cons, if_pos (by simpa using e)]
      show b :: l = b :: (_ ++ [c] ++ _)
      rw [← ih]
theorem cutA_le (c : UInt8) (l : List UInt8) : (cutA c l).length ≤ l.length := by
  by_cases h : c ∈ l
  · have := congrArg List.length (cut_join h)
    simp only [List.length_append, List.length_cons, List.length_nil] at this
    omega
  · rw [cutA_of_not h]; exact Nat.le_refl _
theorem cutB_le (c : UInt8) (l : List UInt8) : (cutB c l).length ≤ l.length := by
  by_cases h : c ∈ l
  · have := congrArg List.length (cut_join h)
    simp only [List.length_append, List.length_cons, List.length_nil] at this
    omega
  · rw [cutB_of_not h]; simp
theorem index_cons (b c : UInt8) (l : List UInt8) : Lib.index (b :: l) [c] = if b = c then 0 else if Lib.index l [c] = -1 then -1 else Lib.index l [c] + 1 := by
  rw [Lib.index]
  by_cases h : b = c
  · subst h
    simp [List.isPrefixOf]
  · have : ([c].isPrefixOf (b :: l)) = false := by simp [List.isPrefixOf]; exact fun e => h e.symm
    rw [this]
    simp [h]
theorem index_mem (c : UInt8) : ∀ l : List UInt8, (c ∈ l → Lib.index l [c] = ((cutA c l).length : Int)) ∧ (c ∉ l → Lib.index l [c] = -1) := by
  intro l
  induction l with
  | nil => exact ⟨fun h => (by cases h), fun _ => by simp [Lib.index]⟩
  | cons b l ih =>
    rw [index_cons]
    by_cases h : b = c
    · subst h
      exact ⟨fun _ => by simp [cutA], fun h => by simp at h⟩
    · have hc : ¬ c = b := fun e => h e.symm
      have e1 : cutA c (b :: l) = b :: cutA c l := by
        unfold cutA
        rw [List.takeWhile_cons, if_pos (by simpa using h)]
      constructor
      · intro hm
        have hm : c ∈ l := by simpa [hc] using hm
        rw [ih.1 hm, if_neg h, if_neg (by omega), e1]
        simp
      · intro hm
        have hm : c ∉ l := by simpa [hc] using hm
        rw [ih.2 hm, if_neg h, if_pos rfl]
theorem cut_one (l : List UInt8) (c : UInt8) : Lib.cut l [c] = (cutA c l, cutB c l, l.contains c) := by
  unfold Lib.cut
  by_cases h : c ∈ l
  · rw [(index_mem c l).1 h, if_pos (by omega)]
    have hj := cut_join h
    have e1 : l.take (cutA c l).length = cutA c l := by
      generalize cutA c l = x at hj ⊢
      rw [hj, List.append_assoc, List.take_left]
    have e2 : l.drop ((cutA c l).length + 1) = cutB c l := by
      generalize cutA c l = x at hj ⊢
      generalize cutB c l = y at hj ⊢
      rw [hj, List.append_assoc, ← List.drop_drop, List.drop_left]
      rfl
    simp only [Int.toNat_natCast, List.length_cons, List.length_nil, Nat.zero_add, e1, e2]
    rw [List.contains_iff_mem.2 h]
  · rw [(index_mem c l).2 h, if_neg (by omega), cutA_of_not h, cutB_of_not h]
    have : l.contains c = false := by simpa using h
    rw [this]
theorem contains_one (l : List UInt8) (c : UInt8) : Lib.contains l [c] = l.contains c := by
  unfold Lib.contains
  by_cases h : c ∈ l
  · rw [(index_mem c l).1 h, List.contains_iff_mem.2 h]
    simp
  · rw [(index_mem c l).2 h]
    have : l.contains c = false := by simpa using h
    rw [this]
    rfl
theorem split_one (c : UInt8) : ∀ l : List UInt8, splitL (c.toNat : Int) l = cutA c l :: (if c ∈ l then splitL (c.toNat : Int) (cutB c l) else []) := by
  intro l
  induction l with
  | nil => rfl
  | cons b l ih =>
    by_cases h : b = c
    · subst h
      simp [splitL, cutA, cutB]
    · have hc : ¬ c = b := fun e => h e.symm
      have hn : ¬ (b.toNat : Int) = (c.toNat : Int) := fun e => h (UInt8.toNat_inj.1 (by omega))
      have e1 : cutA c (b :: l) = b :: cutA c l := by
        unfold cutA
        rw [List.takeWhile_cons, if_pos (by simpa using h)]
      have e2 : cutB c (b :: l) = cutB c l := by
        unfold cutB
        rw [List.dropWhile_cons, if_pos (by simpa using h)]
      rw [splitL, if_neg hn, ih, e1, e2]
      simp [hc]
theorem digits_in : ∀ (n u : Nat), u ≤ n → ∀ b ∈ Lib.decDigits u, 48 ≤ b.toNat ∧ b.toNat ≤ 57 := by
  intro n
  induction n with
  | zero =>
    intro u hu b hb
    rw [Lib.decDigits, dif_pos (by omega)] at hb
    simp only [List.mem_singleton] at hb
    subst hb
    have : u = 0 := by omega
    subst this
    decide
  | succ n ih =>
    intro u hu b hb
    rw [Lib.decDigits] at hb
    split at hb
    · simp only [List.mem_singleton] at hb
      subst hb
      simp only [UInt8.toNat_ofNat']
      omega
    · rw [List.mem_append] at hb
      rcases hb with hb | hb
      · exact ih (u / 10) (by omega) b hb
      · simp only [List.mem_singleton] at hb
        subst hb
        simp only [UInt8.toNat_ofNat']
        omega
theorem itoa_in {n : Int} (h : 0 ≤ n) : ∀ b ∈ Lib.itoa n, 48 ≤ b.toNat ∧ b.toNat ≤ 57 := by
  intro b hb
  unfold Lib.itoa at hb
  rw [if_neg (by omega)] at hb
  exact digits_in _ _ (Nat.le_refl _) b hb
theorem itoa_not {n : Int} (h : 0 ≤ n) {c : UInt8} (hc : c.toNat < 48 ∨ 57 < c.toNat) : c ∉ Lib.itoa n := fun hm => by
  have := itoa_in h c hm
  omega
theorem itoa_len {n : Int} (h : 0 ≤ n) (h1 : n ≤ 9223372036854775807) : (Lib.itoa n).length ≤ 21 := Lib.itoa_length_le n (by omega) h1
theorem ck_in : ∀ (l : List UInt8) (h : Int), 0 ≤ h → h < 999979 → 0 ≤ ckL h l ∧ ckL h l < 999979 := by
  intro l
  induction l with
  | nil => intro h h0 h1; exact ⟨h0, h1⟩
  | cons b l ih =>
    intro h h0 h1
    have hb := b.toNat_lt
    have e : ckL h (b :: l) = ckL ((41 * h + (b.toNat : Int) + 1).tmod 999979) l := rfl
    rw [e]
    have hx : 0 ≤ 41 * h + (b.toNat : Int) + 1 := by omega
    rw [Int.tmod_eq_emod_of_nonneg hx]
    exact ih _ (Int.emod_nonneg _ (by decide)) (Int.emod_lt_of_pos _ (by decide))
theorem ck7 (l : List UInt8) : 0 ≤ ckL 7 l ∧ ckL 7 l < 999979 := ck_in l 7 (by decide) (by decide)
theorem validL_split {c r : List UInt8} (h : validL c r = true) : (1 ≤ c.length ∧ c.length ≤ 160 ∧ (35 : UInt8) ∉ c ∧ (64 : UInt8) ∉ c) ∧ r.length ≤ 200 ∧ (35 : UInt8) ∉ r := by
  unfold validL at h
  simp only [Bool.and_eq_true, decide_eq_true_eq, Bool.not_eq_true'] at h
  obtain ⟨⟨⟨⟨⟨h1, h2⟩, _⟩, h3⟩, h4⟩, ⟨h5, _⟩, h6⟩ := h
  exact ⟨⟨h1, h2, by simpa using h3, by simpa using h4⟩, h5, by simpa using h6⟩
theorem textL_not (k : Nat) {c r : List UInt8} (h : validL c r = true) : (35 : UInt8) ∉ textL k c r := by
  obtain ⟨⟨_, _, h1, _⟩, _, h2⟩ := validL_split h
  unfold textL
  simp only [List.mem_append, List.mem_singleton, not_or]
  exact ⟨⟨⟨⟨itoa_not (by omega) (by decide), by decide⟩, h1⟩, by decide⟩, h2⟩
theorem textL_len {k : Nat} (hk : k < 9223372036854775807) {c r : List UInt8} (h : validL c r = true) : (textL k c r).length ≤ 383 := by
  obtain ⟨⟨_, h1, _⟩, h2, _⟩ := validL_split h
  have := itoa_len (n := (k : Int)) (by omega) (by omega)
  unfold textL
  simp only [List.length_append, List.length_cons, List.length_nil]
  omega
theorem sealL_len (l : List UInt8) : (sealL l).length ≤ l.length + 22 ∧ l.length + 1 ≤ (sealL l).length := by
  have := itoa_len (ck7 l).1 (by have := (ck7 l).2; omega)
  unfold sealL
  simp only [List.length_append, List.length_cons, List.length_nil]
  omega
theorem line_text {k : Nat} {c r line : List UInt8} (hv : validL c r = true) (h : lineL k c r = line ++ [10]) : line = sealL (textL k c r) ∧ cutA 35 line = textL k c r ∧ (35 : UInt8) ∈ line := by
  have e : line = sealL (textL k c r) := by
    unfold lineL at h
    exact (List.append_cancel_right h).symm
  refine ⟨e, ?_, ?_⟩
  · rw [e]
    unfold sealL
    exact cutA_mid (textL_not k hv)
  · rw [e]
    unfold sealL
    simp
theorem text_cut {k : Nat} {c r : List UInt8} (hv : validL c r = true) : cutB 32 (textL k c r) = c ++ [64] ++ r ∧ cutA 64 (c ++ [64] ++ r) = c ∧ cutB 64 (c ++ [64] ++ r) = r := by
  obtain ⟨⟨_, _, _, h1⟩, _, _⟩ := validL_split hv
  refine ⟨?_, cutA_mid h1, cutB_mid h1⟩
  have e : textL k c r = Lib.itoa (k : Int) ++ [32] ++ (c ++ [64] ++ r) := by simp [textL]
  rw [e]
  exact cutB_mid (itoa_not (by omega) (by decide))
theorem decode_hit {k : Nat} {c r line : List UInt8} (hv : validL c r = true) (h : lineL k c r = line ++ [10]) : decodeL k line = some (c, r) := by
  obtain ⟨_, h2, _⟩ := line_text hv h
  obtain ⟨h3, h4, h5⟩ := text_cut (k := k) hv
  unfold decodeL
  simp only [h2, h3, h4, h5, hv, h, Bool.true_and, beq_self_eq_true, if_true]
theorem decode_of {k : Nat} {e : List UInt8 × List UInt8} {line : List UInt8} (h : decodeL k line = some e) : validL e.1 e.2 = true ∧ lineL k e.1 e.2 = line ++ [10] := by
  unfold decodeL at h
  dsimp only at h
  split at h
  · rename_i hc
    simp only [Bool.and_eq_true, beq_iff_eq] at hc
    obtain rfl := Option.some.inj h
    exact hc
  · cases h
/-- What the program asks of a line. -/
def sealOk (t : List UInt8) : Bool := decide (t.length ≤ 4000) && !t.contains 35 && decide ((sealL t).length ≤ 4000)
def verL (l : List UInt8) : Bool := l.contains 35 && sealOk (cutA 35 l) && (sealL (cutA 35 l) == l)
theorem ver_of {k : Nat} (hk : k < 9223372036854775807) {c r line : List UInt8} (hv : validL c r = true) (h : lineL k c r = line ++ [10]) : verL line = true := by
  obtain ⟨h1, h2, h3⟩ := line_text hv h
  have h4 := textL_len hk hv
  have h5 := sealL_len (textL k c r)
  unfold verL sealOk
  rw [h2, ← h1]
  have h6 : (textL k c r).contains 35 = false := by simpa using textL_not k hv
  rw [h6, List.contains_iff_mem.2 h3]
  have : line.length ≤ 4000 := by rw [h1]; omega
  simp [this]
  omega
end Go.V.W
set_option linter.unusedVariables false
set_option linter.unusedSimpArgs false
namespace Go.V.W
open Go.Proofs Go.RowKit
/-- Only two rows have turned. -/
structure Two (g : Nat) (w w' : World) : Prop where
  os : w'.os = w.os
  tape : w'.tape = w.tape
  output : w'.output = w.output
  size : w'.heap.size = w.heap.size
  other : ∀ b, b ≠ g → b ≠ g + 1 → w'.heap[b]? = w.heap[b]?
theorem Two.refl (g : Nat) (w : World) : Two g w w := ⟨rfl, rfl, rfl, rfl, fun _ _ _ => rfl⟩
theorem Two.set {g : Nat} {w w' : World} (h : Two g w w') (a : Addr) (v : Value) (ha : a.block = g ∨ a.block = g + 1) : Two g w (w'.setCell a v) :=
  ⟨h.os, h.tape, h.output, (by rw [← h.size]; simp [World.setCell]), fun b h1 h2 => (Below.heap_setCell w' a v b (by rcases ha with e | e <;> omega)).trans (h.other b h1 h2)⟩
end Go.V.W
set_option linter.unusedVariables false
set_option maxRecDepth 100000
namespace Go.V.W
open Go.Proofs
abbrev I : Kd := .int .i64
abbrev K_Piq : Kd := .pair I .unit
abbrev K_Psiq : Kd := .pair .str K_Piq
abbrev K_Pssiq : Kd := .pair .str K_Psiq
abbrev K_Ss : Kd := .slice .str
abbrev K_Psq : Kd := .pair .str .unit
abbrev K_Pssq : Kd := .pair .str K_Psq
abbrev K_SPssq : Kd := .slice K_Pssq
abbrev K_Su8 : Kd := .slice (.int .u8)
def tks : List (Nat × Kd) := [(3, I), (4, .bool), (5, (.int .u8)), (9, .str), (27, K_Pssq), (31, K_Pssiq), (36, K_Pssiq), (48, K_SPssq), (53, K_Su8), (87, K_Ss)]
def ars : List (Nat × Nat) := []
noncomputable def Γ_laws_szLog : Ctx := { tk := assoc tks, ar := assoc ars, fs := assoc [] }
noncomputable def F_laws_szLog (N : Nat) (d : (ByteArray × ByteArray × Int × Unit) × Int × Unit) : Option (Int × Unit) :=
  let a0 : ByteArray × ByteArray × Int × Unit := d.1
  let a1 : Int := d.2.1
  let x1 : Int := IntKind.wrap .i64 (a1 - (a0.1.size : Int))
  if (decide (x1 < (0 : Int))) = true then
    some ((-1 : Int), ())
  else
    let x2 : Int := IntKind.wrap .i64 (x1 - (a0.2.1.size : Int))
    if (decide (x2 < (0 : Int))) = true then
      some ((-1 : Int), ())
    else
      some (x2, ())
theorem F_laws_szLog_ok (N : Nat) (d) : fnR Γ_laws_szLog (assoc []) true [(K_Pssiq, false), (I, false)] [I] Tryd.f19.results.toList (bodyOf Tryd.f19) d = F_laws_szLog N d := by kernel_rfl
noncomputable def g_laws_szLog (d : (ByteArray × ByteArray × Int × Unit) × Int × Unit) : Int × Unit :=
  let a0 : ByteArray × ByteArray × Int × Unit := d.1
  let a1 : Int := d.2.1
  let x1 : Int := IntKind.wrap .i64 (a1 - (a0.1.size : Int))
  if (decide (x1 < (0 : Int))) = true then
    ((-1 : Int), ())
  else
    let x2 : Int := IntKind.wrap .i64 (x1 - (a0.2.1.size : Int))
    if (decide (x2 < (0 : Int))) = true then
      ((-1 : Int), ())
    else
      (x2, ())
theorem F_laws_szLog_tot (N : Nat) (d) : F_laws_szLog N d = some (g_laws_szLog d) := by
  unfold F_laws_szLog g_laws_szLog
  first
    | rfl
    | (dsimp only; (repeat' split) <;> rfl)
noncomputable def S_laws_szLog : FSig := ⟨[(K_Pssiq, false), (I, false)], [I], true, (fun d => some (g_laws_szLog d))⟩
noncomputable def Γ_laws_toLog : Ctx := { tk := assoc tks, ar := assoc ars, fs := assoc [] }
noncomputable def F_laws_toLog (N : Nat) (d : (ByteArray × ByteArray × Int × Unit) × Unit) : Option ((ByteArray × ByteArray × Int × Unit) × Unit) :=
  let a0 : ByteArray × ByteArray × Int × Unit := d.1
  some (((a0.1, (a0.2.1, (a0.2.2.1, ()))), ()))
theorem F_laws_toLog_ok (N : Nat) (d) : fnR Γ_laws_toLog (assoc []) true [(K_Pssiq, false)] [K_Pssiq] Tryd.f21.results.toList (bodyOf Tryd.f21) d = F_laws_toLog N d := by kernel_rfl
noncomputable def g_laws_toLog (d : (ByteArray × ByteArray × Int × Unit) × Unit) : (ByteArray × ByteArray × Int × Unit) × Unit :=
  let a0 : ByteArray × ByteArray × Int × Unit := d.1
  (((a0.1, (a0.2.1, (a0.2.2.1, ()))), ()))
theorem F_laws_toLog_tot (N : Nat) (d) : F_laws_toLog N d = some (g_laws_toLog d) := by
  unfold F_laws_toLog g_laws_toLog
  first
    | rfl
    | (dsimp only; (repeat' split) <;> rfl)
noncomputable def S_laws_toLog : FSig := ⟨[(K_Pssiq, false)], [K_Pssiq], true, (fun d => some (g_laws_toLog d))⟩
noncomputable def Γ_spec_l1Split : Ctx := { tk := assoc tks, ar := assoc ars, fs := assoc [] }
abbrev spec_l1Split_l0_H := ByteArray × Int × List ByteArray × Int × Int × Unit
abbrev spec_l1Split_l0_O := (ByteArray × List ByteArray × Int × Unit) ⊕ Empty
def spec_l1Split_l0_h : Form := [(0, .v .str), (1, .v (.int .u8)), (5, .own K_Ss 99), (6, .v I), (7, .v I)]
def spec_l1Split_l0_o : Outs := [(.normal, [(0, .v .str), (5, .own K_Ss 99), (6, .v I)])]
noncomputable def spec_l1Split_l0_r (N : Nat) (back : spec_l1Split_l0_H → Option spec_l1Split_l0_O) (d : spec_l1Split_l0_H) : Option spec_l1Split_l0_O :=
  let s0 : ByteArray := d.1
  let s1 : Int := d.2.1
  let s5 : List ByteArray := d.2.2.1
  let s6 : Int := d.2.2.2.1
  let s7 : Int := d.2.2.2.2.1
  if (decide (s7 < (s0.size : Int))) = true then
    if (idxIn s7 s0.size) = true then
    if ((byteAt s0 s7.toNat : Int) == s1) = true then
      if ((decide (0 ≤ s6) && decide (s6 ≤ s7) && decide (s7 ≤ (s0.size : Int)))) = true then
      if (decide (List.length s5 + List.length ([subS s0 s6 s7]) ≤ lim)) = true then
      let x7 : Int := IntKind.wrap .i64 (s7 + (1 : Int))
      let x8 : Int := IntKind.wrap .i64 (s7 + (1 : Int))
      back ((s0, (s1, (s5 ++ ([subS s0 s6 s7]), (x7, (x8, ()))))))
      else none
      else none
    else
      let x9 : Int := IntKind.wrap .i64 (s7 + (1 : Int))
      back ((s0, (s1, (s5, (s6, (x9, ()))))))
    else none
  else
    some (.inl ((s0, (s5, (s6, ())))))
noncomputable def spec_l1Split_l0 (N : Nat) : Nat → spec_l1Split_l0_H → Option spec_l1Split_l0_O
  | 0, _ => none
  | k + 1, d => spec_l1Split_l0_r N (spec_l1Split_l0 N k) d
theorem spec_l1Split_l0_ok (N : Nat) (back) (d) : roundR Γ_spec_l1Split (assoc []) 0 spec_l1Split_l0_h spec_l1Split_l0_o (loopOf Tryd.f70 0) back d = spec_l1Split_l0_r N back d := by kernel_rfl
noncomputable def F_spec_l1Split (N : Nat) (d : ByteArray × Int × Unit) : Option (List ByteArray × Unit) :=
  let a0 : ByteArray := d.1
  let a1 : Int := d.2.1
  (spec_l1Split_l0 N N ((a0, (a1, (([] : List ByteArray), ((0 : Int), ((0 : Int), ()))))))).bind fun o4 => match o4 with
  | .inl d5 =>
    if ((decide (0 ≤ d5.2.2.1) && decide (d5.2.2.1 ≤ (d5.1.size : Int)) && decide ((d5.1.size : Int) ≤ (d5.1.size : Int)))) = true then
    let x6 : ByteArray := subS d5.1 d5.2.2.1 (d5.1.size : Int)
    if (decide (List.length d5.2.1 + List.length ([x6]) ≤ lim)) = true then
    some (d5.2.1 ++ ([x6]), ())
    else none
    else none
theorem F_spec_l1Split_ok (N : Nat) (d) : fnR Γ_spec_l1Split (assoc [(0, ⟨spec_l1Split_l0_h, spec_l1Split_l0_o, spec_l1Split_l0 N N⟩)]) true [(.str, false), ((.int .u8), false)] [K_Ss] Tryd.f70.results.toList (bodyOf Tryd.f70) d = F_spec_l1Split N d := by kernel_rfl
noncomputable def S_spec_l1Split : FSig := ⟨[(.str, false), ((.int .u8), false)], [K_Ss], true, (G_l1Split)⟩
noncomputable def F_spec_l1Num : Nat → (Int × Unit) → Option (ByteArray × Unit)
  | 0, _ => none
  | N + 1, d =>
    let a0 : Int := d.1
    if (decide (a0 < (0 : Int))) = true then
      (F_spec_l1Num N (IntKind.wrap .i64 (0 - a0), ())).bind fun r1 =>
      if (decide ((⟨#[45]⟩ : ByteArray).size + r1.1.size ≤ maxLen)) = true then
      let x2 : ByteArray := (⟨#[45]⟩ : ByteArray) ++ r1.1
      some (x2, ())
      else none
    else
      if (decide (a0 < (10 : Int))) = true then
        let x3 : Int := IntKind.wrap .i64 (a0 + (1 : Int))
        if ((decide (0 ≤ a0) && decide (a0 ≤ x3) && decide (x3 ≤ ((⟨#[48, 49, 50, 51, 52, 53, 54, 55, 56, 57]⟩ : ByteArray).size : Int)))) = true then
        let x4 : ByteArray := subS (⟨#[48, 49, 50, 51, 52, 53, 54, 55, 56, 57]⟩ : ByteArray) a0 x3
        some (x4, ())
        else none
      else
        if ((10 : Int) != 0) = true then
        let x5 : Int := IntKind.wrap .i64 (a0.tdiv (10 : Int))
        (F_spec_l1Num N (x5, ())).bind fun r6 =>
        if ((10 : Int) != 0) = true then
        if ((10 : Int) != 0) = true then
        let x7 : Int := IntKind.wrap .i64 (a0.tmod (10 : Int) + (1 : Int))
        if ((decide (0 ≤ a0.tmod (10 : Int)) && decide (a0.tmod (10 : Int) ≤ x7) && decide (x7 ≤ ((⟨#[48, 49, 50, 51, 52, 53, 54, 55, 56, 57]⟩ : ByteArray).size : Int)))) = true then
        let x8 : ByteArray := subS (⟨#[48, 49, 50, 51, 52, 53, 54, 55, 56, 57]⟩ : ByteArray) (a0.tmod (10 : Int)) x7
        if (decide (r6.1.size + x8.size ≤ maxLen)) = true then
        some (r6.1 ++ x8, ())
        else none
        else none
        else none
        else none
        else none
noncomputable def S_spec_l1Num_rec (N : Nat) : FSig := ⟨[(I, false)], [.str], true, F_spec_l1Num N⟩
noncomputable def Γ_spec_l1Num (N : Nat) : Ctx := { tk := assoc tks, ar := assoc ars, fs := assoc [(67, S_spec_l1Num_rec N)] }
theorem F_spec_l1Num_ok (N : Nat) (d) : fnR (Γ_spec_l1Num N) (assoc []) true [(I, false)] [.str] Tryd.f67.results.toList (bodyOf Tryd.f67) d = F_spec_l1Num (N + 1) d := by kernel_rfl
noncomputable def S_spec_l1Num : FSig := ⟨[(I, false)], [.str], true, (G_l1Num)⟩
noncomputable def Γ_spec_l1In : Ctx := { tk := assoc tks, ar := assoc ars, fs := assoc [] }
noncomputable def F_spec_l1In (N : Nat) (d : Int × Int × Int × Unit) : Option (Bool × Unit) :=
  let a0 : Int := d.1
  let a1 : Int := d.2.1
  let a2 : Int := d.2.2.1
  if (decide (a0 ≥ a1)) = true then
    some (decide (a0 ≤ a2), ())
  else
    some (false, ())
theorem F_spec_l1In_ok (N : Nat) (d) : fnR Γ_spec_l1In (assoc []) true [(I, false), (I, false), (I, false)] [.bool] Tryd.f45.results.toList (bodyOf Tryd.f45) d = F_spec_l1In N d := by kernel_rfl
noncomputable def g_spec_l1In (d : Int × Int × Int × Unit) : Bool × Unit :=
  let a0 : Int := d.1
  let a1 : Int := d.2.1
  let a2 : Int := d.2.2.1
  if (decide (a0 ≥ a1)) = true then
    (decide (a0 ≤ a2), ())
  else
    (false, ())
theorem F_spec_l1In_tot (N : Nat) (d) : F_spec_l1In N d = some (g_spec_l1In d) := by
  unfold F_spec_l1In g_spec_l1In
  first
    | rfl
    | (dsimp only; (repeat' split) <;> rfl)
noncomputable def S_spec_l1In : FSig := ⟨[(I, false), (I, false), (I, false)], [.bool], true, (fun d => some (g_spec_l1In d))⟩
noncomputable def Γ_spec_l12Bytes : Ctx := { tk := assoc tks, ar := assoc ars, fs := assoc [(45, S_spec_l1In)] }
abbrev spec_l12Bytes_l0_H := ByteArray × Int × Int × Unit
abbrev spec_l12Bytes_l0_O := (Bool × Unit) ⊕ (ByteArray × Int × Unit) ⊕ Empty
def spec_l12Bytes_l0_h : Form := [(0, .v .str), (1, .v I), (5, .v I)]
def spec_l12Bytes_l0_o : Outs := [(.ret, [(4, .v .bool)]), (.normal, [(0, .v .str), (1, .v I)])]
noncomputable def spec_l12Bytes_l0_r (N : Nat) (back : spec_l12Bytes_l0_H → Option spec_l12Bytes_l0_O) (d : spec_l12Bytes_l0_H) : Option spec_l12Bytes_l0_O :=
  let s0 : ByteArray := d.1
  let s1 : Int := d.2.1
  let s5 : Int := d.2.2.1
  if (decide (s5 < (s0.size : Int))) = true then
    if (idxIn s5 s0.size) = true then
    let x7 : Int := IntKind.wrap .i64 (byteAt s0 s5.toNat : Int)
    let r8 : Bool × Unit := g_spec_l1In ((x7, ((32 : Int), ((126 : Int), ()))))
    if (!r8.1) = true then
      some (.inl (false, ()))
    else
      if (idxIn s5 s0.size) = true then
      if ((byteAt s0 s5.toNat : Int) == (35 : Int)) = true then
        some (.inl (false, ()))
      else
        let x9 : Int := IntKind.wrap .i64 (s5 + (1 : Int))
        back ((s0, (s1, (x9, ()))))
      else none
    else none
  else
    some (.inr (.inl ((s0, (s1, ())))))
noncomputable def spec_l12Bytes_l0 (N : Nat) : Nat → spec_l12Bytes_l0_H → Option spec_l12Bytes_l0_O
  | 0, _ => none
  | k + 1, d => spec_l12Bytes_l0_r N (spec_l12Bytes_l0 N k) d
theorem spec_l12Bytes_l0_ok (N : Nat) (back) (d) : roundR Γ_spec_l12Bytes (assoc []) 0 spec_l12Bytes_l0_h spec_l12Bytes_l0_o (loopOf Tryd.f64 0) back d = spec_l12Bytes_l0_r N back d := by kernel_rfl
noncomputable def F_spec_l12Bytes (N : Nat) (d : ByteArray × Int × Unit) : Option (Bool × Unit) :=
  let a0 : ByteArray := d.1
  let a1 : Int := d.2.1
  (spec_l12Bytes_l0 N N ((a0, (a1, ((0 : Int), ()))))).bind fun o4 => match o4 with
  | .inl d5 =>
    some (d5.1, ())
  | .inr (.inl d6) =>
    some ((decide ((d6.1.size : Int) ≤ d6.2.1), ()))
theorem F_spec_l12Bytes_ok (N : Nat) (d) : fnR Γ_spec_l12Bytes (assoc [(0, ⟨spec_l12Bytes_l0_h, spec_l12Bytes_l0_o, spec_l12Bytes_l0 N N⟩)]) true [(.str, false), (I, false)] [.bool] Tryd.f64.results.toList (bodyOf Tryd.f64) d = F_spec_l12Bytes N d := by kernel_rfl
noncomputable def S_spec_l12Bytes : FSig := ⟨[(.str, false), (I, false)], [.bool], true, (G_l12Bytes)⟩
noncomputable def Γ_spec_l1Stands : Ctx := { tk := assoc tks, ar := assoc ars, fs := assoc [] }
abbrev spec_l1Stands_l0_H := ByteArray × Int × Int × Unit
abbrev spec_l1Stands_l0_O := (Bool × Unit) ⊕ Unit ⊕ Empty
def spec_l1Stands_l0_h : Form := [(0, .v .str), (1, .v (.int .u8)), (5, .v I)]
def spec_l1Stands_l0_o : Outs := [(.ret, [(4, .v .bool)]), (.normal, [])]
noncomputable def spec_l1Stands_l0_r (N : Nat) (back : spec_l1Stands_l0_H → Option spec_l1Stands_l0_O) (d : spec_l1Stands_l0_H) : Option spec_l1Stands_l0_O :=
  let s0 : ByteArray := d.1
  let s1 : Int := d.2.1
  let s5 : Int := d.2.2.1
  if (decide (s5 < (s0.size : Int))) = true then
    if (idxIn s5 s0.size) = true then
    if ((byteAt s0 s5.toNat : Int) == s1) = true then
      some (.inl (true, ()))
    else
      let x5 : Int := IntKind.wrap .i64 (s5 + (1 : Int))
      back ((s0, (s1, (x5, ()))))
    else none
  else
    some (.inr (.inl ()))
noncomputable def spec_l1Stands_l0 (N : Nat) : Nat → spec_l1Stands_l0_H → Option spec_l1Stands_l0_O
  | 0, _ => none
  | k + 1, d => spec_l1Stands_l0_r N (spec_l1Stands_l0 N k) d
theorem spec_l1Stands_l0_ok (N : Nat) (back) (d) : roundR Γ_spec_l1Stands (assoc []) 0 spec_l1Stands_l0_h spec_l1Stands_l0_o (loopOf Tryd.f65 0) back d = spec_l1Stands_l0_r N back d := by kernel_rfl
noncomputable def F_spec_l1Stands (N : Nat) (d : ByteArray × Int × Unit) : Option (Bool × Unit) :=
  let a0 : ByteArray := d.1
  let a1 : Int := d.2.1
  (spec_l1Stands_l0 N N ((a0, (a1, ((0 : Int), ()))))).bind fun o2 => match o2 with
  | .inl d3 =>
    some (d3.1, ())
  | .inr (.inl d4) =>
    some (false, ())
theorem F_spec_l1Stands_ok (N : Nat) (d) : fnR Γ_spec_l1Stands (assoc [(0, ⟨spec_l1Stands_l0_h, spec_l1Stands_l0_o, spec_l1Stands_l0 N N⟩)]) true [(.str, false), ((.int .u8), false)] [.bool] Tryd.f65.results.toList (bodyOf Tryd.f65) d = F_spec_l1Stands N d := by kernel_rfl
noncomputable def S_spec_l1Stands : FSig := ⟨[(.str, false), ((.int .u8), false)], [.bool], true, (G_l1Stands)⟩
noncomputable def Γ_spec_l12Record : Ctx := { tk := assoc tks, ar := assoc ars, fs := assoc [(64, S_spec_l12Bytes), (65, S_spec_l1Stands)] }
noncomputable def F_spec_l12Record (N : Nat) (d : (ByteArray × ByteArray × Unit) × Unit) : Option (Bool × Unit) :=
  let a0 : ByteArray × ByteArray × Unit := d.1
  if (!seq_ a0.1 (⟨#[]⟩ : ByteArray)) = true then
    (G_l12Bytes ((a0.1, ((160 : Int), ())))).bind fun r1 =>
    if (r1.1) = true then
      (G_l1Stands ((a0.1, ((64 : Int), ())))).bind fun r2 =>
      if (!r2.1) = true then
        (G_l12Bytes ((a0.2.1, ((200 : Int), ())))).bind fun r3 =>
        some (r3.1, ())
      else
        some (false, ())
    else
      some (false, ())
  else
    some (false, ())
theorem F_spec_l12Record_ok (N : Nat) (d) : fnR Γ_spec_l12Record (assoc []) true [(K_Pssq, false)] [.bool] Tryd.f46.results.toList (bodyOf Tryd.f46) d = F_spec_l12Record N d := by kernel_rfl
noncomputable def S_spec_l12Record : FSig := ⟨[(K_Pssq, false)], [.bool], true, (F_spec_l12Record 0)⟩
noncomputable def Γ_spec_l1Sum : Ctx := { tk := assoc tks, ar := assoc ars, fs := assoc [] }
abbrev spec_l1Sum_l0_H := ByteArray × Int × Int × Unit
abbrev spec_l1Sum_l0_O := (Int × Unit) ⊕ Empty
def spec_l1Sum_l0_h : Form := [(0, .v .str), (3, .v I), (4, .v I)]
def spec_l1Sum_l0_o : Outs := [(.normal, [(3, .v I)])]
noncomputable def spec_l1Sum_l0_r (N : Nat) (back : spec_l1Sum_l0_H → Option spec_l1Sum_l0_O) (d : spec_l1Sum_l0_H) : Option spec_l1Sum_l0_O :=
  let s0 : ByteArray := d.1
  let s3 : Int := d.2.1
  let s4 : Int := d.2.2.1
  if (decide (s4 < (s0.size : Int))) = true then
    let x7 : Int := IntKind.wrap .i64 ((41 : Int) * s3)
    if (idxIn s4 s0.size) = true then
    let x8 : Int := IntKind.wrap .i64 (byteAt s0 s4.toNat : Int)
    let x9 : Int := IntKind.wrap .i64 (IntKind.wrap .i64 (x7 + x8) + (1 : Int))
    if ((999979 : Int) != 0) = true then
    let x10 : Int := IntKind.wrap .i64 (s4 + (1 : Int))
    back ((s0, (x9.tmod (999979 : Int), (x10, ()))))
    else none
    else none
  else
    some (.inl (s3, ()))
noncomputable def spec_l1Sum_l0 (N : Nat) : Nat → spec_l1Sum_l0_H → Option spec_l1Sum_l0_O
  | 0, _ => none
  | k + 1, d => spec_l1Sum_l0_r N (spec_l1Sum_l0 N k) d
theorem spec_l1Sum_l0_ok (N : Nat) (back) (d) : roundR Γ_spec_l1Sum (assoc []) 0 spec_l1Sum_l0_h spec_l1Sum_l0_o (loopOf Tryd.f77 0) back d = spec_l1Sum_l0_r N back d := by kernel_rfl
noncomputable def F_spec_l1Sum (N : Nat) (d : ByteArray × Unit) : Option (Int × Unit) :=
  let a0 : ByteArray := d.1
  (spec_l1Sum_l0 N N ((a0, ((7 : Int), ((0 : Int), ()))))).bind fun o5 => match o5 with
  | .inl d6 =>
    some (d6.1, ())
theorem F_spec_l1Sum_ok (N : Nat) (d) : fnR Γ_spec_l1Sum (assoc [(0, ⟨spec_l1Sum_l0_h, spec_l1Sum_l0_o, spec_l1Sum_l0 N N⟩)]) true [(.str, false)] [I] Tryd.f77.results.toList (bodyOf Tryd.f77) d = F_spec_l1Sum N d := by kernel_rfl
noncomputable def S_spec_l1Sum : FSig := ⟨[(.str, false)], [I], true, (G_sum)⟩
noncomputable def Γ_spec_l1Seal : Ctx := { tk := assoc tks, ar := assoc ars, fs := assoc [(67, S_spec_l1Num), (77, S_spec_l1Sum)] }
noncomputable def F_spec_l1Seal (N : Nat) (d : ByteArray × Unit) : Option (ByteArray × Unit) :=
  let a0 : ByteArray := d.1
  if (decide (a0.size + (⟨#[35]⟩ : ByteArray).size ≤ maxLen)) = true then
  (G_sum (a0, ())).bind fun r1 =>
  (G_l1Num (r1.1, ())).bind fun r2 =>
  if (decide ((a0 ++ (⟨#[35]⟩ : ByteArray)).size + r2.1.size ≤ maxLen)) = true then
  let x3 : ByteArray := (a0 ++ (⟨#[35]⟩ : ByteArray)) ++ r2.1
  some (x3, ())
  else none
  else none
theorem F_spec_l1Seal_ok (N : Nat) (d) : fnR Γ_spec_l1Seal (assoc []) true [(.str, false)] [.str] Tryd.f66.results.toList (bodyOf Tryd.f66) d = F_spec_l1Seal N d := by kernel_rfl
noncomputable def S_spec_l1Seal : FSig := ⟨[(.str, false)], [.str], true, (F_spec_l1Seal 0)⟩
noncomputable def Γ_spec_l12Line : Ctx := { tk := assoc tks, ar := assoc ars, fs := assoc [(66, S_spec_l1Seal), (67, S_spec_l1Num)] }
noncomputable def F_spec_l12Line (N : Nat) (d : Int × (ByteArray × ByteArray × Unit) × Unit) : Option (ByteArray × Unit) :=
  let a0 : Int := d.1
  let a1 : ByteArray × ByteArray × Unit := d.2.1
  (G_l1Num (a0, ())).bind fun r1 =>
  if (decide (r1.1.size + (⟨#[32]⟩ : ByteArray).size ≤ maxLen)) = true then
  let x2 : ByteArray := r1.1 ++ (⟨#[32]⟩ : ByteArray)
  if (decide (x2.size + a1.1.size ≤ maxLen)) = true then
  if (decide ((x2 ++ a1.1).size + (⟨#[64]⟩ : ByteArray).size ≤ maxLen)) = true then
  let x3 : ByteArray := (x2 ++ a1.1) ++ (⟨#[64]⟩ : ByteArray)
  if (decide (x3.size + a1.2.1.size ≤ maxLen)) = true then
  ((F_spec_l1Seal 0) (x3 ++ a1.2.1, ())).bind fun r4 =>
  if (decide (r4.1.size + (⟨#[10]⟩ : ByteArray).size ≤ maxLen)) = true then
  let x5 : ByteArray := r4.1 ++ (⟨#[10]⟩ : ByteArray)
  some (x5, ())
  else none
  else none
  else none
  else none
  else none
theorem F_spec_l12Line_ok (N : Nat) (d) : fnR Γ_spec_l12Line (assoc []) true [(I, false), (K_Pssq, false)] [.str] Tryd.f47.results.toList (bodyOf Tryd.f47) d = F_spec_l12Line N d := by kernel_rfl
noncomputable def S_spec_l12Line : FSig := ⟨[(I, false), (K_Pssq, false)], [.str], true, (F_spec_l12Line 0)⟩
noncomputable def Γ_spec_l12Decode : Ctx := { tk := assoc tks, ar := assoc ars, fs := assoc [(46, S_spec_l12Record), (47, S_spec_l12Line), (67, S_spec_l1Num), (70, S_spec_l1Split)] }
noncomputable def F_spec_l12Decode (N : Nat) (d : ByteArray × Int × Unit) : Option ((ByteArray × ByteArray × Unit) × Bool × Unit) :=
  let a0 : ByteArray := d.1
  let a1 : Int := d.2.1
  (G_l1Num (a1, ())).bind fun r1 =>
  if (decide (r1.1.size + (⟨#[32]⟩ : ByteArray).size ≤ maxLen)) = true then
  let x2 : ByteArray := r1.1 ++ (⟨#[32]⟩ : ByteArray)
  (G_l1Split ((a0, ((35 : Int), ())))).bind fun r3 =>
  if (idxIn (0 : Int) (List.length r3.1)) = true then
  if (decide (((at_ .str r3.1 (0 : Int).toNat).size : Int) < (x2.size : Int))) = true then
    some (((ByteArray.empty, (ByteArray.empty, ())), (false, ())))
  else
    if ((decide (0 ≤ (0 : Int)) && decide ((0 : Int) ≤ (x2.size : Int)) && decide ((x2.size : Int) ≤ ((at_ .str r3.1 (0 : Int).toNat).size : Int)))) = true then
    let x4 : ByteArray := subS (at_ .str r3.1 (0 : Int).toNat) (0 : Int) (x2.size : Int)
    if (!seq_ x4 x2) = true then
      some (((ByteArray.empty, (ByteArray.empty, ())), (false, ())))
    else
      if ((decide (0 ≤ (x2.size : Int)) && decide ((x2.size : Int) ≤ ((at_ .str r3.1 (0 : Int).toNat).size : Int)) && decide (((at_ .str r3.1 (0 : Int).toNat).size : Int) ≤ ((at_ .str r3.1 (0 : Int).toNat).size : Int)))) = true then
      let x5 : ByteArray := subS (at_ .str r3.1 (0 : Int).toNat) (x2.size : Int) (((at_ .str r3.1 (0 : Int).toNat).size : Int))
      (G_l1Split ((x5, ((64 : Int), ())))).bind fun r6 =>
      if (idxIn (0 : Int) (List.length r6.1)) = true then
      if (((at_ .str r6.1 (0 : Int).toNat).size : Int) == (x5.size : Int)) = true then
        some (((ByteArray.empty, (ByteArray.empty, ())), (false, ())))
      else
        let x7 : Int := IntKind.wrap .i64 (((at_ .str r6.1 (0 : Int).toNat).size : Int) + (1 : Int))
        if ((decide (0 ≤ x7) && decide (x7 ≤ (x5.size : Int)) && decide ((x5.size : Int) ≤ (x5.size : Int)))) = true then
        ((F_spec_l12Record 0) (((at_ .str r6.1 (0 : Int).toNat, (subS x5 x7 (x5.size : Int), ())), ()))).bind fun r8 =>
        if (r8.1) = true then
          ((F_spec_l12Line 0) ((a1, ((at_ .str r6.1 (0 : Int).toNat, (subS x5 x7 (x5.size : Int), ())), ())))).bind fun r9 =>
          if (decide (a0.size + (⟨#[10]⟩ : ByteArray).size ≤ maxLen)) = true then
          some (((at_ .str r6.1 (0 : Int).toNat, (subS x5 x7 (x5.size : Int), ())), (seq_ r9.1 (a0 ++ (⟨#[10]⟩ : ByteArray)), ())))
          else none
        else
          some (((at_ .str r6.1 (0 : Int).toNat, (subS x5 x7 (x5.size : Int), ())), (false, ())))
        else none
      else none
      else none
    else none
  else none
  else none
theorem F_spec_l12Decode_ok (N : Nat) (d) : fnR Γ_spec_l12Decode (assoc []) true [(.str, false), (I, false)] [K_Pssq, .bool] Tryd.f71.results.toList (bodyOf Tryd.f71) d = F_spec_l12Decode N d := by kernel_rfl
noncomputable def S_spec_l12Decode : FSig := ⟨[(.str, false), (I, false)], [K_Pssq, .bool], true, (F_spec_l12Decode 0)⟩
noncomputable def Γ_spec_l12Open : Ctx := { tk := assoc tks, ar := assoc ars, fs := assoc [(70, S_spec_l1Split), (71, S_spec_l12Decode)] }
abbrev spec_l12Open_l0_H := ByteArray × (List (ByteArray × ByteArray × Unit)) × Int × Unit
abbrev spec_l12Open_l0_O := ((List (ByteArray × ByteArray × Unit)) × Int × Unit) ⊕ Empty
def spec_l12Open_l0_h : Form := [(0, .v .str), (4, .own K_SPssq 99), (5, .v I)]
def spec_l12Open_l0_o : Outs := [(.normal, [(4, .own K_SPssq 99), (5, .v I)])]
noncomputable def spec_l12Open_l0_r (N : Nat) (back : spec_l12Open_l0_H → Option spec_l12Open_l0_O) (d : spec_l12Open_l0_H) : Option spec_l12Open_l0_O :=
  let s0 : ByteArray := d.1
  let s4 : List (ByteArray × ByteArray × Unit) := d.2.1
  let s5 : Int := d.2.2.1
  if (decide (s5 < (s0.size : Int))) = true then
    if (decide ((List.length s4 : Int) < (60 : Int))) = true then
      if ((decide (0 ≤ s5) && decide (s5 ≤ (s0.size : Int)) && decide ((s0.size : Int) ≤ (s0.size : Int)))) = true then
      (G_l1Split ((subS s0 s5 (s0.size : Int), ((10 : Int), ())))).bind fun r7 =>
      if (idxIn (0 : Int) (List.length r7.1)) = true then
      ((F_spec_l12Decode 0) ((at_ .str r7.1 (0 : Int).toNat, ((List.length s4 : Int), ())))).bind fun r8 =>
      if (decide ((List.length r7.1 : Int) < (2 : Int))) = true then
        some (.inl ((s4, (s5, ()))))
      else
        if (!r8.2.1) = true then
          some (.inl ((s4, (s5, ()))))
        else
          if (decide (List.length s4 + List.length ([r8.1]) ≤ lim)) = true then
          if (idxIn (0 : Int) (List.length r7.1)) = true then
          let x9 : Int := IntKind.wrap .i64 (s5 + ((at_ .str r7.1 (0 : Int).toNat).size : Int))
          let x10 : Int := IntKind.wrap .i64 (x9 + (1 : Int))
          back ((s0, (s4 ++ ([r8.1]), (x10, ()))))
          else none
          else none
      else none
      else none
    else
      some (.inl ((s4, (s5, ()))))
  else
    some (.inl ((s4, (s5, ()))))
noncomputable def spec_l12Open_l0 (N : Nat) : Nat → spec_l12Open_l0_H → Option spec_l12Open_l0_O
  | 0, _ => none
  | k + 1, d => spec_l12Open_l0_r N (spec_l12Open_l0 N k) d
theorem spec_l12Open_l0_ok (N : Nat) (back) (d) : roundR Γ_spec_l12Open (assoc []) 0 spec_l12Open_l0_h spec_l12Open_l0_o (loopOf Tryd.f50 0) back d = spec_l12Open_l0_r N back d := by kernel_rfl
noncomputable def F_spec_l12Open (N : Nat) (d : ByteArray × Unit) : Option ((List (ByteArray × ByteArray × Unit)) × Int × Unit) :=
  let a0 : ByteArray := d.1
  (spec_l12Open_l0 N N ((a0, (([] : List (ByteArray × ByteArray × Unit)), ((0 : Int), ()))))).bind fun o5 => match o5 with
  | .inl d6 =>
    some ((d6.1, (d6.2.1, ())))
theorem F_spec_l12Open_ok (N : Nat) (d) : fnR Γ_spec_l12Open (assoc [(0, ⟨spec_l12Open_l0_h, spec_l12Open_l0_o, spec_l12Open_l0 N N⟩)]) true [(.str, false)] [K_SPssq, I] Tryd.f50.results.toList (bodyOf Tryd.f50) d = F_spec_l12Open N d := by kernel_rfl
noncomputable def S_spec_l12Open : FSig := ⟨[(.str, false)], [K_SPssq, I], true, (G_open)⟩
noncomputable def Γ_spec_l12Valid : Ctx := { tk := assoc tks, ar := assoc ars, fs := assoc [(50, S_spec_l12Open)] }
noncomputable def F_spec_l12Valid (N : Nat) (d : (ByteArray × ByteArray × Int × Unit) × Unit) : Option (Bool × Unit) :=
  let a0 : ByteArray × ByteArray × Int × Unit := d.1
  let x1 : Int := IntKind.wrap .i64 ((a0.1.size : Int) + (a0.2.1.size : Int))
  if (decide (x1 > (30000 : Int))) = true then
    some (false, ())
  else
    if (decide (a0.1.size + a0.2.1.size ≤ maxLen)) = true then
    (G_open (a0.1 ++ a0.2.1, ())).bind fun r2 =>
    (G_open (a0.1, ())).bind fun r3 =>
    let x4 : Int := IntKind.wrap .i64 ((a0.1.size : Int) + (a0.2.1.size : Int))
    if (r2.2.1 == x4) = true then
      if (r3.2.1 == (a0.1.size : Int)) = true then
        some ((List.length r2.1 : Int) == a0.2.2.1, ())
      else
        some (false, ())
    else
      some (false, ())
    else none
theorem F_spec_l12Valid_ok (N : Nat) (d) : fnR Γ_spec_l12Valid (assoc []) true [(K_Pssiq, false)] [.bool] Tryd.f52.results.toList (bodyOf Tryd.f52) d = F_spec_l12Valid N d := by kernel_rfl
noncomputable def S_spec_l12Valid : FSig := ⟨[(K_Pssiq, false)], [.bool], true, (F_spec_l12Valid 0)⟩
noncomputable def Γ_spec_CrashLog : Ctx := { tk := assoc tks, ar := assoc ars, fs := assoc [(45, S_spec_l1In), (52, S_spec_l12Valid)] }
noncomputable def F_spec_CrashLog (N : Nat) (d : (ByteArray × ByteArray × Int × Unit) × Int × Bool × Unit) : Option (ByteArray × Bool × Unit) :=
  let a0 : ByteArray × ByteArray × Int × Unit := d.1
  let a1 : Int := d.2.1
  let a2 : Bool := d.2.2.1
  ((F_spec_l12Valid 0) (a0, ())).bind fun r1 =>
  if (!r1.1) = true then
    some (((⟨#[]⟩ : ByteArray), (false, ())))
  else
    let r2 : Bool × Unit := g_spec_l1In ((a1, ((0 : Int), ((a0.2.1.size : Int), ()))))
    if (!r2.1) = true then
      some (((⟨#[]⟩ : ByteArray), (false, ())))
    else
      if ((decide (0 ≤ (0 : Int)) && decide ((0 : Int) ≤ a1) && decide (a1 ≤ (a0.2.1.size : Int)))) = true then
      let x3 : List Int := byteList (subS a0.2.1 (0 : Int) a1)
      if (a2) = true then
        if (decide (a1 > (0 : Int))) = true then
          let x4 : Int := IntKind.wrap .i64 (a1 - (1 : Int))
          let x5 : Int := IntKind.wrap .i64 (a1 - (1 : Int))
          if (idxIn x5 (List.length x3)) = true then
          let x6 : Int := IntKind.wrap .u8 ((255 : Int) - at_ (.int .u8) x3 x5.toNat)
          if (idxIn x4 (List.length x3)) = true then
          let x7 : ByteArray := bytesOf (List.set x3 x4.toNat x6)
          if (decide (a0.1.size + x7.size ≤ maxLen)) = true then
          some ((a0.1 ++ x7, (true, ())))
          else none
          else none
          else none
        else
          if (decide (a0.1.size + (bytesOf x3).size ≤ maxLen)) = true then
          some ((a0.1 ++ (bytesOf x3), (true, ())))
          else none
      else
        if (decide (a0.1.size + (bytesOf x3).size ≤ maxLen)) = true then
        some ((a0.1 ++ (bytesOf x3), (true, ())))
        else none
      else none
theorem F_spec_CrashLog_ok (N : Nat) (d) : fnR Γ_spec_CrashLog (assoc []) true [(K_Pssiq, false), (I, false), (.bool, false)] [.str, .bool] Tryd.f23.results.toList (bodyOf Tryd.f23) d = F_spec_CrashLog N d := by kernel_rfl
noncomputable def S_spec_CrashLog : FSig := ⟨[(K_Pssiq, false), (I, false), (.bool, false)], [.str, .bool], true, (F_spec_CrashLog 0)⟩
def S_strings_Cut : FSig := ⟨[(.str, false), (.str, false)], [.str, .str, .bool], true, G_cut⟩
def S_strings_Contains : FSig := ⟨[(.str, false), (.str, false)], [.bool], true, G_contains⟩
noncomputable def Γ_impl_checksum : Ctx := { tk := assoc tks, ar := assoc ars, fs := assoc [] }
abbrev impl_checksum_l0_H := ByteArray × Int × Int × Unit
abbrev impl_checksum_l0_O := (Int × Unit) ⊕ Empty
def impl_checksum_l0_h : Form := [(0, .v .str), (3, .v I), (4, .v I)]
def impl_checksum_l0_o : Outs := [(.normal, [(3, .v I)])]
noncomputable def impl_checksum_l0_r (N : Nat) (back : impl_checksum_l0_H → Option impl_checksum_l0_O) (d : impl_checksum_l0_H) : Option impl_checksum_l0_O :=
  let s0 : ByteArray := d.1
  let s3 : Int := d.2.1
  let s4 : Int := d.2.2.1
  if (decide (s4 < (s0.size : Int))) = true then
    let x7 : Int := IntKind.wrap .i64 ((41 : Int) * s3)
    if (idxIn s4 s0.size) = true then
    let x8 : Int := IntKind.wrap .i64 (byteAt s0 s4.toNat : Int)
    let x9 : Int := IntKind.wrap .i64 (IntKind.wrap .i64 (x7 + x8) + (1 : Int))
    if ((999979 : Int) != 0) = true then
    let x10 : Int := IntKind.wrap .i64 (s4 + (1 : Int))
    back ((s0, (x9.tmod (999979 : Int), (x10, ()))))
    else none
    else none
  else
    some (.inl (s3, ()))
noncomputable def impl_checksum_l0 (N : Nat) : Nat → impl_checksum_l0_H → Option impl_checksum_l0_O
  | 0, _ => none
  | k + 1, d => impl_checksum_l0_r N (impl_checksum_l0 N k) d
theorem impl_checksum_l0_ok (N : Nat) (back) (d) : roundR Γ_impl_checksum (assoc []) 0 impl_checksum_l0_h impl_checksum_l0_o (loopOf Tryd.f79 0) back d = impl_checksum_l0_r N back d := by kernel_rfl
noncomputable def F_impl_checksum (N : Nat) (d : ByteArray × Unit) : Option (Int × Unit) :=
  let a0 : ByteArray := d.1
  (impl_checksum_l0 N N ((a0, ((7 : Int), ((0 : Int), ()))))).bind fun o5 => match o5 with
  | .inl d6 =>
    some (d6.1, ())
theorem F_impl_checksum_ok (N : Nat) (d) : fnR Γ_impl_checksum (assoc [(0, ⟨impl_checksum_l0_h, impl_checksum_l0_o, impl_checksum_l0 N N⟩)]) true [(.str, false)] [I] Tryd.f79.results.toList (bodyOf Tryd.f79) d = F_impl_checksum N d := by kernel_rfl
noncomputable def S_impl_checksum : FSig := ⟨[(.str, false)], [I], true, (G_sum)⟩
def S_strconv_Itoa : FSig := ⟨[(I, false)], [.str], true, G_itoa⟩
noncomputable def Γ_impl_AppendChecksum : Ctx := { tk := assoc tks, ar := assoc ars, fs := assoc [(69, S_strconv_Itoa), (78, S_strings_Contains), (79, S_impl_checksum)] }
noncomputable def F_impl_AppendChecksum (N : Nat) (d : ByteArray × Unit) : Option (ByteArray × Bool × Unit) :=
  let a0 : ByteArray := d.1
  if (decide ((a0.size : Int) > (4000 : Int))) = true then
    some (((⟨#[]⟩ : ByteArray), (false, ())))
  else
    (G_contains ((a0, ((⟨#[35]⟩ : ByteArray), ())))).bind fun r1 =>
    if (r1.1) = true then
      some (((⟨#[]⟩ : ByteArray), (false, ())))
    else
      if (decide (a0.size + (⟨#[35]⟩ : ByteArray).size ≤ maxLen)) = true then
      (G_sum (a0, ())).bind fun r2 =>
      (G_itoa (r2.1, ())).bind fun r3 =>
      if (decide ((a0 ++ (⟨#[35]⟩ : ByteArray)).size + r3.1.size ≤ maxLen)) = true then
      let x4 : ByteArray := (a0 ++ (⟨#[35]⟩ : ByteArray)) ++ r3.1
      if (decide ((x4.size : Int) > (4000 : Int))) = true then
        some (((⟨#[]⟩ : ByteArray), (false, ())))
      else
        some ((x4, (true, ())))
      else none
      else none
theorem F_impl_AppendChecksum_ok (N : Nat) (d) : fnR Γ_impl_AppendChecksum (assoc []) true [(.str, false)] [.str, .bool] Tryd.f68.results.toList (bodyOf Tryd.f68) d = F_impl_AppendChecksum N d := by kernel_rfl
noncomputable def S_impl_AppendChecksum : FSig := ⟨[(.str, false)], [.str, .bool], true, (F_impl_AppendChecksum 0)⟩
noncomputable def Γ_impl_VerifyChecksum : Ctx := { tk := assoc tks, ar := assoc ars, fs := assoc [(68, S_impl_AppendChecksum), (72, S_strings_Cut)] }
noncomputable def F_impl_VerifyChecksum (N : Nat) (d : ByteArray × Unit) : Option (ByteArray × Bool × Unit) :=
  let a0 : ByteArray := d.1
  (G_cut ((a0, ((⟨#[35]⟩ : ByteArray), ())))).bind fun r1 =>
  ((F_impl_AppendChecksum 0) (r1.1, ())).bind fun r2 =>
  if (!r1.2.2.1) = true then
    some (((⟨#[]⟩ : ByteArray), (false, ())))
  else
    if (!r2.2.1) = true then
      some (((⟨#[]⟩ : ByteArray), (false, ())))
    else
      if (!seq_ r2.1 a0) = true then
        some (((⟨#[]⟩ : ByteArray), (false, ())))
      else
        some ((r1.1, (true, ())))
theorem F_impl_VerifyChecksum_ok (N : Nat) (d) : fnR Γ_impl_VerifyChecksum (assoc []) true [(.str, false)] [.str, .bool] Tryd.f73.results.toList (bodyOf Tryd.f73) d = F_impl_VerifyChecksum N d := by kernel_rfl
noncomputable def S_impl_VerifyChecksum : FSig := ⟨[(.str, false)], [.str, .bool], true, (F_impl_VerifyChecksum 0)⟩
noncomputable def Γ_impl_within : Ctx := { tk := assoc tks, ar := assoc ars, fs := assoc [] }
noncomputable def F_impl_within (N : Nat) (d : Int × Int × Int × Unit) : Option (Bool × Unit) :=
  let a0 : Int := d.1
  let a1 : Int := d.2.1
  let a2 : Int := d.2.2.1
  if (decide (a0 ≥ a1)) = true then
    some (decide (a0 ≤ a2), ())
  else
    some (false, ())
theorem F_impl_within_ok (N : Nat) (d) : fnR Γ_impl_within (assoc []) true [(I, false), (I, false), (I, false)] [.bool] Tryd.f48.results.toList (bodyOf Tryd.f48) d = F_impl_within N d := by kernel_rfl
noncomputable def g_impl_within (d : Int × Int × Int × Unit) : Bool × Unit :=
  let a0 : Int := d.1
  let a1 : Int := d.2.1
  let a2 : Int := d.2.2.1
  if (decide (a0 ≥ a1)) = true then
    (decide (a0 ≤ a2), ())
  else
    (false, ())
theorem F_impl_within_tot (N : Nat) (d) : F_impl_within N d = some (g_impl_within d) := by
  unfold F_impl_within g_impl_within
  first
    | rfl
    | (dsimp only; (repeat' split) <;> rfl)
noncomputable def S_impl_within : FSig := ⟨[(I, false), (I, false), (I, false)], [.bool], true, (fun d => some (g_impl_within d))⟩
def S_strings_ContainsAny : FSig := ⟨[(.str, false), (.str, false)], [.bool], true, G_containsAny⟩
noncomputable def Γ_impl_isPrinted : Ctx := { tk := assoc tks, ar := assoc ars, fs := assoc [(76, S_strings_ContainsAny)] }
abbrev impl_isPrinted_l0_H := ByteArray × ByteArray × Int × Unit
abbrev impl_isPrinted_l0_O := (Bool × Unit) ⊕ (ByteArray × ByteArray × Unit) ⊕ Empty
def impl_isPrinted_l0_h : Form := [(0, .v .str), (1, .v .str), (5, .v I)]
def impl_isPrinted_l0_o : Outs := [(.ret, [(4, .v .bool)]), (.normal, [(0, .v .str), (1, .v .str)])]
noncomputable def impl_isPrinted_l0_r (N : Nat) (back : impl_isPrinted_l0_H → Option impl_isPrinted_l0_O) (d : impl_isPrinted_l0_H) : Option impl_isPrinted_l0_O :=
  let s0 : ByteArray := d.1
  let s1 : ByteArray := d.2.1
  let s5 : Int := d.2.2.1
  if (decide (s5 < (s0.size : Int))) = true then
    if (idxIn s5 s0.size) = true then
    if (decide ((byteAt s0 s5.toNat : Int) < (32 : Int))) = true then
      some (.inl (false, ()))
    else
      if (idxIn s5 s0.size) = true then
      if (decide ((byteAt s0 s5.toNat : Int) > (126 : Int))) = true then
        some (.inl (false, ()))
      else
        let x6 : Int := IntKind.wrap .i64 (s5 + (1 : Int))
        back ((s0, (s1, (x6, ()))))
      else none
    else none
  else
    some (.inr (.inl ((s0, (s1, ())))))
noncomputable def impl_isPrinted_l0 (N : Nat) : Nat → impl_isPrinted_l0_H → Option impl_isPrinted_l0_O
  | 0, _ => none
  | k + 1, d => impl_isPrinted_l0_r N (impl_isPrinted_l0 N k) d
theorem impl_isPrinted_l0_ok (N : Nat) (back) (d) : roundR Γ_impl_isPrinted (assoc []) 0 impl_isPrinted_l0_h impl_isPrinted_l0_o (loopOf Tryd.f63 0) back d = impl_isPrinted_l0_r N back d := by kernel_rfl
noncomputable def F_impl_isPrinted (N : Nat) (d : ByteArray × ByteArray × Unit) : Option (Bool × Unit) :=
  let a0 : ByteArray := d.1
  let a1 : ByteArray := d.2.1
  (impl_isPrinted_l0 N N ((a0, (a1, ((0 : Int), ()))))).bind fun o2 => match o2 with
  | .inl d3 =>
    some (d3.1, ())
  | .inr (.inl d4) =>
    (G_containsAny ((d4.1, (d4.2.1, ())))).bind fun r5 =>
    some (!r5.1, ())
theorem F_impl_isPrinted_ok (N : Nat) (d) : fnR Γ_impl_isPrinted (assoc [(0, ⟨impl_isPrinted_l0_h, impl_isPrinted_l0_o, impl_isPrinted_l0 N N⟩)]) true [(.str, false), (.str, false)] [.bool] Tryd.f63.results.toList (bodyOf Tryd.f63) d = F_impl_isPrinted N d := by kernel_rfl
noncomputable def S_impl_isPrinted : FSig := ⟨[(.str, false), (.str, false)], [.bool], true, (G_isPrinted)⟩
noncomputable def Γ_impl_isCommand : Ctx := { tk := assoc tks, ar := assoc ars, fs := assoc [(48, S_impl_within), (63, S_impl_isPrinted)] }
noncomputable def F_impl_isCommand (N : Nat) (d : ByteArray × Unit) : Option (Bool × Unit) :=
  let a0 : ByteArray := d.1
  let r1 : Bool × Unit := g_impl_within (((a0.size : Int), ((1 : Int), ((160 : Int), ()))))
  if (r1.1) = true then
    (G_isPrinted ((a0, ((⟨#[35, 64]⟩ : ByteArray), ())))).bind fun r2 =>
    some (r2.1, ())
  else
    some (false, ())
theorem F_impl_isCommand_ok (N : Nat) (d) : fnR Γ_impl_isCommand (assoc []) true [(.str, false)] [.bool] Tryd.f62.results.toList (bodyOf Tryd.f62) d = F_impl_isCommand N d := by kernel_rfl
noncomputable def S_impl_isCommand : FSig := ⟨[(.str, false)], [.bool], true, (F_impl_isCommand 0)⟩
noncomputable def Γ_impl_IsValidRecord : Ctx := { tk := assoc tks, ar := assoc ars, fs := assoc [(62, S_impl_isCommand), (63, S_impl_isPrinted)] }
noncomputable def F_impl_IsValidRecord (N : Nat) (d : (ByteArray × ByteArray × Unit) × Unit) : Option (Bool × Unit) :=
  let a0 : ByteArray × ByteArray × Unit := d.1
  ((F_impl_isCommand 0) (a0.1, ())).bind fun r1 =>
  if (r1.1) = true then
    if (decide ((a0.2.1.size : Int) ≤ (200 : Int))) = true then
      (G_isPrinted ((a0.2.1, ((⟨#[35]⟩ : ByteArray), ())))).bind fun r2 =>
      some (r2.1, ())
    else
      some (false, ())
  else
    some (false, ())
theorem F_impl_IsValidRecord_ok (N : Nat) (d) : fnR Γ_impl_IsValidRecord (assoc []) true [(K_Pssq, false)] [.bool] Tryd.f43.results.toList (bodyOf Tryd.f43) d = F_impl_IsValidRecord N d := by kernel_rfl
noncomputable def S_impl_IsValidRecord : FSig := ⟨[(K_Pssq, false)], [.bool], true, (F_impl_IsValidRecord 0)⟩
noncomputable def Γ_impl_encodeRecord : Ctx := { tk := assoc tks, ar := assoc ars, fs := assoc [(68, S_impl_AppendChecksum), (69, S_strconv_Itoa)] }
noncomputable def F_impl_encodeRecord (N : Nat) (d : Int × (ByteArray × ByteArray × Unit) × Unit) : Option (ByteArray × Unit) :=
  let a0 : Int := d.1
  let a1 : ByteArray × ByteArray × Unit := d.2.1
  (G_itoa (a0, ())).bind fun r1 =>
  if (decide (r1.1.size + (⟨#[32]⟩ : ByteArray).size ≤ maxLen)) = true then
  let x2 : ByteArray := r1.1 ++ (⟨#[32]⟩ : ByteArray)
  if (decide (x2.size + a1.1.size ≤ maxLen)) = true then
  if (decide ((x2 ++ a1.1).size + (⟨#[64]⟩ : ByteArray).size ≤ maxLen)) = true then
  let x3 : ByteArray := (x2 ++ a1.1) ++ (⟨#[64]⟩ : ByteArray)
  if (decide (x3.size + a1.2.1.size ≤ maxLen)) = true then
  ((F_impl_AppendChecksum 0) (x3 ++ a1.2.1, ())).bind fun r4 =>
  if (decide (r4.1.size + (⟨#[10]⟩ : ByteArray).size ≤ maxLen)) = true then
  let x5 : ByteArray := r4.1 ++ (⟨#[10]⟩ : ByteArray)
  some (x5, ())
  else none
  else none
  else none
  else none
  else none
theorem F_impl_encodeRecord_ok (N : Nat) (d) : fnR Γ_impl_encodeRecord (assoc []) true [(I, false), (K_Pssq, false)] [.str] Tryd.f49.results.toList (bodyOf Tryd.f49) d = F_impl_encodeRecord N d := by kernel_rfl
noncomputable def S_impl_encodeRecord : FSig := ⟨[(I, false), (K_Pssq, false)], [.str], true, (F_impl_encodeRecord 0)⟩
noncomputable def Γ_impl_readRecords : Ctx := { tk := assoc tks, ar := assoc ars, fs := assoc [(43, S_impl_IsValidRecord), (49, S_impl_encodeRecord), (72, S_strings_Cut), (73, S_impl_VerifyChecksum)] }
abbrev impl_readRecords_l0_H := ByteArray × (List (ByteArray × ByteArray × Unit)) × Int × Unit
abbrev impl_readRecords_l0_O := ((List (ByteArray × ByteArray × Unit)) × Int × Unit) ⊕ Empty
def impl_readRecords_l0_h : Form := [(0, .v .str), (4, .own K_SPssq 99), (5, .v I)]
def impl_readRecords_l0_o : Outs := [(.normal, [(4, .own K_SPssq 99), (5, .v I)])]
noncomputable def impl_readRecords_l0_r (N : Nat) (back : impl_readRecords_l0_H → Option impl_readRecords_l0_O) (d : impl_readRecords_l0_H) : Option impl_readRecords_l0_O :=
  let s0 : ByteArray := d.1
  let s4 : List (ByteArray × ByteArray × Unit) := d.2.1
  let s5 : Int := d.2.2.1
  if (decide ((List.length s4 : Int) < (60 : Int))) = true then
    if ((decide (0 ≤ s5) && decide (s5 ≤ (s0.size : Int)) && decide ((s0.size : Int) ≤ (s0.size : Int)))) = true then
    (G_cut ((subS s0 s5 (s0.size : Int), ((⟨#[10]⟩ : ByteArray), ())))).bind fun r12 =>
    ((F_impl_VerifyChecksum 0) (r12.1, ())).bind fun r13 =>
    if (!r12.2.2.1) = true then
      some (.inl ((s4, (s5, ()))))
    else
      if (!r13.2.1) = true then
        some (.inl ((s4, (s5, ()))))
      else
        (G_cut ((r13.1, ((⟨#[32]⟩ : ByteArray), ())))).bind fun r14 =>
        (G_cut ((r14.2.1, ((⟨#[64]⟩ : ByteArray), ())))).bind fun r15 =>
        ((F_impl_IsValidRecord 0) (((r15.1, (r15.2.1, ())), ()))).bind fun r16 =>
        if (!r16.1) = true then
          some (.inl ((s4, (s5, ()))))
        else
          ((F_impl_encodeRecord 0) (((List.length s4 : Int), ((r15.1, (r15.2.1, ())), ())))).bind fun r17 =>
          if (decide (r12.1.size + (⟨#[10]⟩ : ByteArray).size ≤ maxLen)) = true then
          let x18 : ByteArray := r12.1 ++ (⟨#[10]⟩ : ByteArray)
          if (!seq_ r17.1 x18) = true then
            some (.inl ((s4, (s5, ()))))
          else
            if (decide (List.length s4 + List.length ([(r15.1, (r15.2.1, ()))]) ≤ lim)) = true then
            let x19 : List (ByteArray × ByteArray × Unit) := s4 ++ ([(r15.1, (r15.2.1, ()))])
            let x20 : Int := IntKind.wrap .i64 ((r12.1.size : Int) + (1 : Int))
            back ((s0, (x19, (IntKind.wrap .i64 (s5 + x20), ()))))
            else none
          else none
    else none
  else
    some (.inl ((s4, (s5, ()))))
noncomputable def impl_readRecords_l0 (N : Nat) : Nat → impl_readRecords_l0_H → Option impl_readRecords_l0_O
  | 0, _ => none
  | k + 1, d => impl_readRecords_l0_r N (impl_readRecords_l0 N k) d
theorem impl_readRecords_l0_ok (N : Nat) (back) (d) : roundR Γ_impl_readRecords (assoc []) 0 impl_readRecords_l0_h impl_readRecords_l0_o (loopOf Tryd.f51 0) back d = impl_readRecords_l0_r N back d := by kernel_rfl
noncomputable def F_impl_readRecords (N : Nat) (d : ByteArray × Unit) : Option ((List (ByteArray × ByteArray × Unit)) × Int × Unit) :=
  let a0 : ByteArray := d.1
  (impl_readRecords_l0 N N ((a0, (([] : List (ByteArray × ByteArray × Unit)), ((0 : Int), ()))))).bind fun o10 => match o10 with
  | .inl d11 =>
    some ((d11.1, (d11.2.1, ())))
theorem F_impl_readRecords_ok (N : Nat) (d) : fnR Γ_impl_readRecords (assoc [(0, ⟨impl_readRecords_l0_h, impl_readRecords_l0_o, impl_readRecords_l0 N N⟩)]) true [(.str, false)] [K_SPssq, I] Tryd.f51.results.toList (bodyOf Tryd.f51) d = F_impl_readRecords N d := by kernel_rfl
noncomputable def S_impl_readRecords : FSig := ⟨[(.str, false)], [K_SPssq, I], true, (G_open)⟩
noncomputable def Γ_impl_IsValidLog : Ctx := { tk := assoc tks, ar := assoc ars, fs := assoc [(51, S_impl_readRecords)] }
noncomputable def F_impl_IsValidLog (N : Nat) (d : (ByteArray × ByteArray × Int × Unit) × Unit) : Option (Bool × Unit) :=
  let a0 : ByteArray × ByteArray × Int × Unit := d.1
  let x1 : Int := IntKind.wrap .i64 ((a0.1.size : Int) + (a0.2.1.size : Int))
  if (decide (a0.1.size + a0.2.1.size ≤ maxLen)) = true then
  (G_open (a0.1 ++ a0.2.1, ())).bind fun r2 =>
  if (decide (x1 > (30000 : Int))) = true then
    some (false, ())
  else
    if (r2.2.1 != x1) = true then
      some (false, ())
    else
      if (a0.2.2.1 != (List.length r2.1 : Int)) = true then
        some (false, ())
      else
        (G_open (a0.1, ())).bind fun r3 =>
        some (r3.2.1 == (a0.1.size : Int), ())
  else none
theorem F_impl_IsValidLog_ok (N : Nat) (d) : fnR Γ_impl_IsValidLog (assoc []) true [(K_Pssiq, false)] [.bool] Tryd.f22.results.toList (bodyOf Tryd.f22) d = F_impl_IsValidLog N d := by kernel_rfl
noncomputable def S_impl_IsValidLog : FSig := ⟨[(K_Pssiq, false)], [.bool], true, (F_impl_IsValidLog 0)⟩
noncomputable def Γ_impl_CrashLog : Ctx := { tk := assoc tks, ar := assoc ars, fs := assoc [(22, S_impl_IsValidLog), (48, S_impl_within)] }
noncomputable def F_impl_CrashLog (N : Nat) (d : (ByteArray × ByteArray × Int × Unit) × Int × Bool × Unit) : Option (ByteArray × Bool × Unit) :=
  let a0 : ByteArray × ByteArray × Int × Unit := d.1
  let a1 : Int := d.2.1
  let a2 : Bool := d.2.2.1
  ((F_impl_IsValidLog 0) (a0, ())).bind fun r1 =>
  if (!r1.1) = true then
    some (((⟨#[]⟩ : ByteArray), (false, ())))
  else
    let r2 : Bool × Unit := g_impl_within ((a1, ((0 : Int), ((a0.2.1.size : Int), ()))))
    if (!r2.1) = true then
      some (((⟨#[]⟩ : ByteArray), (false, ())))
    else
      if ((decide (0 ≤ (0 : Int)) && decide ((0 : Int) ≤ a1) && decide (a1 ≤ (a0.2.1.size : Int)))) = true then
      if (decide (a0.1.size + (subS a0.2.1 (0 : Int) a1).size ≤ maxLen)) = true then
      let x3 : ByteArray := a0.1 ++ (subS a0.2.1 (0 : Int) a1)
      if (a2) = true then
        if (decide (a1 > (0 : Int))) = true then
          let x4 : Int := IntKind.wrap .i64 ((List.length (byteList x3) : Int) - (1 : Int))
          let x5 : Int := IntKind.wrap .i64 ((List.length (byteList x3) : Int) - (1 : Int))
          if (idxIn x5 (List.length (byteList x3))) = true then
          let x6 : Int := IntKind.wrap .u8 ((255 : Int) - at_ (.int .u8) (byteList x3) x5.toNat)
          if (idxIn x4 (List.length (byteList x3))) = true then
          let x7 : List Int := List.set (byteList x3) x4.toNat x6
          some ((bytesOf x7, (true, ())))
          else none
          else none
        else
          some ((bytesOf (byteList x3), (true, ())))
      else
        some ((bytesOf (byteList x3), (true, ())))
      else none
      else none
theorem F_impl_CrashLog_ok (N : Nat) (d) : fnR Γ_impl_CrashLog (assoc []) true [(K_Pssiq, false), (I, false), (.bool, false)] [.str, .bool] Tryd.f24.results.toList (bodyOf Tryd.f24) d = F_impl_CrashLog N d := by kernel_rfl
noncomputable def S_impl_CrashLog : FSig := ⟨[(K_Pssiq, false), (I, false), (.bool, false)], [.str, .bool], true, (F_impl_CrashLog 0)⟩
noncomputable def Γ_laws_FnExactCrashLog : Ctx := { tk := assoc tks, ar := assoc ars, fs := assoc [(19, S_laws_szLog), (21, S_laws_toLog), (23, S_spec_CrashLog), (24, S_impl_CrashLog)] }
noncomputable def F_laws_FnExactCrashLog (N : Nat) (d : (ByteArray × ByteArray × Int × Unit) × Int × Bool × Unit) : Option (Bool × Unit) :=
  let a0 : ByteArray × ByteArray × Int × Unit := d.1
  let a1 : Int := d.2.1
  let a2 : Bool := d.2.2.1
  let r1 : Int × Unit := g_laws_szLog ((a0, ((1048576 : Int), ())))
  if (decide (r1.1 < (0 : Int))) = true then
    some (true, ())
  else
    let r2 : (ByteArray × ByteArray × Int × Unit) × Unit := g_laws_toLog (a0, ())
    ((F_spec_CrashLog 0) ((r2.1, (a1, (a2, ()))))).bind fun r3 =>
    let r4 : (ByteArray × ByteArray × Int × Unit) × Unit := g_laws_toLog (a0, ())
    ((F_impl_CrashLog 0) ((r4.1, (a1, (a2, ()))))).bind fun r5 =>
    if (!seq_ r5.1 r3.1) = true then
      some (false, ())
    else
      if (!(r5.2.1 == r3.2.1)) = true then
        some (false, ())
      else
        some (true, ())
theorem F_laws_FnExactCrashLog_ok (N : Nat) (d) : fnR Γ_laws_FnExactCrashLog (assoc []) true [(K_Pssiq, false), (I, false), (.bool, false)] [.bool] Tryd.f6.results.toList (bodyOf Tryd.f6) d = F_laws_FnExactCrashLog N d := by kernel_rfl
noncomputable def S_laws_FnExactCrashLog : FSig := ⟨[(K_Pssiq, false), (I, false), (.bool, false)], [.bool], true, (F_laws_FnExactCrashLog 0)⟩
end Go.V.W
set_option linter.unusedVariables false
set_option linter.unusedSimpArgs false
namespace Go.V.W
theorem getD_set (ms : List Nat) (a x v : Nat) (h : a < ms.length) : (ms.set a v).getD x 0 = if x = a then v else ms.getD x 0 := by
  simp only [List.getD_eq_getElem?_getD, List.getElem?_set]
  by_cases e : x = a
  · subst e; simp [h]
  · simp [e, Ne.symm e]
end Go.V.W
set_option linter.unusedVariables false
set_option linter.unusedSimpArgs false
namespace Go.V
end Go.V
namespace Go.V.W
open Go.Proofs Go.RowKit
def val (a0 F : Nat → Value) (L : Nat → Bool) (t : Nat) : Value := if t = 8 then (if L 9 = true then F 9 else a0 8) else if 38 ≤ t ∧ t ≤ 46 then (if L (t - 38) = true then F (t - 38) else a0 t) else a0 t
def dstv (j : Nat) : Nat := if j = 9 then 8 else 38 + j
theorem val_step (a0 F : Nat → Value) (L : Nat → Bool) {j : Nat} (hj : j ≤ 9) (t : Nat) : (if t = dstv j then F j else val a0 F L t) = val a0 F (fun i => L i || decide (i = j)) t := by
  unfold val dstv
  by_cases e9 : j = 9
  · subst e9
    simp only [if_true]
    by_cases et : t = 8
    · simp [et]
    · simp only [et, if_false]
      by_cases er : 38 ≤ t ∧ t ≤ 46
      · have : ¬ t - 38 = 9 := by omega
        simp [er, this]
      · simp [er]
  · simp only [e9, if_false]
    by_cases et : t = 8
    · subst et
      have h1 : ¬ 8 = 38 + j := by omega
      have h2 : ¬ (9 = j) := fun h => e9 h.symm
      simp [h1, h2]
    · simp only [et, if_false]
      by_cases er : 38 ≤ t ∧ t ≤ 46
      · simp only [er, and_self, if_true]
        by_cases ej : t = 38 + j
        · subst ej
          simp
        · have : ¬ t - 38 = j := by omega
          simp [ej, this]
      · have : ¬ t = 38 + j := by omega
        simp [er, this]
def rowL (n m : Nat) (x z : Value) : List Value := List.replicate m x ++ List.replicate (n - m) z
theorem put_getD {a : Act} {d t : Nat} {v : Value} (hd : d < a.tmps.size) : (a.put (some d) v).tmps.getD t undef = if t = d then v else a.tmps.getD t undef := by
  unfold Act.put
  by_cases e : t = d
  · subst e
    simp [Array.getD_eq_getD_getElem?, hd]
  · have e' : d ≠ t := fun h => e h.symm
    simp [Array.getD_eq_getD_getElem?, Array.getElem?_setIfInBounds_ne e', e]
/-- What is held of the listed operations. -/
structure Phi (a0 F : Nat → Value) (df : List Deferred) (sz g n m c B : Nat) (x z : Value) (T : TypeId) (w0 : World) (L : Nat → Bool) (a : Act) (w : World) : Prop where
  size : a.tmps.size = sz
  defers : a.defers = df
  tmps : ∀ t, a.tmps.getD t undef = val a0 F L t
  row : w.heap[g]? = some (.cells (rowL n (if L 7 = true then m + c else m) x z).toArray T (0, 0))
  below : Below B w0 w
theorem Phi.fin {P : Program} {Q : Exit → Act → World → Prop} {a0 F : Nat → Value} {df : List Deferred} {g n m c B : Nat} {x z : Value} {T : TypeId} {w0 w w' : World} {L : Nat → Bool} {a : Act} (h : Phi a0 F df 48 g n m c B x z T w0 L a w) {j : Nat} (hj : j ≤ 9) {o : Oper} (hd : o.dst = some (dstv j))
    (hrun : (execOp a.eval o).run P w = .ok (.value (F j)) w') (hrow : w'.heap[g]? = some (.cells (rowL n (if (L 7 || decide (7 = j)) = true then m + c else m) x z).toArray T (0, 0))) (hB : Below B w0 w')
    (K : Act → World → Prop) (hK : ∀ a' w', Phi a0 F df 48 g n m c B x z T w0 (fun i => L i || decide (i = j)) a' w' → K a' w') : o.wp P a w K Q := by
  refine wp_value hrun (hK _ _ ⟨?_, ?_, fun t => ?_, hrow, hB⟩)
  · rw [hd]
    simp [Act.put, h.size]
  · rw [hd]
    exact h.defers
  · rw [hd, put_getD (by rw [h.size]; unfold dstv; split <;> omega), h.tmps t]
    exact val_step a0 F L hj t
end Go.V.W
set_option linter.unusedVariables false
set_option linter.unusedSimpArgs false
namespace Go.V.W
open Go.Proofs
theorem bytes_drop (s : ByteArray) (i : Nat) (h : i < s.size) : ∃ b : UInt8, byteAt s i = b.toNat ∧ s.data.toList.drop i = b :: s.data.toList.drop (i + 1) := by
  have h' : i < s.data.toList.length := by simpa using h
  have h2 : i < s.data.size := h
  refine ⟨s.data[i], ?_, ?_⟩
  · unfold byteAt Array.getD
    rw [dif_pos h2]
    rfl
  · rw [List.drop_eq_getElem_cons h']
    rfl
theorem drop_size (s : ByteArray) : s.data.toList.drop s.size = [] := List.drop_of_length_le (by simp)
theorem wrap_small (n : Int) (h0 : 0 ≤ n) (h1 : n ≤ 9223372036854775807) : IntKind.wrap .i64 n = n := Go.IntWalk.i64_in n (by omega)
theorem isPrinted_l0 (N : Nat) (s w : ByteArray) (hs : s.size ≤ maxLen) : ∀ (n i : Nat), s.size ≤ i + n → i ≤ s.size → impl_isPrinted_l0 N (n + 1) (s, w, (i : Int), ()) =
    if (s.data.toList.drop i).all printed1 = true then some (.inr (.inl (s, w, ()))) else some (.inl (false, ())) := by
  intro n
  induction n with
  | zero =>
    intro i h1 h2
    have : i = s.size := by omega
    subst this
    rw [drop_size]
    simp [impl_isPrinted_l0, impl_isPrinted_l0_r]
  | succ n ih =>
    intro i h1 h2
    by_cases hi : i < s.size
    · have hix : idxIn (i : Int) s.size = true := by simp [idxIn]; omega
      have hw : IntKind.wrap .i64 ((i : Int) + 1) = ((i + 1 : Nat) : Int) := by rw [wrap_small _ (by omega) (by unfold maxLen at hs; omega)]; rfl
      have ih' := ih (i + 1) (by omega) (by omega)
      obtain ⟨b, hb, hd⟩ := bytes_drop s i hi
      rw [hd]
      show impl_isPrinted_l0_r N (impl_isPrinted_l0 N (n + 1)) (s, w, (i : Int), ()) = _
      unfold impl_isPrinted_l0_r
      have hlt : decide ((i : Int) < (s.size : Int)) = true := by simp; omega
      simp only [Int.toNat_natCast, hix, if_true, hw, ih', List.all_cons, printed1, hlt, hb]
      by_cases c1 : (b.toNat : Int) < 32
      · have : ¬ 32 ≤ b.toNat := by omega
        simp [c1, this]
      · by_cases c2 : (b.toNat : Int) > 126
        · have : ¬ b.toNat ≤ 126 := by omega
          simp [c1, c2, this]
        · have e1 : 32 ≤ b.toNat := by omega
          have e2 : b.toNat ≤ 126 := by omega
          simp [c1, c2, e1, e2]
    · have : i = s.size := by omega
      subst this
      rw [drop_size]
      simp [impl_isPrinted_l0, impl_isPrinted_l0_r]
theorem l12Bytes_l0 (N : Nat) (s : ByteArray) (m : Int) (hs : s.size ≤ maxLen) : ∀ (n i : Nat), s.size ≤ i + n → i ≤ s.size → spec_l12Bytes_l0 N (n + 1) (s, m, (i : Int), ()) =
    if (s.data.toList.drop i).all (fun b => printed1 b && !(b.toNat == 35)) = true then some (.inr (.inl (s, m, ()))) else some (.inl (false, ())) := by
  intro n
  induction n with
  | zero =>
    intro i h1 h2
    have : i = s.size := by omega
    subst this
    rw [drop_size]
    simp [spec_l12Bytes_l0, spec_l12Bytes_l0_r]
  | succ n ih =>
    intro i h1 h2
    by_cases hi : i < s.size
    · have hix : idxIn (i : Int) s.size = true := by simp [idxIn]; omega
      have hw : IntKind.wrap .i64 ((i : Int) + 1) = ((i + 1 : Nat) : Int) := by rw [wrap_small _ (by omega) (by unfold maxLen at hs; omega)]; rfl
      have ih' := ih (i + 1) (by omega) (by omega)
      obtain ⟨b, hb, hd⟩ := bytes_drop s i hi
      have hwb : IntKind.wrap .i64 (b.toNat : Int) = (b.toNat : Int) := wrap_small _ (by omega) (by have := b.toNat_lt; omega)
      rw [hd]
      show spec_l12Bytes_l0_r N (spec_l12Bytes_l0 N (n + 1)) (s, m, (i : Int), ()) = _
      unfold spec_l12Bytes_l0_r g_spec_l1In
      have hlt : decide ((i : Int) < (s.size : Int)) = true := by simp; omega
      simp only [Int.toNat_natCast, hix, if_true, hw, ih', List.all_cons, printed1, hlt, hb, hwb]
      by_cases c1 : 32 ≤ b.toNat
      · by_cases c2 : b.toNat ≤ 126
        · have e1 : (32 : Int) ≤ (b.toNat : Int) := by omega
          have e2 : (b.toNat : Int) ≤ 126 := by omega
          by_cases c3 : b.toNat = 35
          · simp [c3]
          · have c3' : ¬ (b.toNat : Int) = 35 := by omega
            simp [c1, c2, c3, e1, e2, c3']
        · have e1 : (32 : Int) ≤ (b.toNat : Int) := by omega
          have e2 : ¬ (b.toNat : Int) ≤ 126 := by omega
          simp [c2, e1, e2]
      · have e1 : ¬ (32 : Int) ≤ (b.toNat : Int) := by omega
        simp [c1, e1]
    · have : i = s.size := by omega
      subst this
      rw [drop_size]
      simp [spec_l12Bytes_l0, spec_l12Bytes_l0_r]
theorem l1Stands_l0 (N : Nat) (s : ByteArray) (m : Int) (hs : s.size ≤ maxLen) : ∀ (n i : Nat), s.size ≤ i + n → i ≤ s.size → spec_l1Stands_l0 N (n + 1) (s, m, (i : Int), ()) =
    if (s.data.toList.drop i).any (fun b => ((b.toNat : Int) == m)) = true then some (.inl (true, ())) else some (.inr (.inl ())) := by
  intro n
  induction n with
  | zero =>
    intro i h1 h2
    have : i = s.size := by omega
    subst this
    rw [drop_size]
    simp [spec_l1Stands_l0, spec_l1Stands_l0_r]
  | succ n ih =>
    intro i h1 h2
    by_cases hi : i < s.size
    · have hix : idxIn (i : Int) s.size = true := by simp [idxIn]; omega
      have hw : IntKind.wrap .i64 ((i : Int) + 1) = ((i + 1 : Nat) : Int) := by rw [wrap_small _ (by omega) (by unfold maxLen at hs; omega)]; rfl
      have ih' := ih (i + 1) (by omega) (by omega)
      obtain ⟨b, hb, hd⟩ := bytes_drop s i hi
      rw [hd]
      show spec_l1Stands_l0_r N (spec_l1Stands_l0 N (n + 1)) (s, m, (i : Int), ()) = _
      unfold spec_l1Stands_l0_r
      have hlt : decide ((i : Int) < (s.size : Int)) = true := by simp; omega
      simp only [Int.toNat_natCast, hix, if_true, hw, ih', List.any_cons, hlt, hb]
      by_cases c1 : (b.toNat : Int) = m
      · simp [c1]
      · have c1' : ((b.toNat : Int) == m) = false := by simpa using c1
        simp [c1']
    · have : i = s.size := by omega
      subst this
      rw [drop_size]
      simp [spec_l1Stands_l0, spec_l1Stands_l0_r]
theorem l12Bytes_lim (d) (r) (h : G_l12Bytes d = some r) : ∃ N, F_spec_l12Bytes N d = some r := by
  obtain ⟨s, m, u⟩ := d
  unfold G_l12Bytes at h
  split at h
  · rename_i hs
    have hs : s.size ≤ maxLen := of_decide_eq_true hs
    have h := Option.some.inj h
    refine ⟨s.size + 1, ?_⟩
    have := l12Bytes_l0 (s.size + 1) s m hs s.size 0 (by omega) (by omega)
    unfold F_spec_l12Bytes
    simp only [Int.natCast_zero, List.drop_zero] at this
    simp only
    rw [this, ← h]
    by_cases hc : s.data.toList.all (fun b => printed1 b && !(b.toNat == 35)) = true
    · simp [hc]
    · simp only [Bool.not_eq_true] at hc
      simp [hc]
  · cases h
theorem l1Stands_lim (d) (r) (h : G_l1Stands d = some r) : ∃ N, F_spec_l1Stands N d = some r := by
  obtain ⟨s, m, u⟩ := d
  unfold G_l1Stands at h
  split at h
  · rename_i hs
    have hs : s.size ≤ maxLen := of_decide_eq_true hs
    have h := Option.some.inj h
    refine ⟨s.size + 1, ?_⟩
    have := l1Stands_l0 (s.size + 1) s m hs s.size 0 (by omega) (by omega)
    unfold F_spec_l1Stands
    simp only [Int.natCast_zero, List.drop_zero] at this
    simp only
    rw [this, ← h]
    by_cases hc : s.data.toList.any (fun b => ((b.toNat : Int) == m)) = true
    · simp [hc]
    · simp only [Bool.not_eq_true] at hc
      simp [hc]
  · cases h
theorem ascii_of_printed {s : ByteArray} (h : printedB s = true) : asciiB s = true := by
  unfold printedB at h
  unfold asciiB
  rw [List.all_eq_true] at h ⊢
  intro b hb
  have := h b hb
  simp only [printed1, Bool.and_eq_true, decide_eq_true_eq] at this ⊢
  omega
theorem isPrinted_lim (d) (r) (h : G_isPrinted d = some r) : ∃ N, F_impl_isPrinted N d = some r := by
  obtain ⟨s, w, u⟩ := d
  unfold G_isPrinted at h
  split at h
  · rename_i hc
    simp only [Bool.and_eq_true] at hc
    obtain ⟨⟨h1, h2⟩, h3⟩ := hc
    have hs : s.size ≤ maxLen := by have := of_decide_eq_true h2; unfold maxLen; omega
    have h := Option.some.inj h
    refine ⟨s.size + 1, ?_⟩
    have := isPrinted_l0 (s.size + 1) s w hs s.size 0 (by omega) (by omega)
    unfold F_impl_isPrinted
    simp only [Int.natCast_zero, List.drop_zero] at this
    simp only
    rw [this, ← h]
    by_cases hp : s.data.toList.all printed1 = true
    · have ha := ascii_of_printed (s := s) hp
      have hp' : printedB s = true := hp
      simp [hp, hp', G_containsAny, ha, h1, h2, h3]
    · have hp' : printedB s = false := by simpa [printedB] using hp
      simp only [Bool.not_eq_true] at hp
      simp [hp, hp']
  · cases h
theorem containsAny_any (c : List UInt8) : ∀ l : List UInt8, Lib.containsAny l c = l.any fun b => c.contains b := by
  intro l
  induction l with
  | nil => simp [Lib.containsAny, Lib.indexAny]
  | cons b l ih =>
    unfold Lib.containsAny at ih ⊢
    unfold Lib.indexAny
    rw [List.any_cons, ← ih]
    by_cases hb : c.contains b = true
    · have hb' : b ∈ c := by simpa using hb
      simp [hb']
    · simp only [Bool.not_eq_true] at hb
      rw [hb]
      simp only [Bool.false_eq_true, if_false, Bool.false_or]
      have := Lib.indexAny_ge c l
      by_cases he : Lib.indexAny l c = -1
      · simp [he]
      · have e1 : (Lib.indexAny l c == -1) = false := by simpa using he
        rw [e1]
        simp only [Bool.false_eq_true, if_false]
        have e2 : (0 ≤ Lib.indexAny l c) := by omega
        have e3 : (0 ≤ Lib.indexAny l c + 1) := by omega
        simp [e2, e3]
end Go.V.W
set_option linter.unusedVariables false
set_option linter.unusedSimpArgs false
namespace Go.V.W
open Go.Proofs
def specB (a b : ByteArray) : Bool := !seq_ a (⟨#[]⟩ : ByteArray) && ((a.data.toList.all (fun b => printed1 b && !(b.toNat == 35)) && decide ((a.size : Int) ≤ 160)) && (!(a.data.toList.any (fun b => ((b.toNat : Int) == 64))) && (b.data.toList.all (fun b => printed1 b && !(b.toNat == 35)) && decide ((b.size : Int) ≤ 200))))
def implB (a b : ByteArray) : Bool := ((decide ((a.size : Int) ≥ 1) && decide ((a.size : Int) ≤ 160)) && (printedB a && !Lib.containsAny a.data.toList [35, 64])) && (decide ((b.size : Int) ≤ 200) && (printedB b && !Lib.containsAny b.data.toList [35]))
theorem impl_eq (a b : ByteArray) (ha : a.size ≤ 1048576) (hb : b.size ≤ 1048576) : F_impl_IsValidRecord 0 ((a, b, ()), ()) = some (implB a b, ()) := by
  have oa : smallB a = true := by unfold smallB; simp; omega
  have ob : smallB b = true := by unfold smallB; simp; omega
  have k1 : asciiB (⟨#[35, 64]⟩ : ByteArray) = true := by decide
  have k2 : smallB (⟨#[35, 64]⟩ : ByteArray) = true := by decide
  have k3 : asciiB (⟨#[35]⟩ : ByteArray) = true := by decide
  have k4 : smallB (⟨#[35]⟩ : ByteArray) = true := by decide
  unfold F_impl_IsValidRecord F_impl_isCommand g_impl_within implB
  simp only [G_isPrinted, oa, ob, k1, k2, k3, k4, Bool.and_self, if_true, Option.bind_some]
  cases decide ((a.size : Int) ≥ 1) <;> simp only [Bool.false_eq_true, if_false, if_true, Option.bind_some, Bool.false_and, Bool.true_and]
  cases decide ((a.size : Int) ≤ 160) <;> simp only [Bool.false_eq_true, if_false, if_true, Option.bind_some, Bool.false_and, Bool.true_and]
  cases (printedB a && !Lib.containsAny a.data.toList [35, 64]) <;> simp only [Bool.false_eq_true, if_false, if_true, Option.bind_some, Bool.false_and, Bool.true_and]
  cases decide ((b.size : Int) ≤ 200) <;> simp only [Bool.false_eq_true, if_false, if_true, Option.bind_some, Bool.false_and, Bool.true_and]
theorem all_not (l : List UInt8) (p q : UInt8 → Bool) : l.all (fun b => p b && !q b) = (l.all p && !l.any q) := by
  induction l with
  | nil => rfl
  | cons b l ih =>
    simp only [List.all_cons, List.any_cons, ih]
    cases p b <;> cases q b <;> cases l.all p <;> cases l.any q <;> rfl
theorem any_or (l : List UInt8) (p q : UInt8 → Bool) : l.any (fun b => p b || q b) = (l.any p || l.any q) := by
  induction l with
  | nil => rfl
  | cons b l ih =>
    simp only [List.any_cons, ih]
    cases p b <;> cases q b <;> cases l.any p <;> cases l.any q <;> rfl
theorem has35 (l : List UInt8) : Lib.containsAny l [35] = l.any (fun b => b.toNat == 35) := by
  rw [containsAny_any]
  congr 1
  funext b
  simp only [List.contains_cons, List.contains_nil, Bool.or_false]
  rw [Bool.eq_iff_iff]
  simp only [beq_iff_eq]
  exact ⟨fun h => by rw [h]; rfl, fun h => UInt8.toNat_inj.1 h⟩
theorem has3564 (l : List UInt8) : Lib.containsAny l [35, 64] = (l.any (fun b => b.toNat == 35) || l.any (fun b => ((b.toNat : Int) == 64))) := by
  rw [containsAny_any, ← any_or]
  congr 1
  funext b
  simp only [List.contains_cons, List.contains_nil, Bool.or_false]
  rw [Bool.eq_iff_iff]
  simp only [Bool.or_eq_true, beq_iff_eq]
  constructor
  · rintro (h | h)
    · left; rw [h]; rfl
    · right; rw [h]; rfl
  · rintro (h | h)
    · left; exact UInt8.toNat_inj.1 h
    · right; exact UInt8.toNat_inj.1 (by have : b.toNat = 64 := by omega
                                         rw [this]; rfl)
theorem empty_size (a : ByteArray) : seq_ a (⟨#[]⟩ : ByteArray) = !decide ((a.size : Int) ≥ 1) := by
  unfold seq_
  have h1 : a.toList = a.data.toList := Lib.toList_data a
  have h2 : (⟨#[]⟩ : ByteArray).toList = [] := Lib.toList_data _
  have h3 : a.data.toList.length = a.size := by simp
  rw [h1, h2]
  cases hl : a.data.toList with
  | nil =>
    rw [hl] at h3
    simp only [List.length_nil] at h3
    simp [← h3]
  | cons x l =>
    rw [hl] at h3
    simp only [List.length_cons] at h3
    have : decide ((a.size : Int) ≥ 1) = true := by simp; omega
    rw [this]
    rfl
theorem same (a b : ByteArray) : specB a b = implB a b := by
  unfold specB implB
  rw [empty_size, all_not, all_not, has35, has3564]
  unfold printedB
  cases decide ((a.size : Int) ≥ 1) <;> cases a.data.toList.all printed1 <;> cases a.data.toList.any (fun b => b.toNat == 35) <;> cases a.data.toList.any (fun b => ((b.toNat : Int) == 64)) <;> cases decide ((a.size : Int) ≤ 160) <;> cases decide ((b.size : Int) ≤ 200) <;> cases b.data.toList.all printed1 <;> cases b.data.toList.any (fun b => b.toNat == 35) <;> rfl
end Go.V.W
set_option linter.unusedVariables false
set_option linter.unusedSimpArgs false
namespace Go.V.W
theorem tabL_row {n c : Nat} (f : Nat → Nat → Int) (h : c < n) : (tabL n f)[c]? = some ((List.range n).map fun r => f c r) := by
  unfold tabL
  rw [List.getElem?_map, List.getElem?_range h]
  rfl
theorem rowR_get {n r : Nat} (g : Nat → Int) (h : r < n) : ((List.range n).map g)[r]? = some (g r) := by
  rw [List.getElem?_map, List.getElem?_range h]
  rfl
theorem tab2_tabL {n c r : Nat} (f : Nat → Nat → Int) (hc : c < n) (hr : r < n) : tab2 (tabL n f) (c : Int) (r : Int) = f c r := by
  unfold tab2
  simp only [Int.toNat_natCast, List.getD_eq_getElem?_getD, tabL_row f hc, Option.getD_some, rowR_get _ hr]
theorem worst_congr {f g : Int → Int} : ∀ {l : List Int} {m : Int}, (∀ x ∈ l, f x = g x) → worstL f l m = worstL g l m := by
  intro l
  induction l with
  | nil => intro m _; rfl
  | cons b bs ih =>
    intro m h
    simp only [worstL, h b (by simp)]
    rw [ih fun x hx => h x (by simp [hx])]
/-- The greatest of all, or -1. -/
theorem worst_spec (f : Int → Int) : ∀ (l : List Int) (m : Int), (∃ x ∈ l, f x < 0) ∧ worstL f l m = -1 ∨ (∀ x ∈ l, 0 ≤ f x ∧ f x ≤ worstL f l m) ∧ m ≤ worstL f l m ∧ (worstL f l m = m ∨ ∃ x ∈ l, worstL f l m = f x) := by
  intro l
  induction l with
  | nil => intro m; exact .inr ⟨fun x hx => by simp at hx, Int.le_refl _, .inl rfl⟩
  | cons b bs ih =>
    intro m
    simp only [worstL]
    by_cases hb : f b < 0
    · rw [if_pos hb]
      exact .inl ⟨⟨b, by simp, hb⟩, rfl⟩
    · rw [if_neg hb]
      rcases ih (if m < f b then f b else m) with ⟨⟨x, hx, h1⟩, h2⟩ | ⟨h1, h2, h3⟩
      · exact .inl ⟨⟨x, by simp [hx], h1⟩, h2⟩
      · have hge : m ≤ (if m < f b then f b else m) ∧ f b ≤ (if m < f b then f b else m) := by split <;> omega
        refine .inr ⟨fun x hx => ?_, by omega, ?_⟩
        · rcases List.mem_cons.1 hx with rfl | hx
          · omega
          · exact h1 x hx
        · rcases h3 with h3 | ⟨x, hx, h3⟩
          · by_cases hm : m < f b
            · rw [if_pos hm] at h3 ⊢
              exact .inr ⟨b, by simp, h3⟩
            · rw [if_neg hm] at h3 ⊢
              exact .inl h3
          · exact .inr ⟨x, by simp [hx], h3⟩
/-- The balls hold nodes alone. -/
def okBall (n : Nat) (ball : Int → List Int) : Prop := ∀ x : Nat, x < n → ∀ z ∈ ball (x : Int), ∃ y : Nat, y < n ∧ z = (y : Int)
/-- What holds before the round t. -/
structure InvT (n : Nat) (ball : Int → List Int) (t : Nat) (f : Nat → Nat → Int) : Prop where
  pos : 1 ≤ t
  low : ∀ c r, c < n → r < n → -1 ≤ f c r
  high : ∀ c r, c < n → r < n → f c r < (t : Int)
  none : ∀ c r, c < n → r < n → f c r < 0 → ∀ b ∈ ball (c : Int), ¬ (0 ≤ afterT ball (tabL n f) b (r : Int) ∧ afterT ball (tabL n f) b (r : Int) < (t : Int) - 1)
theorem InvT.next {n : Nat} {ball : Int → List Int} (hb : okBall n ball) {t : Nat} {f : Nat → Nat → Int} (hI : InvT n ball t f) : InvT n ball (t + 1) (stepF n ball (t : Int) f) := by
  have hp := hI.pos
  refine ⟨by omega, fun c r hc hr => ?_, fun c r hc hr => ?_, fun c r hc hr hf b hbm => ?_⟩
  · unfold stepF
    split
    · omega
    · exact hI.low c r hc hr
  · unfold stepF
    split
    · omega
    · have := hI.high c r hc hr; omega
  · rintro ⟨h1, h2⟩
    have hst : stepF n ball (t : Int) f c r = f c r ∧ canF n ball f c r = false := by
      unfold stepF at hf ⊢
      by_cases hcan : canF n ball f c r = true
      · rw [if_pos hcan] at hf; omega
      · rw [if_neg hcan]
        exact ⟨rfl, by simpa using hcan⟩
    rw [hst.1] at hf
    have hno : ∀ b ∈ ball (c : Int), ¬ 0 ≤ afterT ball (tabL n f) b (r : Int) := by
      intro b hbm h
      have := hst.2
      unfold canF at this
      simp only [hf, decide_true, Bool.true_and] at this
      have ht : ((ball (c : Int)).any fun b => decide (0 ≤ afterT ball (tabL n f) b (r : Int))) = true := List.any_eq_true.2 ⟨b, hbm, decide_eq_true h⟩
      rw [ht] at this
      cases this
    refine hno b hbm ?_
    unfold afterT at h1 h2 ⊢
    by_cases hbr : b = (r : Int)
    · rw [if_pos hbr]
      exact Int.le_refl _
    · rw [if_neg hbr] at h1 h2 ⊢
      obtain ⟨b', hb1, rfl⟩ := hb c hc b hbm
      rcases worst_spec (tab2 (tabL n (stepF n ball (t : Int) f)) (b' : Int)) (ball (r : Int)) 0 with ⟨_, h⟩ | ⟨hall, _, _⟩
      · omega
      · have e : worstL (tab2 (tabL n f) (b' : Int)) (ball (r : Int)) 0 = worstL (tab2 (tabL n (stepF n ball (t : Int) f)) (b' : Int)) (ball (r : Int)) 0 := by
          refine worst_congr fun x hx => ?_
          obtain ⟨y, hy, rfl⟩ := hb r hr x hx
          have := hall (y : Int) hx
          rw [tab2_tabL _ hb1 hy] at this
          rw [tab2_tabL _ hb1 hy, tab2_tabL _ hb1 hy]
          by_cases hcan : canF n ball f b' y = true
          · have e : stepF n ball (t : Int) f b' y = (t : Int) := if_pos hcan
            rw [e] at this
            omega
          · exact (if_neg hcan).symm
        rw [e]
        exact h1
theorem InvT.start (n : Nat) (ball : Int → List Int) : InvT n ball 1 startF := by
  refine ⟨Nat.le_refl _, fun c r _ _ => ?_, fun c r _ _ => ?_, fun c r _ _ _ b _ h => ?_⟩
  · unfold startF; split <;> omega
  · unfold startF; split <;> omega
  · omega
end Go.V.W
set_option linter.unusedVariables false
set_option linter.unusedSimpArgs false
namespace Go.V.W
open Go.Proofs
theorem map_set (n r : Nat) (g : Nat → Int) (v : Int) : ((List.range n).map g).set r v = (List.range n).map fun j => if j = r then v else g j := by
  apply List.ext_getElem
  · simp
  · intro i h1 h2
    simp only [List.length_set, List.length_map, List.length_range] at h1
    rw [List.getElem_set]
    by_cases e : r = i
    · subst e; simp
    · have e' : ¬ i = r := fun h => e h.symm
      simp [e, e']
end Go.V.W
set_option linter.unusedVariables false
set_option linter.unusedSimpArgs false
namespace Go.V.W
/-- What holds of the numbers before each round. -/
structure Inv3 (p n : Nat) (ball : Nat → Int → List Int) (f : Nat → Nat → Nat → Int) : Prop where
  low : ∀ r c q, -1 ≤ f r c q
  home : ∀ r c, f r c c = 0
  away : ∀ r c q, c ≠ q → f r c q ≠ 0
  why : ∀ r c q, r < p → c < n → q < n → 0 ≤ f r c q → c = q ∨ ∃ b ∈ ball r (c : Int), 0 ≤ afterT (ball r) (tabL n (f ((r + 1) % p))) b (q : Int)
theorem Inv3.start (p n : Nat) (ball : Nat → Int → List Int) : Inv3 p n ball start3 := by
  refine ⟨fun r c q => ?_, fun r c => ?_, fun r c q h => ?_, fun r c q _ _ _ h => ?_⟩
  · unfold start3 startF; split <;> omega
  · unfold start3 startF; simp
  · unfold start3 startF; rw [if_neg h]; omega
  · unfold start3 startF at h
    by_cases e : c = q
    · exact .inl e
    · rw [if_neg e] at h; omega
def okBalls (p n : Nat) (ball : Nat → Int → List Int) : Prop := ∀ r, r < p → okBall n (ball r)
/-- Numbers that are there stay. -/
theorem after_mono {n : Nat} {ball : Int → List Int} (hb : okBall n ball) {f g : Nat → Nat → Int} (h : ∀ c q, 0 ≤ f c q → 0 ≤ g c q) {b q : Nat} (hbn : b < n) (hq : q < n) (h0 : 0 ≤ afterT ball (tabL n f) (b : Int) (q : Int)) : 0 ≤ afterT ball (tabL n g) (b : Int) (q : Int) := by
  unfold afterT at h0 ⊢
  by_cases e : (b : Int) = (q : Int)
  · rw [if_pos e]; exact Int.le_refl _
  · rw [if_neg e] at h0 ⊢
    rcases worst_spec (tab2 (tabL n f) (b : Int)) (ball (q : Int)) 0 with ⟨_, h1⟩ | ⟨h1, _, _⟩
    · omega
    · rcases worst_spec (tab2 (tabL n g) (b : Int)) (ball (q : Int)) 0 with ⟨⟨x, hx, h2⟩, _⟩ | ⟨_, h2, _⟩
      · exfalso
        obtain ⟨y, hy, rfl⟩ := hb q hq x hx
        have := (h1 _ hx).1
        rw [tab2_tabL _ hbn hy] at this h2
        have := h _ _ this
        omega
      · exact h2
theorem Inv3.next {p n : Nat} {ball : Nat → Int → List Int} (hb : okBalls p n ball) {t : Int} (ht : 1 ≤ t) {f : Nat → Nat → Nat → Int} (hI : Inv3 p n ball f) : Inv3 p n ball (step3 p n ball t f) := by
  have hkeep : ∀ r c q, 0 ≤ f r c q → step3 p n ball t f r c q = f r c q := fun r c q h => by
    unfold step3 can3
    have : decide (f r c q < 0) = false := by simp; omega
    simp [this]
  have hge : ∀ r c q, 0 ≤ f r c q → 0 ≤ step3 p n ball t f r c q := fun r c q h => by rw [hkeep r c q h]; exact h
  refine ⟨fun r c q => ?_, fun r c => ?_, fun r c q h => ?_, fun r c q hr hc hq h => ?_⟩
  · unfold step3; split
    · omega
    · exact hI.low r c q
  · rw [hkeep r c c (by rw [hI.home]; exact Int.le_refl _)]; exact hI.home r c
  · unfold step3; split
    · omega
    · exact hI.away r c q h
  · have key : (∃ b ∈ ball r (c : Int), 0 ≤ afterT (ball r) (tabL n (f ((r + 1) % p))) b (q : Int)) → ∃ b ∈ ball r (c : Int), 0 ≤ afterT (ball r) (tabL n (step3 p n ball t f ((r + 1) % p))) b (q : Int) := by
      rintro ⟨b, hbm, h1⟩
      obtain ⟨y, hy, rfl⟩ := hb r hr c hc b hbm
      exact ⟨_, hbm, after_mono (hb r hr) (hge _) hy hq h1⟩
    by_cases hf : 0 ≤ f r c q
    · exact (hI.why r c q hr hc hq hf).imp _root_.id key
    · right
      have hcan : can3 p n ball f r c q = true := by
        cases hcan : can3 p n ball f r c q with
        | true => rfl
        | false => unfold step3 at h; rw [if_neg (by rw [hcan]; simp)] at h; exact absurd h hf
      unfold can3 at hcan
      simp only [Bool.and_eq_true, List.any_eq_true, decide_eq_true_eq] at hcan
      exact key hcan.2
end Go.V.W
set_option linter.unusedVariables false
set_option linter.unusedSimpArgs false
namespace Go.V.W
open Go.Proofs
/-- The setting of a round. -/
structure TT (nets : List Nt) (p n : Nat) : Prop where
  ok : netsB n nets = true
  len : nets.length = p
  n8 : n ≤ 8
end Go.V.W
set_option linter.unusedVariables false
set_option linter.unusedSimpArgs false
namespace Go.V.W
open Go.Proofs
theorem digit_sub : ∀ u : Fin 10, ((([48, 49, 50, 51, 52, 53, 54, 55, 56, 57] : List UInt8).drop u.val).take (u.val + 1 - u.val)) = [UInt8.ofNat (48 + u.val)] := by decide
theorem digit_ba (u : Nat) (h : u < 10) : subS (⟨#[48, 49, 50, 51, 52, 53, 54, 55, 56, 57]⟩ : ByteArray) (u : Int) ((u : Int) + 1) = ba [UInt8.ofNat (48 + u)] := by
  have := subS_ba [48, 49, 50, 51, 52, 53, 54, 55, 56, 57] u (u + 1)
  rw [digit_sub ⟨u, h⟩] at this
  exact this
theorem l1Num_nat : ∀ (m u : Nat), u ≤ m → m ≤ 9223372036854775807 → ∃ N, F_spec_l1Num N ((u : Int), ()) = some (ba (Lib.decDigits u), ()) := by
  intro m
  induction m with
  | zero =>
    intro u hu _
    have : u = 0 := by omega
    subst this
    refine ⟨1, ?_⟩
    rw [Lib.decDigits, dif_pos (by omega)]
    rfl
  | succ m ih =>
    intro u hu hm
    by_cases h : u < 10
    · refine ⟨1, ?_⟩
      rw [Lib.decDigits, dif_pos h]
      have e1 : IntKind.wrap .i64 ((u : Int) + 1) = (u : Int) + 1 := wrap_in _ (by omega) (by omega)
      have e2 : (⟨#[48, 49, 50, 51, 52, 53, 54, 55, 56, 57]⟩ : ByteArray).size = 10 := rfl
      have c1 : decide ((u : Int) < 0) = false := decide_eq_false (by omega)
      have c2 : decide ((u : Int) < 10) = true := decide_eq_true (by omega)
      have c3 : (decide ((0 : Int) ≤ u) && decide ((u : Int) ≤ (u : Int) + 1) && decide ((u : Int) + 1 ≤ ((10 : Nat) : Int))) = true := by simp; omega
      unfold F_spec_l1Num
      simp only [e1, e2, c1, c2, c3, Bool.false_eq_true, if_false, if_true, digit_ba u h]
    · obtain ⟨N, hN⟩ := ih (u / 10) (by omega) (by omega)
      refine ⟨N + 1, ?_⟩
      rw [Lib.decDigits, dif_neg h]
      have e0 : (u : Int).tdiv 10 = ((u / 10 : Nat) : Int) := by rw [Int.tdiv_eq_ediv_of_nonneg (by omega)]; omega
      have e1 : (u : Int).tmod 10 = ((u % 10 : Nat) : Int) := by rw [Int.tmod_eq_emod_of_nonneg (by omega)]; omega
      have e2 : IntKind.wrap .i64 ((u / 10 : Nat) : Int) = ((u / 10 : Nat) : Int) := wrap_in _ (by omega) (by omega)
      have e3 : IntKind.wrap .i64 (((u % 10 : Nat) : Int) + 1) = ((u % 10 : Nat) : Int) + 1 := wrap_in _ (by omega) (by omega)
      have e4 : (⟨#[48, 49, 50, 51, 52, 53, 54, 55, 56, 57]⟩ : ByteArray).size = 10 := rfl
      have hlt : u % 10 < 10 := Nat.mod_lt _ (by decide)
      have c1 : decide ((u : Int) < 0) = false := decide_eq_false (by omega)
      have c2 : decide ((u : Int) < 10) = false := decide_eq_false (by omega)
      have c3 : (decide ((0 : Int) ≤ ((u % 10 : Nat) : Int)) && decide (((u % 10 : Nat) : Int) ≤ ((u % 10 : Nat) : Int) + 1) && decide (((u % 10 : Nat) : Int) + 1 ≤ ((10 : Nat) : Int))) = true := by
        generalize u % 10 = x at hlt
        simp; omega
      have h21 := itoa_len (n := ((u / 10 : Nat) : Int)) (by omega) (by omega)
      have h22 : Lib.itoa ((u / 10 : Nat) : Int) = Lib.decDigits (u / 10) := by
        unfold Lib.itoa
        rw [if_neg (by omega)]
        rfl
      rw [h22] at h21
      have c4 : decide ((Lib.decDigits (u / 10)).length + 1 ≤ maxLen) = true := decide_eq_true (by unfold maxLen; omega)
      have c5 : ((10 : Int) != 0) = true := by decide
      unfold F_spec_l1Num
      simp only [e0, e1, e2, e3, e4, c1, c2, c3, c5, hN, Bool.false_eq_true, if_false, if_true, digit_ba _ hlt, Option.bind_some, ba_size, List.length_cons, List.length_nil, Nat.zero_add, c4, ba_append]
theorem itoa_nat (u : Nat) : Lib.itoa (u : Int) = Lib.decDigits u := by
  unfold Lib.itoa
  rw [if_neg (by omega)]
  rfl
theorem l1Num_lim (d) (r) (h : G_l1Num d = some r) : ∃ N, F_spec_l1Num N d = some r := by
  obtain ⟨n, _⟩ := d
  unfold G_l1Num at h
  split at h
  · rename_i hc
    simp only [Bool.and_eq_true, decide_eq_true_eq] at hc
    obtain rfl := Option.some.inj h
    by_cases hn : 0 ≤ n
    · obtain ⟨u, rfl⟩ : ∃ u : Nat, n = u := ⟨n.toNat, by omega⟩
      rw [itoa_nat]
      exact l1Num_nat u u (Nat.le_refl _) (by omega)
    · obtain ⟨u, rfl⟩ : ∃ u : Nat, n = -(u : Int) := ⟨(-n).toNat, by omega⟩
      obtain ⟨N, hN⟩ := l1Num_nat u u (Nat.le_refl _) (by omega)
      refine ⟨N + 1, ?_⟩
      have e1 : IntKind.wrap .i64 (0 - -(u : Int)) = (u : Int) := by rw [show (0 - -(u : Int)) = (u : Int) by omega]; exact wrap_in _ (by omega) (by omega)
      have c1 : decide (-(u : Int) < 0) = true := decide_eq_true (by omega)
      have h21 := itoa_len (n := (u : Int)) (by omega) (by omega)
      rw [itoa_nat] at h21
      have e2 : Lib.itoa (-(u : Int)) = 45 :: Lib.decDigits u := by
        unfold Lib.itoa
        rw [if_pos (by omega)]
        simp
      have e3 : (⟨#[45]⟩ : ByteArray) = ba [45] := rfl
      have c4 : decide (1 + (Lib.decDigits u).length ≤ maxLen) = true := decide_eq_true (by unfold maxLen; omega)
      unfold F_spec_l1Num
      simp only [e1, c1, hN, if_true, Option.bind_some, e3, ba_size, List.length_cons, List.length_nil, Nat.zero_add, c4, ba_append, e2]
      rfl
  · cases h
theorem ck_cons (h : Int) (b : UInt8) (l : List UInt8) : ckL h (b :: l) = ckL ((41 * h + (b.toNat : Int) + 1).tmod 999979) l := rfl
theorem l1Sum_l0 (N : Nat) (s : ByteArray) (hs : s.size ≤ 4194304) : ∀ (n i : Nat) (h : Int), s.size ≤ i + n → i ≤ s.size → 0 ≤ h → h < 999979 → spec_l1Sum_l0 N (n + 1) (s, h, (i : Int), ()) = some (.inl (ckL h ((bl s).drop i), ())) := by
  intro n
  induction n with
  | zero =>
    intro i h h1 h2 _ _
    have : i = s.size := by omega
    subst this
    unfold bl
    rw [drop_size]
    simp [spec_l1Sum_l0, spec_l1Sum_l0_r, ckL]
  | succ n ih =>
    intro i h h1 h2 h3 h4
    by_cases hi : i < s.size
    · have hix : idxIn (i : Int) s.size = true := by simp [idxIn]; omega
      have hw : IntKind.wrap .i64 ((i : Int) + 1) = ((i + 1 : Nat) : Int) := by rw [wrap_small _ (by omega) (by omega)]; rfl
      obtain ⟨b, hb, hd⟩ := bytes_drop s i hi
      have hb8 := b.toNat_lt
      have w1 : IntKind.wrap .i64 (41 * h) = 41 * h := wrap_in _ (by omega) (by omega)
      have w2 : IntKind.wrap .i64 (b.toNat : Int) = (b.toNat : Int) := wrap_in _ (by omega) (by omega)
      have w3 : IntKind.wrap .i64 (41 * h + (b.toNat : Int)) = 41 * h + (b.toNat : Int) := wrap_in _ (by omega) (by omega)
      have w4 : IntKind.wrap .i64 (41 * h + (b.toNat : Int) + 1) = 41 * h + (b.toNat : Int) + 1 := wrap_in _ (by omega) (by omega)
      have hx : 0 ≤ 41 * h + (b.toNat : Int) + 1 := by omega
      have hm0 : 0 ≤ (41 * h + (b.toNat : Int) + 1).tmod 999979 := by rw [Int.tmod_eq_emod_of_nonneg hx]; exact Int.emod_nonneg _ (by decide)
      have hm1 : (41 * h + (b.toNat : Int) + 1).tmod 999979 < 999979 := by rw [Int.tmod_eq_emod_of_nonneg hx]; exact Int.emod_lt_of_pos _ (by decide)
      have ih' := ih (i + 1) _ (by omega) (by omega) hm0 hm1
      unfold bl at ih' ⊢
      rw [hd, ck_cons]
      show spec_l1Sum_l0_r N (spec_l1Sum_l0 N (n + 1)) (s, h, (i : Int), ()) = _
      unfold spec_l1Sum_l0_r
      have hlt : decide ((i : Int) < (s.size : Int)) = true := by simp; omega
      have c5 : ((999979 : Int) != 0) = true := by decide
      simp only [Int.toNat_natCast, hix, if_true, hw, hlt, hb, w1, w2, w3, w4, c5, ih']
    · have : i = s.size := by omega
      subst this
      unfold bl
      rw [drop_size]
      simp [spec_l1Sum_l0, spec_l1Sum_l0_r, ckL]
theorem l1Sum_lim (d) (r) (h : G_sum d = some r) : ∃ N, F_spec_l1Sum N d = some r := by
  obtain ⟨s, _⟩ := d
  unfold G_sum at h
  split at h
  · rename_i hs
    have hs : s.size ≤ 4194304 := of_decide_eq_true hs
    refine ⟨s.size + 1, ?_⟩
    have := l1Sum_l0 (s.size + 1) s hs s.size 0 7 (by omega) (by omega) (by decide) (by decide)
    unfold F_spec_l1Sum
    simp only [Int.natCast_zero, List.drop_zero] at this
    simp only
    rw [this, ← h]
    rfl
  · cases h
theorem checksum_l0 (N : Nat) (s : ByteArray) (hs : s.size ≤ 4194304) : ∀ (n i : Nat) (h : Int), s.size ≤ i + n → i ≤ s.size → 0 ≤ h → h < 999979 → impl_checksum_l0 N (n + 1) (s, h, (i : Int), ()) = some (.inl (ckL h ((bl s).drop i), ())) := by
  intro n
  induction n with
  | zero =>
    intro i h h1 h2 _ _
    have : i = s.size := by omega
    subst this
    unfold bl
    rw [drop_size]
    simp [impl_checksum_l0, impl_checksum_l0_r, ckL]
  | succ n ih =>
    intro i h h1 h2 h3 h4
    by_cases hi : i < s.size
    · have hix : idxIn (i : Int) s.size = true := by simp [idxIn]; omega
      have hw : IntKind.wrap .i64 ((i : Int) + 1) = ((i + 1 : Nat) : Int) := by rw [wrap_small _ (by omega) (by omega)]; rfl
      obtain ⟨b, hb, hd⟩ := bytes_drop s i hi
      have hb8 := b.toNat_lt
      have w1 : IntKind.wrap .i64 (41 * h) = 41 * h := wrap_in _ (by omega) (by omega)
      have w2 : IntKind.wrap .i64 (b.toNat : Int) = (b.toNat : Int) := wrap_in _ (by omega) (by omega)
      have w3 : IntKind.wrap .i64 (41 * h + (b.toNat : Int)) = 41 * h + (b.toNat : Int) := wrap_in _ (by omega) (by omega)
      have w4 : IntKind.wrap .i64 (41 * h + (b.toNat : Int) + 1) = 41 * h + (b.toNat : Int) + 1 := wrap_in _ (by omega) (by omega)
      have hx : 0 ≤ 41 * h + (b.toNat : Int) + 1 := by omega
      have hm0 : 0 ≤ (41 * h + (b.toNat : Int) + 1).tmod 999979 := by rw [Int.tmod_eq_emod_of_nonneg hx]; exact Int.emod_nonneg _ (by decide)
      have hm1 : (41 * h + (b.toNat : Int) + 1).tmod 999979 < 999979 := by rw [Int.tmod_eq_emod_of_nonneg hx]; exact Int.emod_lt_of_pos _ (by decide)
      have ih' := ih (i + 1) _ (by omega) (by omega) hm0 hm1
      unfold bl at ih' ⊢
      rw [hd, ck_cons]
      show impl_checksum_l0_r N (impl_checksum_l0 N (n + 1)) (s, h, (i : Int), ()) = _
      unfold impl_checksum_l0_r
      have hlt : decide ((i : Int) < (s.size : Int)) = true := by simp; omega
      have c5 : ((999979 : Int) != 0) = true := by decide
      simp only [Int.toNat_natCast, hix, if_true, hw, hlt, hb, w1, w2, w3, w4, c5, ih']
    · have : i = s.size := by omega
      subst this
      unfold bl
      rw [drop_size]
      simp [impl_checksum_l0, impl_checksum_l0_r, ckL]
theorem checksum_lim (d) (r) (h : G_sum d = some r) : ∃ N, F_impl_checksum N d = some r := by
  obtain ⟨s, _⟩ := d
  unfold G_sum at h
  split at h
  · rename_i hs
    have hs : s.size ≤ 4194304 := of_decide_eq_true hs
    refine ⟨s.size + 1, ?_⟩
    have := checksum_l0 (s.size + 1) s hs s.size 0 7 (by omega) (by omega) (by decide) (by decide)
    unfold F_impl_checksum
    simp only [Int.natCast_zero, List.drop_zero] at this
    simp only
    rw [this, ← h]
    rfl
  · cases h
def glue (p : List UInt8) : List (List UInt8) → List (List UInt8)
  | [] => [p]
  | x :: r => (p ++ x) :: r
theorem split_ne (c : Int) : ∀ l, splitL c l ≠ [] := by
  intro l
  cases l with
  | nil => simp [splitL]
  | cons b l =>
    rw [splitL]
    split
    · simp
    · split <;> simp
theorem glue_cons {c : Int} {b : UInt8} (h : ¬ (b.toNat : Int) = c) (p l : List UInt8) : glue p (splitL c (b :: l)) = glue (p ++ [b]) (splitL c l) := by
  rw [splitL, if_neg h]
  cases hs : splitL c l with
  | nil => exact absurd hs (split_ne c l)
  | cons x r => simp [glue]
theorem part_up (l : List UInt8) (a i : Nat) (b : UInt8) (ha : a ≤ i) (hd : l.drop i = b :: l.drop (i + 1)) : (l.drop a).take (i + 1 - a) = (l.drop a).take (i - a) ++ [b] := by
  have e : i + 1 - a = (i - a) + 1 := by omega
  rw [e, List.take_add, List.drop_drop, show a + (i - a) = i by omega, hd]
  rfl
theorem l1Split_l0 (N : Nat) (s : ByteArray) (c : Int) (hs : s.size ≤ 4194304) : ∀ (n i a : Nat) (out : List ByteArray), s.size ≤ i + n → i ≤ s.size → a ≤ i → out.length ≤ i →
    ∃ out' a', spec_l1Split_l0 N (n + 1) (s, c, out, (a : Int), (i : Int), ()) = some (.inl (s, out', ((a' : Nat) : Int), ())) ∧ a' ≤ s.size ∧ out'.length ≤ s.size ∧
      out' ++ [ba ((bl s).drop a')] = out ++ (glue (((bl s).drop a).take (i - a)) (splitL c ((bl s).drop i))).map ba := by
  intro n
  have fin : ∀ (m a : Nat) (out : List ByteArray), a ≤ s.size → out.length ≤ s.size → ∃ out' a', spec_l1Split_l0 N (m + 1) (s, c, out, (a : Int), (s.size : Int), ()) = some (.inl (s, out', ((a' : Nat) : Int), ())) ∧ a' ≤ s.size ∧ out'.length ≤ s.size ∧
      out' ++ [ba ((bl s).drop a')] = out ++ (glue (((bl s).drop a).take (s.size - a)) (splitL c ((bl s).drop s.size))).map ba := by
    intro m a out ha ho
    refine ⟨out, a, ?_, ha, ho, ?_⟩
    · simp [spec_l1Split_l0, spec_l1Split_l0_r]
    · unfold bl
      rw [drop_size, List.take_of_length_le (by simp)]
      simp [splitL, glue]
  induction n with
  | zero =>
    intro i a out h1 h2 h3 h4
    have : i = s.size := by omega
    subst this
    exact fin 0 a out h3 h4
  | succ n ih =>
    intro i a out h1 h2 h3 h4
    by_cases hi : i < s.size
    · have hix : idxIn (i : Int) s.size = true := by simp [idxIn]; omega
      have hw : IntKind.wrap .i64 ((i : Int) + 1) = ((i + 1 : Nat) : Int) := by rw [wrap_small _ (by omega) (by omega)]; rfl
      obtain ⟨b, hb, hd⟩ := bytes_drop s i hi
      have hlt : decide ((i : Int) < (s.size : Int)) = true := by simp; omega
      have hr : spec_l1Split_l0 N (n + 1 + 1) (s, c, out, (a : Int), (i : Int), ()) = spec_l1Split_l0_r N (spec_l1Split_l0 N (n + 1)) (s, c, out, (a : Int), (i : Int), ()) := rfl
      by_cases hc : (b.toNat : Int) = c
      · have hc' : ((b.toNat : Int) == c) = true := by simpa using hc
        have c1 : (decide ((0 : Int) ≤ (a : Int)) && decide ((a : Int) ≤ (i : Int)) && decide ((i : Int) ≤ (s.size : Int))) = true := by simp; omega
        have c2 : decide (out.length + 1 ≤ lim) = true := decide_eq_true (by unfold lim; omega)
        obtain ⟨out', a', e1, e2, e3, e4⟩ := ih (i + 1) (i + 1) (out ++ [ba (((bl s).drop a).take (i - a))]) (by omega) (by omega) (Nat.le_refl _) (by simp; omega)
        refine ⟨out', a', ?_, e2, e3, ?_⟩
        · rw [hr]
          unfold spec_l1Split_l0_r
          have e5 : subS s (a : Int) (i : Int) = ba (((bl s).drop a).take (i - a)) := by
            have := subS_ba (bl s) a i
            rw [ba_bl] at this
            exact this
          simp only [Int.toNat_natCast, hix, if_true, hw, hlt, hb, hc', c1, e5, List.length_cons, List.length_nil, Nat.zero_add, c2, e1]
        · rw [e4]
          have hd' : (bl s).drop i = b :: (bl s).drop (i + 1) := hd
          rw [hd', splitL, if_pos hc]
          cases hsp : splitL c ((bl s).drop (i + 1)) with
          | nil => exact absurd hsp (split_ne c _)
          | cons x r => simp [glue]
      · have hc' : ((b.toNat : Int) == c) = false := by simpa using hc
        obtain ⟨out', a', e1, e2, e3, e4⟩ := ih (i + 1) a out (by omega) (by omega) (by omega) (by omega)
        refine ⟨out', a', ?_, e2, e3, ?_⟩
        · rw [hr]
          unfold spec_l1Split_l0_r
          simp only [Int.toNat_natCast, hix, if_true, hw, hlt, hb, hc', Bool.false_eq_true, if_false, e1]
        · have hd' : (bl s).drop i = b :: (bl s).drop (i + 1) := hd
          rw [e4, part_up _ _ _ _ h3 hd', hd', glue_cons hc]
    · have : i = s.size := by omega
      subst this
      exact fin (n + 1) a out h3 h4
theorem l1Split_lim (d) (r) (h : G_l1Split d = some r) : ∃ N, F_spec_l1Split N d = some r := by
  obtain ⟨s, c, _⟩ := d
  unfold G_l1Split at h
  split at h
  · rename_i hs
    have hs : s.size ≤ 4194304 := of_decide_eq_true hs
    refine ⟨s.size + 1, ?_⟩
    obtain ⟨out, a, e1, e2, e3, e4⟩ := l1Split_l0 (s.size + 1) s c hs s.size 0 0 [] (by omega) (by omega) (Nat.le_refl _) (Nat.le_refl _)
    rw [← h]
    unfold F_spec_l1Split
    simp only [Int.natCast_zero] at e1
    have c1 : (decide ((0 : Int) ≤ (a : Int)) && decide ((a : Int) ≤ (s.size : Int)) && decide ((s.size : Int) ≤ (s.size : Int))) = true := by simp; omega
    have c2 : decide (out.length + 1 ≤ lim) = true := decide_eq_true (by unfold lim; omega)
    have e5 : subS s (a : Int) (s.size : Int) = ba ((bl s).drop a) := by
      have := subS_end (bl s) a
      rw [ba_bl] at this
      exact this
    simp only [e1, Option.bind_some, c1, if_true, e5, List.length_cons, List.length_nil, Nat.zero_add, c2, e4, List.nil_append, List.drop_zero, Nat.sub_self, List.take_zero]
    cases hsp : splitL c (bl s) with
    | nil => exact absurd hsp (split_ne c _)
    | cons x r => simp [glue]
  · cases h
end Go.V.W
set_option linter.unusedVariables false
set_option linter.unusedSimpArgs false
namespace Go.V.W
open Go.Proofs
theorem bytes_nil : (⟨#[]⟩ : ByteArray) = ba [] := rfl
theorem bytes_35 : (⟨#[35]⟩ : ByteArray) = ba [35] := rfl
theorem bytes_32 : (⟨#[32]⟩ : ByteArray) = ba [32] := rfl
theorem bytes_64 : (⟨#[64]⟩ : ByteArray) = ba [64] := rfl
theorem bytes_10 : (⟨#[10]⟩ : ByteArray) = ba [10] := rfl
theorem small_ba {l : List UInt8} (h : l.length ≤ 4194304) : smallB (ba l) = true := decide_eq_true (by rw [ba_size]; omega)
theorem med_ba {l : List UInt8} (h : l.length ≤ 4194304) : medB (ba l) = true := decide_eq_true (by rw [ba_size]; exact h)
theorem sum_eq {l : List UInt8} (h : l.length ≤ 4194304) : G_sum (ba l, ()) = some (ckL 7 l, ()) := by
  unfold G_sum
  simp only [med_ba h, if_true, bl_ba]
theorem itoa_eq {n : Int} (h : 0 ≤ n) (h1 : n ≤ 9223372036854775807) : G_itoa (n, ()) = some (ba (Lib.itoa n), ()) := by
  unfold G_itoa
  have : (decide (-9223372036854775808 ≤ n) && decide (n ≤ 9223372036854775807)) = true := by simp; omega
  simp only [this, if_true]
theorem num_eq {n : Int} (h : 0 ≤ n) (h1 : n ≤ 9223372036854775807) : G_l1Num (n, ()) = some (ba (Lib.itoa n), ()) := by
  unfold G_l1Num
  have : (decide (-9223372036854775807 ≤ n) && decide (n ≤ 9223372036854775807)) = true := by simp; omega
  simp only [this, if_true]
theorem cut_eq {l : List UInt8} (c : UInt8) (h : l.length ≤ 4194304) : G_cut (ba l, ba [c], ()) = some (ba (cutA c l), ba (cutB c l), l.contains c, ()) := by
  unfold G_cut
  simp only [small_ba h, if_true, bl_ba, cut_one]
theorem hasB_eq {l : List UInt8} (c : UInt8) (h : l.length ≤ 4194304) : G_contains (ba l, ba [c], ()) = some (l.contains c, ()) := by
  unfold G_contains
  simp only [small_ba h, if_true, bl_ba, contains_one]
theorem parts_eq {l : List UInt8} (c : UInt8) (h : l.length ≤ 4194304) : G_l1Split (ba l, (c.toNat : Int), ()) = some (ba (cutA c l) :: (if c ∈ l then splitL (c.toNat : Int) (cutB c l) else []).map ba, ()) := by
  unfold G_l1Split
  simp only [med_ba h, if_true, bl_ba]
  rw [split_one, List.map_cons]
theorem seal_eq {l : List UInt8} (h : l.length ≤ 4194304) : F_spec_l1Seal 0 (ba l, ()) = some (ba (sealL l), ()) := by
  have hk := ck7 l
  have hl := itoa_len hk.1 (by omega)
  have c1 : decide (l.length + 1 ≤ maxLen) = true := decide_eq_true (by unfold maxLen; omega)
  have c2 : decide (l.length + 1 + (Lib.itoa (ckL 7 l)).length ≤ maxLen) = true := decide_eq_true (by unfold maxLen; omega)
  unfold F_spec_l1Seal
  simp only [bytes_35, ba_size, List.length_cons, List.length_nil, Nat.zero_add, c1, if_true, sum_eq h, Option.bind_some, num_eq hk.1 (by omega : ckL 7 l ≤ 9223372036854775807), ba_append, List.length_append, c2]
  rfl
theorem append_eq {l : List UInt8} (h : l.length ≤ 4194304) : F_impl_AppendChecksum 0 (ba l, ()) = some (ba (if sealOk l = true then sealL l else []), sealOk l, ()) := by
  have hk := ck7 l
  have hl := itoa_len hk.1 (by omega)
  have c1 : decide (l.length + 1 ≤ maxLen) = true := decide_eq_true (by unfold maxLen; omega)
  have c2 : decide (l.length + 1 + (Lib.itoa (ckL 7 l)).length ≤ maxLen) = true := decide_eq_true (by unfold maxLen; omega)
  unfold F_impl_AppendChecksum sealOk
  simp only [bytes_35, bytes_nil, ba_size, hasB_eq 35 h, Option.bind_some, List.length_cons, List.length_nil, Nat.zero_add, c1, if_true, sum_eq h, itoa_eq hk.1 (by omega : ckL 7 l ≤ 9223372036854775807), ba_append, List.length_append, c2]
  by_cases d1 : l.length ≤ 4000
  · have d1' : decide ((l.length : Int) > 4000) = false := decide_eq_false (by omega)
    simp only [d1, d1', decide_true, Bool.true_and, Bool.false_eq_true, if_false]
    cases d2 : l.contains 35
    · simp only [Bool.false_eq_true, if_false, Bool.not_false, Bool.true_and]
      have e : sealL l = l ++ [35] ++ Lib.itoa (ckL 7 l) := rfl
      have e2 : (sealL l).length = l.length + 1 + (Lib.itoa (ckL 7 l)).length := by rw [e]; simp; omega
      rw [← e, e2]
      by_cases d3 : l.length + 1 + (Lib.itoa (ckL 7 l)).length ≤ 4000
      · have d3' : decide (((l.length + 1 + (Lib.itoa (ckL 7 l)).length : Nat) : Int) > 4000) = false := decide_eq_false (by omega)
        simp only [d3', decide_eq_true d3, Bool.false_eq_true, if_false, if_true]
      · have d3' : decide (((l.length + 1 + (Lib.itoa (ckL 7 l)).length : Nat) : Int) > 4000) = true := decide_eq_true (by omega)
        simp only [d3', decide_eq_false d3, Bool.false_eq_true, if_false, if_true]
    · simp only [if_true, Bool.not_true, Bool.false_and, Bool.false_eq_true, if_false]
  · have d1' : decide ((l.length : Int) > 4000) = true := decide_eq_true (by omega)
    simp only [d1, d1', decide_false, Bool.false_and, Bool.false_eq_true, if_false, if_true]
theorem verify_eq {l : List UInt8} (h : l.length ≤ 4194304) : F_impl_VerifyChecksum 0 (ba l, ()) = some (ba (if verL l = true then cutA 35 l else []), verL l, ()) := by
  have h2 : (cutA 35 l).length ≤ 4194304 := Nat.le_trans (cutA_le _ _) h
  unfold F_impl_VerifyChecksum verL
  simp only [bytes_35, bytes_nil, cut_eq 35 h, Option.bind_some, append_eq h2]
  cases d1 : l.contains 35
  · simp only [Bool.not_false, if_true, Bool.false_and, Bool.false_eq_true, if_false]
  · simp only [Bool.not_true, Bool.false_eq_true, if_false, Bool.true_and]
    cases d2 : sealOk (cutA 35 l)
    · simp only [Bool.not_false, if_true, Bool.false_and, Bool.false_eq_true, if_false]
    · simp only [Bool.not_true, Bool.false_eq_true, if_false, if_true, Bool.true_and, seq_ba]
      cases d3 : (sealL (cutA 35 l) == l)
      · simp only [Bool.not_false, if_true, Bool.false_eq_true, if_false]
      · simp only [Bool.not_true, Bool.false_eq_true, if_false, if_true]
theorem line_eq {k : Nat} {c r : List UInt8} (hk : k < 9223372036854775807) (hc : c.length ≤ 1048576) (hr : r.length ≤ 1048576) : F_spec_l12Line 0 ((k : Int), (ba c, ba r, ()), ()) = some (ba (lineL k c r), ()) := by
  have hl := itoa_len (n := (k : Int)) (by omega) (by omega)
  have c1 : decide ((Lib.itoa (k : Int)).length + 1 ≤ maxLen) = true := decide_eq_true (by unfold maxLen; omega)
  have c2 : decide ((Lib.itoa (k : Int)).length + 1 + c.length ≤ maxLen) = true := decide_eq_true (by unfold maxLen; omega)
  have c3 : decide ((Lib.itoa (k : Int)).length + 1 + c.length + 1 ≤ maxLen) = true := decide_eq_true (by unfold maxLen; omega)
  have c4 : decide ((Lib.itoa (k : Int)).length + 1 + c.length + 1 + r.length ≤ maxLen) = true := decide_eq_true (by unfold maxLen; omega)
  have ht : (textL k c r).length ≤ 4194304 := by
    unfold textL
    simp only [List.length_append, List.length_cons, List.length_nil]
    omega
  have c5 : decide ((sealL (textL k c r)).length + 1 ≤ maxLen) = true := decide_eq_true (by have := sealL_len (textL k c r); unfold maxLen; omega)
  have hs := seal_eq ht
  unfold textL at hs c5
  unfold F_spec_l12Line
  simp only [num_eq (n := (k : Int)) (by omega) (by omega), Option.bind_some, bytes_32, bytes_64, bytes_10, ba_size, List.length_cons, List.length_nil, Nat.zero_add, c1, c2, c3, c4, if_true, ba_append, List.length_append, hs, c5]
  rfl
theorem encode_eq {k : Nat} {c r : List UInt8} (hk : k < 9223372036854775807) (hv : validL c r = true) : F_impl_encodeRecord 0 ((k : Int), (ba c, ba r, ()), ()) = some (ba (lineL k c r), ()) := by
  obtain ⟨⟨_, hc, _⟩, hr, _⟩ := validL_split hv
  have hl := itoa_len (n := (k : Int)) (by omega) (by omega)
  have c1 : decide ((Lib.itoa (k : Int)).length + 1 ≤ maxLen) = true := decide_eq_true (by unfold maxLen; omega)
  have c2 : decide ((Lib.itoa (k : Int)).length + 1 + c.length ≤ maxLen) = true := decide_eq_true (by unfold maxLen; omega)
  have c3 : decide ((Lib.itoa (k : Int)).length + 1 + c.length + 1 ≤ maxLen) = true := decide_eq_true (by unfold maxLen; omega)
  have c4 : decide ((Lib.itoa (k : Int)).length + 1 + c.length + 1 + r.length ≤ maxLen) = true := decide_eq_true (by unfold maxLen; omega)
  have ht := textL_len hk hv
  have hs := append_eq (l := textL k c r) (by omega)
  have hok : sealOk (textL k c r) = true := by
    have h1 := sealL_len (textL k c r)
    have h2 : (textL k c r).contains 35 = false := by simpa using textL_not k hv
    unfold sealOk
    rw [h2]
    simp; omega
  rw [hok, if_pos rfl] at hs
  have c5 : decide ((sealL (textL k c r)).length + 1 ≤ maxLen) = true := decide_eq_true (by have := sealL_len (textL k c r); unfold maxLen; omega)
  unfold textL at hs c5
  unfold F_impl_encodeRecord
  simp only [itoa_eq (n := (k : Int)) (by omega) (by omega), Option.bind_some, bytes_32, bytes_64, bytes_10, ba_size, List.length_cons, List.length_nil, Nat.zero_add, c1, c2, c3, c4, if_true, ba_append, List.length_append, hs, c5]
  rfl
theorem specR_eq (a b : ByteArray) (ha : a.size ≤ maxLen) (hb : b.size ≤ maxLen) : F_spec_l12Record 0 ((a, b, ()), ()) = some (specB a b, ()) := by
  have oa : okS a = true := decide_eq_true ha
  have ob : okS b = true := decide_eq_true hb
  unfold F_spec_l12Record specB
  simp only [G_l12Bytes, G_l1Stands, oa, ob, if_true, Option.bind_some]
  cases seq_ a (⟨#[]⟩ : ByteArray) <;> simp only [Bool.not_true, Bool.not_false, Bool.false_eq_true, if_false, if_true, Option.bind_some, Bool.false_and, Bool.true_and]
  cases (a.data.toList.all (fun b => printed1 b && !(b.toNat == 35)) && decide ((a.size : Int) ≤ 160)) <;> simp only [Bool.false_eq_true, if_false, if_true, Option.bind_some, Bool.false_and, Bool.true_and]
  cases (a.data.toList.any (fun b => ((b.toNat : Int) == 64))) <;> simp only [Bool.not_true, Bool.not_false, Bool.false_eq_true, if_false, if_true, Option.bind_some, Bool.false_and, Bool.true_and]
theorem any_contains (c : UInt8) : ∀ l : List UInt8, (l.any fun b => b.toNat == c.toNat) = l.contains c := by
  intro l
  rw [Bool.eq_iff_iff, List.any_eq_true, List.contains_iff_mem]
  constructor
  · rintro ⟨b, hb, h⟩
    have : b = c := UInt8.toNat_inj.1 (by simpa using h)
    exact this ▸ hb
  · exact fun h => ⟨c, h, by simp⟩
theorem implB_eq (c r : List UInt8) : implB (ba c) (ba r) = validL c r := by
  have e1 : (ba c).data.toList = c := bl_ba c
  have e2 : (ba r).data.toList = r := bl_ba r
  have e3 : ∀ l : List UInt8, Lib.containsAny l [35] = l.contains 35 := fun l => by rw [has35]; exact any_contains 35 l
  have e4 : ∀ l : List UInt8, Lib.containsAny l [35, 64] = (l.contains 35 || l.contains 64) := fun l => by
    rw [has3564, ← any_contains 35 l, ← any_contains 64 l]
    congr 1
    congr 1
    funext b
    rw [Bool.eq_iff_iff]
    simp only [beq_iff_eq]
    show (b.toNat : Int) = 64 ↔ b.toNat = 64
    omega
  have d1 : decide (((ba c).size : Int) ≥ 1) = decide (1 ≤ c.length) := by rw [ba_size]; exact decide_eq_decide.2 (by omega)
  have d2 : decide (((ba c).size : Int) ≤ 160) = decide (c.length ≤ 160) := by rw [ba_size]; exact decide_eq_decide.2 (by omega)
  have d3 : decide (((ba r).size : Int) ≤ 200) = decide (r.length ≤ 200) := by rw [ba_size]; exact decide_eq_decide.2 (by omega)
  have p1 : ∀ l : List UInt8, printedB (ba l) = printedL l := fun l => by
    unfold printedB printedL
    have : (ba l).data.toList = l := bl_ba l
    rw [this]
    rfl
  unfold implB validL
  rw [e1, e2, e3, e4, d1, d2, d3, p1, p1]
  generalize decide (1 ≤ c.length) = x1
  generalize decide (c.length ≤ 160) = x2
  generalize decide (r.length ≤ 200) = x3
  generalize printedL c = x4
  generalize printedL r = x5
  generalize c.contains 35 = x6
  generalize c.contains 64 = x7
  generalize r.contains 35 = x8
  cases x1 <;> cases x2 <;> cases x3 <;> cases x4 <;> cases x5 <;> cases x6 <;> cases x7 <;> cases x8 <;> rfl
theorem validI_eq {c r : List UInt8} (hc : c.length ≤ 1048576) (hr : r.length ≤ 1048576) : F_impl_IsValidRecord 0 ((ba c, ba r, ()), ()) = some (validL c r, ()) := by
  rw [impl_eq (ba c) (ba r) (by rw [ba_size]; exact hc) (by rw [ba_size]; exact hr), implB_eq]
theorem validS_eq {c r : List UInt8} (hc : c.length ≤ 4194304) (hr : r.length ≤ 4194304) : F_spec_l12Record 0 ((ba c, ba r, ()), ()) = some (validL c r, ()) := by
  rw [specR_eq (ba c) (ba r) (by rw [ba_size]; unfold maxLen; omega) (by rw [ba_size]; unfold maxLen; omega), same, implB_eq]
end Go.V.W
set_option linter.unusedVariables false
set_option linter.unusedSimpArgs false
namespace Go.V.W
open Go.Proofs
theorem ver_len {l : List UInt8} (h : verL l = true) : (cutA 35 l).length ≤ 4000 := by
  unfold verL sealOk at h
  simp only [Bool.and_eq_true, decide_eq_true_eq] at h
  exact h.1.2.1.1
/-- The reference's reading of a line. -/
theorem decodeS_eq {k : Nat} {l : List UInt8} (hk : k < 1000) (hl : l.length ≤ 4194304) : ∃ e, F_spec_l12Decode 0 (ba l, (k : Int), ()) = some (e, (decodeL k l).isSome, ()) ∧ ∀ x, decodeL k l = some x → e = rcOf x := by
  have hi := itoa_len (n := (k : Int)) (by omega) (by omega)
  have h1 := num_eq (n := (k : Int)) (by omega) (by omega)
  have h2 := parts_eq (l := l) 35 (by omega)
  have ht : (cutA 35 l).length ≤ 4194304 := Nat.le_trans (cutA_le _ _) hl
  have c1 : decide ((Lib.itoa (k : Int)).length + 1 ≤ maxLen) = true := decide_eq_true (by unfold maxLen; omega)
  have ix : ∀ n : Nat, idxIn (0 : Int) (n + 1) = true := fun n => by unfold idxIn; rw [decide_eq_true (by omega), decide_eq_true (by omega)]; rfl
  have ax : ∀ (x : ByteArray) (r : List ByteArray), at_ .str (x :: r) (0 : Int).toNat = x := fun x r => rfl
  have e35 : ((35 : UInt8).toNat : Int) = 35 := rfl
  have e64 : ((64 : UInt8).toNat : Int) = 64 := rfl
  rw [e35] at h2
  generalize hA : Lib.itoa (k : Int) ++ [32] = A at *
  have hAl : A.length ≤ 22 := by rw [← hA]; simp; omega
  have hx2 : ba (Lib.itoa (k : Int)) ++ ba [32] = ba A := by rw [ba_append, hA]
  have hA1 : (Lib.itoa (k : Int)).length + 1 = A.length := by rw [← hA]; simp
  unfold F_spec_l12Decode
  simp only [h1, h2, Option.bind_some, bytes_32, bytes_10, hx2, ix, ax, if_true, ba_size, List.length_cons, List.length_nil, Nat.zero_add, c1]
  -- what decodeL says of the text
  have key : ∀ x, decodeL k l = some x → cutA 35 l = A ++ (x.1 ++ [64] ++ x.2) ∧ validL x.1 x.2 = true ∧ lineL k x.1 x.2 = l ++ [10] := fun x hx => by
    obtain ⟨hv, hln⟩ := decode_of hx
    obtain ⟨_, h4, _⟩ := line_text hv hln
    refine ⟨?_, hv, hln⟩
    rw [h4, ← hA]
    simp [textL]
  by_cases d1 : (cutA 35 l).length < A.length
  · have d1' : decide (((cutA 35 l).length : Int) < (A.length : Int)) = true := decide_eq_true (by omega)
    simp only [d1', if_true]
    cases hd : decodeL k l with
    | some x =>
      have := congrArg List.length (key x hd).1
      simp only [List.length_append] at this
      omega
    | none => exact ⟨_, rfl, fun x hx => by cases hx⟩
  · have d1' : decide (((cutA 35 l).length : Int) < (A.length : Int)) = false := decide_eq_false (by omega)
    have c2 : (decide ((0 : Int) ≤ 0) && decide ((0 : Int) ≤ (A.length : Int)) && decide ((A.length : Int) ≤ ((cutA 35 l).length : Int))) = true := by simp; omega
    have s1 : subS (ba (cutA 35 l)) (0 : Int) (A.length : Int) = ba ((cutA 35 l).take A.length) := by
      have := subS_ba (cutA 35 l) 0 A.length
      simpa using this
    simp only [d1', Bool.false_eq_true, if_false, c2, if_true, s1, seq_ba]
    cases d2 : ((cutA 35 l).take A.length == A)
    · simp only [Bool.not_false, if_true]
      cases hd : decodeL k l with
      | some x =>
        rw [(key x hd).1, List.take_left] at d2
        simp at d2
      | none => exact ⟨_, rfl, fun x hx => by cases hx⟩
    · have d2 : (cutA 35 l).take A.length = A := by simpa using d2
      have c3 : (decide ((0 : Int) ≤ (A.length : Int)) && decide ((A.length : Int) ≤ ((cutA 35 l).length : Int)) && decide (((cutA 35 l).length : Int) ≤ ((cutA 35 l).length : Int))) = true := by simp; omega
      have s2 : subS (ba (cutA 35 l)) (A.length : Int) ((cutA 35 l).length : Int) = ba ((cutA 35 l).drop A.length) := by
        have := subS_end (cutA 35 l) A.length
        rw [ba_size] at this
        exact this
      have hrest : ((cutA 35 l).drop A.length).length ≤ 4194304 := by simp; omega
      generalize hR : (cutA 35 l).drop A.length = R at *
      have hTR : cutA 35 l = A ++ R := by
        have := List.take_append_drop A.length (cutA 35 l)
        rw [d2, hR] at this
        exact this.symm
      have h3 := parts_eq (l := R) 64 (by omega)
      rw [e64] at h3
      simp only [Bool.not_true, Bool.false_eq_true, if_false, c3, if_true, s2, h3, Option.bind_some, List.length_cons, ix, ax, ba_size]
      by_cases d3 : (64 : UInt8) ∈ R
      · have hj := congrArg List.length (cut_join d3)
        simp only [List.length_append, List.length_cons, List.length_nil] at hj
        have d3' : (((cutA 64 R).length : Int) == (R.length : Int)) = false := by simp; omega
        have w1 : IntKind.wrap .i64 (((cutA 64 R).length : Int) + 1) = (((cutA 64 R).length + 1 : Nat) : Int) := by rw [wrap_in _ (by omega) (by omega)]; rfl
        have c4 : (decide ((0 : Int) ≤ (((cutA 64 R).length + 1 : Nat) : Int)) && decide ((((cutA 64 R).length + 1 : Nat) : Int) ≤ (R.length : Int)) && decide ((R.length : Int) ≤ (R.length : Int))) = true := by simp; omega
        have s3 : subS (ba R) (((cutA 64 R).length + 1 : Nat) : Int) (R.length : Int) = ba (cutB 64 R) := by
          have := subS_end R ((cutA 64 R).length + 1)
          rw [ba_size] at this
          rw [this]
          congr 1
          have hj3 := cut_join d3
          generalize cutA 64 R = x at hj3 ⊢
          generalize cutB 64 R = y at hj3 ⊢
          rw [hj3, List.append_assoc, ← List.drop_drop, List.drop_left]
          rfl
        have v1 := validS_eq (c := cutA 64 R) (r := cutB 64 R) (by omega) (by omega)
        simp only [d3', Bool.false_eq_true, if_false, w1, c4, if_true, s3, v1, Option.bind_some]
        cases hv : validL (cutA 64 R) (cutB 64 R)
        · simp only [Bool.false_eq_true, if_false]
          cases hd : decodeL k l with
          | some x =>
            obtain ⟨k1, k2, k3⟩ := key x hd
            have hRx : R = x.1 ++ [64] ++ x.2 := List.append_cancel_left (hTR.symm.trans k1)
            obtain ⟨_, t1, t2⟩ := text_cut (k := k) k2
            rw [hRx, t1, t2, k2] at hv
            cases hv
          | none => exact ⟨_, rfl, fun x hx => by cases hx⟩
        · obtain ⟨⟨_, vc, _⟩, vr, _⟩ := validL_split hv
          have l1 := line_eq (k := k) (c := cutA 64 R) (r := cutB 64 R) (by omega) (by omega) (by omega)
          have c5 : decide (l.length + 1 ≤ maxLen) = true := decide_eq_true (by unfold maxLen; omega)
          simp only [if_true, l1, Option.bind_some, c5, ba_append, seq_ba]
          cases hq : (lineL k (cutA 64 R) (cutB 64 R) == l ++ [10])
          · cases hd : decodeL k l with
            | some x =>
              obtain ⟨k1, k2, k3⟩ := key x hd
              have hRx : R = x.1 ++ [64] ++ x.2 := List.append_cancel_left (hTR.symm.trans k1)
              obtain ⟨_, t1, t2⟩ := text_cut (k := k) k2
              rw [hRx, t1, t2, k3] at hq
              simp at hq
            | none => exact ⟨_, rfl, fun x hx => by cases hx⟩
          · have hq : lineL k (cutA 64 R) (cutB 64 R) = l ++ [10] := by simpa using hq
            rw [decode_hit hv hq]
            exact ⟨_, rfl, fun x hx => by obtain rfl := Option.some.inj hx; rfl⟩
      · have d3' : (((cutA 64 R).length : Int) == (R.length : Int)) = true := by rw [cutA_of_not d3]; simp
        simp only [d3', if_true]
        cases hd : decodeL k l with
        | some x =>
          obtain ⟨k1, k2, k3⟩ := key x hd
          have hRx : R = x.1 ++ [64] ++ x.2 := List.append_cancel_left (hTR.symm.trans k1)
          rw [hRx] at d3
          simp at d3
        | none => exact ⟨_, rfl, fun x hx => by cases hx⟩
end Go.V.W
set_option linter.unusedVariables false
set_option linter.unusedSimpArgs false
namespace Go.V.W
open Go.Proofs
theorem decode_none_ver {k : Nat} (hk : k < 9223372036854775807) {l : List UInt8} (h : verL l = false) : decodeL k l = none := by
  cases hd : decodeL k l with
  | none => rfl
  | some x =>
    obtain ⟨h1, h2⟩ := decode_of hd
    rw [ver_of hk h1 h2] at h
    cases h
theorem decode_unf (k : Nat) (l : List UInt8) : decodeL k l = if (validL (cutA 64 (cutB 32 (cutA 35 l))) (cutB 64 (cutB 32 (cutA 35 l))) && (lineL k (cutA 64 (cutB 32 (cutA 35 l))) (cutB 64 (cutB 32 (cutA 35 l))) == l ++ [10])) = true then some (cutA 64 (cutB 32 (cutA 35 l)), cutB 64 (cutB 32 (cutA 35 l))) else none := rfl
theorem open_no {n k : Nat} {l : List UInt8} (h : l.contains 10 = false) : openL n k l = ([], 0) := by
  cases n with
  | zero => rfl
  | succ n => unfold openL; rw [h]; rfl
theorem open_none {n k : Nat} {l : List UInt8} (h : decodeL k (cutA 10 l) = none) : openL n k l = ([], 0) := by
  cases n with
  | zero => rfl
  | succ n => unfold openL; rw [h]; split <;> rfl
theorem rdRec_some {n k : Nat} {l : List UInt8} {e : List UInt8 × List UInt8} (h1 : l.contains 10 = true) (h : decodeL k (cutA 10 l) = some e) : openL (n + 1) k l = (e :: (openL n (k + 1) (cutB 10 l)).1, (cutA 10 l).length + 1 + (openL n (k + 1) (cutB 10 l)).2) := by
  conv => lhs; unfold openL
  rw [h1, if_pos rfl, h]
theorem drop_cut {c : UInt8} {l : List UInt8} (h : c ∈ l) : l.drop ((cutA c l).length + 1) = cutB c l := by
  have hj := cut_join h
  generalize cutA c l = x at hj ⊢
  generalize cutB c l = y at hj ⊢
  rw [hj, List.append_assoc, ← List.drop_drop, List.drop_left]
  rfl
theorem sub_drop (l : List UInt8) (a : Nat) : subS (ba l) (a : Int) (l.length : Int) = ba (l.drop a) := by
  have := subS_end l a
  rw [ba_size] at this
  exact this
theorem read_l0 (N : Nat) (l : List UInt8) (hl : l.length ≤ 4194304) : ∀ (n a : Nat) (recs : List Rc), recs.length + n = 60 → a ≤ l.length →
    impl_readRecords_l0 N (n + 1) (ba l, recs, (a : Int), ()) = some (.inl (recs ++ (openL n recs.length (l.drop a)).1.map rcOf, ((a + (openL n recs.length (l.drop a)).2 : Nat) : Int), ())) := by
  intro n
  induction n with
  | zero =>
    intro a recs h1 h2
    have : decide ((recs.length : Int) < 60) = false := decide_eq_false (by omega)
    show impl_readRecords_l0_r N (impl_readRecords_l0 N 0) (ba l, recs, (a : Int), ()) = _
    unfold impl_readRecords_l0_r
    simp only [this, Bool.false_eq_true, if_false, openL, List.map_nil, List.append_nil, Nat.add_zero]
  | succ n ih =>
    intro a recs h1 h2
    have c0 : decide ((recs.length : Int) < 60) = true := decide_eq_true (by omega)
    have c1 : (decide ((0 : Int) ≤ (a : Int)) && decide ((a : Int) ≤ (l.length : Int)) && decide ((l.length : Int) ≤ (l.length : Int))) = true := by simp; omega
    have hX : (l.drop a).length ≤ 4194304 := by simp; omega
    have hXa : (l.drop a).length = l.length - a := by simp
    generalize hXe : l.drop a = X at *
    have hL : (cutA 10 X).length ≤ 4194304 := Nat.le_trans (cutA_le _ _) hX
    have hs : subS (ba l) (a : Int) (l.length : Int) = ba X := by rw [sub_drop, hXe]
    show impl_readRecords_l0_r N (impl_readRecords_l0 N (n + 1)) (ba l, recs, (a : Int), ()) = _
    unfold impl_readRecords_l0_r
    simp only [c0, if_true, ba_size, c1, hs, bytes_10, bytes_32, bytes_64, cut_eq 10 hX, Option.bind_some, verify_eq hL]
    cases d1 : X.contains 10
    · simp only [Bool.not_false, if_true, open_no d1, List.map_nil, List.append_nil, Nat.add_zero]
    · simp only [Bool.not_true, Bool.false_eq_true, if_false]
      cases d2 : verL (cutA 10 X)
      · simp only [Bool.not_false, if_true, open_none (decode_none_ver (by omega : recs.length < 9223372036854775807) d2), List.map_nil, List.append_nil, Nat.add_zero]
      · have hT := ver_len d2
        have hU : (cutB 32 (cutA 35 (cutA 10 X))).length ≤ 4000 := Nat.le_trans (cutB_le _ _) hT
        have hC : (cutA 64 (cutB 32 (cutA 35 (cutA 10 X)))).length ≤ 4000 := Nat.le_trans (cutA_le _ _) hU
        have hR : (cutB 64 (cutB 32 (cutA 35 (cutA 10 X)))).length ≤ 4000 := Nat.le_trans (cutB_le _ _) hU
        have hdec := decode_unf recs.length (cutA 10 X)
        simp only [Bool.not_true, Bool.false_eq_true, if_false, if_true, cut_eq 32 (by omega : (cutA 35 (cutA 10 X)).length ≤ 4194304), Option.bind_some, cut_eq 64 (by omega : (cutB 32 (cutA 35 (cutA 10 X))).length ≤ 4194304),
          validI_eq (by omega : (cutA 64 (cutB 32 (cutA 35 (cutA 10 X)))).length ≤ 1048576) (by omega : (cutB 64 (cutB 32 (cutA 35 (cutA 10 X)))).length ≤ 1048576)]
        generalize cutA 64 (cutB 32 (cutA 35 (cutA 10 X))) = C at hdec ⊢
        generalize cutB 64 (cutB 32 (cutA 35 (cutA 10 X))) = R at hdec ⊢
        cases d3 : validL C R
        · rw [d3] at hdec
          simp only [Bool.false_and, Bool.false_eq_true, if_false] at hdec
          simp only [Bool.not_false, if_true, open_none hdec, List.map_nil, List.append_nil, Nat.add_zero]
        · have c2 : decide ((cutA 10 X).length + 1 ≤ maxLen) = true := decide_eq_true (by unfold maxLen; omega)
          simp only [Bool.not_true, Bool.false_eq_true, if_false, encode_eq (by omega : recs.length < 9223372036854775807) d3, Option.bind_some, List.length_cons, List.length_nil, Nat.zero_add, c2, if_true, ba_append, seq_ba]
          cases d4 : (lineL recs.length C R == cutA 10 X ++ [10])
          · rw [d3, d4] at hdec
            simp only [Bool.and_false, Bool.false_eq_true, if_false] at hdec
            simp only [Bool.not_false, if_true, open_none hdec, List.map_nil, List.append_nil, Nat.add_zero]
          · rw [d3, d4] at hdec
            simp only [Bool.and_self, if_true] at hdec
            have hm : (10 : UInt8) ∈ X := List.contains_iff_mem.1 d1
            have hj := congrArg List.length (cut_join hm)
            simp only [List.length_append, List.length_cons, List.length_nil] at hj
            have c3 : decide (recs.length + 1 ≤ lim) = true := decide_eq_true (by unfold lim; omega)
            have w1 : IntKind.wrap .i64 (((cutA 10 X).length : Int) + 1) = ((cutA 10 X).length : Int) + 1 := wrap_in _ (by omega) (by omega)
            have w2 : IntKind.wrap .i64 ((a : Int) + (((cutA 10 X).length : Int) + 1)) = ((a + ((cutA 10 X).length + 1) : Nat) : Int) := by rw [wrap_in _ (by omega) (by omega)]; omega
            have ih' := ih (a + ((cutA 10 X).length + 1)) (recs ++ [(ba C, ba R, ())]) (by simp; omega) (by omega)
            have e1 : l.drop (a + ((cutA 10 X).length + 1)) = cutB 10 X := by rw [← List.drop_drop, hXe, drop_cut hm]
            rw [e1] at ih'
            simp only [List.length_append, List.length_cons, List.length_nil, Nat.zero_add] at ih'
            simp only [Bool.not_true, Bool.false_eq_true, if_false, c3, if_true, w1, w2, ih', rdRec_some d1 hdec, List.map_cons, List.append_assoc, List.cons_append, List.nil_append]
            have e2 : a + ((cutA 10 X).length + 1) + (openL n (recs.length + 1) (cutB 10 X)).2 = a + ((cutA 10 X).length + 1 + (openL n (recs.length + 1) (cutB 10 X)).2) := by omega
            rw [e2]
            rfl
theorem open_l0 (N : Nat) (l : List UInt8) (hl : l.length ≤ 4194304) : ∀ (n a : Nat) (recs : List Rc), recs.length + n = 60 → a ≤ l.length →
    spec_l12Open_l0 N (n + 1) (ba l, recs, (a : Int), ()) = some (.inl (recs ++ (openL n recs.length (l.drop a)).1.map rcOf, ((a + (openL n recs.length (l.drop a)).2 : Nat) : Int), ())) := by
  intro n
  have fin : ∀ (m n : Nat) (recs : List Rc), spec_l12Open_l0 N (m + 1) (ba l, recs, (l.length : Int), ()) = some (.inl (recs ++ (openL n recs.length (l.drop l.length)).1.map rcOf, ((l.length + (openL n recs.length (l.drop l.length)).2 : Nat) : Int), ())) := by
    intro m n recs
    show spec_l12Open_l0_r N (spec_l12Open_l0 N m) (ba l, recs, (l.length : Int), ()) = _
    have c0 : decide ((l.length : Int) < (l.length : Int)) = false := decide_eq_false (by omega)
    have e : l.drop l.length = [] := List.drop_of_length_le (Nat.le_refl _)
    unfold spec_l12Open_l0_r
    simp only [ba_size, c0, Bool.false_eq_true, if_false, e, open_no (n := n) (k := recs.length) (l := []) rfl, List.map_nil, List.append_nil, Nat.add_zero]
  induction n with
  | zero =>
    intro a recs h1 h2
    by_cases ha : a = l.length
    · subst ha; exact fin 0 0 recs
    · have c0 : decide ((a : Int) < (l.length : Int)) = true := decide_eq_true (by omega)
      have : decide ((recs.length : Int) < 60) = false := decide_eq_false (by omega)
      show spec_l12Open_l0_r N (spec_l12Open_l0 N 0) (ba l, recs, (a : Int), ()) = _
      unfold spec_l12Open_l0_r
      simp only [ba_size, c0, if_true, this, Bool.false_eq_true, if_false, openL, List.map_nil, List.append_nil, Nat.add_zero]
  | succ n ih =>
    intro a recs h1 h2
    by_cases ha : a = l.length
    · subst ha; exact fin (n + 1) (n + 1) recs
    · have c0 : decide ((recs.length : Int) < 60) = true := decide_eq_true (by omega)
      have c0' : decide ((a : Int) < (l.length : Int)) = true := decide_eq_true (by omega)
      have c1 : (decide ((0 : Int) ≤ (a : Int)) && decide ((a : Int) ≤ (l.length : Int)) && decide ((l.length : Int) ≤ (l.length : Int))) = true := by simp; omega
      have hX : (l.drop a).length ≤ 4194304 := by simp; omega
      have hXa : (l.drop a).length = l.length - a := by simp
      generalize hXe : l.drop a = X at *
      have hL : (cutA 10 X).length ≤ 4194304 := Nat.le_trans (cutA_le _ _) hX
      have hs : subS (ba l) (a : Int) (l.length : Int) = ba X := by rw [sub_drop, hXe]
      have e10 : ((10 : UInt8).toNat : Int) = 10 := rfl
      have hp := parts_eq 10 hX
      rw [e10] at hp
      have ix : ∀ n : Nat, idxIn (0 : Int) (n + 1) = true := fun n => by unfold idxIn; rw [decide_eq_true (by omega), decide_eq_true (by omega)]; rfl
      have ax : ∀ (x : ByteArray) (r : List ByteArray), at_ .str (x :: r) (0 : Int).toNat = x := fun x r => rfl
      obtain ⟨e, he, hrc⟩ := decodeS_eq (k := recs.length) (l := cutA 10 X) (by omega) hL
      show spec_l12Open_l0_r N (spec_l12Open_l0 N (n + 1)) (ba l, recs, (a : Int), ()) = _
      unfold spec_l12Open_l0_r
      simp only [c0, c0', if_true, ba_size, c1, hs, hp, Option.bind_some, List.length_cons, ix, ax, he]
      by_cases d1 : (10 : UInt8) ∈ X
      · have d1' : X.contains 10 = true := List.contains_iff_mem.2 d1
        have hne : 1 ≤ (splitL 10 (cutB 10 X)).length := by
          cases hsp : splitL 10 (cutB 10 X) with
          | nil => exact absurd hsp (split_ne _ _)
          | cons x r => simp
        have d1'' : decide ((((List.map ba (splitL 10 (cutB 10 X))).length + 1 : Nat) : Int) < 2) = false := decide_eq_false (by simp; omega)
        simp only [d1, if_true, d1'', Bool.false_eq_true, if_false]
        cases hd : decodeL recs.length (cutA 10 X) with
        | none => simp only [Option.isSome_none, Bool.not_false, if_true, open_none hd, List.map_nil, List.append_nil, Nat.add_zero]
        | some x =>
          obtain rfl := hrc x hd
          have hj := congrArg List.length (cut_join d1)
          simp only [List.length_append, List.length_cons, List.length_nil] at hj
          have c3 : decide (recs.length + 1 ≤ lim) = true := decide_eq_true (by unfold lim; omega)
          have w1 : IntKind.wrap .i64 ((a : Int) + ((cutA 10 X).length : Int)) = (a : Int) + ((cutA 10 X).length : Int) := wrap_in _ (by omega) (by omega)
          have w2 : IntKind.wrap .i64 ((a : Int) + ((cutA 10 X).length : Int) + 1) = ((a + ((cutA 10 X).length + 1) : Nat) : Int) := by rw [wrap_in _ (by omega) (by omega)]; omega
          have ih' := ih (a + ((cutA 10 X).length + 1)) (recs ++ [rcOf x]) (by simp; omega) (by omega)
          have e1 : l.drop (a + ((cutA 10 X).length + 1)) = cutB 10 X := by rw [← List.drop_drop, hXe, drop_cut d1]
          rw [e1] at ih'
          simp only [List.length_append, List.length_cons, List.length_nil, Nat.zero_add] at ih'
          simp only [Option.isSome_some, Bool.not_true, Bool.false_eq_true, if_false, List.length_nil, Nat.zero_add, c3, if_true, w1, w2, ih', rdRec_some d1' hd, List.map_cons, List.append_assoc, List.cons_append, List.nil_append]
          have e2 : a + ((cutA 10 X).length + 1) + (openL n (recs.length + 1) (cutB 10 X)).2 = a + ((cutA 10 X).length + 1 + (openL n (recs.length + 1) (cutB 10 X)).2) := by omega
          rw [e2]
      · have d1' : X.contains 10 = false := by simpa using d1
        have d1'' : decide ((((List.map ba ([] : List (List UInt8))).length + 1 : Nat) : Int) < 2) = true := rfl
        simp only [d1, if_false, d1'', if_true, open_no d1', List.map_nil, List.append_nil, Nat.add_zero]
        rfl
theorem readRecords_lim (d) (r) (h : G_open d = some r) : ∃ N, F_impl_readRecords N d = some r := by
  obtain ⟨s, _⟩ := d
  unfold G_open at h
  split at h
  · rename_i hs
    have hs : s.size ≤ 4194304 := of_decide_eq_true hs
    refine ⟨61, ?_⟩
    have := read_l0 61 (bl s) (by rw [bl_length]; exact hs) 60 0 [] rfl (Nat.zero_le _)
    rw [ba_bl] at this
    unfold F_impl_readRecords
    simp only [Int.natCast_zero, List.drop_zero, List.length_nil, List.nil_append, Nat.zero_add] at this
    simp only
    rw [this, ← h]
    rfl
  · cases h
theorem l12Open_lim (d) (r) (h : G_open d = some r) : ∃ N, F_spec_l12Open N d = some r := by
  obtain ⟨s, _⟩ := d
  unfold G_open at h
  split at h
  · rename_i hs
    have hs : s.size ≤ 4194304 := of_decide_eq_true hs
    refine ⟨61, ?_⟩
    have := open_l0 61 (bl s) (by rw [bl_length]; exact hs) 60 0 [] rfl (Nat.zero_le _)
    rw [ba_bl] at this
    unfold F_spec_l12Open
    simp only [Int.natCast_zero, List.drop_zero, List.length_nil, List.nil_append, Nat.zero_add] at this
    simp only
    rw [this, ← h]
    rfl
  · cases h
end Go.V.W
set_option linter.unusedVariables false
set_option linter.unusedSimpArgs false
namespace Go.V.W
open Go.Proofs
theorem g_open_eq {l : List UInt8} (h : l.length ≤ 4194304) : G_open (ba l, ()) = some ((openL 60 0 l).1.map rcOf, ((openL 60 0 l).2 : Int), ()) := by
  unfold G_open
  simp only [med_ba h, if_true, bl_ba]
theorem szLg (a b : ByteArray) (c : Int) (ha : a.size ≤ maxLen) (hb : b.size ≤ maxLen) : (g_laws_szLog ((a, b, c, ()), (1048576 : Int), ())).1 < 0 ∨ (a.size + b.size ≤ 1048576 ∧ (g_laws_szLog ((a, b, c, ()), (1048576 : Int), ())).1 = 1048576 - (a.size : Int) - (b.size : Int)) := by
  unfold maxLen at ha hb
  unfold g_laws_szLog
  have w1 : IntKind.wrap .i64 ((1048576 : Int) - (a.size : Int)) = 1048576 - (a.size : Int) := wrap_in _ (by omega) (by omega)
  simp only [w1]
  by_cases c1 : (1048576 : Int) - (a.size : Int) < 0
  · left; simp [c1]
  · have w2 : IntKind.wrap .i64 (1048576 - (a.size : Int) - (b.size : Int)) = 1048576 - (a.size : Int) - (b.size : Int) := wrap_in _ (by omega) (by omega)
    simp only [w2, c1, decide_false, Bool.false_eq_true, if_false]
    by_cases c2 : (1048576 : Int) - (a.size : Int) - (b.size : Int) < 0
    · left; simp [c2]
    · right; simp only [c2, decide_false, Bool.false_eq_true, if_false]; exact ⟨by omega, trivial⟩
def logB (d p : List UInt8) (c : Int) : Bool := decide (d.length + p.length ≤ 30000) && ((openL 60 0 (d ++ p)).2 == d.length + p.length) && ((openL 60 0 d).2 == d.length) && (((openL 60 0 (d ++ p)).1.length : Int) == c)
theorem int_beq (a b : Nat) : ((a : Int) == (b : Int)) = (a == b) := by
  rw [Bool.eq_iff_iff]
  simp only [beq_iff_eq]
  omega
theorem specV_eq {d p : List UInt8} (c : Int) (h : d.length + p.length ≤ 1048576) : F_spec_l12Valid 0 ((ba d, ba p, c, ()), ()) = some (logB d p c, ()) := by
  have w1 : IntKind.wrap .i64 ((d.length : Int) + (p.length : Int)) = ((d.length + p.length : Nat) : Int) := by rw [wrap_in _ (by omega) (by omega)]; rfl
  have c1 : decide (d.length + p.length ≤ maxLen) = true := decide_eq_true (by unfold maxLen; omega)
  unfold F_spec_l12Valid logB
  simp only [ba_size, w1, c1, if_true, ba_append, g_open_eq (by simp; omega : (d ++ p).length ≤ 4194304), g_open_eq (by omega : d.length ≤ 4194304), Option.bind_some, int_beq, List.length_map]
  by_cases h1 : d.length + p.length ≤ 30000
  · have c2 : decide (((d.length + p.length : Nat) : Int) > 30000) = false := decide_eq_false (by omega)
    simp only [c2, Bool.false_eq_true, if_false, decide_eq_true h1, Bool.true_and]
    cases (openL 60 0 (d ++ p)).2 == d.length + p.length <;> cases (openL 60 0 d).2 == d.length <;> simp
  · have c2 : decide (((d.length + p.length : Nat) : Int) > 30000) = true := decide_eq_true (by omega)
    simp only [c2, if_true, decide_eq_false h1, Bool.false_and]
theorem implV_eq {d p : List UInt8} (c : Int) (h : d.length + p.length ≤ 1048576) : F_impl_IsValidLog 0 ((ba d, ba p, c, ()), ()) = some (logB d p c, ()) := by
  have w1 : IntKind.wrap .i64 ((d.length : Int) + (p.length : Int)) = ((d.length + p.length : Nat) : Int) := by rw [wrap_in _ (by omega) (by omega)]; rfl
  have c1 : decide (d.length + p.length ≤ maxLen) = true := decide_eq_true (by unfold maxLen; omega)
  have e1 : (c != ((openL 60 0 (d ++ p)).1.length : Int)) = !(((openL 60 0 (d ++ p)).1.length : Int) == c) := by
    rw [Bool.eq_iff_iff]
    simp only [bne_iff_ne, ne_eq, Bool.not_eq_true', beq_eq_false_iff_ne]
    exact ⟨fun h e => h e.symm, fun h e => h e.symm⟩
  have e2 : ∀ a b : Nat, ((a : Int) != (b : Int)) = !(a == b) := fun a b => by unfold bne; rw [int_beq]
  unfold F_impl_IsValidLog logB
  simp only [ba_size, w1, c1, if_true, ba_append, g_open_eq (by simp; omega : (d ++ p).length ≤ 4194304), g_open_eq (by omega : d.length ≤ 4194304), Option.bind_some, e2, int_beq, List.length_map, e1]
  by_cases h1 : d.length + p.length ≤ 30000
  · have c2 : decide (((d.length + p.length : Nat) : Int) > 30000) = false := decide_eq_false (by omega)
    simp only [c2, Bool.false_eq_true, if_false, decide_eq_true h1, Bool.true_and]
    cases (openL 60 0 (d ++ p)).2 == d.length + p.length <;> cases (openL 60 0 d).2 == d.length <;> cases (((openL 60 0 (d ++ p)).1.length : Int) == c) <;> simp
  · have c2 : decide (((d.length + p.length : Nat) : Int) > 30000) = true := decide_eq_true (by omega)
    simp only [c2, if_true, decide_eq_false h1, Bool.false_and]
end Go.V.W
set_option linter.unusedVariables false
set_option linter.unusedSimpArgs false
namespace Go.V.W
open Go.Proofs
theorem wrap_u8 {n : Int} (h0 : 0 ≤ n) (h1 : n ≤ 255) : IntKind.wrap .u8 n = n := by
  obtain ⟨k, rfl⟩ : ∃ k : Nat, n = k := ⟨n.toNat, by omega⟩
  unfold IntKind.wrap
  simp [IntKind.bits, IntKind.signed]
  omega
end Go.V.W
set_option linter.unusedVariables false
set_option linter.unusedSimpArgs false
namespace Go.V.W
open Go.Proofs
def natsL (l : List UInt8) : List Int := l.map fun b => (b.toNat : Int)
theorem byteList_ba (l : List UInt8) : byteList (ba l) = natsL l := by
  unfold byteList natsL
  have : (ba l).data.toList = l := bl_ba l
  rw [this]
theorem bytesOf_nats (l : List UInt8) : bytesOf (natsL l) = ba l := by
  unfold bytesOf natsL
  rw [foldl_push_byteCells]
  show (⟨#[] ++ l.toArray⟩ : ByteArray) = ba l
  simp [ba]
theorem natsL_len (l : List UInt8) : (natsL l).length = l.length := by simp [natsL]
def flip8 (b : UInt8) : UInt8 := UInt8.ofNat (255 - b.toNat)
/-- One byte turned over. -/
theorem set_flip (l : List UInt8) (i : Nat) (h : i < l.length) : bytesOf (List.set (natsL l) i (IntKind.wrap .u8 (255 - at_ (.int .u8) (natsL l) i))) = ba (l.set i (flip8 l[i])) := by
  have e1 : at_ (.int .u8) (natsL l) i = (l[i].toNat : Int) := by
    have h' : i < (natsL l).length := by rw [natsL_len]; exact h
    rw [at_get (e := .int .u8) h']
    simp [natsL]
  have hb := l[i].toNat_lt
  have e2 : IntKind.wrap .u8 (255 - (l[i].toNat : Int)) = ((flip8 l[i]).toNat : Int) := by
    rw [wrap_u8 (by omega) (by omega)]
    unfold flip8
    simp only [UInt8.toNat_ofNat']
    omega
  rw [e1, e2]
  have e3 : List.set (natsL l) i ((flip8 l[i]).toNat : Int) = natsL (l.set i (flip8 l[i])) := by
    unfold natsL
    rw [List.map_set]
  rw [e3, bytesOf_nats]
theorem crash_eq {d p : List UInt8} {c : Int} (k : Int) (t : Bool) (h1 : d.length + p.length ≤ 1048576) :
    F_spec_CrashLog 0 ((ba d, ba p, c, ()), k, t, ()) = F_impl_CrashLog 0 ((ba d, ba p, c, ()), k, t, ()) ∧ ∃ x, F_impl_CrashLog 0 ((ba d, ba p, c, ()), k, t, ()) = some x := by
  have g1 : g_spec_l1In (k, 0, (p.length : Int), ()) = g_impl_within (k, 0, (p.length : Int), ()) := rfl
  unfold F_spec_CrashLog F_impl_CrashLog
  simp only [specV_eq c h1, implV_eq c h1, Option.bind_some, ba_size, g1]
  cases logB d p c
  · simp
  · simp only [Bool.not_true, Bool.false_eq_true, if_false]
    cases hw : (g_impl_within (k, 0, (p.length : Int), ())).1
    · simp
    · have hk2 : 0 ≤ k ∧ k ≤ p.length := by
        unfold g_impl_within at hw
        by_cases h0 : k ≥ 0
        · simp [h0] at hw; omega
        · simp [h0] at hw
      obtain ⟨n, rfl⟩ : ∃ n : Nat, k = n := ⟨k.toNat, by omega⟩
      have hs : subS (ba p) (0 : Int) (n : Int) = ba (p.take n) := by
        have := subS_ba p 0 n
        simpa using this
      have hP : (p.take n).length = n := by simp; omega
      have c1 : (decide ((0 : Int) ≤ 0) && decide ((0 : Int) ≤ (n : Int)) && decide ((n : Int) ≤ (p.length : Int))) = true := by simp; omega
      have c2 : decide (d.length + n ≤ maxLen) = true := decide_eq_true (by unfold maxLen; omega)
      simp only [Bool.not_true, Bool.false_eq_true, if_false, c1, if_true, hs, byteList_ba, ba_size, hP, c2, ba_append, natsL_len, bytesOf_nats, List.length_append]
      by_cases ht : t = true ∧ (n : Int) > 0
      · obtain ⟨rfl, hn⟩ := ht
        have c3 : decide ((n : Int) > 0) = true := decide_eq_true hn
        have w1 : IntKind.wrap .i64 ((n : Int) - 1) = ((n - 1 : Nat) : Int) := by rw [wrap_in _ (by omega) (by omega)]; omega
        have w2 : IntKind.wrap .i64 (((d.length + n : Nat) : Int) - 1) = ((d.length + (n - 1) : Nat) : Int) := by rw [wrap_in _ (by omega) (by omega)]; omega
        have i1 : idxIn ((n - 1 : Nat) : Int) n = true := idxIn_nat (by omega)
        have i2 : idxIn ((d.length + (n - 1) : Nat) : Int) (d.length + n) = true := idxIn_nat (by omega)
        have s1 := set_flip (p.take n) (n - 1) (by omega)
        have s2 := set_flip (d ++ p.take n) (d.length + (n - 1)) (by simp; omega)
        have e4 : (d ++ p.take n).set (d.length + (n - 1)) (flip8 ((d ++ p.take n)[d.length + (n - 1)]'(by simp; omega))) = d ++ (p.take n).set (n - 1) (flip8 ((p.take n)[n - 1]'(by omega))) := by
          rw [List.set_append_right _ _ (by omega), List.getElem_append_right (by omega)]
          simp
        have c4 : decide (d.length + ((p.take n).set (n - 1) (flip8 ((p.take n)[n - 1]'(by omega)))).length ≤ maxLen) = true := decide_eq_true (by rw [List.length_set, hP]; unfold maxLen; omega)
        simp only [c3, if_true, w1, w2, i1, i2, Int.toNat_natCast, s1, s2, e4, ba_size, c4, ba_append]
        exact ⟨trivial, _, rfl⟩
      · cases t
        · simp only [Bool.false_eq_true, if_false]
          exact ⟨trivial, _, rfl⟩
        · have c3 : decide ((n : Int) > 0) = false := decide_eq_false (by simpa using ht)
          simp only [if_true, c3, Bool.false_eq_true, if_false]
          exact ⟨trivial, _, rfl⟩
theorem law21 : ∀ d, WfD (Kd.tuple ([(K_Pssiq, false), (I, false), (.bool, false)].map (·.1))) d → ∃ out, F_laws_FnExactCrashLog 0 d = some out ∧ (splitT [.bool] [] out).1.1 = true := by
  rintro ⟨⟨a, b, c, _⟩, k, t, _⟩ ⟨⟨ha, hb, hc, _⟩, _⟩
  have ha : a.size ≤ maxLen := ha
  have hb : b.size ≤ maxLen := hb
  refine ⟨(true, ()), ?_, rfl⟩
  unfold F_laws_FnExactCrashLog
  rcases szLg a b c ha hb with h | ⟨h1, _⟩
  · simp only [h, decide_true, if_true]
  · obtain ⟨d, rfl⟩ : ∃ d, a = ba d := ⟨bl a, (ba_bl a).symm⟩
    obtain ⟨p, rfl⟩ : ∃ p, b = ba p := ⟨bl b, (ba_bl b).symm⟩
    rw [ba_size, ba_size] at h1
    have t1 : g_laws_toLog ((ba d, ba p, c, ()), ()) = ((ba d, ba p, c, ()), ()) := rfl
    obtain ⟨k1, x, k2⟩ := crash_eq (d := d) (p := p) (c := c) k t h1
    simp only [t1, k1, k2, Option.bind_some, seq_self, beq_self_eq_true, Bool.not_true, Bool.false_eq_true, if_false]
    split <;> rfl
end Go.V.W
