/- What the printed texts lean on: tables, loops, functions. -/
import Derived.Test.YtmeglfoapdkhdaaVFnOk
set_option linter.unusedVariables false
set_option linter.unusedSimpArgs false
namespace Go.V

/-- A string's byte, as a number. -/
def byteAt (s : ByteArray) (n : Nat) : Nat := (s.data.getD n 0).toNat

def assoc {α : Type} : List (Nat × α) → Nat → Option α
  | [], _ => none
  | x :: r, n => bif Nat.beq x.1 n then some x.2 else assoc r n
theorem assoc_mem {α : Type} {n : Nat} {y : α} : ∀ {l : List (Nat × α)}, assoc l n = some y → (n, y) ∈ l := by
  intro l
  induction l with
  | nil => intro h; cases h
  | cons x l ih =>
    intro h
    simp only [assoc] at h
    rcases bif_some h with ⟨h1, h2⟩ | ⟨_, h2⟩
    · have h1 := Nat.eq_of_beq_eq_true h1
      have h2 := Option.some.inj h2
      subst h1 h2
      simp
    · exact List.mem_cons_of_mem _ (ih h2)

/-- The tables, checked at once. -/
theorem tab_of {P : Program} {l : List (Nat × Kd)} {ar : TypeId → Option TypeId} (h : l.all (fun x => tyOkB P (assoc l) ar x.1 x.2) = true) : TabOk P (assoc l) ar := by
  intro t k hk
  have := List.all_eq_true.1 h _ (assoc_mem hk)
  exact this

def AllC (P : Program) : List (Nat × FSig) → Prop
  | [] => True
  | x :: r => Contract P x.1 x.2 ∧ AllC P r
theorem allC_get {P : Program} {n : Nat} {y : FSig} : ∀ {l : List (Nat × FSig)}, AllC P l → assoc l n = some y → Contract P n y := by
  intro l
  induction l with
  | nil => intro _ h; cases h
  | cons x l ih =>
    intro hA h
    simp only [assoc] at h
    rcases bif_some h with ⟨h1, h2⟩ | ⟨_, h2⟩
    · have h1 := Nat.eq_of_beq_eq_true h1
      have h2 := Option.some.inj h2
      subst h1 h2
      exact hA.1
    · exact ih hA.2 h2
theorem env_of {P : Program} {l : List (Nat × Kd)} {ar : TypeId → Option TypeId} {ln : Nat → Bool} {fs : List (Nat × FSig)} (h : TabOk P (assoc l) ar) (hfs : AllC P fs) : Env P { tk := assoc l, ar := ar, fs := assoc fs, lent := ln } :=
  ⟨h, fun _ _ hg => allC_get hfs hg, fun _ _ hg => by cases hg⟩

def AllV (P : Program) : List (Nat × FSig) → Prop
  | [] => True
  | x :: r => ContractV P x.2 ∧ AllV P r
theorem allV_get {P : Program} {n : Nat} {y : FSig} : ∀ {l : List (Nat × FSig)}, AllV P l → assoc l n = some y → ContractV P y := by
  intro l
  induction l with
  | nil => intro _ h; cases h
  | cons x l ih =>
    intro hA h
    simp only [assoc] at h
    rcases bif_some h with ⟨_, h2⟩ | ⟨_, h2⟩
    · have h2 := Option.some.inj h2
      subst h2
      exact hA.1
    · exact ih hA.2 h2
theorem env_ofV {P : Program} {l : List (Nat × Kd)} {ar : TypeId → Option TypeId} {ln fz dm : Nat → Bool} {fs vs : List (Nat × FSig)} (h : TabOk P (assoc l) ar) (hfs : AllC P fs) (hvs : AllV P vs) : Env P { tk := assoc l, ar := ar, fs := assoc fs, lent := ln, cs := assoc vs, fz := fz, dm := dm } :=
  ⟨h, fun _ _ hg => allC_get hfs hg, fun _ _ hg => allV_get hvs hg⟩

/-- A loop's piece in a code. -/
def PcOk (P : Program) (n : Nat) (A : Nat → Option Value) (body : Code) (x : Nat × Piece) : Prop :=
  ∃ c, (blocksOf body).filter (fun y => Nat.beq y.1 x.1) = [(x.1, .loop c)] ∧ x.2.ok ∧ PieceOk P n A (.block x.1 (.loop c)) x.2
def AllP (P : Program) (n : Nat) (A : Nat → Option Value) (body : Code) : List (Nat × Piece) → Prop
  | [] => True
  | x :: r => PcOk P n A body x ∧ AllP P n A body r
theorem allP_get {P : Program} {n : Nat} {A : Nat → Option Value} {body : Code} {id : Nat} {b : Code} {o : Piece} : ∀ {l : List (Nat × Piece)}, AllP P n A body l → (id, b) ∈ blocksOf body → assoc l id = some o → o.ok ∧ PieceOk P n A (.block id b) o := by
  intro l
  induction l with
  | nil => intro _ _ h; cases h
  | cons x l ih =>
    intro hA hb h
    simp only [assoc] at h
    rcases bif_some h with ⟨h1, h2⟩ | ⟨_, h2⟩
    · have h1 := Nat.eq_of_beq_eq_true h1
      have h2 := Option.some.inj h2
      subst h1 h2
      obtain ⟨c, hc, hok, hp⟩ := hA.1
      have : (x.1, b) ∈ (blocksOf body).filter (fun y => Nat.beq y.1 x.1) := List.mem_filter.2 ⟨hb, Nat.beq_refl _⟩
      rw [hc] at this
      simp only [List.mem_singleton, Prod.mk.injEq, true_and] at this
      subst this
      exact ⟨hok, hp⟩
    · exact ih hA.2 hb h2

def nodupB (f : Form) : Bool := decide ((f.map (·.1)).Nodup)
def outsB (o : Outs) : Bool := o.all fun x => nodupB x.2
theorem outs_ok {o : Outs} (h : outsB o = true) : Outs.ok o := fun x hx => of_decide_eq_true (List.all_eq_true.1 h x hx)

def inTmps (ps : List (Kd × Bool)) (hi : Nat) (d : Nat) : Bool := !ioAt ps d && Nat.blt d hi
theorem inTmps_ok {ps : List (Kd × Bool)} {hi d : Nat} (h : inTmps ps hi d = true) : ioAt ps d = false ∧ d < hi := by
  simp only [inTmps, Bool.and_eq_true, Bool.not_eq_true'] at h
  exact ⟨h.1, by have := h.2; rw [Nat.blt_eq] at this; exact this⟩

/-- A loop's piece, out of its rounds. -/
theorem pc_of {P : Program} {Γ : Ctx} (E : Env P Γ) (hm : P.follows .mixedOrders = true) {n : Nat} {np : List (Kd × Bool)} {A : Nat → Option Value} (hA : ∀ d, inTmps np n d = true → d < n ∧ A d = none) {inner : List (Nat × Piece)} {id : Nat} {head : Form} {outs : Outs} {body c : Code}
    (hc : (blocksOf c).filter (fun y => Nat.beq y.1 id) = [(id, .loop body)]) (hok : (nodupB head && outsB outs) = true) (hd : dstsOk (inTmps np n) body = true) (hin : AllP P n A body inner)
    {L : Nat → head.den → Option outs.den} (h0 : ∀ d, L 0 d = none) (hL : ∀ m d, L (m + 1) d = roundR Γ (assoc inner) id head outs body (L m) d) (m : Nat) : PcOk P n A c (id, ⟨head, outs, L m⟩) := by
  simp only [Bool.and_eq_true] at hok
  have h1 : (head.map (·.1)).Nodup := of_decide_eq_true hok.1
  have h2 := outs_ok hok.2
  exact ⟨body, hc, ⟨h1, h2⟩, loop_ok E hm hA ⟨h1, h2⟩ hd (fun id b o hb ho => allP_get hin hb ho) h0 hL m⟩

/-- A function's contract, out of the printed lemma. -/
theorem con_of {P : Program} {Γ : Ctx} (E : Env P Γ) (hm : P.follows .mixedOrders = true) {f : FuncId} {fn : Func} {body : Code} (hf : P.funcs[f]? = some fn) (hb : fn.body = some body) (hname : (fn.name == "runtime.NumGoroutine") = false)
    {ps : List (Kd × Bool)} {rs : List Kd} {own : Bool} {F : (Kd.tuple (ps.map (·.1))).den → Option (Kd.tuple (rs ++ (ps.filter (·.2)).map (·.1))).den} (hn : Nat.ble ps.length fn.ntmps = true) (hd : dstsOk (inTmps ps fn.ntmps) body = true)
    {Pc : List (Nat × Piece)} (hP : ∀ A : Nat → Option Value, (∀ d, inTmps ps fn.ntmps d = true → d < fn.ntmps ∧ A d = none) → AllP P fn.ntmps A body Pc)
    (hF : ∀ d, fnR Γ (assoc Pc) own ps rs fn.results.toList body d = F d) : Contract P f ⟨ps, rs, own, F⟩ :=
  fn_ok E hm hf hb hname (Nat.le_of_ble_eq_true hn) (fun d h => inTmps_ok h) hd (fun A hA id b o hb ho => allP_get (hP A hA) hb ho) (fun d r h => (hF d).trans h)
end Go.V
