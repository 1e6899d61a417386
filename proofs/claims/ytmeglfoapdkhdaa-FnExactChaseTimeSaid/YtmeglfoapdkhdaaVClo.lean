/- Contracts of function values, out of their functions' contracts. -/
import Derived.Test.YtmeglfoapdkhdaaVGen
set_option linter.unusedVariables false
set_option linter.unusedSimpArgs false
namespace Go.V

theorem CallsTo.mono {P : Program} {f : FuncId} {args : Array Value} {w : World} {R R' : Value → World → Prop} (h : CallsTo P f args w R) (hR : ∀ v w', R v w' → R' v w') : CallsTo P f args w R' := by
  unfold CallsTo at h ⊢
  cases hr : (callFunc f args).run P w with
  | ok x w1 =>
    rw [hr] at h
    cases x with
    | value v => exact hR _ _ h
    | enter f' args' =>
      refine Calls.mono h fun e w'' he => ?_
      cases e with
      | returned v => exact hR _ _ he
      | panicked chain => exact he.elim
      | outgrown => exact he.elim
    | row row args' => exact Rows.mono h fun v w'' p => hR _ _ p
    | _ => exact h.elim
  | halt x w1 => rw [hr] at h; exact h.elim
theorem conV_0_1_1 {P : Program} {f : Nat} {k0 c0 : Kd} {rs : List Kd} {own : Bool} {F : (k0.den × c0.den × Unit) → Option (Kd.tuple (rs ++ [])).den} (h : Contract P f ⟨[(k0, false), (c0, false)], rs, own, F⟩) :
    ContractV P ⟨[(k0, false), (.clo f (.unit) (.pair c0 (.unit)), false)], rs, own, fun (d : k0.den × ((Unit) × (c0.den × Unit)) × Unit) => F (d.1, d.2.1.2)⟩ := by
  intro w ψ U vs d out hargs hU hψ ho
  obtain ⟨x0, r0, rfl, h0, ⟨xc, rc, rfl, hc, he⟩⟩ := hargs
  have he : rc = [] := he
  subst he
  obtain ⟨y1, y2, rfl, hf, hc⟩ := hc
  refine ⟨f, _, _, [mkVal k0 x0], rfl, ?_⟩
  have key := h w ψ U [mkVal k0 x0, mkVal c0 (y2.take c0.size)] (d.1, d.2.1.2) out ⟨_, _, rfl, h0, ⟨_, _, rfl, (hc.1.move fun _ _ hb _ => hb), rfl⟩⟩ hU hψ ho
  have e : ((tupK (.unit) y1).toArray ++ [mkVal k0 x0].toArray ++ (tupK (.pair c0 (.unit)) y2).toArray) = [mkVal k0 x0, mkVal c0 (y2.take c0.size)].toArray := by simp [tupK]
  rw [e]
  exact key.mono fun v w' ⟨χ, p⟩ => ⟨χ, p.os, p.tape, p.output, p.size, p.kept, p.col, p.res, trivial⟩
theorem conV_0_1_2 {P : Program} {f : Nat} {k0 c0 c1 : Kd} {rs : List Kd} {own : Bool} {F : (k0.den × c0.den × c1.den × Unit) → Option (Kd.tuple (rs ++ [])).den} (h : Contract P f ⟨[(k0, false), (c0, false), (c1, false)], rs, own, F⟩) :
    ContractV P ⟨[(k0, false), (.clo f (.unit) (.pair c0 (.pair c1 (.unit))), false)], rs, own, fun (d : k0.den × ((Unit) × (c0.den × c1.den × Unit)) × Unit) => F (d.1, d.2.1.2)⟩ := by
  intro w ψ U vs d out hargs hU hψ ho
  obtain ⟨x0, r0, rfl, h0, ⟨xc, rc, rfl, hc, he⟩⟩ := hargs
  have he : rc = [] := he
  subst he
  obtain ⟨y1, y2, rfl, hf, hc⟩ := hc
  refine ⟨f, _, _, [mkVal k0 x0], rfl, ?_⟩
  have key := h w ψ U [mkVal k0 x0, mkVal c0 (y2.take c0.size), mkVal c1 ((y2.drop c0.size).take c1.size)] (d.1, d.2.1.2) out ⟨_, _, rfl, h0, ⟨_, _, rfl, (hc.1.move fun _ _ hb _ => hb), ⟨_, _, rfl, (hc.2.1.move fun _ _ hb _ => hb), rfl⟩⟩⟩ hU hψ ho
  have e : ((tupK (.unit) y1).toArray ++ [mkVal k0 x0].toArray ++ (tupK (.pair c0 (.pair c1 (.unit))) y2).toArray) = [mkVal k0 x0, mkVal c0 (y2.take c0.size), mkVal c1 ((y2.drop c0.size).take c1.size)].toArray := by simp [tupK]
  rw [e]
  exact key.mono fun v w' ⟨χ, p⟩ => ⟨χ, p.os, p.tape, p.output, p.size, p.kept, p.col, p.res, trivial⟩
theorem conV_0_1_3 {P : Program} {f : Nat} {k0 c0 c1 c2 : Kd} {rs : List Kd} {own : Bool} {F : (k0.den × c0.den × c1.den × c2.den × Unit) → Option (Kd.tuple (rs ++ [])).den} (h : Contract P f ⟨[(k0, false), (c0, false), (c1, false), (c2, false)], rs, own, F⟩) :
    ContractV P ⟨[(k0, false), (.clo f (.unit) (.pair c0 (.pair c1 (.pair c2 (.unit)))), false)], rs, own, fun (d : k0.den × ((Unit) × (c0.den × c1.den × c2.den × Unit)) × Unit) => F (d.1, d.2.1.2)⟩ := by
  intro w ψ U vs d out hargs hU hψ ho
  obtain ⟨x0, r0, rfl, h0, ⟨xc, rc, rfl, hc, he⟩⟩ := hargs
  have he : rc = [] := he
  subst he
  obtain ⟨y1, y2, rfl, hf, hc⟩ := hc
  refine ⟨f, _, _, [mkVal k0 x0], rfl, ?_⟩
  have key := h w ψ U [mkVal k0 x0, mkVal c0 (y2.take c0.size), mkVal c1 ((y2.drop c0.size).take c1.size), mkVal c2 (((y2.drop c0.size).drop c1.size).take c2.size)] (d.1, d.2.1.2) out ⟨_, _, rfl, h0, ⟨_, _, rfl, (hc.1.move fun _ _ hb _ => hb), ⟨_, _, rfl, (hc.2.1.move fun _ _ hb _ => hb), ⟨_, _, rfl, (hc.2.2.1.move fun _ _ hb _ => hb), rfl⟩⟩⟩⟩ hU hψ ho
  have e : ((tupK (.unit) y1).toArray ++ [mkVal k0 x0].toArray ++ (tupK (.pair c0 (.pair c1 (.pair c2 (.unit)))) y2).toArray) = [mkVal k0 x0, mkVal c0 (y2.take c0.size), mkVal c1 ((y2.drop c0.size).take c1.size), mkVal c2 (((y2.drop c0.size).drop c1.size).take c2.size)].toArray := by simp [tupK]
  rw [e]
  exact key.mono fun v w' ⟨χ, p⟩ => ⟨χ, p.os, p.tape, p.output, p.size, p.kept, p.col, p.res, trivial⟩
theorem conV_0_1_4 {P : Program} {f : Nat} {k0 c0 c1 c2 c3 : Kd} {rs : List Kd} {own : Bool} {F : (k0.den × c0.den × c1.den × c2.den × c3.den × Unit) → Option (Kd.tuple (rs ++ [])).den} (h : Contract P f ⟨[(k0, false), (c0, false), (c1, false), (c2, false), (c3, false)], rs, own, F⟩) :
    ContractV P ⟨[(k0, false), (.clo f (.unit) (.pair c0 (.pair c1 (.pair c2 (.pair c3 (.unit))))), false)], rs, own, fun (d : k0.den × ((Unit) × (c0.den × c1.den × c2.den × c3.den × Unit)) × Unit) => F (d.1, d.2.1.2)⟩ := by
  intro w ψ U vs d out hargs hU hψ ho
  obtain ⟨x0, r0, rfl, h0, ⟨xc, rc, rfl, hc, he⟩⟩ := hargs
  have he : rc = [] := he
  subst he
  obtain ⟨y1, y2, rfl, hf, hc⟩ := hc
  refine ⟨f, _, _, [mkVal k0 x0], rfl, ?_⟩
  have key := h w ψ U [mkVal k0 x0, mkVal c0 (y2.take c0.size), mkVal c1 ((y2.drop c0.size).take c1.size), mkVal c2 (((y2.drop c0.size).drop c1.size).take c2.size), mkVal c3 ((((y2.drop c0.size).drop c1.size).drop c2.size).take c3.size)] (d.1, d.2.1.2) out ⟨_, _, rfl, h0, ⟨_, _, rfl, (hc.1.move fun _ _ hb _ => hb), ⟨_, _, rfl, (hc.2.1.move fun _ _ hb _ => hb), ⟨_, _, rfl, (hc.2.2.1.move fun _ _ hb _ => hb), ⟨_, _, rfl, (hc.2.2.2.1.move fun _ _ hb _ => hb), rfl⟩⟩⟩⟩⟩ hU hψ ho
  have e : ((tupK (.unit) y1).toArray ++ [mkVal k0 x0].toArray ++ (tupK (.pair c0 (.pair c1 (.pair c2 (.pair c3 (.unit))))) y2).toArray) = [mkVal k0 x0, mkVal c0 (y2.take c0.size), mkVal c1 ((y2.drop c0.size).take c1.size), mkVal c2 (((y2.drop c0.size).drop c1.size).take c2.size), mkVal c3 ((((y2.drop c0.size).drop c1.size).drop c2.size).take c3.size)].toArray := by simp [tupK]
  rw [e]
  exact key.mono fun v w' ⟨χ, p⟩ => ⟨χ, p.os, p.tape, p.output, p.size, p.kept, p.col, p.res, trivial⟩
theorem conV_0_2_1 {P : Program} {f : Nat} {k0 k1 c0 : Kd} {rs : List Kd} {own : Bool} {F : (k0.den × k1.den × c0.den × Unit) → Option (Kd.tuple (rs ++ [])).den} (h : Contract P f ⟨[(k0, false), (k1, false), (c0, false)], rs, own, F⟩) :
    ContractV P ⟨[(k0, false), (k1, false), (.clo f (.unit) (.pair c0 (.unit)), false)], rs, own, fun (d : k0.den × k1.den × ((Unit) × (c0.den × Unit)) × Unit) => F (d.1, d.2.1, d.2.2.1.2)⟩ := by
  intro w ψ U vs d out hargs hU hψ ho
  obtain ⟨x0, r0, rfl, h0, ⟨x1, r1, rfl, h1, ⟨xc, rc, rfl, hc, he⟩⟩⟩ := hargs
  have he : rc = [] := he
  subst he
  obtain ⟨y1, y2, rfl, hf, hc⟩ := hc
  refine ⟨f, _, _, [mkVal k0 x0, mkVal k1 x1], rfl, ?_⟩
  have key := h w ψ U [mkVal k0 x0, mkVal k1 x1, mkVal c0 (y2.take c0.size)] (d.1, d.2.1, d.2.2.1.2) out ⟨_, _, rfl, h0, ⟨_, _, rfl, h1, ⟨_, _, rfl, (hc.1.move fun _ _ hb _ => hb), rfl⟩⟩⟩ hU hψ ho
  have e : ((tupK (.unit) y1).toArray ++ [mkVal k0 x0, mkVal k1 x1].toArray ++ (tupK (.pair c0 (.unit)) y2).toArray) = [mkVal k0 x0, mkVal k1 x1, mkVal c0 (y2.take c0.size)].toArray := by simp [tupK]
  rw [e]
  exact key.mono fun v w' ⟨χ, p⟩ => ⟨χ, p.os, p.tape, p.output, p.size, p.kept, p.col, p.res, trivial⟩
theorem conV_0_2_2 {P : Program} {f : Nat} {k0 k1 c0 c1 : Kd} {rs : List Kd} {own : Bool} {F : (k0.den × k1.den × c0.den × c1.den × Unit) → Option (Kd.tuple (rs ++ [])).den} (h : Contract P f ⟨[(k0, false), (k1, false), (c0, false), (c1, false)], rs, own, F⟩) :
    ContractV P ⟨[(k0, false), (k1, false), (.clo f (.unit) (.pair c0 (.pair c1 (.unit))), false)], rs, own, fun (d : k0.den × k1.den × ((Unit) × (c0.den × c1.den × Unit)) × Unit) => F (d.1, d.2.1, d.2.2.1.2)⟩ := by
  intro w ψ U vs d out hargs hU hψ ho
  obtain ⟨x0, r0, rfl, h0, ⟨x1, r1, rfl, h1, ⟨xc, rc, rfl, hc, he⟩⟩⟩ := hargs
  have he : rc = [] := he
  subst he
  obtain ⟨y1, y2, rfl, hf, hc⟩ := hc
  refine ⟨f, _, _, [mkVal k0 x0, mkVal k1 x1], rfl, ?_⟩
  have key := h w ψ U [mkVal k0 x0, mkVal k1 x1, mkVal c0 (y2.take c0.size), mkVal c1 ((y2.drop c0.size).take c1.size)] (d.1, d.2.1, d.2.2.1.2) out ⟨_, _, rfl, h0, ⟨_, _, rfl, h1, ⟨_, _, rfl, (hc.1.move fun _ _ hb _ => hb), ⟨_, _, rfl, (hc.2.1.move fun _ _ hb _ => hb), rfl⟩⟩⟩⟩ hU hψ ho
  have e : ((tupK (.unit) y1).toArray ++ [mkVal k0 x0, mkVal k1 x1].toArray ++ (tupK (.pair c0 (.pair c1 (.unit))) y2).toArray) = [mkVal k0 x0, mkVal k1 x1, mkVal c0 (y2.take c0.size), mkVal c1 ((y2.drop c0.size).take c1.size)].toArray := by simp [tupK]
  rw [e]
  exact key.mono fun v w' ⟨χ, p⟩ => ⟨χ, p.os, p.tape, p.output, p.size, p.kept, p.col, p.res, trivial⟩
theorem conV_1_1_0 {P : Program} {f : Nat} {u0 k0 : Kd} {rs : List Kd} {own : Bool} {F : (u0.den × k0.den × Unit) → Option (Kd.tuple (rs ++ [])).den} (h : Contract P f ⟨[(u0, false), (k0, false)], rs, own, F⟩) :
    ContractV P ⟨[(k0, false), (.clo f (.pair u0 (.unit)) (.unit), false)], rs, own, fun (d : k0.den × ((u0.den × Unit) × (Unit)) × Unit) => F (d.2.1.1.1, d.1, d.2.1.2)⟩ := by
  intro w ψ U vs d out hargs hU hψ ho
  obtain ⟨x0, r0, rfl, h0, ⟨xc, rc, rfl, hc, he⟩⟩ := hargs
  have he : rc = [] := he
  subst he
  obtain ⟨y1, y2, rfl, hf, hc⟩ := hc
  refine ⟨f, _, _, [mkVal k0 x0], rfl, ?_⟩
  have key := h w ψ U [mkVal u0 (y1.take u0.size), mkVal k0 x0] (d.2.1.1.1, d.1, d.2.1.2) out ⟨_, _, rfl, (hf.1.move fun _ _ hb _ => hb), ⟨_, _, rfl, h0, rfl⟩⟩ hU hψ ho
  have e : ((tupK (.pair u0 (.unit)) y1).toArray ++ [mkVal k0 x0].toArray ++ (tupK (.unit) y2).toArray) = [mkVal u0 (y1.take u0.size), mkVal k0 x0].toArray := by simp [tupK]
  rw [e]
  exact key.mono fun v w' ⟨χ, p⟩ => ⟨χ, p.os, p.tape, p.output, p.size, p.kept, p.col, p.res, trivial⟩
theorem conV_1_2_0 {P : Program} {f : Nat} {u0 k0 k1 : Kd} {rs : List Kd} {own : Bool} {F : (u0.den × k0.den × k1.den × Unit) → Option (Kd.tuple (rs ++ [])).den} (h : Contract P f ⟨[(u0, false), (k0, false), (k1, false)], rs, own, F⟩) :
    ContractV P ⟨[(k0, false), (k1, false), (.clo f (.pair u0 (.unit)) (.unit), false)], rs, own, fun (d : k0.den × k1.den × ((u0.den × Unit) × (Unit)) × Unit) => F (d.2.2.1.1.1, d.1, d.2.1, d.2.2.1.2)⟩ := by
  intro w ψ U vs d out hargs hU hψ ho
  obtain ⟨x0, r0, rfl, h0, ⟨x1, r1, rfl, h1, ⟨xc, rc, rfl, hc, he⟩⟩⟩ := hargs
  have he : rc = [] := he
  subst he
  obtain ⟨y1, y2, rfl, hf, hc⟩ := hc
  refine ⟨f, _, _, [mkVal k0 x0, mkVal k1 x1], rfl, ?_⟩
  have key := h w ψ U [mkVal u0 (y1.take u0.size), mkVal k0 x0, mkVal k1 x1] (d.2.2.1.1.1, d.1, d.2.1, d.2.2.1.2) out ⟨_, _, rfl, (hf.1.move fun _ _ hb _ => hb), ⟨_, _, rfl, h0, ⟨_, _, rfl, h1, rfl⟩⟩⟩ hU hψ ho
  have e : ((tupK (.pair u0 (.unit)) y1).toArray ++ [mkVal k0 x0, mkVal k1 x1].toArray ++ (tupK (.unit) y2).toArray) = [mkVal u0 (y1.take u0.size), mkVal k0 x0, mkVal k1 x1].toArray := by simp [tupK]
  rw [e]
  exact key.mono fun v w' ⟨χ, p⟩ => ⟨χ, p.os, p.tape, p.output, p.size, p.kept, p.col, p.res, trivial⟩
theorem conV_0_1_0 {P : Program} {f : Nat} {k0 : Kd} {rs : List Kd} {own : Bool} {F : (k0.den × Unit) → Option (Kd.tuple (rs ++ [])).den} (h : Contract P f ⟨[(k0, false)], rs, own, F⟩) :
    ContractV P ⟨[(k0, false), (.clo f (.unit) (.unit), false)], rs, own, fun (d : k0.den × ((Unit) × (Unit)) × Unit) => F (d.1, d.2.1.2)⟩ := by
  intro w ψ U vs d out hargs hU hψ ho
  obtain ⟨x0, r0, rfl, h0, ⟨xc, rc, rfl, hc, he⟩⟩ := hargs
  have he : rc = [] := he
  subst he
  obtain ⟨y1, y2, rfl, hf, hc⟩ := hc
  refine ⟨f, _, _, [mkVal k0 x0], rfl, ?_⟩
  have key := h w ψ U [mkVal k0 x0] (d.1, d.2.1.2) out ⟨_, _, rfl, h0, rfl⟩ hU hψ ho
  have e : ((tupK (.unit) y1).toArray ++ [mkVal k0 x0].toArray ++ (tupK (.unit) y2).toArray) = [mkVal k0 x0].toArray := by simp [tupK]
  rw [e]
  exact key.mono fun v w' ⟨χ, p⟩ => ⟨χ, p.os, p.tape, p.output, p.size, p.kept, p.col, p.res, trivial⟩
theorem conV_0_2_0 {P : Program} {f : Nat} {k0 k1 : Kd} {rs : List Kd} {own : Bool} {F : (k0.den × k1.den × Unit) → Option (Kd.tuple (rs ++ [])).den} (h : Contract P f ⟨[(k0, false), (k1, false)], rs, own, F⟩) :
    ContractV P ⟨[(k0, false), (k1, false), (.clo f (.unit) (.unit), false)], rs, own, fun (d : k0.den × k1.den × ((Unit) × (Unit)) × Unit) => F (d.1, d.2.1, d.2.2.1.2)⟩ := by
  intro w ψ U vs d out hargs hU hψ ho
  obtain ⟨x0, r0, rfl, h0, ⟨x1, r1, rfl, h1, ⟨xc, rc, rfl, hc, he⟩⟩⟩ := hargs
  have he : rc = [] := he
  subst he
  obtain ⟨y1, y2, rfl, hf, hc⟩ := hc
  refine ⟨f, _, _, [mkVal k0 x0, mkVal k1 x1], rfl, ?_⟩
  have key := h w ψ U [mkVal k0 x0, mkVal k1 x1] (d.1, d.2.1, d.2.2.1.2) out ⟨_, _, rfl, h0, ⟨_, _, rfl, h1, rfl⟩⟩ hU hψ ho
  have e : ((tupK (.unit) y1).toArray ++ [mkVal k0 x0, mkVal k1 x1].toArray ++ (tupK (.unit) y2).toArray) = [mkVal k0 x0, mkVal k1 x1].toArray := by simp [tupK]
  rw [e]
  exact key.mono fun v w' ⟨χ, p⟩ => ⟨χ, p.os, p.tape, p.output, p.size, p.kept, p.col, p.res, trivial⟩
end Go.V
