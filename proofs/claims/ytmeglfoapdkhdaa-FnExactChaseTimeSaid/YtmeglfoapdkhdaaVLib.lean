/- Contracts for library functions, out of what is told of their calls. -/
import Derived.Test.YtmeglfoapdkhdaaVGen
import Derived.Below
import Derived.Calls
set_option linter.unusedVariables false
namespace Go.V
open Go.RowKit

/-- A call that gives one flat value and turns nothing old. -/
theorem post_flat {g : FSig} {w w' : World} {ψ : Nat → Option (Nat × Path)} {U : Nat → Prop} {vs : List Value} {out} {k : Kd} (hrs : g.rs = [k]) (hk : k.flat = true) (bel : Below w.heap.size w w') {v : Value} {c : List Value} {x : (Kd.tuple g.rs).den} (hx : (splitT g.rs _ out).1 = x)
    (hv : v = mkVal k c) (hlen : c.length = k.size) (hr : ∀ S : OwnS, Rep w' S (Kd.tuple g.rs) [] c x) (hio : ∀ χ, IoOk w' χ 0 g.ps vs (splitT g.rs _ out).2) : ∃ χ, Post g ψ U vs w out χ v w' := by
  refine ⟨fun _ => none, ⟨bel.os, bel.tape, bel.output, bel.size, fun b hb _ => bel.block b hb, fun b z h => (by cases h), ⟨c, ?_, ?_⟩, hio _⟩⟩
  · rw [hrs]
    show v = mkVal k (c.take k.size)
    rw [List.take_of_length_le (by omega)]
    exact hv
  · rw [hx]
    exact hr _

/-- Two strings, a truth. -/
theorem con_ssb {P : Program} {f : FuncId} {pre : ByteArray → ByteArray → Prop} {B : ByteArray → ByteArray → Bool} (he : ∀ (args : Array Value) (w : World), (callFunc f args).run P w = .ok (.enter f args) w)
    (h : ∀ (s c : ByteArray) (w : World), pre s c → Calls P f #[.string s, .string c] w fun e w' => e = .returned (.bool (B s c)) ∧ Below w.heap.size w w')
    {F : ByteArray × ByteArray × Unit → Option (Bool × Unit)} (hF : ∀ d r, F d = some r → pre d.1 d.2.1 ∧ r = (B d.1 d.2.1, ())) : Contract P f ⟨[(.str, false), (.str, false)], [.bool], true, F⟩ := by
  intro w ψ U vs d out hargs hU hψ ho
  obtain ⟨c1, r1, h1, h2, c2, r2, h3, h4, h5⟩ := hargs
  simp only [Rep] at h2 h4
  have h5 : r2 = [] := h5
  subst h2 h4 h5 h3
  subst h1
  obtain ⟨hp, hr⟩ := hF d out ho
  unfold CallsTo
  rw [he]
  refine Calls.mono (h d.1 d.2.1 w hp) fun e w' hh => ?_
  obtain ⟨rfl, bel⟩ := hh
  subst hr
  exact post_flat (k := .bool) rfl rfl bel (c := [.bool (B d.1 d.2.1)]) rfl rfl rfl (fun S => ⟨rfl, rfl⟩) (fun χ => trivial)
end Go.V
