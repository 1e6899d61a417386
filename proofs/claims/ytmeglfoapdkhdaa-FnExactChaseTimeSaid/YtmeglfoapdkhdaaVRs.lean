/- slices.Repeat at one number: its contract. -/
import Derived.Test.YtmeglfoapdkhdaaVRq
import Derived.Test.YtmeglfoapdkhdaaVLib
import Derived.Test.YtmeglfoapdkhdaaVS0
import Derived.Shelf.Lays
set_option linter.unusedVariables false
set_option linter.unusedSimpArgs false
set_option maxRecDepth 100000
namespace Go.V.W
open Go.Proofs Go.RowKit Go.Shelf

theorem rep_calls (x : Int) (n : Nat) (h1 : 1 ≤ n) (h8 : n ≤ 8) (w : World) (b off cap : Nat) (hx : w.cell? ⟨b, off, none⟩ = some (.int .i64 x)) : Calls Try.prog 138 #[.slice (some ⟨b, off, none⟩) 1 cap, .int .i64 (n : Int)] w fun e w' => ∃ g T, e = .returned (.slice (some ⟨g, 0, none⟩) n n) ∧ w.heap.size ≤ g ∧ w'.heap[g]? = some (.cells (List.replicate n (.int .i64 x)).toArray T (0, 0)) ∧ Below w.heap.size w w' := by
  have : n = 1 ∨ n = 2 ∨ n = 3 ∨ n = 4 ∨ n = 5 ∨ n = 6 ∨ n = 7 ∨ n = 8 := by omega
  rcases this with rfl | rfl | rfl | rfl | rfl | rfl | rfl | rfl
  · exact rep1 x w b off cap hx
  · exact rep2 x w b off cap hx
  · exact rep3 x w b off cap hx
  · exact rep4 x w b off cap hx
  · exact rep5 x w b off cap hx
  · exact rep6 x w b off cap hx
  · exact rep7 x w b off cap hx
  · exact rep8 x w b off cap hx
theorem con_repeat {P : Program} {f : FuncId} (he : ∀ (args : Array Value) (w : World), (callFunc f args).run P w = .ok (.enter f args) w)
    (h : ∀ (x : Int) (n : Nat), 1 ≤ n → n ≤ 8 → ∀ (w : World) (b off cap : Nat), w.cell? ⟨b, off, none⟩ = some (.int .i64 x) → Calls P f #[.slice (some ⟨b, off, none⟩) 1 cap, .int .i64 (n : Int)] w fun e w' => ∃ g T, e = .returned (.slice (some ⟨g, 0, none⟩) n n) ∧ w.heap.size ≤ g ∧ w'.heap[g]? = some (.cells (List.replicate n (.int .i64 x)).toArray T (0, 0)) ∧ Below w.heap.size w w') :
    Contract P f ⟨[(.slice (.int .i64), false), (.int .i64, false)], [.slice (.int .i64)], true, G_repeat⟩ := by
  intro w ψ U vs d out hargs hU hψ ho
  obtain ⟨l, n, u⟩ := d
  have ho : G_repeat (l, n, u) = some out := ho
  unfold G_repeat at ho
  split at ho
  · rename_i hc
    simp only [Bool.and_eq_true, decide_eq_true_eq] at hc
    obtain ⟨⟨hl, h1⟩, h8⟩ := hc
    have h1 : 1 ≤ n := h1
    have h8 : n ≤ 8 := h8
    have ho := Option.some.inj ho
    subst ho
    obtain ⟨c1, r1, rfl, k2, c2, r2, rfl, k4, k5⟩ := hargs
    have k5 : r2 = [] := k5
    subst k5
    have k4 : c2 = [.int .i64 n] := k4
    subst k4
    obtain ⟨x, rfl⟩ : ∃ x : Int, l = [x] := by
      match l, hl with
      | [x], _ => exact ⟨x, rfl⟩
    simp only [Rep] at k2
    rcases k2 with ⟨_, k2⟩ | ⟨b, off, cap, rfl, kc, kS, kb, ke⟩
    · cases k2
    · have kx := ke 0 (by simp)
      simp only [Rep, Nat.zero_mul, Nat.add_zero, List.get_eq_getElem, List.getElem_cons_zero, Kd.size] at kx
      have hcell : w.cell? ⟨b, off, none⟩ = some (.int .i64 x) := by
        unfold cellsAt at kx
        split at kx
        · rename_i cs T fr hb
          simp only [World.cell?, hb]
          have h0 : ((cs.toList.drop off).take 1)[0]? = some (.int .i64 x) := by rw [kx]; rfl
          rw [List.getElem?_take, List.getElem?_drop] at h0
          simpa using h0
        · cases kx
      have hn : @Eq Int n ((Int.toNat n : Nat) : Int) := by omega
      have hcalls := h x n.toNat (by omega) (by omega) w b off cap hcell
      rw [← hn] at hcalls
      unfold CallsTo
      show match (callFunc f #[.slice (some ⟨b, off, none⟩) 1 cap, .int .i64 n]).run P w with
        | .ok (.value v) w' => _
        | .ok (.enter f args) w' => _
        | .ok (.row row args) w' => _
        | _ => False
      rw [he]
      refine Calls.mono hcalls fun e w' hh => ?_
      obtain ⟨g, T, rfl, hg, hrow, bel⟩ := hh
      refine ⟨fun b => if b = g then some (.res [.l]) else none, ⟨bel.os, bel.tape, bel.output, bel.size, fun b hb _ => bel.block b hb, fun b z h => ?_, ⟨[.slice (some ⟨g, 0, none⟩) n.toNat n.toNat], rfl, ?_⟩, trivial⟩⟩
      · split at h
        · rename_i e
          subst e
          exact ⟨.inl hg, _, _, hrow⟩
        · cases h
      · refine ⟨?_, rfl⟩
        have hlen : (List.replicate n.toNat x).length = n.toNat := by simp
        refine .inr ⟨g, 0, n.toNat, ?_, ?_, ?_, ⟨_, _, _, hrow, ?_⟩, fun i hi => ?_⟩
        · show [Value.slice (some ⟨g, 0, none⟩) n.toNat n.toNat] = [Value.slice (some ⟨g, 0, none⟩) (List.replicate n.toNat x).length n.toNat]
          rw [hlen]
        · show (List.replicate n.toNat x).length ≤ n.toNat
          rw [hlen]
          exact Nat.le_refl _
        · show (if g = g then some (Lab.res [.l]) else none) = some (.res ([] ++ [.l]))
          simp
        · simp [Kd.size]
        · have hi : i < (List.replicate n.toNat x).length := hi
          show cellsAt w' g (0 + i * 1) 1 = [.int .i64 ((List.replicate n.toNat x).get ⟨i, hi⟩)]
          rw [hlen] at hi
          unfold cellsAt
          rw [hrow]
          simp only [List.get_eq_getElem, List.getElem_replicate, List.drop_replicate, List.take_replicate]
          rw [show min 1 (n.toNat - (0 + i * 1)) = 1 by omega]
          rfl
  · cases ho
theorem C_repeat : Contract Try.prog 138 ⟨[(.slice (.int .i64), false), (.int .i64, false)], [.slice (.int .i64)], true, G_repeat⟩ :=
  con_repeat (enters_of Try.func138 (by kernel_rfl) rfl) rep_calls
end Go.V.W
