/- slices.Repeat at one number: walked for each length. -/
import Derived.WalkKit
import Derived.LoopN
import Derived.Deep.DeepFit
import Derived.Test.YtmeglfoapdkhdaaVRp
set_option linter.unusedVariables false
set_option linter.unusedSimpArgs false
namespace Go.V.W
open Go.Proofs Go.RowKit
set_option maxRecDepth 1000000 in
theorem mul64 (n : Nat) (hn : n ≤ 8) (w : World) : Calls Try.prog 167 #[.int .u64 1, .int .u64 n] w fun e w' => e = .returned (.tuple #[.int .u64 0, .int .u64 n]) ∧ w' = w := by
  have : n = 0 ∨ n = 1 ∨ n = 2 ∨ n = 3 ∨ n = 4 ∨ n = 5 ∨ n = 6 ∨ n = 7 ∨ n = 8 := by omega
  rcases this with rfl | rfl | rfl | rfl | rfl | rfl | rfl | rfl | rfl <;>
  (go_enter Try.func167, Try.ntmps167
   go_wp2
   go_ret2
   exact ⟨rfl, rfl⟩)
set_option maxRecDepth 1000000 in
theorem mul153 (n : Nat) (hn : n ≤ 8) (w : World) : Calls Try.prog 153 #[.int .u64 1, .int .u64 n] w fun e w' => e = .returned (.tuple #[.int .u64 0, .int .u64 n]) ∧ w' = w := by
  have hm := mul64 n hn w
  go_enter Try.func153, Try.ntmps153
  go_wp2_with (go_at_call 167; go_fit hm; rintro e w' ⟨rfl, hw⟩; rw [hw])
  go_ret2
  exact ⟨rfl, rfl⟩
theorem made1 (z : Value) (n : Nat) : madeCells #[z] n = (List.replicate n z).toArray := by
  apply Array.ext
  · simp [madeCells]
  · intro i h1 h2
    simp [madeCells, Nat.mod_one]
theorem info3 : (Try.prog.info? 3).map (fun i => (i.zero, i.size, i.bytes)) = some (some (.int .i64 0), 1, 8) := by kernel_rfl
theorem mk3 (n : Nat) (hn : n ≤ 8) (w : World) : (Instr.makeSlice 32 (.int .i64 (n : Int)) (.int .i64 (n : Int))).run Try.prog w = .ok (.slice (some ⟨w.heap.size, 0, none⟩) n n) (w.alloc (.cells (List.replicate n (.int .i64 0)).toArray 3)) := by
  rw [← made1]
  exact run_make_row' 32 3 (.int .i64 0) 8 Try.underlying32 info3 rfl .i64 .i64 n (by omega) (by omega) w
theorem src1 {w : World} {a : Addr} {v : Value} (h : w.cell? a = some v) : ∀ j u, [v][j]? = some u → w.cell? (a.add j) = some u := by
  intro j u hj
  match j with
  | 0 =>
    simp only [List.length_cons, List.length_nil, Nat.zero_add, Nat.lt_add_one, List.getElem?_eq_getElem, List.getElem_cons_zero, Option.some.injEq] at hj
    subst hj
    exact h
  | j + 1 => simp at hj
theorem cell_alloc {w : World} {a : Addr} {v : Value} (h : w.cell? a = some v) (o : Obj) : (w.alloc o).cell? a = some v := by
  have hlt : a.block < w.heap.size := by
    unfold World.cell? at h
    cases hb : w.heap[a.block]? with
    | none => rw [hb] at h; cases h
    | some x => exact (Array.getElem?_eq_some_iff.1 hb).1
  unfold World.cell? at h ⊢
  rw [Below.heap_alloc w o a.block hlt]
  exact h
set_option maxRecDepth 1000000 in
set_option maxHeartbeats 4000000 in
theorem rep1 (x : Int) (w : World) (b off cap : Nat) (hx : w.cell? ⟨b, off, none⟩ = some (.int .i64 x)) : Calls Try.prog 138 #[.slice (some ⟨b, off, none⟩) 1 cap, .int .i64 1] w fun e w' => ∃ g T, e = .returned (.slice (some ⟨g, 0, none⟩) 1 1) ∧ w.heap.size ≤ g ∧ w'.heap[g]? = some (.cells (List.replicate 1 (.int .i64 x)).toArray T (0, 0)) ∧ Below w.heap.size w w' := by
  have hm := mul153 1 (by omega) w
  obtain ⟨W1, hW1⟩ : ∃ W1, W1 = w.alloc (.cells (List.replicate 1 (.int .i64 0)).toArray 3) := ⟨_, rfl⟩
  have hk : (Instr.makeSlice 32 (.int .i64 1) (.int .i64 1)).run Try.prog w = .ok (.slice (some ⟨w.heap.size, 0, none⟩) 1 1) W1 := by
    rw [hW1]
    exact mk3 1 (by omega) w
  have hB0 : Hid (Below w.heap.size w W1) := hW1 ▸ (Below.refl _ w).alloc (Nat.le_refl _) _
  have hG0 : Hid (W1.heap[w.heap.size]? = some (.cells ([.int .i64 0] : List Value).toArray 3 (0, 0))) := by
    subst hW1
    show _ = _
    exact heap_alloc_new w _
  have hs0 : Hid (∀ j v, [Value.int .i64 x][j]? = some v → W1.cell? ((⟨b, off, none⟩ : Addr).add j) = some v) := src1 (hW1 ▸ cell_alloc hx _)
  clear hW1
  go_enter Try.func138, Try.ntmps138
  go_wp2_with (first
    | (go_at_call 153; go_fit hm; rintro e w' ⟨rfl, hw⟩; rw [hw])
    | (refine wpList_copy_splice (o := ⟨some 33, _, _, _, _, _⟩) rfl (.tmp 31) (.tmp 32) 32 32 rfl 3 Try.underlying32 sz3 (some ⟨w.heap.size, 0, none⟩) (some ⟨b, off, none⟩) 1 1 1 cap rfl rfl w.heap.size 0 [.int .i64 0] 3 hG0.out [.int .i64 x] rfl (fun _ => ⟨rfl, _, rfl, hs0.out⟩) (by simp) (by simp [Value.oneCell']) w.heap.size w hB0.out (Nat.le_refl _) ?_; intro w2 HG2 hB2))
  have hG : Hid (w2.heap[w.heap.size]? = some (.cells ([.int .i64 x] : List Value).toArray 3 (0, 0))) := HG2.out
  clear HG2 hk hs0 hG0 hB0 hm
  refine wp_loop_rounds 1 ?_
  rw [rounds_succ]
  go_wp2_with (fail)
  go_ret
  first
    | exact ⟨_, _, rfl, Nat.le_refl _, hG.out, hB2⟩
    | exact ⟨_, rfl, Nat.le_refl _, ⟨_, hG.out⟩, hB2⟩
set_option maxRecDepth 1000000 in
set_option maxHeartbeats 4000000 in
theorem rep2 (x : Int) (w : World) (b off cap : Nat) (hx : w.cell? ⟨b, off, none⟩ = some (.int .i64 x)) : Calls Try.prog 138 #[.slice (some ⟨b, off, none⟩) 1 cap, .int .i64 2] w fun e w' => ∃ g T, e = .returned (.slice (some ⟨g, 0, none⟩) 2 2) ∧ w.heap.size ≤ g ∧ w'.heap[g]? = some (.cells (List.replicate 2 (.int .i64 x)).toArray T (0, 0)) ∧ Below w.heap.size w w' := by
  have hm := mul153 2 (by omega) w
  obtain ⟨W1, hW1⟩ : ∃ W1, W1 = w.alloc (.cells (List.replicate 2 (.int .i64 0)).toArray 3) := ⟨_, rfl⟩
  have hk : (Instr.makeSlice 32 (.int .i64 2) (.int .i64 2)).run Try.prog w = .ok (.slice (some ⟨w.heap.size, 0, none⟩) 2 2) W1 := by
    rw [hW1]
    exact mk3 2 (by omega) w
  have hB0 : Hid (Below w.heap.size w W1) := hW1 ▸ (Below.refl _ w).alloc (Nat.le_refl _) _
  have hG0 : Hid (W1.heap[w.heap.size]? = some (.cells ([.int .i64 0, .int .i64 0] : List Value).toArray 3 (0, 0))) := by
    subst hW1
    show _ = _
    exact heap_alloc_new w _
  have hs0 : Hid (∀ j v, [Value.int .i64 x][j]? = some v → W1.cell? ((⟨b, off, none⟩ : Addr).add j) = some v) := src1 (hW1 ▸ cell_alloc hx _)
  clear hW1
  go_enter Try.func138, Try.ntmps138
  go_wp2_with (first
    | (go_at_call 153; go_fit hm; rintro e w' ⟨rfl, hw⟩; rw [hw])
    | (refine wpList_copy_splice (o := ⟨some 33, _, _, _, _, _⟩) rfl (.tmp 31) (.tmp 32) 32 32 rfl 3 Try.underlying32 sz3 (some ⟨w.heap.size, 0, none⟩) (some ⟨b, off, none⟩) 2 2 1 cap rfl rfl w.heap.size 0 [.int .i64 0, .int .i64 0] 3 hG0.out [.int .i64 x] rfl (fun _ => ⟨rfl, _, rfl, hs0.out⟩) (by simp) (by simp [Value.oneCell']) w.heap.size w hB0.out (Nat.le_refl _) ?_; intro w2 HG2 hB2))
  have hG : Hid (w2.heap[w.heap.size]? = some (.cells ([.int .i64 x, .int .i64 0] : List Value).toArray 3 (0, 0))) := HG2.out
  clear HG2 hk hs0 hG0 hB0 hm
  refine wp_loop_rounds 2 ?_
  rw [rounds_succ]
  go_wp2_with (fail)
  refine reg9x (by kernel_rfl) (g := w.heap.size) (n := 2) (m := 1) (c := 1) (xi := x) (zi := 0) (T := 3) (L := [.int .i64 x, .int .i64 0]) (L' := [.int .i64 x, .int .i64 x]) _ rfl (fun _ => rfl) rfl rfl (by omega) (by omega) (by omega) rfl rfl rfl hG.out hB2 (Nat.le_refl _) rfl ?_
  intro w3 hG3 hB3
  clear hG hB2
  have hG := hG3
  have hB2 := hB3
  clear hG3 hB3
  simp only [Exit.inBlock, Exit.then, rounds_succ, val, Fv]
  go_wp2_with (fail)
  go_ret
  first
    | exact ⟨_, _, rfl, Nat.le_refl _, hG.out, hB2⟩
    | exact ⟨_, rfl, Nat.le_refl _, ⟨_, hG.out⟩, hB2⟩
set_option maxRecDepth 1000000 in
set_option maxHeartbeats 4000000 in
theorem rep3 (x : Int) (w : World) (b off cap : Nat) (hx : w.cell? ⟨b, off, none⟩ = some (.int .i64 x)) : Calls Try.prog 138 #[.slice (some ⟨b, off, none⟩) 1 cap, .int .i64 3] w fun e w' => ∃ g T, e = .returned (.slice (some ⟨g, 0, none⟩) 3 3) ∧ w.heap.size ≤ g ∧ w'.heap[g]? = some (.cells (List.replicate 3 (.int .i64 x)).toArray T (0, 0)) ∧ Below w.heap.size w w' := by
  have hm := mul153 3 (by omega) w
  obtain ⟨W1, hW1⟩ : ∃ W1, W1 = w.alloc (.cells (List.replicate 3 (.int .i64 0)).toArray 3) := ⟨_, rfl⟩
  have hk : (Instr.makeSlice 32 (.int .i64 3) (.int .i64 3)).run Try.prog w = .ok (.slice (some ⟨w.heap.size, 0, none⟩) 3 3) W1 := by
    rw [hW1]
    exact mk3 3 (by omega) w
  have hB0 : Hid (Below w.heap.size w W1) := hW1 ▸ (Below.refl _ w).alloc (Nat.le_refl _) _
  have hG0 : Hid (W1.heap[w.heap.size]? = some (.cells ([.int .i64 0, .int .i64 0, .int .i64 0] : List Value).toArray 3 (0, 0))) := by
    subst hW1
    show _ = _
    exact heap_alloc_new w _
  have hs0 : Hid (∀ j v, [Value.int .i64 x][j]? = some v → W1.cell? ((⟨b, off, none⟩ : Addr).add j) = some v) := src1 (hW1 ▸ cell_alloc hx _)
  clear hW1
  go_enter Try.func138, Try.ntmps138
  go_wp2_with (first
    | (go_at_call 153; go_fit hm; rintro e w' ⟨rfl, hw⟩; rw [hw])
    | (refine wpList_copy_splice (o := ⟨some 33, _, _, _, _, _⟩) rfl (.tmp 31) (.tmp 32) 32 32 rfl 3 Try.underlying32 sz3 (some ⟨w.heap.size, 0, none⟩) (some ⟨b, off, none⟩) 3 3 1 cap rfl rfl w.heap.size 0 [.int .i64 0, .int .i64 0, .int .i64 0] 3 hG0.out [.int .i64 x] rfl (fun _ => ⟨rfl, _, rfl, hs0.out⟩) (by simp) (by simp [Value.oneCell']) w.heap.size w hB0.out (Nat.le_refl _) ?_; intro w2 HG2 hB2))
  have hG : Hid (w2.heap[w.heap.size]? = some (.cells ([.int .i64 x, .int .i64 0, .int .i64 0] : List Value).toArray 3 (0, 0))) := HG2.out
  clear HG2 hk hs0 hG0 hB0 hm
  refine wp_loop_rounds 3 ?_
  rw [rounds_succ]
  go_wp2_with (fail)
  refine reg9x (by kernel_rfl) (g := w.heap.size) (n := 3) (m := 1) (c := 1) (xi := x) (zi := 0) (T := 3) (L := [.int .i64 x, .int .i64 0, .int .i64 0]) (L' := [.int .i64 x, .int .i64 x, .int .i64 0]) _ rfl (fun _ => rfl) rfl rfl (by omega) (by omega) (by omega) rfl rfl rfl hG.out hB2 (Nat.le_refl _) rfl ?_
  intro w3 hG3 hB3
  clear hG hB2
  have hG := hG3
  have hB2 := hB3
  clear hG3 hB3
  simp only [Exit.inBlock, Exit.then, rounds_succ, val, Fv]
  go_wp2_with (fail)
  refine reg9x (by kernel_rfl) (g := w.heap.size) (n := 3) (m := 2) (c := 1) (xi := x) (zi := 0) (T := 3) (L := [.int .i64 x, .int .i64 x, .int .i64 0]) (L' := [.int .i64 x, .int .i64 x, .int .i64 x]) _ rfl (fun _ => rfl) rfl rfl (by omega) (by omega) (by omega) rfl rfl rfl hG.out hB2 (Nat.le_refl _) rfl ?_
  intro w3 hG3 hB3
  clear hG hB2
  have hG := hG3
  have hB2 := hB3
  clear hG3 hB3
  simp only [Exit.inBlock, Exit.then, rounds_succ, val, Fv]
  go_wp2_with (fail)
  go_ret
  first
    | exact ⟨_, _, rfl, Nat.le_refl _, hG.out, hB2⟩
    | exact ⟨_, rfl, Nat.le_refl _, ⟨_, hG.out⟩, hB2⟩
set_option maxRecDepth 1000000 in
set_option maxHeartbeats 4000000 in
theorem rep4 (x : Int) (w : World) (b off cap : Nat) (hx : w.cell? ⟨b, off, none⟩ = some (.int .i64 x)) : Calls Try.prog 138 #[.slice (some ⟨b, off, none⟩) 1 cap, .int .i64 4] w fun e w' => ∃ g T, e = .returned (.slice (some ⟨g, 0, none⟩) 4 4) ∧ w.heap.size ≤ g ∧ w'.heap[g]? = some (.cells (List.replicate 4 (.int .i64 x)).toArray T (0, 0)) ∧ Below w.heap.size w w' := by
  have hm := mul153 4 (by omega) w
  obtain ⟨W1, hW1⟩ : ∃ W1, W1 = w.alloc (.cells (List.replicate 4 (.int .i64 0)).toArray 3) := ⟨_, rfl⟩
  have hk : (Instr.makeSlice 32 (.int .i64 4) (.int .i64 4)).run Try.prog w = .ok (.slice (some ⟨w.heap.size, 0, none⟩) 4 4) W1 := by
    rw [hW1]
    exact mk3 4 (by omega) w
  have hB0 : Hid (Below w.heap.size w W1) := hW1 ▸ (Below.refl _ w).alloc (Nat.le_refl _) _
  have hG0 : Hid (W1.heap[w.heap.size]? = some (.cells ([.int .i64 0, .int .i64 0, .int .i64 0, .int .i64 0] : List Value).toArray 3 (0, 0))) := by
    subst hW1
    show _ = _
    exact heap_alloc_new w _
  have hs0 : Hid (∀ j v, [Value.int .i64 x][j]? = some v → W1.cell? ((⟨b, off, none⟩ : Addr).add j) = some v) := src1 (hW1 ▸ cell_alloc hx _)
  clear hW1
  go_enter Try.func138, Try.ntmps138
  go_wp2_with (first
    | (go_at_call 153; go_fit hm; rintro e w' ⟨rfl, hw⟩; rw [hw])
    | (refine wpList_copy_splice (o := ⟨some 33, _, _, _, _, _⟩) rfl (.tmp 31) (.tmp 32) 32 32 rfl 3 Try.underlying32 sz3 (some ⟨w.heap.size, 0, none⟩) (some ⟨b, off, none⟩) 4 4 1 cap rfl rfl w.heap.size 0 [.int .i64 0, .int .i64 0, .int .i64 0, .int .i64 0] 3 hG0.out [.int .i64 x] rfl (fun _ => ⟨rfl, _, rfl, hs0.out⟩) (by simp) (by simp [Value.oneCell']) w.heap.size w hB0.out (Nat.le_refl _) ?_; intro w2 HG2 hB2))
  have hG : Hid (w2.heap[w.heap.size]? = some (.cells ([.int .i64 x, .int .i64 0, .int .i64 0, .int .i64 0] : List Value).toArray 3 (0, 0))) := HG2.out
  clear HG2 hk hs0 hG0 hB0 hm
  refine wp_loop_rounds 3 ?_
  rw [rounds_succ]
  go_wp2_with (fail)
  refine reg9x (by kernel_rfl) (g := w.heap.size) (n := 4) (m := 1) (c := 1) (xi := x) (zi := 0) (T := 3) (L := [.int .i64 x, .int .i64 0, .int .i64 0, .int .i64 0]) (L' := [.int .i64 x, .int .i64 x, .int .i64 0, .int .i64 0]) _ rfl (fun _ => rfl) rfl rfl (by omega) (by omega) (by omega) rfl rfl rfl hG.out hB2 (Nat.le_refl _) rfl ?_
  intro w3 hG3 hB3
  clear hG hB2
  have hG := hG3
  have hB2 := hB3
  clear hG3 hB3
  simp only [Exit.inBlock, Exit.then, rounds_succ, val, Fv]
  go_wp2_with (fail)
  refine reg9x (by kernel_rfl) (g := w.heap.size) (n := 4) (m := 2) (c := 2) (xi := x) (zi := 0) (T := 3) (L := [.int .i64 x, .int .i64 x, .int .i64 0, .int .i64 0]) (L' := [.int .i64 x, .int .i64 x, .int .i64 x, .int .i64 x]) _ rfl (fun _ => rfl) rfl rfl (by omega) (by omega) (by omega) rfl rfl rfl hG.out hB2 (Nat.le_refl _) rfl ?_
  intro w3 hG3 hB3
  clear hG hB2
  have hG := hG3
  have hB2 := hB3
  clear hG3 hB3
  simp only [Exit.inBlock, Exit.then, rounds_succ, val, Fv]
  go_wp2_with (fail)
  go_ret
  first
    | exact ⟨_, _, rfl, Nat.le_refl _, hG.out, hB2⟩
    | exact ⟨_, rfl, Nat.le_refl _, ⟨_, hG.out⟩, hB2⟩
set_option maxRecDepth 1000000 in
set_option maxHeartbeats 4000000 in
theorem rep5 (x : Int) (w : World) (b off cap : Nat) (hx : w.cell? ⟨b, off, none⟩ = some (.int .i64 x)) : Calls Try.prog 138 #[.slice (some ⟨b, off, none⟩) 1 cap, .int .i64 5] w fun e w' => ∃ g T, e = .returned (.slice (some ⟨g, 0, none⟩) 5 5) ∧ w.heap.size ≤ g ∧ w'.heap[g]? = some (.cells (List.replicate 5 (.int .i64 x)).toArray T (0, 0)) ∧ Below w.heap.size w w' := by
  have hm := mul153 5 (by omega) w
  obtain ⟨W1, hW1⟩ : ∃ W1, W1 = w.alloc (.cells (List.replicate 5 (.int .i64 0)).toArray 3) := ⟨_, rfl⟩
  have hk : (Instr.makeSlice 32 (.int .i64 5) (.int .i64 5)).run Try.prog w = .ok (.slice (some ⟨w.heap.size, 0, none⟩) 5 5) W1 := by
    rw [hW1]
    exact mk3 5 (by omega) w
  have hB0 : Hid (Below w.heap.size w W1) := hW1 ▸ (Below.refl _ w).alloc (Nat.le_refl _) _
  have hG0 : Hid (W1.heap[w.heap.size]? = some (.cells ([.int .i64 0, .int .i64 0, .int .i64 0, .int .i64 0, .int .i64 0] : List Value).toArray 3 (0, 0))) := by
    subst hW1
    show _ = _
    exact heap_alloc_new w _
  have hs0 : Hid (∀ j v, [Value.int .i64 x][j]? = some v → W1.cell? ((⟨b, off, none⟩ : Addr).add j) = some v) := src1 (hW1 ▸ cell_alloc hx _)
  clear hW1
  go_enter Try.func138, Try.ntmps138
  go_wp2_with (first
    | (go_at_call 153; go_fit hm; rintro e w' ⟨rfl, hw⟩; rw [hw])
    | (refine wpList_copy_splice (o := ⟨some 33, _, _, _, _, _⟩) rfl (.tmp 31) (.tmp 32) 32 32 rfl 3 Try.underlying32 sz3 (some ⟨w.heap.size, 0, none⟩) (some ⟨b, off, none⟩) 5 5 1 cap rfl rfl w.heap.size 0 [.int .i64 0, .int .i64 0, .int .i64 0, .int .i64 0, .int .i64 0] 3 hG0.out [.int .i64 x] rfl (fun _ => ⟨rfl, _, rfl, hs0.out⟩) (by simp) (by simp [Value.oneCell']) w.heap.size w hB0.out (Nat.le_refl _) ?_; intro w2 HG2 hB2))
  have hG : Hid (w2.heap[w.heap.size]? = some (.cells ([.int .i64 x, .int .i64 0, .int .i64 0, .int .i64 0, .int .i64 0] : List Value).toArray 3 (0, 0))) := HG2.out
  clear HG2 hk hs0 hG0 hB0 hm
  refine wp_loop_rounds 4 ?_
  rw [rounds_succ]
  go_wp2_with (fail)
  refine reg9x (by kernel_rfl) (g := w.heap.size) (n := 5) (m := 1) (c := 1) (xi := x) (zi := 0) (T := 3) (L := [.int .i64 x, .int .i64 0, .int .i64 0, .int .i64 0, .int .i64 0]) (L' := [.int .i64 x, .int .i64 x, .int .i64 0, .int .i64 0, .int .i64 0]) _ rfl (fun _ => rfl) rfl rfl (by omega) (by omega) (by omega) rfl rfl rfl hG.out hB2 (Nat.le_refl _) rfl ?_
  intro w3 hG3 hB3
  clear hG hB2
  have hG := hG3
  have hB2 := hB3
  clear hG3 hB3
  simp only [Exit.inBlock, Exit.then, rounds_succ, val, Fv]
  go_wp2_with (fail)
  refine reg9x (by kernel_rfl) (g := w.heap.size) (n := 5) (m := 2) (c := 2) (xi := x) (zi := 0) (T := 3) (L := [.int .i64 x, .int .i64 x, .int .i64 0, .int .i64 0, .int .i64 0]) (L' := [.int .i64 x, .int .i64 x, .int .i64 x, .int .i64 x, .int .i64 0]) _ rfl (fun _ => rfl) rfl rfl (by omega) (by omega) (by omega) rfl rfl rfl hG.out hB2 (Nat.le_refl _) rfl ?_
  intro w3 hG3 hB3
  clear hG hB2
  have hG := hG3
  have hB2 := hB3
  clear hG3 hB3
  simp only [Exit.inBlock, Exit.then, rounds_succ, val, Fv]
  go_wp2_with (fail)
  refine reg9x (by kernel_rfl) (g := w.heap.size) (n := 5) (m := 4) (c := 1) (xi := x) (zi := 0) (T := 3) (L := [.int .i64 x, .int .i64 x, .int .i64 x, .int .i64 x, .int .i64 0]) (L' := [.int .i64 x, .int .i64 x, .int .i64 x, .int .i64 x, .int .i64 x]) _ rfl (fun _ => rfl) rfl rfl (by omega) (by omega) (by omega) rfl rfl rfl hG.out hB2 (Nat.le_refl _) rfl ?_
  intro w3 hG3 hB3
  clear hG hB2
  have hG := hG3
  have hB2 := hB3
  clear hG3 hB3
  simp only [Exit.inBlock, Exit.then, rounds_succ, val, Fv]
  go_wp2_with (fail)
  go_ret
  first
    | exact ⟨_, _, rfl, Nat.le_refl _, hG.out, hB2⟩
    | exact ⟨_, rfl, Nat.le_refl _, ⟨_, hG.out⟩, hB2⟩
set_option maxRecDepth 1000000 in
set_option maxHeartbeats 4000000 in
theorem rep6 (x : Int) (w : World) (b off cap : Nat) (hx : w.cell? ⟨b, off, none⟩ = some (.int .i64 x)) : Calls Try.prog 138 #[.slice (some ⟨b, off, none⟩) 1 cap, .int .i64 6] w fun e w' => ∃ g T, e = .returned (.slice (some ⟨g, 0, none⟩) 6 6) ∧ w.heap.size ≤ g ∧ w'.heap[g]? = some (.cells (List.replicate 6 (.int .i64 x)).toArray T (0, 0)) ∧ Below w.heap.size w w' := by
  have hm := mul153 6 (by omega) w
  obtain ⟨W1, hW1⟩ : ∃ W1, W1 = w.alloc (.cells (List.replicate 6 (.int .i64 0)).toArray 3) := ⟨_, rfl⟩
  have hk : (Instr.makeSlice 32 (.int .i64 6) (.int .i64 6)).run Try.prog w = .ok (.slice (some ⟨w.heap.size, 0, none⟩) 6 6) W1 := by
    rw [hW1]
    exact mk3 6 (by omega) w
  have hB0 : Hid (Below w.heap.size w W1) := hW1 ▸ (Below.refl _ w).alloc (Nat.le_refl _) _
  have hG0 : Hid (W1.heap[w.heap.size]? = some (.cells ([.int .i64 0, .int .i64 0, .int .i64 0, .int .i64 0, .int .i64 0, .int .i64 0] : List Value).toArray 3 (0, 0))) := by
    subst hW1
    show _ = _
    exact heap_alloc_new w _
  have hs0 : Hid (∀ j v, [Value.int .i64 x][j]? = some v → W1.cell? ((⟨b, off, none⟩ : Addr).add j) = some v) := src1 (hW1 ▸ cell_alloc hx _)
  clear hW1
  go_enter Try.func138, Try.ntmps138
  go_wp2_with (first
    | (go_at_call 153; go_fit hm; rintro e w' ⟨rfl, hw⟩; rw [hw])
    | (refine wpList_copy_splice (o := ⟨some 33, _, _, _, _, _⟩) rfl (.tmp 31) (.tmp 32) 32 32 rfl 3 Try.underlying32 sz3 (some ⟨w.heap.size, 0, none⟩) (some ⟨b, off, none⟩) 6 6 1 cap rfl rfl w.heap.size 0 [.int .i64 0, .int .i64 0, .int .i64 0, .int .i64 0, .int .i64 0, .int .i64 0] 3 hG0.out [.int .i64 x] rfl (fun _ => ⟨rfl, _, rfl, hs0.out⟩) (by simp) (by simp [Value.oneCell']) w.heap.size w hB0.out (Nat.le_refl _) ?_; intro w2 HG2 hB2))
  have hG : Hid (w2.heap[w.heap.size]? = some (.cells ([.int .i64 x, .int .i64 0, .int .i64 0, .int .i64 0, .int .i64 0, .int .i64 0] : List Value).toArray 3 (0, 0))) := HG2.out
  clear HG2 hk hs0 hG0 hB0 hm
  refine wp_loop_rounds 4 ?_
  rw [rounds_succ]
  go_wp2_with (fail)
  refine reg9x (by kernel_rfl) (g := w.heap.size) (n := 6) (m := 1) (c := 1) (xi := x) (zi := 0) (T := 3) (L := [.int .i64 x, .int .i64 0, .int .i64 0, .int .i64 0, .int .i64 0, .int .i64 0]) (L' := [.int .i64 x, .int .i64 x, .int .i64 0, .int .i64 0, .int .i64 0, .int .i64 0]) _ rfl (fun _ => rfl) rfl rfl (by omega) (by omega) (by omega) rfl rfl rfl hG.out hB2 (Nat.le_refl _) rfl ?_
  intro w3 hG3 hB3
  clear hG hB2
  have hG := hG3
  have hB2 := hB3
  clear hG3 hB3
  simp only [Exit.inBlock, Exit.then, rounds_succ, val, Fv]
  go_wp2_with (fail)
  refine reg9x (by kernel_rfl) (g := w.heap.size) (n := 6) (m := 2) (c := 2) (xi := x) (zi := 0) (T := 3) (L := [.int .i64 x, .int .i64 x, .int .i64 0, .int .i64 0, .int .i64 0, .int .i64 0]) (L' := [.int .i64 x, .int .i64 x, .int .i64 x, .int .i64 x, .int .i64 0, .int .i64 0]) _ rfl (fun _ => rfl) rfl rfl (by omega) (by omega) (by omega) rfl rfl rfl hG.out hB2 (Nat.le_refl _) rfl ?_
  intro w3 hG3 hB3
  clear hG hB2
  have hG := hG3
  have hB2 := hB3
  clear hG3 hB3
  simp only [Exit.inBlock, Exit.then, rounds_succ, val, Fv]
  go_wp2_with (fail)
  refine reg9x (by kernel_rfl) (g := w.heap.size) (n := 6) (m := 4) (c := 2) (xi := x) (zi := 0) (T := 3) (L := [.int .i64 x, .int .i64 x, .int .i64 x, .int .i64 x, .int .i64 0, .int .i64 0]) (L' := [.int .i64 x, .int .i64 x, .int .i64 x, .int .i64 x, .int .i64 x, .int .i64 x]) _ rfl (fun _ => rfl) rfl rfl (by omega) (by omega) (by omega) rfl rfl rfl hG.out hB2 (Nat.le_refl _) rfl ?_
  intro w3 hG3 hB3
  clear hG hB2
  have hG := hG3
  have hB2 := hB3
  clear hG3 hB3
  simp only [Exit.inBlock, Exit.then, rounds_succ, val, Fv]
  go_wp2_with (fail)
  go_ret
  first
    | exact ⟨_, _, rfl, Nat.le_refl _, hG.out, hB2⟩
    | exact ⟨_, rfl, Nat.le_refl _, ⟨_, hG.out⟩, hB2⟩
set_option maxRecDepth 1000000 in
set_option maxHeartbeats 4000000 in
theorem rep7 (x : Int) (w : World) (b off cap : Nat) (hx : w.cell? ⟨b, off, none⟩ = some (.int .i64 x)) : Calls Try.prog 138 #[.slice (some ⟨b, off, none⟩) 1 cap, .int .i64 7] w fun e w' => ∃ g T, e = .returned (.slice (some ⟨g, 0, none⟩) 7 7) ∧ w.heap.size ≤ g ∧ w'.heap[g]? = some (.cells (List.replicate 7 (.int .i64 x)).toArray T (0, 0)) ∧ Below w.heap.size w w' := by
  have hm := mul153 7 (by omega) w
  obtain ⟨W1, hW1⟩ : ∃ W1, W1 = w.alloc (.cells (List.replicate 7 (.int .i64 0)).toArray 3) := ⟨_, rfl⟩
  have hk : (Instr.makeSlice 32 (.int .i64 7) (.int .i64 7)).run Try.prog w = .ok (.slice (some ⟨w.heap.size, 0, none⟩) 7 7) W1 := by
    rw [hW1]
    exact mk3 7 (by omega) w
  have hB0 : Hid (Below w.heap.size w W1) := hW1 ▸ (Below.refl _ w).alloc (Nat.le_refl _) _
  have hG0 : Hid (W1.heap[w.heap.size]? = some (.cells ([.int .i64 0, .int .i64 0, .int .i64 0, .int .i64 0, .int .i64 0, .int .i64 0, .int .i64 0] : List Value).toArray 3 (0, 0))) := by
    subst hW1
    show _ = _
    exact heap_alloc_new w _
  have hs0 : Hid (∀ j v, [Value.int .i64 x][j]? = some v → W1.cell? ((⟨b, off, none⟩ : Addr).add j) = some v) := src1 (hW1 ▸ cell_alloc hx _)
  clear hW1
  go_enter Try.func138, Try.ntmps138
  go_wp2_with (first
    | (go_at_call 153; go_fit hm; rintro e w' ⟨rfl, hw⟩; rw [hw])
    | (refine wpList_copy_splice (o := ⟨some 33, _, _, _, _, _⟩) rfl (.tmp 31) (.tmp 32) 32 32 rfl 3 Try.underlying32 sz3 (some ⟨w.heap.size, 0, none⟩) (some ⟨b, off, none⟩) 7 7 1 cap rfl rfl w.heap.size 0 [.int .i64 0, .int .i64 0, .int .i64 0, .int .i64 0, .int .i64 0, .int .i64 0, .int .i64 0] 3 hG0.out [.int .i64 x] rfl (fun _ => ⟨rfl, _, rfl, hs0.out⟩) (by simp) (by simp [Value.oneCell']) w.heap.size w hB0.out (Nat.le_refl _) ?_; intro w2 HG2 hB2))
  have hG : Hid (w2.heap[w.heap.size]? = some (.cells ([.int .i64 x, .int .i64 0, .int .i64 0, .int .i64 0, .int .i64 0, .int .i64 0, .int .i64 0] : List Value).toArray 3 (0, 0))) := HG2.out
  clear HG2 hk hs0 hG0 hB0 hm
  refine wp_loop_rounds 4 ?_
  rw [rounds_succ]
  go_wp2_with (fail)
  refine reg9x (by kernel_rfl) (g := w.heap.size) (n := 7) (m := 1) (c := 1) (xi := x) (zi := 0) (T := 3) (L := [.int .i64 x, .int .i64 0, .int .i64 0, .int .i64 0, .int .i64 0, .int .i64 0, .int .i64 0]) (L' := [.int .i64 x, .int .i64 x, .int .i64 0, .int .i64 0, .int .i64 0, .int .i64 0, .int .i64 0]) _ rfl (fun _ => rfl) rfl rfl (by omega) (by omega) (by omega) rfl rfl rfl hG.out hB2 (Nat.le_refl _) rfl ?_
  intro w3 hG3 hB3
  clear hG hB2
  have hG := hG3
  have hB2 := hB3
  clear hG3 hB3
  simp only [Exit.inBlock, Exit.then, rounds_succ, val, Fv]
  go_wp2_with (fail)
  refine reg9x (by kernel_rfl) (g := w.heap.size) (n := 7) (m := 2) (c := 2) (xi := x) (zi := 0) (T := 3) (L := [.int .i64 x, .int .i64 x, .int .i64 0, .int .i64 0, .int .i64 0, .int .i64 0, .int .i64 0]) (L' := [.int .i64 x, .int .i64 x, .int .i64 x, .int .i64 x, .int .i64 0, .int .i64 0, .int .i64 0]) _ rfl (fun _ => rfl) rfl rfl (by omega) (by omega) (by omega) rfl rfl rfl hG.out hB2 (Nat.le_refl _) rfl ?_
  intro w3 hG3 hB3
  clear hG hB2
  have hG := hG3
  have hB2 := hB3
  clear hG3 hB3
  simp only [Exit.inBlock, Exit.then, rounds_succ, val, Fv]
  go_wp2_with (fail)
  refine reg9x (by kernel_rfl) (g := w.heap.size) (n := 7) (m := 4) (c := 3) (xi := x) (zi := 0) (T := 3) (L := [.int .i64 x, .int .i64 x, .int .i64 x, .int .i64 x, .int .i64 0, .int .i64 0, .int .i64 0]) (L' := [.int .i64 x, .int .i64 x, .int .i64 x, .int .i64 x, .int .i64 x, .int .i64 x, .int .i64 x]) _ rfl (fun _ => rfl) rfl rfl (by omega) (by omega) (by omega) rfl rfl rfl hG.out hB2 (Nat.le_refl _) rfl ?_
  intro w3 hG3 hB3
  clear hG hB2
  have hG := hG3
  have hB2 := hB3
  clear hG3 hB3
  simp only [Exit.inBlock, Exit.then, rounds_succ, val, Fv]
  go_wp2_with (fail)
  go_ret
  first
    | exact ⟨_, _, rfl, Nat.le_refl _, hG.out, hB2⟩
    | exact ⟨_, rfl, Nat.le_refl _, ⟨_, hG.out⟩, hB2⟩
set_option maxRecDepth 1000000 in
set_option maxHeartbeats 4000000 in
theorem rep8 (x : Int) (w : World) (b off cap : Nat) (hx : w.cell? ⟨b, off, none⟩ = some (.int .i64 x)) : Calls Try.prog 138 #[.slice (some ⟨b, off, none⟩) 1 cap, .int .i64 8] w fun e w' => ∃ g T, e = .returned (.slice (some ⟨g, 0, none⟩) 8 8) ∧ w.heap.size ≤ g ∧ w'.heap[g]? = some (.cells (List.replicate 8 (.int .i64 x)).toArray T (0, 0)) ∧ Below w.heap.size w w' := by
  have hm := mul153 8 (by omega) w
  obtain ⟨W1, hW1⟩ : ∃ W1, W1 = w.alloc (.cells (List.replicate 8 (.int .i64 0)).toArray 3) := ⟨_, rfl⟩
  have hk : (Instr.makeSlice 32 (.int .i64 8) (.int .i64 8)).run Try.prog w = .ok (.slice (some ⟨w.heap.size, 0, none⟩) 8 8) W1 := by
    rw [hW1]
    exact mk3 8 (by omega) w
  have hB0 : Hid (Below w.heap.size w W1) := hW1 ▸ (Below.refl _ w).alloc (Nat.le_refl _) _
  have hG0 : Hid (W1.heap[w.heap.size]? = some (.cells ([.int .i64 0, .int .i64 0, .int .i64 0, .int .i64 0, .int .i64 0, .int .i64 0, .int .i64 0, .int .i64 0] : List Value).toArray 3 (0, 0))) := by
    subst hW1
    show _ = _
    exact heap_alloc_new w _
  have hs0 : Hid (∀ j v, [Value.int .i64 x][j]? = some v → W1.cell? ((⟨b, off, none⟩ : Addr).add j) = some v) := src1 (hW1 ▸ cell_alloc hx _)
  clear hW1
  go_enter Try.func138, Try.ntmps138
  go_wp2_with (first
    | (go_at_call 153; go_fit hm; rintro e w' ⟨rfl, hw⟩; rw [hw])
    | (refine wpList_copy_splice (o := ⟨some 33, _, _, _, _, _⟩) rfl (.tmp 31) (.tmp 32) 32 32 rfl 3 Try.underlying32 sz3 (some ⟨w.heap.size, 0, none⟩) (some ⟨b, off, none⟩) 8 8 1 cap rfl rfl w.heap.size 0 [.int .i64 0, .int .i64 0, .int .i64 0, .int .i64 0, .int .i64 0, .int .i64 0, .int .i64 0, .int .i64 0] 3 hG0.out [.int .i64 x] rfl (fun _ => ⟨rfl, _, rfl, hs0.out⟩) (by simp) (by simp [Value.oneCell']) w.heap.size w hB0.out (Nat.le_refl _) ?_; intro w2 HG2 hB2))
  have hG : Hid (w2.heap[w.heap.size]? = some (.cells ([.int .i64 x, .int .i64 0, .int .i64 0, .int .i64 0, .int .i64 0, .int .i64 0, .int .i64 0, .int .i64 0] : List Value).toArray 3 (0, 0))) := HG2.out
  clear HG2 hk hs0 hG0 hB0 hm
  refine wp_loop_rounds 4 ?_
  rw [rounds_succ]
  go_wp2_with (fail)
  refine reg9x (by kernel_rfl) (g := w.heap.size) (n := 8) (m := 1) (c := 1) (xi := x) (zi := 0) (T := 3) (L := [.int .i64 x, .int .i64 0, .int .i64 0, .int .i64 0, .int .i64 0, .int .i64 0, .int .i64 0, .int .i64 0]) (L' := [.int .i64 x, .int .i64 x, .int .i64 0, .int .i64 0, .int .i64 0, .int .i64 0, .int .i64 0, .int .i64 0]) _ rfl (fun _ => rfl) rfl rfl (by omega) (by omega) (by omega) rfl rfl rfl hG.out hB2 (Nat.le_refl _) rfl ?_
  intro w3 hG3 hB3
  clear hG hB2
  have hG := hG3
  have hB2 := hB3
  clear hG3 hB3
  simp only [Exit.inBlock, Exit.then, rounds_succ, val, Fv]
  go_wp2_with (fail)
  refine reg9x (by kernel_rfl) (g := w.heap.size) (n := 8) (m := 2) (c := 2) (xi := x) (zi := 0) (T := 3) (L := [.int .i64 x, .int .i64 x, .int .i64 0, .int .i64 0, .int .i64 0, .int .i64 0, .int .i64 0, .int .i64 0]) (L' := [.int .i64 x, .int .i64 x, .int .i64 x, .int .i64 x, .int .i64 0, .int .i64 0, .int .i64 0, .int .i64 0]) _ rfl (fun _ => rfl) rfl rfl (by omega) (by omega) (by omega) rfl rfl rfl hG.out hB2 (Nat.le_refl _) rfl ?_
  intro w3 hG3 hB3
  clear hG hB2
  have hG := hG3
  have hB2 := hB3
  clear hG3 hB3
  simp only [Exit.inBlock, Exit.then, rounds_succ, val, Fv]
  go_wp2_with (fail)
  refine reg9x (by kernel_rfl) (g := w.heap.size) (n := 8) (m := 4) (c := 4) (xi := x) (zi := 0) (T := 3) (L := [.int .i64 x, .int .i64 x, .int .i64 x, .int .i64 x, .int .i64 0, .int .i64 0, .int .i64 0, .int .i64 0]) (L' := [.int .i64 x, .int .i64 x, .int .i64 x, .int .i64 x, .int .i64 x, .int .i64 x, .int .i64 x, .int .i64 x]) _ rfl (fun _ => rfl) rfl rfl (by omega) (by omega) (by omega) rfl rfl rfl hG.out hB2 (Nat.le_refl _) rfl ?_
  intro w3 hG3 hB3
  clear hG hB2
  have hG := hG3
  have hB2 := hB3
  clear hG3 hB3
  simp only [Exit.inBlock, Exit.then, rounds_succ, val, Fv]
  go_wp2_with (fail)
  go_ret
  first
    | exact ⟨_, _, rfl, Nat.le_refl _, hG.out, hB2⟩
    | exact ⟨_, rfl, Nat.le_refl _, ⟨_, hG.out⟩, hB2⟩
end Go.V.W
