/- What the law FnExactIsTimedProof leans on, part 4: an interpreter of the model as plain data, its soundness, the functions as it tells them, and their laws. -/
import Derived.Test.YtmeglfoapdkhdaaProg
import Derived.Laws.CopyOwn
import Derived.Deep.OwnRows
import Derived.IntWalk
import Derived.Lib.Builder
import Derived.Test.YtmeglfoapdkhdaaVC
set_option linter.unusedVariables false
set_option linter.unusedSimpArgs false
set_option maxRecDepth 100000
set_option linter.unusedVariables false
set_option maxRecDepth 100000
namespace Go.V.W
open Go.Proofs
abbrev I : Kd := .int .i64
abbrev K_Piq : Kd := .pair I .unit
abbrev K_Piiq : Kd := .pair I K_Piq
abbrev K_SPiiq : Kd := .slice K_Piiq
abbrev K_PSPiiqq : Kd := .pair K_SPiiq .unit
abbrev K_PiSPiiqq : Kd := .pair I K_PSPiiqq
abbrev K_Si : Kd := .slice I
abbrev K_SSi : Kd := .slice K_Si
abbrev K_PSSiq : Kd := .pair K_SSi .unit
abbrev K_PiSSiq : Kd := .pair I K_PSSiq
abbrev K_PPiSPiiqqiSSiq : Kd := .pair K_PiSPiiqq K_PiSSiq
abbrev K_SSSi : Kd := .slice K_SSi
abbrev K_BPPiSPiiqqiSSiq : Kd := .bx K_PPiSPiiqqiSSiq
abbrev K_PBPPiSPiiqqiSSiqq : Kd := .pair K_BPPiSPiiqqiSSiq .unit
abbrev K_F_impl_IsTimetable_1_qPBPPiSPiiqqiSSiqq : Kd := .clo 84 .unit K_PBPPiSPiiqqiSSiqq
abbrev K_PSiq : Kd := .pair K_Si .unit
abbrev K_SPSiq : Kd := .slice K_PSiq
abbrev K_F_impl_isTimedProof_1_1_qq : Kd := .clo 144 .unit .unit
abbrev K_Bi : Kd := .bx I
abbrev K_PBiq : Kd := .pair K_Bi .unit
abbrev K_F_impl_isTimedProof_1_qPBiq : Kd := .clo 142 .unit K_PBiq
abbrev K_F_impl_isTimedProof_2_qPBiq : Kd := .clo 146 .unit K_PBiq
abbrev K_BPSiq : Kd := .bx K_PSiq
abbrev K_BSSi : Kd := .bx K_SSi
abbrev K_BF_impl_isTimedProof_2_qPBiq : Kd := .bx K_F_impl_isTimedProof_2_qPBiq
abbrev K_PBF_impl_isTimedProof_2_qPBiqq : Kd := .pair K_BF_impl_isTimedProof_2_qPBiq .unit
abbrev K_PBSSiBF_impl_isTimedProof_2_qPBiqq : Kd := .pair K_BSSi K_PBF_impl_isTimedProof_2_qPBiqq
abbrev K_PBPSiqBSSiBF_impl_isTimedProof_2_qPBiqq : Kd := .pair K_BPSiq K_PBSSiBF_impl_isTimedProof_2_qPBiqq
abbrev K_PBiBPSiqBSSiBF_impl_isTimedProof_2_qPBiqq : Kd := .pair K_Bi K_PBPSiqBSSiBF_impl_isTimedProof_2_qPBiqq
abbrev K_F_impl_timedCan_1_qPBiBPSiqBSSiBF_impl_isTimedProof_2_qPBiqq : Kd := .clo 159 .unit K_PBiBPSiqBSSiBF_impl_isTimedProof_2_qPBiqq
def tks : List (Nat × Kd) := [(3, I), (4, .bool), (29, K_SPiiq), (31, K_PiSPiiqq), (32, K_Si), (37, K_PiSPiiqq), (51, K_SSi), (53, K_PPiSPiiqqiSSiq), (57, K_PPiSPiiqqiSSiq), (83, K_SSSi), (99, K_Piiq), (112, K_PSiq), (113, K_SPSiq)]
def ars : List (Nat × Nat) := [(99, 3)]
noncomputable def Γ_laws_szIntA2S : Ctx := { tk := assoc tks, ar := assoc ars, fs := assoc [] }
noncomputable def F_laws_szIntA2S (N : Nat) (d : (List (Int × Int × Unit)) × Int × Unit) : Option (Int × Unit) :=
  let a0 : List (Int × Int × Unit) := d.1
  let a1 : Int := d.2.1
  let x1 : Int := IntKind.wrap .i64 (a1 - (List.length a0 : Int))
  if (decide (x1 < (0 : Int))) = true then
    some ((-1 : Int), ())
  else
    some (x1, ())
theorem F_laws_szIntA2S_ok (N : Nat) (d) : fnR Γ_laws_szIntA2S (assoc []) true [(K_SPiiq, false), (I, false)] [I] Try.f73.results.toList (bodyOf Try.f73) d = F_laws_szIntA2S N d := by kernel_rfl
noncomputable def g_laws_szIntA2S (d : (List (Int × Int × Unit)) × Int × Unit) : Int × Unit :=
  let a0 : List (Int × Int × Unit) := d.1
  let a1 : Int := d.2.1
  let x1 : Int := IntKind.wrap .i64 (a1 - (List.length a0 : Int))
  if (decide (x1 < (0 : Int))) = true then
    ((-1 : Int), ())
  else
    (x1, ())
theorem F_laws_szIntA2S_tot (N : Nat) (d) : F_laws_szIntA2S N d = some (g_laws_szIntA2S d) := by
  unfold F_laws_szIntA2S g_laws_szIntA2S
  first
    | rfl
    | (dsimp only; (repeat' split) <;> rfl)
noncomputable def S_laws_szIntA2S : FSig := ⟨[(K_SPiiq, false), (I, false)], [I], true, (fun d => some (g_laws_szIntA2S d))⟩
noncomputable def Γ_laws_szGraph : Ctx := { tk := assoc tks, ar := assoc ars, fs := assoc [(73, S_laws_szIntA2S)] }
noncomputable def F_laws_szGraph (N : Nat) (d : (Int × (List (Int × Int × Unit)) × Unit) × Int × Unit) : Option (Int × Unit) :=
  let a0 : Int × (List (Int × Int × Unit)) × Unit := d.1
  let a1 : Int := d.2.1
  let r1 : Int × Unit := g_laws_szIntA2S ((a0.2.1, (a1, ())))
  if (decide (r1.1 < (0 : Int))) = true then
    some ((-1 : Int), ())
  else
    some (r1.1, ())
theorem F_laws_szGraph_ok (N : Nat) (d) : fnR Γ_laws_szGraph (assoc []) true [(K_PiSPiiqq, false), (I, false)] [I] Try.f24.results.toList (bodyOf Try.f24) d = F_laws_szGraph N d := by kernel_rfl
noncomputable def g_laws_szGraph (d : (Int × (List (Int × Int × Unit)) × Unit) × Int × Unit) : Int × Unit :=
  let a0 : Int × (List (Int × Int × Unit)) × Unit := d.1
  let a1 : Int := d.2.1
  let r1 : Int × Unit := g_laws_szIntA2S ((a0.2.1, (a1, ())))
  if (decide (r1.1 < (0 : Int))) = true then
    ((-1 : Int), ())
  else
    (r1.1, ())
theorem F_laws_szGraph_tot (N : Nat) (d) : F_laws_szGraph N d = some (g_laws_szGraph d) := by
  unfold F_laws_szGraph g_laws_szGraph
  first
    | rfl
    | (dsimp only; (repeat' split) <;> rfl)
noncomputable def S_laws_szGraph : FSig := ⟨[(K_PiSPiiqq, false), (I, false)], [I], true, (fun d => some (g_laws_szGraph d))⟩
noncomputable def Γ_laws_szIntS : Ctx := { tk := assoc tks, ar := assoc ars, fs := assoc [] }
noncomputable def F_laws_szIntS (N : Nat) (d : List Int × Int × Unit) : Option (Int × Unit) :=
  let a0 : List Int := d.1
  let a1 : Int := d.2.1
  let x1 : Int := IntKind.wrap .i64 (a1 - (List.length a0 : Int))
  if (decide (x1 < (0 : Int))) = true then
    some ((-1 : Int), ())
  else
    some (x1, ())
theorem F_laws_szIntS_ok (N : Nat) (d) : fnR Γ_laws_szIntS (assoc []) true [(K_Si, false), (I, false)] [I] Try.f68.results.toList (bodyOf Try.f68) d = F_laws_szIntS N d := by kernel_rfl
noncomputable def g_laws_szIntS (d : List Int × Int × Unit) : Int × Unit :=
  let a0 : List Int := d.1
  let a1 : Int := d.2.1
  let x1 : Int := IntKind.wrap .i64 (a1 - (List.length a0 : Int))
  if (decide (x1 < (0 : Int))) = true then
    ((-1 : Int), ())
  else
    (x1, ())
theorem F_laws_szIntS_tot (N : Nat) (d) : F_laws_szIntS N d = some (g_laws_szIntS d) := by
  unfold F_laws_szIntS g_laws_szIntS
  first
    | rfl
    | (dsimp only; (repeat' split) <;> rfl)
noncomputable def S_laws_szIntS : FSig := ⟨[(K_Si, false), (I, false)], [I], true, (fun d => some (g_laws_szIntS d))⟩
noncomputable def Γ_laws_szIntSS : Ctx := { tk := assoc tks, ar := assoc ars, fs := assoc [(68, S_laws_szIntS)] }
abbrev laws_szIntSS_l0_H := List (List Int) × Int × Int × Unit
abbrev laws_szIntSS_l0_O := (Int × Unit) ⊕ (Int × Unit) ⊕ Empty
def laws_szIntSS_l0_h : Form := [(0, .v K_SSi), (1, .v I), (5, .v I)]
def laws_szIntSS_l0_o : Outs := [(.ret, [(4, .v I)]), (.normal, [(1, .v I)])]
noncomputable def laws_szIntSS_l0_r (N : Nat) (back : laws_szIntSS_l0_H → Option laws_szIntSS_l0_O) (d : laws_szIntSS_l0_H) : Option laws_szIntSS_l0_O :=
  let s0 : List (List Int) := d.1
  let s1 : Int := d.2.1
  let s5 : Int := d.2.2.1
  if (decide (s5 < (List.length s0 : Int))) = true then
    if (idxIn s5 (List.length s0)) = true then
    let r7 : Int × Unit := g_laws_szIntS ((at_ K_Si s0 s5.toNat, (s1, ())))
    if (decide (r7.1 < (0 : Int))) = true then
      some (.inl ((-1 : Int), ()))
    else
      let x8 : Int := IntKind.wrap .i64 (s5 + (1 : Int))
      back ((s0, (r7.1, (x8, ()))))
    else none
  else
    some (.inr (.inl (s1, ())))
noncomputable def laws_szIntSS_l0 (N : Nat) : Nat → laws_szIntSS_l0_H → Option laws_szIntSS_l0_O
  | 0, _ => none
  | k + 1, d => laws_szIntSS_l0_r N (laws_szIntSS_l0 N k) d
theorem laws_szIntSS_l0_ok (N : Nat) (back) (d) : roundR Γ_laws_szIntSS (assoc []) 0 laws_szIntSS_l0_h laws_szIntSS_l0_o (loopOf Try.f80 0) back d = laws_szIntSS_l0_r N back d := by kernel_rfl
noncomputable def F_laws_szIntSS (N : Nat) (d : List (List Int) × Int × Unit) : Option (Int × Unit) :=
  let a0 : List (List Int) := d.1
  let a1 : Int := d.2.1
  let x1 : Int := IntKind.wrap .i64 (a1 - (List.length a0 : Int))
  if (decide (x1 < (0 : Int))) = true then
    some ((-1 : Int), ())
  else
    (laws_szIntSS_l0 N N ((a0, (x1, ((0 : Int), ()))))).bind fun o4 => match o4 with
    | .inl d5 =>
      some (d5.1, ())
    | .inr (.inl d6) =>
      some (d6.1, ())
theorem F_laws_szIntSS_ok (N : Nat) (d) : fnR Γ_laws_szIntSS (assoc [(0, ⟨laws_szIntSS_l0_h, laws_szIntSS_l0_o, laws_szIntSS_l0 N N⟩)]) true [(K_SSi, false), (I, false)] [I] Try.f80.results.toList (bodyOf Try.f80) d = F_laws_szIntSS N d := by kernel_rfl
noncomputable def S_laws_szIntSS : FSig := ⟨[(K_SSi, false), (I, false)], [I], true, (G_szIntSS)⟩
noncomputable def Γ_laws_szTimetable : Ctx := { tk := assoc tks, ar := assoc ars, fs := assoc [(24, S_laws_szGraph), (80, S_laws_szIntSS)] }
noncomputable def F_laws_szTimetable (N : Nat) (d : ((Int × (List (Int × Int × Unit)) × Unit) × Int × List (List Int) × Unit) × Int × Unit) : Option (Int × Unit) :=
  let a0 : (Int × (List (Int × Int × Unit)) × Unit) × Int × List (List Int) × Unit := d.1
  let a1 : Int := d.2.1
  let r1 : Int × Unit := g_laws_szGraph ((a0.1, (a1, ())))
  if (decide (r1.1 < (0 : Int))) = true then
    some ((-1 : Int), ())
  else
    (G_szIntSS ((a0.2.2.1, (r1.1, ())))).bind fun r2 =>
    if (decide (r2.1 < (0 : Int))) = true then
      some ((-1 : Int), ())
    else
      some (r2.1, ())
theorem F_laws_szTimetable_ok (N : Nat) (d) : fnR Γ_laws_szTimetable (assoc []) true [(K_PPiSPiiqqiSSiq, false), (I, false)] [I] Try.f32.results.toList (bodyOf Try.f32) d = F_laws_szTimetable N d := by kernel_rfl
noncomputable def S_laws_szTimetable : FSig := ⟨[(K_PPiSPiiqqiSSiq, false), (I, false)], [I], true, (F_laws_szTimetable 0)⟩
noncomputable def Γ_laws_szIntSSS : Ctx := { tk := assoc tks, ar := assoc ars, fs := assoc [(80, S_laws_szIntSS)] }
abbrev laws_szIntSSS_l0_H := List (List (List Int)) × Int × Int × Unit
abbrev laws_szIntSSS_l0_O := (Int × Unit) ⊕ (Int × Unit) ⊕ Empty
def laws_szIntSSS_l0_h : Form := [(0, .v K_SSSi), (1, .v I), (5, .v I)]
def laws_szIntSSS_l0_o : Outs := [(.ret, [(4, .v I)]), (.normal, [(1, .v I)])]
noncomputable def laws_szIntSSS_l0_r (N : Nat) (back : laws_szIntSSS_l0_H → Option laws_szIntSSS_l0_O) (d : laws_szIntSSS_l0_H) : Option laws_szIntSSS_l0_O :=
  let s0 : List (List (List Int)) := d.1
  let s1 : Int := d.2.1
  let s5 : Int := d.2.2.1
  if (decide (s5 < (List.length s0 : Int))) = true then
    if (idxIn s5 (List.length s0)) = true then
    (G_szIntSS ((at_ K_SSi s0 s5.toNat, (s1, ())))).bind fun r7 =>
    if (decide (r7.1 < (0 : Int))) = true then
      some (.inl ((-1 : Int), ()))
    else
      let x8 : Int := IntKind.wrap .i64 (s5 + (1 : Int))
      back ((s0, (r7.1, (x8, ()))))
    else none
  else
    some (.inr (.inl (s1, ())))
noncomputable def laws_szIntSSS_l0 (N : Nat) : Nat → laws_szIntSSS_l0_H → Option laws_szIntSSS_l0_O
  | 0, _ => none
  | k + 1, d => laws_szIntSSS_l0_r N (laws_szIntSSS_l0 N k) d
theorem laws_szIntSSS_l0_ok (N : Nat) (back) (d) : roundR Γ_laws_szIntSSS (assoc []) 0 laws_szIntSSS_l0_h laws_szIntSSS_l0_o (loopOf Try.f60 0) back d = laws_szIntSSS_l0_r N back d := by kernel_rfl
noncomputable def F_laws_szIntSSS (N : Nat) (d : List (List (List Int)) × Int × Unit) : Option (Int × Unit) :=
  let a0 : List (List (List Int)) := d.1
  let a1 : Int := d.2.1
  let x1 : Int := IntKind.wrap .i64 (a1 - (List.length a0 : Int))
  if (decide (x1 < (0 : Int))) = true then
    some ((-1 : Int), ())
  else
    (laws_szIntSSS_l0 N N ((a0, (x1, ((0 : Int), ()))))).bind fun o4 => match o4 with
    | .inl d5 =>
      some (d5.1, ())
    | .inr (.inl d6) =>
      some (d6.1, ())
theorem F_laws_szIntSSS_ok (N : Nat) (d) : fnR Γ_laws_szIntSSS (assoc [(0, ⟨laws_szIntSSS_l0_h, laws_szIntSSS_l0_o, laws_szIntSSS_l0 N N⟩)]) true [(K_SSSi, false), (I, false)] [I] Try.f60.results.toList (bodyOf Try.f60) d = F_laws_szIntSSS N d := by kernel_rfl
noncomputable def S_laws_szIntSSS : FSig := ⟨[(K_SSSi, false), (I, false)], [I], true, (G_szIntSSS)⟩
noncomputable def Γ_laws_toIntA2 : Ctx := { tk := assoc tks, ar := assoc ars, fs := assoc [] }
abbrev laws_toIntA2_l0_H := (Int × Int × Unit) × (Int × Int × Unit) × (Int × Int × Unit) × Int × Unit
abbrev laws_toIntA2_l0_O := ((Int × Int × Unit) × (Int × Int × Unit) × Unit) ⊕ Empty
def laws_toIntA2_l0_h : Form := [(1, .box K_Piiq 99), (2, .box K_Piiq 99), (3, .box K_Piiq 99), (4, .v I)]
def laws_toIntA2_l0_o : Outs := [(.normal, [(2, .box K_Piiq 99), (3, .box K_Piiq 99)])]
noncomputable def laws_toIntA2_l0_r (N : Nat) (back : laws_toIntA2_l0_H → Option laws_toIntA2_l0_O) (d : laws_toIntA2_l0_H) : Option laws_toIntA2_l0_O :=
  let s1 : Int × Int × Unit := d.1
  let s2 : Int × Int × Unit := d.2.1
  let s3 : Int × Int × Unit := d.2.2.1
  let s4 : Int := d.2.2.2.1
  if (decide (s4 < (2 : Int))) = true then
    if (s4 == (0 : Int)) = true then
      if (s4 == (0 : Int)) = true then
        let x10 : Int := IntKind.wrap .i64 (s4 + (1 : Int))
        back ((s1, (s2, ((s1.1, s3.2), (x10, ())))))
      else
        if (s4 == (1 : Int)) = true then
        let x9 : Int := IntKind.wrap .i64 (s4 + (1 : Int))
        back ((s1, (s2, ((s3.1, (s1.1, s3.2.2)), (x9, ())))))
        else none
    else
      if (s4 == (1 : Int)) = true then
      if (s4 == (0 : Int)) = true then
        let x8 : Int := IntKind.wrap .i64 (s4 + (1 : Int))
        back ((s1, (s2, ((s1.2.1, s3.2), (x8, ())))))
      else
        if (s4 == (1 : Int)) = true then
        let x7 : Int := IntKind.wrap .i64 (s4 + (1 : Int))
        back ((s1, (s2, ((s3.1, (s1.2.1, s3.2.2)), (x7, ())))))
        else none
      else none
  else
    some (.inl ((s2, (s3, ()))))
noncomputable def laws_toIntA2_l0 (N : Nat) : Nat → laws_toIntA2_l0_H → Option laws_toIntA2_l0_O
  | 0, _ => none
  | k + 1, d => laws_toIntA2_l0_r N (laws_toIntA2_l0 N k) d
theorem laws_toIntA2_l0_ok (N : Nat) (back) (d) : roundR Γ_laws_toIntA2 (assoc []) 0 laws_toIntA2_l0_h laws_toIntA2_l0_o (loopOf Try.f125 0) back d = laws_toIntA2_l0_r N back d := by kernel_rfl
noncomputable def F_laws_toIntA2 (N : Nat) (d : (Int × Int × Unit) × Unit) : Option ((Int × Int × Unit) × Unit) :=
  let a0 : Int × Int × Unit := d.1
  (laws_toIntA2_l0 N N ((a0, (((0 : Int), ((0 : Int), ())), (((0 : Int), ((0 : Int), ())), ((0 : Int), ())))))).bind fun o5 => match o5 with
  | .inl d6 =>
    some (d6.2.1, ())
theorem F_laws_toIntA2_ok (N : Nat) (d) : fnR Γ_laws_toIntA2 (assoc [(0, ⟨laws_toIntA2_l0_h, laws_toIntA2_l0_o, laws_toIntA2_l0 N N⟩)]) true [(K_Piiq, false)] [K_Piiq] Try.f125.results.toList (bodyOf Try.f125) d = F_laws_toIntA2 N d := by kernel_rfl
noncomputable def S_laws_toIntA2 : FSig := ⟨[(K_Piiq, false)], [K_Piiq], true, (G_toIntA2)⟩
noncomputable def Γ_laws_toIntA2S : Ctx := { tk := assoc tks, ar := assoc ars, fs := assoc [(125, S_laws_toIntA2)] }
abbrev laws_toIntA2S_l0_H := (List (Int × Int × Unit)) × (List (Int × Int × Unit)) × Int × Unit
abbrev laws_toIntA2S_l0_O := ((List (Int × Int × Unit)) × Unit) ⊕ Empty
def laws_toIntA2S_l0_h : Form := [(0, .v K_SPiiq), (3, .own K_SPiiq 99), (4, .v I)]
def laws_toIntA2S_l0_o : Outs := [(.normal, [(3, .own K_SPiiq 99)])]
noncomputable def laws_toIntA2S_l0_r (N : Nat) (back : laws_toIntA2S_l0_H → Option laws_toIntA2S_l0_O) (d : laws_toIntA2S_l0_H) : Option laws_toIntA2S_l0_O :=
  let s0 : List (Int × Int × Unit) := d.1
  let s3 : List (Int × Int × Unit) := d.2.1
  let s4 : Int := d.2.2.1
  if (decide (s4 < (List.length s0 : Int))) = true then
    if (idxIn s4 (List.length s0)) = true then
    (G_toIntA2 (at_ K_Piiq s0 s4.toNat, ())).bind fun r6 =>
    if (idxIn s4 (List.length s3)) = true then
    let x7 : Int := IntKind.wrap .i64 (s4 + (1 : Int))
    back ((s0, (List.set s3 s4.toNat r6.1, (x7, ()))))
    else none
    else none
  else
    some (.inl (s3, ()))
noncomputable def laws_toIntA2S_l0 (N : Nat) : Nat → laws_toIntA2S_l0_H → Option laws_toIntA2S_l0_O
  | 0, _ => none
  | k + 1, d => laws_toIntA2S_l0_r N (laws_toIntA2S_l0 N k) d
theorem laws_toIntA2S_l0_ok (N : Nat) (back) (d) : roundR Γ_laws_toIntA2S (assoc []) 0 laws_toIntA2S_l0_h laws_toIntA2S_l0_o (loopOf Try.f75 0) back d = laws_toIntA2S_l0_r N back d := by kernel_rfl
noncomputable def F_laws_toIntA2S (N : Nat) (d : (List (Int × Int × Unit)) × Unit) : Option ((List (Int × Int × Unit)) × Unit) :=
  let a0 : List (Int × Int × Unit) := d.1
  if ((decide (0 ≤ (List.length a0 : Int)) && decide ((List.length a0 : Int) ≤ (List.length a0 : Int)) && decide ((List.length a0 : Int) ≤ (lim : Int)))) = true then
  let x1 : List (Int × Int × Unit) := List.replicate (List.length a0 : Int).toNat (((0 : Int), ((0 : Int), ())))
  (laws_toIntA2S_l0 N N ((a0, (x1, ((0 : Int), ()))))).bind fun o4 => match o4 with
  | .inl d5 =>
    some (d5.1, ())
  else none
theorem F_laws_toIntA2S_ok (N : Nat) (d) : fnR Γ_laws_toIntA2S (assoc [(0, ⟨laws_toIntA2S_l0_h, laws_toIntA2S_l0_o, laws_toIntA2S_l0 N N⟩)]) true [(K_SPiiq, false)] [K_SPiiq] Try.f75.results.toList (bodyOf Try.f75) d = F_laws_toIntA2S N d := by kernel_rfl
noncomputable def S_laws_toIntA2S : FSig := ⟨[(K_SPiiq, false)], [K_SPiiq], true, (G_toIntA2S)⟩
noncomputable def Γ_laws_toGraph : Ctx := { tk := assoc tks, ar := assoc ars, fs := assoc [(75, S_laws_toIntA2S)] }
noncomputable def F_laws_toGraph (N : Nat) (d : (Int × (List (Int × Int × Unit)) × Unit) × Unit) : Option ((Int × (List (Int × Int × Unit)) × Unit) × Unit) :=
  let a0 : Int × (List (Int × Int × Unit)) × Unit := d.1
  (G_toIntA2S (a0.2.1, ())).bind fun r1 =>
  some (((a0.1, (r1.1, ())), ()))
theorem F_laws_toGraph_ok (N : Nat) (d) : fnR Γ_laws_toGraph (assoc []) true [(K_PiSPiiqq, false)] [K_PiSPiiqq] Try.f26.results.toList (bodyOf Try.f26) d = F_laws_toGraph N d := by kernel_rfl
noncomputable def S_laws_toGraph : FSig := ⟨[(K_PiSPiiqq, false)], [K_PiSPiiqq], true, (F_laws_toGraph 0)⟩
noncomputable def Γ_laws_toIntS : Ctx := { tk := assoc tks, ar := assoc ars, fs := assoc [] }
abbrev laws_toIntS_l0_H := List Int × List Int × Int × Unit
abbrev laws_toIntS_l0_O := (List Int × Unit) ⊕ Empty
def laws_toIntS_l0_h : Form := [(0, .v K_Si), (3, .own K_Si 99), (4, .v I)]
def laws_toIntS_l0_o : Outs := [(.normal, [(3, .own K_Si 99)])]
noncomputable def laws_toIntS_l0_r (N : Nat) (back : laws_toIntS_l0_H → Option laws_toIntS_l0_O) (d : laws_toIntS_l0_H) : Option laws_toIntS_l0_O :=
  let s0 : List Int := d.1
  let s3 : List Int := d.2.1
  let s4 : Int := d.2.2.1
  if (decide (s4 < (List.length s0 : Int))) = true then
    if (idxIn s4 (List.length s0)) = true then
    if (idxIn s4 (List.length s3)) = true then
    let x6 : List Int := List.set s3 s4.toNat (at_ I s0 s4.toNat)
    let x7 : Int := IntKind.wrap .i64 (s4 + (1 : Int))
    back ((s0, (x6, (x7, ()))))
    else none
    else none
  else
    some (.inl (s3, ()))
noncomputable def laws_toIntS_l0 (N : Nat) : Nat → laws_toIntS_l0_H → Option laws_toIntS_l0_O
  | 0, _ => none
  | k + 1, d => laws_toIntS_l0_r N (laws_toIntS_l0 N k) d
theorem laws_toIntS_l0_ok (N : Nat) (back) (d) : roundR Γ_laws_toIntS (assoc []) 0 laws_toIntS_l0_h laws_toIntS_l0_o (loopOf Try.f70 0) back d = laws_toIntS_l0_r N back d := by kernel_rfl
noncomputable def F_laws_toIntS (N : Nat) (d : List Int × Unit) : Option (List Int × Unit) :=
  let a0 : List Int := d.1
  if ((decide (0 ≤ (List.length a0 : Int)) && decide ((List.length a0 : Int) ≤ (List.length a0 : Int)) && decide ((List.length a0 : Int) ≤ (lim : Int)))) = true then
  let x1 : List Int := List.replicate (List.length a0 : Int).toNat (0 : Int)
  (laws_toIntS_l0 N N ((a0, (x1, ((0 : Int), ()))))).bind fun o4 => match o4 with
  | .inl d5 =>
    some (d5.1, ())
  else none
theorem F_laws_toIntS_ok (N : Nat) (d) : fnR Γ_laws_toIntS (assoc [(0, ⟨laws_toIntS_l0_h, laws_toIntS_l0_o, laws_toIntS_l0 N N⟩)]) true [(K_Si, false)] [K_Si] Try.f70.results.toList (bodyOf Try.f70) d = F_laws_toIntS N d := by kernel_rfl
noncomputable def S_laws_toIntS : FSig := ⟨[(K_Si, false)], [K_Si], true, (G_toIntS)⟩
noncomputable def Γ_laws_toIntSS : Ctx := { tk := assoc tks, ar := assoc ars, fs := assoc [(70, S_laws_toIntS)] }
abbrev laws_toIntSS_l0_H := List (List Int) × List (List Int) × Int × Unit
abbrev laws_toIntSS_l0_O := (List (List Int) × Unit) ⊕ Empty
def laws_toIntSS_l0_h : Form := [(0, .v K_SSi), (3, .own K_SSi 99), (4, .v I)]
def laws_toIntSS_l0_o : Outs := [(.normal, [(3, .own K_SSi 99)])]
noncomputable def laws_toIntSS_l0_r (N : Nat) (back : laws_toIntSS_l0_H → Option laws_toIntSS_l0_O) (d : laws_toIntSS_l0_H) : Option laws_toIntSS_l0_O :=
  let s0 : List (List Int) := d.1
  let s3 : List (List Int) := d.2.1
  let s4 : Int := d.2.2.1
  if (decide (s4 < (List.length s0 : Int))) = true then
    if (idxIn s4 (List.length s0)) = true then
    (G_toIntS (at_ K_Si s0 s4.toNat, ())).bind fun r6 =>
    if (idxIn s4 (List.length s3)) = true then
    let x7 : Int := IntKind.wrap .i64 (s4 + (1 : Int))
    back ((s0, (List.set s3 s4.toNat r6.1, (x7, ()))))
    else none
    else none
  else
    some (.inl (s3, ()))
noncomputable def laws_toIntSS_l0 (N : Nat) : Nat → laws_toIntSS_l0_H → Option laws_toIntSS_l0_O
  | 0, _ => none
  | k + 1, d => laws_toIntSS_l0_r N (laws_toIntSS_l0 N k) d
theorem laws_toIntSS_l0_ok (N : Nat) (back) (d) : roundR Γ_laws_toIntSS (assoc []) 0 laws_toIntSS_l0_h laws_toIntSS_l0_o (loopOf Try.f82 0) back d = laws_toIntSS_l0_r N back d := by kernel_rfl
noncomputable def F_laws_toIntSS (N : Nat) (d : List (List Int) × Unit) : Option (List (List Int) × Unit) :=
  let a0 : List (List Int) := d.1
  if ((decide (0 ≤ (List.length a0 : Int)) && decide ((List.length a0 : Int) ≤ (List.length a0 : Int)) && decide ((List.length a0 : Int) ≤ (lim : Int)))) = true then
  let x1 : List (List Int) := List.replicate (List.length a0 : Int).toNat ([] : List Int)
  (laws_toIntSS_l0 N N ((a0, (x1, ((0 : Int), ()))))).bind fun o4 => match o4 with
  | .inl d5 =>
    some (d5.1, ())
  else none
theorem F_laws_toIntSS_ok (N : Nat) (d) : fnR Γ_laws_toIntSS (assoc [(0, ⟨laws_toIntSS_l0_h, laws_toIntSS_l0_o, laws_toIntSS_l0 N N⟩)]) true [(K_SSi, false)] [K_SSi] Try.f82.results.toList (bodyOf Try.f82) d = F_laws_toIntSS N d := by kernel_rfl
noncomputable def S_laws_toIntSS : FSig := ⟨[(K_SSi, false)], [K_SSi], true, (G_toIntSS)⟩
noncomputable def Γ_laws_toTimetable : Ctx := { tk := assoc tks, ar := assoc ars, fs := assoc [(26, S_laws_toGraph), (82, S_laws_toIntSS)] }
noncomputable def F_laws_toTimetable (N : Nat) (d : ((Int × (List (Int × Int × Unit)) × Unit) × Int × List (List Int) × Unit) × Unit) : Option (((Int × (List (Int × Int × Unit)) × Unit) × Int × List (List Int) × Unit) × Unit) :=
  let a0 : (Int × (List (Int × Int × Unit)) × Unit) × Int × List (List Int) × Unit := d.1
  ((F_laws_toGraph 0) (a0.1, ())).bind fun r1 =>
  (G_toIntSS (a0.2.2.1, ())).bind fun r2 =>
  some (((r1.1, (a0.2.1, (r2.1, ()))), ()))
theorem F_laws_toTimetable_ok (N : Nat) (d) : fnR Γ_laws_toTimetable (assoc []) true [(K_PPiSPiiqqiSSiq, false)] [K_PPiSPiiqqiSSiq] Try.f34.results.toList (bodyOf Try.f34) d = F_laws_toTimetable N d := by kernel_rfl
noncomputable def S_laws_toTimetable : FSig := ⟨[(K_PPiSPiiqqiSSiq, false)], [K_PPiSPiiqqiSSiq], true, (F_laws_toTimetable 0)⟩
noncomputable def Γ_laws_toIntSSS : Ctx := { tk := assoc tks, ar := assoc ars, fs := assoc [(82, S_laws_toIntSS)] }
abbrev laws_toIntSSS_l0_H := List (List (List Int)) × List (List (List Int)) × Int × Unit
abbrev laws_toIntSSS_l0_O := (List (List (List Int)) × Unit) ⊕ Empty
def laws_toIntSSS_l0_h : Form := [(0, .v K_SSSi), (3, .own K_SSSi 99), (4, .v I)]
def laws_toIntSSS_l0_o : Outs := [(.normal, [(3, .own K_SSSi 99)])]
noncomputable def laws_toIntSSS_l0_r (N : Nat) (back : laws_toIntSSS_l0_H → Option laws_toIntSSS_l0_O) (d : laws_toIntSSS_l0_H) : Option laws_toIntSSS_l0_O :=
  let s0 : List (List (List Int)) := d.1
  let s3 : List (List (List Int)) := d.2.1
  let s4 : Int := d.2.2.1
  if (decide (s4 < (List.length s0 : Int))) = true then
    if (idxIn s4 (List.length s0)) = true then
    (G_toIntSS (at_ K_SSi s0 s4.toNat, ())).bind fun r6 =>
    if (idxIn s4 (List.length s3)) = true then
    let x7 : Int := IntKind.wrap .i64 (s4 + (1 : Int))
    back ((s0, (List.set s3 s4.toNat r6.1, (x7, ()))))
    else none
    else none
  else
    some (.inl (s3, ()))
noncomputable def laws_toIntSSS_l0 (N : Nat) : Nat → laws_toIntSSS_l0_H → Option laws_toIntSSS_l0_O
  | 0, _ => none
  | k + 1, d => laws_toIntSSS_l0_r N (laws_toIntSSS_l0 N k) d
theorem laws_toIntSSS_l0_ok (N : Nat) (back) (d) : roundR Γ_laws_toIntSSS (assoc []) 0 laws_toIntSSS_l0_h laws_toIntSSS_l0_o (loopOf Try.f62 0) back d = laws_toIntSSS_l0_r N back d := by kernel_rfl
noncomputable def F_laws_toIntSSS (N : Nat) (d : List (List (List Int)) × Unit) : Option (List (List (List Int)) × Unit) :=
  let a0 : List (List (List Int)) := d.1
  if ((decide (0 ≤ (List.length a0 : Int)) && decide ((List.length a0 : Int) ≤ (List.length a0 : Int)) && decide ((List.length a0 : Int) ≤ (lim : Int)))) = true then
  let x1 : List (List (List Int)) := List.replicate (List.length a0 : Int).toNat ([] : List (List Int))
  (laws_toIntSSS_l0 N N ((a0, (x1, ((0 : Int), ()))))).bind fun o4 => match o4 with
  | .inl d5 =>
    some (d5.1, ())
  else none
theorem F_laws_toIntSSS_ok (N : Nat) (d) : fnR Γ_laws_toIntSSS (assoc [(0, ⟨laws_toIntSSS_l0_h, laws_toIntSSS_l0_o, laws_toIntSSS_l0 N N⟩)]) true [(K_SSSi, false)] [K_SSSi] Try.f62.results.toList (bodyOf Try.f62) d = F_laws_toIntSSS N d := by kernel_rfl
noncomputable def S_laws_toIntSSS : FSig := ⟨[(K_SSSi, false)], [K_SSSi], true, (G_toIntSSS)⟩
noncomputable def Γ_spec_l1In : Ctx := { tk := assoc tks, ar := assoc ars, fs := assoc [] }
noncomputable def F_spec_l1In (N : Nat) (d : Int × Int × Int × Unit) : Option (Bool × Unit) :=
  let a0 : Int := d.1
  let a1 : Int := d.2.1
  let a2 : Int := d.2.2.1
  if (decide (a0 ≥ a1)) = true then
    some (decide (a0 ≤ a2), ())
  else
    some (false, ())
theorem F_spec_l1In_ok (N : Nat) (d) : fnR Γ_spec_l1In (assoc []) true [(I, false), (I, false), (I, false)] [.bool] Try.f122.results.toList (bodyOf Try.f122) d = F_spec_l1In N d := by kernel_rfl
noncomputable def g_spec_l1In (d : Int × Int × Int × Unit) : Bool × Unit :=
  let a0 : Int := d.1
  let a1 : Int := d.2.1
  let a2 : Int := d.2.2.1
  if (decide (a0 ≥ a1)) = true then
    (decide (a0 ≤ a2), ())
  else
    (false, ())
theorem F_spec_l1In_tot (N : Nat) (d) : F_spec_l1In N d = some (g_spec_l1In d) := by
  unfold F_spec_l1In g_spec_l1In
  first
    | rfl
    | (dsimp only; (repeat' split) <;> rfl)
noncomputable def S_spec_l1In : FSig := ⟨[(I, false), (I, false), (I, false)], [.bool], true, (fun d => some (g_spec_l1In d))⟩
noncomputable def Γ_spec_l1Rising : Ctx := { tk := assoc tks, ar := assoc ars, fs := assoc [(122, S_spec_l1In)] }
abbrev spec_l1Rising_l0_H := List Int × Int × Int × Int × Unit
abbrev spec_l1Rising_l0_O := (Bool × Unit) ⊕ Unit ⊕ Empty
def spec_l1Rising_l0_h : Form := [(0, .v K_Si), (1, .v I), (2, .v I), (7, .v I)]
def spec_l1Rising_l0_o : Outs := [(.ret, [(6, .v .bool)]), (.normal, [])]
noncomputable def spec_l1Rising_l0_r (N : Nat) (back : spec_l1Rising_l0_H → Option spec_l1Rising_l0_O) (d : spec_l1Rising_l0_H) : Option spec_l1Rising_l0_O :=
  let s0 : List Int := d.1
  let s1 : Int := d.2.1
  let s2 : Int := d.2.2.1
  let s7 : Int := d.2.2.2.1
  if (decide (s7 < (List.length s0 : Int))) = true then
    if (idxIn s7 (List.length s0)) = true then
    let r8 : Bool × Unit := g_spec_l1In ((at_ I s0 s7.toNat, (s1, (s2, ()))))
    if (!r8.1) = true then
      some (.inl (false, ()))
    else
      if (decide (s7 > (0 : Int))) = true then
        let x9 : Int := IntKind.wrap .i64 (s7 - (1 : Int))
        if (idxIn x9 (List.length s0)) = true then
        if (idxIn s7 (List.length s0)) = true then
        if (decide (at_ I s0 x9.toNat ≥ at_ I s0 s7.toNat)) = true then
          some (.inl (false, ()))
        else
          let x10 : Int := IntKind.wrap .i64 (s7 + (1 : Int))
          back ((s0, (s1, (s2, (x10, ())))))
        else none
        else none
      else
        let x11 : Int := IntKind.wrap .i64 (s7 + (1 : Int))
        back ((s0, (s1, (s2, (x11, ())))))
    else none
  else
    some (.inr (.inl ()))
noncomputable def spec_l1Rising_l0 (N : Nat) : Nat → spec_l1Rising_l0_H → Option spec_l1Rising_l0_O
  | 0, _ => none
  | k + 1, d => spec_l1Rising_l0_r N (spec_l1Rising_l0 N k) d
theorem spec_l1Rising_l0_ok (N : Nat) (back) (d) : roundR Γ_spec_l1Rising (assoc []) 0 spec_l1Rising_l0_h spec_l1Rising_l0_o (loopOf Try.f128 0) back d = spec_l1Rising_l0_r N back d := by kernel_rfl
noncomputable def F_spec_l1Rising (N : Nat) (d : List Int × Int × Int × Unit) : Option (Bool × Unit) :=
  let a0 : List Int := d.1
  let a1 : Int := d.2.1
  let a2 : Int := d.2.2.1
  (spec_l1Rising_l0 N N ((a0, (a1, (a2, ((0 : Int), ())))))).bind fun o5 => match o5 with
  | .inl d6 =>
    some (d6.1, ())
  | .inr (.inl d7) =>
    some (true, ())
theorem F_spec_l1Rising_ok (N : Nat) (d) : fnR Γ_spec_l1Rising (assoc [(0, ⟨spec_l1Rising_l0_h, spec_l1Rising_l0_o, spec_l1Rising_l0 N N⟩)]) true [(K_Si, false), (I, false), (I, false)] [.bool] Try.f128.results.toList (bodyOf Try.f128) d = F_spec_l1Rising N d := by kernel_rfl
noncomputable def S_spec_l1Rising : FSig := ⟨[(K_Si, false), (I, false), (I, false)], [.bool], true, (G_l1Rising)⟩
noncomputable def Γ_spec_l2Before : Ctx := { tk := assoc tks, ar := assoc ars, fs := assoc [] }
noncomputable def F_spec_l2Before (N : Nat) (d : (Int × Int × Unit) × (Int × Int × Unit) × Unit) : Option (Bool × Unit) :=
  let a0 : Int × Int × Unit := d.1
  let a1 : Int × Int × Unit := d.2.1
  if (decide (a0.1 < a1.1)) = true then
    some (true, ())
  else
    if (a0.1 == a1.1) = true then
      some (decide (a0.2.1 < a1.2.1), ())
    else
      some (false, ())
theorem F_spec_l2Before_ok (N : Nat) (d) : fnR Γ_spec_l2Before (assoc []) true [(K_Piiq, false), (K_Piiq, false)] [.bool] Try.f148.results.toList (bodyOf Try.f148) d = F_spec_l2Before N d := by kernel_rfl
noncomputable def g_spec_l2Before (d : (Int × Int × Unit) × (Int × Int × Unit) × Unit) : Bool × Unit :=
  let a0 : Int × Int × Unit := d.1
  let a1 : Int × Int × Unit := d.2.1
  if (decide (a0.1 < a1.1)) = true then
    (true, ())
  else
    if (a0.1 == a1.1) = true then
      (decide (a0.2.1 < a1.2.1), ())
    else
      (false, ())
theorem F_spec_l2Before_tot (N : Nat) (d) : F_spec_l2Before N d = some (g_spec_l2Before d) := by
  unfold F_spec_l2Before g_spec_l2Before
  first
    | rfl
    | (dsimp only; (repeat' split) <;> rfl)
noncomputable def S_spec_l2Before : FSig := ⟨[(K_Piiq, false), (K_Piiq, false)], [.bool], true, (fun d => some (g_spec_l2Before d))⟩
noncomputable def Γ_spec_l2Good : Ctx := { tk := assoc tks, ar := assoc ars, fs := assoc [(122, S_spec_l1In), (148, S_spec_l2Before)] }
abbrev spec_l2Good_l0_H := (Int × (List (Int × Int × Unit)) × Unit) × Int × Unit
abbrev spec_l2Good_l0_O := (Bool × Unit) ⊕ ((Int × (List (Int × Int × Unit)) × Unit) × Unit) ⊕ Empty
def spec_l2Good_l0_h : Form := [(1, .box K_PiSPiiqq 0), (3, .v I)]
def spec_l2Good_l0_o : Outs := [(.ret, [(2, .v .bool)]), (.normal, [(1, .box K_PiSPiiqq 0)])]
noncomputable def spec_l2Good_l0_r (N : Nat) (back : spec_l2Good_l0_H → Option spec_l2Good_l0_O) (d : spec_l2Good_l0_H) : Option spec_l2Good_l0_O :=
  let s1 : Int × (List (Int × Int × Unit)) × Unit := d.1
  let s3 : Int := d.2.1
  if (decide (s3 < (List.length s1.2.1 : Int))) = true then
    if (idxIn s3 (List.length s1.2.1)) = true then
    let x13 : Int := IntKind.wrap .i64 (s1.1 - (1 : Int))
    let r14 : Bool × Unit := g_spec_l1In (((at_ K_Piiq s1.2.1 s3.toNat).1, ((0 : Int), (x13, ()))))
    if (!r14.1) = true then
      some (.inl (false, ()))
    else
      let x15 : Int := IntKind.wrap .i64 (s1.1 - (1 : Int))
      let r16 : Bool × Unit := g_spec_l1In (((at_ K_Piiq s1.2.1 s3.toNat).2.1, ((0 : Int), (x15, ()))))
      if (!r16.1) = true then
        some (.inl (false, ()))
      else
        if (decide ((at_ K_Piiq s1.2.1 s3.toNat).1 ≥ (at_ K_Piiq s1.2.1 s3.toNat).2.1)) = true then
          some (.inl (false, ()))
        else
          if (decide (s3 > (0 : Int))) = true then
            let x17 : Int := IntKind.wrap .i64 (s3 - (1 : Int))
            if (idxIn x17 (List.length s1.2.1)) = true then
            let r18 : Bool × Unit := g_spec_l2Before ((at_ K_Piiq s1.2.1 x17.toNat, (at_ K_Piiq s1.2.1 s3.toNat, ())))
            if (!r18.1) = true then
              some (.inl (false, ()))
            else
              let x19 : Int := IntKind.wrap .i64 (s3 + (1 : Int))
              back ((s1, (x19, ())))
            else none
          else
            let x20 : Int := IntKind.wrap .i64 (s3 + (1 : Int))
            back ((s1, (x20, ())))
    else none
  else
    some (.inr (.inl (s1, ())))
noncomputable def spec_l2Good_l0 (N : Nat) : Nat → spec_l2Good_l0_H → Option spec_l2Good_l0_O
  | 0, _ => none
  | k + 1, d => spec_l2Good_l0_r N (spec_l2Good_l0 N k) d
theorem spec_l2Good_l0_ok (N : Nat) (back) (d) : roundR Γ_spec_l2Good (assoc []) 0 spec_l2Good_l0_h spec_l2Good_l0_o (loopOf Try.f119 0) back d = spec_l2Good_l0_r N back d := by kernel_rfl
noncomputable def F_spec_l2Good (N : Nat) (d : (Int × (List (Int × Int × Unit)) × Unit) × Unit) : Option (Bool × Unit) :=
  let a0 : Int × (List (Int × Int × Unit)) × Unit := d.1
  (spec_l2Good_l0 N N ((a0, ((0 : Int), ())))).bind fun o9 => match o9 with
  | .inl d10 =>
    some (d10.1, ())
  | .inr (.inl d11) =>
    let r12 : Bool × Unit := g_spec_l1In ((d11.1.1, ((0 : Int), ((8 : Int), ()))))
    some (r12.1, ())
theorem F_spec_l2Good_ok (N : Nat) (d) : fnR Γ_spec_l2Good (assoc [(0, ⟨spec_l2Good_l0_h, spec_l2Good_l0_o, spec_l2Good_l0 N N⟩)]) true [(K_PiSPiiqq, false)] [.bool] Try.f119.results.toList (bodyOf Try.f119) d = F_spec_l2Good N d := by kernel_rfl
noncomputable def S_spec_l2Good : FSig := ⟨[(K_PiSPiiqq, false)], [.bool], true, (G_graph)⟩
noncomputable def Γ_spec_l4Field : Ctx := { tk := assoc tks, ar := assoc ars, fs := assoc [(119, S_spec_l2Good), (122, S_spec_l1In)] }
noncomputable def F_spec_l4Field (N : Nat) (d : (Int × (List (Int × Int × Unit)) × Unit) × Int × Unit) : Option (Bool × Unit) :=
  let a0 : Int × (List (Int × Int × Unit)) × Unit := d.1
  let a1 : Int := d.2.1
  (G_graph (a0, ())).bind fun r1 =>
  if (r1.1) = true then
    if (decide (a0.1 > (0 : Int))) = true then
      let r2 : Bool × Unit := g_spec_l1In ((a1, ((1 : Int), ((3 : Int), ()))))
      some (r2.1, ())
    else
      some (false, ())
  else
    some (false, ())
theorem F_spec_l4Field_ok (N : Nat) (d) : fnR Γ_spec_l4Field (assoc []) true [(K_PiSPiiqq, false), (I, false)] [.bool] Try.f88.results.toList (bodyOf Try.f88) d = F_spec_l4Field N d := by kernel_rfl
noncomputable def S_spec_l4Field : FSig := ⟨[(K_PiSPiiqq, false), (I, false)], [.bool], true, (F_spec_l4Field 0)⟩
noncomputable def Γ_spec_l11Good : Ctx := { tk := assoc tks, ar := assoc ars, fs := assoc [(88, S_spec_l4Field), (122, S_spec_l1In), (128, S_spec_l1Rising)] }
abbrev spec_l11Good_l0_H := ((Int × (List (Int × Int × Unit)) × Unit) × Int × List (List Int) × Unit) × Int × Unit
abbrev spec_l11Good_l0_O := (Bool × Unit) ⊕ (((Int × (List (Int × Int × Unit)) × Unit) × Int × List (List Int) × Unit) × Unit) ⊕ Empty
def spec_l11Good_l0_h : Form := [(1, .box K_PPiSPiiqqiSSiq 0), (3, .v I)]
def spec_l11Good_l0_o : Outs := [(.ret, [(2, .v .bool)]), (.normal, [(1, .box K_PPiSPiiqqiSSiq 0)])]
noncomputable def spec_l11Good_l0_r (N : Nat) (back : spec_l11Good_l0_H → Option spec_l11Good_l0_O) (d : spec_l11Good_l0_H) : Option spec_l11Good_l0_O :=
  let s1 : (Int × (List (Int × Int × Unit)) × Unit) × Int × List (List Int) × Unit := d.1
  let s3 : Int := d.2.1
  if (decide (s3 < (List.length s1.2.2.1 : Int))) = true then
    if (idxIn s3 (List.length s1.2.2.1)) = true then
    let x9 : Int := IntKind.wrap .i64 (s1.2.1 - (1 : Int))
    (G_l1Rising ((at_ K_Si s1.2.2.1 s3.toNat, ((0 : Int), (x9, ()))))).bind fun r10 =>
    if (!r10.1) = true then
      some (.inl (false, ()))
    else
      let x11 : Int := IntKind.wrap .i64 (s3 + (1 : Int))
      back ((s1, (x11, ())))
    else none
  else
    some (.inr (.inl (s1, ())))
noncomputable def spec_l11Good_l0 (N : Nat) : Nat → spec_l11Good_l0_H → Option spec_l11Good_l0_O
  | 0, _ => none
  | k + 1, d => spec_l11Good_l0_r N (spec_l11Good_l0 N k) d
theorem spec_l11Good_l0_ok (N : Nat) (back) (d) : roundR Γ_spec_l11Good (assoc []) 0 spec_l11Good_l0_h spec_l11Good_l0_o (loopOf Try.f81 0) back d = spec_l11Good_l0_r N back d := by kernel_rfl
noncomputable def F_spec_l11Good (N : Nat) (d : ((Int × (List (Int × Int × Unit)) × Unit) × Int × List (List Int) × Unit) × Unit) : Option (Bool × Unit) :=
  let a0 : (Int × (List (Int × Int × Unit)) × Unit) × Int × List (List Int) × Unit := d.1
  (spec_l11Good_l0 N N ((a0, ((0 : Int), ())))).bind fun o4 => match o4 with
  | .inl d5 =>
    some (d5.1, ())
  | .inr (.inl d6) =>
    ((F_spec_l4Field 0) ((d6.1.1, ((1 : Int), ())))).bind fun r7 =>
    if (r7.1) = true then
      let r8 : Bool × Unit := g_spec_l1In ((d6.1.2.1, ((1 : Int), ((4 : Int), ()))))
      if (r8.1) = true then
        some ((List.length d6.1.2.2.1 : Int) == (List.length d6.1.1.2.1 : Int), ())
      else
        some (false, ())
    else
      some (false, ())
theorem F_spec_l11Good_ok (N : Nat) (d) : fnR Γ_spec_l11Good (assoc [(0, ⟨spec_l11Good_l0_h, spec_l11Good_l0_o, spec_l11Good_l0 N N⟩)]) true [(K_PPiSPiiqqiSSiq, false)] [.bool] Try.f81.results.toList (bodyOf Try.f81) d = F_spec_l11Good N d := by kernel_rfl
noncomputable def S_spec_l11Good : FSig := ⟨[(K_PPiSPiiqqiSSiq, false)], [.bool], true, (G_l11Good)⟩
noncomputable def Γ_spec_l11Form : Ctx := { tk := assoc tks, ar := assoc ars, fs := assoc [] }
abbrev spec_l11Form_l4_H := List (List (List Int)) × ((Int × (List (Int × Int × Unit)) × Unit) × Int × List (List Int) × Unit) × Int × Int × Int × Unit
abbrev spec_l11Form_l4_O := (Bool × Unit) ⊕ (List (List (List Int)) × ((Int × (List (Int × Int × Unit)) × Unit) × Int × List (List Int) × Unit) × Int × Int × Unit) ⊕ Empty
def spec_l11Form_l4_h : Form := [(1, .v K_SSSi), (2, .box K_PPiSPiiqqiSSiq 0), (5, .v I), (6, .v I), (7, .v I)]
def spec_l11Form_l4_o : Outs := [(.ret, [(4, .v .bool)]), (.normal, [(1, .v K_SSSi), (2, .box K_PPiSPiiqqiSSiq 0), (5, .v I), (6, .v I)])]
noncomputable def spec_l11Form_l4_r (N : Nat) (back : spec_l11Form_l4_H → Option spec_l11Form_l4_O) (d : spec_l11Form_l4_H) : Option spec_l11Form_l4_O :=
  let s1 : List (List (List Int)) := d.1
  let s2 : (Int × (List (Int × Int × Unit)) × Unit) × Int × List (List Int) × Unit := d.2.1
  let s5 : Int := d.2.2.1
  let s6 : Int := d.2.2.2.1
  let s7 : Int := d.2.2.2.2.1
  if (idxIn s5 (List.length s1)) = true then
  if (idxIn s6 (List.length (at_ K_SSi s1 s5.toNat))) = true then
  if (decide (s7 < (List.length (at_ K_Si (at_ K_SSi s1 s5.toNat) s6.toNat) : Int))) = true then
    if (idxIn s5 (List.length s1)) = true then
    if (idxIn s6 (List.length (at_ K_SSi s1 s5.toNat))) = true then
    if (idxIn s7 (List.length (at_ K_Si (at_ K_SSi s1 s5.toNat) s6.toNat))) = true then
    if (decide (at_ I (at_ K_Si (at_ K_SSi s1 s5.toNat) s6.toNat) s7.toNat < (-1 : Int))) = true then
      some (.inl (false, ()))
    else
      let x27 : Int := IntKind.wrap .i64 (s7 + (1 : Int))
      back ((s1, (s2, (s5, (s6, (x27, ()))))))
    else none
    else none
    else none
  else
    some (.inr (.inl ((s1, (s2, (s5, (s6, ())))))))
  else none
  else none
noncomputable def spec_l11Form_l4 (N : Nat) : Nat → spec_l11Form_l4_H → Option spec_l11Form_l4_O
  | 0, _ => none
  | k + 1, d => spec_l11Form_l4_r N (spec_l11Form_l4 N k) d
theorem spec_l11Form_l4_ok (N : Nat) (back) (d) : roundR Γ_spec_l11Form (assoc []) 4 spec_l11Form_l4_h spec_l11Form_l4_o (loopOf Try.f112 4) back d = spec_l11Form_l4_r N back d := by kernel_rfl
abbrev spec_l11Form_l2_H := List (List (List Int)) × ((Int × (List (Int × Int × Unit)) × Unit) × Int × List (List Int) × Unit) × Int × Int × Unit
abbrev spec_l11Form_l2_O := (Bool × Unit) ⊕ (List (List (List Int)) × ((Int × (List (Int × Int × Unit)) × Unit) × Int × List (List Int) × Unit) × Int × Unit) ⊕ Empty
def spec_l11Form_l2_h : Form := [(1, .v K_SSSi), (2, .box K_PPiSPiiqqiSSiq 0), (5, .v I), (6, .v I)]
def spec_l11Form_l2_o : Outs := [(.ret, [(4, .v .bool)]), (.normal, [(1, .v K_SSSi), (2, .box K_PPiSPiiqqiSSiq 0), (5, .v I)])]
noncomputable def spec_l11Form_l2_r (N : Nat) (back : spec_l11Form_l2_H → Option spec_l11Form_l2_O) (d : spec_l11Form_l2_H) : Option spec_l11Form_l2_O :=
  let s1 : List (List (List Int)) := d.1
  let s2 : (Int × (List (Int × Int × Unit)) × Unit) × Int × List (List Int) × Unit := d.2.1
  let s5 : Int := d.2.2.1
  let s6 : Int := d.2.2.2.1
  if (idxIn s5 (List.length s1)) = true then
  if (decide (s6 < (List.length (at_ K_SSi s1 s5.toNat) : Int))) = true then
    if (idxIn s5 (List.length s1)) = true then
    if (idxIn s6 (List.length (at_ K_SSi s1 s5.toNat))) = true then
    if ((List.length (at_ K_Si (at_ K_SSi s1 s5.toNat) s6.toNat) : Int) != s2.1.1) = true then
      some (.inl (false, ()))
    else
      (spec_l11Form_l4 N N ((s1, (s2, (s5, (s6, ((0 : Int), ()))))))).bind fun o23 => match o23 with
      | .inl d24 =>
        some (.inl (d24.1, ()))
      | .inr (.inl d25) =>
        let x26 : Int := IntKind.wrap .i64 (d25.2.2.2.1 + (1 : Int))
        back ((d25.1, (d25.2.1, (d25.2.2.1, (x26, ())))))
    else none
    else none
  else
    some (.inr (.inl ((s1, (s2, (s5, ()))))))
  else none
noncomputable def spec_l11Form_l2 (N : Nat) : Nat → spec_l11Form_l2_H → Option spec_l11Form_l2_O
  | 0, _ => none
  | k + 1, d => spec_l11Form_l2_r N (spec_l11Form_l2 N k) d
theorem spec_l11Form_l2_ok (N : Nat) (back) (d) : roundR Γ_spec_l11Form (assoc [(4, ⟨spec_l11Form_l4_h, spec_l11Form_l4_o, spec_l11Form_l4 N N⟩)]) 2 spec_l11Form_l2_h spec_l11Form_l2_o (loopOf Try.f112 2) back d = spec_l11Form_l2_r N back d := by kernel_rfl
abbrev spec_l11Form_l0_H := List (List (List Int)) × ((Int × (List (Int × Int × Unit)) × Unit) × Int × List (List Int) × Unit) × Int × Unit
abbrev spec_l11Form_l0_O := (Bool × Unit) ⊕ (List (List (List Int)) × ((Int × (List (Int × Int × Unit)) × Unit) × Int × List (List Int) × Unit) × Unit) ⊕ Empty
def spec_l11Form_l0_h : Form := [(1, .v K_SSSi), (2, .box K_PPiSPiiqqiSSiq 0), (5, .v I)]
def spec_l11Form_l0_o : Outs := [(.ret, [(4, .v .bool)]), (.normal, [(1, .v K_SSSi), (2, .box K_PPiSPiiqqiSSiq 0)])]
noncomputable def spec_l11Form_l0_r (N : Nat) (back : spec_l11Form_l0_H → Option spec_l11Form_l0_O) (d : spec_l11Form_l0_H) : Option spec_l11Form_l0_O :=
  let s1 : List (List (List Int)) := d.1
  let s2 : (Int × (List (Int × Int × Unit)) × Unit) × Int × List (List Int) × Unit := d.2.1
  let s5 : Int := d.2.2.1
  if (decide (s5 < (List.length s1 : Int))) = true then
    if (idxIn s5 (List.length s1)) = true then
    if ((List.length (at_ K_SSi s1 s5.toNat) : Int) != s2.1.1) = true then
      some (.inl (false, ()))
    else
      (spec_l11Form_l2 N N ((s1, (s2, (s5, ((0 : Int), ())))))).bind fun o18 => match o18 with
      | .inl d19 =>
        some (.inl (d19.1, ()))
      | .inr (.inl d20) =>
        let x21 : Int := IntKind.wrap .i64 (d20.2.2.1 + (1 : Int))
        back ((d20.1, (d20.2.1, (x21, ()))))
    else none
  else
    some (.inr (.inl ((s1, (s2, ())))))
noncomputable def spec_l11Form_l0 (N : Nat) : Nat → spec_l11Form_l0_H → Option spec_l11Form_l0_O
  | 0, _ => none
  | k + 1, d => spec_l11Form_l0_r N (spec_l11Form_l0 N k) d
theorem spec_l11Form_l0_ok (N : Nat) (back) (d) : roundR Γ_spec_l11Form (assoc [(2, ⟨spec_l11Form_l2_h, spec_l11Form_l2_o, spec_l11Form_l2 N N⟩)]) 0 spec_l11Form_l0_h spec_l11Form_l0_o (loopOf Try.f112 0) back d = spec_l11Form_l0_r N back d := by kernel_rfl
noncomputable def F_spec_l11Form (N : Nat) (d : ((Int × (List (Int × Int × Unit)) × Unit) × Int × List (List Int) × Unit) × List (List (List Int)) × Unit) : Option (Bool × Unit) :=
  let a0 : (Int × (List (Int × Int × Unit)) × Unit) × Int × List (List Int) × Unit := d.1
  let a1 : List (List (List Int)) := d.2.1
  (spec_l11Form_l0 N N ((a1, (a0, ((0 : Int), ()))))).bind fun o10 => match o10 with
  | .inl d11 =>
    some (d11.1, ())
  | .inr (.inl d12) =>
    some ((List.length d12.1 : Int) == d12.2.1.2.1, ())
theorem F_spec_l11Form_ok (N : Nat) (d) : fnR Γ_spec_l11Form (assoc [(0, ⟨spec_l11Form_l0_h, spec_l11Form_l0_o, spec_l11Form_l0 N N⟩)]) true [(K_PPiSPiiqqiSSiq, false), (K_SSSi, false)] [.bool] Try.f112.results.toList (bodyOf Try.f112) d = F_spec_l11Form N d := by kernel_rfl
noncomputable def S_spec_l11Form : FSig := ⟨[(K_PPiSPiiqqiSSiq, false), (K_SSSi, false)], [.bool], true, (G_l11Form)⟩
noncomputable def Γ_spec_l1Has : Ctx := { tk := assoc tks, ar := assoc ars, fs := assoc [] }
abbrev spec_l1Has_l0_H := List Int × Int × Int × Unit
abbrev spec_l1Has_l0_O := (Bool × Unit) ⊕ Unit ⊕ Empty
def spec_l1Has_l0_h : Form := [(0, .v K_Si), (1, .v I), (5, .v I)]
def spec_l1Has_l0_o : Outs := [(.ret, [(4, .v .bool)]), (.normal, [])]
noncomputable def spec_l1Has_l0_r (N : Nat) (back : spec_l1Has_l0_H → Option spec_l1Has_l0_O) (d : spec_l1Has_l0_H) : Option spec_l1Has_l0_O :=
  let s0 : List Int := d.1
  let s1 : Int := d.2.1
  let s5 : Int := d.2.2.1
  if (decide (s5 < (List.length s0 : Int))) = true then
    if (idxIn s5 (List.length s0)) = true then
    if (at_ I s0 s5.toNat == s1) = true then
      some (.inl (true, ()))
    else
      let x5 : Int := IntKind.wrap .i64 (s5 + (1 : Int))
      back ((s0, (s1, (x5, ()))))
    else none
  else
    some (.inr (.inl ()))
noncomputable def spec_l1Has_l0 (N : Nat) : Nat → spec_l1Has_l0_H → Option spec_l1Has_l0_O
  | 0, _ => none
  | k + 1, d => spec_l1Has_l0_r N (spec_l1Has_l0 N k) d
theorem spec_l1Has_l0_ok (N : Nat) (back) (d) : roundR Γ_spec_l1Has (assoc []) 0 spec_l1Has_l0_h spec_l1Has_l0_o (loopOf Try.f131 0) back d = spec_l1Has_l0_r N back d := by kernel_rfl
noncomputable def F_spec_l1Has (N : Nat) (d : List Int × Int × Unit) : Option (Bool × Unit) :=
  let a0 : List Int := d.1
  let a1 : Int := d.2.1
  (spec_l1Has_l0 N N ((a0, (a1, ((0 : Int), ()))))).bind fun o2 => match o2 with
  | .inl d3 =>
    some (d3.1, ())
  | .inr (.inl d4) =>
    some (false, ())
theorem F_spec_l1Has_ok (N : Nat) (d) : fnR Γ_spec_l1Has (assoc [(0, ⟨spec_l1Has_l0_h, spec_l1Has_l0_o, spec_l1Has_l0 N N⟩)]) true [(K_Si, false), (I, false)] [.bool] Try.f131.results.toList (bodyOf Try.f131) d = F_spec_l1Has N d := by kernel_rfl
noncomputable def S_spec_l1Has : FSig := ⟨[(K_Si, false), (I, false)], [.bool], true, (G_l1Has)⟩
noncomputable def Γ_spec_l11Open : Ctx := { tk := assoc tks, ar := assoc ars, fs := assoc [(131, S_spec_l1Has)] }
abbrev spec_l11Open_l0_H := Int × ((Int × (List (Int × Int × Unit)) × Unit) × Int × List (List Int) × Unit) × (Int × (List (Int × Int × Unit)) × Unit) × (Int × (List (Int × Int × Unit)) × Unit) × Int × Unit
abbrev spec_l11Open_l0_O := ((Int × (List (Int × Int × Unit)) × Unit) × (Int × (List (Int × Int × Unit)) × Unit) × Unit) ⊕ Empty
def spec_l11Open_l0_h : Form := [(1, .v I), (2, .box K_PPiSPiiqqiSSiq 0), (4, .box K_PiSPiiqq 99), (5, .box K_PiSPiiqq 99), (6, .v I)]
def spec_l11Open_l0_o : Outs := [(.normal, [(4, .box K_PiSPiiqq 99), (5, .box K_PiSPiiqq 99)])]
noncomputable def spec_l11Open_l0_r (N : Nat) (back : spec_l11Open_l0_H → Option spec_l11Open_l0_O) (d : spec_l11Open_l0_H) : Option spec_l11Open_l0_O :=
  let s1 : Int := d.1
  let s2 : (Int × (List (Int × Int × Unit)) × Unit) × Int × List (List Int) × Unit := d.2.1
  let s4 : Int × (List (Int × Int × Unit)) × Unit := d.2.2.1
  let s5 : Int × (List (Int × Int × Unit)) × Unit := d.2.2.2.1
  let s6 : Int := d.2.2.2.2.1
  if (decide (s6 < (List.length s2.1.2.1 : Int))) = true then
    if (idxIn s6 (List.length s2.2.2.1)) = true then
    if (s2.2.1 != 0) = true then
    (G_l1Has ((at_ K_Si s2.2.2.1 s6.toNat, (s1.tmod s2.2.1, ())))).bind fun r7 =>
    if (r7.1) = true then
      if (idxIn s6 (List.length s2.1.2.1)) = true then
      if (decide (List.length s5.2.1 + List.length ([at_ K_Piiq s2.1.2.1 s6.toNat]) ≤ lim)) = true then
      let x8 : List (Int × Int × Unit) := s5.2.1 ++ ([at_ K_Piiq s2.1.2.1 s6.toNat])
      let x9 : Int := IntKind.wrap .i64 (s6 + (1 : Int))
      back ((s1, (s2, (s4, ((s5.1, (x8, s5.2.2)), (x9, ()))))))
      else none
      else none
    else
      let x10 : Int := IntKind.wrap .i64 (s6 + (1 : Int))
      back ((s1, (s2, (s4, (s5, (x10, ()))))))
    else none
    else none
  else
    some (.inl ((s4, (s5, ()))))
noncomputable def spec_l11Open_l0 (N : Nat) : Nat → spec_l11Open_l0_H → Option spec_l11Open_l0_O
  | 0, _ => none
  | k + 1, d => spec_l11Open_l0_r N (spec_l11Open_l0 N k) d
theorem spec_l11Open_l0_ok (N : Nat) (back) (d) : roundR Γ_spec_l11Open (assoc []) 0 spec_l11Open_l0_h spec_l11Open_l0_o (loopOf Try.f94 0) back d = spec_l11Open_l0_r N back d := by kernel_rfl
noncomputable def F_spec_l11Open (N : Nat) (d : ((Int × (List (Int × Int × Unit)) × Unit) × Int × List (List Int) × Unit) × Int × Unit) : Option ((Int × (List (Int × Int × Unit)) × Unit) × Unit) :=
  let a0 : (Int × (List (Int × Int × Unit)) × Unit) × Int × List (List Int) × Unit := d.1
  let a1 : Int := d.2.1
  (spec_l11Open_l0 N N ((a1, (a0, (((0 : Int), (([] : List (Int × Int × Unit)), ())), ((a0.1.1, (([] : List (Int × Int × Unit)), ())), ((0 : Int), ()))))))).bind fun o5 => match o5 with
  | .inl d6 =>
    some (d6.2.1, ())
theorem F_spec_l11Open_ok (N : Nat) (d) : fnR Γ_spec_l11Open (assoc [(0, ⟨spec_l11Open_l0_h, spec_l11Open_l0_o, spec_l11Open_l0 N N⟩)]) true [(K_PPiSPiiqqiSSiq, false), (I, false)] [K_PiSPiiqq] Try.f94.results.toList (bodyOf Try.f94) d = F_spec_l11Open N d := by kernel_rfl
noncomputable def S_spec_l11Open : FSig := ⟨[(K_PPiSPiiqqiSSiq, false), (I, false)], [K_PiSPiiqq], true, (G_l11Open)⟩
noncomputable def Γ_spec_l2Near : Ctx := { tk := assoc tks, ar := assoc ars, fs := assoc [] }
abbrev spec_l2Near_l0_H := Int × Int × (Int × (List (Int × Int × Unit)) × Unit) × Int × Unit
abbrev spec_l2Near_l0_O := (Bool × Unit) ⊕ Unit ⊕ Empty
def spec_l2Near_l0_h : Form := [(1, .v I), (2, .v I), (3, .box K_PiSPiiqq 0), (7, .v I)]
def spec_l2Near_l0_o : Outs := [(.ret, [(6, .v .bool)]), (.normal, [])]
noncomputable def spec_l2Near_l0_r (N : Nat) (back : spec_l2Near_l0_H → Option spec_l2Near_l0_O) (d : spec_l2Near_l0_H) : Option spec_l2Near_l0_O :=
  let s1 : Int := d.1
  let s2 : Int := d.2.1
  let s3 : Int × (List (Int × Int × Unit)) × Unit := d.2.2.1
  let s7 : Int := d.2.2.2.1
  if (decide (s7 < (List.length s3.2.1 : Int))) = true then
    if (idxIn s7 (List.length s3.2.1)) = true then
    if ((at_ K_Piiq s3.2.1 s7.toNat).1 == s1) = true then
      if ((at_ K_Piiq s3.2.1 s7.toNat).2.1 == s2) = true then
        some (.inl (true, ()))
      else
        if ((at_ K_Piiq s3.2.1 s7.toNat).1 == s2) = true then
          if ((at_ K_Piiq s3.2.1 s7.toNat).2.1 == s1) = true then
            some (.inl (true, ()))
          else
            let x8 : Int := IntKind.wrap .i64 (s7 + (1 : Int))
            back ((s1, (s2, (s3, (x8, ())))))
        else
          let x9 : Int := IntKind.wrap .i64 (s7 + (1 : Int))
          back ((s1, (s2, (s3, (x9, ())))))
    else
      if ((at_ K_Piiq s3.2.1 s7.toNat).1 == s2) = true then
        if ((at_ K_Piiq s3.2.1 s7.toNat).2.1 == s1) = true then
          some (.inl (true, ()))
        else
          let x10 : Int := IntKind.wrap .i64 (s7 + (1 : Int))
          back ((s1, (s2, (s3, (x10, ())))))
      else
        let x11 : Int := IntKind.wrap .i64 (s7 + (1 : Int))
        back ((s1, (s2, (s3, (x11, ())))))
    else none
  else
    some (.inr (.inl ()))
noncomputable def spec_l2Near_l0 (N : Nat) : Nat → spec_l2Near_l0_H → Option spec_l2Near_l0_O
  | 0, _ => none
  | k + 1, d => spec_l2Near_l0_r N (spec_l2Near_l0 N k) d
theorem spec_l2Near_l0_ok (N : Nat) (back) (d) : roundR Γ_spec_l2Near (assoc []) 0 spec_l2Near_l0_h spec_l2Near_l0_o (loopOf Try.f156 0) back d = spec_l2Near_l0_r N back d := by kernel_rfl
noncomputable def F_spec_l2Near (N : Nat) (d : (Int × (List (Int × Int × Unit)) × Unit) × Int × Int × Unit) : Option (Bool × Unit) :=
  let a0 : Int × (List (Int × Int × Unit)) × Unit := d.1
  let a1 : Int := d.2.1
  let a2 : Int := d.2.2.1
  (spec_l2Near_l0 N N ((a1, (a2, (a0, ((0 : Int), ())))))).bind fun o5 => match o5 with
  | .inl d6 =>
    some (d6.1, ())
  | .inr (.inl d7) =>
    some (false, ())
theorem F_spec_l2Near_ok (N : Nat) (d) : fnR Γ_spec_l2Near (assoc [(0, ⟨spec_l2Near_l0_h, spec_l2Near_l0_o, spec_l2Near_l0 N N⟩)]) true [(K_PiSPiiqq, false), (I, false), (I, false)] [.bool] Try.f156.results.toList (bodyOf Try.f156) d = F_spec_l2Near N d := by kernel_rfl
noncomputable def S_spec_l2Near : FSig := ⟨[(K_PiSPiiqq, false), (I, false), (I, false)], [.bool], true, (G_l2Near)⟩
noncomputable def Γ_spec_l2Neighbors : Ctx := { tk := assoc tks, ar := assoc ars, fs := assoc [(156, S_spec_l2Near)] }
abbrev spec_l2Neighbors_l0_H := Int × (Int × (List (Int × Int × Unit)) × Unit) × List Int × Int × Unit
abbrev spec_l2Neighbors_l0_O := (List Int × Unit) ⊕ Empty
def spec_l2Neighbors_l0_h : Form := [(1, .v I), (2, .box K_PiSPiiqq 0), (5, .own K_Si 99), (6, .v I)]
def spec_l2Neighbors_l0_o : Outs := [(.normal, [(5, .own K_Si 99)])]
noncomputable def spec_l2Neighbors_l0_r (N : Nat) (back : spec_l2Neighbors_l0_H → Option spec_l2Neighbors_l0_O) (d : spec_l2Neighbors_l0_H) : Option spec_l2Neighbors_l0_O :=
  let s1 : Int := d.1
  let s2 : Int × (List (Int × Int × Unit)) × Unit := d.2.1
  let s5 : List Int := d.2.2.1
  let s6 : Int := d.2.2.2.1
  if (decide (s6 < s2.1)) = true then
    (G_l2Near ((s2, (s1, (s6, ()))))).bind fun r6 =>
    if (r6.1) = true then
      if (decide (List.length s5 + List.length ([s6]) ≤ lim)) = true then
      let x7 : Int := IntKind.wrap .i64 (s6 + (1 : Int))
      back ((s1, (s2, (s5 ++ ([s6]), (x7, ())))))
      else none
    else
      let x8 : Int := IntKind.wrap .i64 (s6 + (1 : Int))
      back ((s1, (s2, (s5, (x8, ())))))
  else
    some (.inl (s5, ()))
noncomputable def spec_l2Neighbors_l0 (N : Nat) : Nat → spec_l2Neighbors_l0_H → Option spec_l2Neighbors_l0_O
  | 0, _ => none
  | k + 1, d => spec_l2Neighbors_l0_r N (spec_l2Neighbors_l0 N k) d
theorem spec_l2Neighbors_l0_ok (N : Nat) (back) (d) : roundR Γ_spec_l2Neighbors (assoc []) 0 spec_l2Neighbors_l0_h spec_l2Neighbors_l0_o (loopOf Try.f140 0) back d = spec_l2Neighbors_l0_r N back d := by kernel_rfl
noncomputable def F_spec_l2Neighbors (N : Nat) (d : (Int × (List (Int × Int × Unit)) × Unit) × Int × Unit) : Option (List Int × Unit) :=
  let a0 : Int × (List (Int × Int × Unit)) × Unit := d.1
  let a1 : Int := d.2.1
  (spec_l2Neighbors_l0 N N ((a1, (a0, (([] : List Int), ((0 : Int), ())))))).bind fun o4 => match o4 with
  | .inl d5 =>
    some (d5.1, ())
theorem F_spec_l2Neighbors_ok (N : Nat) (d) : fnR Γ_spec_l2Neighbors (assoc [(0, ⟨spec_l2Neighbors_l0_h, spec_l2Neighbors_l0_o, spec_l2Neighbors_l0 N N⟩)]) true [(K_PiSPiiqq, false), (I, false)] [K_Si] Try.f140.results.toList (bodyOf Try.f140) d = F_spec_l2Neighbors N d := by kernel_rfl
noncomputable def S_spec_l2Neighbors : FSig := ⟨[(K_PiSPiiqq, false), (I, false)], [K_Si], true, (G_l2Neighbors)⟩
noncomputable def Γ_spec_l1Put : Ctx := { tk := assoc tks, ar := assoc ars, fs := assoc [] }
abbrev spec_l1Put_l0_H := List Int × Int × Int × Unit
abbrev spec_l1Put_l0_O := (List Int × Int × Int × Unit) ⊕ Empty
def spec_l1Put_l0_h : Form := [(0, .v K_Si), (1, .v I), (5, .v I)]
def spec_l1Put_l0_o : Outs := [(.normal, [(0, .v K_Si), (1, .v I), (5, .v I)])]
noncomputable def spec_l1Put_l0_r (N : Nat) (back : spec_l1Put_l0_H → Option spec_l1Put_l0_O) (d : spec_l1Put_l0_H) : Option spec_l1Put_l0_O :=
  let s0 : List Int := d.1
  let s1 : Int := d.2.1
  let s5 : Int := d.2.2.1
  if (decide (s5 < (List.length s0 : Int))) = true then
    if (idxIn s5 (List.length s0)) = true then
    if (decide (at_ I s0 s5.toNat < s1)) = true then
      let x11 : Int := IntKind.wrap .i64 (s5 + (1 : Int))
      back ((s0, (s1, (x11, ()))))
    else
      some (.inl ((s0, (s1, (s5, ())))))
    else none
  else
    some (.inl ((s0, (s1, (s5, ())))))
noncomputable def spec_l1Put_l0 (N : Nat) : Nat → spec_l1Put_l0_H → Option spec_l1Put_l0_O
  | 0, _ => none
  | k + 1, d => spec_l1Put_l0_r N (spec_l1Put_l0 N k) d
theorem spec_l1Put_l0_ok (N : Nat) (back) (d) : roundR Γ_spec_l1Put (assoc []) 0 spec_l1Put_l0_h spec_l1Put_l0_o (loopOf Try.f136 0) back d = spec_l1Put_l0_r N back d := by kernel_rfl
noncomputable def F_spec_l1Put (N : Nat) (d : List Int × Int × Unit) : Option (List Int × Unit) :=
  let a0 : List Int := d.1
  let a1 : Int := d.2.1
  (spec_l1Put_l0 N N ((a0, (a1, ((0 : Int), ()))))).bind fun o5 => match o5 with
  | .inl d6 =>
    if (decide (d6.2.2.1 < (List.length d6.1 : Int))) = true then
      if (idxIn d6.2.2.1 (List.length d6.1)) = true then
      if (at_ I d6.1 d6.2.2.1.toNat == d6.2.1) = true then
        some (d6.1, ())
      else
        if ((decide (0 ≤ (0 : Int)) && decide ((0 : Int) ≤ d6.2.2.1) && decide (d6.2.2.1 ≤ (List.length d6.1 : Int)))) = true then
        if (decide (List.length ([] : List Int) + List.length (sub_ d6.1 (0 : Int) d6.2.2.1) ≤ lim)) = true then
        let x7 : List Int := ([] : List Int) ++ (sub_ d6.1 (0 : Int) d6.2.2.1)
        if (decide (List.length x7 + List.length ([d6.2.1]) ≤ lim)) = true then
        if ((decide (0 ≤ d6.2.2.1) && decide (d6.2.2.1 ≤ (List.length d6.1 : Int)) && decide ((List.length d6.1 : Int) ≤ (List.length d6.1 : Int)))) = true then
        let x8 : List Int := sub_ d6.1 d6.2.2.1 (List.length d6.1 : Int)
        if (decide (List.length (x7 ++ ([d6.2.1])) + List.length x8 ≤ lim)) = true then
        some (((x7 ++ ([d6.2.1])) ++ x8, ()))
        else none
        else none
        else none
        else none
        else none
      else none
    else
      if ((decide (0 ≤ (0 : Int)) && decide ((0 : Int) ≤ d6.2.2.1) && decide (d6.2.2.1 ≤ (List.length d6.1 : Int)))) = true then
      if (decide (List.length ([] : List Int) + List.length (sub_ d6.1 (0 : Int) d6.2.2.1) ≤ lim)) = true then
      let x9 : List Int := ([] : List Int) ++ (sub_ d6.1 (0 : Int) d6.2.2.1)
      if (decide (List.length x9 + List.length ([d6.2.1]) ≤ lim)) = true then
      if ((decide (0 ≤ d6.2.2.1) && decide (d6.2.2.1 ≤ (List.length d6.1 : Int)) && decide ((List.length d6.1 : Int) ≤ (List.length d6.1 : Int)))) = true then
      let x10 : List Int := sub_ d6.1 d6.2.2.1 (List.length d6.1 : Int)
      if (decide (List.length (x9 ++ ([d6.2.1])) + List.length x10 ≤ lim)) = true then
      some (((x9 ++ ([d6.2.1])) ++ x10, ()))
      else none
      else none
      else none
      else none
      else none
theorem F_spec_l1Put_ok (N : Nat) (d) : fnR Γ_spec_l1Put (assoc [(0, ⟨spec_l1Put_l0_h, spec_l1Put_l0_o, spec_l1Put_l0 N N⟩)]) false [(K_Si, false), (I, false)] [K_Si] Try.f136.results.toList (bodyOf Try.f136) d = F_spec_l1Put N d := by kernel_rfl
noncomputable def S_spec_l1Put : FSig := ⟨[(K_Si, false), (I, false)], [K_Si], false, (G_l1Put)⟩
noncomputable def Γ_spec_l2Ball : Ctx := { tk := assoc tks, ar := assoc ars, fs := assoc [(136, S_spec_l1Put), (140, S_spec_l2Neighbors)] }
noncomputable def F_spec_l2Ball (N : Nat) (d : (Int × (List (Int × Int × Unit)) × Unit) × Int × Unit) : Option (List Int × Unit) :=
  let a0 : Int × (List (Int × Int × Unit)) × Unit := d.1
  let a1 : Int := d.2.1
  (G_l2Neighbors ((a0, (a1, ())))).bind fun r3 =>
  (G_l1Put ((r3.1, (a1, ())))).bind fun r4 =>
  some (r4.1, ())
theorem F_spec_l2Ball_ok (N : Nat) (d) : fnR Γ_spec_l2Ball (assoc []) false [(K_PiSPiiqq, false), (I, false)] [K_Si] Try.f110.results.toList (bodyOf Try.f110) d = F_spec_l2Ball N d := by kernel_rfl
noncomputable def S_spec_l2Ball : FSig := ⟨[(K_PiSPiiqq, false), (I, false)], [K_Si], false, (F_spec_l2Ball 0)⟩
noncomputable def Γ_spec_l11Balls : Ctx := { tk := assoc tks, ar := assoc ars, fs := assoc [(94, S_spec_l11Open), (110, S_spec_l2Ball)] }
abbrev spec_l11Balls_l2_H := ((Int × (List (Int × Int × Unit)) × Unit) × Int × List (List Int) × Unit) × List (List (List Int)) × Int × (Int × (List (Int × Int × Unit)) × Unit) × List (List Int) × Int × Unit
abbrev spec_l11Balls_l2_O := (((Int × (List (Int × Int × Unit)) × Unit) × Int × List (List Int) × Unit) × List (List (List Int)) × Int × List (List Int) × Unit) ⊕ Empty
def spec_l11Balls_l2_h : Form := [(1, .box K_PPiSPiiqqiSSiq 0), (3, .own K_SSSi 2), (4, .v I), (5, .box K_PiSPiiqq 0), (6, .own K_SSi 1), (7, .v I)]
def spec_l11Balls_l2_o : Outs := [(.normal, [(1, .box K_PPiSPiiqqiSSiq 0), (3, .own K_SSSi 2), (4, .v I), (6, .own K_SSi 1)])]
noncomputable def spec_l11Balls_l2_r (N : Nat) (back : spec_l11Balls_l2_H → Option spec_l11Balls_l2_O) (d : spec_l11Balls_l2_H) : Option spec_l11Balls_l2_O :=
  let s1 : (Int × (List (Int × Int × Unit)) × Unit) × Int × List (List Int) × Unit := d.1
  let s3 : List (List (List Int)) := d.2.1
  let s4 : Int := d.2.2.1
  let s5 : Int × (List (Int × Int × Unit)) × Unit := d.2.2.2.1
  let s6 : List (List Int) := d.2.2.2.2.1
  let s7 : Int := d.2.2.2.2.2.1
  if (decide (s7 < s5.1)) = true then
    ((F_spec_l2Ball 0) ((s5, (s7, ())))).bind fun r33 =>
    if (decide (List.length s6 + List.length ([r33.1]) ≤ lim)) = true then
    let x34 : Int := IntKind.wrap .i64 (s7 + (1 : Int))
    back ((s1, (s3, (s4, (s5, (s6 ++ ([r33.1]), (x34, ())))))))
    else none
  else
    some (.inl ((s1, (s3, (s4, (s6, ()))))))
noncomputable def spec_l11Balls_l2 (N : Nat) : Nat → spec_l11Balls_l2_H → Option spec_l11Balls_l2_O
  | 0, _ => none
  | k + 1, d => spec_l11Balls_l2_r N (spec_l11Balls_l2 N k) d
theorem spec_l11Balls_l2_ok (N : Nat) (back) (d) : roundR Γ_spec_l11Balls (assoc []) 2 spec_l11Balls_l2_h spec_l11Balls_l2_o (loopOf Try.f113 2) back d = spec_l11Balls_l2_r N back d := by kernel_rfl
abbrev spec_l11Balls_l0_H := ((Int × (List (Int × Int × Unit)) × Unit) × Int × List (List Int) × Unit) × List (List (List Int)) × Int × Unit
abbrev spec_l11Balls_l0_O := (List (List (List Int)) × Unit) ⊕ Empty
def spec_l11Balls_l0_h : Form := [(1, .box K_PPiSPiiqqiSSiq 0), (3, .own K_SSSi 2), (4, .v I)]
def spec_l11Balls_l0_o : Outs := [(.normal, [(3, .own K_SSSi 2)])]
noncomputable def spec_l11Balls_l0_r (N : Nat) (back : spec_l11Balls_l0_H → Option spec_l11Balls_l0_O) (d : spec_l11Balls_l0_H) : Option spec_l11Balls_l0_O :=
  let s1 : (Int × (List (Int × Int × Unit)) × Unit) × Int × List (List Int) × Unit := d.1
  let s3 : List (List (List Int)) := d.2.1
  let s4 : Int := d.2.2.1
  if (decide (s4 < s1.2.1)) = true then
    (G_l11Open ((s1, (s4, ())))).bind fun r27 =>
    (spec_l11Balls_l2 N N ((s1, (s3, (s4, (r27.1, (([] : List (List Int)), ((0 : Int), ())))))))).bind fun o30 => match o30 with
    | .inl d31 =>
      if (decide (List.length d31.2.1 + List.length ([d31.2.2.2.1]) ≤ lim)) = true then
      let x32 : Int := IntKind.wrap .i64 (d31.2.2.1 + (1 : Int))
      back ((d31.1, (d31.2.1 ++ ([d31.2.2.2.1]), (x32, ()))))
      else none
  else
    some (.inl (s3, ()))
noncomputable def spec_l11Balls_l0 (N : Nat) : Nat → spec_l11Balls_l0_H → Option spec_l11Balls_l0_O
  | 0, _ => none
  | k + 1, d => spec_l11Balls_l0_r N (spec_l11Balls_l0 N k) d
theorem spec_l11Balls_l0_ok (N : Nat) (back) (d) : roundR Γ_spec_l11Balls (assoc [(2, ⟨spec_l11Balls_l2_h, spec_l11Balls_l2_o, spec_l11Balls_l2 N N⟩)]) 0 spec_l11Balls_l0_h spec_l11Balls_l0_o (loopOf Try.f113 0) back d = spec_l11Balls_l0_r N back d := by kernel_rfl
noncomputable def F_spec_l11Balls (N : Nat) (d : ((Int × (List (Int × Int × Unit)) × Unit) × Int × List (List Int) × Unit) × Unit) : Option (List (List (List Int)) × Unit) :=
  let a0 : (Int × (List (Int × Int × Unit)) × Unit) × Int × List (List Int) × Unit := d.1
  (spec_l11Balls_l0 N N ((a0, (([] : List (List (List Int))), ((0 : Int), ()))))).bind fun o25 => match o25 with
  | .inl d26 =>
    some (d26.1, ())
theorem F_spec_l11Balls_ok (N : Nat) (d) : fnR Γ_spec_l11Balls (assoc [(0, ⟨spec_l11Balls_l0_h, spec_l11Balls_l0_o, spec_l11Balls_l0 N N⟩)]) false [(K_PPiSPiiqqiSSiq, false)] [K_SSSi] Try.f113.results.toList (bodyOf Try.f113) d = F_spec_l11Balls N d := by kernel_rfl
noncomputable def S_spec_l11Balls : FSig := ⟨[(K_PPiSPiiqqiSSiq, false)], [K_SSSi], false, (G_l11Balls)⟩
noncomputable def Γ_spec_l1Most : Ctx := { tk := assoc tks, ar := assoc ars, fs := assoc [] }
noncomputable def F_spec_l1Most (N : Nat) (d : Int × Int × Unit) : Option (Int × Unit) :=
  let a0 : Int := d.1
  let a1 : Int := d.2.1
  if (decide (a0 > a1)) = true then
    some (a0, ())
  else
    some (a1, ())
theorem F_spec_l1Most_ok (N : Nat) (d) : fnR Γ_spec_l1Most (assoc []) true [(I, false), (I, false)] [I] Try.f157.results.toList (bodyOf Try.f157) d = F_spec_l1Most N d := by kernel_rfl
noncomputable def g_spec_l1Most (d : Int × Int × Unit) : Int × Unit :=
  let a0 : Int := d.1
  let a1 : Int := d.2.1
  if (decide (a0 > a1)) = true then
    (a0, ())
  else
    (a1, ())
theorem F_spec_l1Most_tot (N : Nat) (d) : F_spec_l1Most N d = some (g_spec_l1Most d) := by
  unfold F_spec_l1Most g_spec_l1Most
  first
    | rfl
    | (dsimp only; (repeat' split) <;> rfl)
noncomputable def S_spec_l1Most : FSig := ⟨[(I, false), (I, false)], [I], true, (fun d => some (g_spec_l1Most d))⟩
noncomputable def Γ_spec_l11After : Ctx := { tk := assoc tks, ar := assoc ars, fs := assoc [(157, S_spec_l1Most)] }
abbrev spec_l11After_l0_H := List (List (List Int)) × Int × Int × Int × List Int × Int × Unit
abbrev spec_l11After_l0_O := (Int × Unit) ⊕ (Int × Unit) ⊕ Empty
def spec_l11After_l0_h : Form := [(0, .v K_SSSi), (2, .v I), (4, .v I), (11, .v I), (12, .v K_Si), (13, .v I)]
def spec_l11After_l0_o : Outs := [(.ret, [(10, .v I)]), (.normal, [(11, .v I)])]
noncomputable def spec_l11After_l0_r (N : Nat) (back : spec_l11After_l0_H → Option spec_l11After_l0_O) (d : spec_l11After_l0_H) : Option spec_l11After_l0_O :=
  let s0 : List (List (List Int)) := d.1
  let s2 : Int := d.2.1
  let s4 : Int := d.2.2.1
  let s11 : Int := d.2.2.2.1
  let s12 : List Int := d.2.2.2.2.1
  let s13 : Int := d.2.2.2.2.2.1
  if (idxIn s2 (List.length s0)) = true then
  if (idxIn s4 (List.length (at_ K_SSi s0 s2.toNat))) = true then
  if (decide (s13 < (List.length (at_ K_Si (at_ K_SSi s0 s2.toNat) s4.toNat) : Int))) = true then
    if (idxIn s2 (List.length s0)) = true then
    if (idxIn s4 (List.length (at_ K_SSi s0 s2.toNat))) = true then
    if (idxIn s13 (List.length (at_ K_Si (at_ K_SSi s0 s2.toNat) s4.toNat))) = true then
    if (idxIn (at_ I (at_ K_Si (at_ K_SSi s0 s2.toNat) s4.toNat) s13.toNat) (List.length s12)) = true then
    if (decide (at_ I s12 (at_ I (at_ K_Si (at_ K_SSi s0 s2.toNat) s4.toNat) s13.toNat).toNat < (0 : Int))) = true then
      some (.inl ((-1 : Int), ()))
    else
      let r8 : Int × Unit := g_spec_l1Most ((s11, (at_ I s12 (at_ I (at_ K_Si (at_ K_SSi s0 s2.toNat) s4.toNat) s13.toNat).toNat, ())))
      let x9 : Int := IntKind.wrap .i64 (s13 + (1 : Int))
      back ((s0, (s2, (s4, (r8.1, (s12, (x9, ())))))))
    else none
    else none
    else none
    else none
  else
    some (.inr (.inl (s11, ())))
  else none
  else none
noncomputable def spec_l11After_l0 (N : Nat) : Nat → spec_l11After_l0_H → Option spec_l11After_l0_O
  | 0, _ => none
  | k + 1, d => spec_l11After_l0_r N (spec_l11After_l0 N k) d
theorem spec_l11After_l0_ok (N : Nat) (back) (d) : roundR Γ_spec_l11After (assoc []) 0 spec_l11After_l0_h spec_l11After_l0_o (loopOf Try.f141 0) back d = spec_l11After_l0_r N back d := by kernel_rfl
noncomputable def F_spec_l11After (N : Nat) (d : List (List (List Int)) × List (List (List Int)) × Int × Int × Int × Unit) : Option (Int × Unit) :=
  let a0 : List (List (List Int)) := d.1
  let a1 : List (List (List Int)) := d.2.1
  let a2 : Int := d.2.2.1
  let a3 : Int := d.2.2.2.1
  let a4 : Int := d.2.2.2.2.1
  if (a3 == a4) = true then
    some ((0 : Int), ())
  else
    let x1 : Int := IntKind.wrap .i64 (a2 + (1 : Int))
    if ((List.length a0 : Int) != 0) = true then
    let x2 : Int := x1.tmod (List.length a0 : Int)
    if (idxIn x2 (List.length a1)) = true then
    if (idxIn a3 (List.length (at_ K_SSi a1 x2.toNat))) = true then
    (spec_l11After_l0 N N ((a0, (a2, (a4, ((0 : Int), (at_ K_Si (at_ K_SSi a1 x2.toNat) a3.toNat, ((0 : Int), ())))))))).bind fun o5 => match o5 with
    | .inl d6 =>
      some (d6.1, ())
    | .inr (.inl d7) =>
      some (d7.1, ())
    else none
    else none
    else none
theorem F_spec_l11After_ok (N : Nat) (d) : fnR Γ_spec_l11After (assoc [(0, ⟨spec_l11After_l0_h, spec_l11After_l0_o, spec_l11After_l0 N N⟩)]) true [(K_SSSi, false), (K_SSSi, false), (I, false), (I, false), (I, false)] [I] Try.f141.results.toList (bodyOf Try.f141) d = F_spec_l11After N d := by kernel_rfl
noncomputable def S_spec_l11After : FSig := ⟨[(K_SSSi, false), (K_SSSi, false), (I, false), (I, false), (I, false)], [I], true, (G_l11After)⟩
noncomputable def Γ_spec_l11Proves : Ctx := { tk := assoc tks, ar := assoc ars, fs := assoc [(122, S_spec_l1In), (141, S_spec_l11After)] }
abbrev spec_l11Proves_l0_H := List (List (List Int)) × List (List (List Int)) × Int × Int × Int × Int × Int × Unit
abbrev spec_l11Proves_l0_O := (Bool × Unit) ⊕ Unit ⊕ Empty
def spec_l11Proves_l0_h : Form := [(0, .v K_SSSi), (1, .v K_SSSi), (2, .v I), (3, .v I), (4, .v I), (11, .v I), (12, .v I)]
def spec_l11Proves_l0_o : Outs := [(.ret, [(10, .v .bool)]), (.normal, [])]
noncomputable def spec_l11Proves_l0_r (N : Nat) (back : spec_l11Proves_l0_H → Option spec_l11Proves_l0_O) (d : spec_l11Proves_l0_H) : Option spec_l11Proves_l0_O :=
  let s0 : List (List (List Int)) := d.1
  let s1 : List (List (List Int)) := d.2.1
  let s2 : Int := d.2.2.1
  let s3 : Int := d.2.2.2.1
  let s4 : Int := d.2.2.2.2.1
  let s11 : Int := d.2.2.2.2.2.1
  let s12 : Int := d.2.2.2.2.2.2.1
  if (idxIn s2 (List.length s0)) = true then
  if (idxIn s3 (List.length (at_ K_SSi s0 s2.toNat))) = true then
  if (decide (s12 < (List.length (at_ K_Si (at_ K_SSi s0 s2.toNat) s3.toNat) : Int))) = true then
    if (idxIn s2 (List.length s0)) = true then
    if (idxIn s3 (List.length (at_ K_SSi s0 s2.toNat))) = true then
    if (idxIn s12 (List.length (at_ K_Si (at_ K_SSi s0 s2.toNat) s3.toNat))) = true then
    (G_l11After ((s0, (s1, (s2, (at_ I (at_ K_Si (at_ K_SSi s0 s2.toNat) s3.toNat) s12.toNat, (s4, ()))))))).bind fun r8 =>
    let x9 : Int := IntKind.wrap .i64 (s11 - (1 : Int))
    let r10 : Bool × Unit := g_spec_l1In ((r8.1, ((0 : Int), (x9, ()))))
    if (r10.1) = true then
      some (.inl (true, ()))
    else
      let x11 : Int := IntKind.wrap .i64 (s12 + (1 : Int))
      back ((s0, (s1, (s2, (s3, (s4, (s11, (x11, ()))))))))
    else none
    else none
    else none
  else
    some (.inr (.inl ()))
  else none
  else none
noncomputable def spec_l11Proves_l0 (N : Nat) : Nat → spec_l11Proves_l0_H → Option spec_l11Proves_l0_O
  | 0, _ => none
  | k + 1, d => spec_l11Proves_l0_r N (spec_l11Proves_l0 N k) d
theorem spec_l11Proves_l0_ok (N : Nat) (back) (d) : roundR Γ_spec_l11Proves (assoc []) 0 spec_l11Proves_l0_h spec_l11Proves_l0_o (loopOf Try.f114 0) back d = spec_l11Proves_l0_r N back d := by kernel_rfl
noncomputable def F_spec_l11Proves (N : Nat) (d : List (List (List Int)) × List (List (List Int)) × Int × Int × Int × Unit) : Option (Bool × Unit) :=
  let a0 : List (List (List Int)) := d.1
  let a1 : List (List (List Int)) := d.2.1
  let a2 : Int := d.2.2.1
  let a3 : Int := d.2.2.2.1
  let a4 : Int := d.2.2.2.2.1
  if (idxIn a2 (List.length a1)) = true then
  if (idxIn a3 (List.length (at_ K_SSi a1 a2.toNat))) = true then
  if (idxIn a4 (List.length (at_ K_Si (at_ K_SSi a1 a2.toNat) a3.toNat))) = true then
  if (decide (at_ I (at_ K_Si (at_ K_SSi a1 a2.toNat) a3.toNat) a4.toNat ≤ (0 : Int))) = true then
    if (decide (at_ I (at_ K_Si (at_ K_SSi a1 a2.toNat) a3.toNat) a4.toNat < (0 : Int))) = true then
      some (true, ())
    else
      some (a3 == a4, ())
  else
    (spec_l11Proves_l0 N N ((a0, (a1, (a2, (a3, (a4, (at_ I (at_ K_Si (at_ K_SSi a1 a2.toNat) a3.toNat) a4.toNat, ((0 : Int), ()))))))))).bind fun o5 => match o5 with
    | .inl d6 =>
      some (d6.1, ())
    | .inr (.inl d7) =>
      some (false, ())
  else none
  else none
  else none
theorem F_spec_l11Proves_ok (N : Nat) (d) : fnR Γ_spec_l11Proves (assoc [(0, ⟨spec_l11Proves_l0_h, spec_l11Proves_l0_o, spec_l11Proves_l0 N N⟩)]) true [(K_SSSi, false), (K_SSSi, false), (I, false), (I, false), (I, false)] [.bool] Try.f114.results.toList (bodyOf Try.f114) d = F_spec_l11Proves N d := by kernel_rfl
noncomputable def S_spec_l11Proves : FSig := ⟨[(K_SSSi, false), (K_SSSi, false), (I, false), (I, false), (I, false)], [.bool], true, (G_l11Proves)⟩
noncomputable def Γ_spec_IsTimedProof : Ctx := { tk := assoc tks, ar := assoc ars, fs := assoc [(81, S_spec_l11Good), (112, S_spec_l11Form), (113, S_spec_l11Balls), (114, S_spec_l11Proves)] }
abbrev spec_IsTimedProof_l4_H := List (List (List Int)) × List (List (List Int)) × Int × Int × Int × Unit
abbrev spec_IsTimedProof_l4_O := (Bool × Bool × Unit) ⊕ (List (List (List Int)) × List (List (List Int)) × Int × Int × Unit) ⊕ Empty
def spec_IsTimedProof_l4_h : Form := [(1, .v K_SSSi), (6, .v K_SSSi), (7, .v I), (8, .v I), (9, .v I)]
def spec_IsTimedProof_l4_o : Outs := [(.ret, [(4, .v .bool), (5, .v .bool)]), (.normal, [(1, .v K_SSSi), (6, .v K_SSSi), (7, .v I), (8, .v I)])]
noncomputable def spec_IsTimedProof_l4_r (N : Nat) (back : spec_IsTimedProof_l4_H → Option spec_IsTimedProof_l4_O) (d : spec_IsTimedProof_l4_H) : Option spec_IsTimedProof_l4_O :=
  let s1 : List (List (List Int)) := d.1
  let s6 : List (List (List Int)) := d.2.1
  let s7 : Int := d.2.2.1
  let s8 : Int := d.2.2.2.1
  let s9 : Int := d.2.2.2.2.1
  if (idxIn s7 (List.length s1)) = true then
  if (idxIn s8 (List.length (at_ K_SSi s1 s7.toNat))) = true then
  if (decide (s9 < (List.length (at_ K_Si (at_ K_SSi s1 s7.toNat) s8.toNat) : Int))) = true then
    (G_l11Proves ((s6, (s1, (s7, (s8, (s9, ()))))))).bind fun r33 =>
    if (!r33.1) = true then
      some (.inl ((false, (true, ()))))
    else
      let x34 : Int := IntKind.wrap .i64 (s9 + (1 : Int))
      back ((s1, (s6, (s7, (s8, (x34, ()))))))
  else
    some (.inr (.inl ((s1, (s6, (s7, (s8, ())))))))
  else none
  else none
noncomputable def spec_IsTimedProof_l4 (N : Nat) : Nat → spec_IsTimedProof_l4_H → Option spec_IsTimedProof_l4_O
  | 0, _ => none
  | k + 1, d => spec_IsTimedProof_l4_r N (spec_IsTimedProof_l4 N k) d
theorem spec_IsTimedProof_l4_ok (N : Nat) (back) (d) : roundR Γ_spec_IsTimedProof (assoc []) 4 spec_IsTimedProof_l4_h spec_IsTimedProof_l4_o (loopOf Try.f61 4) back d = spec_IsTimedProof_l4_r N back d := by kernel_rfl
abbrev spec_IsTimedProof_l2_H := List (List (List Int)) × List (List (List Int)) × Int × Int × Unit
abbrev spec_IsTimedProof_l2_O := (Bool × Bool × Unit) ⊕ (List (List (List Int)) × List (List (List Int)) × Int × Unit) ⊕ Empty
def spec_IsTimedProof_l2_h : Form := [(1, .v K_SSSi), (6, .v K_SSSi), (7, .v I), (8, .v I)]
def spec_IsTimedProof_l2_o : Outs := [(.ret, [(4, .v .bool), (5, .v .bool)]), (.normal, [(1, .v K_SSSi), (6, .v K_SSSi), (7, .v I)])]
noncomputable def spec_IsTimedProof_l2_r (N : Nat) (back : spec_IsTimedProof_l2_H → Option spec_IsTimedProof_l2_O) (d : spec_IsTimedProof_l2_H) : Option spec_IsTimedProof_l2_O :=
  let s1 : List (List (List Int)) := d.1
  let s6 : List (List (List Int)) := d.2.1
  let s7 : Int := d.2.2.1
  let s8 : Int := d.2.2.2.1
  if (idxIn s7 (List.length s1)) = true then
  if (decide (s8 < (List.length (at_ K_SSi s1 s7.toNat) : Int))) = true then
    (spec_IsTimedProof_l4 N N ((s1, (s6, (s7, (s8, ((0 : Int), ()))))))).bind fun o29 => match o29 with
    | .inl d30 =>
      some (.inl ((d30.1, (d30.2.1, ()))))
    | .inr (.inl d31) =>
      let x32 : Int := IntKind.wrap .i64 (d31.2.2.2.1 + (1 : Int))
      back ((d31.1, (d31.2.1, (d31.2.2.1, (x32, ())))))
  else
    some (.inr (.inl ((s1, (s6, (s7, ()))))))
  else none
noncomputable def spec_IsTimedProof_l2 (N : Nat) : Nat → spec_IsTimedProof_l2_H → Option spec_IsTimedProof_l2_O
  | 0, _ => none
  | k + 1, d => spec_IsTimedProof_l2_r N (spec_IsTimedProof_l2 N k) d
theorem spec_IsTimedProof_l2_ok (N : Nat) (back) (d) : roundR Γ_spec_IsTimedProof (assoc [(4, ⟨spec_IsTimedProof_l4_h, spec_IsTimedProof_l4_o, spec_IsTimedProof_l4 N N⟩)]) 2 spec_IsTimedProof_l2_h spec_IsTimedProof_l2_o (loopOf Try.f61 2) back d = spec_IsTimedProof_l2_r N back d := by kernel_rfl
abbrev spec_IsTimedProof_l0_H := List (List (List Int)) × List (List (List Int)) × Int × Unit
abbrev spec_IsTimedProof_l0_O := (Bool × Bool × Unit) ⊕ Unit ⊕ Empty
def spec_IsTimedProof_l0_h : Form := [(1, .v K_SSSi), (6, .v K_SSSi), (7, .v I)]
def spec_IsTimedProof_l0_o : Outs := [(.ret, [(4, .v .bool), (5, .v .bool)]), (.normal, [])]
noncomputable def spec_IsTimedProof_l0_r (N : Nat) (back : spec_IsTimedProof_l0_H → Option spec_IsTimedProof_l0_O) (d : spec_IsTimedProof_l0_H) : Option spec_IsTimedProof_l0_O :=
  let s1 : List (List (List Int)) := d.1
  let s6 : List (List (List Int)) := d.2.1
  let s7 : Int := d.2.2.1
  if (decide (s7 < (List.length s1 : Int))) = true then
    (spec_IsTimedProof_l2 N N ((s1, (s6, (s7, ((0 : Int), ())))))).bind fun o23 => match o23 with
    | .inl d24 =>
      some (.inl ((d24.1, (d24.2.1, ()))))
    | .inr (.inl d25) =>
      let x26 : Int := IntKind.wrap .i64 (d25.2.2.1 + (1 : Int))
      back ((d25.1, (d25.2.1, (x26, ()))))
  else
    some (.inr (.inl ()))
noncomputable def spec_IsTimedProof_l0 (N : Nat) : Nat → spec_IsTimedProof_l0_H → Option spec_IsTimedProof_l0_O
  | 0, _ => none
  | k + 1, d => spec_IsTimedProof_l0_r N (spec_IsTimedProof_l0 N k) d
theorem spec_IsTimedProof_l0_ok (N : Nat) (back) (d) : roundR Γ_spec_IsTimedProof (assoc [(2, ⟨spec_IsTimedProof_l2_h, spec_IsTimedProof_l2_o, spec_IsTimedProof_l2 N N⟩)]) 0 spec_IsTimedProof_l0_h spec_IsTimedProof_l0_o (loopOf Try.f61 0) back d = spec_IsTimedProof_l0_r N back d := by kernel_rfl
noncomputable def F_spec_IsTimedProof (N : Nat) (d : ((Int × (List (Int × Int × Unit)) × Unit) × Int × List (List Int) × Unit) × List (List (List Int)) × Unit) : Option (Bool × Bool × Unit) :=
  let a0 : (Int × (List (Int × Int × Unit)) × Unit) × Int × List (List Int) × Unit := d.1
  let a1 : List (List (List Int)) := d.2.1
  (G_l11Good (a0, ())).bind fun r1 =>
  if (!r1.1) = true then
    some ((false, (false, ())))
  else
    (G_l11Form ((a0, (a1, ())))).bind fun r2 =>
    if (!r2.1) = true then
      some ((false, (true, ())))
    else
      (G_l11Balls (a0, ())).bind fun r3 =>
      (spec_IsTimedProof_l0 N N ((a1, (r3.1, ((0 : Int), ()))))).bind fun o14 => match o14 with
      | .inl d15 =>
        some ((d15.1, (d15.2.1, ())))
      | .inr (.inl d16) =>
        some ((true, (true, ())))
theorem F_spec_IsTimedProof_ok (N : Nat) (d) : fnR Γ_spec_IsTimedProof (assoc [(0, ⟨spec_IsTimedProof_l0_h, spec_IsTimedProof_l0_o, spec_IsTimedProof_l0 N N⟩)]) true [(K_PPiSPiiqqiSSiq, false), (K_SSSi, false)] [.bool, .bool] Try.f61.results.toList (bodyOf Try.f61) d = F_spec_IsTimedProof N d := by kernel_rfl
noncomputable def S_spec_IsTimedProof : FSig := ⟨[(K_PPiSPiiqqiSSiq, false), (K_SSSi, false)], [.bool, .bool], true, (G_timedProof)⟩
noncomputable def Γ_impl_within : Ctx := { tk := assoc tks, ar := assoc ars, fs := assoc [] }
noncomputable def F_impl_within (N : Nat) (d : Int × Int × Int × Unit) : Option (Bool × Unit) :=
  let a0 : Int := d.1
  let a1 : Int := d.2.1
  let a2 : Int := d.2.2.1
  if (decide (a0 ≥ a1)) = true then
    some (decide (a0 ≤ a2), ())
  else
    some (false, ())
theorem F_impl_within_ok (N : Nat) (d) : fnR Γ_impl_within (assoc []) true [(I, false), (I, false), (I, false)] [.bool] Try.f72.results.toList (bodyOf Try.f72) d = F_impl_within N d := by kernel_rfl
noncomputable def g_impl_within (d : Int × Int × Int × Unit) : Bool × Unit :=
  let a0 : Int := d.1
  let a1 : Int := d.2.1
  let a2 : Int := d.2.2.1
  if (decide (a0 ≥ a1)) = true then
    (decide (a0 ≤ a2), ())
  else
    (false, ())
theorem F_impl_within_tot (N : Nat) (d) : F_impl_within N d = some (g_impl_within d) := by
  unfold F_impl_within g_impl_within
  first
    | rfl
    | (dsimp only; (repeat' split) <;> rfl)
noncomputable def S_impl_within : FSig := ⟨[(I, false), (I, false), (I, false)], [.bool], true, (fun d => some (g_impl_within d))⟩
noncomputable def Γ_cmp_isNaN_int : Ctx := { tk := assoc tks, ar := assoc ars, fs := assoc [] }
noncomputable def F_cmp_isNaN_int (N : Nat) (d : Int × Unit) : Option (Bool × Unit) :=
  let a0 : Int := d.1
  some (a0 != a0, ())
theorem F_cmp_isNaN_int_ok (N : Nat) (d) : fnR Γ_cmp_isNaN_int (assoc []) true [(I, false)] [.bool] Try.f164.results.toList (bodyOf Try.f164) d = F_cmp_isNaN_int N d := by kernel_rfl
noncomputable def g_cmp_isNaN_int (d : Int × Unit) : Bool × Unit :=
  let a0 : Int := d.1
  (a0 != a0, ())
theorem F_cmp_isNaN_int_tot (N : Nat) (d) : F_cmp_isNaN_int N d = some (g_cmp_isNaN_int d) := by
  unfold F_cmp_isNaN_int g_cmp_isNaN_int
  first
    | rfl
    | (dsimp only; (repeat' split) <;> rfl)
noncomputable def S_cmp_isNaN_int : FSig := ⟨[(I, false)], [.bool], true, (fun d => some (g_cmp_isNaN_int d))⟩
noncomputable def Γ_cmp_Compare_int : Ctx := { tk := assoc tks, ar := assoc ars, fs := assoc [(164, S_cmp_isNaN_int)] }
noncomputable def F_cmp_Compare_int (N : Nat) (d : Int × Int × Unit) : Option (Int × Unit) :=
  let a0 : Int := d.1
  let a1 : Int := d.2.1
  let r1 : Bool × Unit := g_cmp_isNaN_int (a0, ())
  let r2 : Bool × Unit := g_cmp_isNaN_int (a1, ())
  if (r1.1) = true then
    if (r2.1) = true then
      some ((0 : Int), ())
    else
      some ((-1 : Int), ())
  else
    if (r2.1) = true then
      some ((1 : Int), ())
    else
      if (decide (a0 < a1)) = true then
        some ((-1 : Int), ())
      else
        if (decide (a0 > a1)) = true then
          some ((1 : Int), ())
        else
          some ((0 : Int), ())
theorem F_cmp_Compare_int_ok (N : Nat) (d) : fnR Γ_cmp_Compare_int (assoc []) true [(I, false), (I, false)] [I] Try.f149.results.toList (bodyOf Try.f149) d = F_cmp_Compare_int N d := by kernel_rfl
noncomputable def g_cmp_Compare_int (d : Int × Int × Unit) : Int × Unit :=
  let a0 : Int := d.1
  let a1 : Int := d.2.1
  let r1 : Bool × Unit := g_cmp_isNaN_int (a0, ())
  let r2 : Bool × Unit := g_cmp_isNaN_int (a1, ())
  if (r1.1) = true then
    if (r2.1) = true then
      ((0 : Int), ())
    else
      ((-1 : Int), ())
  else
    if (r2.1) = true then
      ((1 : Int), ())
    else
      if (decide (a0 < a1)) = true then
        ((-1 : Int), ())
      else
        if (decide (a0 > a1)) = true then
          ((1 : Int), ())
        else
          ((0 : Int), ())
theorem F_cmp_Compare_int_tot (N : Nat) (d) : F_cmp_Compare_int N d = some (g_cmp_Compare_int d) := by
  unfold F_cmp_Compare_int g_cmp_Compare_int
  first
    | rfl
    | (dsimp only; (repeat' split) <;> rfl)
noncomputable def S_cmp_Compare_int : FSig := ⟨[(I, false), (I, false)], [I], true, (fun d => some (g_cmp_Compare_int d))⟩
noncomputable def Γ_slices_Compare_Sint_int : Ctx := { tk := assoc tks, ar := assoc ars, fs := assoc [(149, S_cmp_Compare_int)] }
abbrev slices_Compare_Sint_int_l0_H := List Int × List Int × List Int × Int × Int × Unit
abbrev slices_Compare_Sint_int_l0_O := (Int × Unit) ⊕ (List Int × List Int × Unit) ⊕ Empty
def slices_Compare_Sint_int_l0_h : Form := [(0, .v K_Si), (1, .v K_Si), (9, .v K_Si), (10, .v I), (11, .v I)]
def slices_Compare_Sint_int_l0_o : Outs := [(.ret, [(4, .v I)]), (.normal, [(0, .v K_Si), (1, .v K_Si)])]
noncomputable def slices_Compare_Sint_int_l0_r (N : Nat) (back : slices_Compare_Sint_int_l0_H → Option slices_Compare_Sint_int_l0_O) (d : slices_Compare_Sint_int_l0_H) : Option slices_Compare_Sint_int_l0_O :=
  let s0 : List Int := d.1
  let s1 : List Int := d.2.1
  let s9 : List Int := d.2.2.1
  let s10 : Int := d.2.2.2.1
  let s11 : Int := d.2.2.2.2.1
  if (decide (s11 < s10)) = true then
    if (idxIn s11 (List.length s9)) = true then
    if (decide (s11 ≥ (List.length s1 : Int))) = true then
      some (.inl ((1 : Int), ()))
    else
      if (idxIn s11 (List.length s1)) = true then
      let r6 : Int × Unit := g_cmp_Compare_int ((at_ I s9 s11.toNat, (at_ I s1 s11.toNat, ())))
      if (r6.1 != (0 : Int)) = true then
        some (.inl (r6.1, ()))
      else
        let x7 : Int := IntKind.wrap .i64 (s11 + (1 : Int))
        back ((s0, (s1, (s9, (s10, (x7, ()))))))
      else none
    else none
  else
    some (.inr (.inl ((s0, (s1, ())))))
noncomputable def slices_Compare_Sint_int_l0 (N : Nat) : Nat → slices_Compare_Sint_int_l0_H → Option slices_Compare_Sint_int_l0_O
  | 0, _ => none
  | k + 1, d => slices_Compare_Sint_int_l0_r N (slices_Compare_Sint_int_l0 N k) d
theorem slices_Compare_Sint_int_l0_ok (N : Nat) (back) (d) : roundR Γ_slices_Compare_Sint_int (assoc []) 0 slices_Compare_Sint_int_l0_h slices_Compare_Sint_int_l0_o (loopOf Try.f126 0) back d = slices_Compare_Sint_int_l0_r N back d := by kernel_rfl
noncomputable def F_slices_Compare_Sint_int (N : Nat) (d : List Int × List Int × Unit) : Option (Int × Unit) :=
  let a0 : List Int := d.1
  let a1 : List Int := d.2.1
  (slices_Compare_Sint_int_l0 N N ((a0, (a1, (a0, ((List.length a0 : Int), ((0 : Int), ()))))))).bind fun o3 => match o3 with
  | .inl d4 =>
    some (d4.1, ())
  | .inr (.inl d5) =>
    if (decide ((List.length d5.1 : Int) < (List.length d5.2.1 : Int))) = true then
      some ((-1 : Int), ())
    else
      some ((0 : Int), ())
theorem F_slices_Compare_Sint_int_ok (N : Nat) (d) : fnR Γ_slices_Compare_Sint_int (assoc [(0, ⟨slices_Compare_Sint_int_l0_h, slices_Compare_Sint_int_l0_o, slices_Compare_Sint_int_l0 N N⟩)]) true [(K_Si, false), (K_Si, false)] [I] Try.f126.results.toList (bodyOf Try.f126) d = F_slices_Compare_Sint_int N d := by kernel_rfl
noncomputable def S_slices_Compare_Sint_int : FSig := ⟨[(K_Si, false), (K_Si, false)], [I], true, (G_compare)⟩
noncomputable def Γ_impl_IsGraph : Ctx := { tk := assoc tks, ar := assoc ars, fs := assoc [(72, S_impl_within), (126, S_slices_Compare_Sint_int)] }
abbrev impl_IsGraph_l0_H := (Int × (List (Int × Int × Unit)) × Unit) × (List (Int × Int × Unit)) × Int × Int × Unit
abbrev impl_IsGraph_l0_O := (Bool × Unit) ⊕ Unit ⊕ Empty
def impl_IsGraph_l0_h : Form := [(1, .box K_PiSPiiqq 0), (10, .v K_SPiiq), (11, .v I), (12, .v I)]
def impl_IsGraph_l0_o : Outs := [(.ret, [(2, .v .bool)]), (.normal, [])]
noncomputable def impl_IsGraph_l0_r (N : Nat) (back : impl_IsGraph_l0_H → Option impl_IsGraph_l0_O) (d : impl_IsGraph_l0_H) : Option impl_IsGraph_l0_O :=
  let s1 : Int × (List (Int × Int × Unit)) × Unit := d.1
  let s10 : List (Int × Int × Unit) := d.2.1
  let s11 : Int := d.2.2.1
  let s12 : Int := d.2.2.2.1
  if (decide (s12 < s11)) = true then
    if (idxIn s12 (List.length s10)) = true then
    if (decide ((at_ K_Piiq s10 s12.toNat).1 < (0 : Int))) = true then
      some (.inl (false, ()))
    else
      if (decide ((at_ K_Piiq s10 s12.toNat).1 ≥ (at_ K_Piiq s10 s12.toNat).2.1)) = true then
        some (.inl (false, ()))
      else
        if (decide ((at_ K_Piiq s10 s12.toNat).2.1 ≥ s1.1)) = true then
          some (.inl (false, ()))
        else
          if (decide (s12 > (0 : Int))) = true then
            let x9 : Int := IntKind.wrap .i64 (s12 - (1 : Int))
            if (idxIn x9 (List.length s1.2.1)) = true then
            (G_compare (([(at_ K_Piiq s1.2.1 x9.toNat).1, (at_ K_Piiq s1.2.1 x9.toNat).2.1], ([(at_ K_Piiq s10 s12.toNat).1, (at_ K_Piiq s10 s12.toNat).2.1], ())))).bind fun r10 =>
            if (decide (r10.1 ≥ (0 : Int))) = true then
              some (.inl (false, ()))
            else
              let x11 : Int := IntKind.wrap .i64 (s12 + (1 : Int))
              back ((s1, (s10, (s11, (x11, ())))))
            else none
          else
            let x12 : Int := IntKind.wrap .i64 (s12 + (1 : Int))
            back ((s1, (s10, (s11, (x12, ())))))
    else none
  else
    some (.inr (.inl ()))
noncomputable def impl_IsGraph_l0 (N : Nat) : Nat → impl_IsGraph_l0_H → Option impl_IsGraph_l0_O
  | 0, _ => none
  | k + 1, d => impl_IsGraph_l0_r N (impl_IsGraph_l0 N k) d
theorem impl_IsGraph_l0_ok (N : Nat) (back) (d) : roundR Γ_impl_IsGraph (assoc []) 0 impl_IsGraph_l0_h impl_IsGraph_l0_o (loopOf Try.f76 0) back d = impl_IsGraph_l0_r N back d := by kernel_rfl
noncomputable def F_impl_IsGraph (N : Nat) (d : (Int × (List (Int × Int × Unit)) × Unit) × Unit) : Option (Bool × Unit) :=
  let a0 : Int × (List (Int × Int × Unit)) × Unit := d.1
  let r1 : Bool × Unit := g_impl_within ((a0.1, ((0 : Int), ((8 : Int), ()))))
  if (!r1.1) = true then
    some (false, ())
  else
    (impl_IsGraph_l0 N N ((a0, (a0.2.1, ((List.length a0.2.1 : Int), ((0 : Int), ())))))).bind fun o6 => match o6 with
    | .inl d7 =>
      some (d7.1, ())
    | .inr (.inl d8) =>
      some (true, ())
theorem F_impl_IsGraph_ok (N : Nat) (d) : fnR Γ_impl_IsGraph (assoc [(0, ⟨impl_IsGraph_l0_h, impl_IsGraph_l0_o, impl_IsGraph_l0 N N⟩)]) true [(K_PiSPiiqq, false)] [.bool] Try.f76.results.toList (bodyOf Try.f76) d = F_impl_IsGraph N d := by kernel_rfl
noncomputable def S_impl_IsGraph : FSig := ⟨[(K_PiSPiiqq, false)], [.bool], true, (G_graph)⟩
noncomputable def Γ_impl_increasing : Ctx := { tk := assoc tks, ar := assoc ars, fs := assoc [] }
abbrev impl_increasing_l0_H := List Int × Int × Unit
abbrev impl_increasing_l0_O := (Bool × Unit) ⊕ Unit ⊕ Empty
def impl_increasing_l0_h : Form := [(0, .v K_Si), (3, .v I)]
def impl_increasing_l0_o : Outs := [(.ret, [(2, .v .bool)]), (.normal, [])]
noncomputable def impl_increasing_l0_r (N : Nat) (back : impl_increasing_l0_H → Option impl_increasing_l0_O) (d : impl_increasing_l0_H) : Option impl_increasing_l0_O :=
  let s0 : List Int := d.1
  let s3 : Int := d.2.1
  if (decide (s3 < (List.length s0 : Int))) = true then
    let x6 : Int := IntKind.wrap .i64 (s3 - (1 : Int))
    if (idxIn x6 (List.length s0)) = true then
    if (idxIn s3 (List.length s0)) = true then
    if (decide (at_ I s0 x6.toNat ≥ at_ I s0 s3.toNat)) = true then
      some (.inl (false, ()))
    else
      let x7 : Int := IntKind.wrap .i64 (s3 + (1 : Int))
      back ((s0, (x7, ())))
    else none
    else none
  else
    some (.inr (.inl ()))
noncomputable def impl_increasing_l0 (N : Nat) : Nat → impl_increasing_l0_H → Option impl_increasing_l0_O
  | 0, _ => none
  | k + 1, d => impl_increasing_l0_r N (impl_increasing_l0 N k) d
theorem impl_increasing_l0_ok (N : Nat) (back) (d) : roundR Γ_impl_increasing (assoc []) 0 impl_increasing_l0_h impl_increasing_l0_o (loopOf Try.f85 0) back d = impl_increasing_l0_r N back d := by kernel_rfl
noncomputable def F_impl_increasing (N : Nat) (d : List Int × Unit) : Option (Bool × Unit) :=
  let a0 : List Int := d.1
  (impl_increasing_l0 N N ((a0, ((1 : Int), ())))).bind fun o3 => match o3 with
  | .inl d4 =>
    some (d4.1, ())
  | .inr (.inl d5) =>
    some (true, ())
theorem F_impl_increasing_ok (N : Nat) (d) : fnR Γ_impl_increasing (assoc [(0, ⟨impl_increasing_l0_h, impl_increasing_l0_o, impl_increasing_l0 N N⟩)]) true [(K_Si, false)] [.bool] Try.f85.results.toList (bodyOf Try.f85) d = F_impl_increasing N d := by kernel_rfl
noncomputable def S_impl_increasing : FSig := ⟨[(K_Si, false)], [.bool], true, (G_increasing)⟩
noncomputable def Γ_impl_allWithin : Ctx := { tk := assoc tks, ar := assoc ars, fs := assoc [(72, S_impl_within)] }
abbrev impl_allWithin_l0_H := Int × Int × List Int × Int × Int × Unit
abbrev impl_allWithin_l0_O := (Bool × Unit) ⊕ Unit ⊕ Empty
def impl_allWithin_l0_h : Form := [(1, .v I), (2, .v I), (9, .v K_Si), (10, .v I), (11, .v I)]
def impl_allWithin_l0_o : Outs := [(.ret, [(6, .v .bool)]), (.normal, [])]
noncomputable def impl_allWithin_l0_r (N : Nat) (back : impl_allWithin_l0_H → Option impl_allWithin_l0_O) (d : impl_allWithin_l0_H) : Option impl_allWithin_l0_O :=
  let s1 : Int := d.1
  let s2 : Int := d.2.1
  let s9 : List Int := d.2.2.1
  let s10 : Int := d.2.2.2.1
  let s11 : Int := d.2.2.2.2.1
  if (decide (s11 < s10)) = true then
    if (idxIn s11 (List.length s9)) = true then
    let r6 : Bool × Unit := g_impl_within ((at_ I s9 s11.toNat, (s1, (s2, ()))))
    if (!r6.1) = true then
      some (.inl (false, ()))
    else
      let x7 : Int := IntKind.wrap .i64 (s11 + (1 : Int))
      back ((s1, (s2, (s9, (s10, (x7, ()))))))
    else none
  else
    some (.inr (.inl ()))
noncomputable def impl_allWithin_l0 (N : Nat) : Nat → impl_allWithin_l0_H → Option impl_allWithin_l0_O
  | 0, _ => none
  | k + 1, d => impl_allWithin_l0_r N (impl_allWithin_l0 N k) d
theorem impl_allWithin_l0_ok (N : Nat) (back) (d) : roundR Γ_impl_allWithin (assoc []) 0 impl_allWithin_l0_h impl_allWithin_l0_o (loopOf Try.f86 0) back d = impl_allWithin_l0_r N back d := by kernel_rfl
noncomputable def F_impl_allWithin (N : Nat) (d : List Int × Int × Int × Unit) : Option (Bool × Unit) :=
  let a0 : List Int := d.1
  let a1 : Int := d.2.1
  let a2 : Int := d.2.2.1
  (impl_allWithin_l0 N N ((a1, (a2, (a0, ((List.length a0 : Int), ((0 : Int), ()))))))).bind fun o3 => match o3 with
  | .inl d4 =>
    some (d4.1, ())
  | .inr (.inl d5) =>
    some (true, ())
theorem F_impl_allWithin_ok (N : Nat) (d) : fnR Γ_impl_allWithin (assoc [(0, ⟨impl_allWithin_l0_h, impl_allWithin_l0_o, impl_allWithin_l0 N N⟩)]) true [(K_Si, false), (I, false), (I, false)] [.bool] Try.f86.results.toList (bodyOf Try.f86) d = F_impl_allWithin N d := by kernel_rfl
noncomputable def S_impl_allWithin : FSig := ⟨[(K_Si, false), (I, false), (I, false)], [.bool], true, (G_allWithin)⟩
noncomputable def Γ_impl_IsTimetable_1 : Ctx := { tk := assoc tks, ar := assoc ars, fs := assoc [(85, S_impl_increasing), (86, S_impl_allWithin)] }
noncomputable def F_impl_IsTimetable_1 (N : Nat) (d : List Int × ((Int × (List (Int × Int × Unit)) × Unit) × Int × List (List Int) × Unit) × Unit) : Option (Bool × Unit) :=
  let a0 : List Int := d.1
  let a1 : (Int × (List (Int × Int × Unit)) × Unit) × Int × List (List Int) × Unit := d.2.1
  (G_increasing (a0, ())).bind fun r1 =>
  if (!r1.1) = true then
    some (true, ())
  else
    let x2 : Int := IntKind.wrap .i64 (a1.2.1 - (1 : Int))
    (G_allWithin ((a0, ((0 : Int), (x2, ()))))).bind fun r3 =>
    some (!r3.1, ())
theorem F_impl_IsTimetable_1_ok (N : Nat) (d) : fnR Γ_impl_IsTimetable_1 (assoc []) true [(K_Si, false), (K_BPPiSPiiqqiSSiq, false)] [.bool] Try.f84.results.toList (bodyOf Try.f84) d = F_impl_IsTimetable_1 N d := by kernel_rfl
noncomputable def S_impl_IsTimetable_1 : FSig := ⟨[(K_Si, false), (K_BPPiSPiiqqiSSiq, false)], [.bool], true, (F_impl_IsTimetable_1 0)⟩
noncomputable def FV_impl_IsTimetable_1 (d : List Int × (Unit × ((Int × (List (Int × Int × Unit)) × Unit) × Int × List (List Int) × Unit) × Unit) × Unit) : Option (Bool × Unit) := (F_impl_IsTimetable_1 0) (d.1, d.2.1.2)
noncomputable def SV_impl_IsTimetable_1 : FSig := ⟨[(K_Si, false), (K_F_impl_IsTimetable_1_qPBPPiSPiiqqiSSiqq, false)], [.bool], true, FV_impl_IsTimetable_1⟩
noncomputable def Γ_slices_IndexFunc_SSint_Sint_by_impl_IsTimetable_1 : Ctx := { tk := assoc tks, ar := assoc ars, fs := assoc [], cs := assoc [(84, SV_impl_IsTimetable_1)] }
abbrev slices_IndexFunc_SSint_Sint_by_impl_IsTimetable_1_l0_H := List (List Int) × (Unit × ((Int × (List (Int × Int × Unit)) × Unit) × Int × List (List Int) × Unit) × Unit) × Int × Int × Unit
abbrev slices_IndexFunc_SSint_Sint_by_impl_IsTimetable_1_l0_O := (Int × Unit) ⊕ Unit ⊕ Empty
def slices_IndexFunc_SSint_Sint_by_impl_IsTimetable_1_l0_h : Form := [(0, .v K_SSi), (1, .v K_F_impl_IsTimetable_1_qPBPPiSPiiqqiSSiqq), (7, .v I), (8, .v I)]
def slices_IndexFunc_SSint_Sint_by_impl_IsTimetable_1_l0_o : Outs := [(.ret, [(4, .v I)]), (.normal, [])]
noncomputable def slices_IndexFunc_SSint_Sint_by_impl_IsTimetable_1_l0_r (N : Nat) (back : slices_IndexFunc_SSint_Sint_by_impl_IsTimetable_1_l0_H → Option slices_IndexFunc_SSint_Sint_by_impl_IsTimetable_1_l0_O) (d : slices_IndexFunc_SSint_Sint_by_impl_IsTimetable_1_l0_H) : Option slices_IndexFunc_SSint_Sint_by_impl_IsTimetable_1_l0_O :=
  let s0 : List (List Int) := d.1
  let s1 : Unit × ((Int × (List (Int × Int × Unit)) × Unit) × Int × List (List Int) × Unit) × Unit := d.2.1
  let s7 : Int := d.2.2.1
  let s8 : Int := d.2.2.2.1
  if (decide (s8 < s7)) = true then
    if (idxIn s8 (List.length s0)) = true then
    (FV_impl_IsTimetable_1 ((at_ K_Si s0 s8.toNat, (s1, ())))).bind fun r6 =>
    if (r6.1) = true then
      some (.inl (s8, ()))
    else
      let x7 : Int := IntKind.wrap .i64 (s8 + (1 : Int))
      back ((s0, (s1, (s7, (x7, ())))))
    else none
  else
    some (.inr (.inl ()))
noncomputable def slices_IndexFunc_SSint_Sint_by_impl_IsTimetable_1_l0 (N : Nat) : Nat → slices_IndexFunc_SSint_Sint_by_impl_IsTimetable_1_l0_H → Option slices_IndexFunc_SSint_Sint_by_impl_IsTimetable_1_l0_O
  | 0, _ => none
  | k + 1, d => slices_IndexFunc_SSint_Sint_by_impl_IsTimetable_1_l0_r N (slices_IndexFunc_SSint_Sint_by_impl_IsTimetable_1_l0 N k) d
theorem slices_IndexFunc_SSint_Sint_by_impl_IsTimetable_1_l0_ok (N : Nat) (back) (d) : roundR Γ_slices_IndexFunc_SSint_Sint_by_impl_IsTimetable_1 (assoc []) 0 slices_IndexFunc_SSint_Sint_by_impl_IsTimetable_1_l0_h slices_IndexFunc_SSint_Sint_by_impl_IsTimetable_1_l0_o (loopOf Try.f129 0) back d = slices_IndexFunc_SSint_Sint_by_impl_IsTimetable_1_l0_r N back d := by kernel_rfl
noncomputable def F_slices_IndexFunc_SSint_Sint_by_impl_IsTimetable_1 (N : Nat) (d : List (List Int) × (Unit × ((Int × (List (Int × Int × Unit)) × Unit) × Int × List (List Int) × Unit) × Unit) × Unit) : Option (Int × Unit) :=
  let a0 : List (List Int) := d.1
  let a1 : Unit × ((Int × (List (Int × Int × Unit)) × Unit) × Int × List (List Int) × Unit) × Unit := d.2.1
  (slices_IndexFunc_SSint_Sint_by_impl_IsTimetable_1_l0 N N ((a0, (a1, ((List.length a0 : Int), ((0 : Int), ())))))).bind fun o3 => match o3 with
  | .inl d4 =>
    some (d4.1, ())
  | .inr (.inl d5) =>
    some ((-1 : Int), ())
theorem F_slices_IndexFunc_SSint_Sint_by_impl_IsTimetable_1_ok (N : Nat) (d) : fnR Γ_slices_IndexFunc_SSint_Sint_by_impl_IsTimetable_1 (assoc [(0, ⟨slices_IndexFunc_SSint_Sint_by_impl_IsTimetable_1_l0_h, slices_IndexFunc_SSint_Sint_by_impl_IsTimetable_1_l0_o, slices_IndexFunc_SSint_Sint_by_impl_IsTimetable_1_l0 N N⟩)]) true [(K_SSi, false), (K_F_impl_IsTimetable_1_qPBPPiSPiiqqiSSiqq, false)] [I] Try.f129.results.toList (bodyOf Try.f129) d = F_slices_IndexFunc_SSint_Sint_by_impl_IsTimetable_1 N d := by kernel_rfl
noncomputable def S_slices_IndexFunc_SSint_Sint_by_impl_IsTimetable_1 : FSig := ⟨[(K_SSi, false), (K_F_impl_IsTimetable_1_qPBPPiSPiiqqiSSiqq, false)], [I], true, (G_index84)⟩
noncomputable def Γ_slices_ContainsFunc_SSint_Sint_by_impl_IsTimetable_1 : Ctx := { tk := assoc tks, ar := assoc ars, fs := assoc [(129, S_slices_IndexFunc_SSint_Sint_by_impl_IsTimetable_1)] }
noncomputable def F_slices_ContainsFunc_SSint_Sint_by_impl_IsTimetable_1 (N : Nat) (d : List (List Int) × (Unit × ((Int × (List (Int × Int × Unit)) × Unit) × Int × List (List Int) × Unit) × Unit) × Unit) : Option (Bool × Unit) :=
  let a0 : List (List Int) := d.1
  let a1 : Unit × ((Int × (List (Int × Int × Unit)) × Unit) × Int × List (List Int) × Unit) × Unit := d.2.1
  (G_index84 ((a0, (a1, ())))).bind fun r1 =>
  some ((decide (r1.1 ≥ (0 : Int)), ()))
theorem F_slices_ContainsFunc_SSint_Sint_by_impl_IsTimetable_1_ok (N : Nat) (d) : fnR Γ_slices_ContainsFunc_SSint_Sint_by_impl_IsTimetable_1 (assoc []) true [(K_SSi, false), (K_F_impl_IsTimetable_1_qPBPPiSPiiqqiSSiqq, false)] [.bool] Try.f83.results.toList (bodyOf Try.f83) d = F_slices_ContainsFunc_SSint_Sint_by_impl_IsTimetable_1 N d := by kernel_rfl
noncomputable def S_slices_ContainsFunc_SSint_Sint_by_impl_IsTimetable_1 : FSig := ⟨[(K_SSi, false), (K_F_impl_IsTimetable_1_qPBPPiSPiiqqiSSiqq, false)], [.bool], true, (F_slices_ContainsFunc_SSint_Sint_by_impl_IsTimetable_1 0)⟩
noncomputable def Γ_impl_IsTimetable : Ctx := { tk := assoc tks, ar := assoc ars, fs := assoc [(72, S_impl_within), (76, S_impl_IsGraph), (83, S_slices_ContainsFunc_SSint_Sint_by_impl_IsTimetable_1)], cs := assoc [], fz := fun t => Nat.beq t 1 }
noncomputable def F_impl_IsTimetable (N : Nat) (d : ((Int × (List (Int × Int × Unit)) × Unit) × Int × List (List Int) × Unit) × Unit) : Option (Bool × Unit) :=
  let a0 : (Int × (List (Int × Int × Unit)) × Unit) × Int × List (List Int) × Unit := d.1
  (G_graph (a0.1, ())).bind fun r1 =>
  if (!r1.1) = true then
    some (false, ())
  else
    if (a0.1.1 == (0 : Int)) = true then
      some (false, ())
    else
      let r2 : Bool × Unit := g_impl_within ((a0.2.1, ((1 : Int), ((4 : Int), ()))))
      if (!r2.1) = true then
        some (false, ())
      else
        if ((List.length a0.2.2.1 : Int) != (List.length a0.1.2.1 : Int)) = true then
          some (false, ())
        else
          ((F_slices_ContainsFunc_SSint_Sint_by_impl_IsTimetable_1 0) ((a0.2.2.1, (((), (a0, ())), ())))).bind fun r3 =>
          some (!r3.1, ())
theorem F_impl_IsTimetable_ok (N : Nat) (d) : fnR Γ_impl_IsTimetable (assoc []) true [(K_PPiSPiiqqiSSiq, false)] [.bool] Try.f35.results.toList (bodyOf Try.f35) d = F_impl_IsTimetable N d := by kernel_rfl
noncomputable def S_impl_IsTimetable : FSig := ⟨[(K_PPiSPiiqqiSSiq, false)], [.bool], true, (F_impl_IsTimetable 0)⟩
noncomputable def Γ_impl_netOf : Ctx := { tk := assoc tks, ar := assoc ars, fs := assoc [] }
abbrev impl_netOf_l0_H := (List Int × Unit) × (List Int × Unit) × (List (Int × Int × Unit)) × Int × Int × Unit
abbrev impl_netOf_l0_O := ((List Int × Unit) × (List Int × Unit) × Unit) ⊕ Empty
def impl_netOf_l0_h : Form := [(2, .box K_PSiq 99), (3, .box K_PSiq 99), (11, .v K_SPiiq), (12, .v I), (13, .v I)]
def impl_netOf_l0_o : Outs := [(.normal, [(2, .box K_PSiq 99), (3, .box K_PSiq 99)])]
noncomputable def impl_netOf_l0_r (N : Nat) (back : impl_netOf_l0_H → Option impl_netOf_l0_O) (d : impl_netOf_l0_H) : Option impl_netOf_l0_O :=
  let s2 : List Int × Unit := d.1
  let s3 : List Int × Unit := d.2.1
  let s11 : List (Int × Int × Unit) := d.2.2.1
  let s12 : Int := d.2.2.2.1
  let s13 : Int := d.2.2.2.2.1
  if (decide (s13 < s12)) = true then
    if (idxIn s13 (List.length s11)) = true then
    if (idxIn (at_ K_Piiq s11 s13.toNat).1 (List.length s3.1)) = true then
    if (decide (0 ≤ (at_ K_Piiq s11 s13.toNat).2.1)) = true then
    let x9 : Int := shl .i64 (1 : Int) (at_ K_Piiq s11 s13.toNat).2.1
    let x10 : Int := bits .or .i64 (at_ I s3.1 (at_ K_Piiq s11 s13.toNat).1.toNat) x9
    if (idxIn (at_ K_Piiq s11 s13.toNat).1 (List.length s3.1)) = true then
    if (idxIn (at_ K_Piiq s11 s13.toNat).2.1 (List.length (List.set s3.1 (at_ K_Piiq s11 s13.toNat).1.toNat x10))) = true then
    if (decide (0 ≤ (at_ K_Piiq s11 s13.toNat).1)) = true then
    let x11 : Int := shl .i64 (1 : Int) (at_ K_Piiq s11 s13.toNat).1
    let x12 : Int := bits .or .i64 (at_ I (List.set s3.1 (at_ K_Piiq s11 s13.toNat).1.toNat x10) (at_ K_Piiq s11 s13.toNat).2.1.toNat) x11
    if (idxIn (at_ K_Piiq s11 s13.toNat).2.1 (List.length (List.set s3.1 (at_ K_Piiq s11 s13.toNat).1.toNat x10))) = true then
    let x13 : Int := IntKind.wrap .i64 (s13 + (1 : Int))
    back ((s2, ((List.set (List.set s3.1 (at_ K_Piiq s11 s13.toNat).1.toNat x10) (at_ K_Piiq s11 s13.toNat).2.1.toNat x12, s3.2), (s11, (s12, (x13, ()))))))
    else none
    else none
    else none
    else none
    else none
    else none
    else none
  else
    some (.inl ((s2, (s3, ()))))
noncomputable def impl_netOf_l0 (N : Nat) : Nat → impl_netOf_l0_H → Option impl_netOf_l0_O
  | 0, _ => none
  | k + 1, d => impl_netOf_l0_r N (impl_netOf_l0 N k) d
theorem impl_netOf_l0_ok (N : Nat) (back) (d) : roundR Γ_impl_netOf (assoc []) 0 impl_netOf_l0_h impl_netOf_l0_o (loopOf Try.f108 0) back d = impl_netOf_l0_r N back d := by kernel_rfl
noncomputable def F_impl_netOf (N : Nat) (d : (Int × (List (Int × Int × Unit)) × Unit) × Unit) : Option ((List Int × Unit) × Unit) :=
  let a0 : Int × (List (Int × Int × Unit)) × Unit := d.1
  if ((decide (0 ≤ a0.1) && decide (a0.1 ≤ a0.1) && decide (a0.1 ≤ (lim : Int)))) = true then
  let x1 : List Int := List.replicate a0.1.toNat (0 : Int)
  (impl_netOf_l0 N N (((([] : List Int), ()), ((x1, ()), (a0.2.1, ((List.length a0.2.1 : Int), ((0 : Int), ()))))))).bind fun o7 => match o7 with
  | .inl d8 =>
    some (d8.2.1, ())
  else none
theorem F_impl_netOf_ok (N : Nat) (d) : fnR Γ_impl_netOf (assoc [(0, ⟨impl_netOf_l0_h, impl_netOf_l0_o, impl_netOf_l0 N N⟩)]) true [(K_PiSPiiqq, false)] [K_PSiq] Try.f108.results.toList (bodyOf Try.f108) d = F_impl_netOf N d := by kernel_rfl
noncomputable def S_impl_netOf : FSig := ⟨[(K_PiSPiiqq, false)], [K_PSiq], true, (G_netOf)⟩
noncomputable def Γ_slices_Index_Sint_int : Ctx := { tk := assoc tks, ar := assoc ars, fs := assoc [] }
abbrev slices_Index_Sint_int_l0_H := List Int × Int × Int × Int × Unit
abbrev slices_Index_Sint_int_l0_O := (Int × Unit) ⊕ Unit ⊕ Empty
def slices_Index_Sint_int_l0_h : Form := [(0, .v K_Si), (1, .v I), (7, .v I), (8, .v I)]
def slices_Index_Sint_int_l0_o : Outs := [(.ret, [(4, .v I)]), (.normal, [])]
noncomputable def slices_Index_Sint_int_l0_r (N : Nat) (back : slices_Index_Sint_int_l0_H → Option slices_Index_Sint_int_l0_O) (d : slices_Index_Sint_int_l0_H) : Option slices_Index_Sint_int_l0_O :=
  let s0 : List Int := d.1
  let s1 : Int := d.2.1
  let s7 : Int := d.2.2.1
  let s8 : Int := d.2.2.2.1
  if (decide (s8 < s7)) = true then
    if (idxIn s8 (List.length s0)) = true then
    if (s1 == at_ I s0 s8.toNat) = true then
      some (.inl (s8, ()))
    else
      let x5 : Int := IntKind.wrap .i64 (s8 + (1 : Int))
      back ((s0, (s1, (s7, (x5, ())))))
    else none
  else
    some (.inr (.inl ()))
noncomputable def slices_Index_Sint_int_l0 (N : Nat) : Nat → slices_Index_Sint_int_l0_H → Option slices_Index_Sint_int_l0_O
  | 0, _ => none
  | k + 1, d => slices_Index_Sint_int_l0_r N (slices_Index_Sint_int_l0 N k) d
theorem slices_Index_Sint_int_l0_ok (N : Nat) (back) (d) : roundR Γ_slices_Index_Sint_int (assoc []) 0 slices_Index_Sint_int_l0_h slices_Index_Sint_int_l0_o (loopOf Try.f150 0) back d = slices_Index_Sint_int_l0_r N back d := by kernel_rfl
noncomputable def F_slices_Index_Sint_int (N : Nat) (d : List Int × Int × Unit) : Option (Int × Unit) :=
  let a0 : List Int := d.1
  let a1 : Int := d.2.1
  (slices_Index_Sint_int_l0 N N ((a0, (a1, ((List.length a0 : Int), ((0 : Int), ())))))).bind fun o2 => match o2 with
  | .inl d3 =>
    some (d3.1, ())
  | .inr (.inl d4) =>
    some ((-1 : Int), ())
theorem F_slices_Index_Sint_int_ok (N : Nat) (d) : fnR Γ_slices_Index_Sint_int (assoc [(0, ⟨slices_Index_Sint_int_l0_h, slices_Index_Sint_int_l0_o, slices_Index_Sint_int_l0 N N⟩)]) true [(K_Si, false), (I, false)] [I] Try.f150.results.toList (bodyOf Try.f150) d = F_slices_Index_Sint_int N d := by kernel_rfl
noncomputable def S_slices_Index_Sint_int : FSig := ⟨[(K_Si, false), (I, false)], [I], true, (G_index)⟩
noncomputable def Γ_slices_Contains_Sint_int : Ctx := { tk := assoc tks, ar := assoc ars, fs := assoc [(150, S_slices_Index_Sint_int)] }
noncomputable def F_slices_Contains_Sint_int (N : Nat) (d : List Int × Int × Unit) : Option (Bool × Unit) :=
  let a0 : List Int := d.1
  let a1 : Int := d.2.1
  (G_index ((a0, (a1, ())))).bind fun r1 =>
  some ((decide (r1.1 ≥ (0 : Int)), ()))
theorem F_slices_Contains_Sint_int_ok (N : Nat) (d) : fnR Γ_slices_Contains_Sint_int (assoc []) true [(K_Si, false), (I, false)] [.bool] Try.f132.results.toList (bodyOf Try.f132) d = F_slices_Contains_Sint_int N d := by kernel_rfl
noncomputable def S_slices_Contains_Sint_int : FSig := ⟨[(K_Si, false), (I, false)], [.bool], true, (F_slices_Contains_Sint_int 0)⟩
noncomputable def Γ_impl_openNets : Ctx := { tk := assoc tks, ar := assoc ars, fs := assoc [(108, S_impl_netOf), (132, S_slices_Contains_Sint_int)] }
abbrev impl_openNets_l2_H := ((Int × (List (Int × Int × Unit)) × Unit) × Int × List (List Int) × Unit) × (List (List Int × Unit)) × Int × Int × Int × (List (Int × Int × Unit)) × Int × Int × Unit
abbrev impl_openNets_l2_O := (((Int × (List (Int × Int × Unit)) × Unit) × Int × List (List Int) × Unit) × (List (List Int × Unit)) × Int × Int × Unit) ⊕ Empty
def impl_openNets_l2_h : Form := [(1, .box K_PPiSPiiqqiSSiq 0), (3, .own K_SPSiq 99), (4, .v I), (11, .v I), (12, .v I), (25, .v K_SPiiq), (26, .v I), (27, .v I)]
def impl_openNets_l2_o : Outs := [(.normal, [(1, .box K_PPiSPiiqqiSSiq 0), (3, .own K_SPSiq 99), (11, .v I), (12, .v I)])]
noncomputable def impl_openNets_l2_r (N : Nat) (back : impl_openNets_l2_H → Option impl_openNets_l2_O) (d : impl_openNets_l2_H) : Option impl_openNets_l2_O :=
  let s1 : (Int × (List (Int × Int × Unit)) × Unit) × Int × List (List Int) × Unit := d.1
  let s3 : List (List Int × Unit) := d.2.1
  let s4 : Int := d.2.2.1
  let s11 : Int := d.2.2.2.1
  let s12 : Int := d.2.2.2.2.1
  let s25 : List (Int × Int × Unit) := d.2.2.2.2.2.1
  let s26 : Int := d.2.2.2.2.2.2.1
  let s27 : Int := d.2.2.2.2.2.2.2.1
  if (decide (s27 < s26)) = true then
    if (idxIn s27 (List.length s25)) = true then
    if (idxIn s27 (List.length s1.2.2.1)) = true then
    ((F_slices_Contains_Sint_int 0) ((at_ K_Si s1.2.2.1 s27.toNat, (s4, ())))).bind fun r30 =>
    if (r30.1) = true then
      if (idxIn s4 (List.length s3)) = true then
      if (idxIn (at_ K_Piiq s25 s27.toNat).1 (List.length (at_ K_PSiq s3 s4.toNat).1)) = true then
      if (decide (0 ≤ (at_ K_Piiq s25 s27.toNat).2.1)) = true then
      let x31 : Int := shl .i64 (1 : Int) (at_ K_Piiq s25 s27.toNat).2.1
      let x32 : Int := bits .or .i64 (at_ I (at_ K_PSiq s3 s4.toNat).1 (at_ K_Piiq s25 s27.toNat).1.toNat) x31
      if (idxIn (at_ K_Piiq s25 s27.toNat).1 (List.length (at_ K_PSiq s3 s4.toNat).1)) = true then
      let x33 : List (List Int × Unit) := List.set s3 s4.toNat (List.set (at_ K_PSiq s3 s4.toNat).1 (at_ K_Piiq s25 s27.toNat).1.toNat x32, (at_ K_PSiq s3 s4.toNat).2)
      if (idxIn s4 (List.length x33)) = true then
      if (idxIn (at_ K_Piiq s25 s27.toNat).2.1 (List.length (at_ K_PSiq x33 s4.toNat).1)) = true then
      if (decide (0 ≤ (at_ K_Piiq s25 s27.toNat).1)) = true then
      let x34 : Int := shl .i64 (1 : Int) (at_ K_Piiq s25 s27.toNat).1
      let x35 : Int := bits .or .i64 (at_ I (at_ K_PSiq x33 s4.toNat).1 (at_ K_Piiq s25 s27.toNat).2.1.toNat) x34
      if (idxIn (at_ K_Piiq s25 s27.toNat).2.1 (List.length (at_ K_PSiq x33 s4.toNat).1)) = true then
      let x36 : List (List Int × Unit) := List.set x33 s4.toNat (List.set (at_ K_PSiq x33 s4.toNat).1 (at_ K_Piiq s25 s27.toNat).2.1.toNat x35, (at_ K_PSiq x33 s4.toNat).2)
      let x37 : Int := IntKind.wrap .i64 (s27 + (1 : Int))
      back ((s1, (x36, (s4, (s11, (s12, (s25, (s26, (x37, ())))))))))
      else none
      else none
      else none
      else none
      else none
      else none
      else none
      else none
    else
      let x38 : Int := IntKind.wrap .i64 (s27 + (1 : Int))
      back ((s1, (s3, (s4, (s11, (s12, (s25, (s26, (x38, ())))))))))
    else none
    else none
  else
    some (.inl ((s1, (s3, (s11, (s12, ()))))))
noncomputable def impl_openNets_l2 (N : Nat) : Nat → impl_openNets_l2_H → Option impl_openNets_l2_O
  | 0, _ => none
  | k + 1, d => impl_openNets_l2_r N (impl_openNets_l2 N k) d
theorem impl_openNets_l2_ok (N : Nat) (back) (d) : roundR Γ_impl_openNets (assoc []) 2 impl_openNets_l2_h impl_openNets_l2_o (loopOf Try.f96 2) back d = impl_openNets_l2_r N back d := by kernel_rfl
abbrev impl_openNets_l0_H := ((Int × (List (Int × Int × Unit)) × Unit) × Int × List (List Int) × Unit) × (List (List Int × Unit)) × Int × Int × Unit
abbrev impl_openNets_l0_O := ((List (List Int × Unit)) × Unit) ⊕ Empty
def impl_openNets_l0_h : Form := [(1, .box K_PPiSPiiqqiSSiq 0), (3, .own K_SPSiq 99), (11, .v I), (12, .v I)]
def impl_openNets_l0_o : Outs := [(.normal, [(3, .own K_SPSiq 99)])]
noncomputable def impl_openNets_l0_r (N : Nat) (back : impl_openNets_l0_H → Option impl_openNets_l0_O) (d : impl_openNets_l0_H) : Option impl_openNets_l0_O :=
  let s1 : (Int × (List (Int × Int × Unit)) × Unit) × Int × List (List Int) × Unit := d.1
  let s3 : List (List Int × Unit) := d.2.1
  let s11 : Int := d.2.2.1
  let s12 : Int := d.2.2.2.1
  if (decide (s12 < s11)) = true then
    (G_netOf (((s1.1.1, (([] : List (Int × Int × Unit)), ())), ()))).bind fun r17 =>
    if (idxIn s12 (List.length s3)) = true then
    (impl_openNets_l2 N N ((s1, (List.set s3 s12.toNat r17.1, (s12, (s11, (s12, (s1.1.2.1, ((List.length s1.1.2.1 : Int), ((0 : Int), ())))))))))).bind fun o27 => match o27 with
    | .inl d28 =>
      let x29 : Int := IntKind.wrap .i64 (d28.2.2.2.1 + (1 : Int))
      back ((d28.1, (d28.2.1, (d28.2.2.1, (x29, ())))))
    else none
  else
    some (.inl (s3, ()))
noncomputable def impl_openNets_l0 (N : Nat) : Nat → impl_openNets_l0_H → Option impl_openNets_l0_O
  | 0, _ => none
  | k + 1, d => impl_openNets_l0_r N (impl_openNets_l0 N k) d
theorem impl_openNets_l0_ok (N : Nat) (back) (d) : roundR Γ_impl_openNets (assoc [(2, ⟨impl_openNets_l2_h, impl_openNets_l2_o, impl_openNets_l2 N N⟩)]) 0 impl_openNets_l0_h impl_openNets_l0_o (loopOf Try.f96 0) back d = impl_openNets_l0_r N back d := by kernel_rfl
noncomputable def F_impl_openNets (N : Nat) (d : ((Int × (List (Int × Int × Unit)) × Unit) × Int × List (List Int) × Unit) × Unit) : Option ((List (List Int × Unit)) × Unit) :=
  let a0 : (Int × (List (Int × Int × Unit)) × Unit) × Int × List (List Int) × Unit := d.1
  if ((decide (0 ≤ a0.2.1) && decide (a0.2.1 ≤ a0.2.1) && decide (a0.2.1 ≤ (lim : Int)))) = true then
  let x1 : List (List Int × Unit) := List.replicate a0.2.1.toNat (([] : List Int), ())
  (impl_openNets_l0 N N ((a0, (x1, ((List.length x1 : Int), ((0 : Int), ())))))).bind fun o15 => match o15 with
  | .inl d16 =>
    some (d16.1, ())
  else none
theorem F_impl_openNets_ok (N : Nat) (d) : fnR Γ_impl_openNets (assoc [(0, ⟨impl_openNets_l0_h, impl_openNets_l0_o, impl_openNets_l0 N N⟩)]) true [(K_PPiSPiiqqiSSiq, false)] [K_SPSiq] Try.f96.results.toList (bodyOf Try.f96) d = F_impl_openNets N d := by kernel_rfl
noncomputable def S_impl_openNets : FSig := ⟨[(K_PPiSPiiqqiSSiq, false)], [K_SPSiq], true, (G_openNets)⟩
noncomputable def Γ_impl_net_size : Ctx := { tk := assoc tks, ar := assoc ars, fs := assoc [] }
noncomputable def F_impl_net_size (N : Nat) (d : (List Int × Unit) × Unit) : Option (Int × Unit) :=
  let a0 : List Int × Unit := d.1
  some ((List.length a0.1 : Int), ())
theorem F_impl_net_size_ok (N : Nat) (d) : fnR Γ_impl_net_size (assoc []) true [(K_PSiq, false)] [I] Try.f134.results.toList (bodyOf Try.f134) d = F_impl_net_size N d := by kernel_rfl
noncomputable def g_impl_net_size (d : (List Int × Unit) × Unit) : Int × Unit :=
  let a0 : List Int × Unit := d.1
  ((List.length a0.1 : Int), ())
theorem F_impl_net_size_tot (N : Nat) (d) : F_impl_net_size N d = some (g_impl_net_size d) := by
  unfold F_impl_net_size g_impl_net_size
  first
    | rfl
    | (dsimp only; (repeat' split) <;> rfl)
noncomputable def S_impl_net_size : FSig := ⟨[(K_PSiq, false)], [I], true, (fun d => some (g_impl_net_size d))⟩
noncomputable def Γ_impl_isTimedProof_1_1 : Ctx := { tk := assoc tks, ar := assoc ars, fs := assoc [] }
noncomputable def F_impl_isTimedProof_1_1 (N : Nat) (d : Int × Unit) : Option (Bool × Unit) :=
  let a0 : Int := d.1
  some ((decide (a0 < (-1 : Int)), ()))
theorem F_impl_isTimedProof_1_1_ok (N : Nat) (d) : fnR Γ_impl_isTimedProof_1_1 (assoc []) true [(I, false)] [.bool] Try.f144.results.toList (bodyOf Try.f144) d = F_impl_isTimedProof_1_1 N d := by kernel_rfl
noncomputable def g_impl_isTimedProof_1_1 (d : Int × Unit) : Bool × Unit :=
  let a0 : Int := d.1
  ((decide (a0 < (-1 : Int)), ()))
theorem F_impl_isTimedProof_1_1_tot (N : Nat) (d) : F_impl_isTimedProof_1_1 N d = some (g_impl_isTimedProof_1_1 d) := by
  unfold F_impl_isTimedProof_1_1 g_impl_isTimedProof_1_1
  first
    | rfl
    | (dsimp only; (repeat' split) <;> rfl)
noncomputable def S_impl_isTimedProof_1_1 : FSig := ⟨[(I, false)], [.bool], true, (fun d => some (g_impl_isTimedProof_1_1 d))⟩
noncomputable def Γ_impl_net_closed : Ctx := { tk := assoc tks, ar := assoc ars, fs := assoc [] }
noncomputable def F_impl_net_closed (N : Nat) (d : (List Int × Unit) × Int × Unit) : Option (Int × Unit) :=
  let a0 : List Int × Unit := d.1
  let a1 : Int := d.2.1
  if (idxIn a1 (List.length a0.1)) = true then
  if (decide (0 ≤ a1)) = true then
  let x1 : Int := bits .or .i64 (at_ I a0.1 a1.toNat) (shl .i64 (1 : Int) a1)
  some (x1, ())
  else none
  else none
theorem F_impl_net_closed_ok (N : Nat) (d) : fnR Γ_impl_net_closed (assoc []) true [(K_PSiq, false), (I, false)] [I] Try.f111.results.toList (bodyOf Try.f111) d = F_impl_net_closed N d := by kernel_rfl
noncomputable def S_impl_net_closed : FSig := ⟨[(K_PSiq, false), (I, false)], [I], true, (F_impl_net_closed 0)⟩
noncomputable def Γ_impl_setOf : Ctx := { tk := assoc tks, ar := assoc ars, fs := assoc [] }
abbrev impl_setOf_l0_H := Int × List Int × Int × Unit
abbrev impl_setOf_l0_O := (List Int × Unit) ⊕ Empty
def impl_setOf_l0_h : Form := [(0, .v I), (3, .own K_Si 99), (4, .v I)]
def impl_setOf_l0_o : Outs := [(.normal, [(3, .own K_Si 99)])]
noncomputable def impl_setOf_l0_r (N : Nat) (back : impl_setOf_l0_H → Option impl_setOf_l0_O) (d : impl_setOf_l0_H) : Option impl_setOf_l0_O :=
  let s0 : Int := d.1
  let s3 : List Int := d.2.1
  let s4 : Int := d.2.2.1
  if (decide (0 ≤ s4)) = true then
  if (shr .i64 s0 s4 != (0 : Int)) = true then
    if (decide (0 ≤ s4)) = true then
    let x6 : Int := bits .and .i64 (shr .i64 s0 s4) (1 : Int)
    if (x6 == (1 : Int)) = true then
      if (decide (List.length s3 + List.length ([s4]) ≤ lim)) = true then
      let x7 : Int := IntKind.wrap .i64 (s4 + (1 : Int))
      back ((s0, (s3 ++ ([s4]), (x7, ()))))
      else none
    else
      let x8 : Int := IntKind.wrap .i64 (s4 + (1 : Int))
      back ((s0, (s3, (x8, ()))))
    else none
  else
    some (.inl (s3, ()))
  else none
noncomputable def impl_setOf_l0 (N : Nat) : Nat → impl_setOf_l0_H → Option impl_setOf_l0_O
  | 0, _ => none
  | k + 1, d => impl_setOf_l0_r N (impl_setOf_l0 N k) d
theorem impl_setOf_l0_ok (N : Nat) (back) (d) : roundR Γ_impl_setOf (assoc []) 0 impl_setOf_l0_h impl_setOf_l0_o (loopOf Try.f106 0) back d = impl_setOf_l0_r N back d := by kernel_rfl
noncomputable def F_impl_setOf (N : Nat) (d : Int × Unit) : Option (List Int × Unit) :=
  let a0 : Int := d.1
  (impl_setOf_l0 N N ((a0, (([] : List Int), ((0 : Int), ()))))).bind fun o4 => match o4 with
  | .inl d5 =>
    some (d5.1, ())
theorem F_impl_setOf_ok (N : Nat) (d) : fnR Γ_impl_setOf (assoc [(0, ⟨impl_setOf_l0_h, impl_setOf_l0_o, impl_setOf_l0 N N⟩)]) true [(I, false)] [K_Si] Try.f106.results.toList (bodyOf Try.f106) d = F_impl_setOf N d := by kernel_rfl
noncomputable def S_impl_setOf : FSig := ⟨[(I, false)], [K_Si], true, (G_setOf)⟩
noncomputable def Γ_impl_net_timeAfter : Ctx := { tk := assoc tks, ar := assoc ars, fs := assoc [(106, S_impl_setOf), (111, S_impl_net_closed)] }
abbrev impl_net_timeAfter_l0_H := List Int × Int × List Int × Int × Int × Unit
abbrev impl_net_timeAfter_l0_O := (Int × Unit) ⊕ (Int × Unit) ⊕ Empty
def impl_net_timeAfter_l0_h : Form := [(1, .v K_Si), (7, .v I), (13, .own K_Si 99), (14, .v I), (15, .v I)]
def impl_net_timeAfter_l0_o : Outs := [(.ret, [(6, .v I)]), (.normal, [(7, .v I)])]
noncomputable def impl_net_timeAfter_l0_r (N : Nat) (back : impl_net_timeAfter_l0_H → Option impl_net_timeAfter_l0_O) (d : impl_net_timeAfter_l0_H) : Option impl_net_timeAfter_l0_O :=
  let s1 : List Int := d.1
  let s7 : Int := d.2.1
  let s13 : List Int := d.2.2.1
  let s14 : Int := d.2.2.2.1
  let s15 : Int := d.2.2.2.2.1
  if (decide (s15 < s14)) = true then
    if (idxIn s15 (List.length s13)) = true then
    if (idxIn (at_ I s13 s15.toNat) (List.length s1)) = true then
    if (decide (at_ I s1 (at_ I s13 s15.toNat).toNat < (0 : Int))) = true then
      some (.inl ((-1 : Int), ()))
    else
      if (idxIn (at_ I s13 s15.toNat) (List.length s1)) = true then
      let x8 : Int := if s7 < at_ I s1 (at_ I s13 s15.toNat).toNat then at_ I s1 (at_ I s13 s15.toNat).toNat else s7
      let x9 : Int := IntKind.wrap .i64 (s15 + (1 : Int))
      back ((s1, (x8, (s13, (s14, (x9, ()))))))
      else none
    else none
    else none
  else
    some (.inr (.inl (s7, ())))
noncomputable def impl_net_timeAfter_l0 (N : Nat) : Nat → impl_net_timeAfter_l0_H → Option impl_net_timeAfter_l0_O
  | 0, _ => none
  | k + 1, d => impl_net_timeAfter_l0_r N (impl_net_timeAfter_l0 N k) d
theorem impl_net_timeAfter_l0_ok (N : Nat) (back) (d) : roundR Γ_impl_net_timeAfter (assoc []) 0 impl_net_timeAfter_l0_h impl_net_timeAfter_l0_o (loopOf Try.f155 0) back d = impl_net_timeAfter_l0_r N back d := by kernel_rfl
noncomputable def F_impl_net_timeAfter (N : Nat) (d : (List Int × Unit) × List Int × Int × Unit) : Option (Int × Unit) :=
  let a0 : List Int × Unit := d.1
  let a1 : List Int := d.2.1
  let a2 : Int := d.2.2.1
  ((F_impl_net_closed 0) ((a0, (a2, ())))).bind fun r1 =>
  (G_setOf (r1.1, ())).bind fun r2 =>
  (impl_net_timeAfter_l0 N N ((a1, ((0 : Int), (r2.1, ((List.length r2.1 : Int), ((0 : Int), ()))))))).bind fun o5 => match o5 with
  | .inl d6 =>
    some (d6.1, ())
  | .inr (.inl d7) =>
    some (d7.1, ())
theorem F_impl_net_timeAfter_ok (N : Nat) (d) : fnR Γ_impl_net_timeAfter (assoc [(0, ⟨impl_net_timeAfter_l0_h, impl_net_timeAfter_l0_o, impl_net_timeAfter_l0 N N⟩)]) true [(K_PSiq, false), (K_Si, false), (I, false)] [I] Try.f155.results.toList (bodyOf Try.f155) d = F_impl_net_timeAfter N d := by kernel_rfl
noncomputable def S_impl_net_timeAfter : FSig := ⟨[(K_PSiq, false), (K_Si, false), (I, false)], [I], true, (G_timeAfter)⟩
noncomputable def FV_impl_isTimedProof_1_1 (d : Int × (Unit × Unit) × Unit) : Option (Bool × Unit) := (fun d => some (g_impl_isTimedProof_1_1 d)) (d.1, d.2.1.2)
noncomputable def SV_impl_isTimedProof_1_1 : FSig := ⟨[(I, false), (K_F_impl_isTimedProof_1_1_qq, false)], [.bool], true, FV_impl_isTimedProof_1_1⟩
noncomputable def Γ_slices_IndexFunc_Sint_int_by_impl_isTimedProof_1_1 : Ctx := { tk := assoc tks, ar := assoc ars, fs := assoc [], cs := assoc [(144, SV_impl_isTimedProof_1_1)] }
abbrev slices_IndexFunc_Sint_int_by_impl_isTimedProof_1_1_l0_H := List Int × (Unit × Unit) × Int × Int × Unit
abbrev slices_IndexFunc_Sint_int_by_impl_isTimedProof_1_1_l0_O := (Int × Unit) ⊕ Unit ⊕ Empty
def slices_IndexFunc_Sint_int_by_impl_isTimedProof_1_1_l0_h : Form := [(0, .v K_Si), (1, .v K_F_impl_isTimedProof_1_1_qq), (7, .v I), (8, .v I)]
def slices_IndexFunc_Sint_int_by_impl_isTimedProof_1_1_l0_o : Outs := [(.ret, [(4, .v I)]), (.normal, [])]
noncomputable def slices_IndexFunc_Sint_int_by_impl_isTimedProof_1_1_l0_r (N : Nat) (back : slices_IndexFunc_Sint_int_by_impl_isTimedProof_1_1_l0_H → Option slices_IndexFunc_Sint_int_by_impl_isTimedProof_1_1_l0_O) (d : slices_IndexFunc_Sint_int_by_impl_isTimedProof_1_1_l0_H) : Option slices_IndexFunc_Sint_int_by_impl_isTimedProof_1_1_l0_O :=
  let s0 : List Int := d.1
  let s1 : Unit × Unit := d.2.1
  let s7 : Int := d.2.2.1
  let s8 : Int := d.2.2.2.1
  if (decide (s8 < s7)) = true then
    if (idxIn s8 (List.length s0)) = true then
    (FV_impl_isTimedProof_1_1 ((at_ I s0 s8.toNat, (s1, ())))).bind fun r6 =>
    if (r6.1) = true then
      some (.inl (s8, ()))
    else
      let x7 : Int := IntKind.wrap .i64 (s8 + (1 : Int))
      back ((s0, (s1, (s7, (x7, ())))))
    else none
  else
    some (.inr (.inl ()))
noncomputable def slices_IndexFunc_Sint_int_by_impl_isTimedProof_1_1_l0 (N : Nat) : Nat → slices_IndexFunc_Sint_int_by_impl_isTimedProof_1_1_l0_H → Option slices_IndexFunc_Sint_int_by_impl_isTimedProof_1_1_l0_O
  | 0, _ => none
  | k + 1, d => slices_IndexFunc_Sint_int_by_impl_isTimedProof_1_1_l0_r N (slices_IndexFunc_Sint_int_by_impl_isTimedProof_1_1_l0 N k) d
theorem slices_IndexFunc_Sint_int_by_impl_isTimedProof_1_1_l0_ok (N : Nat) (back) (d) : roundR Γ_slices_IndexFunc_Sint_int_by_impl_isTimedProof_1_1 (assoc []) 0 slices_IndexFunc_Sint_int_by_impl_isTimedProof_1_1_l0_h slices_IndexFunc_Sint_int_by_impl_isTimedProof_1_1_l0_o (loopOf Try.f158 0) back d = slices_IndexFunc_Sint_int_by_impl_isTimedProof_1_1_l0_r N back d := by kernel_rfl
noncomputable def F_slices_IndexFunc_Sint_int_by_impl_isTimedProof_1_1 (N : Nat) (d : List Int × (Unit × Unit) × Unit) : Option (Int × Unit) :=
  let a0 : List Int := d.1
  let a1 : Unit × Unit := d.2.1
  (slices_IndexFunc_Sint_int_by_impl_isTimedProof_1_1_l0 N N ((a0, (a1, ((List.length a0 : Int), ((0 : Int), ())))))).bind fun o3 => match o3 with
  | .inl d4 =>
    some (d4.1, ())
  | .inr (.inl d5) =>
    some ((-1 : Int), ())
theorem F_slices_IndexFunc_Sint_int_by_impl_isTimedProof_1_1_ok (N : Nat) (d) : fnR Γ_slices_IndexFunc_Sint_int_by_impl_isTimedProof_1_1 (assoc [(0, ⟨slices_IndexFunc_Sint_int_by_impl_isTimedProof_1_1_l0_h, slices_IndexFunc_Sint_int_by_impl_isTimedProof_1_1_l0_o, slices_IndexFunc_Sint_int_by_impl_isTimedProof_1_1_l0 N N⟩)]) true [(K_Si, false), (K_F_impl_isTimedProof_1_1_qq, false)] [I] Try.f158.results.toList (bodyOf Try.f158) d = F_slices_IndexFunc_Sint_int_by_impl_isTimedProof_1_1 N d := by kernel_rfl
noncomputable def S_slices_IndexFunc_Sint_int_by_impl_isTimedProof_1_1 : FSig := ⟨[(K_Si, false), (K_F_impl_isTimedProof_1_1_qq, false)], [I], true, (G_index144)⟩
noncomputable def Γ_slices_ContainsFunc_Sint_int_by_impl_isTimedProof_1_1 : Ctx := { tk := assoc tks, ar := assoc ars, fs := assoc [(158, S_slices_IndexFunc_Sint_int_by_impl_isTimedProof_1_1)] }
noncomputable def F_slices_ContainsFunc_Sint_int_by_impl_isTimedProof_1_1 (N : Nat) (d : List Int × (Unit × Unit) × Unit) : Option (Bool × Unit) :=
  let a0 : List Int := d.1
  let a1 : Unit × Unit := d.2.1
  (G_index144 ((a0, (a1, ())))).bind fun r1 =>
  some ((decide (r1.1 ≥ (0 : Int)), ()))
theorem F_slices_ContainsFunc_Sint_int_by_impl_isTimedProof_1_1_ok (N : Nat) (d) : fnR Γ_slices_ContainsFunc_Sint_int_by_impl_isTimedProof_1_1 (assoc []) true [(K_Si, false), (K_F_impl_isTimedProof_1_1_qq, false)] [.bool] Try.f143.results.toList (bodyOf Try.f143) d = F_slices_ContainsFunc_Sint_int_by_impl_isTimedProof_1_1 N d := by kernel_rfl
noncomputable def S_slices_ContainsFunc_Sint_int_by_impl_isTimedProof_1_1 : FSig := ⟨[(K_Si, false), (K_F_impl_isTimedProof_1_1_qq, false)], [.bool], true, (F_slices_ContainsFunc_Sint_int_by_impl_isTimedProof_1_1 0)⟩
noncomputable def Γ_impl_isTimedProof_1 : Ctx := { tk := assoc tks, ar := assoc ars, fs := assoc [(143, S_slices_ContainsFunc_Sint_int_by_impl_isTimedProof_1_1)] }
noncomputable def F_impl_isTimedProof_1 (N : Nat) (d : List Int × Int × Unit) : Option (Bool × Unit) :=
  let a0 : List Int := d.1
  let a1 : Int := d.2.1
  if ((List.length a0 : Int) != a1) = true then
    some (true, ())
  else
    ((F_slices_ContainsFunc_Sint_int_by_impl_isTimedProof_1_1 0) ((a0, (((), ()), ())))).bind fun r1 =>
    some (r1.1, ())
theorem F_impl_isTimedProof_1_ok (N : Nat) (d) : fnR Γ_impl_isTimedProof_1 (assoc []) true [(K_Si, false), (K_Bi, false)] [.bool] Try.f142.results.toList (bodyOf Try.f142) d = F_impl_isTimedProof_1 N d := by kernel_rfl
noncomputable def S_impl_isTimedProof_1 : FSig := ⟨[(K_Si, false), (K_Bi, false)], [.bool], true, (F_impl_isTimedProof_1 0)⟩
noncomputable def FV_impl_isTimedProof_1 (d : List Int × (Unit × Int × Unit) × Unit) : Option (Bool × Unit) := (F_impl_isTimedProof_1 0) (d.1, d.2.1.2)
noncomputable def SV_impl_isTimedProof_1 : FSig := ⟨[(K_Si, false), (K_F_impl_isTimedProof_1_qPBiq, false)], [.bool], true, FV_impl_isTimedProof_1⟩
noncomputable def Γ_slices_IndexFunc_SSint_Sint_by_impl_isTimedProof_1 : Ctx := { tk := assoc tks, ar := assoc ars, fs := assoc [], cs := assoc [(142, SV_impl_isTimedProof_1)] }
abbrev slices_IndexFunc_SSint_Sint_by_impl_isTimedProof_1_l0_H := List (List Int) × (Unit × Int × Unit) × Int × Int × Unit
abbrev slices_IndexFunc_SSint_Sint_by_impl_isTimedProof_1_l0_O := (Int × Unit) ⊕ Unit ⊕ Empty
def slices_IndexFunc_SSint_Sint_by_impl_isTimedProof_1_l0_h : Form := [(0, .v K_SSi), (1, .v K_F_impl_isTimedProof_1_qPBiq), (7, .v I), (8, .v I)]
def slices_IndexFunc_SSint_Sint_by_impl_isTimedProof_1_l0_o : Outs := [(.ret, [(4, .v I)]), (.normal, [])]
noncomputable def slices_IndexFunc_SSint_Sint_by_impl_isTimedProof_1_l0_r (N : Nat) (back : slices_IndexFunc_SSint_Sint_by_impl_isTimedProof_1_l0_H → Option slices_IndexFunc_SSint_Sint_by_impl_isTimedProof_1_l0_O) (d : slices_IndexFunc_SSint_Sint_by_impl_isTimedProof_1_l0_H) : Option slices_IndexFunc_SSint_Sint_by_impl_isTimedProof_1_l0_O :=
  let s0 : List (List Int) := d.1
  let s1 : Unit × Int × Unit := d.2.1
  let s7 : Int := d.2.2.1
  let s8 : Int := d.2.2.2.1
  if (decide (s8 < s7)) = true then
    if (idxIn s8 (List.length s0)) = true then
    (FV_impl_isTimedProof_1 ((at_ K_Si s0 s8.toNat, (s1, ())))).bind fun r6 =>
    if (r6.1) = true then
      some (.inl (s8, ()))
    else
      let x7 : Int := IntKind.wrap .i64 (s8 + (1 : Int))
      back ((s0, (s1, (s7, (x7, ())))))
    else none
  else
    some (.inr (.inl ()))
noncomputable def slices_IndexFunc_SSint_Sint_by_impl_isTimedProof_1_l0 (N : Nat) : Nat → slices_IndexFunc_SSint_Sint_by_impl_isTimedProof_1_l0_H → Option slices_IndexFunc_SSint_Sint_by_impl_isTimedProof_1_l0_O
  | 0, _ => none
  | k + 1, d => slices_IndexFunc_SSint_Sint_by_impl_isTimedProof_1_l0_r N (slices_IndexFunc_SSint_Sint_by_impl_isTimedProof_1_l0 N k) d
theorem slices_IndexFunc_SSint_Sint_by_impl_isTimedProof_1_l0_ok (N : Nat) (back) (d) : roundR Γ_slices_IndexFunc_SSint_Sint_by_impl_isTimedProof_1 (assoc []) 0 slices_IndexFunc_SSint_Sint_by_impl_isTimedProof_1_l0_h slices_IndexFunc_SSint_Sint_by_impl_isTimedProof_1_l0_o (loopOf Try.f129 0) back d = slices_IndexFunc_SSint_Sint_by_impl_isTimedProof_1_l0_r N back d := by kernel_rfl
noncomputable def F_slices_IndexFunc_SSint_Sint_by_impl_isTimedProof_1 (N : Nat) (d : List (List Int) × (Unit × Int × Unit) × Unit) : Option (Int × Unit) :=
  let a0 : List (List Int) := d.1
  let a1 : Unit × Int × Unit := d.2.1
  (slices_IndexFunc_SSint_Sint_by_impl_isTimedProof_1_l0 N N ((a0, (a1, ((List.length a0 : Int), ((0 : Int), ())))))).bind fun o3 => match o3 with
  | .inl d4 =>
    some (d4.1, ())
  | .inr (.inl d5) =>
    some ((-1 : Int), ())
theorem F_slices_IndexFunc_SSint_Sint_by_impl_isTimedProof_1_ok (N : Nat) (d) : fnR Γ_slices_IndexFunc_SSint_Sint_by_impl_isTimedProof_1 (assoc [(0, ⟨slices_IndexFunc_SSint_Sint_by_impl_isTimedProof_1_l0_h, slices_IndexFunc_SSint_Sint_by_impl_isTimedProof_1_l0_o, slices_IndexFunc_SSint_Sint_by_impl_isTimedProof_1_l0 N N⟩)]) true [(K_SSi, false), (K_F_impl_isTimedProof_1_qPBiq, false)] [I] Try.f129.results.toList (bodyOf Try.f129) d = F_slices_IndexFunc_SSint_Sint_by_impl_isTimedProof_1 N d := by kernel_rfl
noncomputable def S_slices_IndexFunc_SSint_Sint_by_impl_isTimedProof_1 : FSig := ⟨[(K_SSi, false), (K_F_impl_isTimedProof_1_qPBiq, false)], [I], true, (G_index142)⟩
noncomputable def Γ_slices_ContainsFunc_SSint_Sint_by_impl_isTimedProof_1 : Ctx := { tk := assoc tks, ar := assoc ars, fs := assoc [(129, S_slices_IndexFunc_SSint_Sint_by_impl_isTimedProof_1)] }
noncomputable def F_slices_ContainsFunc_SSint_Sint_by_impl_isTimedProof_1 (N : Nat) (d : List (List Int) × (Unit × Int × Unit) × Unit) : Option (Bool × Unit) :=
  let a0 : List (List Int) := d.1
  let a1 : Unit × Int × Unit := d.2.1
  (G_index142 ((a0, (a1, ())))).bind fun r1 =>
  some ((decide (r1.1 ≥ (0 : Int)), ()))
theorem F_slices_ContainsFunc_SSint_Sint_by_impl_isTimedProof_1_ok (N : Nat) (d) : fnR Γ_slices_ContainsFunc_SSint_Sint_by_impl_isTimedProof_1 (assoc []) true [(K_SSi, false), (K_F_impl_isTimedProof_1_qPBiq, false)] [.bool] Try.f83.results.toList (bodyOf Try.f83) d = F_slices_ContainsFunc_SSint_Sint_by_impl_isTimedProof_1 N d := by kernel_rfl
noncomputable def S_slices_ContainsFunc_SSint_Sint_by_impl_isTimedProof_1 : FSig := ⟨[(K_SSi, false), (K_F_impl_isTimedProof_1_qPBiq, false)], [.bool], true, (F_slices_ContainsFunc_SSint_Sint_by_impl_isTimedProof_1 0)⟩
noncomputable def Γ_impl_isTimedProof_2 : Ctx := { tk := assoc tks, ar := assoc ars, fs := assoc [] }
noncomputable def F_impl_isTimedProof_2 (N : Nat) (d : Int × Int × Unit) : Option (Bool × Unit) :=
  let a0 : Int := d.1
  let a1 : Int := d.2.1
  some (decide (a0 < a1), ())
theorem F_impl_isTimedProof_2_ok (N : Nat) (d) : fnR Γ_impl_isTimedProof_2 (assoc []) true [(I, false), (K_Bi, false)] [.bool] Try.f146.results.toList (bodyOf Try.f146) d = F_impl_isTimedProof_2 N d := by kernel_rfl
noncomputable def g_impl_isTimedProof_2 (d : Int × Int × Unit) : Bool × Unit :=
  let a0 : Int := d.1
  let a1 : Int := d.2.1
  (decide (a0 < a1), ())
theorem F_impl_isTimedProof_2_tot (N : Nat) (d) : F_impl_isTimedProof_2 N d = some (g_impl_isTimedProof_2 d) := by
  unfold F_impl_isTimedProof_2 g_impl_isTimedProof_2
  first
    | rfl
    | (dsimp only; (repeat' split) <;> rfl)
noncomputable def S_impl_isTimedProof_2 : FSig := ⟨[(I, false), (K_Bi, false)], [.bool], true, (fun d => some (g_impl_isTimedProof_2 d))⟩
noncomputable def FV_impl_isTimedProof_2 (d : Int × (Unit × Int × Unit) × Unit) : Option (Bool × Unit) := (fun d => some (g_impl_isTimedProof_2 d)) (d.1, d.2.1.2)
noncomputable def SV_impl_isTimedProof_2 : FSig := ⟨[(I, false), (K_F_impl_isTimedProof_2_qPBiq, false)], [.bool], true, FV_impl_isTimedProof_2⟩
noncomputable def Γ_impl_timedCan_1_by_impl_isTimedProof_2 : Ctx := { tk := assoc tks, ar := assoc ars, fs := assoc [(155, S_impl_net_timeAfter)], cs := assoc [(146, SV_impl_isTimedProof_2)], w1 := inL [109] }
noncomputable def F_impl_timedCan_1_by_impl_isTimedProof_2 (N : Nat) (d : Int × Int × (List Int × Unit) × List (List Int) × (Unit × Int × Unit) × Unit) : Option (Bool × Unit) :=
  let a0 : Int := d.1
  let a1 : Int := d.2.1
  let a2 : List Int × Unit := d.2.2.1
  let a3 : List (List Int) := d.2.2.2.1
  let a4 : Unit × Int × Unit := d.2.2.2.2.1
  if (a0 == a1) = true then
    some (true, ())
  else
    if (idxIn a0 (List.length a3)) = true then
    (G_timeAfter ((a2, (at_ K_Si a3 a0.toNat, (a1, ()))))).bind fun r1 =>
    if (decide (r1.1 ≥ (0 : Int))) = true then
      (FV_impl_isTimedProof_2 ((r1.1, (a4, ())))).bind fun r2 =>
      some (r2.1, ())
    else
      some (false, ())
    else none
theorem F_impl_timedCan_1_by_impl_isTimedProof_2_ok (N : Nat) (d) : fnR Γ_impl_timedCan_1_by_impl_isTimedProof_2 (assoc []) true [(I, false), (K_Bi, false), (K_BPSiq, false), (K_BSSi, false), (K_BF_impl_isTimedProof_2_qPBiq, false)] [.bool] Try.f159.results.toList (bodyOf Try.f159) d = F_impl_timedCan_1_by_impl_isTimedProof_2 N d := by kernel_rfl
noncomputable def S_impl_timedCan_1_by_impl_isTimedProof_2 : FSig := ⟨[(I, false), (K_Bi, false), (K_BPSiq, false), (K_BSSi, false), (K_BF_impl_isTimedProof_2_qPBiq, false)], [.bool], true, (F_impl_timedCan_1_by_impl_isTimedProof_2 0)⟩
noncomputable def FV_impl_timedCan_1_by_impl_isTimedProof_2 (d : Int × (Unit × Int × (List Int × Unit) × List (List Int) × (Unit × Int × Unit) × Unit) × Unit) : Option (Bool × Unit) := (F_impl_timedCan_1_by_impl_isTimedProof_2 0) (d.1, d.2.1.2)
noncomputable def SV_impl_timedCan_1_by_impl_isTimedProof_2 : FSig := ⟨[(I, false), (K_F_impl_timedCan_1_qPBiBPSiqBSSiBF_impl_isTimedProof_2_qPBiqq, false)], [.bool], true, FV_impl_timedCan_1_by_impl_isTimedProof_2⟩
noncomputable def Γ_slices_IndexFunc_Sint_int_by_impl_timedCan_1_impl_isTimedProof_2 : Ctx := { tk := assoc tks, ar := assoc ars, fs := assoc [], cs := assoc [(159, SV_impl_timedCan_1_by_impl_isTimedProof_2)] }
abbrev slices_IndexFunc_Sint_int_by_impl_timedCan_1_impl_isTimedProof_2_l0_H := List Int × (Unit × Int × (List Int × Unit) × List (List Int) × (Unit × Int × Unit) × Unit) × Int × Int × Unit
abbrev slices_IndexFunc_Sint_int_by_impl_timedCan_1_impl_isTimedProof_2_l0_O := (Int × Unit) ⊕ Unit ⊕ Empty
def slices_IndexFunc_Sint_int_by_impl_timedCan_1_impl_isTimedProof_2_l0_h : Form := [(0, .v K_Si), (1, .v K_F_impl_timedCan_1_qPBiBPSiqBSSiBF_impl_isTimedProof_2_qPBiqq), (7, .v I), (8, .v I)]
def slices_IndexFunc_Sint_int_by_impl_timedCan_1_impl_isTimedProof_2_l0_o : Outs := [(.ret, [(4, .v I)]), (.normal, [])]
noncomputable def slices_IndexFunc_Sint_int_by_impl_timedCan_1_impl_isTimedProof_2_l0_r (N : Nat) (back : slices_IndexFunc_Sint_int_by_impl_timedCan_1_impl_isTimedProof_2_l0_H → Option slices_IndexFunc_Sint_int_by_impl_timedCan_1_impl_isTimedProof_2_l0_O) (d : slices_IndexFunc_Sint_int_by_impl_timedCan_1_impl_isTimedProof_2_l0_H) : Option slices_IndexFunc_Sint_int_by_impl_timedCan_1_impl_isTimedProof_2_l0_O :=
  let s0 : List Int := d.1
  let s1 : Unit × Int × (List Int × Unit) × List (List Int) × (Unit × Int × Unit) × Unit := d.2.1
  let s7 : Int := d.2.2.1
  let s8 : Int := d.2.2.2.1
  if (decide (s8 < s7)) = true then
    if (idxIn s8 (List.length s0)) = true then
    (FV_impl_timedCan_1_by_impl_isTimedProof_2 ((at_ I s0 s8.toNat, (s1, ())))).bind fun r6 =>
    if (r6.1) = true then
      some (.inl (s8, ()))
    else
      let x7 : Int := IntKind.wrap .i64 (s8 + (1 : Int))
      back ((s0, (s1, (s7, (x7, ())))))
    else none
  else
    some (.inr (.inl ()))
noncomputable def slices_IndexFunc_Sint_int_by_impl_timedCan_1_impl_isTimedProof_2_l0 (N : Nat) : Nat → slices_IndexFunc_Sint_int_by_impl_timedCan_1_impl_isTimedProof_2_l0_H → Option slices_IndexFunc_Sint_int_by_impl_timedCan_1_impl_isTimedProof_2_l0_O
  | 0, _ => none
  | k + 1, d => slices_IndexFunc_Sint_int_by_impl_timedCan_1_impl_isTimedProof_2_l0_r N (slices_IndexFunc_Sint_int_by_impl_timedCan_1_impl_isTimedProof_2_l0 N k) d
theorem slices_IndexFunc_Sint_int_by_impl_timedCan_1_impl_isTimedProof_2_l0_ok (N : Nat) (back) (d) : roundR Γ_slices_IndexFunc_Sint_int_by_impl_timedCan_1_impl_isTimedProof_2 (assoc []) 0 slices_IndexFunc_Sint_int_by_impl_timedCan_1_impl_isTimedProof_2_l0_h slices_IndexFunc_Sint_int_by_impl_timedCan_1_impl_isTimedProof_2_l0_o (loopOf Try.f158 0) back d = slices_IndexFunc_Sint_int_by_impl_timedCan_1_impl_isTimedProof_2_l0_r N back d := by kernel_rfl
noncomputable def F_slices_IndexFunc_Sint_int_by_impl_timedCan_1_impl_isTimedProof_2 (N : Nat) (d : List Int × (Unit × Int × (List Int × Unit) × List (List Int) × (Unit × Int × Unit) × Unit) × Unit) : Option (Int × Unit) :=
  let a0 : List Int := d.1
  let a1 : Unit × Int × (List Int × Unit) × List (List Int) × (Unit × Int × Unit) × Unit := d.2.1
  (slices_IndexFunc_Sint_int_by_impl_timedCan_1_impl_isTimedProof_2_l0 N N ((a0, (a1, ((List.length a0 : Int), ((0 : Int), ())))))).bind fun o3 => match o3 with
  | .inl d4 =>
    some (d4.1, ())
  | .inr (.inl d5) =>
    some ((-1 : Int), ())
theorem F_slices_IndexFunc_Sint_int_by_impl_timedCan_1_impl_isTimedProof_2_ok (N : Nat) (d) : fnR Γ_slices_IndexFunc_Sint_int_by_impl_timedCan_1_impl_isTimedProof_2 (assoc [(0, ⟨slices_IndexFunc_Sint_int_by_impl_timedCan_1_impl_isTimedProof_2_l0_h, slices_IndexFunc_Sint_int_by_impl_timedCan_1_impl_isTimedProof_2_l0_o, slices_IndexFunc_Sint_int_by_impl_timedCan_1_impl_isTimedProof_2_l0 N N⟩)]) true [(K_Si, false), (K_F_impl_timedCan_1_qPBiBPSiqBSSiBF_impl_isTimedProof_2_qPBiqq, false)] [I] Try.f158.results.toList (bodyOf Try.f158) d = F_slices_IndexFunc_Sint_int_by_impl_timedCan_1_impl_isTimedProof_2 N d := by kernel_rfl
noncomputable def S_slices_IndexFunc_Sint_int_by_impl_timedCan_1_impl_isTimedProof_2 : FSig := ⟨[(K_Si, false), (K_F_impl_timedCan_1_qPBiBPSiqBSSiBF_impl_isTimedProof_2_qPBiqq, false)], [I], true, (G_index159)⟩
noncomputable def Γ_slices_ContainsFunc_Sint_int_by_impl_timedCan_1_impl_isTimedProof_2 : Ctx := { tk := assoc tks, ar := assoc ars, fs := assoc [(158, S_slices_IndexFunc_Sint_int_by_impl_timedCan_1_impl_isTimedProof_2)] }
noncomputable def F_slices_ContainsFunc_Sint_int_by_impl_timedCan_1_impl_isTimedProof_2 (N : Nat) (d : List Int × (Unit × Int × (List Int × Unit) × List (List Int) × (Unit × Int × Unit) × Unit) × Unit) : Option (Bool × Unit) :=
  let a0 : List Int := d.1
  let a1 : Unit × Int × (List Int × Unit) × List (List Int) × (Unit × Int × Unit) × Unit := d.2.1
  (G_index159 ((a0, (a1, ())))).bind fun r1 =>
  some ((decide (r1.1 ≥ (0 : Int)), ()))
theorem F_slices_ContainsFunc_Sint_int_by_impl_timedCan_1_impl_isTimedProof_2_ok (N : Nat) (d) : fnR Γ_slices_ContainsFunc_Sint_int_by_impl_timedCan_1_impl_isTimedProof_2 (assoc []) true [(K_Si, false), (K_F_impl_timedCan_1_qPBiBPSiqBSSiBF_impl_isTimedProof_2_qPBiqq, false)] [.bool] Try.f143.results.toList (bodyOf Try.f143) d = F_slices_ContainsFunc_Sint_int_by_impl_timedCan_1_impl_isTimedProof_2 N d := by kernel_rfl
noncomputable def S_slices_ContainsFunc_Sint_int_by_impl_timedCan_1_impl_isTimedProof_2 : FSig := ⟨[(K_Si, false), (K_F_impl_timedCan_1_qPBiBPSiqBSSiBF_impl_isTimedProof_2_qPBiqq, false)], [.bool], true, (F_slices_ContainsFunc_Sint_int_by_impl_timedCan_1_impl_isTimedProof_2 0)⟩
noncomputable def Γ_impl_timedCan_by_impl_isTimedProof_2 : Ctx := { tk := assoc tks, ar := assoc ars, fs := assoc [(106, S_impl_setOf), (111, S_impl_net_closed), (143, S_slices_ContainsFunc_Sint_int_by_impl_timedCan_1_impl_isTimedProof_2)], cs := assoc [], fz := fun t => Nat.beq t 5 || Nat.beq t 6 || Nat.beq t 8 || Nat.beq t 9 }
noncomputable def F_impl_timedCan_by_impl_isTimedProof_2 (N : Nat) (d : (List Int × Unit) × List (List Int) × Int × Int × (Unit × Int × Unit) × Unit) : Option (Bool × Unit) :=
  let a0 : List Int × Unit := d.1
  let a1 : List (List Int) := d.2.1
  let a2 : Int := d.2.2.1
  let a3 : Int := d.2.2.2.1
  let a4 : Unit × Int × Unit := d.2.2.2.2.1
  ((F_impl_net_closed 0) ((a0, (a2, ())))).bind fun r1 =>
  (G_setOf (r1.1, ())).bind fun r2 =>
  ((F_slices_ContainsFunc_Sint_int_by_impl_timedCan_1_impl_isTimedProof_2 0) ((r2.1, (((), (a3, (a0, (a1, (a4, ()))))), ())))).bind fun r3 =>
  some (r3.1, ())
theorem F_impl_timedCan_by_impl_isTimedProof_2_ok (N : Nat) (d) : fnR Γ_impl_timedCan_by_impl_isTimedProof_2 (assoc []) true [(K_PSiq, false), (K_SSi, false), (I, false), (I, false), (K_F_impl_isTimedProof_2_qPBiq, false)] [.bool] Try.f145.results.toList (bodyOf Try.f145) d = F_impl_timedCan_by_impl_isTimedProof_2 N d := by kernel_rfl
noncomputable def S_impl_timedCan_by_impl_isTimedProof_2 : FSig := ⟨[(K_PSiq, false), (K_SSi, false), (I, false), (I, false), (K_F_impl_isTimedProof_2_qPBiq, false)], [.bool], true, (F_impl_timedCan_by_impl_isTimedProof_2 0)⟩
noncomputable def Γ_impl_isTimedProof : Ctx := { tk := assoc tks, ar := assoc ars, fs := assoc [(83, S_slices_ContainsFunc_SSint_Sint_by_impl_isTimedProof_1), (134, S_impl_net_size), (145, S_impl_timedCan_by_impl_isTimedProof_2)], cs := assoc [], fz := fun t => Nat.beq t 5 || Nat.beq t 12 }
abbrev impl_isTimedProof_l0_H := (List (List Int × Unit)) × List (List (List Int)) × Int × List (List (List Int)) × Int × Int × Unit
abbrev impl_isTimedProof_l0_O := (Bool × Unit) ⊕ ((List (List Int × Unit)) × List (List (List Int)) × Int × Unit) ⊕ Empty
def impl_isTimedProof_l0_h : Form := [(0, .v K_SPSiq), (1, .v K_SSSi), (5, .sp I), (23, .v K_SSSi), (24, .v I), (25, .v I)]
def impl_isTimedProof_l0_o : Outs := [(.ret, [(4, .v .bool)]), (.normal, [(0, .v K_SPSiq), (1, .v K_SSSi), (5, .sp I)])]
noncomputable def impl_isTimedProof_l0_r (N : Nat) (back : impl_isTimedProof_l0_H → Option impl_isTimedProof_l0_O) (d : impl_isTimedProof_l0_H) : Option impl_isTimedProof_l0_O :=
  let s0 : List (List Int × Unit) := d.1
  let s1 : List (List (List Int)) := d.2.1
  let s5 : Int := d.2.2.1
  let s23 : List (List (List Int)) := d.2.2.2.1
  let s24 : Int := d.2.2.2.2.1
  let s25 : Int := d.2.2.2.2.2.1
  if (decide (s25 < s24)) = true then
    if (idxIn s25 (List.length s23)) = true then
    if ((List.length (at_ K_SSi s23 s25.toNat) : Int) != s5) = true then
      some (.inl (false, ()))
    else
      ((F_slices_ContainsFunc_SSint_Sint_by_impl_isTimedProof_1 0) ((at_ K_SSi s23 s25.toNat, (((), (s5, ())), ())))).bind fun r26 =>
      if (r26.1) = true then
        some (.inl (false, ()))
      else
        let x27 : Int := IntKind.wrap .i64 (s25 + (1 : Int))
        back ((s0, (s1, (s5, (s23, (s24, (x27, ())))))))
    else none
  else
    some (.inr (.inl ((s0, (s1, (s5, ()))))))
noncomputable def impl_isTimedProof_l0 (N : Nat) : Nat → impl_isTimedProof_l0_H → Option impl_isTimedProof_l0_O
  | 0, _ => none
  | k + 1, d => impl_isTimedProof_l0_r N (impl_isTimedProof_l0 N k) d
theorem impl_isTimedProof_l0_ok (N : Nat) (back) (d) : roundR Γ_impl_isTimedProof (assoc []) 0 impl_isTimedProof_l0_h impl_isTimedProof_l0_o (loopOf Try.f115 0) back d = impl_isTimedProof_l0_r N back d := by kernel_rfl
abbrev impl_isTimedProof_l6_H := (List (List Int × Unit)) × List (List (List Int)) × Int × Int × (List Int × Unit) × Int × (List (List Int × Unit)) × Int × Int × Int × Int × List Int × Int × Int × Unit
abbrev impl_isTimedProof_l6_O := (Bool × Unit) ⊕ ((List (List Int × Unit)) × List (List (List Int)) × Int × Int × (List Int × Unit) × (List (List Int × Unit)) × Int × Int × Int × Int × Unit) ⊕ Empty
def impl_isTimedProof_l6_h : Form := [(0, .v K_SPSiq), (1, .v K_SSSi), (5, .sp I), (8, .v I), (9, .box K_PSiq 0), (10, .v I), (39, .v K_SPSiq), (40, .v I), (41, .v I), (46, .v I), (47, .v I), (56, .v K_Si), (57, .v I), (58, .v I)]
def impl_isTimedProof_l6_o : Outs := [(.ret, [(4, .v .bool)]), (.normal, [(0, .v K_SPSiq), (1, .v K_SSSi), (5, .sp I), (8, .v I), (9, .box K_PSiq 0), (39, .v K_SPSiq), (40, .v I), (41, .v I), (46, .v I), (47, .v I)])]
noncomputable def impl_isTimedProof_l6_r (N : Nat) (back : impl_isTimedProof_l6_H → Option impl_isTimedProof_l6_O) (d : impl_isTimedProof_l6_H) : Option impl_isTimedProof_l6_O :=
  let s0 : List (List Int × Unit) := d.1
  let s1 : List (List (List Int)) := d.2.1
  let s5 : Int := d.2.2.1
  let s8 : Int := d.2.2.2.1
  let s9 : List Int × Unit := d.2.2.2.2.1
  let s10 : Int := d.2.2.2.2.2.1
  let s39 : List (List Int × Unit) := d.2.2.2.2.2.2.1
  let s40 : Int := d.2.2.2.2.2.2.2.1
  let s41 : Int := d.2.2.2.2.2.2.2.2.1
  let s46 : Int := d.2.2.2.2.2.2.2.2.2.1
  let s47 : Int := d.2.2.2.2.2.2.2.2.2.2.1
  let s56 : List Int := d.2.2.2.2.2.2.2.2.2.2.2.1
  let s57 : Int := d.2.2.2.2.2.2.2.2.2.2.2.2.1
  let s58 : Int := d.2.2.2.2.2.2.2.2.2.2.2.2.2.1
  if (decide (s58 < s57)) = true then
    if (idxIn s58 (List.length s56)) = true then
    let x56 : Int := IntKind.wrap .i64 (s8 + (1 : Int))
    if ((List.length s0 : Int) != 0) = true then
    let x57 : Int := x56.tmod (List.length s0 : Int)
    if (idxIn x57 (List.length s1)) = true then
    if (at_ I s56 s58.toNat == (0 : Int)) = true then
      if (s10 != s58) = true then
        some (.inl (false, ()))
      else
        if (decide (at_ I s56 s58.toNat > (0 : Int))) = true then
          ((F_impl_timedCan_by_impl_isTimedProof_2 0) ((s9, (at_ K_SSi s1 x57.toNat, (s10, (s58, (((), (at_ I s56 s58.toNat, ())), ()))))))).bind fun r58 =>
          if (!r58.1) = true then
            some (.inl (false, ()))
          else
            let x59 : Int := IntKind.wrap .i64 (s58 + (1 : Int))
            back ((s0, (s1, (s5, (s8, (s9, (s10, (s39, (s40, (s41, (s46, (s47, (s56, (s57, (x59, ())))))))))))))))
        else
          let x60 : Int := IntKind.wrap .i64 (s58 + (1 : Int))
          back ((s0, (s1, (s5, (s8, (s9, (s10, (s39, (s40, (s41, (s46, (s47, (s56, (s57, (x60, ())))))))))))))))
    else
      if (decide (at_ I s56 s58.toNat > (0 : Int))) = true then
        ((F_impl_timedCan_by_impl_isTimedProof_2 0) ((s9, (at_ K_SSi s1 x57.toNat, (s10, (s58, (((), (at_ I s56 s58.toNat, ())), ()))))))).bind fun r61 =>
        if (!r61.1) = true then
          some (.inl (false, ()))
        else
          let x62 : Int := IntKind.wrap .i64 (s58 + (1 : Int))
          back ((s0, (s1, (s5, (s8, (s9, (s10, (s39, (s40, (s41, (s46, (s47, (s56, (s57, (x62, ())))))))))))))))
      else
        let x63 : Int := IntKind.wrap .i64 (s58 + (1 : Int))
        back ((s0, (s1, (s5, (s8, (s9, (s10, (s39, (s40, (s41, (s46, (s47, (s56, (s57, (x63, ())))))))))))))))
    else none
    else none
    else none
  else
    some (.inr (.inl ((s0, (s1, (s5, (s8, (s9, (s39, (s40, (s41, (s46, (s47, ())))))))))))))
noncomputable def impl_isTimedProof_l6 (N : Nat) : Nat → impl_isTimedProof_l6_H → Option impl_isTimedProof_l6_O
  | 0, _ => none
  | k + 1, d => impl_isTimedProof_l6_r N (impl_isTimedProof_l6 N k) d
theorem impl_isTimedProof_l6_ok (N : Nat) (back) (d) : roundR Γ_impl_isTimedProof (assoc []) 6 impl_isTimedProof_l6_h impl_isTimedProof_l6_o (loopOf Try.f115 6) back d = impl_isTimedProof_l6_r N back d := by kernel_rfl
abbrev impl_isTimedProof_l4_H := (List (List Int × Unit)) × List (List (List Int)) × Int × Int × (List Int × Unit) × (List (List Int × Unit)) × Int × Int × Int × Int × Unit
abbrev impl_isTimedProof_l4_O := (Bool × Unit) ⊕ ((List (List Int × Unit)) × List (List (List Int)) × Int × (List (List Int × Unit)) × Int × Int × Unit) ⊕ Empty
def impl_isTimedProof_l4_h : Form := [(0, .v K_SPSiq), (1, .v K_SSSi), (5, .sp I), (8, .v I), (9, .box K_PSiq 0), (39, .v K_SPSiq), (40, .v I), (41, .v I), (46, .v I), (47, .v I)]
def impl_isTimedProof_l4_o : Outs := [(.ret, [(4, .v .bool)]), (.normal, [(0, .v K_SPSiq), (1, .v K_SSSi), (5, .sp I), (39, .v K_SPSiq), (40, .v I), (41, .v I)])]
noncomputable def impl_isTimedProof_l4_r (N : Nat) (back : impl_isTimedProof_l4_H → Option impl_isTimedProof_l4_O) (d : impl_isTimedProof_l4_H) : Option impl_isTimedProof_l4_O :=
  let s0 : List (List Int × Unit) := d.1
  let s1 : List (List (List Int)) := d.2.1
  let s5 : Int := d.2.2.1
  let s8 : Int := d.2.2.2.1
  let s9 : List Int × Unit := d.2.2.2.2.1
  let s39 : List (List Int × Unit) := d.2.2.2.2.2.1
  let s40 : Int := d.2.2.2.2.2.2.1
  let s41 : Int := d.2.2.2.2.2.2.2.1
  let s46 : Int := d.2.2.2.2.2.2.2.2.1
  let s47 : Int := d.2.2.2.2.2.2.2.2.2.1
  if (decide (s47 < s46)) = true then
    if (idxIn s8 (List.length s1)) = true then
    if (idxIn s47 (List.length (at_ K_SSi s1 s8.toNat))) = true then
    (impl_isTimedProof_l6 N N ((s0, (s1, (s5, (s8, (s9, (s47, (s39, (s40, (s41, (s46, (s47, (at_ K_Si (at_ K_SSi s1 s8.toNat) s47.toNat, ((List.length (at_ K_Si (at_ K_SSi s1 s8.toNat) s47.toNat) : Int), ((0 : Int), ())))))))))))))))).bind fun o52 => match o52 with
    | .inl d53 =>
      some (.inl (d53.1, ()))
    | .inr (.inl d54) =>
      let x55 : Int := IntKind.wrap .i64 (d54.2.2.2.2.2.2.2.2.2.1 + (1 : Int))
      back ((d54.1, (d54.2.1, (d54.2.2.1, (d54.2.2.2.1, (d54.2.2.2.2.1, (d54.2.2.2.2.2.1, (d54.2.2.2.2.2.2.1, (d54.2.2.2.2.2.2.2.1, (d54.2.2.2.2.2.2.2.2.1, (x55, ())))))))))))
    else none
    else none
  else
    some (.inr (.inl ((s0, (s1, (s5, (s39, (s40, (s41, ())))))))))
noncomputable def impl_isTimedProof_l4 (N : Nat) : Nat → impl_isTimedProof_l4_H → Option impl_isTimedProof_l4_O
  | 0, _ => none
  | k + 1, d => impl_isTimedProof_l4_r N (impl_isTimedProof_l4 N k) d
theorem impl_isTimedProof_l4_ok (N : Nat) (back) (d) : roundR Γ_impl_isTimedProof (assoc [(6, ⟨impl_isTimedProof_l6_h, impl_isTimedProof_l6_o, impl_isTimedProof_l6 N N⟩)]) 4 impl_isTimedProof_l4_h impl_isTimedProof_l4_o (loopOf Try.f115 4) back d = impl_isTimedProof_l4_r N back d := by kernel_rfl
abbrev impl_isTimedProof_l2_H := (List (List Int × Unit)) × List (List (List Int)) × Int × (List (List Int × Unit)) × Int × Int × Unit
abbrev impl_isTimedProof_l2_O := (Bool × Unit) ⊕ Unit ⊕ Empty
def impl_isTimedProof_l2_h : Form := [(0, .v K_SPSiq), (1, .v K_SSSi), (5, .sp I), (39, .v K_SPSiq), (40, .v I), (41, .v I)]
def impl_isTimedProof_l2_o : Outs := [(.ret, [(4, .v .bool)]), (.normal, [])]
noncomputable def impl_isTimedProof_l2_r (N : Nat) (back : impl_isTimedProof_l2_H → Option impl_isTimedProof_l2_O) (d : impl_isTimedProof_l2_H) : Option impl_isTimedProof_l2_O :=
  let s0 : List (List Int × Unit) := d.1
  let s1 : List (List (List Int)) := d.2.1
  let s5 : Int := d.2.2.1
  let s39 : List (List Int × Unit) := d.2.2.2.1
  let s40 : Int := d.2.2.2.2.1
  let s41 : Int := d.2.2.2.2.2.1
  if (decide (s41 < s40)) = true then
    if (idxIn s41 (List.length s39)) = true then
    (impl_isTimedProof_l4 N N ((s0, (s1, (s5, (s41, (at_ K_PSiq s39 s41.toNat, (s39, (s40, (s41, (s5, ((0 : Int), ())))))))))))).bind fun o40 => match o40 with
    | .inl d41 =>
      some (.inl (d41.1, ()))
    | .inr (.inl d42) =>
      let x43 : Int := IntKind.wrap .i64 (d42.2.2.2.2.2.1 + (1 : Int))
      back ((d42.1, (d42.2.1, (d42.2.2.1, (d42.2.2.2.1, (d42.2.2.2.2.1, (x43, ())))))))
    else none
  else
    some (.inr (.inl ()))
noncomputable def impl_isTimedProof_l2 (N : Nat) : Nat → impl_isTimedProof_l2_H → Option impl_isTimedProof_l2_O
  | 0, _ => none
  | k + 1, d => impl_isTimedProof_l2_r N (impl_isTimedProof_l2 N k) d
theorem impl_isTimedProof_l2_ok (N : Nat) (back) (d) : roundR Γ_impl_isTimedProof (assoc [(4, ⟨impl_isTimedProof_l4_h, impl_isTimedProof_l4_o, impl_isTimedProof_l4 N N⟩)]) 2 impl_isTimedProof_l2_h impl_isTimedProof_l2_o (loopOf Try.f115 2) back d = impl_isTimedProof_l2_r N back d := by kernel_rfl
noncomputable def F_impl_isTimedProof (N : Nat) (d : (List (List Int × Unit)) × List (List (List Int)) × Unit) : Option (Bool × Unit) :=
  let a0 : List (List Int × Unit) := d.1
  let a1 : List (List (List Int)) := d.2.1
  if (idxIn (0 : Int) (List.length a0)) = true then
  let r1 : Int × Unit := g_impl_net_size (at_ K_PSiq a0 (0 : Int).toNat, ())
  if ((List.length a1 : Int) != (List.length a0 : Int)) = true then
    some (false, ())
  else
    (impl_isTimedProof_l0 N N ((a0, (a1, (r1.1, (a1, ((List.length a1 : Int), ((0 : Int), ())))))))).bind fun o4 => match o4 with
    | .inl d5 =>
      some (d5.1, ())
    | .inr (.inl d6) =>
      (impl_isTimedProof_l2 N N ((d6.1, (d6.2.1, (d6.2.2.1, (d6.1, ((List.length d6.1 : Int), ((0 : Int), ())))))))).bind fun o23 => match o23 with
      | .inl d24 =>
        some (d24.1, ())
      | .inr (.inl d25) =>
        some (true, ())
  else none
theorem F_impl_isTimedProof_ok (N : Nat) (d) : fnR Γ_impl_isTimedProof (assoc [(0, ⟨impl_isTimedProof_l0_h, impl_isTimedProof_l0_o, impl_isTimedProof_l0 N N⟩), (2, ⟨impl_isTimedProof_l2_h, impl_isTimedProof_l2_o, impl_isTimedProof_l2 N N⟩)]) true [(K_SPSiq, false), (K_SSSi, false)] [.bool] Try.f115.results.toList (bodyOf Try.f115) d = F_impl_isTimedProof N d := by kernel_rfl
noncomputable def S_impl_isTimedProof : FSig := ⟨[(K_SPSiq, false), (K_SSSi, false)], [.bool], true, (G_isTimedProof)⟩
noncomputable def Γ_impl_IsTimedProof : Ctx := { tk := assoc tks, ar := assoc ars, fs := assoc [(35, S_impl_IsTimetable), (96, S_impl_openNets), (115, S_impl_isTimedProof)] }
noncomputable def F_impl_IsTimedProof (N : Nat) (d : ((Int × (List (Int × Int × Unit)) × Unit) × Int × List (List Int) × Unit) × List (List (List Int)) × Unit) : Option (Bool × Bool × Unit) :=
  let a0 : (Int × (List (Int × Int × Unit)) × Unit) × Int × List (List Int) × Unit := d.1
  let a1 : List (List (List Int)) := d.2.1
  ((F_impl_IsTimetable 0) (a0, ())).bind fun r1 =>
  if (!r1.1) = true then
    some ((false, (false, ())))
  else
    (G_openNets (a0, ())).bind fun r2 =>
    (G_isTimedProof ((r2.1, (a1, ())))).bind fun r3 =>
    some ((r3.1, (true, ())))
theorem F_impl_IsTimedProof_ok (N : Nat) (d) : fnR Γ_impl_IsTimedProof (assoc []) true [(K_PPiSPiiqqiSSiq, false), (K_SSSi, false)] [.bool, .bool] Try.f63.results.toList (bodyOf Try.f63) d = F_impl_IsTimedProof N d := by kernel_rfl
noncomputable def S_impl_IsTimedProof : FSig := ⟨[(K_PPiSPiiqqiSSiq, false), (K_SSSi, false)], [.bool, .bool], true, (F_impl_IsTimedProof 0)⟩
noncomputable def Γ_laws_eqIntA2 : Ctx := { tk := assoc tks, ar := assoc ars, fs := assoc [] }
abbrev laws_eqIntA2_l0_H := (Int × Int × Unit) × (Int × Int × Unit) × Int × Unit
abbrev laws_eqIntA2_l0_O := (Bool × Unit) ⊕ Unit ⊕ Empty
def laws_eqIntA2_l0_h : Form := [(2, .box K_Piiq 99), (3, .box K_Piiq 99), (5, .v I)]
def laws_eqIntA2_l0_o : Outs := [(.ret, [(4, .v .bool)]), (.normal, [])]
noncomputable def laws_eqIntA2_l0_r (N : Nat) (back : laws_eqIntA2_l0_H → Option laws_eqIntA2_l0_O) (d : laws_eqIntA2_l0_H) : Option laws_eqIntA2_l0_O :=
  let s2 : Int × Int × Unit := d.1
  let s3 : Int × Int × Unit := d.2.1
  let s5 : Int := d.2.2.1
  if (decide (s5 < (2 : Int))) = true then
    if (s5 == (0 : Int)) = true then
      if (s5 == (0 : Int)) = true then
        if (s2.1 != s3.1) = true then
          some (.inl (false, ()))
        else
          let x11 : Int := IntKind.wrap .i64 (s5 + (1 : Int))
          back ((s2, (s3, (x11, ()))))
      else
        if (s5 == (1 : Int)) = true then
        if (s2.1 != s3.2.1) = true then
          some (.inl (false, ()))
        else
          let x10 : Int := IntKind.wrap .i64 (s5 + (1 : Int))
          back ((s2, (s3, (x10, ()))))
        else none
    else
      if (s5 == (1 : Int)) = true then
      if (s5 == (0 : Int)) = true then
        if (s2.2.1 != s3.1) = true then
          some (.inl (false, ()))
        else
          let x9 : Int := IntKind.wrap .i64 (s5 + (1 : Int))
          back ((s2, (s3, (x9, ()))))
      else
        if (s5 == (1 : Int)) = true then
        if (s2.2.1 != s3.2.1) = true then
          some (.inl (false, ()))
        else
          let x8 : Int := IntKind.wrap .i64 (s5 + (1 : Int))
          back ((s2, (s3, (x8, ()))))
        else none
      else none
  else
    some (.inr (.inl ()))
noncomputable def laws_eqIntA2_l0 (N : Nat) : Nat → laws_eqIntA2_l0_H → Option laws_eqIntA2_l0_O
  | 0, _ => none
  | k + 1, d => laws_eqIntA2_l0_r N (laws_eqIntA2_l0 N k) d
theorem laws_eqIntA2_l0_ok (N : Nat) (back) (d) : roundR Γ_laws_eqIntA2 (assoc []) 0 laws_eqIntA2_l0_h laws_eqIntA2_l0_o (loopOf Try.f127 0) back d = laws_eqIntA2_l0_r N back d := by kernel_rfl
noncomputable def F_laws_eqIntA2 (N : Nat) (d : (Int × Int × Unit) × (Int × Int × Unit) × Unit) : Option (Bool × Unit) :=
  let a0 : Int × Int × Unit := d.1
  let a1 : Int × Int × Unit := d.2.1
  (laws_eqIntA2_l0 N N ((a0, (a1, ((0 : Int), ()))))).bind fun o5 => match o5 with
  | .inl d6 =>
    some (d6.1, ())
  | .inr (.inl d7) =>
    some (true, ())
theorem F_laws_eqIntA2_ok (N : Nat) (d) : fnR Γ_laws_eqIntA2 (assoc [(0, ⟨laws_eqIntA2_l0_h, laws_eqIntA2_l0_o, laws_eqIntA2_l0 N N⟩)]) true [(K_Piiq, false), (K_Piiq, false)] [.bool] Try.f127.results.toList (bodyOf Try.f127) d = F_laws_eqIntA2 N d := by kernel_rfl
noncomputable def S_laws_eqIntA2 : FSig := ⟨[(K_Piiq, false), (K_Piiq, false)], [.bool], true, (G_eqIntA2)⟩
noncomputable def Γ_laws_eqIntA2S : Ctx := { tk := assoc tks, ar := assoc ars, fs := assoc [(127, S_laws_eqIntA2)] }
abbrev laws_eqIntA2S_l0_H := (List (Int × Int × Unit)) × (List (Int × Int × Unit)) × Int × Unit
abbrev laws_eqIntA2S_l0_O := (Bool × Unit) ⊕ Unit ⊕ Empty
def laws_eqIntA2S_l0_h : Form := [(0, .v K_SPiiq), (1, .v K_SPiiq), (5, .v I)]
def laws_eqIntA2S_l0_o : Outs := [(.ret, [(4, .v .bool)]), (.normal, [])]
noncomputable def laws_eqIntA2S_l0_r (N : Nat) (back : laws_eqIntA2S_l0_H → Option laws_eqIntA2S_l0_O) (d : laws_eqIntA2S_l0_H) : Option laws_eqIntA2S_l0_O :=
  let s0 : List (Int × Int × Unit) := d.1
  let s1 : List (Int × Int × Unit) := d.2.1
  let s5 : Int := d.2.2.1
  if (decide (s5 < (List.length s0 : Int))) = true then
    if (idxIn s5 (List.length s0)) = true then
    if (idxIn s5 (List.length s1)) = true then
    (G_eqIntA2 ((at_ K_Piiq s0 s5.toNat, (at_ K_Piiq s1 s5.toNat, ())))).bind fun r6 =>
    if (!r6.1) = true then
      some (.inl (false, ()))
    else
      let x7 : Int := IntKind.wrap .i64 (s5 + (1 : Int))
      back ((s0, (s1, (x7, ()))))
    else none
    else none
  else
    some (.inr (.inl ()))
noncomputable def laws_eqIntA2S_l0 (N : Nat) : Nat → laws_eqIntA2S_l0_H → Option laws_eqIntA2S_l0_O
  | 0, _ => none
  | k + 1, d => laws_eqIntA2S_l0_r N (laws_eqIntA2S_l0 N k) d
theorem laws_eqIntA2S_l0_ok (N : Nat) (back) (d) : roundR Γ_laws_eqIntA2S (assoc []) 0 laws_eqIntA2S_l0_h laws_eqIntA2S_l0_o (loopOf Try.f78 0) back d = laws_eqIntA2S_l0_r N back d := by kernel_rfl
noncomputable def F_laws_eqIntA2S (N : Nat) (d : (List (Int × Int × Unit)) × (List (Int × Int × Unit)) × Unit) : Option (Bool × Unit) :=
  let a0 : List (Int × Int × Unit) := d.1
  let a1 : List (Int × Int × Unit) := d.2.1
  if ((List.length a0 : Int) != (List.length a1 : Int)) = true then
    some (false, ())
  else
    (laws_eqIntA2S_l0 N N ((a0, (a1, ((0 : Int), ()))))).bind fun o3 => match o3 with
    | .inl d4 =>
      some (d4.1, ())
    | .inr (.inl d5) =>
      some (true, ())
theorem F_laws_eqIntA2S_ok (N : Nat) (d) : fnR Γ_laws_eqIntA2S (assoc [(0, ⟨laws_eqIntA2S_l0_h, laws_eqIntA2S_l0_o, laws_eqIntA2S_l0 N N⟩)]) true [(K_SPiiq, false), (K_SPiiq, false)] [.bool] Try.f78.results.toList (bodyOf Try.f78) d = F_laws_eqIntA2S N d := by kernel_rfl
noncomputable def S_laws_eqIntA2S : FSig := ⟨[(K_SPiiq, false), (K_SPiiq, false)], [.bool], true, (G_eqIntA2S)⟩
noncomputable def Γ_laws_eqGraph : Ctx := { tk := assoc tks, ar := assoc ars, fs := assoc [(78, S_laws_eqIntA2S)] }
noncomputable def F_laws_eqGraph (N : Nat) (d : (Int × (List (Int × Int × Unit)) × Unit) × (Int × (List (Int × Int × Unit)) × Unit) × Unit) : Option (Bool × Unit) :=
  let a0 : Int × (List (Int × Int × Unit)) × Unit := d.1
  let a1 : Int × (List (Int × Int × Unit)) × Unit := d.2.1
  if (a0.1 != a1.1) = true then
    some (false, ())
  else
    (G_eqIntA2S ((a0.2.1, (a1.2.1, ())))).bind fun r1 =>
    if (!r1.1) = true then
      some (false, ())
    else
      some (true, ())
theorem F_laws_eqGraph_ok (N : Nat) (d) : fnR Γ_laws_eqGraph (assoc []) true [(K_PiSPiiqq, false), (K_PiSPiiqq, false)] [.bool] Try.f28.results.toList (bodyOf Try.f28) d = F_laws_eqGraph N d := by kernel_rfl
noncomputable def S_laws_eqGraph : FSig := ⟨[(K_PiSPiiqq, false), (K_PiSPiiqq, false)], [.bool], true, (F_laws_eqGraph 0)⟩
noncomputable def Γ_laws_eqIntS : Ctx := { tk := assoc tks, ar := assoc ars, fs := assoc [] }
abbrev laws_eqIntS_l0_H := List Int × List Int × Int × Unit
abbrev laws_eqIntS_l0_O := (Bool × Unit) ⊕ Unit ⊕ Empty
def laws_eqIntS_l0_h : Form := [(0, .v K_Si), (1, .v K_Si), (5, .v I)]
def laws_eqIntS_l0_o : Outs := [(.ret, [(4, .v .bool)]), (.normal, [])]
noncomputable def laws_eqIntS_l0_r (N : Nat) (back : laws_eqIntS_l0_H → Option laws_eqIntS_l0_O) (d : laws_eqIntS_l0_H) : Option laws_eqIntS_l0_O :=
  let s0 : List Int := d.1
  let s1 : List Int := d.2.1
  let s5 : Int := d.2.2.1
  if (decide (s5 < (List.length s0 : Int))) = true then
    if (idxIn s5 (List.length s0)) = true then
    if (idxIn s5 (List.length s1)) = true then
    if (at_ I s0 s5.toNat != at_ I s1 s5.toNat) = true then
      some (.inl (false, ()))
    else
      let x5 : Int := IntKind.wrap .i64 (s5 + (1 : Int))
      back ((s0, (s1, (x5, ()))))
    else none
    else none
  else
    some (.inr (.inl ()))
noncomputable def laws_eqIntS_l0 (N : Nat) : Nat → laws_eqIntS_l0_H → Option laws_eqIntS_l0_O
  | 0, _ => none
  | k + 1, d => laws_eqIntS_l0_r N (laws_eqIntS_l0 N k) d
theorem laws_eqIntS_l0_ok (N : Nat) (back) (d) : roundR Γ_laws_eqIntS (assoc []) 0 laws_eqIntS_l0_h laws_eqIntS_l0_o (loopOf Try.f53 0) back d = laws_eqIntS_l0_r N back d := by kernel_rfl
noncomputable def F_laws_eqIntS (N : Nat) (d : List Int × List Int × Unit) : Option (Bool × Unit) :=
  let a0 : List Int := d.1
  let a1 : List Int := d.2.1
  if ((List.length a0 : Int) != (List.length a1 : Int)) = true then
    some (false, ())
  else
    (laws_eqIntS_l0 N N ((a0, (a1, ((0 : Int), ()))))).bind fun o2 => match o2 with
    | .inl d3 =>
      some (d3.1, ())
    | .inr (.inl d4) =>
      some (true, ())
theorem F_laws_eqIntS_ok (N : Nat) (d) : fnR Γ_laws_eqIntS (assoc [(0, ⟨laws_eqIntS_l0_h, laws_eqIntS_l0_o, laws_eqIntS_l0 N N⟩)]) true [(K_Si, false), (K_Si, false)] [.bool] Try.f53.results.toList (bodyOf Try.f53) d = F_laws_eqIntS N d := by kernel_rfl
noncomputable def S_laws_eqIntS : FSig := ⟨[(K_Si, false), (K_Si, false)], [.bool], true, (G_eqIntS)⟩
noncomputable def Γ_laws_eqIntSS : Ctx := { tk := assoc tks, ar := assoc ars, fs := assoc [(53, S_laws_eqIntS)] }
abbrev laws_eqIntSS_l0_H := List (List Int) × List (List Int) × Int × Unit
abbrev laws_eqIntSS_l0_O := (Bool × Unit) ⊕ Unit ⊕ Empty
def laws_eqIntSS_l0_h : Form := [(0, .v K_SSi), (1, .v K_SSi), (5, .v I)]
def laws_eqIntSS_l0_o : Outs := [(.ret, [(4, .v .bool)]), (.normal, [])]
noncomputable def laws_eqIntSS_l0_r (N : Nat) (back : laws_eqIntSS_l0_H → Option laws_eqIntSS_l0_O) (d : laws_eqIntSS_l0_H) : Option laws_eqIntSS_l0_O :=
  let s0 : List (List Int) := d.1
  let s1 : List (List Int) := d.2.1
  let s5 : Int := d.2.2.1
  if (decide (s5 < (List.length s0 : Int))) = true then
    if (idxIn s5 (List.length s0)) = true then
    if (idxIn s5 (List.length s1)) = true then
    (G_eqIntS ((at_ K_Si s0 s5.toNat, (at_ K_Si s1 s5.toNat, ())))).bind fun r6 =>
    if (!r6.1) = true then
      some (.inl (false, ()))
    else
      let x7 : Int := IntKind.wrap .i64 (s5 + (1 : Int))
      back ((s0, (s1, (x7, ()))))
    else none
    else none
  else
    some (.inr (.inl ()))
noncomputable def laws_eqIntSS_l0 (N : Nat) : Nat → laws_eqIntSS_l0_H → Option laws_eqIntSS_l0_O
  | 0, _ => none
  | k + 1, d => laws_eqIntSS_l0_r N (laws_eqIntSS_l0 N k) d
theorem laws_eqIntSS_l0_ok (N : Nat) (back) (d) : roundR Γ_laws_eqIntSS (assoc []) 0 laws_eqIntSS_l0_h laws_eqIntSS_l0_o (loopOf Try.f87 0) back d = laws_eqIntSS_l0_r N back d := by kernel_rfl
noncomputable def F_laws_eqIntSS (N : Nat) (d : List (List Int) × List (List Int) × Unit) : Option (Bool × Unit) :=
  let a0 : List (List Int) := d.1
  let a1 : List (List Int) := d.2.1
  if ((List.length a0 : Int) != (List.length a1 : Int)) = true then
    some (false, ())
  else
    (laws_eqIntSS_l0 N N ((a0, (a1, ((0 : Int), ()))))).bind fun o3 => match o3 with
    | .inl d4 =>
      some (d4.1, ())
    | .inr (.inl d5) =>
      some (true, ())
theorem F_laws_eqIntSS_ok (N : Nat) (d) : fnR Γ_laws_eqIntSS (assoc [(0, ⟨laws_eqIntSS_l0_h, laws_eqIntSS_l0_o, laws_eqIntSS_l0 N N⟩)]) true [(K_SSi, false), (K_SSi, false)] [.bool] Try.f87.results.toList (bodyOf Try.f87) d = F_laws_eqIntSS N d := by kernel_rfl
noncomputable def S_laws_eqIntSS : FSig := ⟨[(K_SSi, false), (K_SSi, false)], [.bool], true, (G_eqIntSS)⟩
noncomputable def Γ_laws_eqTimetable : Ctx := { tk := assoc tks, ar := assoc ars, fs := assoc [(28, S_laws_eqGraph), (87, S_laws_eqIntSS)] }
noncomputable def F_laws_eqTimetable (N : Nat) (d : ((Int × (List (Int × Int × Unit)) × Unit) × Int × List (List Int) × Unit) × ((Int × (List (Int × Int × Unit)) × Unit) × Int × List (List Int) × Unit) × Unit) : Option (Bool × Unit) :=
  let a0 : (Int × (List (Int × Int × Unit)) × Unit) × Int × List (List Int) × Unit := d.1
  let a1 : (Int × (List (Int × Int × Unit)) × Unit) × Int × List (List Int) × Unit := d.2.1
  ((F_laws_eqGraph 0) ((a0.1, (a1.1, ())))).bind fun r1 =>
  if (!r1.1) = true then
    some (false, ())
  else
    if (a0.2.1 != a1.2.1) = true then
      some (false, ())
    else
      (G_eqIntSS ((a0.2.2.1, (a1.2.2.1, ())))).bind fun r2 =>
      if (!r2.1) = true then
        some (false, ())
      else
        some (true, ())
theorem F_laws_eqTimetable_ok (N : Nat) (d) : fnR Γ_laws_eqTimetable (assoc []) true [(K_PPiSPiiqqiSSiq, false), (K_PPiSPiiqqiSSiq, false)] [.bool] Try.f36.results.toList (bodyOf Try.f36) d = F_laws_eqTimetable N d := by kernel_rfl
noncomputable def S_laws_eqTimetable : FSig := ⟨[(K_PPiSPiiqqiSSiq, false), (K_PPiSPiiqqiSSiq, false)], [.bool], true, (F_laws_eqTimetable 0)⟩
noncomputable def Γ_laws_eqIntSSS : Ctx := { tk := assoc tks, ar := assoc ars, fs := assoc [(87, S_laws_eqIntSS)] }
abbrev laws_eqIntSSS_l0_H := List (List (List Int)) × List (List (List Int)) × Int × Unit
abbrev laws_eqIntSSS_l0_O := (Bool × Unit) ⊕ Unit ⊕ Empty
def laws_eqIntSSS_l0_h : Form := [(0, .v K_SSSi), (1, .v K_SSSi), (5, .v I)]
def laws_eqIntSSS_l0_o : Outs := [(.ret, [(4, .v .bool)]), (.normal, [])]
noncomputable def laws_eqIntSSS_l0_r (N : Nat) (back : laws_eqIntSSS_l0_H → Option laws_eqIntSSS_l0_O) (d : laws_eqIntSSS_l0_H) : Option laws_eqIntSSS_l0_O :=
  let s0 : List (List (List Int)) := d.1
  let s1 : List (List (List Int)) := d.2.1
  let s5 : Int := d.2.2.1
  if (decide (s5 < (List.length s0 : Int))) = true then
    if (idxIn s5 (List.length s0)) = true then
    if (idxIn s5 (List.length s1)) = true then
    (G_eqIntSS ((at_ K_SSi s0 s5.toNat, (at_ K_SSi s1 s5.toNat, ())))).bind fun r6 =>
    if (!r6.1) = true then
      some (.inl (false, ()))
    else
      let x7 : Int := IntKind.wrap .i64 (s5 + (1 : Int))
      back ((s0, (s1, (x7, ()))))
    else none
    else none
  else
    some (.inr (.inl ()))
noncomputable def laws_eqIntSSS_l0 (N : Nat) : Nat → laws_eqIntSSS_l0_H → Option laws_eqIntSSS_l0_O
  | 0, _ => none
  | k + 1, d => laws_eqIntSSS_l0_r N (laws_eqIntSSS_l0 N k) d
theorem laws_eqIntSSS_l0_ok (N : Nat) (back) (d) : roundR Γ_laws_eqIntSSS (assoc []) 0 laws_eqIntSSS_l0_h laws_eqIntSSS_l0_o (loopOf Try.f64 0) back d = laws_eqIntSSS_l0_r N back d := by kernel_rfl
noncomputable def F_laws_eqIntSSS (N : Nat) (d : List (List (List Int)) × List (List (List Int)) × Unit) : Option (Bool × Unit) :=
  let a0 : List (List (List Int)) := d.1
  let a1 : List (List (List Int)) := d.2.1
  if ((List.length a0 : Int) != (List.length a1 : Int)) = true then
    some (false, ())
  else
    (laws_eqIntSSS_l0 N N ((a0, (a1, ((0 : Int), ()))))).bind fun o3 => match o3 with
    | .inl d4 =>
      some (d4.1, ())
    | .inr (.inl d5) =>
      some (true, ())
theorem F_laws_eqIntSSS_ok (N : Nat) (d) : fnR Γ_laws_eqIntSSS (assoc [(0, ⟨laws_eqIntSSS_l0_h, laws_eqIntSSS_l0_o, laws_eqIntSSS_l0 N N⟩)]) true [(K_SSSi, false), (K_SSSi, false)] [.bool] Try.f64.results.toList (bodyOf Try.f64) d = F_laws_eqIntSSS N d := by kernel_rfl
noncomputable def S_laws_eqIntSSS : FSig := ⟨[(K_SSSi, false), (K_SSSi, false)], [.bool], true, (G_eqIntSSS)⟩
noncomputable def Γ_laws_FnExactIsTimedProof : Ctx := { tk := assoc tks, ar := assoc ars, fs := assoc [(32, S_laws_szTimetable), (34, S_laws_toTimetable), (36, S_laws_eqTimetable), (60, S_laws_szIntSSS), (61, S_spec_IsTimedProof), (62, S_laws_toIntSSS), (63, S_impl_IsTimedProof), (64, S_laws_eqIntSSS)] }
noncomputable def F_laws_FnExactIsTimedProof (N : Nat) (d : ((Int × (List (Int × Int × Unit)) × Unit) × Int × List (List Int) × Unit) × List (List (List Int)) × Unit) : Option (Bool × Unit) :=
  let a0 : (Int × (List (Int × Int × Unit)) × Unit) × Int × List (List Int) × Unit := d.1
  let a1 : List (List (List Int)) := d.2.1
  ((F_laws_szTimetable 0) ((a0, ((1048576 : Int), ())))).bind fun r1 =>
  if (decide (r1.1 < (0 : Int))) = true then
    some (true, ())
  else
    (G_szIntSSS ((a1, (r1.1, ())))).bind fun r2 =>
    if (decide (r2.1 < (0 : Int))) = true then
      some (true, ())
    else
      ((F_laws_toTimetable 0) (a0, ())).bind fun r3 =>
      (G_toIntSSS (a1, ())).bind fun r4 =>
      (G_timedProof ((r3.1, (r4.1, ())))).bind fun r5 =>
      ((F_laws_toTimetable 0) (a0, ())).bind fun r6 =>
      (G_toIntSSS (a1, ())).bind fun r7 =>
      ((F_impl_IsTimedProof 0) ((r6.1, (r7.1, ())))).bind fun r8 =>
      if (!(r8.1 == r5.1)) = true then
        some (false, ())
      else
        if (!(r8.2.1 == r5.2.1)) = true then
          some (false, ())
        else
          ((F_laws_toTimetable 0) (a0, ())).bind fun r9 =>
          ((F_laws_eqTimetable 0) ((r6.1, (r9.1, ())))).bind fun r10 =>
          if (!r10.1) = true then
            some (false, ())
          else
            (G_toIntSSS (a1, ())).bind fun r11 =>
            (G_eqIntSSS ((r7.1, (r11.1, ())))).bind fun r12 =>
            if (!r12.1) = true then
              some (false, ())
            else
              some (true, ())
theorem F_laws_FnExactIsTimedProof_ok (N : Nat) (d) : fnR Γ_laws_FnExactIsTimedProof (assoc []) true [(K_PPiSPiiqqiSSiq, false), (K_SSSi, false)] [.bool] Try.f14.results.toList (bodyOf Try.f14) d = F_laws_FnExactIsTimedProof N d := by kernel_rfl
noncomputable def S_laws_FnExactIsTimedProof : FSig := ⟨[(K_PPiSPiiqqiSSiq, false), (K_SSSi, false)], [.bool], true, (F_laws_FnExactIsTimedProof 0)⟩
end Go.V.W
set_option linter.unusedVariables false
set_option linter.unusedSimpArgs false
namespace Go.V.W
theorem wrap_nat {m : Nat} (h : m < 9223372036854775808) : IntKind.wrap .i64 (m : Int) = (m : Int) := Go.IntWalk.i64_in _ (by omega)
theorem ofInt_nat (m : Nat) : BitVec.ofInt 64 (m : Int) = BitVec.ofNat 64 m := by simp
theorem bits_or {a b : Nat} (ha : a < 256) (hb : b < 256) : bits .or .i64 (a : Int) (b : Int) = ((a ||| b : Nat) : Int) := by
  have hab : a ||| b < 256 := Nat.or_lt_two_pow (n := 8) ha hb
  have e : (BitVec.ofInt IntKind.i64.bits (a : Int) ||| BitVec.ofInt IntKind.i64.bits (b : Int)).toNat = a ||| b := by
    show (BitVec.ofInt 64 (a : Int) ||| BitVec.ofInt 64 (b : Int)).toNat = a ||| b
    rw [ofInt_nat, ofInt_nat, BitVec.toNat_or, BitVec.toNat_ofNat, BitVec.toNat_ofNat, Nat.mod_eq_of_lt (by omega), Nat.mod_eq_of_lt (by omega)]
  unfold bits bitI
  simp only [Option.getD_some]
  rw [e]
  exact wrap_nat (by omega)
theorem bits_and {a b : Nat} (ha : a < 256) (hb : b < 256) : bits .and .i64 (a : Int) (b : Int) = ((a &&& b : Nat) : Int) := by
  have hab : a &&& b ≤ a := Nat.and_le_left
  have e : (BitVec.ofInt IntKind.i64.bits (a : Int) &&& BitVec.ofInt IntKind.i64.bits (b : Int)).toNat = a &&& b := by
    show (BitVec.ofInt 64 (a : Int) &&& BitVec.ofInt 64 (b : Int)).toNat = a &&& b
    rw [ofInt_nat, ofInt_nat, BitVec.toNat_and, BitVec.toNat_ofNat, BitVec.toNat_ofNat, Nat.mod_eq_of_lt (by omega), Nat.mod_eq_of_lt (by omega)]
  unfold bits bitI
  simp only [Option.getD_some]
  rw [e]
  exact wrap_nat (by omega)
theorem shl_one {y : Nat} (h : y < 8) : shl .i64 1 (y : Int) = ((2 ^ y : Nat) : Int) := by
  have : y = 0 ∨ y = 1 ∨ y = 2 ∨ y = 3 ∨ y = 4 ∨ y = 5 ∨ y = 6 ∨ y = 7 := by omega
  rcases this with rfl | rfl | rfl | rfl | rfl | rfl | rfl | rfl <;> decide
theorem pow_small {y : Nat} (h : y < 8) : 2 ^ y < 256 := by
  have : y = 0 ∨ y = 1 ∨ y = 2 ∨ y = 3 ∨ y = 4 ∨ y = 5 ∨ y = 6 ∨ y = 7 := by omega
  rcases this with rfl | rfl | rfl | rfl | rfl | rfl | rfl | rfl <;> decide
theorem shr_nat {m y : Nat} (h : y < 8) : shr .i64 (m : Int) (y : Int) = ((m >>> y : Nat) : Int) := by
  unfold shr
  have e : min (y : Int).toNat IntKind.i64.bits = y := by
    show min (y : Int).toNat 64 = y
    rw [Int.toNat_natCast]
    omega
  rw [e, Nat.shiftRight_eq_div_pow, Int.fdiv_eq_ediv_of_nonneg _ (by
    have := Nat.two_pow_pos y
    exact_mod_cast Nat.zero_le (2 ^ y))]
  norm_cast
theorem has_bit {m y : Nat} (hm : m < 256) (h : y < 8) : (bits .and .i64 (shr .i64 (m : Int) (y : Int)) 1 == (1 : Int)) = m.testBit y := by
  have h1 : m >>> y < 256 := by
    rw [Nat.shiftRight_eq_div_pow]
    exact Nat.lt_of_le_of_lt (Nat.div_le_self _ _) hm
  rw [shr_nat h]
  have := bits_and h1 (show 1 < 256 by omega)
  rw [show ((1 : Nat) : Int) = 1 from rfl] at this
  rw [this, Nat.testBit_eq_decide_div_mod_eq, Nat.shiftRight_eq_div_pow, Nat.and_one_is_mod]
  have : m / 2 ^ y % 2 = 0 ∨ m / 2 ^ y % 2 = 1 := by omega
  rcases this with h | h <;> simp [h]
def okN (n : Nat) (ms : List Nat) : Prop := ms.length = n ∧ ∀ x, ms.getD x 0 < 256
theorem okN_zero (n : Nat) : okN n (List.replicate n 0) := by
  refine ⟨by simp, fun x => ?_⟩
  simp only [List.getD_eq_getElem?_getD, List.getElem?_replicate]
  split <;> simp
theorem getD_set (ms : List Nat) (a x v : Nat) (h : a < ms.length) : (ms.set a v).getD x 0 = if x = a then v else ms.getD x 0 := by
  simp only [List.getD_eq_getElem?_getD, List.getElem?_set]
  by_cases e : x = a
  · subst e; simp [h]
  · simp [e, Ne.symm e]
theorem orN_ok {n : Nat} {ms : List Nat} (h : okN n ms) {a b : Nat} (ha : a < n) (hb : b < 8) : okN n (orN ms a b) := by
  refine ⟨by simp [orN, h.1], fun x => ?_⟩
  unfold orN
  rw [getD_set _ _ _ _ (by rw [h.1]; exact ha)]
  split
  · exact Nat.or_lt_two_pow (n := 8) (h.2 a) (pow_small hb)
  · exact h.2 x
theorem orN_bit {n : Nat} {ms : List Nat} (h : okN n ms) {a b : Nat} (ha : a < n) (x y : Nat) : ((orN ms a b).getD x 0).testBit y = ((ms.getD x 0).testBit y || (decide (x = a) && decide (y = b))) := by
  unfold orN
  rw [getD_set _ _ _ _ (by rw [h.1]; exact ha)]
  by_cases e : x = a
  · subst e
    simp only [if_true, Nat.testBit_or, Nat.testBit_two_pow, decide_true, Bool.true_and]
    congr 1
    by_cases e : y = b
    · simp [e]
    · simp [e, Ne.symm e]
  · simp [e]
/-- An edge of n nodes. -/
theorem edgeB_nat {n : Nat} {e : E} (h : edgeB (n : Int) e = true) : e.1.toNat < e.2.1.toNat ∧ e.2.1.toNat < n ∧ e.1 = (e.1.toNat : Int) ∧ e.2.1 = (e.2.1.toNat : Int) := by
  unfold edgeB at h
  simp only [Bool.and_eq_true, decide_eq_true_eq] at h
  omega
theorem addN_ok {n : Nat} {ms : List Nat} (hn : n ≤ 8) (h : okN n ms) {e : E} (he : edgeB (n : Int) e = true) : okN n (addN ms e) := by
  obtain ⟨h1, h2, _, _⟩ := edgeB_nat he
  exact orN_ok (orN_ok h (by omega) (by omega)) h2 (by omega)
def isE (e : E) (x y : Nat) : Bool := (decide (x = e.1.toNat) && decide (y = e.2.1.toNat)) || (decide (x = e.2.1.toNat) && decide (y = e.1.toNat))
theorem foldN_ok {n : Nat} (hn : n ≤ 8) : ∀ (es : List E) (ms : List Nat), okN n ms → es.all (edgeB (n : Int)) = true → okN n (es.foldl addN ms) ∧ ∀ x y, ((es.foldl addN ms).getD x 0).testBit y = ((ms.getD x 0).testBit y || es.any (fun e => isE e x y)) := by
  intro es
  induction es with
  | nil => intro ms h _; exact ⟨h, fun x y => by simp⟩
  | cons e es ih =>
    intro ms h he
    simp only [List.all_cons, Bool.and_eq_true] at he
    obtain ⟨h1, h2, _, _⟩ := edgeB_nat he.1
    obtain ⟨k1, k2⟩ := ih (addN ms e) (addN_ok hn h he.1) he.2
    refine ⟨k1, fun x y => ?_⟩
    rw [List.foldl_cons, k2 x y]
    unfold addN
    rw [orN_bit (orN_ok h (show e.1.toNat < n by omega) (by omega)) h2, orN_bit h (show e.1.toNat < n by omega)]
    simp only [List.any_cons, isE, Bool.or_assoc]
theorem netN_ok {n : Nat} (hn : n ≤ 8) {es : List E} (h : es.all (edgeB (n : Int)) = true) : okN n (netN n es) := (foldN_ok hn es _ (okN_zero n) h).1
theorem netN_bit {n : Nat} (hn : n ≤ 8) {es : List E} (h : es.all (edgeB (n : Int)) = true) (x y : Nat) : hasN (netN n es) x y = es.any (fun e => isE e x y) := by
  unfold hasN netN
  rw [(foldN_ok hn es _ (okN_zero n) h).2 x y]
  have : ((List.replicate n 0).getD x 0).testBit y = false := by
    simp only [List.getD_eq_getElem?_getD, List.getElem?_replicate]
    split <;> simp
  rw [this, Bool.false_or]
theorem lessE_trans {a b c : E} (h1 : lessE a b = true) (h2 : lessE b c = true) : lessE a c = true := by
  simp only [lessE, Bool.or_eq_true, Bool.and_eq_true, decide_eq_true_eq] at h1 h2 ⊢
  omega
theorem rising_pair : ∀ {l : List E}, risingE l = true → l.Pairwise fun a b => lessE a b = true := by
  intro l
  induction l with
  | nil => intro _; exact .nil
  | cons a l ih =>
    intro h
    cases l with
    | nil => simp
    | cons b l =>
      simp only [risingE, Bool.and_eq_true] at h
      have := ih h.2
      rw [List.pairwise_cons] at this ⊢
      refine ⟨fun c hc => ?_, by rw [List.pairwise_cons]; exact this⟩
      rcases List.mem_cons.1 hc with rfl | hc
      · exact h.1
      · exact lessE_trans h.1 (this.1 c hc)
theorem selE_sub : ∀ (es : List E) (ts : List (List Int)) (r : Int), (selE es ts r).Sublist es := by
  intro es
  induction es with
  | nil => intro ts r; cases ts <;> simp [selE]
  | cons e es ih =>
    intro ts r
    cases ts with
    | nil => simp [selE]
    | cons t ts =>
      simp only [selE]
      split
      · exact (ih ts r).cons_cons e
      · exact (ih ts r).cons e
theorem toI_from (ms : List Nat) : fromI (toI ms) = ms := by
  unfold fromI toI
  rw [List.map_map]
  exact List.map_id' _
theorem at_toI (ms : List Nat) (x : Nat) : at_ (.int .i64) (toI ms) x = ((ms.getD x 0 : Nat) : Int) := by
  unfold at_ toI
  simp only [List.getD_eq_getElem?_getD, List.getElem?_map]
  cases ms[x]? <;> rfl
theorem toI_set (ms : List Nat) (x v : Nat) : List.set (toI ms) x (v : Int) = toI (ms.set x v) := by
  simp [toI, List.map_set]
theorem toI_len (ms : List Nat) : (toI ms).length = ms.length := by simp [toI]
end Go.V.W
set_option linter.unusedVariables false
set_option linter.unusedSimpArgs false
namespace Go.V
end Go.V
namespace Go.V.W
open Go.Proofs Go.RowKit
def val (a0 F : Nat → Value) (L : Nat → Bool) (t : Nat) : Value := if t = 8 then (if L 9 = true then F 9 else a0 8) else if 38 ≤ t ∧ t ≤ 46 then (if L (t - 38) = true then F (t - 38) else a0 t) else a0 t
def dstv (j : Nat) : Nat := if j = 9 then 8 else 38 + j
theorem val_step (a0 F : Nat → Value) (L : Nat → Bool) {j : Nat} (hj : j ≤ 9) (t : Nat) : (if t = dstv j then F j else val a0 F L t) = val a0 F (fun i => L i || decide (i = j)) t := by
  unfold val dstv
  by_cases e9 : j = 9
  · subst e9
    simp only [if_true]
    by_cases et : t = 8
    · simp [et]
    · simp only [et, if_false]
      by_cases er : 38 ≤ t ∧ t ≤ 46
      · have : ¬ t - 38 = 9 := by omega
        simp [er, this]
      · simp [er]
  · simp only [e9, if_false]
    by_cases et : t = 8
    · subst et
      have h1 : ¬ 8 = 38 + j := by omega
      have h2 : ¬ (9 = j) := fun h => e9 h.symm
      simp [h1, h2]
    · simp only [et, if_false]
      by_cases er : 38 ≤ t ∧ t ≤ 46
      · simp only [er, and_self, if_true]
        by_cases ej : t = 38 + j
        · subst ej
          simp
        · have : ¬ t - 38 = j := by omega
          simp [ej, this]
      · have : ¬ t = 38 + j := by omega
        simp [er, this]
def rowL (n m : Nat) (x z : Value) : List Value := List.replicate m x ++ List.replicate (n - m) z
theorem put_getD {a : Act} {d t : Nat} {v : Value} (hd : d < a.tmps.size) : (a.put (some d) v).tmps.getD t undef = if t = d then v else a.tmps.getD t undef := by
  unfold Act.put
  by_cases e : t = d
  · subst e
    simp [Array.getD_eq_getD_getElem?, hd]
  · have e' : d ≠ t := fun h => e h.symm
    simp [Array.getD_eq_getD_getElem?, Array.getElem?_setIfInBounds_ne e', e]
/-- What is held of the listed operations. -/
structure Phi (a0 F : Nat → Value) (df : List Deferred) (sz g n m c B : Nat) (x z : Value) (T : TypeId) (w0 : World) (L : Nat → Bool) (a : Act) (w : World) : Prop where
  size : a.tmps.size = sz
  defers : a.defers = df
  tmps : ∀ t, a.tmps.getD t undef = val a0 F L t
  row : w.heap[g]? = some (.cells (rowL n (if L 7 = true then m + c else m) x z).toArray T (0, 0))
  below : Below B w0 w
theorem Phi.fin {P : Program} {Q : Exit → Act → World → Prop} {a0 F : Nat → Value} {df : List Deferred} {g n m c B : Nat} {x z : Value} {T : TypeId} {w0 w w' : World} {L : Nat → Bool} {a : Act} (h : Phi a0 F df 48 g n m c B x z T w0 L a w) {j : Nat} (hj : j ≤ 9) {o : Oper} (hd : o.dst = some (dstv j))
    (hrun : (execOp a.eval o).run P w = .ok (.value (F j)) w') (hrow : w'.heap[g]? = some (.cells (rowL n (if (L 7 || decide (7 = j)) = true then m + c else m) x z).toArray T (0, 0))) (hB : Below B w0 w')
    (K : Act → World → Prop) (hK : ∀ a' w', Phi a0 F df 48 g n m c B x z T w0 (fun i => L i || decide (i = j)) a' w' → K a' w') : o.wp P a w K Q := by
  refine wp_value hrun (hK _ _ ⟨?_, ?_, fun t => ?_, hrow, hB⟩)
  · rw [hd]
    simp [Act.put, h.size]
  · rw [hd]
    exact h.defers
  · rw [hd, put_getD (by rw [h.size]; unfold dstv; split <;> omega), h.tmps t]
    exact val_step a0 F L hj t
end Go.V.W
set_option linter.unusedVariables false
set_option linter.unusedSimpArgs false
namespace Go.V.W
open Go.Proofs
theorem containsAny_any (c : List UInt8) : ∀ l : List UInt8, Lib.containsAny l c = l.any fun b => c.contains b := by
  intro l
  induction l with
  | nil => simp [Lib.containsAny, Lib.indexAny]
  | cons b l ih =>
    unfold Lib.containsAny at ih ⊢
    unfold Lib.indexAny
    rw [List.any_cons, ← ih]
    by_cases hb : c.contains b = true
    · have hb' : b ∈ c := by simpa using hb
      simp [hb']
    · simp only [Bool.not_eq_true] at hb
      rw [hb]
      simp only [Bool.false_eq_true, if_false, Bool.false_or]
      have := Lib.indexAny_ge c l
      by_cases he : Lib.indexAny l c = -1
      · simp [he]
      · have e1 : (Lib.indexAny l c == -1) = false := by simpa using he
        rw [e1]
        simp only [Bool.false_eq_true, if_false]
        have e2 : (0 ≤ Lib.indexAny l c) := by omega
        have e3 : (0 ≤ Lib.indexAny l c + 1) := by omega
        simp [e2, e3]
end Go.V.W
set_option linter.unusedVariables false
set_option linter.unusedSimpArgs false
namespace Go.V.W
open Go.Proofs
def specB (a b : ByteArray) : Bool := !seq_ a (⟨#[]⟩ : ByteArray) && ((a.data.toList.all (fun b => printed1 b && !(b.toNat == 35)) && decide ((a.size : Int) ≤ 160)) && (!(a.data.toList.any (fun b => ((b.toNat : Int) == 64))) && (b.data.toList.all (fun b => printed1 b && !(b.toNat == 35)) && decide ((b.size : Int) ≤ 200))))
def implB (a b : ByteArray) : Bool := ((decide ((a.size : Int) ≥ 1) && decide ((a.size : Int) ≤ 160)) && (printedB a && !Lib.containsAny a.data.toList [35, 64])) && (decide ((b.size : Int) ≤ 200) && (printedB b && !Lib.containsAny b.data.toList [35]))
theorem all_not (l : List UInt8) (p q : UInt8 → Bool) : l.all (fun b => p b && !q b) = (l.all p && !l.any q) := by
  induction l with
  | nil => rfl
  | cons b l ih =>
    simp only [List.all_cons, List.any_cons, ih]
    cases p b <;> cases q b <;> cases l.all p <;> cases l.any q <;> rfl
theorem any_or (l : List UInt8) (p q : UInt8 → Bool) : l.any (fun b => p b || q b) = (l.any p || l.any q) := by
  induction l with
  | nil => rfl
  | cons b l ih =>
    simp only [List.any_cons, ih]
    cases p b <;> cases q b <;> cases l.any p <;> cases l.any q <;> rfl
theorem has35 (l : List UInt8) : Lib.containsAny l [35] = l.any (fun b => b.toNat == 35) := by
  rw [containsAny_any]
  congr 1
  funext b
  simp only [List.contains_cons, List.contains_nil, Bool.or_false]
  rw [Bool.eq_iff_iff]
  simp only [beq_iff_eq]
  exact ⟨fun h => by rw [h]; rfl, fun h => UInt8.toNat_inj.1 h⟩
theorem has3564 (l : List UInt8) : Lib.containsAny l [35, 64] = (l.any (fun b => b.toNat == 35) || l.any (fun b => ((b.toNat : Int) == 64))) := by
  rw [containsAny_any, ← any_or]
  congr 1
  funext b
  simp only [List.contains_cons, List.contains_nil, Bool.or_false]
  rw [Bool.eq_iff_iff]
  simp only [Bool.or_eq_true, beq_iff_eq]
  constructor
  · rintro (h | h)
    · left; rw [h]; rfl
    · right; rw [h]; rfl
  · rintro (h | h)
    · left; exact UInt8.toNat_inj.1 h
    · right; exact UInt8.toNat_inj.1 (by have : b.toNat = 64 := by omega
                                         rw [this]; rfl)
theorem empty_size (a : ByteArray) : seq_ a (⟨#[]⟩ : ByteArray) = !decide ((a.size : Int) ≥ 1) := by
  unfold seq_
  have h1 : a.toList = a.data.toList := Lib.toList_data a
  have h2 : (⟨#[]⟩ : ByteArray).toList = [] := Lib.toList_data _
  have h3 : a.data.toList.length = a.size := by simp
  rw [h1, h2]
  cases hl : a.data.toList with
  | nil =>
    rw [hl] at h3
    simp only [List.length_nil] at h3
    simp [← h3]
  | cons x l =>
    rw [hl] at h3
    simp only [List.length_cons] at h3
    have : decide ((a.size : Int) ≥ 1) = true := by simp; omega
    rw [this]
    rfl
theorem same (a b : ByteArray) : specB a b = implB a b := by
  unfold specB implB
  rw [empty_size, all_not, all_not, has35, has3564]
  unfold printedB
  cases decide ((a.size : Int) ≥ 1) <;> cases a.data.toList.all printed1 <;> cases a.data.toList.any (fun b => b.toNat == 35) <;> cases a.data.toList.any (fun b => ((b.toNat : Int) == 64)) <;> cases decide ((a.size : Int) ≤ 160) <;> cases decide ((b.size : Int) ≤ 200) <;> cases b.data.toList.all printed1 <;> cases b.data.toList.any (fun b => b.toNat == 35) <;> rfl
end Go.V.W
set_option linter.unusedVariables false
set_option linter.unusedSimpArgs false
namespace Go.V.W
open Go.Proofs
theorem lim_max {n : Nat} (h : n ≤ lim) : n ≤ maxLen := by unfold lim at h; unfold maxLen; omega
theorem toIntA2_lim (d) (r) (h : G_toIntA2 d = some r) : ∃ N, F_laws_toIntA2 N d = some r := by
  obtain ⟨⟨a, b, _⟩, _⟩ := d
  have h := Option.some.inj h
  subst h
  exact ⟨3, rfl⟩
theorem set_copy {α : Type} (l m : List α) (i : Nat) (x : α) (hi : i < l.length) (hx : l[i] = x) (hm : m.length = l.length) (h : m.take i = l.take i) : (m.set i x).take (i + 1) = l.take (i + 1) := by
  apply List.ext_getElem?
  intro j
  simp only [List.getElem?_take]
  split
  · rename_i hj
    by_cases hji : j = i
    · subst hji
      rw [List.getElem?_set_self (by omega), List.getElem?_eq_getElem hi, hx]
    · rw [List.getElem?_set_ne (fun e => hji e.symm)]
      have := congrArg (fun z => z[j]?) h
      simp only [List.getElem?_take] at this
      rw [if_pos (by omega), if_pos (by omega)] at this
      exact this
  · rfl
theorem toIntS_l0 (N : Nat) (l : List Int) (hl : l.length ≤ lim) : ∀ k, l.length ≤ k → laws_toIntS_l0 N (k + 1) (l, List.replicate l.length (0 : Int), (0 : Int), ()) = some (.inl (l, ())) := by
  intro k hk
  have hmx := lim_max hl
  have key : ∀ n i (m : List Int), l.length ≤ i + n → i ≤ l.length → m.length = l.length → m.take i = l.take i → laws_toIntS_l0 N (n + 1) (l, m, (i : Int), ()) = some (.inl (l, ())) := by
    intro n
    induction n with
    | zero =>
      intro i m h1 h2 h3 h4
      have e : i = l.length := by omega
      subst e
      rw [List.take_of_length_le (by omega), List.take_of_length_le (by omega)] at h4
      subst h4
      simp [laws_toIntS_l0, laws_toIntS_l0_r]
    | succ n ih =>
      intro i m h1 h2 h3 h4
      by_cases hi : i < l.length
      · show laws_toIntS_l0_r N (laws_toIntS_l0 N (n + 1)) (l, m, (i : Int), ()) = _
        unfold laws_toIntS_l0_r
        have hlt : decide ((i : Int) < (List.length l : Int)) = true := by simp; omega
        simp only [hlt, if_true, idxIn_nat hi, idxIn_nat (show i < m.length by omega), Int.toNat_natCast, wrap_up hi hmx]
        refine ih (i + 1) _ (by omega) (by omega) (by simp [h3]) ?_
        exact set_copy l m i _ hi (by rw [at_get (e := I) hi]; rfl) h3 h4
      · have e : i = l.length := by omega
        subst e
        rw [List.take_of_length_le (by omega), List.take_of_length_le (by omega)] at h4
        subst h4
        simp [laws_toIntS_l0, laws_toIntS_l0_r]
  simpa using key k 0 (List.replicate l.length 0) (by omega) (by omega) (by simp) (by simp)
theorem toIntS_lim (d) (r) (h : G_toIntS d = some r) : ∃ N, F_laws_toIntS N d = some r := by
  obtain ⟨l, _⟩ := d
  unfold G_toIntS at h
  split at h
  · rename_i hl
    have hl : l.length ≤ lim := of_decide_eq_true hl
    have h := Option.some.inj h
    subst h
    refine ⟨l.length + 1, ?_⟩
    unfold F_laws_toIntS
    have hc : (decide (0 ≤ (List.length l : Int)) && decide ((List.length l : Int) ≤ (List.length l : Int)) && decide ((List.length l : Int) ≤ (lim : Int))) = true := by simp; omega
    have := toIntS_l0 (l.length + 1) l hl l.length (Nat.le_refl _)
    simp only [hc, if_true, Int.toNat_natCast]
    rw [this]
    rfl
  · cases h
theorem toIntA2S_l0 (N : Nat) (l : List E) (hl : l.length ≤ lim) : ∀ k, l.length ≤ k → laws_toIntA2S_l0 N (k + 1) (l, List.replicate l.length ((0 : Int), (0 : Int), ()), (0 : Int), ()) = some (.inl (l, ())) := by
  intro k hk
  have hmx := lim_max hl
  have key : ∀ n i (m : List E), l.length ≤ i + n → i ≤ l.length → m.length = l.length → m.take i = l.take i → laws_toIntA2S_l0 N (n + 1) (l, m, (i : Int), ()) = some (.inl (l, ())) := by
    intro n
    induction n with
    | zero =>
      intro i m h1 h2 h3 h4
      have e : i = l.length := by omega
      subst e
      rw [List.take_of_length_le (by omega), List.take_of_length_le (by omega)] at h4
      subst h4
      simp [laws_toIntA2S_l0, laws_toIntA2S_l0_r]
    | succ n ih =>
      intro i m h1 h2 h3 h4
      by_cases hi : i < l.length
      · show laws_toIntA2S_l0_r N (laws_toIntA2S_l0 N (n + 1)) (l, m, (i : Int), ()) = _
        unfold laws_toIntA2S_l0_r
        have hlt : decide ((i : Int) < (List.length l : Int)) = true := by simp; omega
        simp only [hlt, if_true, idxIn_nat hi, idxIn_nat (show i < m.length by omega), Int.toNat_natCast, wrap_up hi hmx, G_toIntA2, Option.bind_some]
        refine ih (i + 1) _ (by omega) (by omega) (by simp [h3]) ?_
        exact set_copy l m i _ hi (by rw [at_get (e := K_Piiq) hi]; rfl) h3 h4
      · have e : i = l.length := by omega
        subst e
        rw [List.take_of_length_le (by omega), List.take_of_length_le (by omega)] at h4
        subst h4
        simp [laws_toIntA2S_l0, laws_toIntA2S_l0_r]
  simpa using key k 0 (List.replicate l.length ((0 : Int), (0 : Int), ())) (by omega) (by omega) (by simp) (by simp)
theorem toIntA2S_lim (d) (r) (h : G_toIntA2S d = some r) : ∃ N, F_laws_toIntA2S N d = some r := by
  obtain ⟨l, _⟩ := d
  unfold G_toIntA2S at h
  split at h
  · rename_i hl
    have hl : l.length ≤ lim := of_decide_eq_true hl
    have h := Option.some.inj h
    subst h
    refine ⟨l.length + 1, ?_⟩
    unfold F_laws_toIntA2S
    have hc : (decide (0 ≤ (List.length l : Int)) && decide ((List.length l : Int) ≤ (List.length l : Int)) && decide ((List.length l : Int) ≤ (lim : Int))) = true := by simp; omega
    have := toIntA2S_l0 (l.length + 1) l hl l.length (Nat.le_refl _)
    simp only [hc, if_true, Int.toNat_natCast]
    rw [this]
    rfl
  · cases h
end Go.V.W
set_option linter.unusedVariables false
set_option linter.unusedSimpArgs false
namespace Go.V.W
open Go.Proofs
theorem eqIntA2_lim (d) (r) (h : G_eqIntA2 d = some r) : ∃ N, F_laws_eqIntA2 N d = some r := by
  obtain ⟨⟨a, b, _⟩, ⟨c, e, _⟩, _⟩ := d
  have h := Option.some.inj h
  subst h
  refine ⟨3, ?_⟩
  by_cases h1 : a = c
  · by_cases h2 : b = e
    · subst h1 h2
      simp [F_laws_eqIntA2, laws_eqIntA2_l0, laws_eqIntA2_l0_r, wrap_in]
    · subst h1
      simp [F_laws_eqIntA2, laws_eqIntA2_l0, laws_eqIntA2_l0_r, wrap_in, h2]
  · simp [F_laws_eqIntA2, laws_eqIntA2_l0, laws_eqIntA2_l0_r, wrap_in, h1]
theorem eqIntS_l0 (N : Nat) (l m : List Int) (hl : l.length ≤ lim) (hm : l.length = m.length) : ∀ n i, l.length ≤ i + n → i ≤ l.length → laws_eqIntS_l0 N (n + 1) (l, m, (i : Int), ()) = if l.drop i = m.drop i then some (.inr (.inl ())) else some (.inl (false, ())) := by
  have hmx := lim_max hl
  intro n
  induction n with
  | zero =>
    intro i h1 h2
    have e : i = l.length := by omega
    subst e
    rw [List.drop_of_length_le (by omega), List.drop_of_length_le (by omega)]
    simp [laws_eqIntS_l0, laws_eqIntS_l0_r]
  | succ n ih =>
    intro i h1 h2
    by_cases hi : i < l.length
    · have hi' : i < m.length := by omega
      show laws_eqIntS_l0_r N (laws_eqIntS_l0 N (n + 1)) (l, m, (i : Int), ()) = _
      unfold laws_eqIntS_l0_r
      have hlt : decide ((i : Int) < (List.length l : Int)) = true := by simp; omega
      simp only [hlt, if_true, idxIn_nat hi, idxIn_nat hi', Int.toNat_natCast, wrap_up hi hmx, at_get (e := I) hi, at_get (e := I) (l := m) hi', ih (i + 1) (by omega) (by omega)]
      rw [List.drop_eq_getElem_cons hi, List.drop_eq_getElem_cons hi']
      simp only [List.cons.injEq, List.get_eq_getElem]
      by_cases he : l[i] = m[i]
      · simp only [he, bne_self_eq_false, Bool.false_eq_true, if_false, true_and]
      · have he' : (l[i] != m[i]) = true := by simpa using he
        simp only [he', he, if_true, false_and, if_false]
    · have e : i = l.length := by omega
      subst e
      rw [List.drop_of_length_le (by omega), List.drop_of_length_le (by omega)]
      simp [laws_eqIntS_l0, laws_eqIntS_l0_r]
theorem eqIntS_lim (d) (r) (h : G_eqIntS d = some r) : ∃ N, F_laws_eqIntS N d = some r := by
  obtain ⟨l, m, _⟩ := d
  unfold G_eqIntS at h
  split at h
  · rename_i hl
    have hl : l.length ≤ lim := of_decide_eq_true hl
    have h := Option.some.inj h
    subst h
    refine ⟨l.length + 1, ?_⟩
    unfold F_laws_eqIntS
    by_cases hm : l.length = m.length
    · have := eqIntS_l0 (l.length + 1) l m hl hm l.length 0 (by omega) (by omega)
      simp only [Int.natCast_zero, List.drop_zero] at this
      have hne : ((List.length l : Int) != (List.length m : Int)) = false := by simp [hm]
      simp only [hne, Bool.false_eq_true, if_false, this]
      by_cases he : l = m
      · simp [he]
      · simp [he]
    · have hne : ((List.length l : Int) != (List.length m : Int)) = true := by simp; omega
      have he : ¬ l = m := fun e => hm (by rw [e])
      simp [hne, he]
  · cases h
end Go.V.W
set_option linter.unusedVariables false
set_option linter.unusedSimpArgs false
namespace Go.V.W
open Go.Proofs
/-- All of m numbers from i on. -/
def allB (p : Nat → Bool) : Nat → Nat → Bool
  | 0, _ => true
  | m + 1, i => p i && allB p m (i + 1)
theorem allB_iff {p : Nat → Bool} : ∀ {m i : Nat}, allB p m i = true ↔ ∀ j, i ≤ j → j < i + m → p j = true := by
  intro m
  induction m with
  | zero => intro i; simp only [allB, true_iff]; intro j h1 h2; omega
  | succ m ih =>
    intro i
    simp only [allB, Bool.and_eq_true, ih]
    constructor
    · rintro ⟨h1, h2⟩ j h3 h4
      by_cases e : j = i
      · subst e; exact h1
      · exact h2 j (by omega) (by omega)
    · intro h
      exact ⟨h i (Nat.le_refl _) (by omega), fun j h1 h2 => h j (by omega) (by omega)⟩
theorem loop_all {H O : Type} {L : Nat → H → Option O} {r : (H → Option O) → H → Option O} (hL : ∀ k d, L (k + 1) d = r (L k) d) {n : Nat} {mk : Nat → H} {p : Nat → Bool} {o f : O}
    (hr : ∀ back i, i < n → r back (mk i) = if p i = true then back (mk (i + 1)) else some o) (hf : ∀ back, r back (mk n) = some f) :
    ∀ k i, i ≤ n → n ≤ i + k → L (k + 1) (mk i) = some (if allB p (n - i) i = true then f else o) := by
  intro k
  induction k with
  | zero =>
    intro i h1 h2
    have e : i = n := by omega
    subst e
    rw [hL, hf, Nat.sub_self]
    rfl
  | succ k ih =>
    intro i h1 h2
    by_cases h : i < n
    · rw [hL, hr _ i h, show n - i = (n - (i + 1)) + 1 by omega]
      simp only [allB]
      by_cases hp : p i = true
      · simp only [hp, if_true, Bool.true_and]
        exact ih (i + 1) (by omega) (by omega)
      · simp only [Bool.not_eq_true] at hp
        simp only [hp, Bool.false_eq_true, if_false, Bool.false_and]
    · have e : i = n := by omega
      subst e
      rw [hL, hf, Nat.sub_self]
      rfl
theorem wrap_down {i : Nat} (h : 0 < i) (hn : i ≤ maxLen) : IntKind.wrap .i64 ((i : Int) - 1) = ((i - 1 : Nat) : Int) := by
  unfold maxLen at hn
  rw [Go.IntWalk.i64_in _ (by omega)]
  omega
theorem lt_dec {i n : Nat} (h : i < n) : decide ((i : Int) < (n : Int)) = true := by simp; omega
theorem lt_not (n : Nat) : decide ((n : Int) < (n : Int)) = false := by simp
theorem pos_dec {i : Nat} : decide ((i : Int) > (0 : Int)) = decide (0 < i) := by simp
theorem bool_eq_iff {a b : Bool} (h : a = true ↔ b = true) : a = b := by cases a <;> cases b <;> simp_all
theorem all_at {e : Kd} (l : List e.den) (q : e.den → Bool) : allB (fun i => q (at_ e l i)) l.length 0 = l.all q := by
  apply bool_eq_iff
  rw [allB_iff, List.all_eq_true]
  constructor
  · intro h x hx
    obtain ⟨i, hi, rfl⟩ := List.getElem_of_mem hx
    have := h i (by omega) (by omega)
    rw [at_get hi] at this
    exact this
  · intro h j _ hj
    have hj : j < l.length := by omega
    rw [at_get hj]
    exact h _ (List.getElem_mem hj)
theorem risingB_iff : ∀ l : List Int, risingB l = true ↔ ∀ j, 0 < j → j < l.length → at_ I l (j - 1) < at_ I l j := by
  intro l
  induction l with
  | nil => simp only [risingB, true_iff]; intro j _ h; exact absurd h (by simp)
  | cons a l ih =>
    cases l with
    | nil => simp only [risingB, true_iff]; intro j h1 h2; simp only [List.length_cons, List.length_nil] at h2; omega
    | cons b l =>
      simp only [risingB, Bool.and_eq_true, ih, decide_eq_true_eq]
      constructor
      · rintro ⟨h1, h2⟩ j h3 h4
        by_cases e : j = 1
        · subst e; exact h1
        · have := h2 (j - 1) (by omega) (by simp only [List.length_cons] at h4 ⊢; omega)
          obtain ⟨k, rfl⟩ : ∃ k, j = k + 2 := ⟨j - 2, by omega⟩
          exact this
      · intro h
        refine ⟨h 1 (by omega) (by simp), fun j h1 h2 => ?_⟩
        have := h (j + 1) (by omega) (by simp only [List.length_cons] at h2 ⊢; omega)
        obtain ⟨k, rfl⟩ : ∃ k, j = k + 1 := ⟨j - 1, by omega⟩
        exact this
theorem risingE_iff : ∀ l : List E, risingE l = true ↔ ∀ j, 0 < j → j < l.length → lessE (at_ K_Piiq l (j - 1)) (at_ K_Piiq l j) = true := by
  intro l
  induction l with
  | nil => simp only [risingE, true_iff]; intro j _ h; exact absurd h (by simp)
  | cons a l ih =>
    cases l with
    | nil => simp only [risingE, true_iff]; intro j h1 h2; simp only [List.length_cons, List.length_nil] at h2; omega
    | cons b l =>
      simp only [risingE, Bool.and_eq_true, ih]
      constructor
      · rintro ⟨h1, h2⟩ j h3 h4
        by_cases e : j = 1
        · subst e; exact h1
        · have := h2 (j - 1) (by omega) (by simp only [List.length_cons] at h4 ⊢; omega)
          obtain ⟨k, rfl⟩ : ∃ k, j = k + 2 := ⟨j - 2, by omega⟩
          exact this
      · intro h
        refine ⟨h 1 (by omega) (by simp), fun j h1 h2 => ?_⟩
        have := h (j + 1) (by omega) (by simp only [List.length_cons] at h2 ⊢; omega)
        obtain ⟨k, rfl⟩ : ∃ k, j = k + 1 := ⟨j - 1, by omega⟩
        exact this
theorem l1In_eq (x lo hi : Int) (u : Unit) : g_spec_l1In (x, lo, hi, u) = (inB lo hi x, ()) := by
  unfold g_spec_l1In inB
  by_cases h : lo ≤ x <;> simp [h]
theorem within_eq (x lo hi : Int) (u : Unit) : g_impl_within (x, lo, hi, u) = (inB lo hi x, ()) := by
  unfold g_impl_within inB
  by_cases h : lo ≤ x <;> simp [h]
theorem l2Before_eq (a b : E) (u : Unit) : g_spec_l2Before (a, b, u) = (lessE a b, ()) := by
  obtain ⟨a1, a2, _⟩ := a
  obtain ⟨b1, b2, _⟩ := b
  unfold g_spec_l2Before lessE
  by_cases h : a1 < b1
  · simp [h]
  · by_cases h2 : a1 = b1 <;> simp [h, h2]
theorem cmpI_eq (a b : Int) (u : Unit) : g_cmp_Compare_int (a, b, u) = (if a < b then -1 else if b < a then 1 else 0, ()) := by
  unfold g_cmp_Compare_int g_cmp_isNaN_int
  by_cases h : a < b
  · simp [h]
  · by_cases h2 : b < a <;> simp [h, h2]
theorem eqIntA2S_lim (d) (r) (h : G_eqIntA2S d = some r) : ∃ N, F_laws_eqIntA2S N d = some r := by
  obtain ⟨l, m, _⟩ := d
  unfold G_eqIntA2S at h
  split at h
  · rename_i hl
    have hl : l.length ≤ lim := of_decide_eq_true hl
    have hmx := lim_max hl
    have h := Option.some.inj h
    subst h
    refine ⟨l.length + 1, ?_⟩
    unfold F_laws_eqIntA2S
    by_cases hm : l.length = m.length
    · have := loop_all (L := laws_eqIntA2S_l0 (l.length + 1)) (r := laws_eqIntA2S_l0_r (l.length + 1)) (fun _ _ => rfl) (n := l.length) (mk := fun i => (l, m, (i : Int), ())) (p := fun i => decide (at_ K_Piiq l i = at_ K_Piiq m i)) (o := .inl (false, ())) (f := .inr (.inl ()))
        (by
          intro back i hi
          have hi' : i < m.length := by omega
          unfold laws_eqIntA2S_l0_r
          simp only [lt_dec hi, if_true, idxIn_nat hi, idxIn_nat hi', Int.toNat_natCast, wrap_up hi hmx, G_eqIntA2, Option.bind_some]
          by_cases he : at_ K_Piiq l i = at_ K_Piiq m i
          · simp only [he, decide_true, Bool.not_true, Bool.false_eq_true, if_false, if_true]
          · simp only [he, decide_false, Bool.not_false, Bool.false_eq_true, if_false, if_true])
        (by intro back; unfold laws_eqIntA2S_l0_r; simp only [lt_not, Bool.false_eq_true, if_false]) l.length 0 (by omega) (by omega)
      simp only [Int.natCast_zero] at this
      have hne : ((List.length l : Int) != (List.length m : Int)) = false := by simp [hm]
      simp only [hne, Bool.false_eq_true, if_false, this, Nat.sub_zero]
      by_cases he : l = m
      · have : allB (fun i => decide (at_ K_Piiq l i = at_ K_Piiq m i)) l.length 0 = true := allB_iff.2 (fun j _ _ => by simp [he])
        simp only [this, if_true, Option.bind_some]
        simp only [he, decide_true]
      · have : allB (fun i => decide (at_ K_Piiq l i = at_ K_Piiq m i)) l.length 0 = false := by
          apply Bool.eq_false_iff.2
          intro ha
          apply he
          rw [allB_iff] at ha
          apply List.ext_getElem hm
          intro i h1 h2
          have := of_decide_eq_true (ha i (by omega) (by omega))
          rw [at_get (e := K_Piiq) h1, at_get (e := K_Piiq) h2] at this
          exact this
        simp only [this, he, Bool.false_eq_true, if_false, Option.bind_some, decide_false]
    · have hne : ((List.length l : Int) != (List.length m : Int)) = true := by simp; omega
      have he : ¬ l = m := fun e => hm (by rw [e])
      simp [hne, he]
  · cases h
theorem l1Rising_lim (d) (r) (h : G_l1Rising d = some r) : ∃ N, F_spec_l1Rising N d = some r := by
  obtain ⟨l, lo, hi, _⟩ := d
  unfold G_l1Rising at h
  split at h
  · rename_i hl
    have hl : l.length ≤ lim := of_decide_eq_true hl
    have hmx := lim_max hl
    have h := Option.some.inj h
    subst h
    refine ⟨l.length + 1, ?_⟩
    unfold F_spec_l1Rising
    have := loop_all (L := spec_l1Rising_l0 (l.length + 1)) (r := spec_l1Rising_l0_r (l.length + 1)) (fun _ _ => rfl) (n := l.length) (mk := fun i => (l, lo, hi, (i : Int), ())) (p := fun i => inB lo hi (at_ I l i) && (!decide (0 < i) || decide (at_ I l (i - 1) < at_ I l i))) (o := .inl (false, ())) (f := .inr (.inl ()))
      (by
        intro back i hi'
        unfold spec_l1Rising_l0_r
        simp only [lt_dec hi', if_true, idxIn_nat hi', Int.toNat_natCast, wrap_up hi' hmx, l1In_eq, pos_dec]
        cases hb : inB lo hi (at_ I l i) with
        | false => simp only [Bool.not_false, if_true, Bool.false_and, Bool.false_eq_true, if_false]
        | true =>
          simp only [Bool.not_true, Bool.false_eq_true, if_false, Bool.true_and]
          by_cases h0 : 0 < i
          · have h1 : i - 1 < l.length := by omega
            simp only [h0, decide_true, if_true, wrap_down h0 (show i ≤ maxLen by omega), idxIn_nat h1, Int.toNat_natCast, Bool.not_true, Bool.false_or]
            by_cases hc : at_ I l (i - 1) < at_ I l i
            · have hc' : ¬ (at_ I l (i - 1) ≥ at_ I l i) := Int.not_le.2 hc
              simp only [hc, hc', decide_true, decide_false, if_true, Bool.false_eq_true, if_false]
            · have hc' : (at_ I l (i - 1) ≥ at_ I l i) := Int.not_lt.1 hc
              simp only [hc, hc', decide_true, decide_false, if_true, Bool.false_eq_true, if_false]
          · simp only [h0, decide_false, Bool.false_eq_true, if_false, Bool.not_false, Bool.true_or, if_true])
      (by intro back; unfold spec_l1Rising_l0_r; simp only [lt_not, Bool.false_eq_true, if_false]) l.length 0 (by omega) (by omega)
    simp only [Int.natCast_zero] at this
    simp only [this, Nat.sub_zero]
    have e : allB (fun i => inB lo hi (at_ I l i) && (!decide (0 < i) || decide (at_ I l (i - 1) < at_ I l i))) l.length 0 = (l.all (inB lo hi) && risingB l) := by
      rw [← all_at (e := I) l (inB lo hi)]
      apply bool_eq_iff
      rw [Bool.and_eq_true, allB_iff, allB_iff, risingB_iff]
      simp only [Bool.and_eq_true, Bool.or_eq_true, Bool.not_eq_true', decide_eq_true_eq, decide_eq_false_iff_not]
      constructor
      · intro h
        exact ⟨fun j h1 h2 => (h j h1 h2).1, fun j h1 h2 => ((h j (by omega) (by omega)).2).resolve_left (by omega)⟩
      · rintro ⟨h1, h2⟩ j h3 h4
        refine ⟨h1 j h3 h4, ?_⟩
        by_cases h0 : 0 < j
        · exact .inr (h2 j h0 (by omega))
        · exact .inl h0
    simp only [e]
    cases (l.all (inB lo hi) && risingB l) <;> rfl
  · cases h
theorem increasing_lim (d) (r) (h : G_increasing d = some r) : ∃ N, F_impl_increasing N d = some r := by
  obtain ⟨l, _⟩ := d
  unfold G_increasing at h
  split at h
  · rename_i hl
    have hl : l.length ≤ lim := of_decide_eq_true hl
    have hmx := lim_max hl
    have h := Option.some.inj h
    subst h
    refine ⟨l.length + 1, ?_⟩
    unfold F_impl_increasing
    by_cases hz : l.length = 0
    · have : l = [] := List.length_eq_zero_iff.1 hz
      subst this
      rfl
    · have := loop_all (L := fun k d => impl_increasing_l0 (l.length + 1) k d) (r := impl_increasing_l0_r (l.length + 1)) (fun _ _ => rfl) (n := l.length - 1) (mk := fun i => (l, ((i + 1 : Nat) : Int), ())) (p := fun i => decide (at_ I l i < at_ I l (i + 1))) (o := .inl (false, ())) (f := .inr (.inl ()))
        (by
          intro back i hi
          have h1 : i + 1 < l.length := by omega
          have h2 : i < l.length := by omega
          unfold impl_increasing_l0_r
          simp only [lt_dec h1, if_true, wrap_down (show 0 < i + 1 by omega) (show i + 1 ≤ maxLen by omega), idxIn_nat h1, wrap_up h1 hmx, Nat.add_sub_cancel, idxIn_nat h2, Int.toNat_natCast]
          by_cases hc : at_ I l i < at_ I l (i + 1)
          · have hc' : ¬ (at_ I l i ≥ at_ I l (i + 1)) := Int.not_le.2 hc
            simp only [hc, hc', decide_true, decide_false, if_true, Bool.false_eq_true, if_false]
          · have hc' : (at_ I l i ≥ at_ I l (i + 1)) := Int.not_lt.1 hc
            simp only [hc, hc', decide_true, decide_false, if_true, Bool.false_eq_true, if_false])
        (by
          intro back
          unfold impl_increasing_l0_r
          have e : l.length - 1 + 1 = l.length := by omega
          simp only [e, lt_not, Bool.false_eq_true, if_false]) l.length 0 (by omega) (by omega)
      simp only [Nat.zero_add, Int.natCast_one] at this
      simp only [this, Nat.sub_zero]
      have e : allB (fun i => decide (at_ I l i < at_ I l (i + 1))) (l.length - 1) 0 = risingB l := by
        apply bool_eq_iff
        rw [allB_iff, risingB_iff]
        simp only [decide_eq_true_eq]
        constructor
        · intro h j h1 h2
          have := h (j - 1) (by omega) (by omega)
          rwa [Nat.sub_add_cancel h1] at this
        · intro h j h1 h2
          exact h (j + 1) (by omega) (by omega)
      simp only [e]
      cases risingB l <;> rfl
  · cases h
theorem allWithin_lim (d) (r) (h : G_allWithin d = some r) : ∃ N, F_impl_allWithin N d = some r := by
  obtain ⟨l, lo, hi, _⟩ := d
  unfold G_allWithin at h
  split at h
  · rename_i hl
    have hl : l.length ≤ lim := of_decide_eq_true hl
    have hmx := lim_max hl
    have h := Option.some.inj h
    subst h
    refine ⟨l.length + 1, ?_⟩
    unfold F_impl_allWithin
    have := loop_all (L := impl_allWithin_l0 (l.length + 1)) (r := impl_allWithin_l0_r (l.length + 1)) (fun _ _ => rfl) (n := l.length) (mk := fun i => (lo, hi, l, (l.length : Int), (i : Int), ())) (p := fun i => inB lo hi (at_ I l i)) (o := .inl (false, ())) (f := .inr (.inl ()))
      (by
        intro back i hi'
        unfold impl_allWithin_l0_r
        simp only [lt_dec hi', if_true, idxIn_nat hi', Int.toNat_natCast, wrap_up hi' hmx, within_eq]
        cases hb : inB lo hi (at_ I l i) <;> rfl)
      (by intro back; unfold impl_allWithin_l0_r; simp only [lt_not, Bool.false_eq_true, if_false]) l.length 0 (by omega) (by omega)
    simp only [Int.natCast_zero] at this
    simp only [this, Nat.sub_zero, all_at (e := I) l (inB lo hi)]
    cases (l.all (inB lo hi)) <;> rfl
  · cases h
/-- What the walk answers before the first list is over. -/
def cmpW : List Int → List Int → Option Int
  | [], _ => none
  | _ :: _, [] => some 1
  | a :: l, b :: m => if a < b then some (-1) else if b < a then some 1 else cmpW l m
theorem cmpL_W : ∀ l m : List Int, cmpL l m = match cmpW l m with
    | some r => r
    | none => if l.length < m.length then -1 else 0 := by
  intro l
  induction l with
  | nil => intro m; cases m <;> simp [cmpL, cmpW]
  | cons a l ih =>
    intro m
    cases m with
    | nil => simp [cmpL, cmpW]
    | cons b m =>
      simp only [cmpL, cmpW]
      by_cases ha : a < b
      · simp [ha]
      · by_cases hb : b < a
        · simp [ha, hb]
        · simp only [ha, hb, if_false, ih m, List.length_cons, Nat.add_lt_add_iff_right]
theorem compare_l0 (N : Nat) (l m : List Int) (hl : l.length ≤ lim) (hm : m.length ≤ lim) : ∀ n i, l.length ≤ i + n → i ≤ l.length → i ≤ m.length → slices_Compare_Sint_int_l0 N (n + 1) (l, m, l, (l.length : Int), (i : Int), ()) = 
    match cmpW (l.drop i) (m.drop i) with
    | some r => some (.inl (r, ()))
    | none => some (.inr (.inl (l, m, ()))) := by
  have hmx := lim_max hl
  intro n
  induction n with
  | zero =>
    intro i h1 h2 h3
    have e : i = l.length := by omega
    subst e
    rw [List.drop_of_length_le (Nat.le_refl l.length)]
    simp [slices_Compare_Sint_int_l0, slices_Compare_Sint_int_l0_r, cmpW]
  | succ n ih =>
    intro i h1 h2 h3
    by_cases hi : i < l.length
    · show slices_Compare_Sint_int_l0_r N (slices_Compare_Sint_int_l0 N (n + 1)) (l, m, l, (l.length : Int), (i : Int), ()) = _
      unfold slices_Compare_Sint_int_l0_r
      simp only [lt_dec hi, if_true, idxIn_nat hi, Int.toNat_natCast, wrap_up hi hmx]
      rw [List.drop_eq_getElem_cons hi]
      by_cases hi' : i < m.length
      · have hge : decide ((i : Int) ≥ (m.length : Int)) = false := by simp; omega
        rw [List.drop_eq_getElem_cons hi']
        simp only [hge, Bool.false_eq_true, if_false, idxIn_nat hi', if_true, cmpI_eq, at_get (e := I) hi, at_get (e := I) (l := m) hi', List.get_eq_getElem, cmpW]
        by_cases ha : l[i] < m[i]
        · simp [ha]
        · by_cases hb : m[i] < l[i]
          · simp [ha, hb]
          · simp only [ha, hb, if_false, bne_self_eq_false, Bool.false_eq_true]
            exact ih (i + 1) (by omega) (by omega) (by omega)
      · have hge : decide ((i : Int) ≥ (m.length : Int)) = true := by simp; omega
        rw [List.drop_of_length_le (Nat.le_of_not_lt hi')]
        simp only [hge, if_true, cmpW]
    · have e : i = l.length := by omega
      subst e
      rw [List.drop_of_length_le (Nat.le_refl l.length)]
      simp [slices_Compare_Sint_int_l0, slices_Compare_Sint_int_l0_r, cmpW]
theorem compare_lim (d) (r) (h : G_compare d = some r) : ∃ N, F_slices_Compare_Sint_int N d = some r := by
  obtain ⟨l, m, _⟩ := d
  unfold G_compare at h
  split at h
  · rename_i hl
    simp only [Bool.and_eq_true] at hl
    have hm : m.length ≤ lim := of_decide_eq_true hl.2
    have hl : l.length ≤ lim := of_decide_eq_true hl.1
    have h := Option.some.inj h
    subst h
    refine ⟨l.length + 1, ?_⟩
    unfold F_slices_Compare_Sint_int
    have := compare_l0 (l.length + 1) l m hl hm l.length 0 (by omega) (by omega) (by omega)
    simp only [Int.natCast_zero, List.drop_zero] at this
    simp only [this, cmpL_W]
    cases cmpW l m with
    | some r => rfl
    | none =>
      by_cases hlt : l.length < m.length
      · have : decide ((l.length : Int) < (m.length : Int)) = true := by simp; omega
        simp only [Option.bind_some, this, if_true, hlt]
      · have : decide ((l.length : Int) < (m.length : Int)) = false := by simp; omega
        simp only [Option.bind_some, this, Bool.false_eq_true, if_false, hlt]
  · cases h
theorem graph_allB (n : Int) (l : List E) : allB (fun i => edgeB n (at_ K_Piiq l i) && (!decide (0 < i) || lessE (at_ K_Piiq l (i - 1)) (at_ K_Piiq l i))) l.length 0 = (l.all (edgeB n) && risingE l) := by
  rw [← all_at (e := K_Piiq) l (edgeB n)]
  apply bool_eq_iff
  rw [Bool.and_eq_true, allB_iff, allB_iff, risingE_iff]
  simp only [Bool.and_eq_true, Bool.or_eq_true, Bool.not_eq_true', decide_eq_false_iff_not]
  constructor
  · intro h
    exact ⟨fun j h1 h2 => (h j h1 h2).1, fun j h1 h2 => ((h j (by omega) (by omega)).2).resolve_left (by omega)⟩
  · rintro ⟨h1, h2⟩ j h3 h4
    refine ⟨h1 j h3 h4, ?_⟩
    by_cases h0 : 0 < j
    · exact .inr (h2 j h0 (by omega))
    · exact .inl h0
theorem cmp2 (a b : E) : decide (cmpL [a.1, a.2.1] [b.1, b.2.1] ≥ 0) = !lessE a b := by
  obtain ⟨a1, a2, _⟩ := a
  obtain ⟨b1, b2, _⟩ := b
  simp only [cmpL, lessE]
  by_cases h1 : a1 < b1
  · simp [h1]
  · by_cases h2 : b1 < a1
    · have : ¬ a1 = b1 := by omega
      simp [h1, h2, this]
    · have e : a1 = b1 := by omega
      subst e
      by_cases h3 : a2 < b2
      · simp [h3]
      · by_cases h4 : b2 < a2 <;> simp [h3, h4]
theorem edge_eq (n a b : Int) : (inB 0 (n - 1) a && inB 0 (n - 1) b && decide (a < b)) = (decide (0 ≤ a) && decide (a < b) && decide (b < n)) := by
  apply bool_eq_iff
  simp only [inB, Bool.and_eq_true, decide_eq_true_eq]
  omega
theorem okL2 (a b : Int) : okL [a, b] = true := decide_eq_true (show 2 ≤ lim by unfold lim; omega)
theorem IsGraph_lim (d) (r) (h : G_graph d = some r) : ∃ N, F_impl_IsGraph N d = some r := by
  obtain ⟨⟨n, l, u⟩, _⟩ := d
  unfold G_graph at h
  split at h
  · rename_i hl
    have hl : l.length ≤ lim := of_decide_eq_true hl
    have hmx := lim_max hl
    have h := Option.some.inj h
    subst h
    refine ⟨l.length + 1, ?_⟩
    unfold F_impl_IsGraph
    simp only [within_eq, graphB]
    cases hn : inB 0 8 n with
    | false =>
      simp only [inB] at hn
      simp only [Bool.not_false, if_true, hn, Bool.false_and]
    | true =>
      have hn' := hn
      simp only [inB] at hn'
      simp only [Bool.not_true, Bool.false_eq_true, if_false, hn', Bool.true_and]
      have := loop_all (L := impl_IsGraph_l0 (l.length + 1)) (r := impl_IsGraph_l0_r (l.length + 1)) (fun _ _ => rfl) (n := l.length) (mk := fun i => ((n, l, u), l, (l.length : Int), (i : Int), ())) (p := fun i => edgeB n (at_ K_Piiq l i) && (!decide (0 < i) || lessE (at_ K_Piiq l (i - 1)) (at_ K_Piiq l i))) (o := .inl (false, ())) (f := .inr (.inl ()))
        (by
          intro back i hi
          unfold impl_IsGraph_l0_r
          simp only [lt_dec hi, if_true, idxIn_nat hi, Int.toNat_natCast, wrap_up hi hmx, pos_dec]
          by_cases c1 : (at_ K_Piiq l i).1 < 0
          · have c1' : ¬ (0 ≤ (at_ K_Piiq l i).1) := Int.not_le.2 c1
            simp only [c1, decide_true, if_true, edgeB, c1', decide_false, Bool.false_and, Bool.false_eq_true, if_false]
          · have c1' : (0 ≤ (at_ K_Piiq l i).1) := Int.not_lt.1 c1
            by_cases c2 : (at_ K_Piiq l i).1 < (at_ K_Piiq l i).2.1
            · have c2' : ¬ ((at_ K_Piiq l i).1 ≥ (at_ K_Piiq l i).2.1) := Int.not_le.2 c2
              by_cases c3 : (at_ K_Piiq l i).2.1 < n
              · have c3' : ¬ ((at_ K_Piiq l i).2.1 ≥ n) := Int.not_le.2 c3
                by_cases h0 : 0 < i
                · have h1 : i - 1 < l.length := by omega
                  simp only [c1, c1', c2, c2', c3, c3', edgeB, decide_true, decide_false, if_true, if_false, Bool.false_eq_true, Bool.true_and, h0, wrap_down h0 (show i ≤ maxLen by omega), idxIn_nat h1, Int.toNat_natCast, Bool.not_true, Bool.false_or, G_compare, okL2, Option.bind_some, cmp2]
                  cases lessE (at_ K_Piiq l (i - 1)) (at_ K_Piiq l i) <;> rfl
                · simp only [c1, c1', c2, c2', c3, c3', edgeB, decide_true, decide_false, if_true, if_false, Bool.false_eq_true, Bool.true_and, h0, Bool.not_false, Bool.true_or]
              · have c3' : ((at_ K_Piiq l i).2.1 ≥ n) := Int.not_lt.1 c3
                simp only [c1, c1', c2, c2', c3, c3', edgeB, decide_true, decide_false, if_true, if_false, Bool.false_eq_true, Bool.and_false, Bool.false_and]
            · have c2' : ((at_ K_Piiq l i).1 ≥ (at_ K_Piiq l i).2.1) := Int.not_lt.1 c2
              simp only [c1, c1', c2, c2', edgeB, decide_true, decide_false, if_true, if_false, Bool.false_eq_true, Bool.and_false, Bool.false_and])
        (by intro back; unfold impl_IsGraph_l0_r; simp only [lt_not, Bool.false_eq_true, if_false]) l.length 0 (by omega) (by omega)
      simp only [Int.natCast_zero] at this
      simp only [this, Nat.sub_zero, graph_allB]
      cases (l.all (edgeB n) && risingE l) <;> rfl
  · cases h
theorem l2Good_lim (d) (r) (h : G_graph d = some r) : ∃ N, F_spec_l2Good N d = some r := by
  obtain ⟨⟨n, l, u⟩, _⟩ := d
  unfold G_graph at h
  split at h
  · rename_i hl
    have hl : l.length ≤ lim := of_decide_eq_true hl
    have hmx := lim_max hl
    have h := Option.some.inj h
    subst h
    refine ⟨l.length + 1, ?_⟩
    unfold F_spec_l2Good
    have := loop_all (L := spec_l2Good_l0 (l.length + 1)) (r := spec_l2Good_l0_r (l.length + 1)) (fun _ _ => rfl) (n := l.length) (mk := fun i => ((n, l, u), (i : Int), ())) (p := fun i => (inB 0 (IntKind.wrap .i64 (n - 1)) (at_ K_Piiq l i).1 && inB 0 (IntKind.wrap .i64 (n - 1)) (at_ K_Piiq l i).2.1 && decide ((at_ K_Piiq l i).1 < (at_ K_Piiq l i).2.1)) && (!decide (0 < i) || lessE (at_ K_Piiq l (i - 1)) (at_ K_Piiq l i))) (o := .inl (false, ())) (f := .inr (.inl ((n, l, u), ())))
        (by
          intro back i hi
          unfold spec_l2Good_l0_r
          simp only [lt_dec hi, if_true, idxIn_nat hi, Int.toNat_natCast, wrap_up hi hmx, pos_dec, l1In_eq, l2Before_eq]
          cases c1 : inB 0 (IntKind.wrap .i64 (n - 1)) (at_ K_Piiq l i).1 with
          | false => rfl
          | true =>
            cases c2 : inB 0 (IntKind.wrap .i64 (n - 1)) (at_ K_Piiq l i).2.1 with
            | false => rfl
            | true =>
              by_cases c3 : (at_ K_Piiq l i).1 < (at_ K_Piiq l i).2.1
              · have c3' : ¬ ((at_ K_Piiq l i).1 ≥ (at_ K_Piiq l i).2.1) := Int.not_le.2 c3
                by_cases h0 : 0 < i
                · have h1 : i - 1 < l.length := by omega
                  simp only [c3, c3', decide_true, decide_false, if_true, if_false, Bool.false_eq_true, Bool.true_and, h0, wrap_down h0 (show i ≤ maxLen by omega), idxIn_nat h1, Int.toNat_natCast, Bool.not_true, Bool.false_or]
                  cases lessE (at_ K_Piiq l (i - 1)) (at_ K_Piiq l i) <;> rfl
                · simp only [c3, c3', decide_true, decide_false, if_true, if_false, Bool.false_eq_true, Bool.true_and, h0, Bool.not_false, Bool.true_or, Bool.not_true]
              · have c3' : ((at_ K_Piiq l i).1 ≥ (at_ K_Piiq l i).2.1) := Int.not_lt.1 c3
                simp only [c3, c3', decide_true, decide_false, if_true, if_false, Bool.false_eq_true, Bool.true_and, Bool.false_and, Bool.not_true])
        (by intro back; unfold spec_l2Good_l0_r; simp only [lt_not, Bool.false_eq_true, if_false]) l.length 0 (by omega) (by omega)
    simp only [Int.natCast_zero] at this
    simp only [this, Nat.sub_zero, graphB]
    cases hn : inB 0 8 n with
    | false =>
      have hn' := hn
      simp only [inB] at hn'
      simp only [hn', Bool.false_and]
      split <;> simp [l1In_eq, hn]
    | true =>
      have hn' := hn
      simp only [inB] at hn'
      simp only [hn', Bool.true_and]
      simp only [Bool.and_eq_true, decide_eq_true_eq] at hn'
      have hw : IntKind.wrap .i64 (n - 1) = n - 1 := wrap_in _ (by omega) (by omega)
      have hp : (fun i => (inB 0 (IntKind.wrap .i64 (n - 1)) (at_ K_Piiq l i).1 && inB 0 (IntKind.wrap .i64 (n - 1)) (at_ K_Piiq l i).2.1 && decide ((at_ K_Piiq l i).1 < (at_ K_Piiq l i).2.1)) && (!decide (0 < i) || lessE (at_ K_Piiq l (i - 1)) (at_ K_Piiq l i))) = (fun i => edgeB n (at_ K_Piiq l i) && (!decide (0 < i) || lessE (at_ K_Piiq l (i - 1)) (at_ K_Piiq l i))) := by
        funext i
        congr 1
        rw [hw]
        exact edge_eq n _ _
      simp only [hp, graph_allB]
      cases (l.all (edgeB n) && risingE l) <;> simp [l1In_eq, hn]
  · cases h
end Go.V.W
set_option linter.unusedVariables false
set_option linter.unusedSimpArgs false
namespace Go.V.W
open Go.Proofs
theorem sz_wrap {a : Int} {n : Nat} (h0 : 0 ≤ a) (h1 : a ≤ 1048576) (hn : n ≤ maxLen) : IntKind.wrap .i64 (a - (n : Int)) = a - (n : Int) := by
  unfold maxLen at hn
  exact Go.IntWalk.i64_in _ (by omega)
theorem szStep_le {a : Int} {n : Nat} (h : ¬ szStep a n < 0) : n ≤ a ∧ szStep a n = a - n := by
  unfold szStep at h ⊢
  split at h
  · omega
  · exact ⟨by omega, by rw [if_neg (by assumption)]⟩
theorem szStep_neg {a : Int} {n : Nat} (h : szStep a n < 0) : szStep a n = -1 := by
  unfold szStep at h ⊢
  split at h
  · rw [if_pos (by assumption)]
  · omega
theorem szA2S_eq (l : List E) (a : Int) (u : Unit) (h0 : 0 ≤ a) (h1 : a ≤ 1048576) (hl : l.length ≤ maxLen) : g_laws_szIntA2S (l, a, u) = (szStep a l.length, ()) := by
  unfold g_laws_szIntA2S szStep
  simp only [sz_wrap h0 h1 hl]
  by_cases h : a - (l.length : Int) < 0 <;> simp only [h, decide_true, decide_false, if_true, if_false, Bool.false_eq_true]
theorem szS_eq (l : List Int) (a : Int) (u : Unit) (h0 : 0 ≤ a) (h1 : a ≤ 1048576) (hl : l.length ≤ maxLen) : g_laws_szIntS (l, a, u) = (szStep a l.length, ()) := by
  unfold g_laws_szIntS szStep
  simp only [sz_wrap h0 h1 hl]
  by_cases h : a - (l.length : Int) < 0 <;> simp only [h, decide_true, decide_false, if_true, if_false, Bool.false_eq_true]
theorem szGraph_eq (n : Int) (l : List E) (v : Unit) (a : Int) (u : Unit) (h0 : 0 ≤ a) (h1 : a ≤ 1048576) (hl : l.length ≤ maxLen) : g_laws_szGraph ((n, l, v), a, u) = (szStep a l.length, ()) := by
  unfold g_laws_szGraph
  simp only [szA2S_eq l a () h0 h1 hl]
  by_cases h : szStep a l.length < 0
  · simp [szStep_neg h]
  · simp only [h, decide_false, if_false, Bool.false_eq_true]
theorem okL_of {α : Type} {l : List α} (h : l.length ≤ 1048576) : okL l = true := decide_eq_true (by unfold lim; omega)
theorem toGraph_eq (n : Int) (l : List E) (u : Unit) (v : Unit) (hl : okL l = true) : F_laws_toGraph 0 ((n, l, u), v) = some ((n, l, u), v) := by
  unfold F_laws_toGraph G_toIntA2S
  simp only [hl, if_true, Option.bind_some]
theorem eqGraph_self (n : Int) (l : List E) (u v w : Unit) (hl : okL l = true) : F_laws_eqGraph 0 ((n, l, u), (n, l, v), w) = some (true, ()) := by
  unfold F_laws_eqGraph G_eqIntA2S
  simp only [bne_self_eq_false, Bool.false_eq_true, if_false, hl, if_true, decide_true, Option.bind_some, Bool.not_true]
theorem graphB_n {n : Int} {l : List E} {u : Unit} (h : graphB (n, l, u) = true) : 0 ≤ n ∧ n ≤ 8 := by
  unfold graphB at h
  simp only [Bool.and_eq_true, decide_eq_true_eq] at h
  exact ⟨h.1.1.1, h.1.1.2⟩
end Go.V.W
set_option linter.unusedVariables false
set_option linter.unusedSimpArgs false
namespace Go.V.W
open Go.Proofs
theorem okL_nil {α : Type} : okL ([] : List α) = true := decide_eq_true (by simp)
theorem okL_lim {α : Type} {l : List α} (h : okL l = true) : l.length ≤ lim := of_decide_eq_true h
end Go.V.W
set_option linter.unusedVariables false
set_option linter.unusedSimpArgs false
namespace Go.V.W
open Go.Proofs
theorem all_at_of {e : Kd} {l : List e.den} {q : e.den → Bool} (h : l.all q = true) {i : Nat} (hi : i < l.length) : q (at_ e l i) = true := by
  rw [at_get hi]
  exact List.all_eq_true.1 h _ (List.get_mem l ⟨i, hi⟩)
theorem loop_idx {H O : Type} {L : Nat → H → Option O} {r : (H → Option O) → H → Option O} (hL : ∀ k d, L (k + 1) d = r (L k) d) {e : Kd} (l : List e.den) {mk : Nat → H} {q : e.den → Bool} {o : Nat → O} {f : O}
    (hr : ∀ back i, i < l.length → r back (mk i) = if q (at_ e l i) = true then some (o i) else back (mk (i + 1))) (hf : ∀ back, r back (mk l.length) = some f) :
    ∀ k i, i ≤ l.length → l.length ≤ i + k → L (k + 1) (mk i) = some (match idxN q (l.drop i) i with | some j => o j | none => f) := by
  intro k
  induction k with
  | zero =>
    intro i h1 h2
    have e : i = l.length := by omega
    subst e
    rw [hL, hf, List.drop_of_length_le (Nat.le_refl _)]
    rfl
  | succ k ih =>
    intro i h1 h2
    by_cases h : i < l.length
    · rw [hL, hr _ i h, List.drop_eq_getElem_cons h]
      simp only [idxN]
      have e : at_ e l i = l[i] := at_get h
      rw [e]
      by_cases hq : q l[i] = true
      · simp only [hq, if_true]
      · simp only [hq, if_false]
        exact ih (i + 1) (by omega) (by omega)
    · have e : i = l.length := by omega
      subst e
      rw [hL, hf, List.drop_of_length_le (Nat.le_refl _)]
      rfl
theorem idxI_ge {α : Type} (q : α → Bool) : ∀ (l : List α) (i : Nat), decide (idxI (idxN q l i) ≥ 0) = l.any q := by
  intro l
  induction l with
  | nil => intro i; rfl
  | cons x l ih =>
    intro i
    simp only [idxN, List.any_cons]
    by_cases h : q x = true
    · simp [h, idxI]
    · have h' : q x = false := by simpa using h
      simp only [h, if_false, h', Bool.false_or, ih]
      exact ih (i + 1)
theorem szIntSS_l0 (N : Nat) (l : List (List Int)) (hl : l.length ≤ maxLen) (ha : l.all (fun x => okMx x.length) = true) : ∀ n i (a : Int), l.length ≤ i + n → i ≤ l.length → 0 ≤ a → a ≤ 1048576 →
    laws_szIntSS_l0 N (n + 1) (l, a, (i : Int), ()) = some (.inl (szFold a (l.drop i), ())) ∨ laws_szIntSS_l0 N (n + 1) (l, a, (i : Int), ()) = some (.inr (.inl (szFold a (l.drop i), ()))) := by
  intro n
  induction n with
  | zero =>
    intro i a h1 h2 h3 h4
    have e : i = l.length := by omega
    subst e
    right
    rw [List.drop_of_length_le (Nat.le_refl _)]
    simp [laws_szIntSS_l0, laws_szIntSS_l0_r, szFold]
  | succ n ih =>
    intro i a h1 h2 h3 h4
    by_cases hi : i < l.length
    · have hx : (at_ K_Si l i).length ≤ maxLen := of_decide_eq_true (all_at_of (e := K_Si) ha hi)
      have hstep : laws_szIntSS_l0 N (n + 1 + 1) (l, a, (i : Int), ()) = if szStep a (at_ K_Si l i).length < 0 then some (.inl (-1, ())) else laws_szIntSS_l0 N (n + 1) (l, szStep a (at_ K_Si l i).length, ((i + 1 : Nat) : Int), ()) := by
        show laws_szIntSS_l0_r N (laws_szIntSS_l0 N (n + 1)) (l, a, (i : Int), ()) = _
        unfold laws_szIntSS_l0_r
        simp only [lt_dec hi, if_true, idxIn_nat hi, Int.toNat_natCast, wrap_up hi hl, szS_eq (at_ K_Si l i) a () h3 h4 hx]
        by_cases h : szStep a (at_ K_Si l i).length < 0
        · simp only [h, decide_true, if_true]
        · simp only [h, decide_false, if_false, Bool.false_eq_true]
      rw [hstep, List.drop_eq_getElem_cons hi]
      have e : at_ K_Si l i = l[i] := at_get (e := K_Si) hi
      rw [e]
      simp only [szFold]
      by_cases h : szStep a l[i].length < 0
      · left; simp only [h, if_true]
      · simp only [h, if_false]
        have := szStep_le h
        exact ih (i + 1) _ (by omega) (by omega) (by omega) (by omega)
    · have e : i = l.length := by omega
      subst e
      right
      rw [List.drop_of_length_le (Nat.le_refl _)]
      simp [laws_szIntSS_l0, laws_szIntSS_l0_r, szFold]
theorem szIntSS_lim (d) (r) (h : G_szIntSS d = some r) : ∃ N, F_laws_szIntSS N d = some r := by
  obtain ⟨l, a, _⟩ := d
  unfold G_szIntSS at h
  split at h
  · rename_i hc
    simp only [Bool.and_eq_true, decide_eq_true_eq] at hc
    obtain ⟨⟨⟨h1, h2⟩, h3⟩, h4⟩ := hc
    have hl : l.length ≤ maxLen := of_decide_eq_true h1
    have h := Option.some.inj h
    subst h
    refine ⟨l.length + 1, ?_⟩
    unfold F_laws_szIntSS
    simp only [sz_wrap h3 h4 hl]
    by_cases c : szStep a l.length < 0
    · have : a - (l.length : Int) < 0 := by
        unfold szStep at c
        split at c
        · assumption
        · assumption
      simp only [this, c, decide_true, if_true]
    · have c2 := szStep_le c
      have : ¬ a - (l.length : Int) < 0 := by omega
      simp only [this, c, decide_false, if_false, Bool.false_eq_true]
      have := szIntSS_l0 (l.length + 1) l hl h2 l.length 0 (a - (l.length : Int)) (by omega) (by omega) (by omega) (by omega)
      simp only [Int.natCast_zero, List.drop_zero] at this
      rw [c2.2]
      rcases this with this | this <;> simp only [this, Option.bind_some]
  · cases h
theorem szFold_le : ∀ (l : List (List Int)) (a : Int), 0 ≤ a → a ≤ 1048576 → ¬ szFold a l < 0 → l.all (fun x => decide (x.length ≤ 1048576)) = true := by
  intro l
  induction l with
  | nil => intro a _ _ _; rfl
  | cons x l ih =>
    intro a h0 h1 h
    simp only [szFold] at h
    by_cases c : szStep a x.length < 0
    · simp only [c, if_true] at h; omega
    · simp only [c, if_false] at h
      have := szStep_le c
      simp only [List.all_cons, Bool.and_eq_true, decide_eq_true_eq]
      exact ⟨by omega, ih _ (by omega) (by omega) h⟩
theorem okLL_of {l : List (List Int)} (h : okLL l = true) : okL l = true ∧ l.all okL = true := by
  unfold okLL at h
  simpa only [Bool.and_eq_true] using h
theorem toIntSS_l0 (N : Nat) (l : List (List Int)) (hl : l.length ≤ lim) (ha : l.all okL = true) : ∀ k, l.length ≤ k → laws_toIntSS_l0 N (k + 1) (l, List.replicate l.length ([] : List Int), (0 : Int), ()) = some (.inl (l, ())) := by
  intro k hk
  have hmx := lim_max hl
  have key : ∀ n i (m : List (List Int)), l.length ≤ i + n → i ≤ l.length → m.length = l.length → m.take i = l.take i → laws_toIntSS_l0 N (n + 1) (l, m, (i : Int), ()) = some (.inl (l, ())) := by
    intro n
    induction n with
    | zero =>
      intro i m h1 h2 h3 h4
      have e : i = l.length := by omega
      subst e
      rw [List.take_of_length_le (by omega), List.take_of_length_le (by omega)] at h4
      subst h4
      simp [laws_toIntSS_l0, laws_toIntSS_l0_r]
    | succ n ih =>
      intro i m h1 h2 h3 h4
      by_cases hi : i < l.length
      · show laws_toIntSS_l0_r N (laws_toIntSS_l0 N (n + 1)) (l, m, (i : Int), ()) = _
        unfold laws_toIntSS_l0_r
        have hx : okL (at_ K_Si l i) = true := all_at_of (e := K_Si) ha hi
        simp only [lt_dec hi, if_true, idxIn_nat hi, idxIn_nat (show i < m.length by omega), Int.toNat_natCast, wrap_up hi hmx, G_toIntS, hx, Option.bind_some]
        refine ih (i + 1) _ (by omega) (by omega) (by simp [h3]) ?_
        exact set_copy l m i _ hi (by rw [at_get (e := K_Si) hi]; rfl) h3 h4
      · have e : i = l.length := by omega
        subst e
        rw [List.take_of_length_le (by omega), List.take_of_length_le (by omega)] at h4
        subst h4
        simp [laws_toIntSS_l0, laws_toIntSS_l0_r]
  simpa using key k 0 (List.replicate l.length ([] : List Int)) (by omega) (by omega) (by simp) (by simp)
theorem toIntSS_lim (d) (r) (h : G_toIntSS d = some r) : ∃ N, F_laws_toIntSS N d = some r := by
  obtain ⟨l, _⟩ := d
  unfold G_toIntSS at h
  split at h
  · rename_i hl
    obtain ⟨h1, h2⟩ := okLL_of hl
    have hl : l.length ≤ lim := okL_lim h1
    have h := Option.some.inj h
    subst h
    refine ⟨l.length + 1, ?_⟩
    unfold F_laws_toIntSS
    have hc : (decide (0 ≤ (List.length l : Int)) && decide ((List.length l : Int) ≤ (List.length l : Int)) && decide ((List.length l : Int) ≤ (lim : Int))) = true := by simp; omega
    have := toIntSS_l0 (l.length + 1) l hl h2 l.length (Nat.le_refl _)
    simp only [hc, if_true, Int.toNat_natCast]
    rw [this]
    rfl
  · cases h
theorem eqIntSS_lim (d) (r) (h : G_eqIntSS d = some r) : ∃ N, F_laws_eqIntSS N d = some r := by
  obtain ⟨l, m, _⟩ := d
  unfold G_eqIntSS at h
  split at h
  · rename_i hll
    obtain ⟨hl1, ha⟩ := okLL_of hll
    have hl : l.length ≤ lim := okL_lim hl1
    have hmx := lim_max hl
    have h := Option.some.inj h
    subst h
    refine ⟨l.length + 1, ?_⟩
    unfold F_laws_eqIntSS
    by_cases hm : l.length = m.length
    · have := loop_all (L := laws_eqIntSS_l0 (l.length + 1)) (r := laws_eqIntSS_l0_r (l.length + 1)) (fun _ _ => rfl) (n := l.length) (mk := fun i => (l, m, (i : Int), ())) (p := fun i => decide (at_ K_Si l i = at_ K_Si m i)) (o := .inl (false, ())) (f := .inr (.inl ()))
        (by
          intro back i hi
          have hi' : i < m.length := by omega
          have hx : okL (at_ K_Si l i) = true := all_at_of (e := K_Si) ha hi
          unfold laws_eqIntSS_l0_r
          simp only [lt_dec hi, if_true, idxIn_nat hi, idxIn_nat hi', Int.toNat_natCast, wrap_up hi hmx, G_eqIntS, hx, Option.bind_some]
          by_cases he : at_ K_Si l i = at_ K_Si m i
          · simp only [he, decide_true, Bool.not_true, Bool.false_eq_true, if_false, if_true]
          · simp only [he, decide_false, Bool.not_false, Bool.false_eq_true, if_false, if_true])
        (by intro back; unfold laws_eqIntSS_l0_r; simp only [lt_not, Bool.false_eq_true, if_false]) l.length 0 (by omega) (by omega)
      simp only [Int.natCast_zero] at this
      have hne : ((List.length l : Int) != (List.length m : Int)) = false := by simp [hm]
      simp only [hne, Bool.false_eq_true, if_false, this, Nat.sub_zero]
      by_cases he : l = m
      · have : allB (fun i => decide (at_ K_Si l i = at_ K_Si m i)) l.length 0 = true := allB_iff.2 (fun j _ _ => by simp [he])
        simp only [this, if_true, Option.bind_some]
        simp only [he, decide_true]
      · have : allB (fun i => decide (at_ K_Si l i = at_ K_Si m i)) l.length 0 = false := by
          apply Bool.eq_false_iff.2
          intro ha
          apply he
          rw [allB_iff] at ha
          apply List.ext_getElem hm
          intro i h1 h2
          have := of_decide_eq_true (ha i (by omega) (by omega))
          rw [at_get (e := K_Si) h1, at_get (e := K_Si) h2] at this
          exact this
        simp only [this, he, Bool.false_eq_true, if_false, Option.bind_some, decide_false]
    · have hne : ((List.length l : Int) != (List.length m : Int)) = true := by simp; omega
      have he : ¬ l = m := fun e => hm (by rw [e])
      simp [hne, he]
  · cases h
theorem index84_lim (d) (r) (h : G_index84 d = some r) : ∃ N, F_slices_IndexFunc_SSint_Sint_by_impl_IsTimetable_1 N d = some r := by
  obtain ⟨l, ⟨u, t, v⟩, w⟩ := d
  unfold G_index84 at h
  split at h
  · rename_i hll
    obtain ⟨hl1, ha⟩ := okLL_of hll
    have hl : l.length ≤ lim := okL_lim hl1
    have hmx := lim_max hl
    have h := Option.some.inj h
    subst h
    refine ⟨l.length + 1, ?_⟩
    unfold F_slices_IndexFunc_SSint_Sint_by_impl_IsTimetable_1
    have := loop_idx (L := slices_IndexFunc_SSint_Sint_by_impl_IsTimetable_1_l0 (l.length + 1)) (r := slices_IndexFunc_SSint_Sint_by_impl_IsTimetable_1_l0_r (l.length + 1)) (fun _ _ => rfl) (e := K_Si) l (mk := fun i => (l, (u, t, v), (l.length : Int), (i : Int), ())) (q := badT t) (o := fun i => .inl ((i : Int), ())) (f := .inr (.inl ()))
      (by
        intro back i hi
        have hx : okL (at_ K_Si l i) = true := all_at_of (e := K_Si) ha hi
        unfold slices_IndexFunc_SSint_Sint_by_impl_IsTimetable_1_l0_r FV_impl_IsTimetable_1 F_impl_IsTimetable_1
        simp only [lt_dec hi, if_true, idxIn_nat hi, Int.toNat_natCast, wrap_up hi hmx, G_increasing, G_allWithin, hx, Option.bind_some, badT]
        rcases Bool.eq_false_or_eq_true (risingB (at_ K_Si l i)) with hr | hr <;> rcases Bool.eq_false_or_eq_true (List.all (at_ K_Si l i) (inB 0 (IntKind.wrap .i64 (t.2.1 - 1)))) with hq | hq <;> simp [hr, hq])
      (by intro back; unfold slices_IndexFunc_SSint_Sint_by_impl_IsTimetable_1_l0_r; simp only [lt_not, Bool.false_eq_true, if_false]) l.length 0 (by omega) (by omega)
    simp only [Int.natCast_zero, List.drop_zero] at this
    simp only [this, Option.bind_some]
    cases idxN (badT t) l 0 <;> rfl
  · cases h
theorem contains84 (l : List (List Int)) (u : Unit) (t : Tt) (v w : Unit) (h : okLL l = true) : F_slices_ContainsFunc_SSint_Sint_by_impl_IsTimetable_1 0 (l, (u, t, v), w) = some (l.any (badT t), ()) := by
  unfold F_slices_ContainsFunc_SSint_Sint_by_impl_IsTimetable_1
  have e : F_slices_IndexFunc_SSint_Sint_by_impl_IsTimetable_1 = F_slices_IndexFunc_SSint_Sint_by_impl_IsTimetable_1 := rfl
  simp only [G_index84, h, if_true, Option.bind_some, idxI_ge]
theorem l4Field_eq (g : Gr) (u : Unit) (h : okL g.2.1 = true) : F_spec_l4Field 0 (g, 1, u) = some (graphB g && decide (g.1 > 0), ()) := by
  unfold F_spec_l4Field G_graph
  simp only [h, if_true, Option.bind_some, l1In_eq]
  cases graphB g with
  | false => rfl
  | true =>
    by_cases c : g.1 > 0
    · simp only [c, decide_true, if_true]
      rfl
    · simp only [c, decide_false, if_true, if_false, Bool.false_eq_true, Bool.and_false]
theorem l11Good_lim (d) (r) (h : G_l11Good d = some r) : ∃ N, F_spec_l11Good N d = some r := by
  obtain ⟨⟨g, p, l, u⟩, w⟩ := d
  unfold G_l11Good at h
  split at h
  · rename_i hc
    simp only [okT, Bool.and_eq_true] at hc
    obtain ⟨hg, hll⟩ := hc
    obtain ⟨hl1, ha⟩ := okLL_of hll
    have hl : l.length ≤ lim := okL_lim hl1
    have hmx := lim_max hl
    have h := Option.some.inj h
    subst h
    refine ⟨l.length + 1, ?_⟩
    unfold F_spec_l11Good
    have := loop_all (L := spec_l11Good_l0 (l.length + 1)) (r := spec_l11Good_l0_r (l.length + 1)) (fun _ _ => rfl) (n := l.length) (mk := fun i => ((g, p, l, u), (i : Int), ())) (p := fun i => !badT (g, p, l, u) (at_ K_Si l i)) (o := .inl (false, ())) (f := .inr (.inl ((g, p, l, u), ())))
      (by
        intro back i hi
        have hx : okL (at_ K_Si l i) = true := all_at_of (e := K_Si) ha hi
        unfold spec_l11Good_l0_r
        simp only [lt_dec hi, if_true, idxIn_nat hi, Int.toNat_natCast, wrap_up hi hmx, G_l1Rising, hx, Option.bind_some, badT]
        rcases Bool.eq_false_or_eq_true (risingB (at_ K_Si l i)) with hr | hr <;> rcases Bool.eq_false_or_eq_true (List.all (at_ K_Si l i) (inB 0 (IntKind.wrap .i64 (p - 1)))) with hq | hq <;> simp [hr, hq])
      (by intro back; unfold spec_l11Good_l0_r; simp only [lt_not, Bool.false_eq_true, if_false]) l.length 0 (by omega) (by omega)
    simp only [Int.natCast_zero] at this
    have e : allB (fun i => !badT (g, p, l, u) (at_ K_Si l i)) l.length 0 = !l.any (badT (g, p, l, u)) := by
      rw [all_at (e := K_Si) l (fun x => !badT (g, p, l, u) x)]
      simp only [List.all_eq_not_any_not, Bool.not_not]
    simp only [this, Nat.sub_zero, e, timeB]
    cases l.any (badT (g, p, l, u)) with
    | true => simp
    | false =>
      simp only [Bool.not_false, if_true, Option.bind_some, l4Field_eq g _ hg, l1In_eq, Bool.and_true]
      cases (graphB g && decide (g.1 > 0)) with
      | false => rfl
      | true =>
        cases inB 1 4 p with
        | false => rfl
        | true =>
          simp only [if_true, Bool.true_and, Option.some.injEq, Prod.mk.injEq, and_true]
          by_cases hc : l.length = g.2.1.length
          · simp [hc]
          · have : ¬ (l.length : Int) = (g.2.1.length : Int) := by omega
            simp [hc, this]
  · cases h
theorem implT (t : Tt) (w : Unit) (h : okT t = true) : F_impl_IsTimetable 0 (t, w) = some (timeB t, ()) := by
  obtain ⟨⟨n, es, v⟩, p, l, u⟩ := t
  simp only [okT, Bool.and_eq_true] at h
  unfold F_impl_IsTimetable G_graph
  simp only [h.1, if_true, Option.bind_some, within_eq, timeB]
  cases hg : graphB (n, es, v) with
  | false => rfl
  | true =>
    have := graphB_n hg
    by_cases c : n = 0
    · have c' : ¬ n > 0 := by omega
      have c2 : (n == (0 : Int)) = true := by simp [c]
      simp only [c2, c', Bool.not_true, Bool.false_eq_true, if_false, if_true, decide_false, Bool.and_false, Bool.false_and]
    · have c' : n > 0 := by omega
      have c2 : (n == (0 : Int)) = false := by simp [c]
      simp only [c2, c', Bool.not_true, Bool.false_eq_true, if_false, decide_true, Bool.true_and]
      cases inB 1 4 p with
      | false => rfl
      | true =>
        simp only [Bool.not_true, Bool.false_eq_true, if_false, Bool.true_and]
        by_cases hc : l.length = es.length
        · have : ((l.length : Int) != (es.length : Int)) = false := by simp [hc]
          simp only [this, Bool.false_eq_true, if_false, contains84 l () ((n, es, v), p, l, u) () () h.2, Option.bind_some, hc, decide_true, Bool.true_and, bne_self_eq_false]
        · have : ((l.length : Int) != (es.length : Int)) = true := by simp; omega
          simp only [this, if_true, hc, decide_false, Bool.false_and]
theorem toTimetable_eq (n : Int) (es : List E) (v : Unit) (p : Int) (l : List (List Int)) (u w : Unit) (hg : okL es = true) (hl : okLL l = true) : F_laws_toTimetable 0 (((n, es, v), p, l, u), w) = some (((n, es, v), p, l, ()), ()) := by
  unfold F_laws_toTimetable G_toIntSS
  simp only [toGraph_eq n es v _ hg, hl, if_true, Option.bind_some]
theorem eqTimetable_self (n : Int) (es : List E) (v : Unit) (p : Int) (l : List (List Int)) (u w : Unit) (hg : okL es = true) (hl : okLL l = true) : F_laws_eqTimetable 0 (((n, es, v), p, l, u), ((n, es, v), p, l, u), w) = some (true, ()) := by
  unfold F_laws_eqTimetable G_eqIntSS
  simp only [eqGraph_self n es v v _ hg, hl, bne_self_eq_false, Bool.false_eq_true, if_false, if_true, decide_true, Option.bind_some, Bool.not_true]
theorem okLL_small {l : List (List Int)} (h1 : l.length ≤ 1048576) (h2 : l.all (fun x => decide (x.length ≤ 1048576)) = true) : okLL l = true := by
  unfold okLL
  rw [Bool.and_eq_true]
  exact ⟨okL_of h1, List.all_eq_true.2 fun x hx => okL_of (of_decide_eq_true (List.all_eq_true.1 h2 x hx))⟩
end Go.V.W
set_option linter.unusedVariables false
set_option linter.unusedSimpArgs false
namespace Go.V.W
open Go.Proofs
theorem edge_nat {n : Nat} {e : E} (h : edgeB (n : Int) e = true) : ∃ a b : Nat, a < b ∧ b < n ∧ e = ((a : Int), (b : Int), ()) := by
  obtain ⟨h1, h2, h3, h4⟩ := edgeB_nat h
  exact ⟨_, _, h1, h2, by rw [← h3, ← h4]⟩
theorem toI_zero (n : Nat) : List.replicate n (0 : Int) = toI (List.replicate n 0) := by simp [toI]
theorem nonneg_dec (y : Nat) : decide (0 ≤ (y : Int)) = true := by simp
theorem netOf_l0 (N : Nat) (n : Nat) (hn : n ≤ 8) (z : Nt) (u : Unit) (es : List E) (hl : es.length ≤ lim) (he : es.all (edgeB (n : Int)) = true) : ∀ k j (ms : List Nat), okN n ms → es.length ≤ j + k → j ≤ es.length →
    impl_netOf_l0 N (k + 1) (z, (toI ms, u), es, (es.length : Int), (j : Int), ()) = some (.inl (z, (toI ((es.drop j).foldl addN ms), u), ())) := by
  intro k
  induction k with
  | zero =>
    intro j ms hm h1 h2
    have e : j = es.length := by omega
    subst e
    rw [List.drop_of_length_le (Nat.le_refl _)]
    simp [impl_netOf_l0, impl_netOf_l0_r]
  | succ k ih =>
    intro j ms hm h1 h2
    by_cases hj : j < es.length
    · have hee : edgeB (n : Int) (at_ K_Piiq es j) = true := all_at_of (e := K_Piiq) he hj
      have hat : at_ K_Piiq es j = es[j] := at_get (e := K_Piiq) hj
      obtain ⟨a, b, hab, hb, hx⟩ := edge_nat hee
      have k1 := addN_ok hn hm hee
      have ha8 : a < 8 := by omega
      have hb8 : b < 8 := by omega
      have o1 := orN_ok hm (show a < n by omega) hb8
      show impl_netOf_l0_r N (impl_netOf_l0 N (k + 1)) (z, (toI ms, u), es, (es.length : Int), (j : Int), ()) = _
      unfold impl_netOf_l0_r
      have i1 : idxIn (a : Int) ms.length = true := idxIn_nat (by rw [hm.1]; omega)
      have i2 : idxIn (b : Int) ms.length = true := idxIn_nat (by rw [hm.1]; omega)
      have p1 := pow_small hb8
      have p2 := pow_small ha8
      simp only [lt_dec hj, if_true, idxIn_nat hj, Int.toNat_natCast, wrap_up hj (lim_max hl), hx, toI_len, i1, i2, nonneg_dec, shl_one hb8, shl_one ha8, at_toI, bits_or (hm.2 a) p1, toI_set, List.length_set]
      have hb2 : (ms.set a (ms.getD a 0 ||| 2 ^ b)).getD b 0 < 256 := o1.2 b
      simp only [bits_or hb2 p2, toI_set]
      rw [List.drop_eq_getElem_cons hj, List.foldl_cons, ← hat, hx]
      have hadd : addN ms ((a : Int), (b : Int), ()) = (ms.set a (ms.getD a 0 ||| 2 ^ b)).set b ((ms.set a (ms.getD a 0 ||| 2 ^ b)).getD b 0 ||| 2 ^ a) := by
        simp only [addN, orN, Int.toNat_natCast]
      rw [hx] at k1
      rw [hadd] at k1 ⊢
      exact ih (j + 1) _ k1 (by omega) (by omega)
    · have e : j = es.length := by omega
      subst e
      rw [List.drop_of_length_le (Nat.le_refl _)]
      simp [impl_netOf_l0, impl_netOf_l0_r]
theorem netOf_lim (d) (r) (h : G_netOf d = some r) : ∃ N, F_impl_netOf N d = some r := by
  obtain ⟨⟨n, es, u⟩, w⟩ := d
  unfold G_netOf at h
  split at h
  · rename_i hc
    simp only [Bool.and_eq_true, decide_eq_true_eq] at hc
    obtain ⟨⟨⟨h0, h8⟩, hl⟩, he⟩ := hc
    have h := Option.some.inj h
    subst h
    obtain ⟨m, rfl⟩ : ∃ m : Nat, n = (m : Int) := ⟨n.toNat, by omega⟩
    have hm8 : m ≤ 8 := by omega
    refine ⟨es.length + 1, ?_⟩
    unfold F_impl_netOf
    have hc : (decide (0 ≤ (m : Int)) && decide ((m : Int) ≤ (m : Int)) && decide ((m : Int) ≤ (lim : Int))) = true := by
      have a1 : (m : Int) ≤ (lim : Int) := by unfold lim; omega
      simp only [a1, nonneg_dec, decide_true, Bool.and_self, Int.le_refl]
    have := netOf_l0 (es.length + 1) m hm8 (([] : List Int), ()) () es (okL_lim hl) he es.length 0 _ (okN_zero m) (by omega) (by omega)
    simp only [Int.natCast_zero, List.drop_zero] at this
    simp only [hc, if_true, Int.toNat_natCast, toI_zero, this, Option.bind_some]
    rfl
  · cases h
theorem l1Has_lim (d) (r) (h : G_l1Has d = some r) : ∃ N, F_spec_l1Has N d = some r := by
  obtain ⟨l, x, _⟩ := d
  unfold G_l1Has at h
  split at h
  · rename_i hl
    have hl : l.length ≤ lim := okL_lim hl
    have h := Option.some.inj h
    subst h
    refine ⟨l.length + 1, ?_⟩
    unfold F_spec_l1Has
    have := loop_idx (L := spec_l1Has_l0 (l.length + 1)) (r := spec_l1Has_l0_r (l.length + 1)) (fun _ _ => rfl) (e := I) l (mk := fun i => (l, x, (i : Int), ())) (q := fun y => y == x) (o := fun _ => .inl (true, ())) (f := .inr (.inl ()))
      (by
        intro back i hi
        unfold spec_l1Has_l0_r
        simp only [lt_dec hi, if_true, idxIn_nat hi, Int.toNat_natCast, wrap_up hi (lim_max hl)])
      (by intro back; unfold spec_l1Has_l0_r; simp only [lt_not, Bool.false_eq_true, if_false]) l.length 0 (by omega) (by omega)
    simp only [Int.natCast_zero, List.drop_zero] at this
    have hge := idxI_ge (fun y => y == x) l 0
    simp only [this, Option.bind_some, ← hge]
    cases idxN (fun y => y == x) l 0 with
    | none => rfl
    | some j => simp [idxI]
  · cases h
theorem index_lim (d) (r) (h : G_index d = some r) : ∃ N, F_slices_Index_Sint_int N d = some r := by
  obtain ⟨l, x, _⟩ := d
  unfold G_index at h
  split at h
  · rename_i hl
    have hl : l.length ≤ lim := okL_lim hl
    have h := Option.some.inj h
    subst h
    refine ⟨l.length + 1, ?_⟩
    unfold F_slices_Index_Sint_int
    have := loop_idx (L := slices_Index_Sint_int_l0 (l.length + 1)) (r := slices_Index_Sint_int_l0_r (l.length + 1)) (fun _ _ => rfl) (e := I) l (mk := fun i => (l, x, (l.length : Int), (i : Int), ())) (q := fun y => x == y) (o := fun i => .inl ((i : Int), ())) (f := .inr (.inl ()))
      (by
        intro back i hi
        unfold slices_Index_Sint_int_l0_r
        simp only [lt_dec hi, if_true, idxIn_nat hi, Int.toNat_natCast, wrap_up hi (lim_max hl)])
      (by intro back; unfold slices_Index_Sint_int_l0_r; simp only [lt_not, Bool.false_eq_true, if_false]) l.length 0 (by omega) (by omega)
    simp only [Int.natCast_zero, List.drop_zero] at this
    simp only [this, Option.bind_some]
    cases idxN (fun y => x == y) l 0 <;> rfl
  · cases h
theorem contains_eq (l : List Int) (x : Int) (u : Unit) (h : okL l = true) : F_slices_Contains_Sint_int 0 (l, x, u) = some (l.any (fun y => y == x), ()) := by
  unfold F_slices_Contains_Sint_int G_index
  simp only [h, if_true, Option.bind_some, idxI_ge]
  congr 3
  funext y
  exact bool_eq_iff (by rw [beq_iff_eq, beq_iff_eq]; exact eq_comm)
theorem timeB_parts {t : Tt} (h : timeB t = true) : graphB t.1 = true ∧ 0 < t.1.1 ∧ inB 1 4 t.2.1 = true ∧ t.2.2.1.length = t.1.2.1.length := by
  unfold timeB at h
  simp only [Bool.and_eq_true, decide_eq_true_eq] at h
  exact ⟨h.1.1.1.1, h.1.1.1.2, h.1.1.2, h.1.2⟩
theorem okT_parts {t : Tt} (h : okT t = true) : okL t.1.2.1 = true ∧ okL t.2.2.1 = true ∧ t.2.2.1.all okL = true := by
  unfold okT at h
  simp only [Bool.and_eq_true] at h
  exact ⟨h.1, okLL_of h.2⟩
theorem inB_iff {lo hi x : Int} : inB lo hi x = true ↔ lo ≤ x ∧ x ≤ hi := by simp [inB]
theorem sel_step {es : List E} {ts : List (List Int)} {r : Int} {i : Nat} (h1 : i < es.length) (h2 : i < ts.length) : selE (es.drop i) (ts.drop i) r = if (at_ K_Si ts i).any (fun y => y == r) = true then at_ K_Piiq es i :: selE (es.drop (i + 1)) (ts.drop (i + 1)) r else selE (es.drop (i + 1)) (ts.drop (i + 1)) r := by
  rw [List.drop_eq_getElem_cons h1, List.drop_eq_getElem_cons h2]
  simp only [selE]
  have e1 : at_ K_Si ts i = ts[i] := at_get (e := K_Si) h2
  have e2 : at_ K_Piiq es i = es[i] := at_get (e := K_Piiq) h1
  rw [e1, e2]
theorem l11Open_l0 (N : Nat) (t : Tt) (c : Int) (z : Gr) (n' : Int) (hL : t.1.2.1.length ≤ lim) (hT : t.2.2.1.length = t.1.2.1.length) (hA : t.2.2.1.all okL = true) (hp : t.2.1 ≠ 0) : ∀ k i (A : List E), A.length ≤ i → t.1.2.1.length ≤ i + k → i ≤ t.1.2.1.length →
    spec_l11Open_l0 N (k + 1) (c, t, z, (n', A, ()), (i : Int), ()) = some (.inl (z, (n', A ++ selE (t.1.2.1.drop i) (t.2.2.1.drop i) (c.tmod t.2.1), ()), ())) := by
  intro k
  induction k with
  | zero =>
    intro i A hA' h1 h2
    have e : i = t.1.2.1.length := by omega
    subst e
    rw [List.drop_of_length_le (Nat.le_refl _)]
    simp [spec_l11Open_l0, spec_l11Open_l0_r, selE]
  | succ k ih =>
    intro i A hA' h1 h2
    by_cases hi : i < t.1.2.1.length
    · have hi2 : i < t.2.2.1.length := by omega
      have hx : okL (at_ K_Si t.2.2.1 i) = true := all_at_of (e := K_Si) hA hi2
      have hp' : (t.2.1 != 0) = true := by simpa using hp
      show spec_l11Open_l0_r N (spec_l11Open_l0 N (k + 1)) (c, t, z, (n', A, ()), (i : Int), ()) = _
      unfold spec_l11Open_l0_r
      have hle : decide (A.length + List.length [at_ K_Piiq t.1.2.1 i] ≤ lim) = true := by simp; omega
      simp only [lt_dec hi, if_true, idxIn_nat hi, idxIn_nat hi2, Int.toNat_natCast, wrap_up hi (lim_max hL), hp', G_l1Has, hx, Option.bind_some, hle]
      rw [sel_step hi hi2]
      by_cases hh : (at_ K_Si t.2.2.1 i).any (fun y => y == c.tmod t.2.1) = true
      · rw [if_pos hh, if_pos hh, ih (i + 1) _ (by simp; omega) (by omega) (by omega)]
        simp
      · rw [if_neg hh, if_neg hh]
        exact ih (i + 1) A (by omega) (by omega) (by omega)
    · have e : i = t.1.2.1.length := by omega
      subst e
      rw [List.drop_of_length_le (Nat.le_refl _)]
      simp [spec_l11Open_l0, spec_l11Open_l0_r, selE]
theorem l11Open_lim (d) (r) (h : G_l11Open d = some r) : ∃ N, F_spec_l11Open N d = some r := by
  obtain ⟨t, c, _⟩ := d
  unfold G_l11Open at h
  split at h
  · rename_i hc
    simp only [Bool.and_eq_true, decide_eq_true_eq] at hc
    obtain ⟨⟨⟨h1, h2⟩, h3⟩, _⟩ := hc
    obtain ⟨g1, g2, g3, g4⟩ := timeB_parts h1
    obtain ⟨o1, o2, o3⟩ := okT_parts h2
    have g3 := inB_iff.1 g3
    have h := Option.some.inj h
    subst h
    refine ⟨t.1.2.1.length + 1, ?_⟩
    unfold F_spec_l11Open
    have := l11Open_l0 (t.1.2.1.length + 1) t c (0, [], ()) t.1.1 (okL_lim o1) g4 o3 (by omega) t.1.2.1.length 0 [] (by simp) (by omega) (by omega)
    simp only [Int.natCast_zero, List.drop_zero, List.nil_append] at this
    simp only [this, Option.bind_some]
    rfl
  · cases h
theorem at_midN (pre : List Nt) (x : Nt) (post : List Nt) : at_ K_PSiq (pre ++ x :: post) pre.length = x := by
  rw [at_get (e := K_PSiq) (by simp)]
  simp
theorem set_midN (pre : List Nt) (x y : Nt) (post : List Nt) : List.set (pre ++ x :: post) pre.length y = pre ++ y :: post := by simp
theorem openNets_l2 (N : Nat) (t : Tt) (n : Nat) (hn : n ≤ 8) (pre post : List Nt) (u : Unit) (s11 s12 : Int) (hl : t.1.2.1.length ≤ lim) (hT : t.2.2.1.length = t.1.2.1.length) (hA : t.2.2.1.all okL = true) (he : t.1.2.1.all (edgeB (n : Int)) = true) : ∀ k j (ms : List Nat), okN n ms → t.1.2.1.length ≤ j + k → j ≤ t.1.2.1.length →
    impl_openNets_l2 N (k + 1) (t, pre ++ (toI ms, u) :: post, (pre.length : Int), s11, s12, t.1.2.1, (t.1.2.1.length : Int), (j : Int), ()) =
      some (.inl (t, pre ++ (toI ((selE (t.1.2.1.drop j) (t.2.2.1.drop j) (pre.length : Int)).foldl addN ms), u) :: post, s11, s12, ())) := by
  intro k
  induction k with
  | zero =>
    intro j ms hm h1 h2
    have e : j = t.1.2.1.length := by omega
    subst e
    rw [List.drop_of_length_le (Nat.le_refl _)]
    simp [impl_openNets_l2, impl_openNets_l2_r, selE]
  | succ k ih =>
    intro j ms hm h1 h2
    by_cases hj : j < t.1.2.1.length
    · have hj2 : j < t.2.2.1.length := by omega
      have hx : okL (at_ K_Si t.2.2.1 j) = true := all_at_of (e := K_Si) hA hj2
      have hee : edgeB (n : Int) (at_ K_Piiq t.1.2.1 j) = true := all_at_of (e := K_Piiq) he hj
      obtain ⟨a, b, hab, hb, hxe⟩ := edge_nat hee
      have k1 := addN_ok hn hm hee
      have ha8 : a < 8 := by omega
      have hb8 : b < 8 := by omega
      have o1 := orN_ok hm (show a < n by omega) hb8
      rw [sel_step hj hj2]
      show impl_openNets_l2_r N (impl_openNets_l2 N (k + 1)) (t, pre ++ (toI ms, u) :: post, (pre.length : Int), s11, s12, t.1.2.1, (t.1.2.1.length : Int), (j : Int), ()) = _
      unfold impl_openNets_l2_r
      simp only [lt_dec hj, if_true, idxIn_nat hj, idxIn_nat hj2, Int.toNat_natCast, wrap_up hj (lim_max hl), contains_eq _ _ _ hx, Option.bind_some]
      by_cases hh : (at_ K_Si t.2.2.1 j).any (fun y => y == (pre.length : Int)) = true
      · rw [if_pos hh, if_pos hh]
        have i0 : ∀ x : Nt, idxIn (pre.length : Int) (pre ++ x :: post).length = true := fun x => idxIn_nat (by simp)
        have i1 : idxIn (a : Int) ms.length = true := idxIn_nat (by rw [hm.1]; omega)
        have i2 : idxIn (b : Int) ms.length = true := idxIn_nat (by rw [hm.1]; omega)
        have p1 := pow_small hb8
        have p2 := pow_small ha8
        simp only [hxe, i0, if_true, Int.toNat_natCast, at_midN, set_midN, toI_len, i1, i2, nonneg_dec, shl_one hb8, shl_one ha8, at_toI, bits_or (hm.2 a) p1, toI_set, List.length_set]
        have hb2 : (ms.set a (ms.getD a 0 ||| 2 ^ b)).getD b 0 < 256 := o1.2 b
        simp only [bits_or hb2 p2, toI_set]
        rw [List.foldl_cons]
        have hadd : addN ms ((a : Int), (b : Int), ()) = (ms.set a (ms.getD a 0 ||| 2 ^ b)).set b ((ms.set a (ms.getD a 0 ||| 2 ^ b)).getD b 0 ||| 2 ^ a) := by
          simp only [addN, orN, Int.toNat_natCast]
        rw [hxe] at k1
        rw [hadd] at k1 ⊢
        exact ih (j + 1) _ k1 (by omega) (by omega)
      · rw [if_neg hh, if_neg hh]
        exact ih (j + 1) ms hm (by omega) (by omega)
    · have e : j = t.1.2.1.length := by omega
      subst e
      rw [List.drop_of_length_le (Nat.le_refl _)]
      simp [impl_openNets_l2, impl_openNets_l2_r, selE]
theorem graphB_edges {n : Int} {l : List E} {u : Unit} (h : graphB (n, l, u) = true) : l.all (edgeB n) = true ∧ risingE l = true := by
  unfold graphB at h
  simp only [Bool.and_eq_true] at h
  exact ⟨h.1.2, h.2⟩
theorem openNets_l0 (M : Nat) (t : Tt) (n : Nat) (hn : n ≤ 8) (hN : t.1.1 = (n : Int)) (hl : t.1.2.1.length ≤ lim) (hT : t.2.2.1.length = t.1.2.1.length) (hA : t.2.2.1.all okL = true) (he : t.1.2.1.all (edgeB (n : Int)) = true) (p : Nat) (hp : p ≤ 4) : ∀ k (pre : List Nt) (f : Nat), pre.length + k = p → k < f →
    impl_openNets_l0 (t.1.2.1.length + 1 + M) f (t, pre ++ List.replicate k ([], ()), (p : Int), (pre.length : Int), ()) = some (.inl (pre ++ (List.range' pre.length k).map (fun r : Nat => ((toI (netN n (openE t (r : Int))), ()) : Nt)), ())) := by
  intro k
  induction k with
  | zero =>
    intro pre f h hf
    have e : p = pre.length := by omega
    subst e
    obtain ⟨f, rfl⟩ : ∃ m, f = m + 1 := ⟨f - 1, by omega⟩
    simp [impl_openNets_l0, impl_openNets_l0_r]
  | succ k ih =>
    intro pre f h hf
    have hlt : pre.length < p := by omega
    obtain ⟨f, rfl⟩ : ∃ m, f = m + 1 := ⟨f - 1, by omega⟩
    show impl_openNets_l0_r (t.1.2.1.length + 1 + M) (impl_openNets_l0 (t.1.2.1.length + 1 + M) f) (t, pre ++ List.replicate (k + 1) ([], ()), (p : Int), (pre.length : Int), ()) = _
    unfold impl_openNets_l0_r
    have hg : G_netOf ((t.1.1, ([] : List E), ()), ()) = some ((toI (List.replicate n 0), ()), ()) := by
      unfold G_netOf
      have : (decide (0 ≤ t.1.1) && decide (t.1.1 ≤ 8) && okL ([] : List E) && List.all ([] : List E) (edgeB t.1.1)) = true := by
        rw [okL_nil, hN]
        simp
        omega
      rw [if_pos this, hN]
      rfl
    have i0 : idxIn (pre.length : Int) (pre ++ ([], ()) :: List.replicate k (([], ()) : Nt)).length = true := idxIn_nat (by simp)
    have hw : IntKind.wrap .i64 ((pre.length : Int) + 1) = ((pre.length + 1 : Nat) : Int) := by
      rw [wrap_in _ (by omega) (by omega)]
      rfl
    have hin := openNets_l2 (t.1.2.1.length + 1 + M) t n hn pre (List.replicate k ([], ())) () (p : Int) (pre.length : Int) hl hT hA he (t.1.2.1.length + M) 0 _ (okN_zero n) (by omega) (by omega)
    have hf : t.1.2.1.length + M + 1 = t.1.2.1.length + 1 + M := by omega
    rw [hf] at hin
    simp only [Int.natCast_zero, List.drop_zero] at hin
    have hd : decide ((pre.length : Int) < (p : Int)) = true := by simp; omega
    simp only [List.replicate_succ, hd, if_true, hg, Option.bind_some, i0, Int.toNat_natCast, set_midN, hin, hw]
    have := ih (pre ++ [((toI (netN n (openE t (pre.length : Int))), ()) : Nt)]) f (by simp; omega) (by omega)
    simp only [List.length_append, List.length_singleton, List.append_assoc, List.singleton_append] at this
    rw [List.range'_succ, List.map_cons]
    exact this
theorem openNets_lim (d) (r) (h : G_openNets d = some r) : ∃ N, F_impl_openNets N d = some r := by
  obtain ⟨t, _⟩ := d
  unfold G_openNets at h
  split at h
  · rename_i hc
    simp only [Bool.and_eq_true] at hc
    obtain ⟨h1, h2⟩ := hc
    obtain ⟨g1, g2, g3, g4⟩ := timeB_parts h1
    obtain ⟨o1, o2, o3⟩ := okT_parts h2
    have g3 := inB_iff.1 g3
    have hn := graphB_n (n := t.1.1) (l := t.1.2.1) (u := t.1.2.2) g1
    have hE := (graphB_edges (n := t.1.1) (l := t.1.2.1) (u := t.1.2.2) g1).1
    have h := Option.some.inj h
    subst h
    have hN : t.1.1 = (t.1.1.toNat : Int) := by omega
    have hP : t.2.1 = (t.2.1.toNat : Int) := by omega
    refine ⟨t.1.2.1.length + 1 + (t.2.1.toNat + 1), ?_⟩
    unfold F_impl_openNets
    have hcc : (decide (0 ≤ t.2.1) && decide (t.2.1 ≤ t.2.1) && decide (t.2.1 ≤ (lim : Int))) = true := by
      have a1 : t.2.1 ≤ (lim : Int) := by unfold lim; omega
      have a2 : 0 ≤ t.2.1 := by omega
      simp only [a1, a2, decide_true, Bool.and_self, Int.le_refl]
    rw [hN] at hE
    have key := openNets_l0 (t.2.1.toNat + 1) t t.1.1.toNat (by omega) hN (okL_lim o1) g4 o3 hE t.2.1.toNat (by omega) t.2.1.toNat [] (t.1.2.1.length + 1 + (t.2.1.toNat + 1)) (by simp) (by omega)
    simp only [List.nil_append, List.length_nil, Int.natCast_zero] at key
    have hlen : (List.replicate t.2.1.toNat (([] : List Int), ())).length = t.2.1.toNat := by simp
    simp only [hcc, if_true, hlen, key, Option.bind_some, netsL, List.range_eq_range']
  · cases h
end Go.V.W
set_option linter.unusedVariables false
set_option linter.unusedSimpArgs false
namespace Go.V.W
open Go.Proofs
theorem smallN_nat {l : List Int} (h : smallN l = true) : l = toI (fromI l) ∧ okN l.length (fromI l) ∧ l.length ≤ 8 := by
  unfold smallN at h
  simp only [Bool.and_eq_true, decide_eq_true_eq, List.all_eq_true] at h
  refine ⟨?_, ⟨by simp [fromI], fun x => ?_⟩, h.1⟩
  · unfold toI fromI
    rw [List.map_map]
    have : ∀ m ∈ l, ((fun m : Nat => (m : Int)) ∘ Int.toNat) m = m := fun m hm => by
      have := h.2 m hm
      simp only [Function.comp]
      omega
    exact (List.map_congr_left this).trans (List.map_id' l) |>.symm
  · unfold fromI
    simp only [List.getD_eq_getElem?_getD, List.getElem?_map]
    cases hx : l[x]? with
    | none => simp
    | some m =>
      have := h.2 m (List.mem_of_getElem? hx)
      simp only [Option.map_some, Option.getD_some]
      omega
theorem openE_ok {t : Tt} {n : Nat} (h1 : t.1.2.1.all (edgeB (n : Int)) = true) (h2 : risingE t.1.2.1 = true) (r : Int) : (openE t r).all (edgeB (n : Int)) = true ∧ ((openE t r).Pairwise fun a b => lessE a b = true) := by
  have hs := selE_sub t.1.2.1 t.2.2.1 r
  refine ⟨List.all_eq_true.2 fun e he => List.all_eq_true.1 h1 e (hs.mem he), (rising_pair h2).sublist hs⟩
theorem selE_len (es : List E) (ts : List (List Int)) (r : Int) : (selE es ts r).length ≤ es.length := (selE_sub es ts r).length_le
end Go.V.W
set_option linter.unusedVariables false
set_option linter.unusedSimpArgs false
namespace Go.V.W
theorem setF_congr {p q : Nat → Bool} : ∀ {k x : Nat}, (∀ y, x ≤ y → y < x + k → p y = q y) → setF p k x = setF q k x := by
  intro k
  induction k with
  | zero => intro x _; rfl
  | succ k ih =>
    intro x h
    simp only [setF, h x (Nat.le_refl _) (by omega), ih (x := x + 1) fun y h1 h2 => h y (by omega) (by omega)]
theorem setF_mem {p : Nat → Bool} : ∀ {k x : Nat} {z : Int}, z ∈ setF p k x ↔ ∃ y : Nat, x ≤ y ∧ y < x + k ∧ p y = true ∧ z = (y : Int) := by
  intro k
  induction k with
  | zero => intro x z; simp only [setF, List.not_mem_nil, false_iff]; rintro ⟨y, h1, h2, _⟩; omega
  | succ k ih =>
    intro x z
    unfold setF
    by_cases h : p x = true
    · rw [if_pos h, List.mem_cons, ih]
      constructor
      · rintro (rfl | ⟨y, h1, h2, h3, h4⟩)
        · exact ⟨x, Nat.le_refl _, by omega, h, rfl⟩
        · exact ⟨y, by omega, by omega, h3, h4⟩
      · rintro ⟨y, h1, h2, h3, h4⟩
        by_cases e : y = x
        · subst e; exact .inl h4
        · exact .inr ⟨y, by omega, by omega, h3, h4⟩
    · rw [if_neg h, ih]
      constructor
      · rintro ⟨y, h1, h2, h3, h4⟩
        exact ⟨y, by omega, by omega, h3, h4⟩
      · rintro ⟨y, h1, h2, h3, h4⟩
        by_cases e : y = x
        · subst e; exact absurd h3 h
        · exact ⟨y, by omega, by omega, h3, h4⟩
theorem setF_len {p : Nat → Bool} : ∀ {k x : Nat}, (setF p k x).length ≤ k := by
  intro k
  induction k with
  | zero => intro x; simp [setF]
  | succ k ih =>
    intro x
    unfold setF
    split
    · have := ih (x := x + 1); simp; omega
    · have := ih (x := x + 1); omega
theorem putL_low {p : Nat → Bool} {z : Nat} : ∀ {k y : Nat}, z < y → putL (z : Int) (setF p k y) = (z : Int) :: setF p k y := by
  intro k
  induction k with
  | zero => intro y _; rfl
  | succ k ih =>
    intro y h
    unfold setF
    split
    · have h1 : ¬ (y : Int) < (z : Int) := by omega
      have h2 : ¬ (y : Int) = (z : Int) := by omega
      simp only [putL, h1, h2, if_false]
    · exact ih (by omega)
theorem putL_set {p : Nat → Bool} {z : Nat} : ∀ {k x : Nat}, x ≤ z → z < x + k → putL (z : Int) (setF p k x) = setF (fun y => p y || decide (y = z)) k x := by
  intro k
  induction k with
  | zero => intro x h1 h2; omega
  | succ k ih =>
    intro x h1 h2
    by_cases e : x = z
    · subst e
      have hc : setF (fun y => p y || decide (y = x)) k (x + 1) = setF p k (x + 1) := setF_congr fun y h1 h2 => by
        have : ¬ y = x := by omega
        simp [this]
      by_cases hp : p x = true
      · simp only [setF, hp, if_true, decide_true, Bool.or_self, hc, putL]
        have : ¬ (x : Int) < (x : Int) := by omega
        simp only [this, if_false, if_true]
      · have hp' : p x = false := by simpa using hp
        simp only [setF, hp', Bool.false_eq_true, if_false, decide_true, Bool.or_true, if_true, hc]
        exact putL_low (by omega)
    · have hd : decide (x = z) = false := by simp [e]
      have hlt : (x : Int) < (z : Int) := by omega
      by_cases hp : p x = true
      · simp only [setF, hp, if_true, hd, Bool.or_false, putL, hlt, ih (x := x + 1) (by omega) (by omega)]
      · have hp' : p x = false := by simpa using hp
        simp only [setF, hp', hd, Bool.or_false, Bool.false_eq_true, if_false, ih (x := x + 1) (by omega) (by omega)]
theorem ballL_set {n : Nat} {es : List E} {x : Nat} (hx : x < n) : ballL n es (x : Int) = setF (fun y => nearI es (x : Int) (y : Int) || decide (y = x)) n 0 := by
  unfold ballL
  exact putL_set (Nat.zero_le _) (by omega)
theorem setF_nat {p : Nat → Bool} {n : Nat} : ∀ z ∈ setF p n 0, ∃ y : Nat, y < n ∧ z = (y : Int) := by
  intro z hz
  obtain ⟨y, _, h2, _, h4⟩ := setF_mem.1 hz
  exact ⟨y, by omega, h4⟩
theorem setF_empty {n x : Nat} : setF (fun _ => false) n x = [] := by
  induction n generalizing x with
  | zero => rfl
  | succ n ih => simp [setF, ih]
/-- Bits that stand for a set of nodes. -/
def isM (n : Nat) (m : Nat) (p : Nat → Bool) : Prop := m < 256 ∧ ∀ y, m.testBit y = (decide (y < n) && p y)
theorem isE_near (es : List E) {n : Nat} (h : es.all (edgeB (n : Int)) = true) (x y : Nat) : es.any (fun e => isE e x y) = nearI es (x : Int) (y : Int) := by
  unfold nearI
  apply Bool.eq_iff_iff.2
  simp only [List.any_eq_true, isE, Bool.or_eq_true, Bool.and_eq_true, decide_eq_true_eq, beq_iff_eq]
  constructor
  · rintro ⟨e, he, h1⟩
    obtain ⟨k1, k2, k3, k4⟩ := edgeB_nat (List.all_eq_true.1 h e he)
    exact ⟨e, he, by omega⟩
  · rintro ⟨e, he, h1⟩
    obtain ⟨k1, k2, k3, k4⟩ := edgeB_nat (List.all_eq_true.1 h e he)
    exact ⟨e, he, by omega⟩
theorem near_lt {es : List E} {n : Nat} (h : es.all (edgeB (n : Int)) = true) {x y : Nat} (hn : nearI es (x : Int) (y : Int) = true) : y < n := by
  unfold nearI at hn
  simp only [List.any_eq_true, Bool.or_eq_true, Bool.and_eq_true, beq_iff_eq] at hn
  obtain ⟨e, he, h1⟩ := hn
  obtain ⟨k1, k2, k3, k4⟩ := edgeB_nat (List.all_eq_true.1 h e he)
  omega
theorem setF_split {p : Nat → Bool} : ∀ (a b x : Nat), setF p (a + b) x = setF p a x ++ setF p b (x + a) := by
  intro a
  induction a with
  | zero => intro b x; simp [setF]
  | succ a ih =>
    intro b x
    rw [show a + 1 + b = (a + b) + 1 by omega]
    simp only [setF, ih, show x + 1 + a = x + (a + 1) by omega]
    split <;> simp
theorem setF_mask {n m : Nat} {p : Nat → Bool} (hn : n ≤ 8) (hm : isM n m p) : setF (fun y => m.testBit y) 8 0 = setF p n 0 := by
  rw [show 8 = n + (8 - n) by omega, setF_split]
  have h1 : setF (fun y => m.testBit y) n 0 = setF p n 0 := setF_congr fun y _ h => by
    rw [hm.2 y]
    have : y < n := by omega
    simp [this]
  have h2 : setF (fun y => m.testBit y) (8 - n) (0 + n) = [] := by
    rw [← setF_empty (n := 8 - n) (x := 0 + n)]
    exact setF_congr fun y h _ => by
      rw [hm.2 y]
      have : ¬ y < n := by omega
      simp [this]
  rw [h1, h2, List.append_nil]
end Go.V.W
