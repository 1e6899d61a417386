/- What the law FnExactTimedTimes leans on, part 4: an interpreter of the model as plain data, its soundness, the functions as it tells them, and their laws. -/
import Derived.Test.YtmcbhnnjcikfdaaProg
import Derived.Laws.CopyOwn
import Derived.Deep.OwnRows
import Derived.WalkKit
import Derived.LoopN
import Derived.Deep.DeepFit
import Derived.Shelf.Lays
import Derived.IntWalk
import Derived.Lib.Builder
import Derived.Test.YtmcbhnnjcikfdaaVC
set_option linter.unusedVariables false
set_option linter.unusedSimpArgs false
set_option maxRecDepth 100000
set_option linter.unusedVariables false
set_option maxRecDepth 100000
namespace Go.V.W
open Go.Proofs
abbrev I : Kd := .int .i64
abbrev K_Piq : Kd := .pair I .unit
abbrev K_Piiq : Kd := .pair I K_Piq
abbrev K_SPiiq : Kd := .slice K_Piiq
abbrev K_PSPiiqq : Kd := .pair K_SPiiq .unit
abbrev K_PiSPiiqq : Kd := .pair I K_PSPiiqq
abbrev K_Si : Kd := .slice I
abbrev K_SSi : Kd := .slice K_Si
abbrev K_PSSiq : Kd := .pair K_SSi .unit
abbrev K_PiSSiq : Kd := .pair I K_PSSiq
abbrev K_PPiSPiiqqiSSiq : Kd := .pair K_PiSPiiqq K_PiSSiq
abbrev K_SSSi : Kd := .slice K_SSi
abbrev K_BPPiSPiiqqiSSiq : Kd := .bx K_PPiSPiiqqiSSiq
abbrev K_PBPPiSPiiqqiSSiqq : Kd := .pair K_BPPiSPiiqqiSSiq .unit
abbrev K_F_impl_IsTimetable_1_qPBPPiSPiiqqiSSiqq : Kd := .clo 68 .unit K_PBPPiSPiiqqiSSiqq
abbrev K_PSiq : Kd := .pair K_Si .unit
abbrev K_SPSiq : Kd := .slice K_PSiq
abbrev K_F_impl_timedTimes_1_qq : Kd := .clo 62 .unit .unit
abbrev K_Bi : Kd := .bx I
abbrev K_BPSiq : Kd := .bx K_PSiq
abbrev K_BSSi : Kd := .bx K_SSi
abbrev K_BF_impl_timedTimes_1_qq : Kd := .bx K_F_impl_timedTimes_1_qq
abbrev K_PBF_impl_timedTimes_1_qqq : Kd := .pair K_BF_impl_timedTimes_1_qq .unit
abbrev K_PBSSiBF_impl_timedTimes_1_qqq : Kd := .pair K_BSSi K_PBF_impl_timedTimes_1_qqq
abbrev K_PBPSiqBSSiBF_impl_timedTimes_1_qqq : Kd := .pair K_BPSiq K_PBSSiBF_impl_timedTimes_1_qqq
abbrev K_PBiBPSiqBSSiBF_impl_timedTimes_1_qqq : Kd := .pair K_Bi K_PBPSiqBSSiBF_impl_timedTimes_1_qqq
abbrev K_F_impl_timedCan_1_qPBiBPSiqBSSiBF_impl_timedTimes_1_qqq : Kd := .clo 81 .unit K_PBiBPSiqBSSiBF_impl_timedTimes_1_qqq
abbrev K_Piiiq : Kd := .pair I K_Piiq
abbrev K_SPiiiq : Kd := .slice K_Piiiq
def tks : List (Nat × Kd) := [(3, I), (4, .bool), (22, K_SPiiq), (24, K_PiSPiiqq), (25, K_SSi), (27, K_PPiSPiiqqiSSiq), (31, K_PiSPiiqq), (33, K_PPiSPiiqqiSSiq), (40, K_SSSi), (53, K_Si), (58, K_SPSiq), (63, K_PSiq), (82, K_Piiq), (85, K_SPiiiq), (87, K_Piiiq)]
def ars : List (Nat × Nat) := [(82, 3), (87, 3)]
noncomputable def Γ_laws_szIntA2S : Ctx := { tk := assoc tks, ar := assoc ars, fs := assoc [] }
noncomputable def F_laws_szIntA2S (N : Nat) (d : (List (Int × Int × Unit)) × Int × Unit) : Option (Int × Unit) :=
  let a0 : List (Int × Int × Unit) := d.1
  let a1 : Int := d.2.1
  let x1 : Int := IntKind.wrap .i64 (a1 - (List.length a0 : Int))
  if (decide (x1 < (0 : Int))) = true then
    some ((-1 : Int), ())
  else
    some (x1, ())
theorem F_laws_szIntA2S_ok (N : Nat) (d) : fnR Γ_laws_szIntA2S (assoc []) true [(K_SPiiq, false), (I, false)] [I] Try.f45.results.toList (bodyOf Try.f45) d = F_laws_szIntA2S N d := by kernel_rfl
noncomputable def g_laws_szIntA2S (d : (List (Int × Int × Unit)) × Int × Unit) : Int × Unit :=
  let a0 : List (Int × Int × Unit) := d.1
  let a1 : Int := d.2.1
  let x1 : Int := IntKind.wrap .i64 (a1 - (List.length a0 : Int))
  if (decide (x1 < (0 : Int))) = true then
    ((-1 : Int), ())
  else
    (x1, ())
theorem F_laws_szIntA2S_tot (N : Nat) (d) : F_laws_szIntA2S N d = some (g_laws_szIntA2S d) := by
  unfold F_laws_szIntA2S g_laws_szIntA2S
  first
    | rfl
    | (dsimp only; (repeat' split) <;> rfl)
noncomputable def S_laws_szIntA2S : FSig := ⟨[(K_SPiiq, false), (I, false)], [I], true, (fun d => some (g_laws_szIntA2S d))⟩
noncomputable def Γ_laws_szGraph : Ctx := { tk := assoc tks, ar := assoc ars, fs := assoc [(45, S_laws_szIntA2S)] }
noncomputable def F_laws_szGraph (N : Nat) (d : (Int × (List (Int × Int × Unit)) × Unit) × Int × Unit) : Option (Int × Unit) :=
  let a0 : Int × (List (Int × Int × Unit)) × Unit := d.1
  let a1 : Int := d.2.1
  let r1 : Int × Unit := g_laws_szIntA2S ((a0.2.1, (a1, ())))
  if (decide (r1.1 < (0 : Int))) = true then
    some ((-1 : Int), ())
  else
    some (r1.1, ())
theorem F_laws_szGraph_ok (N : Nat) (d) : fnR Γ_laws_szGraph (assoc []) true [(K_PiSPiiqq, false), (I, false)] [I] Try.f19.results.toList (bodyOf Try.f19) d = F_laws_szGraph N d := by kernel_rfl
noncomputable def g_laws_szGraph (d : (Int × (List (Int × Int × Unit)) × Unit) × Int × Unit) : Int × Unit :=
  let a0 : Int × (List (Int × Int × Unit)) × Unit := d.1
  let a1 : Int := d.2.1
  let r1 : Int × Unit := g_laws_szIntA2S ((a0.2.1, (a1, ())))
  if (decide (r1.1 < (0 : Int))) = true then
    ((-1 : Int), ())
  else
    (r1.1, ())
theorem F_laws_szGraph_tot (N : Nat) (d) : F_laws_szGraph N d = some (g_laws_szGraph d) := by
  unfold F_laws_szGraph g_laws_szGraph
  first
    | rfl
    | (dsimp only; (repeat' split) <;> rfl)
noncomputable def S_laws_szGraph : FSig := ⟨[(K_PiSPiiqq, false), (I, false)], [I], true, (fun d => some (g_laws_szGraph d))⟩
noncomputable def Γ_laws_szIntS : Ctx := { tk := assoc tks, ar := assoc ars, fs := assoc [] }
noncomputable def F_laws_szIntS (N : Nat) (d : List Int × Int × Unit) : Option (Int × Unit) :=
  let a0 : List Int := d.1
  let a1 : Int := d.2.1
  let x1 : Int := IntKind.wrap .i64 (a1 - (List.length a0 : Int))
  if (decide (x1 < (0 : Int))) = true then
    some ((-1 : Int), ())
  else
    some (x1, ())
theorem F_laws_szIntS_ok (N : Nat) (d) : fnR Γ_laws_szIntS (assoc []) true [(K_Si, false), (I, false)] [I] Try.f46.results.toList (bodyOf Try.f46) d = F_laws_szIntS N d := by kernel_rfl
noncomputable def g_laws_szIntS (d : List Int × Int × Unit) : Int × Unit :=
  let a0 : List Int := d.1
  let a1 : Int := d.2.1
  let x1 : Int := IntKind.wrap .i64 (a1 - (List.length a0 : Int))
  if (decide (x1 < (0 : Int))) = true then
    ((-1 : Int), ())
  else
    (x1, ())
theorem F_laws_szIntS_tot (N : Nat) (d) : F_laws_szIntS N d = some (g_laws_szIntS d) := by
  unfold F_laws_szIntS g_laws_szIntS
  first
    | rfl
    | (dsimp only; (repeat' split) <;> rfl)
noncomputable def S_laws_szIntS : FSig := ⟨[(K_Si, false), (I, false)], [I], true, (fun d => some (g_laws_szIntS d))⟩
noncomputable def Γ_laws_szIntSS : Ctx := { tk := assoc tks, ar := assoc ars, fs := assoc [(46, S_laws_szIntS)] }
abbrev laws_szIntSS_l0_H := List (List Int) × Int × Int × Unit
abbrev laws_szIntSS_l0_O := (Int × Unit) ⊕ (Int × Unit) ⊕ Empty
def laws_szIntSS_l0_h : Form := [(0, .v K_SSi), (1, .v I), (5, .v I)]
def laws_szIntSS_l0_o : Outs := [(.ret, [(4, .v I)]), (.normal, [(1, .v I)])]
noncomputable def laws_szIntSS_l0_r (N : Nat) (back : laws_szIntSS_l0_H → Option laws_szIntSS_l0_O) (d : laws_szIntSS_l0_H) : Option laws_szIntSS_l0_O :=
  let s0 : List (List Int) := d.1
  let s1 : Int := d.2.1
  let s5 : Int := d.2.2.1
  if (decide (s5 < (List.length s0 : Int))) = true then
    if (idxIn s5 (List.length s0)) = true then
    let r7 : Int × Unit := g_laws_szIntS ((at_ K_Si s0 s5.toNat, (s1, ())))
    if (decide (r7.1 < (0 : Int))) = true then
      some (.inl ((-1 : Int), ()))
    else
      let x8 : Int := IntKind.wrap .i64 (s5 + (1 : Int))
      back ((s0, (r7.1, (x8, ()))))
    else none
  else
    some (.inr (.inl (s1, ())))
noncomputable def laws_szIntSS_l0 (N : Nat) : Nat → laws_szIntSS_l0_H → Option laws_szIntSS_l0_O
  | 0, _ => none
  | k + 1, d => laws_szIntSS_l0_r N (laws_szIntSS_l0 N k) d
theorem laws_szIntSS_l0_ok (N : Nat) (back) (d) : roundR Γ_laws_szIntSS (assoc []) 0 laws_szIntSS_l0_h laws_szIntSS_l0_o (loopOf Try.f20 0) back d = laws_szIntSS_l0_r N back d := by kernel_rfl
noncomputable def F_laws_szIntSS (N : Nat) (d : List (List Int) × Int × Unit) : Option (Int × Unit) :=
  let a0 : List (List Int) := d.1
  let a1 : Int := d.2.1
  let x1 : Int := IntKind.wrap .i64 (a1 - (List.length a0 : Int))
  if (decide (x1 < (0 : Int))) = true then
    some ((-1 : Int), ())
  else
    (laws_szIntSS_l0 N N ((a0, (x1, ((0 : Int), ()))))).bind fun o4 => match o4 with
    | .inl d5 =>
      some (d5.1, ())
    | .inr (.inl d6) =>
      some (d6.1, ())
theorem F_laws_szIntSS_ok (N : Nat) (d) : fnR Γ_laws_szIntSS (assoc [(0, ⟨laws_szIntSS_l0_h, laws_szIntSS_l0_o, laws_szIntSS_l0 N N⟩)]) true [(K_SSi, false), (I, false)] [I] Try.f20.results.toList (bodyOf Try.f20) d = F_laws_szIntSS N d := by kernel_rfl
noncomputable def S_laws_szIntSS : FSig := ⟨[(K_SSi, false), (I, false)], [I], true, (G_szIntSS)⟩
noncomputable def Γ_laws_szTimetable : Ctx := { tk := assoc tks, ar := assoc ars, fs := assoc [(19, S_laws_szGraph), (20, S_laws_szIntSS)] }
noncomputable def F_laws_szTimetable (N : Nat) (d : ((Int × (List (Int × Int × Unit)) × Unit) × Int × List (List Int) × Unit) × Int × Unit) : Option (Int × Unit) :=
  let a0 : (Int × (List (Int × Int × Unit)) × Unit) × Int × List (List Int) × Unit := d.1
  let a1 : Int := d.2.1
  let r1 : Int × Unit := g_laws_szGraph ((a0.1, (a1, ())))
  if (decide (r1.1 < (0 : Int))) = true then
    some ((-1 : Int), ())
  else
    (G_szIntSS ((a0.2.2.1, (r1.1, ())))).bind fun r2 =>
    if (decide (r2.1 < (0 : Int))) = true then
      some ((-1 : Int), ())
    else
      some (r2.1, ())
theorem F_laws_szTimetable_ok (N : Nat) (d) : fnR Γ_laws_szTimetable (assoc []) true [(K_PPiSPiiqqiSSiq, false), (I, false)] [I] Try.f6.results.toList (bodyOf Try.f6) d = F_laws_szTimetable N d := by kernel_rfl
noncomputable def S_laws_szTimetable : FSig := ⟨[(K_PPiSPiiqqiSSiq, false), (I, false)], [I], true, (F_laws_szTimetable 0)⟩
noncomputable def Γ_laws_toIntA2 : Ctx := { tk := assoc tks, ar := assoc ars, fs := assoc [] }
abbrev laws_toIntA2_l0_H := (Int × Int × Unit) × (Int × Int × Unit) × (Int × Int × Unit) × Int × Unit
abbrev laws_toIntA2_l0_O := ((Int × Int × Unit) × (Int × Int × Unit) × Unit) ⊕ Empty
def laws_toIntA2_l0_h : Form := [(1, .box K_Piiq 99), (2, .box K_Piiq 99), (3, .box K_Piiq 99), (4, .v I)]
def laws_toIntA2_l0_o : Outs := [(.normal, [(2, .box K_Piiq 99), (3, .box K_Piiq 99)])]
noncomputable def laws_toIntA2_l0_r (N : Nat) (back : laws_toIntA2_l0_H → Option laws_toIntA2_l0_O) (d : laws_toIntA2_l0_H) : Option laws_toIntA2_l0_O :=
  let s1 : Int × Int × Unit := d.1
  let s2 : Int × Int × Unit := d.2.1
  let s3 : Int × Int × Unit := d.2.2.1
  let s4 : Int := d.2.2.2.1
  if (decide (s4 < (2 : Int))) = true then
    if (s4 == (0 : Int)) = true then
      if (s4 == (0 : Int)) = true then
        let x10 : Int := IntKind.wrap .i64 (s4 + (1 : Int))
        back ((s1, (s2, ((s1.1, s3.2), (x10, ())))))
      else
        if (s4 == (1 : Int)) = true then
        let x9 : Int := IntKind.wrap .i64 (s4 + (1 : Int))
        back ((s1, (s2, ((s3.1, (s1.1, s3.2.2)), (x9, ())))))
        else none
    else
      if (s4 == (1 : Int)) = true then
      if (s4 == (0 : Int)) = true then
        let x8 : Int := IntKind.wrap .i64 (s4 + (1 : Int))
        back ((s1, (s2, ((s1.2.1, s3.2), (x8, ())))))
      else
        if (s4 == (1 : Int)) = true then
        let x7 : Int := IntKind.wrap .i64 (s4 + (1 : Int))
        back ((s1, (s2, ((s3.1, (s1.2.1, s3.2.2)), (x7, ())))))
        else none
      else none
  else
    some (.inl ((s2, (s3, ()))))
noncomputable def laws_toIntA2_l0 (N : Nat) : Nat → laws_toIntA2_l0_H → Option laws_toIntA2_l0_O
  | 0, _ => none
  | k + 1, d => laws_toIntA2_l0_r N (laws_toIntA2_l0 N k) d
theorem laws_toIntA2_l0_ok (N : Nat) (back) (d) : roundR Γ_laws_toIntA2 (assoc []) 0 laws_toIntA2_l0_h laws_toIntA2_l0_o (loopOf Try.f78 0) back d = laws_toIntA2_l0_r N back d := by kernel_rfl
noncomputable def F_laws_toIntA2 (N : Nat) (d : (Int × Int × Unit) × Unit) : Option ((Int × Int × Unit) × Unit) :=
  let a0 : Int × Int × Unit := d.1
  (laws_toIntA2_l0 N N ((a0, (((0 : Int), ((0 : Int), ())), (((0 : Int), ((0 : Int), ())), ((0 : Int), ())))))).bind fun o5 => match o5 with
  | .inl d6 =>
    some (d6.2.1, ())
theorem F_laws_toIntA2_ok (N : Nat) (d) : fnR Γ_laws_toIntA2 (assoc [(0, ⟨laws_toIntA2_l0_h, laws_toIntA2_l0_o, laws_toIntA2_l0 N N⟩)]) true [(K_Piiq, false)] [K_Piiq] Try.f78.results.toList (bodyOf Try.f78) d = F_laws_toIntA2 N d := by kernel_rfl
noncomputable def S_laws_toIntA2 : FSig := ⟨[(K_Piiq, false)], [K_Piiq], true, (G_toIntA2)⟩
noncomputable def Γ_laws_toIntA2S : Ctx := { tk := assoc tks, ar := assoc ars, fs := assoc [(78, S_laws_toIntA2)] }
abbrev laws_toIntA2S_l0_H := (List (Int × Int × Unit)) × (List (Int × Int × Unit)) × Int × Unit
abbrev laws_toIntA2S_l0_O := ((List (Int × Int × Unit)) × Unit) ⊕ Empty
def laws_toIntA2S_l0_h : Form := [(0, .v K_SPiiq), (3, .own K_SPiiq 99), (4, .v I)]
def laws_toIntA2S_l0_o : Outs := [(.normal, [(3, .own K_SPiiq 99)])]
noncomputable def laws_toIntA2S_l0_r (N : Nat) (back : laws_toIntA2S_l0_H → Option laws_toIntA2S_l0_O) (d : laws_toIntA2S_l0_H) : Option laws_toIntA2S_l0_O :=
  let s0 : List (Int × Int × Unit) := d.1
  let s3 : List (Int × Int × Unit) := d.2.1
  let s4 : Int := d.2.2.1
  if (decide (s4 < (List.length s0 : Int))) = true then
    if (idxIn s4 (List.length s0)) = true then
    (G_toIntA2 (at_ K_Piiq s0 s4.toNat, ())).bind fun r6 =>
    if (idxIn s4 (List.length s3)) = true then
    let x7 : Int := IntKind.wrap .i64 (s4 + (1 : Int))
    back ((s0, (List.set s3 s4.toNat r6.1, (x7, ()))))
    else none
    else none
  else
    some (.inl (s3, ()))
noncomputable def laws_toIntA2S_l0 (N : Nat) : Nat → laws_toIntA2S_l0_H → Option laws_toIntA2S_l0_O
  | 0, _ => none
  | k + 1, d => laws_toIntA2S_l0_r N (laws_toIntA2S_l0 N k) d
theorem laws_toIntA2S_l0_ok (N : Nat) (back) (d) : roundR Γ_laws_toIntA2S (assoc []) 0 laws_toIntA2S_l0_h laws_toIntA2S_l0_o (loopOf Try.f55 0) back d = laws_toIntA2S_l0_r N back d := by kernel_rfl
noncomputable def F_laws_toIntA2S (N : Nat) (d : (List (Int × Int × Unit)) × Unit) : Option ((List (Int × Int × Unit)) × Unit) :=
  let a0 : List (Int × Int × Unit) := d.1
  if ((decide (0 ≤ (List.length a0 : Int)) && decide ((List.length a0 : Int) ≤ (List.length a0 : Int)) && decide ((List.length a0 : Int) ≤ (lim : Int)))) = true then
  let x1 : List (Int × Int × Unit) := List.replicate (List.length a0 : Int).toNat (((0 : Int), ((0 : Int), ())))
  (laws_toIntA2S_l0 N N ((a0, (x1, ((0 : Int), ()))))).bind fun o4 => match o4 with
  | .inl d5 =>
    some (d5.1, ())
  else none
theorem F_laws_toIntA2S_ok (N : Nat) (d) : fnR Γ_laws_toIntA2S (assoc [(0, ⟨laws_toIntA2S_l0_h, laws_toIntA2S_l0_o, laws_toIntA2S_l0 N N⟩)]) true [(K_SPiiq, false)] [K_SPiiq] Try.f55.results.toList (bodyOf Try.f55) d = F_laws_toIntA2S N d := by kernel_rfl
noncomputable def S_laws_toIntA2S : FSig := ⟨[(K_SPiiq, false)], [K_SPiiq], true, (G_toIntA2S)⟩
noncomputable def Γ_laws_toGraph : Ctx := { tk := assoc tks, ar := assoc ars, fs := assoc [(55, S_laws_toIntA2S)] }
noncomputable def F_laws_toGraph (N : Nat) (d : (Int × (List (Int × Int × Unit)) × Unit) × Unit) : Option ((Int × (List (Int × Int × Unit)) × Unit) × Unit) :=
  let a0 : Int × (List (Int × Int × Unit)) × Unit := d.1
  (G_toIntA2S (a0.2.1, ())).bind fun r1 =>
  some (((a0.1, (r1.1, ())), ()))
theorem F_laws_toGraph_ok (N : Nat) (d) : fnR Γ_laws_toGraph (assoc []) true [(K_PiSPiiqq, false)] [K_PiSPiiqq] Try.f27.results.toList (bodyOf Try.f27) d = F_laws_toGraph N d := by kernel_rfl
noncomputable def S_laws_toGraph : FSig := ⟨[(K_PiSPiiqq, false)], [K_PiSPiiqq], true, (F_laws_toGraph 0)⟩
noncomputable def Γ_laws_toIntS : Ctx := { tk := assoc tks, ar := assoc ars, fs := assoc [] }
abbrev laws_toIntS_l0_H := List Int × List Int × Int × Unit
abbrev laws_toIntS_l0_O := (List Int × Unit) ⊕ Empty
def laws_toIntS_l0_h : Form := [(0, .v K_Si), (3, .own K_Si 99), (4, .v I)]
def laws_toIntS_l0_o : Outs := [(.normal, [(3, .own K_Si 99)])]
noncomputable def laws_toIntS_l0_r (N : Nat) (back : laws_toIntS_l0_H → Option laws_toIntS_l0_O) (d : laws_toIntS_l0_H) : Option laws_toIntS_l0_O :=
  let s0 : List Int := d.1
  let s3 : List Int := d.2.1
  let s4 : Int := d.2.2.1
  if (decide (s4 < (List.length s0 : Int))) = true then
    if (idxIn s4 (List.length s0)) = true then
    if (idxIn s4 (List.length s3)) = true then
    let x6 : List Int := List.set s3 s4.toNat (at_ I s0 s4.toNat)
    let x7 : Int := IntKind.wrap .i64 (s4 + (1 : Int))
    back ((s0, (x6, (x7, ()))))
    else none
    else none
  else
    some (.inl (s3, ()))
noncomputable def laws_toIntS_l0 (N : Nat) : Nat → laws_toIntS_l0_H → Option laws_toIntS_l0_O
  | 0, _ => none
  | k + 1, d => laws_toIntS_l0_r N (laws_toIntS_l0 N k) d
theorem laws_toIntS_l0_ok (N : Nat) (back) (d) : roundR Γ_laws_toIntS (assoc []) 0 laws_toIntS_l0_h laws_toIntS_l0_o (loopOf Try.f56 0) back d = laws_toIntS_l0_r N back d := by kernel_rfl
noncomputable def F_laws_toIntS (N : Nat) (d : List Int × Unit) : Option (List Int × Unit) :=
  let a0 : List Int := d.1
  if ((decide (0 ≤ (List.length a0 : Int)) && decide ((List.length a0 : Int) ≤ (List.length a0 : Int)) && decide ((List.length a0 : Int) ≤ (lim : Int)))) = true then
  let x1 : List Int := List.replicate (List.length a0 : Int).toNat (0 : Int)
  (laws_toIntS_l0 N N ((a0, (x1, ((0 : Int), ()))))).bind fun o4 => match o4 with
  | .inl d5 =>
    some (d5.1, ())
  else none
theorem F_laws_toIntS_ok (N : Nat) (d) : fnR Γ_laws_toIntS (assoc [(0, ⟨laws_toIntS_l0_h, laws_toIntS_l0_o, laws_toIntS_l0 N N⟩)]) true [(K_Si, false)] [K_Si] Try.f56.results.toList (bodyOf Try.f56) d = F_laws_toIntS N d := by kernel_rfl
noncomputable def S_laws_toIntS : FSig := ⟨[(K_Si, false)], [K_Si], true, (G_toIntS)⟩
noncomputable def Γ_laws_toIntSS : Ctx := { tk := assoc tks, ar := assoc ars, fs := assoc [(56, S_laws_toIntS)] }
abbrev laws_toIntSS_l0_H := List (List Int) × List (List Int) × Int × Unit
abbrev laws_toIntSS_l0_O := (List (List Int) × Unit) ⊕ Empty
def laws_toIntSS_l0_h : Form := [(0, .v K_SSi), (3, .own K_SSi 99), (4, .v I)]
def laws_toIntSS_l0_o : Outs := [(.normal, [(3, .own K_SSi 99)])]
noncomputable def laws_toIntSS_l0_r (N : Nat) (back : laws_toIntSS_l0_H → Option laws_toIntSS_l0_O) (d : laws_toIntSS_l0_H) : Option laws_toIntSS_l0_O :=
  let s0 : List (List Int) := d.1
  let s3 : List (List Int) := d.2.1
  let s4 : Int := d.2.2.1
  if (decide (s4 < (List.length s0 : Int))) = true then
    if (idxIn s4 (List.length s0)) = true then
    (G_toIntS (at_ K_Si s0 s4.toNat, ())).bind fun r6 =>
    if (idxIn s4 (List.length s3)) = true then
    let x7 : Int := IntKind.wrap .i64 (s4 + (1 : Int))
    back ((s0, (List.set s3 s4.toNat r6.1, (x7, ()))))
    else none
    else none
  else
    some (.inl (s3, ()))
noncomputable def laws_toIntSS_l0 (N : Nat) : Nat → laws_toIntSS_l0_H → Option laws_toIntSS_l0_O
  | 0, _ => none
  | k + 1, d => laws_toIntSS_l0_r N (laws_toIntSS_l0 N k) d
theorem laws_toIntSS_l0_ok (N : Nat) (back) (d) : roundR Γ_laws_toIntSS (assoc []) 0 laws_toIntSS_l0_h laws_toIntSS_l0_o (loopOf Try.f28 0) back d = laws_toIntSS_l0_r N back d := by kernel_rfl
noncomputable def F_laws_toIntSS (N : Nat) (d : List (List Int) × Unit) : Option (List (List Int) × Unit) :=
  let a0 : List (List Int) := d.1
  if ((decide (0 ≤ (List.length a0 : Int)) && decide ((List.length a0 : Int) ≤ (List.length a0 : Int)) && decide ((List.length a0 : Int) ≤ (lim : Int)))) = true then
  let x1 : List (List Int) := List.replicate (List.length a0 : Int).toNat ([] : List Int)
  (laws_toIntSS_l0 N N ((a0, (x1, ((0 : Int), ()))))).bind fun o4 => match o4 with
  | .inl d5 =>
    some (d5.1, ())
  else none
theorem F_laws_toIntSS_ok (N : Nat) (d) : fnR Γ_laws_toIntSS (assoc [(0, ⟨laws_toIntSS_l0_h, laws_toIntSS_l0_o, laws_toIntSS_l0 N N⟩)]) true [(K_SSi, false)] [K_SSi] Try.f28.results.toList (bodyOf Try.f28) d = F_laws_toIntSS N d := by kernel_rfl
noncomputable def S_laws_toIntSS : FSig := ⟨[(K_SSi, false)], [K_SSi], true, (G_toIntSS)⟩
noncomputable def Γ_laws_toTimetable : Ctx := { tk := assoc tks, ar := assoc ars, fs := assoc [(27, S_laws_toGraph), (28, S_laws_toIntSS)] }
noncomputable def F_laws_toTimetable (N : Nat) (d : ((Int × (List (Int × Int × Unit)) × Unit) × Int × List (List Int) × Unit) × Unit) : Option (((Int × (List (Int × Int × Unit)) × Unit) × Int × List (List Int) × Unit) × Unit) :=
  let a0 : (Int × (List (Int × Int × Unit)) × Unit) × Int × List (List Int) × Unit := d.1
  ((F_laws_toGraph 0) (a0.1, ())).bind fun r1 =>
  (G_toIntSS (a0.2.2.1, ())).bind fun r2 =>
  some (((r1.1, (a0.2.1, (r2.1, ()))), ()))
theorem F_laws_toTimetable_ok (N : Nat) (d) : fnR Γ_laws_toTimetable (assoc []) true [(K_PPiSPiiqqiSSiq, false)] [K_PPiSPiiqqiSSiq] Try.f8.results.toList (bodyOf Try.f8) d = F_laws_toTimetable N d := by kernel_rfl
noncomputable def S_laws_toTimetable : FSig := ⟨[(K_PPiSPiiqqiSSiq, false)], [K_PPiSPiiqqiSSiq], true, (F_laws_toTimetable 0)⟩
noncomputable def Γ_spec_l1In : Ctx := { tk := assoc tks, ar := assoc ars, fs := assoc [] }
noncomputable def F_spec_l1In (N : Nat) (d : Int × Int × Int × Unit) : Option (Bool × Unit) :=
  let a0 : Int := d.1
  let a1 : Int := d.2.1
  let a2 : Int := d.2.2.1
  if (decide (a0 ≥ a1)) = true then
    some (decide (a0 ≤ a2), ())
  else
    some (false, ())
theorem F_spec_l1In_ok (N : Nat) (d) : fnR Γ_spec_l1In (assoc []) true [(I, false), (I, false), (I, false)] [.bool] Try.f49.results.toList (bodyOf Try.f49) d = F_spec_l1In N d := by kernel_rfl
noncomputable def g_spec_l1In (d : Int × Int × Int × Unit) : Bool × Unit :=
  let a0 : Int := d.1
  let a1 : Int := d.2.1
  let a2 : Int := d.2.2.1
  if (decide (a0 ≥ a1)) = true then
    (decide (a0 ≤ a2), ())
  else
    (false, ())
theorem F_spec_l1In_tot (N : Nat) (d) : F_spec_l1In N d = some (g_spec_l1In d) := by
  unfold F_spec_l1In g_spec_l1In
  first
    | rfl
    | (dsimp only; (repeat' split) <;> rfl)
noncomputable def S_spec_l1In : FSig := ⟨[(I, false), (I, false), (I, false)], [.bool], true, (fun d => some (g_spec_l1In d))⟩
noncomputable def Γ_spec_l1Rising : Ctx := { tk := assoc tks, ar := assoc ars, fs := assoc [(49, S_spec_l1In)] }
abbrev spec_l1Rising_l0_H := List Int × Int × Int × Int × Unit
abbrev spec_l1Rising_l0_O := (Bool × Unit) ⊕ Unit ⊕ Empty
def spec_l1Rising_l0_h : Form := [(0, .v K_Si), (1, .v I), (2, .v I), (7, .v I)]
def spec_l1Rising_l0_o : Outs := [(.ret, [(6, .v .bool)]), (.normal, [])]
noncomputable def spec_l1Rising_l0_r (N : Nat) (back : spec_l1Rising_l0_H → Option spec_l1Rising_l0_O) (d : spec_l1Rising_l0_H) : Option spec_l1Rising_l0_O :=
  let s0 : List Int := d.1
  let s1 : Int := d.2.1
  let s2 : Int := d.2.2.1
  let s7 : Int := d.2.2.2.1
  if (decide (s7 < (List.length s0 : Int))) = true then
    if (idxIn s7 (List.length s0)) = true then
    let r8 : Bool × Unit := g_spec_l1In ((at_ I s0 s7.toNat, (s1, (s2, ()))))
    if (!r8.1) = true then
      some (.inl (false, ()))
    else
      if (decide (s7 > (0 : Int))) = true then
        let x9 : Int := IntKind.wrap .i64 (s7 - (1 : Int))
        if (idxIn x9 (List.length s0)) = true then
        if (idxIn s7 (List.length s0)) = true then
        if (decide (at_ I s0 x9.toNat ≥ at_ I s0 s7.toNat)) = true then
          some (.inl (false, ()))
        else
          let x10 : Int := IntKind.wrap .i64 (s7 + (1 : Int))
          back ((s0, (s1, (s2, (x10, ())))))
        else none
        else none
      else
        let x11 : Int := IntKind.wrap .i64 (s7 + (1 : Int))
        back ((s0, (s1, (s2, (x11, ())))))
    else none
  else
    some (.inr (.inl ()))
noncomputable def spec_l1Rising_l0 (N : Nat) : Nat → spec_l1Rising_l0_H → Option spec_l1Rising_l0_O
  | 0, _ => none
  | k + 1, d => spec_l1Rising_l0_r N (spec_l1Rising_l0 N k) d
theorem spec_l1Rising_l0_ok (N : Nat) (back) (d) : roundR Γ_spec_l1Rising (assoc []) 0 spec_l1Rising_l0_h spec_l1Rising_l0_o (loopOf Try.f47 0) back d = spec_l1Rising_l0_r N back d := by kernel_rfl
noncomputable def F_spec_l1Rising (N : Nat) (d : List Int × Int × Int × Unit) : Option (Bool × Unit) :=
  let a0 : List Int := d.1
  let a1 : Int := d.2.1
  let a2 : Int := d.2.2.1
  (spec_l1Rising_l0 N N ((a0, (a1, (a2, ((0 : Int), ())))))).bind fun o5 => match o5 with
  | .inl d6 =>
    some (d6.1, ())
  | .inr (.inl d7) =>
    some (true, ())
theorem F_spec_l1Rising_ok (N : Nat) (d) : fnR Γ_spec_l1Rising (assoc [(0, ⟨spec_l1Rising_l0_h, spec_l1Rising_l0_o, spec_l1Rising_l0 N N⟩)]) true [(K_Si, false), (I, false), (I, false)] [.bool] Try.f47.results.toList (bodyOf Try.f47) d = F_spec_l1Rising N d := by kernel_rfl
noncomputable def S_spec_l1Rising : FSig := ⟨[(K_Si, false), (I, false), (I, false)], [.bool], true, (G_l1Rising)⟩
noncomputable def Γ_spec_l2Before : Ctx := { tk := assoc tks, ar := assoc ars, fs := assoc [] }
noncomputable def F_spec_l2Before (N : Nat) (d : (Int × Int × Unit) × (Int × Int × Unit) × Unit) : Option (Bool × Unit) :=
  let a0 : Int × Int × Unit := d.1
  let a1 : Int × Int × Unit := d.2.1
  if (decide (a0.1 < a1.1)) = true then
    some (true, ())
  else
    if (a0.1 == a1.1) = true then
      some (decide (a0.2.1 < a1.2.1), ())
    else
      some (false, ())
theorem F_spec_l2Before_ok (N : Nat) (d) : fnR Γ_spec_l2Before (assoc []) true [(K_Piiq, false), (K_Piiq, false)] [.bool] Try.f85.results.toList (bodyOf Try.f85) d = F_spec_l2Before N d := by kernel_rfl
noncomputable def g_spec_l2Before (d : (Int × Int × Unit) × (Int × Int × Unit) × Unit) : Bool × Unit :=
  let a0 : Int × Int × Unit := d.1
  let a1 : Int × Int × Unit := d.2.1
  if (decide (a0.1 < a1.1)) = true then
    (true, ())
  else
    if (a0.1 == a1.1) = true then
      (decide (a0.2.1 < a1.2.1), ())
    else
      (false, ())
theorem F_spec_l2Before_tot (N : Nat) (d) : F_spec_l2Before N d = some (g_spec_l2Before d) := by
  unfold F_spec_l2Before g_spec_l2Before
  first
    | rfl
    | (dsimp only; (repeat' split) <;> rfl)
noncomputable def S_spec_l2Before : FSig := ⟨[(K_Piiq, false), (K_Piiq, false)], [.bool], true, (fun d => some (g_spec_l2Before d))⟩
noncomputable def Γ_spec_l2Good : Ctx := { tk := assoc tks, ar := assoc ars, fs := assoc [(49, S_spec_l1In), (85, S_spec_l2Before)] }
abbrev spec_l2Good_l0_H := (Int × (List (Int × Int × Unit)) × Unit) × Int × Unit
abbrev spec_l2Good_l0_O := (Bool × Unit) ⊕ ((Int × (List (Int × Int × Unit)) × Unit) × Unit) ⊕ Empty
def spec_l2Good_l0_h : Form := [(1, .box K_PiSPiiqq 0), (3, .v I)]
def spec_l2Good_l0_o : Outs := [(.ret, [(2, .v .bool)]), (.normal, [(1, .box K_PiSPiiqq 0)])]
noncomputable def spec_l2Good_l0_r (N : Nat) (back : spec_l2Good_l0_H → Option spec_l2Good_l0_O) (d : spec_l2Good_l0_H) : Option spec_l2Good_l0_O :=
  let s1 : Int × (List (Int × Int × Unit)) × Unit := d.1
  let s3 : Int := d.2.1
  if (decide (s3 < (List.length s1.2.1 : Int))) = true then
    if (idxIn s3 (List.length s1.2.1)) = true then
    let x13 : Int := IntKind.wrap .i64 (s1.1 - (1 : Int))
    let r14 : Bool × Unit := g_spec_l1In (((at_ K_Piiq s1.2.1 s3.toNat).1, ((0 : Int), (x13, ()))))
    if (!r14.1) = true then
      some (.inl (false, ()))
    else
      let x15 : Int := IntKind.wrap .i64 (s1.1 - (1 : Int))
      let r16 : Bool × Unit := g_spec_l1In (((at_ K_Piiq s1.2.1 s3.toNat).2.1, ((0 : Int), (x15, ()))))
      if (!r16.1) = true then
        some (.inl (false, ()))
      else
        if (decide ((at_ K_Piiq s1.2.1 s3.toNat).1 ≥ (at_ K_Piiq s1.2.1 s3.toNat).2.1)) = true then
          some (.inl (false, ()))
        else
          if (decide (s3 > (0 : Int))) = true then
            let x17 : Int := IntKind.wrap .i64 (s3 - (1 : Int))
            if (idxIn x17 (List.length s1.2.1)) = true then
            let r18 : Bool × Unit := g_spec_l2Before ((at_ K_Piiq s1.2.1 x17.toNat, (at_ K_Piiq s1.2.1 s3.toNat, ())))
            if (!r18.1) = true then
              some (.inl (false, ()))
            else
              let x19 : Int := IntKind.wrap .i64 (s3 + (1 : Int))
              back ((s1, (x19, ())))
            else none
          else
            let x20 : Int := IntKind.wrap .i64 (s3 + (1 : Int))
            back ((s1, (x20, ())))
    else none
  else
    some (.inr (.inl (s1, ())))
noncomputable def spec_l2Good_l0 (N : Nat) : Nat → spec_l2Good_l0_H → Option spec_l2Good_l0_O
  | 0, _ => none
  | k + 1, d => spec_l2Good_l0_r N (spec_l2Good_l0 N k) d
theorem spec_l2Good_l0_ok (N : Nat) (back) (d) : roundR Γ_spec_l2Good (assoc []) 0 spec_l2Good_l0_h spec_l2Good_l0_o (loopOf Try.f74 0) back d = spec_l2Good_l0_r N back d := by kernel_rfl
noncomputable def F_spec_l2Good (N : Nat) (d : (Int × (List (Int × Int × Unit)) × Unit) × Unit) : Option (Bool × Unit) :=
  let a0 : Int × (List (Int × Int × Unit)) × Unit := d.1
  (spec_l2Good_l0 N N ((a0, ((0 : Int), ())))).bind fun o9 => match o9 with
  | .inl d10 =>
    some (d10.1, ())
  | .inr (.inl d11) =>
    let r12 : Bool × Unit := g_spec_l1In ((d11.1.1, ((0 : Int), ((8 : Int), ()))))
    some (r12.1, ())
theorem F_spec_l2Good_ok (N : Nat) (d) : fnR Γ_spec_l2Good (assoc [(0, ⟨spec_l2Good_l0_h, spec_l2Good_l0_o, spec_l2Good_l0 N N⟩)]) true [(K_PiSPiiqq, false)] [.bool] Try.f74.results.toList (bodyOf Try.f74) d = F_spec_l2Good N d := by kernel_rfl
noncomputable def S_spec_l2Good : FSig := ⟨[(K_PiSPiiqq, false)], [.bool], true, (G_graph)⟩
noncomputable def Γ_spec_l4Field : Ctx := { tk := assoc tks, ar := assoc ars, fs := assoc [(49, S_spec_l1In), (74, S_spec_l2Good)] }
noncomputable def F_spec_l4Field (N : Nat) (d : (Int × (List (Int × Int × Unit)) × Unit) × Int × Unit) : Option (Bool × Unit) :=
  let a0 : Int × (List (Int × Int × Unit)) × Unit := d.1
  let a1 : Int := d.2.1
  (G_graph (a0, ())).bind fun r1 =>
  if (r1.1) = true then
    if (decide (a0.1 > (0 : Int))) = true then
      let r2 : Bool × Unit := g_spec_l1In ((a1, ((1 : Int), ((3 : Int), ()))))
      some (r2.1, ())
    else
      some (false, ())
  else
    some (false, ())
theorem F_spec_l4Field_ok (N : Nat) (d) : fnR Γ_spec_l4Field (assoc []) true [(K_PiSPiiqq, false), (I, false)] [.bool] Try.f48.results.toList (bodyOf Try.f48) d = F_spec_l4Field N d := by kernel_rfl
noncomputable def S_spec_l4Field : FSig := ⟨[(K_PiSPiiqq, false), (I, false)], [.bool], true, (F_spec_l4Field 0)⟩
noncomputable def Γ_spec_l11Good : Ctx := { tk := assoc tks, ar := assoc ars, fs := assoc [(47, S_spec_l1Rising), (48, S_spec_l4Field), (49, S_spec_l1In)] }
abbrev spec_l11Good_l0_H := ((Int × (List (Int × Int × Unit)) × Unit) × Int × List (List Int) × Unit) × Int × Unit
abbrev spec_l11Good_l0_O := (Bool × Unit) ⊕ (((Int × (List (Int × Int × Unit)) × Unit) × Int × List (List Int) × Unit) × Unit) ⊕ Empty
def spec_l11Good_l0_h : Form := [(1, .box K_PPiSPiiqqiSSiq 0), (3, .v I)]
def spec_l11Good_l0_o : Outs := [(.ret, [(2, .v .bool)]), (.normal, [(1, .box K_PPiSPiiqqiSSiq 0)])]
noncomputable def spec_l11Good_l0_r (N : Nat) (back : spec_l11Good_l0_H → Option spec_l11Good_l0_O) (d : spec_l11Good_l0_H) : Option spec_l11Good_l0_O :=
  let s1 : (Int × (List (Int × Int × Unit)) × Unit) × Int × List (List Int) × Unit := d.1
  let s3 : Int := d.2.1
  if (decide (s3 < (List.length s1.2.2.1 : Int))) = true then
    if (idxIn s3 (List.length s1.2.2.1)) = true then
    let x9 : Int := IntKind.wrap .i64 (s1.2.1 - (1 : Int))
    (G_l1Rising ((at_ K_Si s1.2.2.1 s3.toNat, ((0 : Int), (x9, ()))))).bind fun r10 =>
    if (!r10.1) = true then
      some (.inl (false, ()))
    else
      let x11 : Int := IntKind.wrap .i64 (s3 + (1 : Int))
      back ((s1, (x11, ())))
    else none
  else
    some (.inr (.inl (s1, ())))
noncomputable def spec_l11Good_l0 (N : Nat) : Nat → spec_l11Good_l0_H → Option spec_l11Good_l0_O
  | 0, _ => none
  | k + 1, d => spec_l11Good_l0_r N (spec_l11Good_l0 N k) d
theorem spec_l11Good_l0_ok (N : Nat) (back) (d) : roundR Γ_spec_l11Good (assoc []) 0 spec_l11Good_l0_h spec_l11Good_l0_o (loopOf Try.f21 0) back d = spec_l11Good_l0_r N back d := by kernel_rfl
noncomputable def F_spec_l11Good (N : Nat) (d : ((Int × (List (Int × Int × Unit)) × Unit) × Int × List (List Int) × Unit) × Unit) : Option (Bool × Unit) :=
  let a0 : (Int × (List (Int × Int × Unit)) × Unit) × Int × List (List Int) × Unit := d.1
  (spec_l11Good_l0 N N ((a0, ((0 : Int), ())))).bind fun o4 => match o4 with
  | .inl d5 =>
    some (d5.1, ())
  | .inr (.inl d6) =>
    ((F_spec_l4Field 0) ((d6.1.1, ((1 : Int), ())))).bind fun r7 =>
    if (r7.1) = true then
      let r8 : Bool × Unit := g_spec_l1In ((d6.1.2.1, ((1 : Int), ((4 : Int), ()))))
      if (r8.1) = true then
        some ((List.length d6.1.2.2.1 : Int) == (List.length d6.1.1.2.1 : Int), ())
      else
        some (false, ())
    else
      some (false, ())
theorem F_spec_l11Good_ok (N : Nat) (d) : fnR Γ_spec_l11Good (assoc [(0, ⟨spec_l11Good_l0_h, spec_l11Good_l0_o, spec_l11Good_l0 N N⟩)]) true [(K_PPiSPiiqqiSSiq, false)] [.bool] Try.f21.results.toList (bodyOf Try.f21) d = F_spec_l11Good N d := by kernel_rfl
noncomputable def S_spec_l11Good : FSig := ⟨[(K_PPiSPiiqqiSSiq, false)], [.bool], true, (G_l11Good)⟩
noncomputable def Γ_spec_l1Has : Ctx := { tk := assoc tks, ar := assoc ars, fs := assoc [] }
abbrev spec_l1Has_l0_H := List Int × Int × Int × Unit
abbrev spec_l1Has_l0_O := (Bool × Unit) ⊕ Unit ⊕ Empty
def spec_l1Has_l0_h : Form := [(0, .v K_Si), (1, .v I), (5, .v I)]
def spec_l1Has_l0_o : Outs := [(.ret, [(4, .v .bool)]), (.normal, [])]
noncomputable def spec_l1Has_l0_r (N : Nat) (back : spec_l1Has_l0_H → Option spec_l1Has_l0_O) (d : spec_l1Has_l0_H) : Option spec_l1Has_l0_O :=
  let s0 : List Int := d.1
  let s1 : Int := d.2.1
  let s5 : Int := d.2.2.1
  if (decide (s5 < (List.length s0 : Int))) = true then
    if (idxIn s5 (List.length s0)) = true then
    if (at_ I s0 s5.toNat == s1) = true then
      some (.inl (true, ()))
    else
      let x5 : Int := IntKind.wrap .i64 (s5 + (1 : Int))
      back ((s0, (s1, (x5, ()))))
    else none
  else
    some (.inr (.inl ()))
noncomputable def spec_l1Has_l0 (N : Nat) : Nat → spec_l1Has_l0_H → Option spec_l1Has_l0_O
  | 0, _ => none
  | k + 1, d => spec_l1Has_l0_r N (spec_l1Has_l0 N k) d
theorem spec_l1Has_l0_ok (N : Nat) (back) (d) : roundR Γ_spec_l1Has (assoc []) 0 spec_l1Has_l0_h spec_l1Has_l0_o (loopOf Try.f75 0) back d = spec_l1Has_l0_r N back d := by kernel_rfl
noncomputable def F_spec_l1Has (N : Nat) (d : List Int × Int × Unit) : Option (Bool × Unit) :=
  let a0 : List Int := d.1
  let a1 : Int := d.2.1
  (spec_l1Has_l0 N N ((a0, (a1, ((0 : Int), ()))))).bind fun o2 => match o2 with
  | .inl d3 =>
    some (d3.1, ())
  | .inr (.inl d4) =>
    some (false, ())
theorem F_spec_l1Has_ok (N : Nat) (d) : fnR Γ_spec_l1Has (assoc [(0, ⟨spec_l1Has_l0_h, spec_l1Has_l0_o, spec_l1Has_l0 N N⟩)]) true [(K_Si, false), (I, false)] [.bool] Try.f75.results.toList (bodyOf Try.f75) d = F_spec_l1Has N d := by kernel_rfl
noncomputable def S_spec_l1Has : FSig := ⟨[(K_Si, false), (I, false)], [.bool], true, (G_l1Has)⟩
noncomputable def Γ_spec_l11Open : Ctx := { tk := assoc tks, ar := assoc ars, fs := assoc [(75, S_spec_l1Has)] }
abbrev spec_l11Open_l0_H := Int × ((Int × (List (Int × Int × Unit)) × Unit) × Int × List (List Int) × Unit) × (Int × (List (Int × Int × Unit)) × Unit) × (Int × (List (Int × Int × Unit)) × Unit) × Int × Unit
abbrev spec_l11Open_l0_O := ((Int × (List (Int × Int × Unit)) × Unit) × (Int × (List (Int × Int × Unit)) × Unit) × Unit) ⊕ Empty
def spec_l11Open_l0_h : Form := [(1, .v I), (2, .box K_PPiSPiiqqiSSiq 0), (4, .box K_PiSPiiqq 99), (5, .box K_PiSPiiqq 99), (6, .v I)]
def spec_l11Open_l0_o : Outs := [(.normal, [(4, .box K_PiSPiiqq 99), (5, .box K_PiSPiiqq 99)])]
noncomputable def spec_l11Open_l0_r (N : Nat) (back : spec_l11Open_l0_H → Option spec_l11Open_l0_O) (d : spec_l11Open_l0_H) : Option spec_l11Open_l0_O :=
  let s1 : Int := d.1
  let s2 : (Int × (List (Int × Int × Unit)) × Unit) × Int × List (List Int) × Unit := d.2.1
  let s4 : Int × (List (Int × Int × Unit)) × Unit := d.2.2.1
  let s5 : Int × (List (Int × Int × Unit)) × Unit := d.2.2.2.1
  let s6 : Int := d.2.2.2.2.1
  if (decide (s6 < (List.length s2.1.2.1 : Int))) = true then
    if (idxIn s6 (List.length s2.2.2.1)) = true then
    if (s2.2.1 != 0) = true then
    (G_l1Has ((at_ K_Si s2.2.2.1 s6.toNat, (s1.tmod s2.2.1, ())))).bind fun r7 =>
    if (r7.1) = true then
      if (idxIn s6 (List.length s2.1.2.1)) = true then
      if (decide (List.length s5.2.1 + List.length ([at_ K_Piiq s2.1.2.1 s6.toNat]) ≤ lim)) = true then
      let x8 : List (Int × Int × Unit) := s5.2.1 ++ ([at_ K_Piiq s2.1.2.1 s6.toNat])
      let x9 : Int := IntKind.wrap .i64 (s6 + (1 : Int))
      back ((s1, (s2, (s4, ((s5.1, (x8, s5.2.2)), (x9, ()))))))
      else none
      else none
    else
      let x10 : Int := IntKind.wrap .i64 (s6 + (1 : Int))
      back ((s1, (s2, (s4, (s5, (x10, ()))))))
    else none
    else none
  else
    some (.inl ((s4, (s5, ()))))
noncomputable def spec_l11Open_l0 (N : Nat) : Nat → spec_l11Open_l0_H → Option spec_l11Open_l0_O
  | 0, _ => none
  | k + 1, d => spec_l11Open_l0_r N (spec_l11Open_l0 N k) d
theorem spec_l11Open_l0_ok (N : Nat) (back) (d) : roundR Γ_spec_l11Open (assoc []) 0 spec_l11Open_l0_h spec_l11Open_l0_o (loopOf Try.f50 0) back d = spec_l11Open_l0_r N back d := by kernel_rfl
noncomputable def F_spec_l11Open (N : Nat) (d : ((Int × (List (Int × Int × Unit)) × Unit) × Int × List (List Int) × Unit) × Int × Unit) : Option ((Int × (List (Int × Int × Unit)) × Unit) × Unit) :=
  let a0 : (Int × (List (Int × Int × Unit)) × Unit) × Int × List (List Int) × Unit := d.1
  let a1 : Int := d.2.1
  (spec_l11Open_l0 N N ((a1, (a0, (((0 : Int), (([] : List (Int × Int × Unit)), ())), ((a0.1.1, (([] : List (Int × Int × Unit)), ())), ((0 : Int), ()))))))).bind fun o5 => match o5 with
  | .inl d6 =>
    some (d6.2.1, ())
theorem F_spec_l11Open_ok (N : Nat) (d) : fnR Γ_spec_l11Open (assoc [(0, ⟨spec_l11Open_l0_h, spec_l11Open_l0_o, spec_l11Open_l0 N N⟩)]) true [(K_PPiSPiiqqiSSiq, false), (I, false)] [K_PiSPiiqq] Try.f50.results.toList (bodyOf Try.f50) d = F_spec_l11Open N d := by kernel_rfl
noncomputable def S_spec_l11Open : FSig := ⟨[(K_PPiSPiiqqiSSiq, false), (I, false)], [K_PiSPiiqq], true, (G_l11Open)⟩
noncomputable def Γ_spec_l2Near : Ctx := { tk := assoc tks, ar := assoc ars, fs := assoc [] }
abbrev spec_l2Near_l0_H := Int × Int × (Int × (List (Int × Int × Unit)) × Unit) × Int × Unit
abbrev spec_l2Near_l0_O := (Bool × Unit) ⊕ Unit ⊕ Empty
def spec_l2Near_l0_h : Form := [(1, .v I), (2, .v I), (3, .box K_PiSPiiqq 0), (7, .v I)]
def spec_l2Near_l0_o : Outs := [(.ret, [(6, .v .bool)]), (.normal, [])]
noncomputable def spec_l2Near_l0_r (N : Nat) (back : spec_l2Near_l0_H → Option spec_l2Near_l0_O) (d : spec_l2Near_l0_H) : Option spec_l2Near_l0_O :=
  let s1 : Int := d.1
  let s2 : Int := d.2.1
  let s3 : Int × (List (Int × Int × Unit)) × Unit := d.2.2.1
  let s7 : Int := d.2.2.2.1
  if (decide (s7 < (List.length s3.2.1 : Int))) = true then
    if (idxIn s7 (List.length s3.2.1)) = true then
    if ((at_ K_Piiq s3.2.1 s7.toNat).1 == s1) = true then
      if ((at_ K_Piiq s3.2.1 s7.toNat).2.1 == s2) = true then
        some (.inl (true, ()))
      else
        if ((at_ K_Piiq s3.2.1 s7.toNat).1 == s2) = true then
          if ((at_ K_Piiq s3.2.1 s7.toNat).2.1 == s1) = true then
            some (.inl (true, ()))
          else
            let x8 : Int := IntKind.wrap .i64 (s7 + (1 : Int))
            back ((s1, (s2, (s3, (x8, ())))))
        else
          let x9 : Int := IntKind.wrap .i64 (s7 + (1 : Int))
          back ((s1, (s2, (s3, (x9, ())))))
    else
      if ((at_ K_Piiq s3.2.1 s7.toNat).1 == s2) = true then
        if ((at_ K_Piiq s3.2.1 s7.toNat).2.1 == s1) = true then
          some (.inl (true, ()))
        else
          let x10 : Int := IntKind.wrap .i64 (s7 + (1 : Int))
          back ((s1, (s2, (s3, (x10, ())))))
      else
        let x11 : Int := IntKind.wrap .i64 (s7 + (1 : Int))
        back ((s1, (s2, (s3, (x11, ())))))
    else none
  else
    some (.inr (.inl ()))
noncomputable def spec_l2Near_l0 (N : Nat) : Nat → spec_l2Near_l0_H → Option spec_l2Near_l0_O
  | 0, _ => none
  | k + 1, d => spec_l2Near_l0_r N (spec_l2Near_l0 N k) d
theorem spec_l2Near_l0_ok (N : Nat) (back) (d) : roundR Γ_spec_l2Near (assoc []) 0 spec_l2Near_l0_h spec_l2Near_l0_o (loopOf Try.f86 0) back d = spec_l2Near_l0_r N back d := by kernel_rfl
noncomputable def F_spec_l2Near (N : Nat) (d : (Int × (List (Int × Int × Unit)) × Unit) × Int × Int × Unit) : Option (Bool × Unit) :=
  let a0 : Int × (List (Int × Int × Unit)) × Unit := d.1
  let a1 : Int := d.2.1
  let a2 : Int := d.2.2.1
  (spec_l2Near_l0 N N ((a1, (a2, (a0, ((0 : Int), ())))))).bind fun o5 => match o5 with
  | .inl d6 =>
    some (d6.1, ())
  | .inr (.inl d7) =>
    some (false, ())
theorem F_spec_l2Near_ok (N : Nat) (d) : fnR Γ_spec_l2Near (assoc [(0, ⟨spec_l2Near_l0_h, spec_l2Near_l0_o, spec_l2Near_l0 N N⟩)]) true [(K_PiSPiiqq, false), (I, false), (I, false)] [.bool] Try.f86.results.toList (bodyOf Try.f86) d = F_spec_l2Near N d := by kernel_rfl
noncomputable def S_spec_l2Near : FSig := ⟨[(K_PiSPiiqq, false), (I, false), (I, false)], [.bool], true, (G_l2Near)⟩
noncomputable def Γ_spec_l2Neighbors : Ctx := { tk := assoc tks, ar := assoc ars, fs := assoc [(86, S_spec_l2Near)] }
abbrev spec_l2Neighbors_l0_H := Int × (Int × (List (Int × Int × Unit)) × Unit) × List Int × Int × Unit
abbrev spec_l2Neighbors_l0_O := (List Int × Unit) ⊕ Empty
def spec_l2Neighbors_l0_h : Form := [(1, .v I), (2, .box K_PiSPiiqq 0), (5, .own K_Si 99), (6, .v I)]
def spec_l2Neighbors_l0_o : Outs := [(.normal, [(5, .own K_Si 99)])]
noncomputable def spec_l2Neighbors_l0_r (N : Nat) (back : spec_l2Neighbors_l0_H → Option spec_l2Neighbors_l0_O) (d : spec_l2Neighbors_l0_H) : Option spec_l2Neighbors_l0_O :=
  let s1 : Int := d.1
  let s2 : Int × (List (Int × Int × Unit)) × Unit := d.2.1
  let s5 : List Int := d.2.2.1
  let s6 : Int := d.2.2.2.1
  if (decide (s6 < s2.1)) = true then
    (G_l2Near ((s2, (s1, (s6, ()))))).bind fun r6 =>
    if (r6.1) = true then
      if (decide (List.length s5 + List.length ([s6]) ≤ lim)) = true then
      let x7 : Int := IntKind.wrap .i64 (s6 + (1 : Int))
      back ((s1, (s2, (s5 ++ ([s6]), (x7, ())))))
      else none
    else
      let x8 : Int := IntKind.wrap .i64 (s6 + (1 : Int))
      back ((s1, (s2, (s5, (x8, ())))))
  else
    some (.inl (s5, ()))
noncomputable def spec_l2Neighbors_l0 (N : Nat) : Nat → spec_l2Neighbors_l0_H → Option spec_l2Neighbors_l0_O
  | 0, _ => none
  | k + 1, d => spec_l2Neighbors_l0_r N (spec_l2Neighbors_l0 N k) d
theorem spec_l2Neighbors_l0_ok (N : Nat) (back) (d) : roundR Γ_spec_l2Neighbors (assoc []) 0 spec_l2Neighbors_l0_h spec_l2Neighbors_l0_o (loopOf Try.f77 0) back d = spec_l2Neighbors_l0_r N back d := by kernel_rfl
noncomputable def F_spec_l2Neighbors (N : Nat) (d : (Int × (List (Int × Int × Unit)) × Unit) × Int × Unit) : Option (List Int × Unit) :=
  let a0 : Int × (List (Int × Int × Unit)) × Unit := d.1
  let a1 : Int := d.2.1
  (spec_l2Neighbors_l0 N N ((a1, (a0, (([] : List Int), ((0 : Int), ())))))).bind fun o4 => match o4 with
  | .inl d5 =>
    some (d5.1, ())
theorem F_spec_l2Neighbors_ok (N : Nat) (d) : fnR Γ_spec_l2Neighbors (assoc [(0, ⟨spec_l2Neighbors_l0_h, spec_l2Neighbors_l0_o, spec_l2Neighbors_l0 N N⟩)]) true [(K_PiSPiiqq, false), (I, false)] [K_Si] Try.f77.results.toList (bodyOf Try.f77) d = F_spec_l2Neighbors N d := by kernel_rfl
noncomputable def S_spec_l2Neighbors : FSig := ⟨[(K_PiSPiiqq, false), (I, false)], [K_Si], true, (G_l2Neighbors)⟩
noncomputable def Γ_spec_l1Put : Ctx := { tk := assoc tks, ar := assoc ars, fs := assoc [] }
abbrev spec_l1Put_l0_H := List Int × Int × Int × Unit
abbrev spec_l1Put_l0_O := (List Int × Int × Int × Unit) ⊕ Empty
def spec_l1Put_l0_h : Form := [(0, .v K_Si), (1, .v I), (5, .v I)]
def spec_l1Put_l0_o : Outs := [(.normal, [(0, .v K_Si), (1, .v I), (5, .v I)])]
noncomputable def spec_l1Put_l0_r (N : Nat) (back : spec_l1Put_l0_H → Option spec_l1Put_l0_O) (d : spec_l1Put_l0_H) : Option spec_l1Put_l0_O :=
  let s0 : List Int := d.1
  let s1 : Int := d.2.1
  let s5 : Int := d.2.2.1
  if (decide (s5 < (List.length s0 : Int))) = true then
    if (idxIn s5 (List.length s0)) = true then
    if (decide (at_ I s0 s5.toNat < s1)) = true then
      let x11 : Int := IntKind.wrap .i64 (s5 + (1 : Int))
      back ((s0, (s1, (x11, ()))))
    else
      some (.inl ((s0, (s1, (s5, ())))))
    else none
  else
    some (.inl ((s0, (s1, (s5, ())))))
noncomputable def spec_l1Put_l0 (N : Nat) : Nat → spec_l1Put_l0_H → Option spec_l1Put_l0_O
  | 0, _ => none
  | k + 1, d => spec_l1Put_l0_r N (spec_l1Put_l0 N k) d
theorem spec_l1Put_l0_ok (N : Nat) (back) (d) : roundR Γ_spec_l1Put (assoc []) 0 spec_l1Put_l0_h spec_l1Put_l0_o (loopOf Try.f76 0) back d = spec_l1Put_l0_r N back d := by kernel_rfl
noncomputable def F_spec_l1Put (N : Nat) (d : List Int × Int × Unit) : Option (List Int × Unit) :=
  let a0 : List Int := d.1
  let a1 : Int := d.2.1
  (spec_l1Put_l0 N N ((a0, (a1, ((0 : Int), ()))))).bind fun o5 => match o5 with
  | .inl d6 =>
    if (decide (d6.2.2.1 < (List.length d6.1 : Int))) = true then
      if (idxIn d6.2.2.1 (List.length d6.1)) = true then
      if (at_ I d6.1 d6.2.2.1.toNat == d6.2.1) = true then
        some (d6.1, ())
      else
        if ((decide (0 ≤ (0 : Int)) && decide ((0 : Int) ≤ d6.2.2.1) && decide (d6.2.2.1 ≤ (List.length d6.1 : Int)))) = true then
        if (decide (List.length ([] : List Int) + List.length (sub_ d6.1 (0 : Int) d6.2.2.1) ≤ lim)) = true then
        let x7 : List Int := ([] : List Int) ++ (sub_ d6.1 (0 : Int) d6.2.2.1)
        if (decide (List.length x7 + List.length ([d6.2.1]) ≤ lim)) = true then
        if ((decide (0 ≤ d6.2.2.1) && decide (d6.2.2.1 ≤ (List.length d6.1 : Int)) && decide ((List.length d6.1 : Int) ≤ (List.length d6.1 : Int)))) = true then
        let x8 : List Int := sub_ d6.1 d6.2.2.1 (List.length d6.1 : Int)
        if (decide (List.length (x7 ++ ([d6.2.1])) + List.length x8 ≤ lim)) = true then
        some (((x7 ++ ([d6.2.1])) ++ x8, ()))
        else none
        else none
        else none
        else none
        else none
      else none
    else
      if ((decide (0 ≤ (0 : Int)) && decide ((0 : Int) ≤ d6.2.2.1) && decide (d6.2.2.1 ≤ (List.length d6.1 : Int)))) = true then
      if (decide (List.length ([] : List Int) + List.length (sub_ d6.1 (0 : Int) d6.2.2.1) ≤ lim)) = true then
      let x9 : List Int := ([] : List Int) ++ (sub_ d6.1 (0 : Int) d6.2.2.1)
      if (decide (List.length x9 + List.length ([d6.2.1]) ≤ lim)) = true then
      if ((decide (0 ≤ d6.2.2.1) && decide (d6.2.2.1 ≤ (List.length d6.1 : Int)) && decide ((List.length d6.1 : Int) ≤ (List.length d6.1 : Int)))) = true then
      let x10 : List Int := sub_ d6.1 d6.2.2.1 (List.length d6.1 : Int)
      if (decide (List.length (x9 ++ ([d6.2.1])) + List.length x10 ≤ lim)) = true then
      some (((x9 ++ ([d6.2.1])) ++ x10, ()))
      else none
      else none
      else none
      else none
      else none
theorem F_spec_l1Put_ok (N : Nat) (d) : fnR Γ_spec_l1Put (assoc [(0, ⟨spec_l1Put_l0_h, spec_l1Put_l0_o, spec_l1Put_l0 N N⟩)]) false [(K_Si, false), (I, false)] [K_Si] Try.f76.results.toList (bodyOf Try.f76) d = F_spec_l1Put N d := by kernel_rfl
noncomputable def S_spec_l1Put : FSig := ⟨[(K_Si, false), (I, false)], [K_Si], false, (G_l1Put)⟩
noncomputable def Γ_spec_l2Ball : Ctx := { tk := assoc tks, ar := assoc ars, fs := assoc [(76, S_spec_l1Put), (77, S_spec_l2Neighbors)] }
noncomputable def F_spec_l2Ball (N : Nat) (d : (Int × (List (Int × Int × Unit)) × Unit) × Int × Unit) : Option (List Int × Unit) :=
  let a0 : Int × (List (Int × Int × Unit)) × Unit := d.1
  let a1 : Int := d.2.1
  (G_l2Neighbors ((a0, (a1, ())))).bind fun r3 =>
  (G_l1Put ((r3.1, (a1, ())))).bind fun r4 =>
  some (r4.1, ())
theorem F_spec_l2Ball_ok (N : Nat) (d) : fnR Γ_spec_l2Ball (assoc []) false [(K_PiSPiiqq, false), (I, false)] [K_Si] Try.f51.results.toList (bodyOf Try.f51) d = F_spec_l2Ball N d := by kernel_rfl
noncomputable def S_spec_l2Ball : FSig := ⟨[(K_PiSPiiqq, false), (I, false)], [K_Si], false, (F_spec_l2Ball 0)⟩
noncomputable def Γ_spec_l11Balls : Ctx := { tk := assoc tks, ar := assoc ars, fs := assoc [(50, S_spec_l11Open), (51, S_spec_l2Ball)] }
abbrev spec_l11Balls_l2_H := ((Int × (List (Int × Int × Unit)) × Unit) × Int × List (List Int) × Unit) × List (List (List Int)) × Int × (Int × (List (Int × Int × Unit)) × Unit) × List (List Int) × Int × Unit
abbrev spec_l11Balls_l2_O := (((Int × (List (Int × Int × Unit)) × Unit) × Int × List (List Int) × Unit) × List (List (List Int)) × Int × List (List Int) × Unit) ⊕ Empty
def spec_l11Balls_l2_h : Form := [(1, .box K_PPiSPiiqqiSSiq 0), (3, .own K_SSSi 2), (4, .v I), (5, .box K_PiSPiiqq 0), (6, .own K_SSi 1), (7, .v I)]
def spec_l11Balls_l2_o : Outs := [(.normal, [(1, .box K_PPiSPiiqqiSSiq 0), (3, .own K_SSSi 2), (4, .v I), (6, .own K_SSi 1)])]
noncomputable def spec_l11Balls_l2_r (N : Nat) (back : spec_l11Balls_l2_H → Option spec_l11Balls_l2_O) (d : spec_l11Balls_l2_H) : Option spec_l11Balls_l2_O :=
  let s1 : (Int × (List (Int × Int × Unit)) × Unit) × Int × List (List Int) × Unit := d.1
  let s3 : List (List (List Int)) := d.2.1
  let s4 : Int := d.2.2.1
  let s5 : Int × (List (Int × Int × Unit)) × Unit := d.2.2.2.1
  let s6 : List (List Int) := d.2.2.2.2.1
  let s7 : Int := d.2.2.2.2.2.1
  if (decide (s7 < s5.1)) = true then
    ((F_spec_l2Ball 0) ((s5, (s7, ())))).bind fun r33 =>
    if (decide (List.length s6 + List.length ([r33.1]) ≤ lim)) = true then
    let x34 : Int := IntKind.wrap .i64 (s7 + (1 : Int))
    back ((s1, (s3, (s4, (s5, (s6 ++ ([r33.1]), (x34, ())))))))
    else none
  else
    some (.inl ((s1, (s3, (s4, (s6, ()))))))
noncomputable def spec_l11Balls_l2 (N : Nat) : Nat → spec_l11Balls_l2_H → Option spec_l11Balls_l2_O
  | 0, _ => none
  | k + 1, d => spec_l11Balls_l2_r N (spec_l11Balls_l2 N k) d
theorem spec_l11Balls_l2_ok (N : Nat) (back) (d) : roundR Γ_spec_l11Balls (assoc []) 2 spec_l11Balls_l2_h spec_l11Balls_l2_o (loopOf Try.f24 2) back d = spec_l11Balls_l2_r N back d := by kernel_rfl
abbrev spec_l11Balls_l0_H := ((Int × (List (Int × Int × Unit)) × Unit) × Int × List (List Int) × Unit) × List (List (List Int)) × Int × Unit
abbrev spec_l11Balls_l0_O := (List (List (List Int)) × Unit) ⊕ Empty
def spec_l11Balls_l0_h : Form := [(1, .box K_PPiSPiiqqiSSiq 0), (3, .own K_SSSi 2), (4, .v I)]
def spec_l11Balls_l0_o : Outs := [(.normal, [(3, .own K_SSSi 2)])]
noncomputable def spec_l11Balls_l0_r (N : Nat) (back : spec_l11Balls_l0_H → Option spec_l11Balls_l0_O) (d : spec_l11Balls_l0_H) : Option spec_l11Balls_l0_O :=
  let s1 : (Int × (List (Int × Int × Unit)) × Unit) × Int × List (List Int) × Unit := d.1
  let s3 : List (List (List Int)) := d.2.1
  let s4 : Int := d.2.2.1
  if (decide (s4 < s1.2.1)) = true then
    (G_l11Open ((s1, (s4, ())))).bind fun r27 =>
    (spec_l11Balls_l2 N N ((s1, (s3, (s4, (r27.1, (([] : List (List Int)), ((0 : Int), ())))))))).bind fun o30 => match o30 with
    | .inl d31 =>
      if (decide (List.length d31.2.1 + List.length ([d31.2.2.2.1]) ≤ lim)) = true then
      let x32 : Int := IntKind.wrap .i64 (d31.2.2.1 + (1 : Int))
      back ((d31.1, (d31.2.1 ++ ([d31.2.2.2.1]), (x32, ()))))
      else none
  else
    some (.inl (s3, ()))
noncomputable def spec_l11Balls_l0 (N : Nat) : Nat → spec_l11Balls_l0_H → Option spec_l11Balls_l0_O
  | 0, _ => none
  | k + 1, d => spec_l11Balls_l0_r N (spec_l11Balls_l0 N k) d
theorem spec_l11Balls_l0_ok (N : Nat) (back) (d) : roundR Γ_spec_l11Balls (assoc [(2, ⟨spec_l11Balls_l2_h, spec_l11Balls_l2_o, spec_l11Balls_l2 N N⟩)]) 0 spec_l11Balls_l0_h spec_l11Balls_l0_o (loopOf Try.f24 0) back d = spec_l11Balls_l0_r N back d := by kernel_rfl
noncomputable def F_spec_l11Balls (N : Nat) (d : ((Int × (List (Int × Int × Unit)) × Unit) × Int × List (List Int) × Unit) × Unit) : Option (List (List (List Int)) × Unit) :=
  let a0 : (Int × (List (Int × Int × Unit)) × Unit) × Int × List (List Int) × Unit := d.1
  (spec_l11Balls_l0 N N ((a0, (([] : List (List (List Int))), ((0 : Int), ()))))).bind fun o25 => match o25 with
  | .inl d26 =>
    some (d26.1, ())
theorem F_spec_l11Balls_ok (N : Nat) (d) : fnR Γ_spec_l11Balls (assoc [(0, ⟨spec_l11Balls_l0_h, spec_l11Balls_l0_o, spec_l11Balls_l0 N N⟩)]) false [(K_PPiSPiiqqiSSiq, false)] [K_SSSi] Try.f24.results.toList (bodyOf Try.f24) d = F_spec_l11Balls N d := by kernel_rfl
noncomputable def S_spec_l11Balls : FSig := ⟨[(K_PPiSPiiqqiSSiq, false)], [K_SSSi], false, (G_l11Balls)⟩
noncomputable def Γ_spec_l11Start : Ctx := { tk := assoc tks, ar := assoc ars, fs := assoc [] }
abbrev spec_l11Start_l4_H := Int × Int × List (List (List Int)) × Int × List (List Int) × Int × List Int × Int × Unit
abbrev spec_l11Start_l4_O := (Int × Int × List (List (List Int)) × Int × List (List Int) × Int × List Int × Unit) ⊕ Empty
def spec_l11Start_l4_h : Form := [(0, .v I), (1, .v I), (5, .own K_SSSi 100), (6, .v I), (7, .own K_SSi 100), (8, .v I), (9, .own K_Si 99), (10, .v I)]
def spec_l11Start_l4_o : Outs := [(.normal, [(0, .v I), (1, .v I), (5, .own K_SSSi 100), (6, .v I), (7, .own K_SSi 100), (8, .v I), (9, .own K_Si 99)])]
noncomputable def spec_l11Start_l4_r (N : Nat) (back : spec_l11Start_l4_H → Option spec_l11Start_l4_O) (d : spec_l11Start_l4_H) : Option spec_l11Start_l4_O :=
  let s0 : Int := d.1
  let s1 : Int := d.2.1
  let s5 : List (List (List Int)) := d.2.2.1
  let s6 : Int := d.2.2.2.1
  let s7 : List (List Int) := d.2.2.2.2.1
  let s8 : Int := d.2.2.2.2.2.1
  let s9 : List Int := d.2.2.2.2.2.2.1
  let s10 : Int := d.2.2.2.2.2.2.2.1
  if (decide (s10 < s1)) = true then
    if (s8 == s10) = true then
      if (decide (List.length s9 + List.length ([(0 : Int)]) ≤ lim)) = true then
      let x28 : Int := IntKind.wrap .i64 (s10 + (1 : Int))
      back ((s0, (s1, (s5, (s6, (s7, (s8, (s9 ++ ([(0 : Int)]), (x28, ())))))))))
      else none
    else
      if (decide (List.length s9 + List.length ([(-1 : Int)]) ≤ lim)) = true then
      let x29 : Int := IntKind.wrap .i64 (s10 + (1 : Int))
      back ((s0, (s1, (s5, (s6, (s7, (s8, (s9 ++ ([(-1 : Int)]), (x29, ())))))))))
      else none
  else
    some (.inl ((s0, (s1, (s5, (s6, (s7, (s8, (s9, ())))))))))
noncomputable def spec_l11Start_l4 (N : Nat) : Nat → spec_l11Start_l4_H → Option spec_l11Start_l4_O
  | 0, _ => none
  | k + 1, d => spec_l11Start_l4_r N (spec_l11Start_l4 N k) d
theorem spec_l11Start_l4_ok (N : Nat) (back) (d) : roundR Γ_spec_l11Start (assoc []) 4 spec_l11Start_l4_h spec_l11Start_l4_o (loopOf Try.f52 4) back d = spec_l11Start_l4_r N back d := by kernel_rfl
abbrev spec_l11Start_l2_H := Int × Int × List (List (List Int)) × Int × List (List Int) × Int × Unit
abbrev spec_l11Start_l2_O := (Int × Int × List (List (List Int)) × Int × List (List Int) × Unit) ⊕ Empty
def spec_l11Start_l2_h : Form := [(0, .v I), (1, .v I), (5, .own K_SSSi 100), (6, .v I), (7, .own K_SSi 100), (8, .v I)]
def spec_l11Start_l2_o : Outs := [(.normal, [(0, .v I), (1, .v I), (5, .own K_SSSi 100), (6, .v I), (7, .own K_SSi 100)])]
noncomputable def spec_l11Start_l2_r (N : Nat) (back : spec_l11Start_l2_H → Option spec_l11Start_l2_O) (d : spec_l11Start_l2_H) : Option spec_l11Start_l2_O :=
  let s0 : Int := d.1
  let s1 : Int := d.2.1
  let s5 : List (List (List Int)) := d.2.2.1
  let s6 : Int := d.2.2.2.1
  let s7 : List (List Int) := d.2.2.2.2.1
  let s8 : Int := d.2.2.2.2.2.1
  if (decide (s8 < s1)) = true then
    (spec_l11Start_l4 N N ((s0, (s1, (s5, (s6, (s7, (s8, (([] : List Int), ((0 : Int), ())))))))))).bind fun o24 => match o24 with
    | .inl d25 =>
      if (decide (List.length d25.2.2.2.2.1 + List.length ([d25.2.2.2.2.2.2.1]) ≤ lim)) = true then
      let x26 : List (List Int) := d25.2.2.2.2.1 ++ ([d25.2.2.2.2.2.2.1])
      let x27 : Int := IntKind.wrap .i64 (d25.2.2.2.2.2.1 + (1 : Int))
      back ((d25.1, (d25.2.1, (d25.2.2.1, (d25.2.2.2.1, (x26, (x27, ())))))))
      else none
  else
    some (.inl ((s0, (s1, (s5, (s6, (s7, ())))))))
noncomputable def spec_l11Start_l2 (N : Nat) : Nat → spec_l11Start_l2_H → Option spec_l11Start_l2_O
  | 0, _ => none
  | k + 1, d => spec_l11Start_l2_r N (spec_l11Start_l2 N k) d
theorem spec_l11Start_l2_ok (N : Nat) (back) (d) : roundR Γ_spec_l11Start (assoc [(4, ⟨spec_l11Start_l4_h, spec_l11Start_l4_o, spec_l11Start_l4 N N⟩)]) 2 spec_l11Start_l2_h spec_l11Start_l2_o (loopOf Try.f52 2) back d = spec_l11Start_l2_r N back d := by kernel_rfl
abbrev spec_l11Start_l0_H := Int × Int × List (List (List Int)) × Int × Unit
abbrev spec_l11Start_l0_O := (List (List (List Int)) × Unit) ⊕ Empty
def spec_l11Start_l0_h : Form := [(0, .v I), (1, .v I), (5, .own K_SSSi 100), (6, .v I)]
def spec_l11Start_l0_o : Outs := [(.normal, [(5, .own K_SSSi 100)])]
noncomputable def spec_l11Start_l0_r (N : Nat) (back : spec_l11Start_l0_H → Option spec_l11Start_l0_O) (d : spec_l11Start_l0_H) : Option spec_l11Start_l0_O :=
  let s0 : Int := d.1
  let s1 : Int := d.2.1
  let s5 : List (List (List Int)) := d.2.2.1
  let s6 : Int := d.2.2.2.1
  if (decide (s6 < s0)) = true then
    (spec_l11Start_l2 N N ((s0, (s1, (s5, (s6, (([] : List (List Int)), ((0 : Int), ())))))))).bind fun o18 => match o18 with
    | .inl d19 =>
      if (decide (List.length d19.2.2.1 + List.length ([d19.2.2.2.2.1]) ≤ lim)) = true then
      let x20 : List (List (List Int)) := d19.2.2.1 ++ ([d19.2.2.2.2.1])
      let x21 : Int := IntKind.wrap .i64 (d19.2.2.2.1 + (1 : Int))
      back ((d19.1, (d19.2.1, (x20, (x21, ())))))
      else none
  else
    some (.inl (s5, ()))
noncomputable def spec_l11Start_l0 (N : Nat) : Nat → spec_l11Start_l0_H → Option spec_l11Start_l0_O
  | 0, _ => none
  | k + 1, d => spec_l11Start_l0_r N (spec_l11Start_l0 N k) d
theorem spec_l11Start_l0_ok (N : Nat) (back) (d) : roundR Γ_spec_l11Start (assoc [(2, ⟨spec_l11Start_l2_h, spec_l11Start_l2_o, spec_l11Start_l2 N N⟩)]) 0 spec_l11Start_l0_h spec_l11Start_l0_o (loopOf Try.f52 0) back d = spec_l11Start_l0_r N back d := by kernel_rfl
noncomputable def F_spec_l11Start (N : Nat) (d : Int × Int × Unit) : Option (List (List (List Int)) × Unit) :=
  let a0 : Int := d.1
  let a1 : Int := d.2.1
  (spec_l11Start_l0 N N ((a0, (a1, (([] : List (List (List Int))), ((0 : Int), ())))))).bind fun o10 => match o10 with
  | .inl d11 =>
    some (d11.1, ())
theorem F_spec_l11Start_ok (N : Nat) (d) : fnR Γ_spec_l11Start (assoc [(0, ⟨spec_l11Start_l0_h, spec_l11Start_l0_o, spec_l11Start_l0 N N⟩)]) true [(I, false), (I, false)] [K_SSSi] Try.f52.results.toList (bodyOf Try.f52) d = F_spec_l11Start N d := by kernel_rfl
noncomputable def S_spec_l11Start : FSig := ⟨[(I, false), (I, false)], [K_SSSi], true, (G_l11Start)⟩
noncomputable def Γ_spec_l1Most : Ctx := { tk := assoc tks, ar := assoc ars, fs := assoc [] }
noncomputable def F_spec_l1Most (N : Nat) (d : Int × Int × Unit) : Option (Int × Unit) :=
  let a0 : Int := d.1
  let a1 : Int := d.2.1
  if (decide (a0 > a1)) = true then
    some (a0, ())
  else
    some (a1, ())
theorem F_spec_l1Most_ok (N : Nat) (d) : fnR Γ_spec_l1Most (assoc []) true [(I, false), (I, false)] [I] Try.f54.results.toList (bodyOf Try.f54) d = F_spec_l1Most N d := by kernel_rfl
noncomputable def g_spec_l1Most (d : Int × Int × Unit) : Int × Unit :=
  let a0 : Int := d.1
  let a1 : Int := d.2.1
  if (decide (a0 > a1)) = true then
    (a0, ())
  else
    (a1, ())
theorem F_spec_l1Most_tot (N : Nat) (d) : F_spec_l1Most N d = some (g_spec_l1Most d) := by
  unfold F_spec_l1Most g_spec_l1Most
  first
    | rfl
    | (dsimp only; (repeat' split) <;> rfl)
noncomputable def S_spec_l1Most : FSig := ⟨[(I, false), (I, false)], [I], true, (fun d => some (g_spec_l1Most d))⟩
noncomputable def Γ_spec_l11After : Ctx := { tk := assoc tks, ar := assoc ars, fs := assoc [(54, S_spec_l1Most)] }
abbrev spec_l11After_l0_H := List (List (List Int)) × Int × Int × Int × List Int × Int × Unit
abbrev spec_l11After_l0_O := (Int × Unit) ⊕ (Int × Unit) ⊕ Empty
def spec_l11After_l0_h : Form := [(0, .v K_SSSi), (2, .v I), (4, .v I), (11, .v I), (12, .v K_Si), (13, .v I)]
def spec_l11After_l0_o : Outs := [(.ret, [(10, .v I)]), (.normal, [(11, .v I)])]
noncomputable def spec_l11After_l0_r (N : Nat) (back : spec_l11After_l0_H → Option spec_l11After_l0_O) (d : spec_l11After_l0_H) : Option spec_l11After_l0_O :=
  let s0 : List (List (List Int)) := d.1
  let s2 : Int := d.2.1
  let s4 : Int := d.2.2.1
  let s11 : Int := d.2.2.2.1
  let s12 : List Int := d.2.2.2.2.1
  let s13 : Int := d.2.2.2.2.2.1
  if (idxIn s2 (List.length s0)) = true then
  if (idxIn s4 (List.length (at_ K_SSi s0 s2.toNat))) = true then
  if (decide (s13 < (List.length (at_ K_Si (at_ K_SSi s0 s2.toNat) s4.toNat) : Int))) = true then
    if (idxIn s2 (List.length s0)) = true then
    if (idxIn s4 (List.length (at_ K_SSi s0 s2.toNat))) = true then
    if (idxIn s13 (List.length (at_ K_Si (at_ K_SSi s0 s2.toNat) s4.toNat))) = true then
    if (idxIn (at_ I (at_ K_Si (at_ K_SSi s0 s2.toNat) s4.toNat) s13.toNat) (List.length s12)) = true then
    if (decide (at_ I s12 (at_ I (at_ K_Si (at_ K_SSi s0 s2.toNat) s4.toNat) s13.toNat).toNat < (0 : Int))) = true then
      some (.inl ((-1 : Int), ()))
    else
      let r8 : Int × Unit := g_spec_l1Most ((s11, (at_ I s12 (at_ I (at_ K_Si (at_ K_SSi s0 s2.toNat) s4.toNat) s13.toNat).toNat, ())))
      let x9 : Int := IntKind.wrap .i64 (s13 + (1 : Int))
      back ((s0, (s2, (s4, (r8.1, (s12, (x9, ())))))))
    else none
    else none
    else none
    else none
  else
    some (.inr (.inl (s11, ())))
  else none
  else none
noncomputable def spec_l11After_l0 (N : Nat) : Nat → spec_l11After_l0_H → Option spec_l11After_l0_O
  | 0, _ => none
  | k + 1, d => spec_l11After_l0_r N (spec_l11After_l0 N k) d
theorem spec_l11After_l0_ok (N : Nat) (back) (d) : roundR Γ_spec_l11After (assoc []) 0 spec_l11After_l0_h spec_l11After_l0_o (loopOf Try.f26 0) back d = spec_l11After_l0_r N back d := by kernel_rfl
noncomputable def F_spec_l11After (N : Nat) (d : List (List (List Int)) × List (List (List Int)) × Int × Int × Int × Unit) : Option (Int × Unit) :=
  let a0 : List (List (List Int)) := d.1
  let a1 : List (List (List Int)) := d.2.1
  let a2 : Int := d.2.2.1
  let a3 : Int := d.2.2.2.1
  let a4 : Int := d.2.2.2.2.1
  if (a3 == a4) = true then
    some ((0 : Int), ())
  else
    let x1 : Int := IntKind.wrap .i64 (a2 + (1 : Int))
    if ((List.length a0 : Int) != 0) = true then
    let x2 : Int := x1.tmod (List.length a0 : Int)
    if (idxIn x2 (List.length a1)) = true then
    if (idxIn a3 (List.length (at_ K_SSi a1 x2.toNat))) = true then
    (spec_l11After_l0 N N ((a0, (a2, (a4, ((0 : Int), (at_ K_Si (at_ K_SSi a1 x2.toNat) a3.toNat, ((0 : Int), ())))))))).bind fun o5 => match o5 with
    | .inl d6 =>
      some (d6.1, ())
    | .inr (.inl d7) =>
      some (d7.1, ())
    else none
    else none
    else none
theorem F_spec_l11After_ok (N : Nat) (d) : fnR Γ_spec_l11After (assoc [(0, ⟨spec_l11After_l0_h, spec_l11After_l0_o, spec_l11After_l0 N N⟩)]) true [(K_SSSi, false), (K_SSSi, false), (I, false), (I, false), (I, false)] [I] Try.f26.results.toList (bodyOf Try.f26) d = F_spec_l11After N d := by kernel_rfl
noncomputable def S_spec_l11After : FSig := ⟨[(K_SSSi, false), (K_SSSi, false), (I, false), (I, false), (I, false)], [I], true, (G_l11After)⟩
noncomputable def Γ_spec_l11Can : Ctx := { tk := assoc tks, ar := assoc ars, fs := assoc [(26, S_spec_l11After)] }
abbrev spec_l11Can_l0_H := List (List (List Int)) × List (List (List Int)) × Int × Int × Int × Int × Unit
abbrev spec_l11Can_l0_O := (Bool × Unit) ⊕ Unit ⊕ Empty
def spec_l11Can_l0_h : Form := [(0, .v K_SSSi), (1, .v K_SSSi), (2, .v I), (3, .v I), (4, .v I), (11, .v I)]
def spec_l11Can_l0_o : Outs := [(.ret, [(10, .v .bool)]), (.normal, [])]
noncomputable def spec_l11Can_l0_r (N : Nat) (back : spec_l11Can_l0_H → Option spec_l11Can_l0_O) (d : spec_l11Can_l0_H) : Option spec_l11Can_l0_O :=
  let s0 : List (List (List Int)) := d.1
  let s1 : List (List (List Int)) := d.2.1
  let s2 : Int := d.2.2.1
  let s3 : Int := d.2.2.2.1
  let s4 : Int := d.2.2.2.2.1
  let s11 : Int := d.2.2.2.2.2.1
  if (idxIn s2 (List.length s0)) = true then
  if (idxIn s3 (List.length (at_ K_SSi s0 s2.toNat))) = true then
  if (decide (s11 < (List.length (at_ K_Si (at_ K_SSi s0 s2.toNat) s3.toNat) : Int))) = true then
    if (idxIn s2 (List.length s0)) = true then
    if (idxIn s3 (List.length (at_ K_SSi s0 s2.toNat))) = true then
    if (idxIn s11 (List.length (at_ K_Si (at_ K_SSi s0 s2.toNat) s3.toNat))) = true then
    (G_l11After ((s0, (s1, (s2, (at_ I (at_ K_Si (at_ K_SSi s0 s2.toNat) s3.toNat) s11.toNat, (s4, ()))))))).bind fun r6 =>
    if (decide (r6.1 ≥ (0 : Int))) = true then
      some (.inl (true, ()))
    else
      let x7 : Int := IntKind.wrap .i64 (s11 + (1 : Int))
      back ((s0, (s1, (s2, (s3, (s4, (x7, ())))))))
    else none
    else none
    else none
  else
    some (.inr (.inl ()))
  else none
  else none
noncomputable def spec_l11Can_l0 (N : Nat) : Nat → spec_l11Can_l0_H → Option spec_l11Can_l0_O
  | 0, _ => none
  | k + 1, d => spec_l11Can_l0_r N (spec_l11Can_l0 N k) d
theorem spec_l11Can_l0_ok (N : Nat) (back) (d) : roundR Γ_spec_l11Can (assoc []) 0 spec_l11Can_l0_h spec_l11Can_l0_o (loopOf Try.f53 0) back d = spec_l11Can_l0_r N back d := by kernel_rfl
noncomputable def F_spec_l11Can (N : Nat) (d : List (List (List Int)) × List (List (List Int)) × Int × Int × Int × Unit) : Option (Bool × Unit) :=
  let a0 : List (List (List Int)) := d.1
  let a1 : List (List (List Int)) := d.2.1
  let a2 : Int := d.2.2.1
  let a3 : Int := d.2.2.2.1
  let a4 : Int := d.2.2.2.2.1
  (spec_l11Can_l0 N N ((a0, (a1, (a2, (a3, (a4, ((0 : Int), ())))))))).bind fun o3 => match o3 with
  | .inl d4 =>
    some (d4.1, ())
  | .inr (.inl d5) =>
    some (false, ())
theorem F_spec_l11Can_ok (N : Nat) (d) : fnR Γ_spec_l11Can (assoc [(0, ⟨spec_l11Can_l0_h, spec_l11Can_l0_o, spec_l11Can_l0 N N⟩)]) true [(K_SSSi, false), (K_SSSi, false), (I, false), (I, false), (I, false)] [.bool] Try.f53.results.toList (bodyOf Try.f53) d = F_spec_l11Can N d := by kernel_rfl
noncomputable def S_spec_l11Can : FSig := ⟨[(K_SSSi, false), (K_SSSi, false), (I, false), (I, false), (I, false)], [.bool], true, (G_l11Can)⟩
noncomputable def Γ_spec_l11Times : Ctx := { tk := assoc tks, ar := assoc ars, fs := assoc [(24, S_spec_l11Balls), (52, S_spec_l11Start), (53, S_spec_l11Can)] }
abbrev spec_l11Times_l6_H := ((Int × (List (Int × Int × Unit)) × Unit) × Int × List (List Int) × Unit) × List (List (List Int)) × List (List (List Int)) × Int × List (List (List Int)) × Bool × Int × Int × Int × Unit
abbrev spec_l11Times_l6_O := (((Int × (List (Int × Int × Unit)) × Unit) × Int × List (List Int) × Unit) × List (List (List Int)) × List (List (List Int)) × Int × List (List (List Int)) × Bool × Int × Int × Unit) ⊕ Empty
def spec_l11Times_l6_h : Form := [(1, .box K_PPiSPiiqqiSSiq 0), (3, .v K_SSSi), (4, .own K_SSSi 99), (5, .v I), (6, .own K_SSSi 99), (7, .v .bool), (8, .v I), (9, .v I), (10, .v I)]
def spec_l11Times_l6_o : Outs := [(.normal, [(1, .box K_PPiSPiiqqiSSiq 0), (3, .v K_SSSi), (4, .own K_SSSi 99), (5, .v I), (6, .own K_SSSi 99), (7, .v .bool), (8, .v I), (9, .v I)])]
noncomputable def spec_l11Times_l6_r (N : Nat) (back : spec_l11Times_l6_H → Option spec_l11Times_l6_O) (d : spec_l11Times_l6_H) : Option spec_l11Times_l6_O :=
  let s1 : (Int × (List (Int × Int × Unit)) × Unit) × Int × List (List Int) × Unit := d.1
  let s3 : List (List (List Int)) := d.2.1
  let s4 : List (List (List Int)) := d.2.2.1
  let s5 : Int := d.2.2.2.1
  let s6 : List (List (List Int)) := d.2.2.2.2.1
  let s7 : Bool := d.2.2.2.2.2.1
  let s8 : Int := d.2.2.2.2.2.2.1
  let s9 : Int := d.2.2.2.2.2.2.2.1
  let s10 : Int := d.2.2.2.2.2.2.2.2.1
  if (decide (s10 < s1.1.1)) = true then
    if (idxIn s8 (List.length s6)) = true then
    if (idxIn s9 (List.length (at_ K_SSi s6 s8.toNat))) = true then
    if (idxIn s8 (List.length s4)) = true then
    if (idxIn s9 (List.length (at_ K_SSi s4 s8.toNat))) = true then
    if (idxIn s10 (List.length (at_ K_Si (at_ K_SSi s4 s8.toNat) s9.toNat))) = true then
    if (idxIn s10 (List.length (at_ K_Si (at_ K_SSi s6 s8.toNat) s9.toNat))) = true then
    let x58 : List (List (List Int)) := List.set s6 s8.toNat (List.set (at_ K_SSi s6 s8.toNat) s9.toNat (List.set (at_ K_Si (at_ K_SSi s6 s8.toNat) s9.toNat) s10.toNat (at_ I (at_ K_Si (at_ K_SSi s4 s8.toNat) s9.toNat) s10.toNat)))
    if (idxIn s8 (List.length s4)) = true then
    if (idxIn s9 (List.length (at_ K_SSi s4 s8.toNat))) = true then
    if (idxIn s10 (List.length (at_ K_Si (at_ K_SSi s4 s8.toNat) s9.toNat))) = true then
    if (decide (at_ I (at_ K_Si (at_ K_SSi s4 s8.toNat) s9.toNat) s10.toNat < (0 : Int))) = true then
      (G_l11Can ((s3, (s4, (s8, (s9, (s10, ()))))))).bind fun r59 =>
      if (r59.1) = true then
        if (idxIn s8 (List.length x58)) = true then
        if (idxIn s9 (List.length (at_ K_SSi x58 s8.toNat))) = true then
        if (idxIn s10 (List.length (at_ K_Si (at_ K_SSi x58 s8.toNat) s9.toNat))) = true then
        let x60 : List (List (List Int)) := List.set x58 s8.toNat (List.set (at_ K_SSi x58 s8.toNat) s9.toNat (List.set (at_ K_Si (at_ K_SSi x58 s8.toNat) s9.toNat) s10.toNat s5))
        let x61 : Int := IntKind.wrap .i64 (s10 + (1 : Int))
        back ((s1, (s3, (s4, (s5, (x60, (true, (s8, (s9, (x61, ()))))))))))
        else none
        else none
        else none
      else
        let x62 : Int := IntKind.wrap .i64 (s10 + (1 : Int))
        back ((s1, (s3, (s4, (s5, (x58, (s7, (s8, (s9, (x62, ()))))))))))
    else
      let x63 : Int := IntKind.wrap .i64 (s10 + (1 : Int))
      back ((s1, (s3, (s4, (s5, (x58, (s7, (s8, (s9, (x63, ()))))))))))
    else none
    else none
    else none
    else none
    else none
    else none
    else none
    else none
    else none
  else
    some (.inl ((s1, (s3, (s4, (s5, (s6, (s7, (s8, (s9, ()))))))))))
noncomputable def spec_l11Times_l6 (N : Nat) : Nat → spec_l11Times_l6_H → Option spec_l11Times_l6_O
  | 0, _ => none
  | k + 1, d => spec_l11Times_l6_r N (spec_l11Times_l6 N k) d
theorem spec_l11Times_l6_ok (N : Nat) (back) (d) : roundR Γ_spec_l11Times (assoc []) 6 spec_l11Times_l6_h spec_l11Times_l6_o (loopOf Try.f25 6) back d = spec_l11Times_l6_r N back d := by kernel_rfl
abbrev spec_l11Times_l4_H := ((Int × (List (Int × Int × Unit)) × Unit) × Int × List (List Int) × Unit) × List (List (List Int)) × List (List (List Int)) × Int × List (List (List Int)) × Bool × Int × Int × Unit
abbrev spec_l11Times_l4_O := (((Int × (List (Int × Int × Unit)) × Unit) × Int × List (List Int) × Unit) × List (List (List Int)) × List (List (List Int)) × Int × List (List (List Int)) × Bool × Int × Unit) ⊕ Empty
def spec_l11Times_l4_h : Form := [(1, .box K_PPiSPiiqqiSSiq 0), (3, .v K_SSSi), (4, .own K_SSSi 99), (5, .v I), (6, .own K_SSSi 99), (7, .v .bool), (8, .v I), (9, .v I)]
def spec_l11Times_l4_o : Outs := [(.normal, [(1, .box K_PPiSPiiqqiSSiq 0), (3, .v K_SSSi), (4, .own K_SSSi 99), (5, .v I), (6, .own K_SSSi 99), (7, .v .bool), (8, .v I)])]
noncomputable def spec_l11Times_l4_r (N : Nat) (back : spec_l11Times_l4_H → Option spec_l11Times_l4_O) (d : spec_l11Times_l4_H) : Option spec_l11Times_l4_O :=
  let s1 : (Int × (List (Int × Int × Unit)) × Unit) × Int × List (List Int) × Unit := d.1
  let s3 : List (List (List Int)) := d.2.1
  let s4 : List (List (List Int)) := d.2.2.1
  let s5 : Int := d.2.2.2.1
  let s6 : List (List (List Int)) := d.2.2.2.2.1
  let s7 : Bool := d.2.2.2.2.2.1
  let s8 : Int := d.2.2.2.2.2.2.1
  let s9 : Int := d.2.2.2.2.2.2.2.1
  if (decide (s9 < s1.1.1)) = true then
    (spec_l11Times_l6 N N ((s1, (s3, (s4, (s5, (s6, (s7, (s8, (s9, ((0 : Int), ()))))))))))).bind fun o55 => match o55 with
    | .inl d56 =>
      let x57 : Int := IntKind.wrap .i64 (d56.2.2.2.2.2.2.2.1 + (1 : Int))
      back ((d56.1, (d56.2.1, (d56.2.2.1, (d56.2.2.2.1, (d56.2.2.2.2.1, (d56.2.2.2.2.2.1, (d56.2.2.2.2.2.2.1, (x57, ())))))))))
  else
    some (.inl ((s1, (s3, (s4, (s5, (s6, (s7, (s8, ())))))))))
noncomputable def spec_l11Times_l4 (N : Nat) : Nat → spec_l11Times_l4_H → Option spec_l11Times_l4_O
  | 0, _ => none
  | k + 1, d => spec_l11Times_l4_r N (spec_l11Times_l4 N k) d
theorem spec_l11Times_l4_ok (N : Nat) (back) (d) : roundR Γ_spec_l11Times (assoc [(6, ⟨spec_l11Times_l6_h, spec_l11Times_l6_o, spec_l11Times_l6 N N⟩)]) 4 spec_l11Times_l4_h spec_l11Times_l4_o (loopOf Try.f25 4) back d = spec_l11Times_l4_r N back d := by kernel_rfl
abbrev spec_l11Times_l2_H := ((Int × (List (Int × Int × Unit)) × Unit) × Int × List (List Int) × Unit) × List (List (List Int)) × List (List (List Int)) × Int × List (List (List Int)) × Bool × Int × Unit
abbrev spec_l11Times_l2_O := (((Int × (List (Int × Int × Unit)) × Unit) × Int × List (List Int) × Unit) × List (List (List Int)) × Int × List (List (List Int)) × Bool × Unit) ⊕ Empty
def spec_l11Times_l2_h : Form := [(1, .box K_PPiSPiiqqiSSiq 0), (3, .v K_SSSi), (4, .own K_SSSi 99), (5, .v I), (6, .own K_SSSi 99), (7, .v .bool), (8, .v I)]
def spec_l11Times_l2_o : Outs := [(.normal, [(1, .box K_PPiSPiiqqiSSiq 0), (3, .v K_SSSi), (5, .v I), (6, .own K_SSSi 99), (7, .v .bool)])]
noncomputable def spec_l11Times_l2_r (N : Nat) (back : spec_l11Times_l2_H → Option spec_l11Times_l2_O) (d : spec_l11Times_l2_H) : Option spec_l11Times_l2_O :=
  let s1 : (Int × (List (Int × Int × Unit)) × Unit) × Int × List (List Int) × Unit := d.1
  let s3 : List (List (List Int)) := d.2.1
  let s4 : List (List (List Int)) := d.2.2.1
  let s5 : Int := d.2.2.2.1
  let s6 : List (List (List Int)) := d.2.2.2.2.1
  let s7 : Bool := d.2.2.2.2.2.1
  let s8 : Int := d.2.2.2.2.2.2.1
  if (decide (s8 < s1.2.1)) = true then
    (spec_l11Times_l4 N N ((s1, (s3, (s4, (s5, (s6, (s7, (s8, ((0 : Int), ())))))))))).bind fun o46 => match o46 with
    | .inl d47 =>
      let x48 : Int := IntKind.wrap .i64 (d47.2.2.2.2.2.2.1 + (1 : Int))
      back ((d47.1, (d47.2.1, (d47.2.2.1, (d47.2.2.2.1, (d47.2.2.2.2.1, (d47.2.2.2.2.2.1, (x48, ()))))))))
  else
    some (.inl ((s1, (s3, (s5, (s6, (s7, ())))))))
noncomputable def spec_l11Times_l2 (N : Nat) : Nat → spec_l11Times_l2_H → Option spec_l11Times_l2_O
  | 0, _ => none
  | k + 1, d => spec_l11Times_l2_r N (spec_l11Times_l2 N k) d
theorem spec_l11Times_l2_ok (N : Nat) (back) (d) : roundR Γ_spec_l11Times (assoc [(4, ⟨spec_l11Times_l4_h, spec_l11Times_l4_o, spec_l11Times_l4 N N⟩)]) 2 spec_l11Times_l2_h spec_l11Times_l2_o (loopOf Try.f25 2) back d = spec_l11Times_l2_r N back d := by kernel_rfl
abbrev spec_l11Times_l0_H := ((Int × (List (Int × Int × Unit)) × Unit) × Int × List (List Int) × Unit) × List (List (List Int)) × List (List (List Int)) × Int × Unit
abbrev spec_l11Times_l0_O := (List (List (List Int)) × Unit) ⊕ Empty
def spec_l11Times_l0_h : Form := [(1, .box K_PPiSPiiqqiSSiq 0), (3, .v K_SSSi), (4, .own K_SSSi 99), (5, .v I)]
def spec_l11Times_l0_o : Outs := [(.ret, [(2, .own K_SSSi 99)])]
noncomputable def spec_l11Times_l0_r (N : Nat) (back : spec_l11Times_l0_H → Option spec_l11Times_l0_O) (d : spec_l11Times_l0_H) : Option spec_l11Times_l0_O :=
  let s1 : (Int × (List (Int × Int × Unit)) × Unit) × Int × List (List Int) × Unit := d.1
  let s3 : List (List (List Int)) := d.2.1
  let s4 : List (List (List Int)) := d.2.2.1
  let s5 : Int := d.2.2.2.1
  (G_l11Start ((s1.2.1, (s1.1.1, ())))).bind fun r21 =>
  (spec_l11Times_l2 N N ((s1, (s3, (s4, (s5, (r21.1, (false, ((0 : Int), ()))))))))).bind fun o34 => match o34 with
  | .inl d35 =>
    if (!d35.2.2.2.2.1) = true then
      some (.inl (d35.2.2.2.1, ()))
    else
      let x36 : Int := IntKind.wrap .i64 (d35.2.2.1 + (1 : Int))
      back ((d35.1, (d35.2.1, (d35.2.2.2.1, (x36, ())))))
noncomputable def spec_l11Times_l0 (N : Nat) : Nat → spec_l11Times_l0_H → Option spec_l11Times_l0_O
  | 0, _ => none
  | k + 1, d => spec_l11Times_l0_r N (spec_l11Times_l0 N k) d
theorem spec_l11Times_l0_ok (N : Nat) (back) (d) : roundR Γ_spec_l11Times (assoc [(2, ⟨spec_l11Times_l2_h, spec_l11Times_l2_o, spec_l11Times_l2 N N⟩)]) 0 spec_l11Times_l0_h spec_l11Times_l0_o (loopOf Try.f25 0) back d = spec_l11Times_l0_r N back d := by kernel_rfl
noncomputable def F_spec_l11Times (N : Nat) (d : ((Int × (List (Int × Int × Unit)) × Unit) × Int × List (List Int) × Unit) × Unit) : Option (List (List (List Int)) × Unit) :=
  let a0 : (Int × (List (Int × Int × Unit)) × Unit) × Int × List (List Int) × Unit := d.1
  (G_l11Balls (a0, ())).bind fun r1 =>
  (G_l11Start ((a0.2.1, (a0.1.1, ())))).bind fun r2 =>
  (spec_l11Times_l0 N N ((a0, (r1.1, (r2.1, ((1 : Int), ())))))).bind fun o19 => match o19 with
  | .inl d20 =>
    some (d20.1, ())
theorem F_spec_l11Times_ok (N : Nat) (d) : fnR Γ_spec_l11Times (assoc [(0, ⟨spec_l11Times_l0_h, spec_l11Times_l0_o, spec_l11Times_l0 N N⟩)]) true [(K_PPiSPiiqqiSSiq, false)] [K_SSSi] Try.f25.results.toList (bodyOf Try.f25) d = F_spec_l11Times N d := by kernel_rfl
noncomputable def S_spec_l11Times : FSig := ⟨[(K_PPiSPiiqqiSSiq, false)], [K_SSSi], true, (G_l11Times)⟩
noncomputable def Γ_spec_TimedTimes : Ctx := { tk := assoc tks, ar := assoc ars, fs := assoc [(21, S_spec_l11Good), (25, S_spec_l11Times)] }
noncomputable def F_spec_TimedTimes (N : Nat) (d : ((Int × (List (Int × Int × Unit)) × Unit) × Int × List (List Int) × Unit) × Unit) : Option (List (List (List Int)) × Bool × Unit) :=
  let a0 : (Int × (List (Int × Int × Unit)) × Unit) × Int × List (List Int) × Unit := d.1
  (G_l11Good (a0, ())).bind fun r1 =>
  if (!r1.1) = true then
    some ((([] : List (List (List Int))), (false, ())))
  else
    (G_l11Times (a0, ())).bind fun r2 =>
    some ((r2.1, (true, ())))
theorem F_spec_TimedTimes_ok (N : Nat) (d) : fnR Γ_spec_TimedTimes (assoc []) true [(K_PPiSPiiqqiSSiq, false)] [K_SSSi, .bool] Try.f13.results.toList (bodyOf Try.f13) d = F_spec_TimedTimes N d := by kernel_rfl
noncomputable def S_spec_TimedTimes : FSig := ⟨[(K_PPiSPiiqqiSSiq, false)], [K_SSSi, .bool], true, (F_spec_TimedTimes 0)⟩
noncomputable def Γ_impl_within : Ctx := { tk := assoc tks, ar := assoc ars, fs := assoc [] }
noncomputable def F_impl_within (N : Nat) (d : Int × Int × Int × Unit) : Option (Bool × Unit) :=
  let a0 : Int := d.1
  let a1 : Int := d.2.1
  let a2 : Int := d.2.2.1
  if (decide (a0 ≥ a1)) = true then
    some (decide (a0 ≤ a2), ())
  else
    some (false, ())
theorem F_impl_within_ok (N : Nat) (d) : fnR Γ_impl_within (assoc []) true [(I, false), (I, false), (I, false)] [.bool] Try.f66.results.toList (bodyOf Try.f66) d = F_impl_within N d := by kernel_rfl
noncomputable def g_impl_within (d : Int × Int × Int × Unit) : Bool × Unit :=
  let a0 : Int := d.1
  let a1 : Int := d.2.1
  let a2 : Int := d.2.2.1
  if (decide (a0 ≥ a1)) = true then
    (decide (a0 ≤ a2), ())
  else
    (false, ())
theorem F_impl_within_tot (N : Nat) (d) : F_impl_within N d = some (g_impl_within d) := by
  unfold F_impl_within g_impl_within
  first
    | rfl
    | (dsimp only; (repeat' split) <;> rfl)
noncomputable def S_impl_within : FSig := ⟨[(I, false), (I, false), (I, false)], [.bool], true, (fun d => some (g_impl_within d))⟩
noncomputable def Γ_cmp_isNaN_int : Ctx := { tk := assoc tks, ar := assoc ars, fs := assoc [] }
noncomputable def F_cmp_isNaN_int (N : Nat) (d : Int × Unit) : Option (Bool × Unit) :=
  let a0 : Int := d.1
  some (a0 != a0, ())
theorem F_cmp_isNaN_int_ok (N : Nat) (d) : fnR Γ_cmp_isNaN_int (assoc []) true [(I, false)] [.bool] Try.f91.results.toList (bodyOf Try.f91) d = F_cmp_isNaN_int N d := by kernel_rfl
noncomputable def g_cmp_isNaN_int (d : Int × Unit) : Bool × Unit :=
  let a0 : Int := d.1
  (a0 != a0, ())
theorem F_cmp_isNaN_int_tot (N : Nat) (d) : F_cmp_isNaN_int N d = some (g_cmp_isNaN_int d) := by
  unfold F_cmp_isNaN_int g_cmp_isNaN_int
  first
    | rfl
    | (dsimp only; (repeat' split) <;> rfl)
noncomputable def S_cmp_isNaN_int : FSig := ⟨[(I, false)], [.bool], true, (fun d => some (g_cmp_isNaN_int d))⟩
noncomputable def Γ_cmp_Compare_int : Ctx := { tk := assoc tks, ar := assoc ars, fs := assoc [(91, S_cmp_isNaN_int)] }
noncomputable def F_cmp_Compare_int (N : Nat) (d : Int × Int × Unit) : Option (Int × Unit) :=
  let a0 : Int := d.1
  let a1 : Int := d.2.1
  let r1 : Bool × Unit := g_cmp_isNaN_int (a0, ())
  let r2 : Bool × Unit := g_cmp_isNaN_int (a1, ())
  if (r1.1) = true then
    if (r2.1) = true then
      some ((0 : Int), ())
    else
      some ((-1 : Int), ())
  else
    if (r2.1) = true then
      some ((1 : Int), ())
    else
      if (decide (a0 < a1)) = true then
        some ((-1 : Int), ())
      else
        if (decide (a0 > a1)) = true then
          some ((1 : Int), ())
        else
          some ((0 : Int), ())
theorem F_cmp_Compare_int_ok (N : Nat) (d) : fnR Γ_cmp_Compare_int (assoc []) true [(I, false), (I, false)] [I] Try.f90.results.toList (bodyOf Try.f90) d = F_cmp_Compare_int N d := by kernel_rfl
noncomputable def g_cmp_Compare_int (d : Int × Int × Unit) : Int × Unit :=
  let a0 : Int := d.1
  let a1 : Int := d.2.1
  let r1 : Bool × Unit := g_cmp_isNaN_int (a0, ())
  let r2 : Bool × Unit := g_cmp_isNaN_int (a1, ())
  if (r1.1) = true then
    if (r2.1) = true then
      ((0 : Int), ())
    else
      ((-1 : Int), ())
  else
    if (r2.1) = true then
      ((1 : Int), ())
    else
      if (decide (a0 < a1)) = true then
        ((-1 : Int), ())
      else
        if (decide (a0 > a1)) = true then
          ((1 : Int), ())
        else
          ((0 : Int), ())
theorem F_cmp_Compare_int_tot (N : Nat) (d) : F_cmp_Compare_int N d = some (g_cmp_Compare_int d) := by
  unfold F_cmp_Compare_int g_cmp_Compare_int
  first
    | rfl
    | (dsimp only; (repeat' split) <;> rfl)
noncomputable def S_cmp_Compare_int : FSig := ⟨[(I, false), (I, false)], [I], true, (fun d => some (g_cmp_Compare_int d))⟩
noncomputable def Γ_slices_Compare_Sint_int : Ctx := { tk := assoc tks, ar := assoc ars, fs := assoc [(90, S_cmp_Compare_int)] }
abbrev slices_Compare_Sint_int_l0_H := List Int × List Int × List Int × Int × Int × Unit
abbrev slices_Compare_Sint_int_l0_O := (Int × Unit) ⊕ (List Int × List Int × Unit) ⊕ Empty
def slices_Compare_Sint_int_l0_h : Form := [(0, .v K_Si), (1, .v K_Si), (9, .v K_Si), (10, .v I), (11, .v I)]
def slices_Compare_Sint_int_l0_o : Outs := [(.ret, [(4, .v I)]), (.normal, [(0, .v K_Si), (1, .v K_Si)])]
noncomputable def slices_Compare_Sint_int_l0_r (N : Nat) (back : slices_Compare_Sint_int_l0_H → Option slices_Compare_Sint_int_l0_O) (d : slices_Compare_Sint_int_l0_H) : Option slices_Compare_Sint_int_l0_O :=
  let s0 : List Int := d.1
  let s1 : List Int := d.2.1
  let s9 : List Int := d.2.2.1
  let s10 : Int := d.2.2.2.1
  let s11 : Int := d.2.2.2.2.1
  if (decide (s11 < s10)) = true then
    if (idxIn s11 (List.length s9)) = true then
    if (decide (s11 ≥ (List.length s1 : Int))) = true then
      some (.inl ((1 : Int), ()))
    else
      if (idxIn s11 (List.length s1)) = true then
      let r6 : Int × Unit := g_cmp_Compare_int ((at_ I s9 s11.toNat, (at_ I s1 s11.toNat, ())))
      if (r6.1 != (0 : Int)) = true then
        some (.inl (r6.1, ()))
      else
        let x7 : Int := IntKind.wrap .i64 (s11 + (1 : Int))
        back ((s0, (s1, (s9, (s10, (x7, ()))))))
      else none
    else none
  else
    some (.inr (.inl ((s0, (s1, ())))))
noncomputable def slices_Compare_Sint_int_l0 (N : Nat) : Nat → slices_Compare_Sint_int_l0_H → Option slices_Compare_Sint_int_l0_O
  | 0, _ => none
  | k + 1, d => slices_Compare_Sint_int_l0_r N (slices_Compare_Sint_int_l0 N k) d
theorem slices_Compare_Sint_int_l0_ok (N : Nat) (back) (d) : roundR Γ_slices_Compare_Sint_int (assoc []) 0 slices_Compare_Sint_int_l0_h slices_Compare_Sint_int_l0_o (loopOf Try.f83 0) back d = slices_Compare_Sint_int_l0_r N back d := by kernel_rfl
noncomputable def F_slices_Compare_Sint_int (N : Nat) (d : List Int × List Int × Unit) : Option (Int × Unit) :=
  let a0 : List Int := d.1
  let a1 : List Int := d.2.1
  (slices_Compare_Sint_int_l0 N N ((a0, (a1, (a0, ((List.length a0 : Int), ((0 : Int), ()))))))).bind fun o3 => match o3 with
  | .inl d4 =>
    some (d4.1, ())
  | .inr (.inl d5) =>
    if (decide ((List.length d5.1 : Int) < (List.length d5.2.1 : Int))) = true then
      some ((-1 : Int), ())
    else
      some ((0 : Int), ())
theorem F_slices_Compare_Sint_int_ok (N : Nat) (d) : fnR Γ_slices_Compare_Sint_int (assoc [(0, ⟨slices_Compare_Sint_int_l0_h, slices_Compare_Sint_int_l0_o, slices_Compare_Sint_int_l0 N N⟩)]) true [(K_Si, false), (K_Si, false)] [I] Try.f83.results.toList (bodyOf Try.f83) d = F_slices_Compare_Sint_int N d := by kernel_rfl
noncomputable def S_slices_Compare_Sint_int : FSig := ⟨[(K_Si, false), (K_Si, false)], [I], true, (G_compare)⟩
noncomputable def Γ_impl_IsGraph : Ctx := { tk := assoc tks, ar := assoc ars, fs := assoc [(66, S_impl_within), (83, S_slices_Compare_Sint_int)] }
abbrev impl_IsGraph_l0_H := (Int × (List (Int × Int × Unit)) × Unit) × (List (Int × Int × Unit)) × Int × Int × Unit
abbrev impl_IsGraph_l0_O := (Bool × Unit) ⊕ Unit ⊕ Empty
def impl_IsGraph_l0_h : Form := [(1, .box K_PiSPiiqq 0), (10, .v K_SPiiq), (11, .v I), (12, .v I)]
def impl_IsGraph_l0_o : Outs := [(.ret, [(2, .v .bool)]), (.normal, [])]
noncomputable def impl_IsGraph_l0_r (N : Nat) (back : impl_IsGraph_l0_H → Option impl_IsGraph_l0_O) (d : impl_IsGraph_l0_H) : Option impl_IsGraph_l0_O :=
  let s1 : Int × (List (Int × Int × Unit)) × Unit := d.1
  let s10 : List (Int × Int × Unit) := d.2.1
  let s11 : Int := d.2.2.1
  let s12 : Int := d.2.2.2.1
  if (decide (s12 < s11)) = true then
    if (idxIn s12 (List.length s10)) = true then
    if (decide ((at_ K_Piiq s10 s12.toNat).1 < (0 : Int))) = true then
      some (.inl (false, ()))
    else
      if (decide ((at_ K_Piiq s10 s12.toNat).1 ≥ (at_ K_Piiq s10 s12.toNat).2.1)) = true then
        some (.inl (false, ()))
      else
        if (decide ((at_ K_Piiq s10 s12.toNat).2.1 ≥ s1.1)) = true then
          some (.inl (false, ()))
        else
          if (decide (s12 > (0 : Int))) = true then
            let x9 : Int := IntKind.wrap .i64 (s12 - (1 : Int))
            if (idxIn x9 (List.length s1.2.1)) = true then
            (G_compare (([(at_ K_Piiq s1.2.1 x9.toNat).1, (at_ K_Piiq s1.2.1 x9.toNat).2.1], ([(at_ K_Piiq s10 s12.toNat).1, (at_ K_Piiq s10 s12.toNat).2.1], ())))).bind fun r10 =>
            if (decide (r10.1 ≥ (0 : Int))) = true then
              some (.inl (false, ()))
            else
              let x11 : Int := IntKind.wrap .i64 (s12 + (1 : Int))
              back ((s1, (s10, (s11, (x11, ())))))
            else none
          else
            let x12 : Int := IntKind.wrap .i64 (s12 + (1 : Int))
            back ((s1, (s10, (s11, (x12, ())))))
    else none
  else
    some (.inr (.inl ()))
noncomputable def impl_IsGraph_l0 (N : Nat) : Nat → impl_IsGraph_l0_H → Option impl_IsGraph_l0_O
  | 0, _ => none
  | k + 1, d => impl_IsGraph_l0_r N (impl_IsGraph_l0 N k) d
theorem impl_IsGraph_l0_ok (N : Nat) (back) (d) : roundR Γ_impl_IsGraph (assoc []) 0 impl_IsGraph_l0_h impl_IsGraph_l0_o (loopOf Try.f65 0) back d = impl_IsGraph_l0_r N back d := by kernel_rfl
noncomputable def F_impl_IsGraph (N : Nat) (d : (Int × (List (Int × Int × Unit)) × Unit) × Unit) : Option (Bool × Unit) :=
  let a0 : Int × (List (Int × Int × Unit)) × Unit := d.1
  let r1 : Bool × Unit := g_impl_within ((a0.1, ((0 : Int), ((8 : Int), ()))))
  if (!r1.1) = true then
    some (false, ())
  else
    (impl_IsGraph_l0 N N ((a0, (a0.2.1, ((List.length a0.2.1 : Int), ((0 : Int), ())))))).bind fun o6 => match o6 with
    | .inl d7 =>
      some (d7.1, ())
    | .inr (.inl d8) =>
      some (true, ())
theorem F_impl_IsGraph_ok (N : Nat) (d) : fnR Γ_impl_IsGraph (assoc [(0, ⟨impl_IsGraph_l0_h, impl_IsGraph_l0_o, impl_IsGraph_l0 N N⟩)]) true [(K_PiSPiiqq, false)] [.bool] Try.f65.results.toList (bodyOf Try.f65) d = F_impl_IsGraph N d := by kernel_rfl
noncomputable def S_impl_IsGraph : FSig := ⟨[(K_PiSPiiqq, false)], [.bool], true, (G_graph)⟩
noncomputable def Γ_impl_increasing : Ctx := { tk := assoc tks, ar := assoc ars, fs := assoc [] }
abbrev impl_increasing_l0_H := List Int × Int × Unit
abbrev impl_increasing_l0_O := (Bool × Unit) ⊕ Unit ⊕ Empty
def impl_increasing_l0_h : Form := [(0, .v K_Si), (3, .v I)]
def impl_increasing_l0_o : Outs := [(.ret, [(2, .v .bool)]), (.normal, [])]
noncomputable def impl_increasing_l0_r (N : Nat) (back : impl_increasing_l0_H → Option impl_increasing_l0_O) (d : impl_increasing_l0_H) : Option impl_increasing_l0_O :=
  let s0 : List Int := d.1
  let s3 : Int := d.2.1
  if (decide (s3 < (List.length s0 : Int))) = true then
    let x6 : Int := IntKind.wrap .i64 (s3 - (1 : Int))
    if (idxIn x6 (List.length s0)) = true then
    if (idxIn s3 (List.length s0)) = true then
    if (decide (at_ I s0 x6.toNat ≥ at_ I s0 s3.toNat)) = true then
      some (.inl (false, ()))
    else
      let x7 : Int := IntKind.wrap .i64 (s3 + (1 : Int))
      back ((s0, (x7, ())))
    else none
    else none
  else
    some (.inr (.inl ()))
noncomputable def impl_increasing_l0 (N : Nat) : Nat → impl_increasing_l0_H → Option impl_increasing_l0_O
  | 0, _ => none
  | k + 1, d => impl_increasing_l0_r N (impl_increasing_l0 N k) d
theorem impl_increasing_l0_ok (N : Nat) (back) (d) : roundR Γ_impl_increasing (assoc []) 0 impl_increasing_l0_h impl_increasing_l0_o (loopOf Try.f69 0) back d = impl_increasing_l0_r N back d := by kernel_rfl
noncomputable def F_impl_increasing (N : Nat) (d : List Int × Unit) : Option (Bool × Unit) :=
  let a0 : List Int := d.1
  (impl_increasing_l0 N N ((a0, ((1 : Int), ())))).bind fun o3 => match o3 with
  | .inl d4 =>
    some (d4.1, ())
  | .inr (.inl d5) =>
    some (true, ())
theorem F_impl_increasing_ok (N : Nat) (d) : fnR Γ_impl_increasing (assoc [(0, ⟨impl_increasing_l0_h, impl_increasing_l0_o, impl_increasing_l0 N N⟩)]) true [(K_Si, false)] [.bool] Try.f69.results.toList (bodyOf Try.f69) d = F_impl_increasing N d := by kernel_rfl
noncomputable def S_impl_increasing : FSig := ⟨[(K_Si, false)], [.bool], true, (G_increasing)⟩
noncomputable def Γ_impl_allWithin : Ctx := { tk := assoc tks, ar := assoc ars, fs := assoc [(66, S_impl_within)] }
abbrev impl_allWithin_l0_H := Int × Int × List Int × Int × Int × Unit
abbrev impl_allWithin_l0_O := (Bool × Unit) ⊕ Unit ⊕ Empty
def impl_allWithin_l0_h : Form := [(1, .v I), (2, .v I), (9, .v K_Si), (10, .v I), (11, .v I)]
def impl_allWithin_l0_o : Outs := [(.ret, [(6, .v .bool)]), (.normal, [])]
noncomputable def impl_allWithin_l0_r (N : Nat) (back : impl_allWithin_l0_H → Option impl_allWithin_l0_O) (d : impl_allWithin_l0_H) : Option impl_allWithin_l0_O :=
  let s1 : Int := d.1
  let s2 : Int := d.2.1
  let s9 : List Int := d.2.2.1
  let s10 : Int := d.2.2.2.1
  let s11 : Int := d.2.2.2.2.1
  if (decide (s11 < s10)) = true then
    if (idxIn s11 (List.length s9)) = true then
    let r6 : Bool × Unit := g_impl_within ((at_ I s9 s11.toNat, (s1, (s2, ()))))
    if (!r6.1) = true then
      some (.inl (false, ()))
    else
      let x7 : Int := IntKind.wrap .i64 (s11 + (1 : Int))
      back ((s1, (s2, (s9, (s10, (x7, ()))))))
    else none
  else
    some (.inr (.inl ()))
noncomputable def impl_allWithin_l0 (N : Nat) : Nat → impl_allWithin_l0_H → Option impl_allWithin_l0_O
  | 0, _ => none
  | k + 1, d => impl_allWithin_l0_r N (impl_allWithin_l0 N k) d
theorem impl_allWithin_l0_ok (N : Nat) (back) (d) : roundR Γ_impl_allWithin (assoc []) 0 impl_allWithin_l0_h impl_allWithin_l0_o (loopOf Try.f57 0) back d = impl_allWithin_l0_r N back d := by kernel_rfl
noncomputable def F_impl_allWithin (N : Nat) (d : List Int × Int × Int × Unit) : Option (Bool × Unit) :=
  let a0 : List Int := d.1
  let a1 : Int := d.2.1
  let a2 : Int := d.2.2.1
  (impl_allWithin_l0 N N ((a1, (a2, (a0, ((List.length a0 : Int), ((0 : Int), ()))))))).bind fun o3 => match o3 with
  | .inl d4 =>
    some (d4.1, ())
  | .inr (.inl d5) =>
    some (true, ())
theorem F_impl_allWithin_ok (N : Nat) (d) : fnR Γ_impl_allWithin (assoc [(0, ⟨impl_allWithin_l0_h, impl_allWithin_l0_o, impl_allWithin_l0 N N⟩)]) true [(K_Si, false), (I, false), (I, false)] [.bool] Try.f57.results.toList (bodyOf Try.f57) d = F_impl_allWithin N d := by kernel_rfl
noncomputable def S_impl_allWithin : FSig := ⟨[(K_Si, false), (I, false), (I, false)], [.bool], true, (G_allWithin)⟩
noncomputable def Γ_impl_IsTimetable_1 : Ctx := { tk := assoc tks, ar := assoc ars, fs := assoc [(57, S_impl_allWithin), (69, S_impl_increasing)] }
noncomputable def F_impl_IsTimetable_1 (N : Nat) (d : List Int × ((Int × (List (Int × Int × Unit)) × Unit) × Int × List (List Int) × Unit) × Unit) : Option (Bool × Unit) :=
  let a0 : List Int := d.1
  let a1 : (Int × (List (Int × Int × Unit)) × Unit) × Int × List (List Int) × Unit := d.2.1
  (G_increasing (a0, ())).bind fun r1 =>
  if (!r1.1) = true then
    some (true, ())
  else
    let x2 : Int := IntKind.wrap .i64 (a1.2.1 - (1 : Int))
    (G_allWithin ((a0, ((0 : Int), (x2, ()))))).bind fun r3 =>
    some (!r3.1, ())
theorem F_impl_IsTimetable_1_ok (N : Nat) (d) : fnR Γ_impl_IsTimetable_1 (assoc []) true [(K_Si, false), (K_BPPiSPiiqqiSSiq, false)] [.bool] Try.f68.results.toList (bodyOf Try.f68) d = F_impl_IsTimetable_1 N d := by kernel_rfl
noncomputable def S_impl_IsTimetable_1 : FSig := ⟨[(K_Si, false), (K_BPPiSPiiqqiSSiq, false)], [.bool], true, (F_impl_IsTimetable_1 0)⟩
noncomputable def FV_impl_IsTimetable_1 (d : List Int × (Unit × ((Int × (List (Int × Int × Unit)) × Unit) × Int × List (List Int) × Unit) × Unit) × Unit) : Option (Bool × Unit) := (F_impl_IsTimetable_1 0) (d.1, d.2.1.2)
noncomputable def SV_impl_IsTimetable_1 : FSig := ⟨[(K_Si, false), (K_F_impl_IsTimetable_1_qPBPPiSPiiqqiSSiqq, false)], [.bool], true, FV_impl_IsTimetable_1⟩
noncomputable def Γ_slices_IndexFunc_SSint_Sint_by_impl_IsTimetable_1 : Ctx := { tk := assoc tks, ar := assoc ars, fs := assoc [], cs := assoc [(68, SV_impl_IsTimetable_1)] }
abbrev slices_IndexFunc_SSint_Sint_by_impl_IsTimetable_1_l0_H := List (List Int) × (Unit × ((Int × (List (Int × Int × Unit)) × Unit) × Int × List (List Int) × Unit) × Unit) × Int × Int × Unit
abbrev slices_IndexFunc_SSint_Sint_by_impl_IsTimetable_1_l0_O := (Int × Unit) ⊕ Unit ⊕ Empty
def slices_IndexFunc_SSint_Sint_by_impl_IsTimetable_1_l0_h : Form := [(0, .v K_SSi), (1, .v K_F_impl_IsTimetable_1_qPBPPiSPiiqqiSSiqq), (7, .v I), (8, .v I)]
def slices_IndexFunc_SSint_Sint_by_impl_IsTimetable_1_l0_o : Outs := [(.ret, [(4, .v I)]), (.normal, [])]
noncomputable def slices_IndexFunc_SSint_Sint_by_impl_IsTimetable_1_l0_r (N : Nat) (back : slices_IndexFunc_SSint_Sint_by_impl_IsTimetable_1_l0_H → Option slices_IndexFunc_SSint_Sint_by_impl_IsTimetable_1_l0_O) (d : slices_IndexFunc_SSint_Sint_by_impl_IsTimetable_1_l0_H) : Option slices_IndexFunc_SSint_Sint_by_impl_IsTimetable_1_l0_O :=
  let s0 : List (List Int) := d.1
  let s1 : Unit × ((Int × (List (Int × Int × Unit)) × Unit) × Int × List (List Int) × Unit) × Unit := d.2.1
  let s7 : Int := d.2.2.1
  let s8 : Int := d.2.2.2.1
  if (decide (s8 < s7)) = true then
    if (idxIn s8 (List.length s0)) = true then
    (FV_impl_IsTimetable_1 ((at_ K_Si s0 s8.toNat, (s1, ())))).bind fun r6 =>
    if (r6.1) = true then
      some (.inl (s8, ()))
    else
      let x7 : Int := IntKind.wrap .i64 (s8 + (1 : Int))
      back ((s0, (s1, (s7, (x7, ())))))
    else none
  else
    some (.inr (.inl ()))
noncomputable def slices_IndexFunc_SSint_Sint_by_impl_IsTimetable_1_l0 (N : Nat) : Nat → slices_IndexFunc_SSint_Sint_by_impl_IsTimetable_1_l0_H → Option slices_IndexFunc_SSint_Sint_by_impl_IsTimetable_1_l0_O
  | 0, _ => none
  | k + 1, d => slices_IndexFunc_SSint_Sint_by_impl_IsTimetable_1_l0_r N (slices_IndexFunc_SSint_Sint_by_impl_IsTimetable_1_l0 N k) d
theorem slices_IndexFunc_SSint_Sint_by_impl_IsTimetable_1_l0_ok (N : Nat) (back) (d) : roundR Γ_slices_IndexFunc_SSint_Sint_by_impl_IsTimetable_1 (assoc []) 0 slices_IndexFunc_SSint_Sint_by_impl_IsTimetable_1_l0_h slices_IndexFunc_SSint_Sint_by_impl_IsTimetable_1_l0_o (loopOf Try.f84 0) back d = slices_IndexFunc_SSint_Sint_by_impl_IsTimetable_1_l0_r N back d := by kernel_rfl
noncomputable def F_slices_IndexFunc_SSint_Sint_by_impl_IsTimetable_1 (N : Nat) (d : List (List Int) × (Unit × ((Int × (List (Int × Int × Unit)) × Unit) × Int × List (List Int) × Unit) × Unit) × Unit) : Option (Int × Unit) :=
  let a0 : List (List Int) := d.1
  let a1 : Unit × ((Int × (List (Int × Int × Unit)) × Unit) × Int × List (List Int) × Unit) × Unit := d.2.1
  (slices_IndexFunc_SSint_Sint_by_impl_IsTimetable_1_l0 N N ((a0, (a1, ((List.length a0 : Int), ((0 : Int), ())))))).bind fun o3 => match o3 with
  | .inl d4 =>
    some (d4.1, ())
  | .inr (.inl d5) =>
    some ((-1 : Int), ())
theorem F_slices_IndexFunc_SSint_Sint_by_impl_IsTimetable_1_ok (N : Nat) (d) : fnR Γ_slices_IndexFunc_SSint_Sint_by_impl_IsTimetable_1 (assoc [(0, ⟨slices_IndexFunc_SSint_Sint_by_impl_IsTimetable_1_l0_h, slices_IndexFunc_SSint_Sint_by_impl_IsTimetable_1_l0_o, slices_IndexFunc_SSint_Sint_by_impl_IsTimetable_1_l0 N N⟩)]) true [(K_SSi, false), (K_F_impl_IsTimetable_1_qPBPPiSPiiqqiSSiqq, false)] [I] Try.f84.results.toList (bodyOf Try.f84) d = F_slices_IndexFunc_SSint_Sint_by_impl_IsTimetable_1 N d := by kernel_rfl
noncomputable def S_slices_IndexFunc_SSint_Sint_by_impl_IsTimetable_1 : FSig := ⟨[(K_SSi, false), (K_F_impl_IsTimetable_1_qPBPPiSPiiqqiSSiqq, false)], [I], true, (G_index84)⟩
noncomputable def Γ_slices_ContainsFunc_SSint_Sint_by_impl_IsTimetable_1 : Ctx := { tk := assoc tks, ar := assoc ars, fs := assoc [(84, S_slices_IndexFunc_SSint_Sint_by_impl_IsTimetable_1)] }
noncomputable def F_slices_ContainsFunc_SSint_Sint_by_impl_IsTimetable_1 (N : Nat) (d : List (List Int) × (Unit × ((Int × (List (Int × Int × Unit)) × Unit) × Int × List (List Int) × Unit) × Unit) × Unit) : Option (Bool × Unit) :=
  let a0 : List (List Int) := d.1
  let a1 : Unit × ((Int × (List (Int × Int × Unit)) × Unit) × Int × List (List Int) × Unit) × Unit := d.2.1
  (G_index84 ((a0, (a1, ())))).bind fun r1 =>
  some ((decide (r1.1 ≥ (0 : Int)), ()))
theorem F_slices_ContainsFunc_SSint_Sint_by_impl_IsTimetable_1_ok (N : Nat) (d) : fnR Γ_slices_ContainsFunc_SSint_Sint_by_impl_IsTimetable_1 (assoc []) true [(K_SSi, false), (K_F_impl_IsTimetable_1_qPBPPiSPiiqqiSSiqq, false)] [.bool] Try.f67.results.toList (bodyOf Try.f67) d = F_slices_ContainsFunc_SSint_Sint_by_impl_IsTimetable_1 N d := by kernel_rfl
noncomputable def S_slices_ContainsFunc_SSint_Sint_by_impl_IsTimetable_1 : FSig := ⟨[(K_SSi, false), (K_F_impl_IsTimetable_1_qPBPPiSPiiqqiSSiqq, false)], [.bool], true, (F_slices_ContainsFunc_SSint_Sint_by_impl_IsTimetable_1 0)⟩
noncomputable def Γ_impl_IsTimetable : Ctx := { tk := assoc tks, ar := assoc ars, fs := assoc [(65, S_impl_IsGraph), (66, S_impl_within), (67, S_slices_ContainsFunc_SSint_Sint_by_impl_IsTimetable_1)], cs := assoc [], fz := fun t => Nat.beq t 1 }
noncomputable def F_impl_IsTimetable (N : Nat) (d : ((Int × (List (Int × Int × Unit)) × Unit) × Int × List (List Int) × Unit) × Unit) : Option (Bool × Unit) :=
  let a0 : (Int × (List (Int × Int × Unit)) × Unit) × Int × List (List Int) × Unit := d.1
  (G_graph (a0.1, ())).bind fun r1 =>
  if (!r1.1) = true then
    some (false, ())
  else
    if (a0.1.1 == (0 : Int)) = true then
      some (false, ())
    else
      let r2 : Bool × Unit := g_impl_within ((a0.2.1, ((1 : Int), ((4 : Int), ()))))
      if (!r2.1) = true then
        some (false, ())
      else
        if ((List.length a0.2.2.1 : Int) != (List.length a0.1.2.1 : Int)) = true then
          some (false, ())
        else
          ((F_slices_ContainsFunc_SSint_Sint_by_impl_IsTimetable_1 0) ((a0.2.2.1, (((), (a0, ())), ())))).bind fun r3 =>
          some (!r3.1, ())
theorem F_impl_IsTimetable_ok (N : Nat) (d) : fnR Γ_impl_IsTimetable (assoc []) true [(K_PPiSPiiqqiSSiq, false)] [.bool] Try.f38.results.toList (bodyOf Try.f38) d = F_impl_IsTimetable N d := by kernel_rfl
noncomputable def S_impl_IsTimetable : FSig := ⟨[(K_PPiSPiiqqiSSiq, false)], [.bool], true, (F_impl_IsTimetable 0)⟩
noncomputable def Γ_impl_netOf : Ctx := { tk := assoc tks, ar := assoc ars, fs := assoc [] }
abbrev impl_netOf_l0_H := (List Int × Unit) × (List Int × Unit) × (List (Int × Int × Unit)) × Int × Int × Unit
abbrev impl_netOf_l0_O := ((List Int × Unit) × (List Int × Unit) × Unit) ⊕ Empty
def impl_netOf_l0_h : Form := [(2, .box K_PSiq 99), (3, .box K_PSiq 99), (11, .v K_SPiiq), (12, .v I), (13, .v I)]
def impl_netOf_l0_o : Outs := [(.normal, [(2, .box K_PSiq 99), (3, .box K_PSiq 99)])]
noncomputable def impl_netOf_l0_r (N : Nat) (back : impl_netOf_l0_H → Option impl_netOf_l0_O) (d : impl_netOf_l0_H) : Option impl_netOf_l0_O :=
  let s2 : List Int × Unit := d.1
  let s3 : List Int × Unit := d.2.1
  let s11 : List (Int × Int × Unit) := d.2.2.1
  let s12 : Int := d.2.2.2.1
  let s13 : Int := d.2.2.2.2.1
  if (decide (s13 < s12)) = true then
    if (idxIn s13 (List.length s11)) = true then
    if (idxIn (at_ K_Piiq s11 s13.toNat).1 (List.length s3.1)) = true then
    if (decide (0 ≤ (at_ K_Piiq s11 s13.toNat).2.1)) = true then
    let x9 : Int := shl .i64 (1 : Int) (at_ K_Piiq s11 s13.toNat).2.1
    let x10 : Int := bits .or .i64 (at_ I s3.1 (at_ K_Piiq s11 s13.toNat).1.toNat) x9
    if (idxIn (at_ K_Piiq s11 s13.toNat).1 (List.length s3.1)) = true then
    if (idxIn (at_ K_Piiq s11 s13.toNat).2.1 (List.length (List.set s3.1 (at_ K_Piiq s11 s13.toNat).1.toNat x10))) = true then
    if (decide (0 ≤ (at_ K_Piiq s11 s13.toNat).1)) = true then
    let x11 : Int := shl .i64 (1 : Int) (at_ K_Piiq s11 s13.toNat).1
    let x12 : Int := bits .or .i64 (at_ I (List.set s3.1 (at_ K_Piiq s11 s13.toNat).1.toNat x10) (at_ K_Piiq s11 s13.toNat).2.1.toNat) x11
    if (idxIn (at_ K_Piiq s11 s13.toNat).2.1 (List.length (List.set s3.1 (at_ K_Piiq s11 s13.toNat).1.toNat x10))) = true then
    let x13 : Int := IntKind.wrap .i64 (s13 + (1 : Int))
    back ((s2, ((List.set (List.set s3.1 (at_ K_Piiq s11 s13.toNat).1.toNat x10) (at_ K_Piiq s11 s13.toNat).2.1.toNat x12, s3.2), (s11, (s12, (x13, ()))))))
    else none
    else none
    else none
    else none
    else none
    else none
    else none
  else
    some (.inl ((s2, (s3, ()))))
noncomputable def impl_netOf_l0 (N : Nat) : Nat → impl_netOf_l0_H → Option impl_netOf_l0_O
  | 0, _ => none
  | k + 1, d => impl_netOf_l0_r N (impl_netOf_l0 N k) d
theorem impl_netOf_l0_ok (N : Nat) (back) (d) : roundR Γ_impl_netOf (assoc []) 0 impl_netOf_l0_h impl_netOf_l0_o (loopOf Try.f58 0) back d = impl_netOf_l0_r N back d := by kernel_rfl
noncomputable def F_impl_netOf (N : Nat) (d : (Int × (List (Int × Int × Unit)) × Unit) × Unit) : Option ((List Int × Unit) × Unit) :=
  let a0 : Int × (List (Int × Int × Unit)) × Unit := d.1
  if ((decide (0 ≤ a0.1) && decide (a0.1 ≤ a0.1) && decide (a0.1 ≤ (lim : Int)))) = true then
  let x1 : List Int := List.replicate a0.1.toNat (0 : Int)
  (impl_netOf_l0 N N (((([] : List Int), ()), ((x1, ()), (a0.2.1, ((List.length a0.2.1 : Int), ((0 : Int), ()))))))).bind fun o7 => match o7 with
  | .inl d8 =>
    some (d8.2.1, ())
  else none
theorem F_impl_netOf_ok (N : Nat) (d) : fnR Γ_impl_netOf (assoc [(0, ⟨impl_netOf_l0_h, impl_netOf_l0_o, impl_netOf_l0 N N⟩)]) true [(K_PiSPiiqq, false)] [K_PSiq] Try.f58.results.toList (bodyOf Try.f58) d = F_impl_netOf N d := by kernel_rfl
noncomputable def S_impl_netOf : FSig := ⟨[(K_PiSPiiqq, false)], [K_PSiq], true, (G_netOf)⟩
noncomputable def Γ_slices_Index_Sint_int : Ctx := { tk := assoc tks, ar := assoc ars, fs := assoc [] }
abbrev slices_Index_Sint_int_l0_H := List Int × Int × Int × Int × Unit
abbrev slices_Index_Sint_int_l0_O := (Int × Unit) ⊕ Unit ⊕ Empty
def slices_Index_Sint_int_l0_h : Form := [(0, .v K_Si), (1, .v I), (7, .v I), (8, .v I)]
def slices_Index_Sint_int_l0_o : Outs := [(.ret, [(4, .v I)]), (.normal, [])]
noncomputable def slices_Index_Sint_int_l0_r (N : Nat) (back : slices_Index_Sint_int_l0_H → Option slices_Index_Sint_int_l0_O) (d : slices_Index_Sint_int_l0_H) : Option slices_Index_Sint_int_l0_O :=
  let s0 : List Int := d.1
  let s1 : Int := d.2.1
  let s7 : Int := d.2.2.1
  let s8 : Int := d.2.2.2.1
  if (decide (s8 < s7)) = true then
    if (idxIn s8 (List.length s0)) = true then
    if (s1 == at_ I s0 s8.toNat) = true then
      some (.inl (s8, ()))
    else
      let x5 : Int := IntKind.wrap .i64 (s8 + (1 : Int))
      back ((s0, (s1, (s7, (x5, ())))))
    else none
  else
    some (.inr (.inl ()))
noncomputable def slices_Index_Sint_int_l0 (N : Nat) : Nat → slices_Index_Sint_int_l0_H → Option slices_Index_Sint_int_l0_O
  | 0, _ => none
  | k + 1, d => slices_Index_Sint_int_l0_r N (slices_Index_Sint_int_l0 N k) d
theorem slices_Index_Sint_int_l0_ok (N : Nat) (back) (d) : roundR Γ_slices_Index_Sint_int (assoc []) 0 slices_Index_Sint_int_l0_h slices_Index_Sint_int_l0_o (loopOf Try.f70 0) back d = slices_Index_Sint_int_l0_r N back d := by kernel_rfl
noncomputable def F_slices_Index_Sint_int (N : Nat) (d : List Int × Int × Unit) : Option (Int × Unit) :=
  let a0 : List Int := d.1
  let a1 : Int := d.2.1
  (slices_Index_Sint_int_l0 N N ((a0, (a1, ((List.length a0 : Int), ((0 : Int), ())))))).bind fun o2 => match o2 with
  | .inl d3 =>
    some (d3.1, ())
  | .inr (.inl d4) =>
    some ((-1 : Int), ())
theorem F_slices_Index_Sint_int_ok (N : Nat) (d) : fnR Γ_slices_Index_Sint_int (assoc [(0, ⟨slices_Index_Sint_int_l0_h, slices_Index_Sint_int_l0_o, slices_Index_Sint_int_l0 N N⟩)]) true [(K_Si, false), (I, false)] [I] Try.f70.results.toList (bodyOf Try.f70) d = F_slices_Index_Sint_int N d := by kernel_rfl
noncomputable def S_slices_Index_Sint_int : FSig := ⟨[(K_Si, false), (I, false)], [I], true, (G_index)⟩
noncomputable def Γ_slices_Contains_Sint_int : Ctx := { tk := assoc tks, ar := assoc ars, fs := assoc [(70, S_slices_Index_Sint_int)] }
noncomputable def F_slices_Contains_Sint_int (N : Nat) (d : List Int × Int × Unit) : Option (Bool × Unit) :=
  let a0 : List Int := d.1
  let a1 : Int := d.2.1
  (G_index ((a0, (a1, ())))).bind fun r1 =>
  some ((decide (r1.1 ≥ (0 : Int)), ()))
theorem F_slices_Contains_Sint_int_ok (N : Nat) (d) : fnR Γ_slices_Contains_Sint_int (assoc []) true [(K_Si, false), (I, false)] [.bool] Try.f40.results.toList (bodyOf Try.f40) d = F_slices_Contains_Sint_int N d := by kernel_rfl
noncomputable def S_slices_Contains_Sint_int : FSig := ⟨[(K_Si, false), (I, false)], [.bool], true, (F_slices_Contains_Sint_int 0)⟩
noncomputable def Γ_impl_openNets : Ctx := { tk := assoc tks, ar := assoc ars, fs := assoc [(40, S_slices_Contains_Sint_int), (58, S_impl_netOf)] }
abbrev impl_openNets_l2_H := ((Int × (List (Int × Int × Unit)) × Unit) × Int × List (List Int) × Unit) × (List (List Int × Unit)) × Int × Int × Int × (List (Int × Int × Unit)) × Int × Int × Unit
abbrev impl_openNets_l2_O := (((Int × (List (Int × Int × Unit)) × Unit) × Int × List (List Int) × Unit) × (List (List Int × Unit)) × Int × Int × Unit) ⊕ Empty
def impl_openNets_l2_h : Form := [(1, .box K_PPiSPiiqqiSSiq 0), (3, .own K_SPSiq 99), (4, .v I), (11, .v I), (12, .v I), (25, .v K_SPiiq), (26, .v I), (27, .v I)]
def impl_openNets_l2_o : Outs := [(.normal, [(1, .box K_PPiSPiiqqiSSiq 0), (3, .own K_SPSiq 99), (11, .v I), (12, .v I)])]
noncomputable def impl_openNets_l2_r (N : Nat) (back : impl_openNets_l2_H → Option impl_openNets_l2_O) (d : impl_openNets_l2_H) : Option impl_openNets_l2_O :=
  let s1 : (Int × (List (Int × Int × Unit)) × Unit) × Int × List (List Int) × Unit := d.1
  let s3 : List (List Int × Unit) := d.2.1
  let s4 : Int := d.2.2.1
  let s11 : Int := d.2.2.2.1
  let s12 : Int := d.2.2.2.2.1
  let s25 : List (Int × Int × Unit) := d.2.2.2.2.2.1
  let s26 : Int := d.2.2.2.2.2.2.1
  let s27 : Int := d.2.2.2.2.2.2.2.1
  if (decide (s27 < s26)) = true then
    if (idxIn s27 (List.length s25)) = true then
    if (idxIn s27 (List.length s1.2.2.1)) = true then
    ((F_slices_Contains_Sint_int 0) ((at_ K_Si s1.2.2.1 s27.toNat, (s4, ())))).bind fun r30 =>
    if (r30.1) = true then
      if (idxIn s4 (List.length s3)) = true then
      if (idxIn (at_ K_Piiq s25 s27.toNat).1 (List.length (at_ K_PSiq s3 s4.toNat).1)) = true then
      if (decide (0 ≤ (at_ K_Piiq s25 s27.toNat).2.1)) = true then
      let x31 : Int := shl .i64 (1 : Int) (at_ K_Piiq s25 s27.toNat).2.1
      let x32 : Int := bits .or .i64 (at_ I (at_ K_PSiq s3 s4.toNat).1 (at_ K_Piiq s25 s27.toNat).1.toNat) x31
      if (idxIn (at_ K_Piiq s25 s27.toNat).1 (List.length (at_ K_PSiq s3 s4.toNat).1)) = true then
      let x33 : List (List Int × Unit) := List.set s3 s4.toNat (List.set (at_ K_PSiq s3 s4.toNat).1 (at_ K_Piiq s25 s27.toNat).1.toNat x32, (at_ K_PSiq s3 s4.toNat).2)
      if (idxIn s4 (List.length x33)) = true then
      if (idxIn (at_ K_Piiq s25 s27.toNat).2.1 (List.length (at_ K_PSiq x33 s4.toNat).1)) = true then
      if (decide (0 ≤ (at_ K_Piiq s25 s27.toNat).1)) = true then
      let x34 : Int := shl .i64 (1 : Int) (at_ K_Piiq s25 s27.toNat).1
      let x35 : Int := bits .or .i64 (at_ I (at_ K_PSiq x33 s4.toNat).1 (at_ K_Piiq s25 s27.toNat).2.1.toNat) x34
      if (idxIn (at_ K_Piiq s25 s27.toNat).2.1 (List.length (at_ K_PSiq x33 s4.toNat).1)) = true then
      let x36 : List (List Int × Unit) := List.set x33 s4.toNat (List.set (at_ K_PSiq x33 s4.toNat).1 (at_ K_Piiq s25 s27.toNat).2.1.toNat x35, (at_ K_PSiq x33 s4.toNat).2)
      let x37 : Int := IntKind.wrap .i64 (s27 + (1 : Int))
      back ((s1, (x36, (s4, (s11, (s12, (s25, (s26, (x37, ())))))))))
      else none
      else none
      else none
      else none
      else none
      else none
      else none
      else none
    else
      let x38 : Int := IntKind.wrap .i64 (s27 + (1 : Int))
      back ((s1, (s3, (s4, (s11, (s12, (s25, (s26, (x38, ())))))))))
    else none
    else none
  else
    some (.inl ((s1, (s3, (s11, (s12, ()))))))
noncomputable def impl_openNets_l2 (N : Nat) : Nat → impl_openNets_l2_H → Option impl_openNets_l2_O
  | 0, _ => none
  | k + 1, d => impl_openNets_l2_r N (impl_openNets_l2 N k) d
theorem impl_openNets_l2_ok (N : Nat) (back) (d) : roundR Γ_impl_openNets (assoc []) 2 impl_openNets_l2_h impl_openNets_l2_o (loopOf Try.f30 2) back d = impl_openNets_l2_r N back d := by kernel_rfl
abbrev impl_openNets_l0_H := ((Int × (List (Int × Int × Unit)) × Unit) × Int × List (List Int) × Unit) × (List (List Int × Unit)) × Int × Int × Unit
abbrev impl_openNets_l0_O := ((List (List Int × Unit)) × Unit) ⊕ Empty
def impl_openNets_l0_h : Form := [(1, .box K_PPiSPiiqqiSSiq 0), (3, .own K_SPSiq 99), (11, .v I), (12, .v I)]
def impl_openNets_l0_o : Outs := [(.normal, [(3, .own K_SPSiq 99)])]
noncomputable def impl_openNets_l0_r (N : Nat) (back : impl_openNets_l0_H → Option impl_openNets_l0_O) (d : impl_openNets_l0_H) : Option impl_openNets_l0_O :=
  let s1 : (Int × (List (Int × Int × Unit)) × Unit) × Int × List (List Int) × Unit := d.1
  let s3 : List (List Int × Unit) := d.2.1
  let s11 : Int := d.2.2.1
  let s12 : Int := d.2.2.2.1
  if (decide (s12 < s11)) = true then
    (G_netOf (((s1.1.1, (([] : List (Int × Int × Unit)), ())), ()))).bind fun r17 =>
    if (idxIn s12 (List.length s3)) = true then
    (impl_openNets_l2 N N ((s1, (List.set s3 s12.toNat r17.1, (s12, (s11, (s12, (s1.1.2.1, ((List.length s1.1.2.1 : Int), ((0 : Int), ())))))))))).bind fun o27 => match o27 with
    | .inl d28 =>
      let x29 : Int := IntKind.wrap .i64 (d28.2.2.2.1 + (1 : Int))
      back ((d28.1, (d28.2.1, (d28.2.2.1, (x29, ())))))
    else none
  else
    some (.inl (s3, ()))
noncomputable def impl_openNets_l0 (N : Nat) : Nat → impl_openNets_l0_H → Option impl_openNets_l0_O
  | 0, _ => none
  | k + 1, d => impl_openNets_l0_r N (impl_openNets_l0 N k) d
theorem impl_openNets_l0_ok (N : Nat) (back) (d) : roundR Γ_impl_openNets (assoc [(2, ⟨impl_openNets_l2_h, impl_openNets_l2_o, impl_openNets_l2 N N⟩)]) 0 impl_openNets_l0_h impl_openNets_l0_o (loopOf Try.f30 0) back d = impl_openNets_l0_r N back d := by kernel_rfl
noncomputable def F_impl_openNets (N : Nat) (d : ((Int × (List (Int × Int × Unit)) × Unit) × Int × List (List Int) × Unit) × Unit) : Option ((List (List Int × Unit)) × Unit) :=
  let a0 : (Int × (List (Int × Int × Unit)) × Unit) × Int × List (List Int) × Unit := d.1
  if ((decide (0 ≤ a0.2.1) && decide (a0.2.1 ≤ a0.2.1) && decide (a0.2.1 ≤ (lim : Int)))) = true then
  let x1 : List (List Int × Unit) := List.replicate a0.2.1.toNat (([] : List Int), ())
  (impl_openNets_l0 N N ((a0, (x1, ((List.length x1 : Int), ((0 : Int), ())))))).bind fun o15 => match o15 with
  | .inl d16 =>
    some (d16.1, ())
  else none
theorem F_impl_openNets_ok (N : Nat) (d) : fnR Γ_impl_openNets (assoc [(0, ⟨impl_openNets_l0_h, impl_openNets_l0_o, impl_openNets_l0 N N⟩)]) true [(K_PPiSPiiqqiSSiq, false)] [K_SPSiq] Try.f30.results.toList (bodyOf Try.f30) d = F_impl_openNets N d := by kernel_rfl
noncomputable def S_impl_openNets : FSig := ⟨[(K_PPiSPiiqqiSSiq, false)], [K_SPSiq], true, (G_openNets)⟩
noncomputable def Γ_impl_net_size : Ctx := { tk := assoc tks, ar := assoc ars, fs := assoc [] }
noncomputable def F_impl_net_size (N : Nat) (d : (List Int × Unit) × Unit) : Option (Int × Unit) :=
  let a0 : List Int × Unit := d.1
  some ((List.length a0.1 : Int), ())
theorem F_impl_net_size_ok (N : Nat) (d) : fnR Γ_impl_net_size (assoc []) true [(K_PSiq, false)] [I] Try.f59.results.toList (bodyOf Try.f59) d = F_impl_net_size N d := by kernel_rfl
noncomputable def g_impl_net_size (d : (List Int × Unit) × Unit) : Int × Unit :=
  let a0 : List Int × Unit := d.1
  ((List.length a0.1 : Int), ())
theorem F_impl_net_size_tot (N : Nat) (d) : F_impl_net_size N d = some (g_impl_net_size d) := by
  unfold F_impl_net_size g_impl_net_size
  first
    | rfl
    | (dsimp only; (repeat' split) <;> rfl)
noncomputable def S_impl_net_size : FSig := ⟨[(K_PSiq, false)], [I], true, (fun d => some (g_impl_net_size d))⟩
def S_slices_Repeat_Sint_int : FSig := ⟨[(K_Si, false), (I, false)], [K_Si], true, G_repeat⟩
noncomputable def Γ_impl_net_closed : Ctx := { tk := assoc tks, ar := assoc ars, fs := assoc [] }
noncomputable def F_impl_net_closed (N : Nat) (d : (List Int × Unit) × Int × Unit) : Option (Int × Unit) :=
  let a0 : List Int × Unit := d.1
  let a1 : Int := d.2.1
  if (idxIn a1 (List.length a0.1)) = true then
  if (decide (0 ≤ a1)) = true then
  let x1 : Int := bits .or .i64 (at_ I a0.1 a1.toNat) (shl .i64 (1 : Int) a1)
  some (x1, ())
  else none
  else none
theorem F_impl_net_closed_ok (N : Nat) (d) : fnR Γ_impl_net_closed (assoc []) true [(K_PSiq, false), (I, false)] [I] Try.f33.results.toList (bodyOf Try.f33) d = F_impl_net_closed N d := by kernel_rfl
noncomputable def S_impl_net_closed : FSig := ⟨[(K_PSiq, false), (I, false)], [I], true, (F_impl_net_closed 0)⟩
noncomputable def Γ_impl_setOf : Ctx := { tk := assoc tks, ar := assoc ars, fs := assoc [] }
abbrev impl_setOf_l0_H := Int × List Int × Int × Unit
abbrev impl_setOf_l0_O := (List Int × Unit) ⊕ Empty
def impl_setOf_l0_h : Form := [(0, .v I), (3, .own K_Si 99), (4, .v I)]
def impl_setOf_l0_o : Outs := [(.normal, [(3, .own K_Si 99)])]
noncomputable def impl_setOf_l0_r (N : Nat) (back : impl_setOf_l0_H → Option impl_setOf_l0_O) (d : impl_setOf_l0_H) : Option impl_setOf_l0_O :=
  let s0 : Int := d.1
  let s3 : List Int := d.2.1
  let s4 : Int := d.2.2.1
  if (decide (0 ≤ s4)) = true then
  if (shr .i64 s0 s4 != (0 : Int)) = true then
    if (decide (0 ≤ s4)) = true then
    let x6 : Int := bits .and .i64 (shr .i64 s0 s4) (1 : Int)
    if (x6 == (1 : Int)) = true then
      if (decide (List.length s3 + List.length ([s4]) ≤ lim)) = true then
      let x7 : Int := IntKind.wrap .i64 (s4 + (1 : Int))
      back ((s0, (s3 ++ ([s4]), (x7, ()))))
      else none
    else
      let x8 : Int := IntKind.wrap .i64 (s4 + (1 : Int))
      back ((s0, (s3, (x8, ()))))
    else none
  else
    some (.inl (s3, ()))
  else none
noncomputable def impl_setOf_l0 (N : Nat) : Nat → impl_setOf_l0_H → Option impl_setOf_l0_O
  | 0, _ => none
  | k + 1, d => impl_setOf_l0_r N (impl_setOf_l0 N k) d
theorem impl_setOf_l0_ok (N : Nat) (back) (d) : roundR Γ_impl_setOf (assoc []) 0 impl_setOf_l0_h impl_setOf_l0_o (loopOf Try.f32 0) back d = impl_setOf_l0_r N back d := by kernel_rfl
noncomputable def F_impl_setOf (N : Nat) (d : Int × Unit) : Option (List Int × Unit) :=
  let a0 : Int := d.1
  (impl_setOf_l0 N N ((a0, (([] : List Int), ((0 : Int), ()))))).bind fun o4 => match o4 with
  | .inl d5 =>
    some (d5.1, ())
theorem F_impl_setOf_ok (N : Nat) (d) : fnR Γ_impl_setOf (assoc [(0, ⟨impl_setOf_l0_h, impl_setOf_l0_o, impl_setOf_l0 N N⟩)]) true [(I, false)] [K_Si] Try.f32.results.toList (bodyOf Try.f32) d = F_impl_setOf N d := by kernel_rfl
noncomputable def S_impl_setOf : FSig := ⟨[(I, false)], [K_Si], true, (G_setOf)⟩
noncomputable def Γ_impl_net_timeAfter : Ctx := { tk := assoc tks, ar := assoc ars, fs := assoc [(32, S_impl_setOf), (33, S_impl_net_closed)] }
abbrev impl_net_timeAfter_l0_H := List Int × Int × List Int × Int × Int × Unit
abbrev impl_net_timeAfter_l0_O := (Int × Unit) ⊕ (Int × Unit) ⊕ Empty
def impl_net_timeAfter_l0_h : Form := [(1, .v K_Si), (7, .v I), (13, .own K_Si 99), (14, .v I), (15, .v I)]
def impl_net_timeAfter_l0_o : Outs := [(.ret, [(6, .v I)]), (.normal, [(7, .v I)])]
noncomputable def impl_net_timeAfter_l0_r (N : Nat) (back : impl_net_timeAfter_l0_H → Option impl_net_timeAfter_l0_O) (d : impl_net_timeAfter_l0_H) : Option impl_net_timeAfter_l0_O :=
  let s1 : List Int := d.1
  let s7 : Int := d.2.1
  let s13 : List Int := d.2.2.1
  let s14 : Int := d.2.2.2.1
  let s15 : Int := d.2.2.2.2.1
  if (decide (s15 < s14)) = true then
    if (idxIn s15 (List.length s13)) = true then
    if (idxIn (at_ I s13 s15.toNat) (List.length s1)) = true then
    if (decide (at_ I s1 (at_ I s13 s15.toNat).toNat < (0 : Int))) = true then
      some (.inl ((-1 : Int), ()))
    else
      if (idxIn (at_ I s13 s15.toNat) (List.length s1)) = true then
      let x8 : Int := if s7 < at_ I s1 (at_ I s13 s15.toNat).toNat then at_ I s1 (at_ I s13 s15.toNat).toNat else s7
      let x9 : Int := IntKind.wrap .i64 (s15 + (1 : Int))
      back ((s1, (x8, (s13, (s14, (x9, ()))))))
      else none
    else none
    else none
  else
    some (.inr (.inl (s7, ())))
noncomputable def impl_net_timeAfter_l0 (N : Nat) : Nat → impl_net_timeAfter_l0_H → Option impl_net_timeAfter_l0_O
  | 0, _ => none
  | k + 1, d => impl_net_timeAfter_l0_r N (impl_net_timeAfter_l0 N k) d
theorem impl_net_timeAfter_l0_ok (N : Nat) (back) (d) : roundR Γ_impl_net_timeAfter (assoc []) 0 impl_net_timeAfter_l0_h impl_net_timeAfter_l0_o (loopOf Try.f34 0) back d = impl_net_timeAfter_l0_r N back d := by kernel_rfl
noncomputable def F_impl_net_timeAfter (N : Nat) (d : (List Int × Unit) × List Int × Int × Unit) : Option (Int × Unit) :=
  let a0 : List Int × Unit := d.1
  let a1 : List Int := d.2.1
  let a2 : Int := d.2.2.1
  ((F_impl_net_closed 0) ((a0, (a2, ())))).bind fun r1 =>
  (G_setOf (r1.1, ())).bind fun r2 =>
  (impl_net_timeAfter_l0 N N ((a1, ((0 : Int), (r2.1, ((List.length r2.1 : Int), ((0 : Int), ()))))))).bind fun o5 => match o5 with
  | .inl d6 =>
    some (d6.1, ())
  | .inr (.inl d7) =>
    some (d7.1, ())
theorem F_impl_net_timeAfter_ok (N : Nat) (d) : fnR Γ_impl_net_timeAfter (assoc [(0, ⟨impl_net_timeAfter_l0_h, impl_net_timeAfter_l0_o, impl_net_timeAfter_l0 N N⟩)]) true [(K_PSiq, false), (K_Si, false), (I, false)] [I] Try.f34.results.toList (bodyOf Try.f34) d = F_impl_net_timeAfter N d := by kernel_rfl
noncomputable def S_impl_net_timeAfter : FSig := ⟨[(K_PSiq, false), (K_Si, false), (I, false)], [I], true, (G_timeAfter)⟩
noncomputable def Γ_impl_timedTimes_1 : Ctx := { tk := assoc tks, ar := assoc ars, fs := assoc [] }
noncomputable def F_impl_timedTimes_1 (N : Nat) (d : Int × Unit) : Option (Bool × Unit) :=
  let a0 : Int := d.1
  some (true, ())
theorem F_impl_timedTimes_1_ok (N : Nat) (d) : fnR Γ_impl_timedTimes_1 (assoc []) true [(I, false)] [.bool] Try.f62.results.toList (bodyOf Try.f62) d = F_impl_timedTimes_1 N d := by kernel_rfl
noncomputable def g_impl_timedTimes_1 (d : Int × Unit) : Bool × Unit :=
  let a0 : Int := d.1
  (true, ())
theorem F_impl_timedTimes_1_tot (N : Nat) (d) : F_impl_timedTimes_1 N d = some (g_impl_timedTimes_1 d) := by
  unfold F_impl_timedTimes_1 g_impl_timedTimes_1
  first
    | rfl
    | (dsimp only; (repeat' split) <;> rfl)
noncomputable def S_impl_timedTimes_1 : FSig := ⟨[(I, false)], [.bool], true, (fun d => some (g_impl_timedTimes_1 d))⟩
noncomputable def FV_impl_timedTimes_1 (d : Int × (Unit × Unit) × Unit) : Option (Bool × Unit) := (fun d => some (g_impl_timedTimes_1 d)) (d.1, d.2.1.2)
noncomputable def SV_impl_timedTimes_1 : FSig := ⟨[(I, false), (K_F_impl_timedTimes_1_qq, false)], [.bool], true, FV_impl_timedTimes_1⟩
noncomputable def Γ_impl_timedCan_1_by_impl_timedTimes_1 : Ctx := { tk := assoc tks, ar := assoc ars, fs := assoc [(34, S_impl_net_timeAfter)], cs := assoc [(62, SV_impl_timedTimes_1)], w1 := inL [50] }
noncomputable def F_impl_timedCan_1_by_impl_timedTimes_1 (N : Nat) (d : Int × Int × (List Int × Unit) × List (List Int) × (Unit × Unit) × Unit) : Option (Bool × Unit) :=
  let a0 : Int := d.1
  let a1 : Int := d.2.1
  let a2 : List Int × Unit := d.2.2.1
  let a3 : List (List Int) := d.2.2.2.1
  let a4 : Unit × Unit := d.2.2.2.2.1
  if (a0 == a1) = true then
    some (true, ())
  else
    if (idxIn a0 (List.length a3)) = true then
    (G_timeAfter ((a2, (at_ K_Si a3 a0.toNat, (a1, ()))))).bind fun r1 =>
    if (decide (r1.1 ≥ (0 : Int))) = true then
      (FV_impl_timedTimes_1 ((r1.1, (a4, ())))).bind fun r2 =>
      some (r2.1, ())
    else
      some (false, ())
    else none
theorem F_impl_timedCan_1_by_impl_timedTimes_1_ok (N : Nat) (d) : fnR Γ_impl_timedCan_1_by_impl_timedTimes_1 (assoc []) true [(I, false), (K_Bi, false), (K_BPSiq, false), (K_BSSi, false), (K_BF_impl_timedTimes_1_qq, false)] [.bool] Try.f81.results.toList (bodyOf Try.f81) d = F_impl_timedCan_1_by_impl_timedTimes_1 N d := by kernel_rfl
noncomputable def S_impl_timedCan_1_by_impl_timedTimes_1 : FSig := ⟨[(I, false), (K_Bi, false), (K_BPSiq, false), (K_BSSi, false), (K_BF_impl_timedTimes_1_qq, false)], [.bool], true, (F_impl_timedCan_1_by_impl_timedTimes_1 0)⟩
noncomputable def FV_impl_timedCan_1_by_impl_timedTimes_1 (d : Int × (Unit × Int × (List Int × Unit) × List (List Int) × (Unit × Unit) × Unit) × Unit) : Option (Bool × Unit) := (F_impl_timedCan_1_by_impl_timedTimes_1 0) (d.1, d.2.1.2)
noncomputable def SV_impl_timedCan_1_by_impl_timedTimes_1 : FSig := ⟨[(I, false), (K_F_impl_timedCan_1_qPBiBPSiqBSSiBF_impl_timedTimes_1_qqq, false)], [.bool], true, FV_impl_timedCan_1_by_impl_timedTimes_1⟩
noncomputable def Γ_slices_IndexFunc_Sint_int_by_impl_timedCan_1_impl_timedTimes_1 : Ctx := { tk := assoc tks, ar := assoc ars, fs := assoc [], cs := assoc [(81, SV_impl_timedCan_1_by_impl_timedTimes_1)] }
abbrev slices_IndexFunc_Sint_int_by_impl_timedCan_1_impl_timedTimes_1_l0_H := List Int × (Unit × Int × (List Int × Unit) × List (List Int) × (Unit × Unit) × Unit) × Int × Int × Unit
abbrev slices_IndexFunc_Sint_int_by_impl_timedCan_1_impl_timedTimes_1_l0_O := (Int × Unit) ⊕ Unit ⊕ Empty
def slices_IndexFunc_Sint_int_by_impl_timedCan_1_impl_timedTimes_1_l0_h : Form := [(0, .v K_Si), (1, .v K_F_impl_timedCan_1_qPBiBPSiqBSSiBF_impl_timedTimes_1_qqq), (7, .v I), (8, .v I)]
def slices_IndexFunc_Sint_int_by_impl_timedCan_1_impl_timedTimes_1_l0_o : Outs := [(.ret, [(4, .v I)]), (.normal, [])]
noncomputable def slices_IndexFunc_Sint_int_by_impl_timedCan_1_impl_timedTimes_1_l0_r (N : Nat) (back : slices_IndexFunc_Sint_int_by_impl_timedCan_1_impl_timedTimes_1_l0_H → Option slices_IndexFunc_Sint_int_by_impl_timedCan_1_impl_timedTimes_1_l0_O) (d : slices_IndexFunc_Sint_int_by_impl_timedCan_1_impl_timedTimes_1_l0_H) : Option slices_IndexFunc_Sint_int_by_impl_timedCan_1_impl_timedTimes_1_l0_O :=
  let s0 : List Int := d.1
  let s1 : Unit × Int × (List Int × Unit) × List (List Int) × (Unit × Unit) × Unit := d.2.1
  let s7 : Int := d.2.2.1
  let s8 : Int := d.2.2.2.1
  if (decide (s8 < s7)) = true then
    if (idxIn s8 (List.length s0)) = true then
    (FV_impl_timedCan_1_by_impl_timedTimes_1 ((at_ I s0 s8.toNat, (s1, ())))).bind fun r6 =>
    if (r6.1) = true then
      some (.inl (s8, ()))
    else
      let x7 : Int := IntKind.wrap .i64 (s8 + (1 : Int))
      back ((s0, (s1, (s7, (x7, ())))))
    else none
  else
    some (.inr (.inl ()))
noncomputable def slices_IndexFunc_Sint_int_by_impl_timedCan_1_impl_timedTimes_1_l0 (N : Nat) : Nat → slices_IndexFunc_Sint_int_by_impl_timedCan_1_impl_timedTimes_1_l0_H → Option slices_IndexFunc_Sint_int_by_impl_timedCan_1_impl_timedTimes_1_l0_O
  | 0, _ => none
  | k + 1, d => slices_IndexFunc_Sint_int_by_impl_timedCan_1_impl_timedTimes_1_l0_r N (slices_IndexFunc_Sint_int_by_impl_timedCan_1_impl_timedTimes_1_l0 N k) d
theorem slices_IndexFunc_Sint_int_by_impl_timedCan_1_impl_timedTimes_1_l0_ok (N : Nat) (back) (d) : roundR Γ_slices_IndexFunc_Sint_int_by_impl_timedCan_1_impl_timedTimes_1 (assoc []) 0 slices_IndexFunc_Sint_int_by_impl_timedCan_1_impl_timedTimes_1_l0_h slices_IndexFunc_Sint_int_by_impl_timedCan_1_impl_timedTimes_1_l0_o (loopOf Try.f89 0) back d = slices_IndexFunc_Sint_int_by_impl_timedCan_1_impl_timedTimes_1_l0_r N back d := by kernel_rfl
noncomputable def F_slices_IndexFunc_Sint_int_by_impl_timedCan_1_impl_timedTimes_1 (N : Nat) (d : List Int × (Unit × Int × (List Int × Unit) × List (List Int) × (Unit × Unit) × Unit) × Unit) : Option (Int × Unit) :=
  let a0 : List Int := d.1
  let a1 : Unit × Int × (List Int × Unit) × List (List Int) × (Unit × Unit) × Unit := d.2.1
  (slices_IndexFunc_Sint_int_by_impl_timedCan_1_impl_timedTimes_1_l0 N N ((a0, (a1, ((List.length a0 : Int), ((0 : Int), ())))))).bind fun o3 => match o3 with
  | .inl d4 =>
    some (d4.1, ())
  | .inr (.inl d5) =>
    some ((-1 : Int), ())
theorem F_slices_IndexFunc_Sint_int_by_impl_timedCan_1_impl_timedTimes_1_ok (N : Nat) (d) : fnR Γ_slices_IndexFunc_Sint_int_by_impl_timedCan_1_impl_timedTimes_1 (assoc [(0, ⟨slices_IndexFunc_Sint_int_by_impl_timedCan_1_impl_timedTimes_1_l0_h, slices_IndexFunc_Sint_int_by_impl_timedCan_1_impl_timedTimes_1_l0_o, slices_IndexFunc_Sint_int_by_impl_timedCan_1_impl_timedTimes_1_l0 N N⟩)]) true [(K_Si, false), (K_F_impl_timedCan_1_qPBiBPSiqBSSiBF_impl_timedTimes_1_qqq, false)] [I] Try.f89.results.toList (bodyOf Try.f89) d = F_slices_IndexFunc_Sint_int_by_impl_timedCan_1_impl_timedTimes_1 N d := by kernel_rfl
noncomputable def S_slices_IndexFunc_Sint_int_by_impl_timedCan_1_impl_timedTimes_1 : FSig := ⟨[(K_Si, false), (K_F_impl_timedCan_1_qPBiBPSiqBSSiBF_impl_timedTimes_1_qqq, false)], [I], true, (G_indexTT)⟩
noncomputable def Γ_slices_ContainsFunc_Sint_int_by_impl_timedCan_1_impl_timedTimes_1 : Ctx := { tk := assoc tks, ar := assoc ars, fs := assoc [(89, S_slices_IndexFunc_Sint_int_by_impl_timedCan_1_impl_timedTimes_1)] }
noncomputable def F_slices_ContainsFunc_Sint_int_by_impl_timedCan_1_impl_timedTimes_1 (N : Nat) (d : List Int × (Unit × Int × (List Int × Unit) × List (List Int) × (Unit × Unit) × Unit) × Unit) : Option (Bool × Unit) :=
  let a0 : List Int := d.1
  let a1 : Unit × Int × (List Int × Unit) × List (List Int) × (Unit × Unit) × Unit := d.2.1
  (G_indexTT ((a0, (a1, ())))).bind fun r1 =>
  some ((decide (r1.1 ≥ (0 : Int)), ()))
theorem F_slices_ContainsFunc_Sint_int_by_impl_timedCan_1_impl_timedTimes_1_ok (N : Nat) (d) : fnR Γ_slices_ContainsFunc_Sint_int_by_impl_timedCan_1_impl_timedTimes_1 (assoc []) true [(K_Si, false), (K_F_impl_timedCan_1_qPBiBPSiqBSSiBF_impl_timedTimes_1_qqq, false)] [.bool] Try.f80.results.toList (bodyOf Try.f80) d = F_slices_ContainsFunc_Sint_int_by_impl_timedCan_1_impl_timedTimes_1 N d := by kernel_rfl
noncomputable def S_slices_ContainsFunc_Sint_int_by_impl_timedCan_1_impl_timedTimes_1 : FSig := ⟨[(K_Si, false), (K_F_impl_timedCan_1_qPBiBPSiqBSSiBF_impl_timedTimes_1_qqq, false)], [.bool], true, (F_slices_ContainsFunc_Sint_int_by_impl_timedCan_1_impl_timedTimes_1 0)⟩
noncomputable def Γ_impl_timedCan_by_impl_timedTimes_1 : Ctx := { tk := assoc tks, ar := assoc ars, fs := assoc [(32, S_impl_setOf), (33, S_impl_net_closed), (80, S_slices_ContainsFunc_Sint_int_by_impl_timedCan_1_impl_timedTimes_1)], cs := assoc [], fz := fun t => Nat.beq t 5 || Nat.beq t 6 || Nat.beq t 8 || Nat.beq t 9 }
noncomputable def F_impl_timedCan_by_impl_timedTimes_1 (N : Nat) (d : (List Int × Unit) × List (List Int) × Int × Int × (Unit × Unit) × Unit) : Option (Bool × Unit) :=
  let a0 : List Int × Unit := d.1
  let a1 : List (List Int) := d.2.1
  let a2 : Int := d.2.2.1
  let a3 : Int := d.2.2.2.1
  let a4 : Unit × Unit := d.2.2.2.2.1
  ((F_impl_net_closed 0) ((a0, (a2, ())))).bind fun r1 =>
  (G_setOf (r1.1, ())).bind fun r2 =>
  ((F_slices_ContainsFunc_Sint_int_by_impl_timedCan_1_impl_timedTimes_1 0) ((r2.1, (((), (a3, (a0, (a1, (a4, ()))))), ())))).bind fun r3 =>
  some (r3.1, ())
theorem F_impl_timedCan_by_impl_timedTimes_1_ok (N : Nat) (d) : fnR Γ_impl_timedCan_by_impl_timedTimes_1 (assoc []) true [(K_PSiq, false), (K_SSi, false), (I, false), (I, false), (K_F_impl_timedTimes_1_qq, false)] [.bool] Try.f61.results.toList (bodyOf Try.f61) d = F_impl_timedCan_by_impl_timedTimes_1 N d := by kernel_rfl
noncomputable def S_impl_timedCan_by_impl_timedTimes_1 : FSig := ⟨[(K_PSiq, false), (K_SSi, false), (I, false), (I, false), (K_F_impl_timedTimes_1_qq, false)], [.bool], true, (F_impl_timedCan_by_impl_timedTimes_1 0)⟩
noncomputable def Γ_impl_timedTimes : Ctx := { tk := assoc tks, ar := assoc ars, fs := assoc [(59, S_impl_net_size), (60, S_slices_Repeat_Sint_int), (61, S_impl_timedCan_by_impl_timedTimes_1)] }
abbrev impl_timedTimes_l2_H := (List (List Int × Unit)) × Int × List (List (List Int)) × Int × Int × Int × Int × Int × Unit
abbrev impl_timedTimes_l2_O := ((List (List Int × Unit)) × Int × List (List (List Int)) × Int × Int × Unit) ⊕ Empty
def impl_timedTimes_l2_h : Form := [(0, .v K_SPSiq), (3, .v I), (4, .own K_SSSi 99), (5, .v I), (25, .v I), (26, .v I), (29, .v I), (30, .v I)]
def impl_timedTimes_l2_o : Outs := [(.normal, [(0, .v K_SPSiq), (3, .v I), (4, .own K_SSSi 99), (25, .v I), (26, .v I)])]
noncomputable def impl_timedTimes_l2_r (N : Nat) (back : impl_timedTimes_l2_H → Option impl_timedTimes_l2_O) (d : impl_timedTimes_l2_H) : Option impl_timedTimes_l2_O :=
  let s0 : List (List Int × Unit) := d.1
  let s3 : Int := d.2.1
  let s4 : List (List (List Int)) := d.2.2.1
  let s5 : Int := d.2.2.2.1
  let s25 : Int := d.2.2.2.2.1
  let s26 : Int := d.2.2.2.2.2.1
  let s29 : Int := d.2.2.2.2.2.2.1
  let s30 : Int := d.2.2.2.2.2.2.2.1
  if (decide (s30 < s29)) = true then
    (G_repeat (([(-1 : Int)], (s3, ())))).bind fun r41 =>
    if (idxIn s30 (List.length r41.1)) = true then
    let x42 : List Int := List.set r41.1 s30.toNat (0 : Int)
    if (idxIn s5 (List.length s4)) = true then
    if (decide (List.length (at_ K_SSi s4 s5.toNat) + List.length ([x42]) ≤ lim)) = true then
    let x43 : List (List Int) := (at_ K_SSi s4 s5.toNat) ++ ([x42])
    if (idxIn s5 (List.length s4)) = true then
    if (((Nat.beq s5.toNat s5.toNat) && true)) = true then
    let x44 : Int := IntKind.wrap .i64 (s30 + (1 : Int))
    back ((s0, (s3, (List.set s4 s5.toNat x43, (s5, (s25, (s26, (s29, (x44, ())))))))))
    else none
    else none
    else none
    else none
    else none
  else
    some (.inl ((s0, (s3, (s4, (s25, (s26, ())))))))
noncomputable def impl_timedTimes_l2 (N : Nat) : Nat → impl_timedTimes_l2_H → Option impl_timedTimes_l2_O
  | 0, _ => none
  | k + 1, d => impl_timedTimes_l2_r N (impl_timedTimes_l2 N k) d
theorem impl_timedTimes_l2_ok (N : Nat) (back) (d) : roundR Γ_impl_timedTimes (assoc []) 2 impl_timedTimes_l2_h impl_timedTimes_l2_o (loopOf Try.f31 2) back d = impl_timedTimes_l2_r N back d := by kernel_rfl
abbrev impl_timedTimes_l0_H := (List (List Int × Unit)) × Int × List (List (List Int)) × Int × Int × Unit
abbrev impl_timedTimes_l0_O := ((List (List Int × Unit)) × Int × List (List (List Int)) × Unit) ⊕ Empty
def impl_timedTimes_l0_h : Form := [(0, .v K_SPSiq), (3, .v I), (4, .own K_SSSi 99), (25, .v I), (26, .v I)]
def impl_timedTimes_l0_o : Outs := [(.normal, [(0, .v K_SPSiq), (3, .v I), (4, .own K_SSSi 99)])]
noncomputable def impl_timedTimes_l0_r (N : Nat) (back : impl_timedTimes_l0_H → Option impl_timedTimes_l0_O) (d : impl_timedTimes_l0_H) : Option impl_timedTimes_l0_O :=
  let s0 : List (List Int × Unit) := d.1
  let s3 : Int := d.2.1
  let s4 : List (List (List Int)) := d.2.2.1
  let s25 : Int := d.2.2.2.1
  let s26 : Int := d.2.2.2.2.1
  if (decide (s26 < s25)) = true then
    (impl_timedTimes_l2 N N ((s0, (s3, (s4, (s26, (s25, (s26, (s3, ((0 : Int), ())))))))))).bind fun o38 => match o38 with
    | .inl d39 =>
      let x40 : Int := IntKind.wrap .i64 (d39.2.2.2.2.1 + (1 : Int))
      back ((d39.1, (d39.2.1, (d39.2.2.1, (d39.2.2.2.1, (x40, ()))))))
  else
    some (.inl ((s0, (s3, (s4, ())))))
noncomputable def impl_timedTimes_l0 (N : Nat) : Nat → impl_timedTimes_l0_H → Option impl_timedTimes_l0_O
  | 0, _ => none
  | k + 1, d => impl_timedTimes_l0_r N (impl_timedTimes_l0 N k) d
theorem impl_timedTimes_l0_ok (N : Nat) (back) (d) : roundR Γ_impl_timedTimes (assoc [(2, ⟨impl_timedTimes_l2_h, impl_timedTimes_l2_o, impl_timedTimes_l2 N N⟩)]) 0 impl_timedTimes_l0_h impl_timedTimes_l0_o (loopOf Try.f31 0) back d = impl_timedTimes_l0_r N back d := by kernel_rfl
abbrev impl_timedTimes_l10_H := (List (List Int × Unit)) × Int × List (List (List Int)) × Int × Bool × (List (Int × Int × Int × Unit)) × Int × (List Int × Unit) × Int × (List (List Int × Unit)) × Int × Int × Int × Int × Int × Int × Unit
abbrev impl_timedTimes_l10_O := ((List (List Int × Unit)) × Int × List (List (List Int)) × Int × Bool × (List (Int × Int × Int × Unit)) × Int × (List Int × Unit) × (List (List Int × Unit)) × Int × Int × Int × Int × Unit) ⊕ Empty
def impl_timedTimes_l10_h : Form := [(0, .v K_SPSiq), (3, .v I), (4, .own K_SSSi 99), (8, .v I), (9, .v .bool), (10, .own K_SPiiiq 99), (11, .v I), (12, .box K_PSiq 0), (13, .v I), (54, .v K_SPSiq), (55, .v I), (56, .v I), (61, .v I), (62, .v I), (65, .v I), (66, .v I)]
def impl_timedTimes_l10_o : Outs := [(.normal, [(0, .v K_SPSiq), (3, .v I), (4, .own K_SSSi 99), (8, .v I), (9, .v .bool), (10, .own K_SPiiiq 99), (11, .v I), (12, .box K_PSiq 0), (54, .v K_SPSiq), (55, .v I), (56, .v I), (61, .v I), (62, .v I)])]
noncomputable def impl_timedTimes_l10_r (N : Nat) (back : impl_timedTimes_l10_H → Option impl_timedTimes_l10_O) (d : impl_timedTimes_l10_H) : Option impl_timedTimes_l10_O :=
  let s0 : List (List Int × Unit) := d.1
  let s3 : Int := d.2.1
  let s4 : List (List (List Int)) := d.2.2.1
  let s8 : Int := d.2.2.2.1
  let s9 : Bool := d.2.2.2.2.1
  let s10 : List (Int × Int × Int × Unit) := d.2.2.2.2.2.1
  let s11 : Int := d.2.2.2.2.2.2.1
  let s12 : List Int × Unit := d.2.2.2.2.2.2.2.1
  let s13 : Int := d.2.2.2.2.2.2.2.2.1
  let s54 : List (List Int × Unit) := d.2.2.2.2.2.2.2.2.2.1
  let s55 : Int := d.2.2.2.2.2.2.2.2.2.2.1
  let s56 : Int := d.2.2.2.2.2.2.2.2.2.2.2.1
  let s61 : Int := d.2.2.2.2.2.2.2.2.2.2.2.2.1
  let s62 : Int := d.2.2.2.2.2.2.2.2.2.2.2.2.2.1
  let s65 : Int := d.2.2.2.2.2.2.2.2.2.2.2.2.2.2.1
  let s66 : Int := d.2.2.2.2.2.2.2.2.2.2.2.2.2.2.2.1
  if (decide (s66 < s65)) = true then
    if (idxIn s11 (List.length s4)) = true then
    if (idxIn s13 (List.length (at_ K_SSi s4 s11.toNat))) = true then
    if (idxIn s66 (List.length (at_ K_Si (at_ K_SSi s4 s11.toNat) s13.toNat))) = true then
    if (decide (at_ I (at_ K_Si (at_ K_SSi s4 s11.toNat) s13.toNat) s66.toNat < (0 : Int))) = true then
      let x88 : Int := IntKind.wrap .i64 (s11 + (1 : Int))
      if ((List.length s0 : Int) != 0) = true then
      let x89 : Int := x88.tmod (List.length s0 : Int)
      if (idxIn x89 (List.length s4)) = true then
      ((F_impl_timedCan_by_impl_timedTimes_1 0) ((s12, (at_ K_SSi s4 x89.toNat, (s13, (s66, (((), ()), ()))))))).bind fun r90 =>
      if (r90.1) = true then
        if (decide (List.length s10 + List.length ([(s11, (s13, (s66, ())))]) ≤ lim)) = true then
        let x91 : List (Int × Int × Int × Unit) := s10 ++ ([(s11, (s13, (s66, ())))])
        let x92 : Int := IntKind.wrap .i64 (s66 + (1 : Int))
        back ((s0, (s3, (s4, (s8, (s9, (x91, (s11, (s12, (s13, (s54, (s55, (s56, (s61, (s62, (s65, (x92, ())))))))))))))))))
        else none
      else
        let x93 : Int := IntKind.wrap .i64 (s66 + (1 : Int))
        back ((s0, (s3, (s4, (s8, (s9, (s10, (s11, (s12, (s13, (s54, (s55, (s56, (s61, (s62, (s65, (x93, ())))))))))))))))))
      else none
      else none
    else
      let x94 : Int := IntKind.wrap .i64 (s66 + (1 : Int))
      back ((s0, (s3, (s4, (s8, (s9, (s10, (s11, (s12, (s13, (s54, (s55, (s56, (s61, (s62, (s65, (x94, ())))))))))))))))))
    else none
    else none
    else none
  else
    some (.inl ((s0, (s3, (s4, (s8, (s9, (s10, (s11, (s12, (s54, (s55, (s56, (s61, (s62, ())))))))))))))))
noncomputable def impl_timedTimes_l10 (N : Nat) : Nat → impl_timedTimes_l10_H → Option impl_timedTimes_l10_O
  | 0, _ => none
  | k + 1, d => impl_timedTimes_l10_r N (impl_timedTimes_l10 N k) d
theorem impl_timedTimes_l10_ok (N : Nat) (back) (d) : roundR Γ_impl_timedTimes (assoc []) 10 impl_timedTimes_l10_h impl_timedTimes_l10_o (loopOf Try.f31 10) back d = impl_timedTimes_l10_r N back d := by kernel_rfl
abbrev impl_timedTimes_l8_H := (List (List Int × Unit)) × Int × List (List (List Int)) × Int × Bool × (List (Int × Int × Int × Unit)) × Int × (List Int × Unit) × (List (List Int × Unit)) × Int × Int × Int × Int × Unit
abbrev impl_timedTimes_l8_O := ((List (List Int × Unit)) × Int × List (List (List Int)) × Int × Bool × (List (Int × Int × Int × Unit)) × (List (List Int × Unit)) × Int × Int × Unit) ⊕ Empty
def impl_timedTimes_l8_h : Form := [(0, .v K_SPSiq), (3, .v I), (4, .own K_SSSi 99), (8, .v I), (9, .v .bool), (10, .own K_SPiiiq 99), (11, .v I), (12, .box K_PSiq 0), (54, .v K_SPSiq), (55, .v I), (56, .v I), (61, .v I), (62, .v I)]
def impl_timedTimes_l8_o : Outs := [(.normal, [(0, .v K_SPSiq), (3, .v I), (4, .own K_SSSi 99), (8, .v I), (9, .v .bool), (10, .own K_SPiiiq 99), (54, .v K_SPSiq), (55, .v I), (56, .v I)])]
noncomputable def impl_timedTimes_l8_r (N : Nat) (back : impl_timedTimes_l8_H → Option impl_timedTimes_l8_O) (d : impl_timedTimes_l8_H) : Option impl_timedTimes_l8_O :=
  let s0 : List (List Int × Unit) := d.1
  let s3 : Int := d.2.1
  let s4 : List (List (List Int)) := d.2.2.1
  let s8 : Int := d.2.2.2.1
  let s9 : Bool := d.2.2.2.2.1
  let s10 : List (Int × Int × Int × Unit) := d.2.2.2.2.2.1
  let s11 : Int := d.2.2.2.2.2.2.1
  let s12 : List Int × Unit := d.2.2.2.2.2.2.2.1
  let s54 : List (List Int × Unit) := d.2.2.2.2.2.2.2.2.1
  let s55 : Int := d.2.2.2.2.2.2.2.2.2.1
  let s56 : Int := d.2.2.2.2.2.2.2.2.2.2.1
  let s61 : Int := d.2.2.2.2.2.2.2.2.2.2.2.1
  let s62 : Int := d.2.2.2.2.2.2.2.2.2.2.2.2.1
  if (decide (s62 < s61)) = true then
    (impl_timedTimes_l10 N N ((s0, (s3, (s4, (s8, (s9, (s10, (s11, (s12, (s62, (s54, (s55, (s56, (s61, (s62, (s3, ((0 : Int), ())))))))))))))))))).bind fun o85 => match o85 with
    | .inl d86 =>
      let x87 : Int := IntKind.wrap .i64 (d86.2.2.2.2.2.2.2.2.2.2.2.2.1 + (1 : Int))
      back ((d86.1, (d86.2.1, (d86.2.2.1, (d86.2.2.2.1, (d86.2.2.2.2.1, (d86.2.2.2.2.2.1, (d86.2.2.2.2.2.2.1, (d86.2.2.2.2.2.2.2.1, (d86.2.2.2.2.2.2.2.2.1, (d86.2.2.2.2.2.2.2.2.2.1, (d86.2.2.2.2.2.2.2.2.2.2.1, (d86.2.2.2.2.2.2.2.2.2.2.2.1, (x87, ()))))))))))))))
  else
    some (.inl ((s0, (s3, (s4, (s8, (s9, (s10, (s54, (s55, (s56, ())))))))))))
noncomputable def impl_timedTimes_l8 (N : Nat) : Nat → impl_timedTimes_l8_H → Option impl_timedTimes_l8_O
  | 0, _ => none
  | k + 1, d => impl_timedTimes_l8_r N (impl_timedTimes_l8 N k) d
theorem impl_timedTimes_l8_ok (N : Nat) (back) (d) : roundR Γ_impl_timedTimes (assoc [(10, ⟨impl_timedTimes_l10_h, impl_timedTimes_l10_o, impl_timedTimes_l10 N N⟩)]) 8 impl_timedTimes_l8_h impl_timedTimes_l8_o (loopOf Try.f31 8) back d = impl_timedTimes_l8_r N back d := by kernel_rfl
abbrev impl_timedTimes_l6_H := (List (List Int × Unit)) × Int × List (List (List Int)) × Int × Bool × (List (Int × Int × Int × Unit)) × (List (List Int × Unit)) × Int × Int × Unit
abbrev impl_timedTimes_l6_O := ((List (List Int × Unit)) × Int × List (List (List Int)) × Int × Bool × (List (Int × Int × Int × Unit)) × Unit) ⊕ Empty
def impl_timedTimes_l6_h : Form := [(0, .v K_SPSiq), (3, .v I), (4, .own K_SSSi 99), (8, .v I), (9, .v .bool), (10, .own K_SPiiiq 99), (54, .v K_SPSiq), (55, .v I), (56, .v I)]
def impl_timedTimes_l6_o : Outs := [(.normal, [(0, .v K_SPSiq), (3, .v I), (4, .own K_SSSi 99), (8, .v I), (9, .v .bool), (10, .own K_SPiiiq 99)])]
noncomputable def impl_timedTimes_l6_r (N : Nat) (back : impl_timedTimes_l6_H → Option impl_timedTimes_l6_O) (d : impl_timedTimes_l6_H) : Option impl_timedTimes_l6_O :=
  let s0 : List (List Int × Unit) := d.1
  let s3 : Int := d.2.1
  let s4 : List (List (List Int)) := d.2.2.1
  let s8 : Int := d.2.2.2.1
  let s9 : Bool := d.2.2.2.2.1
  let s10 : List (Int × Int × Int × Unit) := d.2.2.2.2.2.1
  let s54 : List (List Int × Unit) := d.2.2.2.2.2.2.1
  let s55 : Int := d.2.2.2.2.2.2.2.1
  let s56 : Int := d.2.2.2.2.2.2.2.2.1
  if (decide (s56 < s55)) = true then
    if (idxIn s56 (List.length s54)) = true then
    (impl_timedTimes_l8 N N ((s0, (s3, (s4, (s8, (s9, (s10, (s56, (at_ K_PSiq s54 s56.toNat, (s54, (s55, (s56, (s3, ((0 : Int), ()))))))))))))))).bind fun o75 => match o75 with
    | .inl d76 =>
      let x77 : Int := IntKind.wrap .i64 (d76.2.2.2.2.2.2.2.2.1 + (1 : Int))
      back ((d76.1, (d76.2.1, (d76.2.2.1, (d76.2.2.2.1, (d76.2.2.2.2.1, (d76.2.2.2.2.2.1, (d76.2.2.2.2.2.2.1, (d76.2.2.2.2.2.2.2.1, (x77, ()))))))))))
    else none
  else
    some (.inl ((s0, (s3, (s4, (s8, (s9, (s10, ()))))))))
noncomputable def impl_timedTimes_l6 (N : Nat) : Nat → impl_timedTimes_l6_H → Option impl_timedTimes_l6_O
  | 0, _ => none
  | k + 1, d => impl_timedTimes_l6_r N (impl_timedTimes_l6 N k) d
theorem impl_timedTimes_l6_ok (N : Nat) (back) (d) : roundR Γ_impl_timedTimes (assoc [(8, ⟨impl_timedTimes_l8_h, impl_timedTimes_l8_o, impl_timedTimes_l8 N N⟩)]) 6 impl_timedTimes_l6_h impl_timedTimes_l6_o (loopOf Try.f31 6) back d = impl_timedTimes_l6_r N back d := by kernel_rfl
abbrev impl_timedTimes_l12_H := (List (List Int × Unit)) × Int × List (List (List Int)) × Int × Bool × (List (Int × Int × Int × Unit)) × Int × Int × Unit
abbrev impl_timedTimes_l12_O := ((List (List Int × Unit)) × Int × List (List (List Int)) × Int × Bool × Unit) ⊕ Empty
def impl_timedTimes_l12_h : Form := [(0, .v K_SPSiq), (3, .v I), (4, .own K_SSSi 99), (8, .v I), (9, .v .bool), (104, .own K_SPiiiq 99), (105, .v I), (106, .v I)]
def impl_timedTimes_l12_o : Outs := [(.normal, [(0, .v K_SPSiq), (3, .v I), (4, .own K_SSSi 99), (8, .v I), (9, .v .bool)])]
noncomputable def impl_timedTimes_l12_r (N : Nat) (back : impl_timedTimes_l12_H → Option impl_timedTimes_l12_O) (d : impl_timedTimes_l12_H) : Option impl_timedTimes_l12_O :=
  let s0 : List (List Int × Unit) := d.1
  let s3 : Int := d.2.1
  let s4 : List (List (List Int)) := d.2.2.1
  let s8 : Int := d.2.2.2.1
  let s9 : Bool := d.2.2.2.2.1
  let s104 : List (Int × Int × Int × Unit) := d.2.2.2.2.2.1
  let s105 : Int := d.2.2.2.2.2.2.1
  let s106 : Int := d.2.2.2.2.2.2.2.1
  if (decide (s106 < s105)) = true then
    if (idxIn s106 (List.length s104)) = true then
    if (idxIn (at_ K_Piiiq s104 s106.toNat).1 (List.length s4)) = true then
    if (idxIn (at_ K_Piiiq s104 s106.toNat).2.1 (List.length (at_ K_SSi s4 (at_ K_Piiiq s104 s106.toNat).1.toNat))) = true then
    if (idxIn (at_ K_Piiiq s104 s106.toNat).2.2.1 (List.length (at_ K_Si (at_ K_SSi s4 (at_ K_Piiiq s104 s106.toNat).1.toNat) (at_ K_Piiiq s104 s106.toNat).2.1.toNat))) = true then
    let x95 : List (List (List Int)) := List.set s4 (at_ K_Piiiq s104 s106.toNat).1.toNat (List.set (at_ K_SSi s4 (at_ K_Piiiq s104 s106.toNat).1.toNat) (at_ K_Piiiq s104 s106.toNat).2.1.toNat (List.set (at_ K_Si (at_ K_SSi s4 (at_ K_Piiiq s104 s106.toNat).1.toNat) (at_ K_Piiiq s104 s106.toNat).2.1.toNat) (at_ K_Piiiq s104 s106.toNat).2.2.1.toNat s8))
    let x96 : Int := IntKind.wrap .i64 (s106 + (1 : Int))
    back ((s0, (s3, (x95, (s8, (true, (s104, (s105, (x96, ())))))))))
    else none
    else none
    else none
    else none
  else
    some (.inl ((s0, (s3, (s4, (s8, (s9, ())))))))
noncomputable def impl_timedTimes_l12 (N : Nat) : Nat → impl_timedTimes_l12_H → Option impl_timedTimes_l12_O
  | 0, _ => none
  | k + 1, d => impl_timedTimes_l12_r N (impl_timedTimes_l12 N k) d
theorem impl_timedTimes_l12_ok (N : Nat) (back) (d) : roundR Γ_impl_timedTimes (assoc []) 12 impl_timedTimes_l12_h impl_timedTimes_l12_o (loopOf Try.f31 12) back d = impl_timedTimes_l12_r N back d := by kernel_rfl
abbrev impl_timedTimes_l4_H := (List (List Int × Unit)) × Int × List (List (List Int)) × Int × Bool × Unit
abbrev impl_timedTimes_l4_O := (List (List (List Int)) × Unit) ⊕ Empty
def impl_timedTimes_l4_h : Form := [(0, .v K_SPSiq), (3, .v I), (4, .own K_SSSi 99), (8, .v I), (9, .v .bool)]
def impl_timedTimes_l4_o : Outs := [(.normal, [(4, .own K_SSSi 99)])]
noncomputable def impl_timedTimes_l4_r (N : Nat) (back : impl_timedTimes_l4_H → Option impl_timedTimes_l4_O) (d : impl_timedTimes_l4_H) : Option impl_timedTimes_l4_O :=
  let s0 : List (List Int × Unit) := d.1
  let s3 : Int := d.2.1
  let s4 : List (List (List Int)) := d.2.2.1
  let s8 : Int := d.2.2.2.1
  let s9 : Bool := d.2.2.2.2.1
  if (s9) = true then
    (impl_timedTimes_l6 N N ((s0, (s3, (s4, (s8, (false, (([] : List (Int × Int × Int × Unit)), (s0, ((List.length s0 : Int), ((0 : Int), ()))))))))))).bind fun o58 => match o58 with
    | .inl d59 =>
      (impl_timedTimes_l12 N N ((d59.1, (d59.2.1, (d59.2.2.1, (d59.2.2.2.1, (d59.2.2.2.2.1, (d59.2.2.2.2.2.1, ((List.length d59.2.2.2.2.2.1 : Int), ((0 : Int), ())))))))))).bind fun o62 => match o62 with
      | .inl d63 =>
        let x64 : Int := IntKind.wrap .i64 (d63.2.2.2.1 + (1 : Int))
        back ((d63.1, (d63.2.1, (d63.2.2.1, (x64, (d63.2.2.2.2.1, ()))))))
  else
    some (.inl (s4, ()))
noncomputable def impl_timedTimes_l4 (N : Nat) : Nat → impl_timedTimes_l4_H → Option impl_timedTimes_l4_O
  | 0, _ => none
  | k + 1, d => impl_timedTimes_l4_r N (impl_timedTimes_l4 N k) d
theorem impl_timedTimes_l4_ok (N : Nat) (back) (d) : roundR Γ_impl_timedTimes (assoc [(6, ⟨impl_timedTimes_l6_h, impl_timedTimes_l6_o, impl_timedTimes_l6 N N⟩), (12, ⟨impl_timedTimes_l12_h, impl_timedTimes_l12_o, impl_timedTimes_l12 N N⟩)]) 4 impl_timedTimes_l4_h impl_timedTimes_l4_o (loopOf Try.f31 4) back d = impl_timedTimes_l4_r N back d := by kernel_rfl
noncomputable def F_impl_timedTimes (N : Nat) (d : (List (List Int × Unit)) × Unit) : Option (List (List (List Int)) × Unit) :=
  let a0 : List (List Int × Unit) := d.1
  if (idxIn (0 : Int) (List.length a0)) = true then
  let r1 : Int × Unit := g_impl_net_size (at_ K_PSiq a0 (0 : Int).toNat, ())
  if ((decide (0 ≤ (List.length a0 : Int)) && decide ((List.length a0 : Int) ≤ (List.length a0 : Int)) && decide ((List.length a0 : Int) ≤ (lim : Int)))) = true then
  let x2 : List (List (List Int)) := List.replicate (List.length a0 : Int).toNat ([] : List (List Int))
  (impl_timedTimes_l0 N N ((a0, (r1.1, (x2, ((List.length x2 : Int), ((0 : Int), ()))))))).bind fun o10 => match o10 with
  | .inl d11 =>
    (impl_timedTimes_l4 N N ((d11.1, (d11.2.1, (d11.2.2.1, ((1 : Int), (true, ()))))))).bind fun o32 => match o32 with
    | .inl d33 =>
      some (d33.1, ())
  else none
  else none
theorem F_impl_timedTimes_ok (N : Nat) (d) : fnR Γ_impl_timedTimes (assoc [(0, ⟨impl_timedTimes_l0_h, impl_timedTimes_l0_o, impl_timedTimes_l0 N N⟩), (4, ⟨impl_timedTimes_l4_h, impl_timedTimes_l4_o, impl_timedTimes_l4 N N⟩)]) true [(K_SPSiq, false)] [K_SSSi] Try.f31.results.toList (bodyOf Try.f31) d = F_impl_timedTimes N d := by kernel_rfl
noncomputable def S_impl_timedTimes : FSig := ⟨[(K_SPSiq, false)], [K_SSSi], true, (G_timedTimes)⟩
noncomputable def Γ_impl_TimedTimes : Ctx := { tk := assoc tks, ar := assoc ars, fs := assoc [(30, S_impl_openNets), (31, S_impl_timedTimes), (38, S_impl_IsTimetable)] }
noncomputable def F_impl_TimedTimes (N : Nat) (d : ((Int × (List (Int × Int × Unit)) × Unit) × Int × List (List Int) × Unit) × Unit) : Option (List (List (List Int)) × Bool × Unit) :=
  let a0 : (Int × (List (Int × Int × Unit)) × Unit) × Int × List (List Int) × Unit := d.1
  ((F_impl_IsTimetable 0) (a0, ())).bind fun r1 =>
  if (!r1.1) = true then
    some ((([] : List (List (List Int))), (false, ())))
  else
    (G_openNets (a0, ())).bind fun r2 =>
    (G_timedTimes (r2.1, ())).bind fun r3 =>
    some ((r3.1, (true, ())))
theorem F_impl_TimedTimes_ok (N : Nat) (d) : fnR Γ_impl_TimedTimes (assoc []) true [(K_PPiSPiiqqiSSiq, false)] [K_SSSi, .bool] Try.f14.results.toList (bodyOf Try.f14) d = F_impl_TimedTimes N d := by kernel_rfl
noncomputable def S_impl_TimedTimes : FSig := ⟨[(K_PPiSPiiqqiSSiq, false)], [K_SSSi, .bool], true, (F_impl_TimedTimes 0)⟩
noncomputable def Γ_laws_eqIntS : Ctx := { tk := assoc tks, ar := assoc ars, fs := assoc [] }
abbrev laws_eqIntS_l0_H := List Int × List Int × Int × Unit
abbrev laws_eqIntS_l0_O := (Bool × Unit) ⊕ Unit ⊕ Empty
def laws_eqIntS_l0_h : Form := [(0, .v K_Si), (1, .v K_Si), (5, .v I)]
def laws_eqIntS_l0_o : Outs := [(.ret, [(4, .v .bool)]), (.normal, [])]
noncomputable def laws_eqIntS_l0_r (N : Nat) (back : laws_eqIntS_l0_H → Option laws_eqIntS_l0_O) (d : laws_eqIntS_l0_H) : Option laws_eqIntS_l0_O :=
  let s0 : List Int := d.1
  let s1 : List Int := d.2.1
  let s5 : Int := d.2.2.1
  if (decide (s5 < (List.length s0 : Int))) = true then
    if (idxIn s5 (List.length s0)) = true then
    if (idxIn s5 (List.length s1)) = true then
    if (at_ I s0 s5.toNat != at_ I s1 s5.toNat) = true then
      some (.inl (false, ()))
    else
      let x5 : Int := IntKind.wrap .i64 (s5 + (1 : Int))
      back ((s0, (s1, (x5, ()))))
    else none
    else none
  else
    some (.inr (.inl ()))
noncomputable def laws_eqIntS_l0 (N : Nat) : Nat → laws_eqIntS_l0_H → Option laws_eqIntS_l0_O
  | 0, _ => none
  | k + 1, d => laws_eqIntS_l0_r N (laws_eqIntS_l0 N k) d
theorem laws_eqIntS_l0_ok (N : Nat) (back) (d) : roundR Γ_laws_eqIntS (assoc []) 0 laws_eqIntS_l0_h laws_eqIntS_l0_o (loopOf Try.f64 0) back d = laws_eqIntS_l0_r N back d := by kernel_rfl
noncomputable def F_laws_eqIntS (N : Nat) (d : List Int × List Int × Unit) : Option (Bool × Unit) :=
  let a0 : List Int := d.1
  let a1 : List Int := d.2.1
  if ((List.length a0 : Int) != (List.length a1 : Int)) = true then
    some (false, ())
  else
    (laws_eqIntS_l0 N N ((a0, (a1, ((0 : Int), ()))))).bind fun o2 => match o2 with
    | .inl d3 =>
      some (d3.1, ())
    | .inr (.inl d4) =>
      some (true, ())
theorem F_laws_eqIntS_ok (N : Nat) (d) : fnR Γ_laws_eqIntS (assoc [(0, ⟨laws_eqIntS_l0_h, laws_eqIntS_l0_o, laws_eqIntS_l0 N N⟩)]) true [(K_Si, false), (K_Si, false)] [.bool] Try.f64.results.toList (bodyOf Try.f64) d = F_laws_eqIntS N d := by kernel_rfl
noncomputable def S_laws_eqIntS : FSig := ⟨[(K_Si, false), (K_Si, false)], [.bool], true, (G_eqIntS)⟩
noncomputable def Γ_laws_eqIntSS : Ctx := { tk := assoc tks, ar := assoc ars, fs := assoc [(64, S_laws_eqIntS)] }
abbrev laws_eqIntSS_l0_H := List (List Int) × List (List Int) × Int × Unit
abbrev laws_eqIntSS_l0_O := (Bool × Unit) ⊕ Unit ⊕ Empty
def laws_eqIntSS_l0_h : Form := [(0, .v K_SSi), (1, .v K_SSi), (5, .v I)]
def laws_eqIntSS_l0_o : Outs := [(.ret, [(4, .v .bool)]), (.normal, [])]
noncomputable def laws_eqIntSS_l0_r (N : Nat) (back : laws_eqIntSS_l0_H → Option laws_eqIntSS_l0_O) (d : laws_eqIntSS_l0_H) : Option laws_eqIntSS_l0_O :=
  let s0 : List (List Int) := d.1
  let s1 : List (List Int) := d.2.1
  let s5 : Int := d.2.2.1
  if (decide (s5 < (List.length s0 : Int))) = true then
    if (idxIn s5 (List.length s0)) = true then
    if (idxIn s5 (List.length s1)) = true then
    (G_eqIntS ((at_ K_Si s0 s5.toNat, (at_ K_Si s1 s5.toNat, ())))).bind fun r6 =>
    if (!r6.1) = true then
      some (.inl (false, ()))
    else
      let x7 : Int := IntKind.wrap .i64 (s5 + (1 : Int))
      back ((s0, (s1, (x7, ()))))
    else none
    else none
  else
    some (.inr (.inl ()))
noncomputable def laws_eqIntSS_l0 (N : Nat) : Nat → laws_eqIntSS_l0_H → Option laws_eqIntSS_l0_O
  | 0, _ => none
  | k + 1, d => laws_eqIntSS_l0_r N (laws_eqIntSS_l0 N k) d
theorem laws_eqIntSS_l0_ok (N : Nat) (back) (d) : roundR Γ_laws_eqIntSS (assoc []) 0 laws_eqIntSS_l0_h laws_eqIntSS_l0_o (loopOf Try.f36 0) back d = laws_eqIntSS_l0_r N back d := by kernel_rfl
noncomputable def F_laws_eqIntSS (N : Nat) (d : List (List Int) × List (List Int) × Unit) : Option (Bool × Unit) :=
  let a0 : List (List Int) := d.1
  let a1 : List (List Int) := d.2.1
  if ((List.length a0 : Int) != (List.length a1 : Int)) = true then
    some (false, ())
  else
    (laws_eqIntSS_l0 N N ((a0, (a1, ((0 : Int), ()))))).bind fun o3 => match o3 with
    | .inl d4 =>
      some (d4.1, ())
    | .inr (.inl d5) =>
      some (true, ())
theorem F_laws_eqIntSS_ok (N : Nat) (d) : fnR Γ_laws_eqIntSS (assoc [(0, ⟨laws_eqIntSS_l0_h, laws_eqIntSS_l0_o, laws_eqIntSS_l0 N N⟩)]) true [(K_SSi, false), (K_SSi, false)] [.bool] Try.f36.results.toList (bodyOf Try.f36) d = F_laws_eqIntSS N d := by kernel_rfl
noncomputable def S_laws_eqIntSS : FSig := ⟨[(K_SSi, false), (K_SSi, false)], [.bool], true, (G_eqIntSS)⟩
noncomputable def Γ_laws_eqIntSSS : Ctx := { tk := assoc tks, ar := assoc ars, fs := assoc [(36, S_laws_eqIntSS)] }
abbrev laws_eqIntSSS_l0_H := List (List (List Int)) × List (List (List Int)) × Int × Unit
abbrev laws_eqIntSSS_l0_O := (Bool × Unit) ⊕ Unit ⊕ Empty
def laws_eqIntSSS_l0_h : Form := [(0, .v K_SSSi), (1, .v K_SSSi), (5, .v I)]
def laws_eqIntSSS_l0_o : Outs := [(.ret, [(4, .v .bool)]), (.normal, [])]
noncomputable def laws_eqIntSSS_l0_r (N : Nat) (back : laws_eqIntSSS_l0_H → Option laws_eqIntSSS_l0_O) (d : laws_eqIntSSS_l0_H) : Option laws_eqIntSSS_l0_O :=
  let s0 : List (List (List Int)) := d.1
  let s1 : List (List (List Int)) := d.2.1
  let s5 : Int := d.2.2.1
  if (decide (s5 < (List.length s0 : Int))) = true then
    if (idxIn s5 (List.length s0)) = true then
    if (idxIn s5 (List.length s1)) = true then
    (G_eqIntSS ((at_ K_SSi s0 s5.toNat, (at_ K_SSi s1 s5.toNat, ())))).bind fun r6 =>
    if (!r6.1) = true then
      some (.inl (false, ()))
    else
      let x7 : Int := IntKind.wrap .i64 (s5 + (1 : Int))
      back ((s0, (s1, (x7, ()))))
    else none
    else none
  else
    some (.inr (.inl ()))
noncomputable def laws_eqIntSSS_l0 (N : Nat) : Nat → laws_eqIntSSS_l0_H → Option laws_eqIntSSS_l0_O
  | 0, _ => none
  | k + 1, d => laws_eqIntSSS_l0_r N (laws_eqIntSSS_l0 N k) d
theorem laws_eqIntSSS_l0_ok (N : Nat) (back) (d) : roundR Γ_laws_eqIntSSS (assoc []) 0 laws_eqIntSSS_l0_h laws_eqIntSSS_l0_o (loopOf Try.f15 0) back d = laws_eqIntSSS_l0_r N back d := by kernel_rfl
noncomputable def F_laws_eqIntSSS (N : Nat) (d : List (List (List Int)) × List (List (List Int)) × Unit) : Option (Bool × Unit) :=
  let a0 : List (List (List Int)) := d.1
  let a1 : List (List (List Int)) := d.2.1
  if ((List.length a0 : Int) != (List.length a1 : Int)) = true then
    some (false, ())
  else
    (laws_eqIntSSS_l0 N N ((a0, (a1, ((0 : Int), ()))))).bind fun o3 => match o3 with
    | .inl d4 =>
      some (d4.1, ())
    | .inr (.inl d5) =>
      some (true, ())
theorem F_laws_eqIntSSS_ok (N : Nat) (d) : fnR Γ_laws_eqIntSSS (assoc [(0, ⟨laws_eqIntSSS_l0_h, laws_eqIntSSS_l0_o, laws_eqIntSSS_l0 N N⟩)]) true [(K_SSSi, false), (K_SSSi, false)] [.bool] Try.f15.results.toList (bodyOf Try.f15) d = F_laws_eqIntSSS N d := by kernel_rfl
noncomputable def S_laws_eqIntSSS : FSig := ⟨[(K_SSSi, false), (K_SSSi, false)], [.bool], true, (G_eqIntSSS)⟩
noncomputable def Γ_laws_eqIntA2 : Ctx := { tk := assoc tks, ar := assoc ars, fs := assoc [] }
abbrev laws_eqIntA2_l0_H := (Int × Int × Unit) × (Int × Int × Unit) × Int × Unit
abbrev laws_eqIntA2_l0_O := (Bool × Unit) ⊕ Unit ⊕ Empty
def laws_eqIntA2_l0_h : Form := [(2, .box K_Piiq 99), (3, .box K_Piiq 99), (5, .v I)]
def laws_eqIntA2_l0_o : Outs := [(.ret, [(4, .v .bool)]), (.normal, [])]
noncomputable def laws_eqIntA2_l0_r (N : Nat) (back : laws_eqIntA2_l0_H → Option laws_eqIntA2_l0_O) (d : laws_eqIntA2_l0_H) : Option laws_eqIntA2_l0_O :=
  let s2 : Int × Int × Unit := d.1
  let s3 : Int × Int × Unit := d.2.1
  let s5 : Int := d.2.2.1
  if (decide (s5 < (2 : Int))) = true then
    if (s5 == (0 : Int)) = true then
      if (s5 == (0 : Int)) = true then
        if (s2.1 != s3.1) = true then
          some (.inl (false, ()))
        else
          let x11 : Int := IntKind.wrap .i64 (s5 + (1 : Int))
          back ((s2, (s3, (x11, ()))))
      else
        if (s5 == (1 : Int)) = true then
        if (s2.1 != s3.2.1) = true then
          some (.inl (false, ()))
        else
          let x10 : Int := IntKind.wrap .i64 (s5 + (1 : Int))
          back ((s2, (s3, (x10, ()))))
        else none
    else
      if (s5 == (1 : Int)) = true then
      if (s5 == (0 : Int)) = true then
        if (s2.2.1 != s3.1) = true then
          some (.inl (false, ()))
        else
          let x9 : Int := IntKind.wrap .i64 (s5 + (1 : Int))
          back ((s2, (s3, (x9, ()))))
      else
        if (s5 == (1 : Int)) = true then
        if (s2.2.1 != s3.2.1) = true then
          some (.inl (false, ()))
        else
          let x8 : Int := IntKind.wrap .i64 (s5 + (1 : Int))
          back ((s2, (s3, (x8, ()))))
        else none
      else none
  else
    some (.inr (.inl ()))
noncomputable def laws_eqIntA2_l0 (N : Nat) : Nat → laws_eqIntA2_l0_H → Option laws_eqIntA2_l0_O
  | 0, _ => none
  | k + 1, d => laws_eqIntA2_l0_r N (laws_eqIntA2_l0 N k) d
theorem laws_eqIntA2_l0_ok (N : Nat) (back) (d) : roundR Γ_laws_eqIntA2 (assoc []) 0 laws_eqIntA2_l0_h laws_eqIntA2_l0_o (loopOf Try.f82 0) back d = laws_eqIntA2_l0_r N back d := by kernel_rfl
noncomputable def F_laws_eqIntA2 (N : Nat) (d : (Int × Int × Unit) × (Int × Int × Unit) × Unit) : Option (Bool × Unit) :=
  let a0 : Int × Int × Unit := d.1
  let a1 : Int × Int × Unit := d.2.1
  (laws_eqIntA2_l0 N N ((a0, (a1, ((0 : Int), ()))))).bind fun o5 => match o5 with
  | .inl d6 =>
    some (d6.1, ())
  | .inr (.inl d7) =>
    some (true, ())
theorem F_laws_eqIntA2_ok (N : Nat) (d) : fnR Γ_laws_eqIntA2 (assoc [(0, ⟨laws_eqIntA2_l0_h, laws_eqIntA2_l0_o, laws_eqIntA2_l0 N N⟩)]) true [(K_Piiq, false), (K_Piiq, false)] [.bool] Try.f82.results.toList (bodyOf Try.f82) d = F_laws_eqIntA2 N d := by kernel_rfl
noncomputable def S_laws_eqIntA2 : FSig := ⟨[(K_Piiq, false), (K_Piiq, false)], [.bool], true, (G_eqIntA2)⟩
noncomputable def Γ_laws_eqIntA2S : Ctx := { tk := assoc tks, ar := assoc ars, fs := assoc [(82, S_laws_eqIntA2)] }
abbrev laws_eqIntA2S_l0_H := (List (Int × Int × Unit)) × (List (Int × Int × Unit)) × Int × Unit
abbrev laws_eqIntA2S_l0_O := (Bool × Unit) ⊕ Unit ⊕ Empty
def laws_eqIntA2S_l0_h : Form := [(0, .v K_SPiiq), (1, .v K_SPiiq), (5, .v I)]
def laws_eqIntA2S_l0_o : Outs := [(.ret, [(4, .v .bool)]), (.normal, [])]
noncomputable def laws_eqIntA2S_l0_r (N : Nat) (back : laws_eqIntA2S_l0_H → Option laws_eqIntA2S_l0_O) (d : laws_eqIntA2S_l0_H) : Option laws_eqIntA2S_l0_O :=
  let s0 : List (Int × Int × Unit) := d.1
  let s1 : List (Int × Int × Unit) := d.2.1
  let s5 : Int := d.2.2.1
  if (decide (s5 < (List.length s0 : Int))) = true then
    if (idxIn s5 (List.length s0)) = true then
    if (idxIn s5 (List.length s1)) = true then
    (G_eqIntA2 ((at_ K_Piiq s0 s5.toNat, (at_ K_Piiq s1 s5.toNat, ())))).bind fun r6 =>
    if (!r6.1) = true then
      some (.inl (false, ()))
    else
      let x7 : Int := IntKind.wrap .i64 (s5 + (1 : Int))
      back ((s0, (s1, (x7, ()))))
    else none
    else none
  else
    some (.inr (.inl ()))
noncomputable def laws_eqIntA2S_l0 (N : Nat) : Nat → laws_eqIntA2S_l0_H → Option laws_eqIntA2S_l0_O
  | 0, _ => none
  | k + 1, d => laws_eqIntA2S_l0_r N (laws_eqIntA2S_l0 N k) d
theorem laws_eqIntA2S_l0_ok (N : Nat) (back) (d) : roundR Γ_laws_eqIntA2S (assoc []) 0 laws_eqIntA2S_l0_h laws_eqIntA2S_l0_o (loopOf Try.f63 0) back d = laws_eqIntA2S_l0_r N back d := by kernel_rfl
noncomputable def F_laws_eqIntA2S (N : Nat) (d : (List (Int × Int × Unit)) × (List (Int × Int × Unit)) × Unit) : Option (Bool × Unit) :=
  let a0 : List (Int × Int × Unit) := d.1
  let a1 : List (Int × Int × Unit) := d.2.1
  if ((List.length a0 : Int) != (List.length a1 : Int)) = true then
    some (false, ())
  else
    (laws_eqIntA2S_l0 N N ((a0, (a1, ((0 : Int), ()))))).bind fun o3 => match o3 with
    | .inl d4 =>
      some (d4.1, ())
    | .inr (.inl d5) =>
      some (true, ())
theorem F_laws_eqIntA2S_ok (N : Nat) (d) : fnR Γ_laws_eqIntA2S (assoc [(0, ⟨laws_eqIntA2S_l0_h, laws_eqIntA2S_l0_o, laws_eqIntA2S_l0 N N⟩)]) true [(K_SPiiq, false), (K_SPiiq, false)] [.bool] Try.f63.results.toList (bodyOf Try.f63) d = F_laws_eqIntA2S N d := by kernel_rfl
noncomputable def S_laws_eqIntA2S : FSig := ⟨[(K_SPiiq, false), (K_SPiiq, false)], [.bool], true, (G_eqIntA2S)⟩
noncomputable def Γ_laws_eqGraph : Ctx := { tk := assoc tks, ar := assoc ars, fs := assoc [(63, S_laws_eqIntA2S)] }
noncomputable def F_laws_eqGraph (N : Nat) (d : (Int × (List (Int × Int × Unit)) × Unit) × (Int × (List (Int × Int × Unit)) × Unit) × Unit) : Option (Bool × Unit) :=
  let a0 : Int × (List (Int × Int × Unit)) × Unit := d.1
  let a1 : Int × (List (Int × Int × Unit)) × Unit := d.2.1
  if (a0.1 != a1.1) = true then
    some (false, ())
  else
    (G_eqIntA2S ((a0.2.1, (a1.2.1, ())))).bind fun r1 =>
    if (!r1.1) = true then
      some (false, ())
    else
      some (true, ())
theorem F_laws_eqGraph_ok (N : Nat) (d) : fnR Γ_laws_eqGraph (assoc []) true [(K_PiSPiiqq, false), (K_PiSPiiqq, false)] [.bool] Try.f35.results.toList (bodyOf Try.f35) d = F_laws_eqGraph N d := by kernel_rfl
noncomputable def S_laws_eqGraph : FSig := ⟨[(K_PiSPiiqq, false), (K_PiSPiiqq, false)], [.bool], true, (F_laws_eqGraph 0)⟩
noncomputable def Γ_laws_eqTimetable : Ctx := { tk := assoc tks, ar := assoc ars, fs := assoc [(35, S_laws_eqGraph), (36, S_laws_eqIntSS)] }
noncomputable def F_laws_eqTimetable (N : Nat) (d : ((Int × (List (Int × Int × Unit)) × Unit) × Int × List (List Int) × Unit) × ((Int × (List (Int × Int × Unit)) × Unit) × Int × List (List Int) × Unit) × Unit) : Option (Bool × Unit) :=
  let a0 : (Int × (List (Int × Int × Unit)) × Unit) × Int × List (List Int) × Unit := d.1
  let a1 : (Int × (List (Int × Int × Unit)) × Unit) × Int × List (List Int) × Unit := d.2.1
  ((F_laws_eqGraph 0) ((a0.1, (a1.1, ())))).bind fun r1 =>
  if (!r1.1) = true then
    some (false, ())
  else
    if (a0.2.1 != a1.2.1) = true then
      some (false, ())
    else
      (G_eqIntSS ((a0.2.2.1, (a1.2.2.1, ())))).bind fun r2 =>
      if (!r2.1) = true then
        some (false, ())
      else
        some (true, ())
theorem F_laws_eqTimetable_ok (N : Nat) (d) : fnR Γ_laws_eqTimetable (assoc []) true [(K_PPiSPiiqqiSSiq, false), (K_PPiSPiiqqiSSiq, false)] [.bool] Try.f10.results.toList (bodyOf Try.f10) d = F_laws_eqTimetable N d := by kernel_rfl
noncomputable def S_laws_eqTimetable : FSig := ⟨[(K_PPiSPiiqqiSSiq, false), (K_PPiSPiiqqiSSiq, false)], [.bool], true, (F_laws_eqTimetable 0)⟩
noncomputable def Γ_laws_markIntA2S : Ctx := { tk := assoc tks, ar := assoc ars, fs := assoc [], lent := fun t => Nat.beq t 0 }
abbrev laws_markIntA2S_l2_H := (List (Int × Int × Unit)) × Int × Int × Int × Unit
abbrev laws_markIntA2S_l2_O := ((List (Int × Int × Unit)) × Int × Int × Unit) ⊕ Empty
def laws_markIntA2S_l2_h : Form := [(0, .own K_SPiiq 1), (1, .v I), (5, .v I), (6, .v I)]
def laws_markIntA2S_l2_o : Outs := [(.normal, [(0, .own K_SPiiq 1), (1, .v I), (5, .v I)])]
noncomputable def laws_markIntA2S_l2_r (N : Nat) (back : laws_markIntA2S_l2_H → Option laws_markIntA2S_l2_O) (d : laws_markIntA2S_l2_H) : Option laws_markIntA2S_l2_O :=
  let s0 : List (Int × Int × Unit) := d.1
  let s1 : Int := d.2.1
  let s5 : Int := d.2.2.1
  let s6 : Int := d.2.2.2.1
  if (decide (s6 < (2 : Int))) = true then
    if (idxIn s5 (List.length s0)) = true then
    if (s6 == (0 : Int)) = true then
      let x24 : List (Int × Int × Unit) := List.set s0 s5.toNat (s1, (at_ K_Piiq s0 s5.toNat).2)
      let x25 : Int := IntKind.wrap .i64 (s1 + (1 : Int))
      let x26 : Int := IntKind.wrap .i64 (s6 + (1 : Int))
      back ((x24, (x25, (s5, (x26, ())))))
    else
      if (s6 == (1 : Int)) = true then
      let x21 : List (Int × Int × Unit) := List.set s0 s5.toNat (((at_ K_Piiq s0 s5.toNat).1, (s1, (at_ K_Piiq s0 s5.toNat).2.2)))
      let x22 : Int := IntKind.wrap .i64 (s1 + (1 : Int))
      let x23 : Int := IntKind.wrap .i64 (s6 + (1 : Int))
      back ((x21, (x22, (s5, (x23, ())))))
      else none
    else none
  else
    some (.inl ((s0, (s1, (s5, ())))))
noncomputable def laws_markIntA2S_l2 (N : Nat) : Nat → laws_markIntA2S_l2_H → Option laws_markIntA2S_l2_O
  | 0, _ => none
  | k + 1, d => laws_markIntA2S_l2_r N (laws_markIntA2S_l2 N k) d
theorem laws_markIntA2S_l2_ok (N : Nat) (back) (d) : roundR Γ_laws_markIntA2S (assoc []) 2 laws_markIntA2S_l2_h laws_markIntA2S_l2_o (loopOf Try.f71 2) back d = laws_markIntA2S_l2_r N back d := by kernel_rfl
abbrev laws_markIntA2S_l0_H := (List (Int × Int × Unit)) × Int × Int × Unit
abbrev laws_markIntA2S_l0_O := ((List (Int × Int × Unit)) × Int × Unit) ⊕ Empty
def laws_markIntA2S_l0_h : Form := [(0, .own K_SPiiq 1), (1, .v I), (5, .v I)]
def laws_markIntA2S_l0_o : Outs := [(.normal, [(0, .own K_SPiiq 1), (1, .v I)])]
noncomputable def laws_markIntA2S_l0_r (N : Nat) (back : laws_markIntA2S_l0_H → Option laws_markIntA2S_l0_O) (d : laws_markIntA2S_l0_H) : Option laws_markIntA2S_l0_O :=
  let s0 : List (Int × Int × Unit) := d.1
  let s1 : Int := d.2.1
  let s5 : Int := d.2.2.1
  if (decide (s5 < (List.length s0 : Int))) = true then
    (laws_markIntA2S_l2 N N ((s0, (s1, (s5, ((0 : Int), ())))))).bind fun o18 => match o18 with
    | .inl d19 =>
      let x20 : Int := IntKind.wrap .i64 (d19.2.2.1 + (1 : Int))
      back ((d19.1, (d19.2.1, (x20, ()))))
  else
    some (.inl ((s0, (s1, ()))))
noncomputable def laws_markIntA2S_l0 (N : Nat) : Nat → laws_markIntA2S_l0_H → Option laws_markIntA2S_l0_O
  | 0, _ => none
  | k + 1, d => laws_markIntA2S_l0_r N (laws_markIntA2S_l0 N k) d
theorem laws_markIntA2S_l0_ok (N : Nat) (back) (d) : roundR Γ_laws_markIntA2S (assoc [(2, ⟨laws_markIntA2S_l2_h, laws_markIntA2S_l2_o, laws_markIntA2S_l2 N N⟩)]) 0 laws_markIntA2S_l0_h laws_markIntA2S_l0_o (loopOf Try.f71 0) back d = laws_markIntA2S_l0_r N back d := by kernel_rfl
noncomputable def F_laws_markIntA2S (N : Nat) (d : (List (Int × Int × Unit)) × Int × Unit) : Option (Int × (List (Int × Int × Unit)) × Unit) :=
  let a0 : List (Int × Int × Unit) := d.1
  let a1 : Int := d.2.1
  (laws_markIntA2S_l0 N N ((a0, (a1, ((0 : Int), ()))))).bind fun o10 => match o10 with
  | .inl d11 =>
    some ((d11.2.1, (d11.1, ())))
theorem F_laws_markIntA2S_ok (N : Nat) (d) : fnR Γ_laws_markIntA2S (assoc [(0, ⟨laws_markIntA2S_l0_h, laws_markIntA2S_l0_o, laws_markIntA2S_l0 N N⟩)]) true [(K_SPiiq, true), (I, false)] [I] Try.f71.results.toList (bodyOf Try.f71) d = F_laws_markIntA2S N d := by kernel_rfl
noncomputable def S_laws_markIntA2S : FSig := ⟨[(K_SPiiq, true), (I, false)], [I], true, (G_markIntA2S)⟩
noncomputable def Γ_laws_markGraph : Ctx := { tk := assoc tks, ar := assoc ars, fs := assoc [(71, S_laws_markIntA2S)], lent := fun t => Nat.beq t 0 }
noncomputable def F_laws_markGraph (N : Nat) (d : (Int × (List (Int × Int × Unit)) × Unit) × Int × Unit) : Option (Int × (Int × (List (Int × Int × Unit)) × Unit) × Unit) :=
  let a0 : Int × (List (Int × Int × Unit)) × Unit := d.1
  let a1 : Int := d.2.1
  (G_markIntA2S ((a0.2.1, (a1, ())))).bind fun r1 =>
  some ((r1.1, ((a0.1, (r1.2.1, a0.2.2)), ())))
theorem F_laws_markGraph_ok (N : Nat) (d) : fnR Γ_laws_markGraph (assoc []) true [(K_PiSPiiqq, true), (I, false)] [I] Try.f42.results.toList (bodyOf Try.f42) d = F_laws_markGraph N d := by kernel_rfl
noncomputable def S_laws_markGraph : FSig := ⟨[(K_PiSPiiqq, true), (I, false)], [I], true, (F_laws_markGraph 0)⟩
noncomputable def Γ_laws_markIntS : Ctx := { tk := assoc tks, ar := assoc ars, fs := assoc [], lent := fun t => Nat.beq t 0 }
abbrev laws_markIntS_l0_H := List Int × Int × Int × Unit
abbrev laws_markIntS_l0_O := (List Int × Int × Unit) ⊕ Empty
def laws_markIntS_l0_h : Form := [(0, .own K_Si 1), (1, .v I), (5, .v I)]
def laws_markIntS_l0_o : Outs := [(.normal, [(0, .own K_Si 1), (1, .v I)])]
noncomputable def laws_markIntS_l0_r (N : Nat) (back : laws_markIntS_l0_H → Option laws_markIntS_l0_O) (d : laws_markIntS_l0_H) : Option laws_markIntS_l0_O :=
  let s0 : List Int := d.1
  let s1 : Int := d.2.1
  let s5 : Int := d.2.2.1
  if (decide (s5 < (List.length s0 : Int))) = true then
    if (idxIn s5 (List.length s0)) = true then
    let x5 : Int := IntKind.wrap .i64 (s1 + (1 : Int))
    let x6 : Int := IntKind.wrap .i64 (s5 + (1 : Int))
    back ((List.set s0 s5.toNat s1, (x5, (x6, ()))))
    else none
  else
    some (.inl ((s0, (s1, ()))))
noncomputable def laws_markIntS_l0 (N : Nat) : Nat → laws_markIntS_l0_H → Option laws_markIntS_l0_O
  | 0, _ => none
  | k + 1, d => laws_markIntS_l0_r N (laws_markIntS_l0 N k) d
theorem laws_markIntS_l0_ok (N : Nat) (back) (d) : roundR Γ_laws_markIntS (assoc []) 0 laws_markIntS_l0_h laws_markIntS_l0_o (loopOf Try.f72 0) back d = laws_markIntS_l0_r N back d := by kernel_rfl
noncomputable def F_laws_markIntS (N : Nat) (d : List Int × Int × Unit) : Option (Int × List Int × Unit) :=
  let a0 : List Int := d.1
  let a1 : Int := d.2.1
  (laws_markIntS_l0 N N ((a0, (a1, ((0 : Int), ()))))).bind fun o3 => match o3 with
  | .inl d4 =>
    some ((d4.2.1, (d4.1, ())))
theorem F_laws_markIntS_ok (N : Nat) (d) : fnR Γ_laws_markIntS (assoc [(0, ⟨laws_markIntS_l0_h, laws_markIntS_l0_o, laws_markIntS_l0 N N⟩)]) true [(K_Si, true), (I, false)] [I] Try.f72.results.toList (bodyOf Try.f72) d = F_laws_markIntS N d := by kernel_rfl
noncomputable def S_laws_markIntS : FSig := ⟨[(K_Si, true), (I, false)], [I], true, (G_markIntS)⟩
noncomputable def Γ_laws_markIntSS : Ctx := { tk := assoc tks, ar := assoc ars, fs := assoc [(72, S_laws_markIntS)], lent := fun t => Nat.beq t 0 }
abbrev laws_markIntSS_l0_H := List (List Int) × Int × Int × Unit
abbrev laws_markIntSS_l0_O := (List (List Int) × Int × Unit) ⊕ Empty
def laws_markIntSS_l0_h : Form := [(0, .own K_SSi 2), (1, .v I), (5, .v I)]
def laws_markIntSS_l0_o : Outs := [(.normal, [(0, .own K_SSi 2), (1, .v I)])]
noncomputable def laws_markIntSS_l0_r (N : Nat) (back : laws_markIntSS_l0_H → Option laws_markIntSS_l0_O) (d : laws_markIntSS_l0_H) : Option laws_markIntSS_l0_O :=
  let s0 : List (List Int) := d.1
  let s1 : Int := d.2.1
  let s5 : Int := d.2.2.1
  if (decide (s5 < (List.length s0 : Int))) = true then
    if (idxIn s5 (List.length s0)) = true then
    (G_markIntS ((at_ K_Si s0 s5.toNat, (s1, ())))).bind fun r5 =>
    let x6 : Int := IntKind.wrap .i64 (s5 + (1 : Int))
    back ((List.set s0 s5.toNat r5.2.1, (r5.1, (x6, ()))))
    else none
  else
    some (.inl ((s0, (s1, ()))))
noncomputable def laws_markIntSS_l0 (N : Nat) : Nat → laws_markIntSS_l0_H → Option laws_markIntSS_l0_O
  | 0, _ => none
  | k + 1, d => laws_markIntSS_l0_r N (laws_markIntSS_l0 N k) d
theorem laws_markIntSS_l0_ok (N : Nat) (back) (d) : roundR Γ_laws_markIntSS (assoc []) 0 laws_markIntSS_l0_h laws_markIntSS_l0_o (loopOf Try.f43 0) back d = laws_markIntSS_l0_r N back d := by kernel_rfl
noncomputable def F_laws_markIntSS (N : Nat) (d : List (List Int) × Int × Unit) : Option (Int × List (List Int) × Unit) :=
  let a0 : List (List Int) := d.1
  let a1 : Int := d.2.1
  (laws_markIntSS_l0 N N ((a0, (a1, ((0 : Int), ()))))).bind fun o3 => match o3 with
  | .inl d4 =>
    some ((d4.2.1, (d4.1, ())))
theorem F_laws_markIntSS_ok (N : Nat) (d) : fnR Γ_laws_markIntSS (assoc [(0, ⟨laws_markIntSS_l0_h, laws_markIntSS_l0_o, laws_markIntSS_l0 N N⟩)]) true [(K_SSi, true), (I, false)] [I] Try.f43.results.toList (bodyOf Try.f43) d = F_laws_markIntSS N d := by kernel_rfl
noncomputable def S_laws_markIntSS : FSig := ⟨[(K_SSi, true), (I, false)], [I], true, (G_markIntSS)⟩
noncomputable def Γ_laws_markTimetable : Ctx := { tk := assoc tks, ar := assoc ars, fs := assoc [(42, S_laws_markGraph), (43, S_laws_markIntSS)], lent := fun t => Nat.beq t 0 }
noncomputable def F_laws_markTimetable (N : Nat) (d : ((Int × (List (Int × Int × Unit)) × Unit) × Int × List (List Int) × Unit) × Int × Unit) : Option (Int × ((Int × (List (Int × Int × Unit)) × Unit) × Int × List (List Int) × Unit) × Unit) :=
  let a0 : (Int × (List (Int × Int × Unit)) × Unit) × Int × List (List Int) × Unit := d.1
  let a1 : Int := d.2.1
  ((F_laws_markGraph 0) ((a0.1, (a1, ())))).bind fun r1 =>
  (G_markIntSS ((a0.2.2.1, (r1.1, ())))).bind fun r2 =>
  some ((r2.1, ((r1.2.1, (a0.2.1, (r2.2.1, a0.2.2.2))), ())))
theorem F_laws_markTimetable_ok (N : Nat) (d) : fnR Γ_laws_markTimetable (assoc []) true [(K_PPiSPiiqqiSSiq, true), (I, false)] [I] Try.f16.results.toList (bodyOf Try.f16) d = F_laws_markTimetable N d := by kernel_rfl
noncomputable def S_laws_markTimetable : FSig := ⟨[(K_PPiSPiiqqiSSiq, true), (I, false)], [I], true, (F_laws_markTimetable 0)⟩
noncomputable def Γ_laws_markIntSSS : Ctx := { tk := assoc tks, ar := assoc ars, fs := assoc [(43, S_laws_markIntSS)], lent := fun t => Nat.beq t 0 }
abbrev laws_markIntSSS_l0_H := List (List (List Int)) × Int × Int × Unit
abbrev laws_markIntSSS_l0_O := (List (List (List Int)) × Int × Unit) ⊕ Empty
def laws_markIntSSS_l0_h : Form := [(0, .own K_SSSi 3), (1, .v I), (5, .v I)]
def laws_markIntSSS_l0_o : Outs := [(.normal, [(0, .own K_SSSi 3), (1, .v I)])]
noncomputable def laws_markIntSSS_l0_r (N : Nat) (back : laws_markIntSSS_l0_H → Option laws_markIntSSS_l0_O) (d : laws_markIntSSS_l0_H) : Option laws_markIntSSS_l0_O :=
  let s0 : List (List (List Int)) := d.1
  let s1 : Int := d.2.1
  let s5 : Int := d.2.2.1
  if (decide (s5 < (List.length s0 : Int))) = true then
    if (idxIn s5 (List.length s0)) = true then
    (G_markIntSS ((at_ K_SSi s0 s5.toNat, (s1, ())))).bind fun r5 =>
    let x6 : Int := IntKind.wrap .i64 (s5 + (1 : Int))
    back ((List.set s0 s5.toNat r5.2.1, (r5.1, (x6, ()))))
    else none
  else
    some (.inl ((s0, (s1, ()))))
noncomputable def laws_markIntSSS_l0 (N : Nat) : Nat → laws_markIntSSS_l0_H → Option laws_markIntSSS_l0_O
  | 0, _ => none
  | k + 1, d => laws_markIntSSS_l0_r N (laws_markIntSSS_l0 N k) d
theorem laws_markIntSSS_l0_ok (N : Nat) (back) (d) : roundR Γ_laws_markIntSSS (assoc []) 0 laws_markIntSSS_l0_h laws_markIntSSS_l0_o (loopOf Try.f17 0) back d = laws_markIntSSS_l0_r N back d := by kernel_rfl
noncomputable def F_laws_markIntSSS (N : Nat) (d : List (List (List Int)) × Int × Unit) : Option (Int × List (List (List Int)) × Unit) :=
  let a0 : List (List (List Int)) := d.1
  let a1 : Int := d.2.1
  (laws_markIntSSS_l0 N N ((a0, (a1, ((0 : Int), ()))))).bind fun o3 => match o3 with
  | .inl d4 =>
    some ((d4.2.1, (d4.1, ())))
theorem F_laws_markIntSSS_ok (N : Nat) (d) : fnR Γ_laws_markIntSSS (assoc [(0, ⟨laws_markIntSSS_l0_h, laws_markIntSSS_l0_o, laws_markIntSSS_l0 N N⟩)]) true [(K_SSSi, true), (I, false)] [I] Try.f17.results.toList (bodyOf Try.f17) d = F_laws_markIntSSS N d := by kernel_rfl
noncomputable def S_laws_markIntSSS : FSig := ⟨[(K_SSSi, true), (I, false)], [I], true, (G_markIntSSS)⟩
noncomputable def Γ_laws_heldIntS : Ctx := { tk := assoc tks, ar := assoc ars, fs := assoc [] }
abbrev laws_heldIntS_l0_H := List Int × Int × Int × Unit
abbrev laws_heldIntS_l0_O := (Int × Unit) ⊕ (Int × Unit) ⊕ Empty
def laws_heldIntS_l0_h : Form := [(0, .v K_Si), (1, .v I), (5, .v I)]
def laws_heldIntS_l0_o : Outs := [(.ret, [(4, .v I)]), (.normal, [(1, .v I)])]
noncomputable def laws_heldIntS_l0_r (N : Nat) (back : laws_heldIntS_l0_H → Option laws_heldIntS_l0_O) (d : laws_heldIntS_l0_H) : Option laws_heldIntS_l0_O :=
  let s0 : List Int := d.1
  let s1 : Int := d.2.1
  let s5 : Int := d.2.2.1
  if (decide (s5 < (List.length s0 : Int))) = true then
    if (idxIn s5 (List.length s0)) = true then
    if (at_ I s0 s5.toNat != s1) = true then
      some (.inl ((-1 : Int), ()))
    else
      let x6 : Int := IntKind.wrap .i64 (s1 + (1 : Int))
      let x7 : Int := IntKind.wrap .i64 (s5 + (1 : Int))
      back ((s0, (x6, (x7, ()))))
    else none
  else
    some (.inr (.inl (s1, ())))
noncomputable def laws_heldIntS_l0 (N : Nat) : Nat → laws_heldIntS_l0_H → Option laws_heldIntS_l0_O
  | 0, _ => none
  | k + 1, d => laws_heldIntS_l0_r N (laws_heldIntS_l0 N k) d
theorem laws_heldIntS_l0_ok (N : Nat) (back) (d) : roundR Γ_laws_heldIntS (assoc []) 0 laws_heldIntS_l0_h laws_heldIntS_l0_o (loopOf Try.f73 0) back d = laws_heldIntS_l0_r N back d := by kernel_rfl
noncomputable def F_laws_heldIntS (N : Nat) (d : List Int × Int × Unit) : Option (Int × Unit) :=
  let a0 : List Int := d.1
  let a1 : Int := d.2.1
  (laws_heldIntS_l0 N N ((a0, (a1, ((0 : Int), ()))))).bind fun o3 => match o3 with
  | .inl d4 =>
    some (d4.1, ())
  | .inr (.inl d5) =>
    some (d5.1, ())
theorem F_laws_heldIntS_ok (N : Nat) (d) : fnR Γ_laws_heldIntS (assoc [(0, ⟨laws_heldIntS_l0_h, laws_heldIntS_l0_o, laws_heldIntS_l0 N N⟩)]) true [(K_Si, false), (I, false)] [I] Try.f73.results.toList (bodyOf Try.f73) d = F_laws_heldIntS N d := by kernel_rfl
noncomputable def S_laws_heldIntS : FSig := ⟨[(K_Si, false), (I, false)], [I], true, (G_heldIntS)⟩
noncomputable def Γ_laws_heldIntSS : Ctx := { tk := assoc tks, ar := assoc ars, fs := assoc [(73, S_laws_heldIntS)] }
abbrev laws_heldIntSS_l0_H := List (List Int) × Int × Int × Unit
abbrev laws_heldIntSS_l0_O := (Int × Unit) ⊕ (Int × Unit) ⊕ Empty
def laws_heldIntSS_l0_h : Form := [(0, .v K_SSi), (1, .v I), (5, .v I)]
def laws_heldIntSS_l0_o : Outs := [(.ret, [(4, .v I)]), (.normal, [(1, .v I)])]
noncomputable def laws_heldIntSS_l0_r (N : Nat) (back : laws_heldIntSS_l0_H → Option laws_heldIntSS_l0_O) (d : laws_heldIntSS_l0_H) : Option laws_heldIntSS_l0_O :=
  let s0 : List (List Int) := d.1
  let s1 : Int := d.2.1
  let s5 : Int := d.2.2.1
  if (decide (s5 < (List.length s0 : Int))) = true then
    if (idxIn s5 (List.length s0)) = true then
    (G_heldIntS ((at_ K_Si s0 s5.toNat, (s1, ())))).bind fun r6 =>
    if (decide (r6.1 < (0 : Int))) = true then
      some (.inl ((-1 : Int), ()))
    else
      let x7 : Int := IntKind.wrap .i64 (s5 + (1 : Int))
      back ((s0, (r6.1, (x7, ()))))
    else none
  else
    some (.inr (.inl (s1, ())))
noncomputable def laws_heldIntSS_l0 (N : Nat) : Nat → laws_heldIntSS_l0_H → Option laws_heldIntSS_l0_O
  | 0, _ => none
  | k + 1, d => laws_heldIntSS_l0_r N (laws_heldIntSS_l0 N k) d
theorem laws_heldIntSS_l0_ok (N : Nat) (back) (d) : roundR Γ_laws_heldIntSS (assoc []) 0 laws_heldIntSS_l0_h laws_heldIntSS_l0_o (loopOf Try.f44 0) back d = laws_heldIntSS_l0_r N back d := by kernel_rfl
noncomputable def F_laws_heldIntSS (N : Nat) (d : List (List Int) × Int × Unit) : Option (Int × Unit) :=
  let a0 : List (List Int) := d.1
  let a1 : Int := d.2.1
  (laws_heldIntSS_l0 N N ((a0, (a1, ((0 : Int), ()))))).bind fun o3 => match o3 with
  | .inl d4 =>
    some (d4.1, ())
  | .inr (.inl d5) =>
    some (d5.1, ())
theorem F_laws_heldIntSS_ok (N : Nat) (d) : fnR Γ_laws_heldIntSS (assoc [(0, ⟨laws_heldIntSS_l0_h, laws_heldIntSS_l0_o, laws_heldIntSS_l0 N N⟩)]) true [(K_SSi, false), (I, false)] [I] Try.f44.results.toList (bodyOf Try.f44) d = F_laws_heldIntSS N d := by kernel_rfl
noncomputable def S_laws_heldIntSS : FSig := ⟨[(K_SSi, false), (I, false)], [I], true, (G_heldIntSS)⟩
noncomputable def Γ_laws_heldIntSSS : Ctx := { tk := assoc tks, ar := assoc ars, fs := assoc [(44, S_laws_heldIntSS)] }
abbrev laws_heldIntSSS_l0_H := List (List (List Int)) × Int × Int × Unit
abbrev laws_heldIntSSS_l0_O := (Int × Unit) ⊕ (Int × Unit) ⊕ Empty
def laws_heldIntSSS_l0_h : Form := [(0, .v K_SSSi), (1, .v I), (5, .v I)]
def laws_heldIntSSS_l0_o : Outs := [(.ret, [(4, .v I)]), (.normal, [(1, .v I)])]
noncomputable def laws_heldIntSSS_l0_r (N : Nat) (back : laws_heldIntSSS_l0_H → Option laws_heldIntSSS_l0_O) (d : laws_heldIntSSS_l0_H) : Option laws_heldIntSSS_l0_O :=
  let s0 : List (List (List Int)) := d.1
  let s1 : Int := d.2.1
  let s5 : Int := d.2.2.1
  if (decide (s5 < (List.length s0 : Int))) = true then
    if (idxIn s5 (List.length s0)) = true then
    (G_heldIntSS ((at_ K_SSi s0 s5.toNat, (s1, ())))).bind fun r6 =>
    if (decide (r6.1 < (0 : Int))) = true then
      some (.inl ((-1 : Int), ()))
    else
      let x7 : Int := IntKind.wrap .i64 (s5 + (1 : Int))
      back ((s0, (r6.1, (x7, ()))))
    else none
  else
    some (.inr (.inl (s1, ())))
noncomputable def laws_heldIntSSS_l0 (N : Nat) : Nat → laws_heldIntSSS_l0_H → Option laws_heldIntSSS_l0_O
  | 0, _ => none
  | k + 1, d => laws_heldIntSSS_l0_r N (laws_heldIntSSS_l0 N k) d
theorem laws_heldIntSSS_l0_ok (N : Nat) (back) (d) : roundR Γ_laws_heldIntSSS (assoc []) 0 laws_heldIntSSS_l0_h laws_heldIntSSS_l0_o (loopOf Try.f18 0) back d = laws_heldIntSSS_l0_r N back d := by kernel_rfl
noncomputable def F_laws_heldIntSSS (N : Nat) (d : List (List (List Int)) × Int × Unit) : Option (Int × Unit) :=
  let a0 : List (List (List Int)) := d.1
  let a1 : Int := d.2.1
  (laws_heldIntSSS_l0 N N ((a0, (a1, ((0 : Int), ()))))).bind fun o3 => match o3 with
  | .inl d4 =>
    some (d4.1, ())
  | .inr (.inl d5) =>
    some (d5.1, ())
theorem F_laws_heldIntSSS_ok (N : Nat) (d) : fnR Γ_laws_heldIntSSS (assoc [(0, ⟨laws_heldIntSSS_l0_h, laws_heldIntSSS_l0_o, laws_heldIntSSS_l0 N N⟩)]) true [(K_SSSi, false), (I, false)] [I] Try.f18.results.toList (bodyOf Try.f18) d = F_laws_heldIntSSS N d := by kernel_rfl
noncomputable def S_laws_heldIntSSS : FSig := ⟨[(K_SSSi, false), (I, false)], [I], true, (G_heldIntSSS)⟩
noncomputable def Γ_laws_FnExactTimedTimes : Ctx := { tk := assoc tks, ar := assoc ars, fs := assoc [(6, S_laws_szTimetable), (8, S_laws_toTimetable), (10, S_laws_eqTimetable), (13, S_spec_TimedTimes), (14, S_impl_TimedTimes), (15, S_laws_eqIntSSS), (16, S_laws_markTimetable), (17, S_laws_markIntSSS), (18, S_laws_heldIntSSS)] }
noncomputable def F_laws_FnExactTimedTimes (N : Nat) (d : ((Int × (List (Int × Int × Unit)) × Unit) × Int × List (List Int) × Unit) × Unit) : Option (Bool × Unit) :=
  let a0 : (Int × (List (Int × Int × Unit)) × Unit) × Int × List (List Int) × Unit := d.1
  ((F_laws_szTimetable 0) ((a0, ((1048576 : Int), ())))).bind fun r1 =>
  if (decide (r1.1 < (0 : Int))) = true then
    some (true, ())
  else
    ((F_laws_toTimetable 0) (a0, ())).bind fun r2 =>
    ((F_spec_TimedTimes 0) (r2.1, ())).bind fun r3 =>
    ((F_laws_toTimetable 0) (a0, ())).bind fun r4 =>
    ((F_impl_TimedTimes 0) (r4.1, ())).bind fun r5 =>
    (G_eqIntSSS ((r5.1, (r3.1, ())))).bind fun r6 =>
    if (!r6.1) = true then
      some (false, ())
    else
      if (!(r5.2.1 == r3.2.1)) = true then
        some (false, ())
      else
        ((F_laws_toTimetable 0) (a0, ())).bind fun r7 =>
        ((F_laws_eqTimetable 0) ((r4.1, (r7.1, ())))).bind fun r8 =>
        if (!r8.1) = true then
          some (false, ())
        else
          ((F_laws_markTimetable 0) ((r4.1, ((1 : Int), ())))).bind fun r9 =>
          if (decide (r9.1 < (0 : Int))) = true then
            some (false, ())
          else
            (G_eqIntSSS ((r5.1, (r3.1, ())))).bind fun r10 =>
            if (!r10.1) = true then
              some (false, ())
            else
              if (!(r5.2.1 == r3.2.1)) = true then
                some (false, ())
              else
                (G_markIntSSS ((r5.1, ((1 : Int), ())))).bind fun r11 =>
                (G_heldIntSSS ((r11.2.1, ((1 : Int), ())))).bind fun r12 =>
                if (decide (r12.1 < (0 : Int))) = true then
                  some (false, ())
                else
                  if (r12.1 != r11.1) = true then
                    some (false, ())
                  else
                    ((F_laws_toTimetable 0) (a0, ())).bind fun r13 =>
                    ((F_impl_TimedTimes 0) (r13.1, ())).bind fun r14 =>
                    (G_eqIntSSS ((r14.1, (r3.1, ())))).bind fun r15 =>
                    if (!r15.1) = true then
                      some (false, ())
                    else
                      if (!(r14.2.1 == r3.2.1)) = true then
                        some (false, ())
                      else
                        (G_heldIntSSS ((r11.2.1, ((1 : Int), ())))).bind fun r16 =>
                        if (decide (r16.1 < (0 : Int))) = true then
                          some (false, ())
                        else
                          if (r16.1 != r11.1) = true then
                            some (false, ())
                          else
                            some (true, ())
theorem F_laws_FnExactTimedTimes_ok (N : Nat) (d) : fnR Γ_laws_FnExactTimedTimes (assoc []) true [(K_PPiSPiiqqiSSiq, false)] [.bool] Try.f5.results.toList (bodyOf Try.f5) d = F_laws_FnExactTimedTimes N d := by kernel_rfl
noncomputable def S_laws_FnExactTimedTimes : FSig := ⟨[(K_PPiSPiiqqiSSiq, false)], [.bool], true, (F_laws_FnExactTimedTimes 0)⟩
end Go.V.W
set_option linter.unusedVariables false
set_option linter.unusedSimpArgs false
namespace Go.V.W
theorem wrap_nat {m : Nat} (h : m < 9223372036854775808) : IntKind.wrap .i64 (m : Int) = (m : Int) := Go.IntWalk.i64_in _ (by omega)
theorem ofInt_nat (m : Nat) : BitVec.ofInt 64 (m : Int) = BitVec.ofNat 64 m := by simp
theorem bits_or {a b : Nat} (ha : a < 256) (hb : b < 256) : bits .or .i64 (a : Int) (b : Int) = ((a ||| b : Nat) : Int) := by
  have hab : a ||| b < 256 := Nat.or_lt_two_pow (n := 8) ha hb
  have e : (BitVec.ofInt IntKind.i64.bits (a : Int) ||| BitVec.ofInt IntKind.i64.bits (b : Int)).toNat = a ||| b := by
    show (BitVec.ofInt 64 (a : Int) ||| BitVec.ofInt 64 (b : Int)).toNat = a ||| b
    rw [ofInt_nat, ofInt_nat, BitVec.toNat_or, BitVec.toNat_ofNat, BitVec.toNat_ofNat, Nat.mod_eq_of_lt (by omega), Nat.mod_eq_of_lt (by omega)]
  unfold bits bitI
  simp only [Option.getD_some]
  rw [e]
  exact wrap_nat (by omega)
theorem bits_and {a b : Nat} (ha : a < 256) (hb : b < 256) : bits .and .i64 (a : Int) (b : Int) = ((a &&& b : Nat) : Int) := by
  have hab : a &&& b ≤ a := Nat.and_le_left
  have e : (BitVec.ofInt IntKind.i64.bits (a : Int) &&& BitVec.ofInt IntKind.i64.bits (b : Int)).toNat = a &&& b := by
    show (BitVec.ofInt 64 (a : Int) &&& BitVec.ofInt 64 (b : Int)).toNat = a &&& b
    rw [ofInt_nat, ofInt_nat, BitVec.toNat_and, BitVec.toNat_ofNat, BitVec.toNat_ofNat, Nat.mod_eq_of_lt (by omega), Nat.mod_eq_of_lt (by omega)]
  unfold bits bitI
  simp only [Option.getD_some]
  rw [e]
  exact wrap_nat (by omega)
theorem shl_one {y : Nat} (h : y < 8) : shl .i64 1 (y : Int) = ((2 ^ y : Nat) : Int) := by
  have : y = 0 ∨ y = 1 ∨ y = 2 ∨ y = 3 ∨ y = 4 ∨ y = 5 ∨ y = 6 ∨ y = 7 := by omega
  rcases this with rfl | rfl | rfl | rfl | rfl | rfl | rfl | rfl <;> decide
theorem pow_small {y : Nat} (h : y < 8) : 2 ^ y < 256 := by
  have : y = 0 ∨ y = 1 ∨ y = 2 ∨ y = 3 ∨ y = 4 ∨ y = 5 ∨ y = 6 ∨ y = 7 := by omega
  rcases this with rfl | rfl | rfl | rfl | rfl | rfl | rfl | rfl <;> decide
theorem shr_nat {m y : Nat} (h : y < 8) : shr .i64 (m : Int) (y : Int) = ((m >>> y : Nat) : Int) := by
  unfold shr
  have e : min (y : Int).toNat IntKind.i64.bits = y := by
    show min (y : Int).toNat 64 = y
    rw [Int.toNat_natCast]
    omega
  rw [e, Nat.shiftRight_eq_div_pow, Int.fdiv_eq_ediv_of_nonneg _ (by
    have := Nat.two_pow_pos y
    exact_mod_cast Nat.zero_le (2 ^ y))]
  norm_cast
theorem has_bit {m y : Nat} (hm : m < 256) (h : y < 8) : (bits .and .i64 (shr .i64 (m : Int) (y : Int)) 1 == (1 : Int)) = m.testBit y := by
  have h1 : m >>> y < 256 := by
    rw [Nat.shiftRight_eq_div_pow]
    exact Nat.lt_of_le_of_lt (Nat.div_le_self _ _) hm
  rw [shr_nat h]
  have := bits_and h1 (show 1 < 256 by omega)
  rw [show ((1 : Nat) : Int) = 1 from rfl] at this
  rw [this, Nat.testBit_eq_decide_div_mod_eq, Nat.shiftRight_eq_div_pow, Nat.and_one_is_mod]
  have : m / 2 ^ y % 2 = 0 ∨ m / 2 ^ y % 2 = 1 := by omega
  rcases this with h | h <;> simp [h]
def okN (n : Nat) (ms : List Nat) : Prop := ms.length = n ∧ ∀ x, ms.getD x 0 < 256
theorem okN_zero (n : Nat) : okN n (List.replicate n 0) := by
  refine ⟨by simp, fun x => ?_⟩
  simp only [List.getD_eq_getElem?_getD, List.getElem?_replicate]
  split <;> simp
theorem getD_set (ms : List Nat) (a x v : Nat) (h : a < ms.length) : (ms.set a v).getD x 0 = if x = a then v else ms.getD x 0 := by
  simp only [List.getD_eq_getElem?_getD, List.getElem?_set]
  by_cases e : x = a
  · subst e; simp [h]
  · simp [e, Ne.symm e]
theorem orN_ok {n : Nat} {ms : List Nat} (h : okN n ms) {a b : Nat} (ha : a < n) (hb : b < 8) : okN n (orN ms a b) := by
  refine ⟨by simp [orN, h.1], fun x => ?_⟩
  unfold orN
  rw [getD_set _ _ _ _ (by rw [h.1]; exact ha)]
  split
  · exact Nat.or_lt_two_pow (n := 8) (h.2 a) (pow_small hb)
  · exact h.2 x
theorem orN_bit {n : Nat} {ms : List Nat} (h : okN n ms) {a b : Nat} (ha : a < n) (x y : Nat) : ((orN ms a b).getD x 0).testBit y = ((ms.getD x 0).testBit y || (decide (x = a) && decide (y = b))) := by
  unfold orN
  rw [getD_set _ _ _ _ (by rw [h.1]; exact ha)]
  by_cases e : x = a
  · subst e
    simp only [if_true, Nat.testBit_or, Nat.testBit_two_pow, decide_true, Bool.true_and]
    congr 1
    by_cases e : y = b
    · simp [e]
    · simp [e, Ne.symm e]
  · simp [e]
/-- An edge of n nodes. -/
theorem edgeB_nat {n : Nat} {e : E} (h : edgeB (n : Int) e = true) : e.1.toNat < e.2.1.toNat ∧ e.2.1.toNat < n ∧ e.1 = (e.1.toNat : Int) ∧ e.2.1 = (e.2.1.toNat : Int) := by
  unfold edgeB at h
  simp only [Bool.and_eq_true, decide_eq_true_eq] at h
  omega
theorem addN_ok {n : Nat} {ms : List Nat} (hn : n ≤ 8) (h : okN n ms) {e : E} (he : edgeB (n : Int) e = true) : okN n (addN ms e) := by
  obtain ⟨h1, h2, _, _⟩ := edgeB_nat he
  exact orN_ok (orN_ok h (by omega) (by omega)) h2 (by omega)
def isE (e : E) (x y : Nat) : Bool := (decide (x = e.1.toNat) && decide (y = e.2.1.toNat)) || (decide (x = e.2.1.toNat) && decide (y = e.1.toNat))
theorem foldN_ok {n : Nat} (hn : n ≤ 8) : ∀ (es : List E) (ms : List Nat), okN n ms → es.all (edgeB (n : Int)) = true → okN n (es.foldl addN ms) ∧ ∀ x y, ((es.foldl addN ms).getD x 0).testBit y = ((ms.getD x 0).testBit y || es.any (fun e => isE e x y)) := by
  intro es
  induction es with
  | nil => intro ms h _; exact ⟨h, fun x y => by simp⟩
  | cons e es ih =>
    intro ms h he
    simp only [List.all_cons, Bool.and_eq_true] at he
    obtain ⟨h1, h2, _, _⟩ := edgeB_nat he.1
    obtain ⟨k1, k2⟩ := ih (addN ms e) (addN_ok hn h he.1) he.2
    refine ⟨k1, fun x y => ?_⟩
    rw [List.foldl_cons, k2 x y]
    unfold addN
    rw [orN_bit (orN_ok h (show e.1.toNat < n by omega) (by omega)) h2, orN_bit h (show e.1.toNat < n by omega)]
    simp only [List.any_cons, isE, Bool.or_assoc]
theorem netN_ok {n : Nat} (hn : n ≤ 8) {es : List E} (h : es.all (edgeB (n : Int)) = true) : okN n (netN n es) := (foldN_ok hn es _ (okN_zero n) h).1
theorem netN_bit {n : Nat} (hn : n ≤ 8) {es : List E} (h : es.all (edgeB (n : Int)) = true) (x y : Nat) : hasN (netN n es) x y = es.any (fun e => isE e x y) := by
  unfold hasN netN
  rw [(foldN_ok hn es _ (okN_zero n) h).2 x y]
  have : ((List.replicate n 0).getD x 0).testBit y = false := by
    simp only [List.getD_eq_getElem?_getD, List.getElem?_replicate]
    split <;> simp
  rw [this, Bool.false_or]
theorem lessE_trans {a b c : E} (h1 : lessE a b = true) (h2 : lessE b c = true) : lessE a c = true := by
  simp only [lessE, Bool.or_eq_true, Bool.and_eq_true, decide_eq_true_eq] at h1 h2 ⊢
  omega
theorem rising_pair : ∀ {l : List E}, risingE l = true → l.Pairwise fun a b => lessE a b = true := by
  intro l
  induction l with
  | nil => intro _; exact .nil
  | cons a l ih =>
    intro h
    cases l with
    | nil => simp
    | cons b l =>
      simp only [risingE, Bool.and_eq_true] at h
      have := ih h.2
      rw [List.pairwise_cons] at this ⊢
      refine ⟨fun c hc => ?_, by rw [List.pairwise_cons]; exact this⟩
      rcases List.mem_cons.1 hc with rfl | hc
      · exact h.1
      · exact lessE_trans h.1 (this.1 c hc)
theorem selE_sub : ∀ (es : List E) (ts : List (List Int)) (r : Int), (selE es ts r).Sublist es := by
  intro es
  induction es with
  | nil => intro ts r; cases ts <;> simp [selE]
  | cons e es ih =>
    intro ts r
    cases ts with
    | nil => simp [selE]
    | cons t ts =>
      simp only [selE]
      split
      · exact (ih ts r).cons_cons e
      · exact (ih ts r).cons e
theorem toI_from (ms : List Nat) : fromI (toI ms) = ms := by
  unfold fromI toI
  rw [List.map_map]
  exact List.map_id' _
theorem at_toI (ms : List Nat) (x : Nat) : at_ (.int .i64) (toI ms) x = ((ms.getD x 0 : Nat) : Int) := by
  unfold at_ toI
  simp only [List.getD_eq_getElem?_getD, List.getElem?_map]
  cases ms[x]? <;> rfl
theorem toI_set (ms : List Nat) (x v : Nat) : List.set (toI ms) x (v : Int) = toI (ms.set x v) := by
  simp [toI, List.map_set]
theorem toI_len (ms : List Nat) : (toI ms).length = ms.length := by simp [toI]
end Go.V.W
set_option linter.unusedVariables false
set_option linter.unusedSimpArgs false
namespace Go.V
/-- Every order is good if each operation, when it may come up, keeps what is held of the listed ones. -/
theorem wpAny_inv {P : Program} {Q : Exit → Act → World → Prop} {ops : Array Oper} {Φ : (Nat → Bool) → Act → World → Prop} (back : ∀ (i : Nat) o, ops[i]? = some o → ∀ e ∈ o.after, Region.binds .any e = true → e.on < i)
    (hdone : ∀ L a w, (∀ i, i < ops.size → L i = true) → Φ L a w → Q .normal a w)
    (hstep : ∀ L a w j o, ops[j]? = some o → L j = false → Closed ops L → (∀ e ∈ o.after, Region.binds .any e = true → L e.on = true) → Φ L a w → o.guard = none ∧ ∀ K : Act → World → Prop, (∀ a' w', Φ (fun i => L i || decide (i = j)) a' w' → K a' w') → o.wp P a w K Q) :
    ∀ (fuel : Nat) (listed : Array Bool) (a : Act) (w : World), listed.size = ops.size → listed.toList.count false = fuel → Closed ops (fun i => listed.getD i false) → Φ (fun i => listed.getD i false) a w → wpAny P .any ops Q fuel listed a w := by
  have hready : ∀ (listed : Array Bool), listed.size = ops.size → Region.ready .any ops listed = [] → ∀ i, i < ops.size → listed.getD i false = true := by
    intro listed hsz hr
    have key : ∀ m i, i < m → i < ops.size → listed.getD i false = true := by
      intro m
      induction m with
      | zero => intro i hi; omega
      | succ m ih =>
        intro i hi hlt
        by_cases him : i < m
        · exact ih i him hlt
        · cases hl : listed.getD i false with
          | true => rfl
          | false =>
            exfalso
            have ho' : ops[i]? = some ops[i] := by simp [hlt]
            have : i ∈ Region.ready .any ops listed := by
              rw [mem_ready]
              have hl2 : i < listed.size := by omega
              refine ⟨?_, _, ho', fun e he hb => ih e.on ?_ ?_⟩
              · simp only [Array.getD, hl2, dif_pos] at hl ⊢; exact hl
              · have := back i _ ho' e he hb; omega
              · have := back i _ ho' e he hb; omega
            rw [hr] at this
            simp at this
    exact fun i hi => key (i + 1) i (by omega) hi
  intro fuel
  induction fuel with
  | zero =>
    intro listed a w hsz hc hL hi
    have hall : ∀ i, i < ops.size → listed.getD i false = true := by
      intro i hlt
      have hlt' : i < listed.size := by omega
      rw [List.count_eq_zero] at hc
      cases hb : listed.getD i false with
      | true => rfl
      | false =>
        exfalso
        apply hc
        simp only [Array.getD, hlt', dif_pos] at hb
        rw [← hb]
        exact Array.getElem_mem_toList hlt'
    refine ⟨?_, hdone _ a w hall hi⟩
    apply List.eq_nil_iff_forall_not_mem.2
    intro i hm
    rw [mem_ready] at hm
    obtain ⟨h1, o, h2, _⟩ := hm
    have hlt := (Array.getElem?_eq_some_iff.1 h2).1
    have := hall i hlt
    have hlt' : i < listed.size := by omega
    simp only [Array.getD, hlt', dif_pos] at h1 this
    rw [this] at h1
    cases h1
  | succ fuel ih =>
    intro listed a w hsz hc hL hi
    refine ⟨fun hr => hdone _ a w (hready listed hsz hr) hi, fun j hj => ?_⟩
    rw [mem_ready] at hj
    obtain ⟨h1, o, ho, hr⟩ := hj
    have hlt := (Array.getElem?_eq_some_iff.1 ho).1
    have hlt' : j < listed.size := by omega
    have hjf : listed.getD j false = false := by simp only [Array.getD, hlt', dif_pos] at h1 ⊢; exact h1
    obtain ⟨hg, hs⟩ := hstep _ a w j o ho hjf hL hr hi
    unfold wpOp
    rw [ho]
    simp only [Region.wanted, hg, if_true]
    refine .inl (hs _ fun a' w' hi' => ih (listed.setIfInBounds j true) a' w' (by simpa using hsz) ?_ ?_ ?_)
    · have hlj : listed[j] = false := by simp only [Array.getD, hlt', dif_pos] at hjf; exact hjf
      rw [Array.toList_setIfInBounds, List.count_set (by simpa using hlt')]
      simp [hlj, hc]
    · intro i o' ho' hli e he hb
      simp only [getD_set hlt', Bool.or_eq_true, decide_eq_true_eq] at hli ⊢
      rcases hli with hli | hli
      · exact .inl (hL i o' ho' hli e he hb)
      · subst hli
        rw [ho] at ho'
        injection ho' with ho'
        subst ho'
        exact .inl (hr e he hb)
    · have e : (fun i => (listed.setIfInBounds j true).getD i false) = fun i => listed.getD i false || decide (i = j) := by
        funext i
        exact getD_set hlt'
      rw [e]
      exact hi'
theorem wp_draw_inv {P : Program} {Q : Exit → Act → World → Prop} {ops : Array Oper} {rid : Nat} {a : Act} {w : World} (Φ : (Nat → Bool) → Act → World → Prop) (hm : P.follows .mixedOrders = true) (back : ∀ (i : Nat) o, ops[i]? = some o → ∀ e ∈ o.after, Region.binds .any e = true → e.on < i)
    (hdone : ∀ L a w, (∀ i, i < ops.size → L i = true) → Φ L a w → Q .normal a w)
    (hstep : ∀ L a w j o, ops[j]? = some o → L j = false → Closed ops L → (∀ e ∈ o.after, Region.binds .any e = true → L e.on = true) → Φ L a w → o.guard = none ∧ ∀ K : Act → World → Prop, (∀ a' w', Φ (fun i => L i || decide (i = j)) a' w' → K a' w') → o.wp P a w K Q)
    (h0 : Φ (fun _ => false) a { w with drawn := w.drawn + 1 }) : (Code.region rid ops true).wp P Q a w := by
  refine wp_region_any hm ?_
  have e2 : (fun i => (Array.replicate ops.size false).getD i false) = fun _ => false := by
    funext i
    simp only [Array.getD_eq_getD_getElem?]
    by_cases hj : i < ops.size
    · simp [hj]
    · simp [hj]
  refine wpAny_inv back hdone hstep ops.size _ a _ (by simp) (by simp) (fun j o ho hl => ?_) (by rw [e2]; exact h0)
  rw [e2] at hl
  cases hl
end Go.V
namespace Go.V.W
open Go.Proofs Go.RowKit
def regOf (id : Nat) : Code → Option (Array Oper)
  | .region i ops _ => if i = id then some ops else none
  | .seq a b => (regOf id a).or (regOf id b)
  | .cond _ a b => (regOf id a).or (regOf id b)
  | .block _ c => regOf id c
  | .loop c => regOf id c
  | .scope c => regOf id c
  | _ => none
noncomputable def ops9 : Array Oper := (regOf 9 (bodyOf Try.f60)).getD #[]
noncomputable def dof (j : Nat) : Option (Option Tmp × Op × Option (Nat × Bool)) := (ops9[j]?).map fun o => (o.dst, o.op, o.guard)
theorem o9_0 : dof 0 = some (some 38, .move (.tmp 8), none) := by kernel_rfl
theorem o9_1 : dof 1 = some (some 39, .move (.tmp 7), none) := by kernel_rfl
theorem o9_2 : dof 2 = some (some 40, .move (.tmp 8), none) := by kernel_rfl
theorem o9_3 : dof 3 = some (some 41, .slice 53 (.tmp 39) (some (.tmp 40)) none none, none) := by kernel_rfl
theorem o9_4 : dof 4 = some (some 42, .move (.tmp 7), none) := by kernel_rfl
theorem o9_5 : dof 5 = some (some 43, .move (.tmp 8), none) := by kernel_rfl
theorem o9_6 : dof 6 = some (some 44, .slice 53 (.tmp 42) none (some (.tmp 43)) none, none) := by kernel_rfl
theorem o9_7 : dof 7 = some (some 45, .call { callee := .builtin .copy, args := #[.tmp 41, .tmp 44], argTypes := #[53, 53] }, none) := by kernel_rfl
theorem o9_8 : dof 8 = some (some 46, .binOp .add 3 (.tmp 38) (.tmp 45) 3, none) := by kernel_rfl
theorem o9_9 : dof 9 = some (some 8, .assign (.tmp 46), none) := by kernel_rfl
theorem size9 : ops9.size = 10 := by kernel_rfl
def backB (ops : Array Oper) : Bool := (List.range ops.size).all fun i => ((ops[i]?).map fun o => o.after.toList.all fun e => !Region.binds .any e || decide (e.on < i)).getD true
theorem back9B : backB ops9 = true := by kernel_rfl
theorem back9 : ∀ (i : Nat) o, ops9[i]? = some o → ∀ e ∈ o.after, Region.binds .any e = true → e.on < i := by
  intro i o ho e he hb
  have h := back9B
  unfold backB at h
  rw [List.all_eq_true] at h
  have hi := (Array.getElem?_eq_some_iff.1 ho).1
  have h1 := h i (List.mem_range.2 hi)
  rw [ho] at h1
  simp only [Option.map_some, Option.getD_some, List.all_eq_true] at h1
  have h2 := h1 e (Array.mem_toList_iff.2 he)
  rw [hb] at h2
  simpa using h2
noncomputable def hasE (i j : Nat) : Bool := ((ops9[i]?).map fun o => o.after.toList.any fun e => Region.binds .any e && e.on == j).getD false
theorem hasE_of {i j : Nat} (h : hasE i j = true) {o : Oper} (ho : ops9[i]? = some o) : ∃ e ∈ o.after, Region.binds .any e = true ∧ e.on = j := by
  unfold hasE at h
  rw [ho] at h
  simp only [Option.map_some, Option.getD_some, List.any_eq_true, Bool.and_eq_true, beq_iff_eq] at h
  obtain ⟨e, he, h1, h2⟩ := h
  exact ⟨e, Array.mem_toList_iff.1 he, h1, h2⟩
theorem clos {L : Nat → Bool} (hL : Closed ops9 L) {i j : Nat} (h : hasE i j = true) (hi : i < 10) (h1 : L i = true) : L j = true := by
  have hs := size9
  have hlt : i < ops9.size := by omega
  have ho : ops9[i]? = some ops9[i] := Array.getElem?_eq_getElem hlt
  obtain ⟨e, he, hb, rfl⟩ := hasE_of h ho
  exact hL i _ ho h1 e he hb
theorem rdy {L : Nat → Bool} {i j : Nat} {o : Oper} (h : hasE i j = true) (ho : ops9[i]? = some o) (hr : ∀ e ∈ o.after, Region.binds .any e = true → L e.on = true) : L j = true := by
  obtain ⟨e, he, hb, rfl⟩ := hasE_of h ho
  exact hr e he hb
def val (a0 F : Nat → Value) (L : Nat → Bool) (t : Nat) : Value := if t = 8 then (if L 9 = true then F 9 else a0 8) else if 38 ≤ t ∧ t ≤ 46 then (if L (t - 38) = true then F (t - 38) else a0 t) else a0 t
def dstv (j : Nat) : Nat := if j = 9 then 8 else 38 + j
theorem val_step (a0 F : Nat → Value) (L : Nat → Bool) {j : Nat} (hj : j ≤ 9) (t : Nat) : (if t = dstv j then F j else val a0 F L t) = val a0 F (fun i => L i || decide (i = j)) t := by
  unfold val dstv
  by_cases e9 : j = 9
  · subst e9
    simp only [if_true]
    by_cases et : t = 8
    · simp [et]
    · simp only [et, if_false]
      by_cases er : 38 ≤ t ∧ t ≤ 46
      · have : ¬ t - 38 = 9 := by omega
        simp [er, this]
      · simp [er]
  · simp only [e9, if_false]
    by_cases et : t = 8
    · subst et
      have h1 : ¬ 8 = 38 + j := by omega
      have h2 : ¬ (9 = j) := fun h => e9 h.symm
      simp [h1, h2]
    · simp only [et, if_false]
      by_cases er : 38 ≤ t ∧ t ≤ 46
      · simp only [er, and_self, if_true]
        by_cases ej : t = 38 + j
        · subst ej
          simp
        · have : ¬ t - 38 = j := by omega
          simp [ej, this]
      · have : ¬ t = 38 + j := by omega
        simp [er, this]
def rowL (n m : Nat) (x z : Value) : List Value := List.replicate m x ++ List.replicate (n - m) z
theorem rowL_splice {n m c : Nat} {x z : Value} (h : m + c ≤ n) : (rowL n m x z).take m ++ List.replicate c x ++ (rowL n m x z).drop (m + c) = rowL n (m + c) x z := by
  unfold rowL
  have e1 : (List.replicate m x ++ List.replicate (n - m) z).take m = List.replicate m x := by simp
  have e2 : (List.replicate m x ++ List.replicate (n - m) z).drop (m + c) = List.replicate (n - (m + c)) z := by
    rw [List.drop_append]
    simp
    omega
  rw [e1, e2, ← List.replicate_append_replicate]
theorem row_src {w : World} {g : Nat} {L : List Value} {T : TypeId} (h : w.heap[g]? = some (.cells L.toArray T (0, 0))) : ∀ j v, L[j]? = some v → w.cell? ((⟨g, 0, none⟩ : Addr).add j) = some v := by
  intro j v hj
  by_cases e : j = 0
  · subst e
    simp [World.cell?, Addr.add, h, hj]
  · simp [World.cell?, Addr.add, h, hj, e]
theorem eval_tmp (a : Act) (t : Nat) : a.eval (.tmp t) = a.tmps.getD t undef := rfl
theorem put_getD {a : Act} {d t : Nat} {v : Value} (hd : d < a.tmps.size) : (a.put (some d) v).tmps.getD t undef = if t = d then v else a.tmps.getD t undef := by
  unfold Act.put
  by_cases e : t = d
  · subst e
    simp [Array.getD_eq_getD_getElem?, hd]
  · have e' : d ≠ t := fun h => e h.symm
    simp [Array.getD_eq_getD_getElem?, Array.getElem?_setIfInBounds_ne e', e]
/-- What is held of the listed operations. -/
structure Phi (a0 F : Nat → Value) (df : List Deferred) (sz g n m c B : Nat) (x z : Value) (T : TypeId) (w0 : World) (L : Nat → Bool) (a : Act) (w : World) : Prop where
  size : a.tmps.size = sz
  defers : a.defers = df
  tmps : ∀ t, a.tmps.getD t undef = val a0 F L t
  row : w.heap[g]? = some (.cells (rowL n (if L 7 = true then m + c else m) x z).toArray T (0, 0))
  below : Below B w0 w
theorem dof_of {j : Nat} {d : Option Tmp} {p : Op} {gd : Option (Nat × Bool)} (h : dof j = some (d, p, gd)) {o : Oper} (ho : ops9[j]? = some o) : o.dst = d ∧ o.op = p ∧ o.guard = gd := by
  unfold dof at h
  rw [ho] at h
  simp only [Option.map_some, Option.some.injEq, Prod.mk.injEq] at h
  exact h
theorem Phi.fin {P : Program} {Q : Exit → Act → World → Prop} {a0 F : Nat → Value} {df : List Deferred} {g n m c B : Nat} {x z : Value} {T : TypeId} {w0 w w' : World} {L : Nat → Bool} {a : Act} (h : Phi a0 F df 48 g n m c B x z T w0 L a w) {j : Nat} (hj : j ≤ 9) {o : Oper} (hd : o.dst = some (dstv j))
    (hrun : (execOp a.eval o).run P w = .ok (.value (F j)) w') (hrow : w'.heap[g]? = some (.cells (rowL n (if (L 7 || decide (7 = j)) = true then m + c else m) x z).toArray T (0, 0))) (hB : Below B w0 w')
    (K : Act → World → Prop) (hK : ∀ a' w', Phi a0 F df 48 g n m c B x z T w0 (fun i => L i || decide (i = j)) a' w' → K a' w') : o.wp P a w K Q := by
  refine wp_value hrun (hK _ _ ⟨?_, ?_, fun t => ?_, hrow, hB⟩)
  · rw [hd]
    simp [Act.put, h.size]
  · rw [hd]
    exact h.defers
  · rw [hd, put_getD (by rw [h.size]; unfold dstv; split <;> omega), h.tmps t]
    exact val_step a0 F L hj t
theorem Phi.fin0 {P : Program} {Q : Exit → Act → World → Prop} {a0 F : Nat → Value} {df : List Deferred} {g n m c B : Nat} {x z : Value} {T : TypeId} {w0 w : World} {L : Nat → Bool} {a : Act} (h : Phi a0 F df 48 g n m c B x z T w0 L a w) {j : Nat} (hj : j ≤ 9) (hj7 : 7 ≠ j) {o : Oper} (hd : o.dst = some (dstv j))
    (hrun : (execOp a.eval o).run P w = .ok (.value (F j)) w)
    (K : Act → World → Prop) (hK : ∀ a' w', Phi a0 F df 48 g n m c B x z T w0 (fun i => L i || decide (i = j)) a' w' → K a' w') : o.wp P a w K Q := by
  refine h.fin hj hd hrun ?_ h.below K hK
  have : (L 7 || decide (7 = j)) = L 7 := by simp [hj7]
  rw [this]
  exact h.row
def Fv (g n m c : Nat) : Nat → Value
  | 0 => .int .i64 (m : Int)
  | 1 => .slice (some ⟨g, 0, none⟩) n n
  | 2 => .int .i64 (m : Int)
  | 3 => .slice (some ⟨g, m, none⟩) (n - m) (n - m)
  | 4 => .slice (some ⟨g, 0, none⟩) n n
  | 5 => .int .i64 (m : Int)
  | 6 => .slice (some ⟨g, 0, none⟩) m n
  | 7 => .int .i64 (c : Int)
  | 8 => .int .i64 ((m + c : Nat) : Int)
  | _ => .int .i64 ((m + c : Nat) : Int)
theorem val8 {a0 F : Nat → Value} {L : Nat → Bool} (h : L 9 = false) : val a0 F L 8 = a0 8 := by simp [val, h]
theorem val7 {a0 F : Nat → Value} {L : Nat → Bool} : val a0 F L 7 = a0 7 := by simp [val]
theorem valD {a0 F : Nat → Value} {L : Nat → Bool} {j : Nat} (hj : j ≤ 8) (h : L j = true) : val a0 F L (38 + j) = F j := by
  unfold val
  have h1 : ¬ 38 + j = 8 := by omega
  have h2 : 38 ≤ 38 + j ∧ 38 + j ≤ 46 := by omega
  have h3 : 38 + j - 38 = j := by omega
  simp only [h1, if_false, h2, and_self, if_true, h3, h]
theorem sz3 : (Try.prog.info? 3).map (·.size) = some 1 := by kernel_rfl
theorem elem32 : Try.prog.elem 53 = 3 := by kernel_rfl
theorem und32 : Try.prog.underlying 53 = some (.slice (Try.prog.elem 53)) := by kernel_rfl
theorem sliced_l {n m g : Nat} (w : World) (hmn : m < n) : (Instr.sliceAt 53 (.slice (some ⟨g, 0, none⟩) n n) (some (.int .i64 (m : Int))) none none).run Try.prog w = .ok (.slice (some ⟨g, m, none⟩) (n - m) (n - m)) w := by
  have hs := Try.sizeOf3 w
  have hne : ¬ n = m := by omega
  rw [run_sliceAt_slice w 53 _ _ _ _ und32, run_slice_l w 53 _ n n und32 .i64 (m : Int) (by omega) (by omega), elem32, hs]
  simp only [Result.andThen, sliced, Int.toNat_natCast, hne, if_false, Option.map_some, Addr.add, Nat.mul_one, Nat.zero_add]
  by_cases h0 : m = 0
  · subst h0
    simp
  · simp [h0]
theorem sliced_h {n m g : Nat} (w : World) (hmn : m < n) : (Instr.sliceAt 53 (.slice (some ⟨g, 0, none⟩) n n) none (some (.int .i64 (m : Int))) none).run Try.prog w = .ok (.slice (some ⟨g, 0, none⟩) m n) w := by
  have hs := Try.sizeOf3 w
  have hne : ¬ n = 0 := by omega
  rw [run_sliceAt_slice w 53 _ _ _ _ und32, run_slice_h w 53 _ n n und32 .i64 (m : Int) (by omega) (by omega), elem32, hs]
  simp [Result.andThen, sliced, Addr.add]
theorem reg9 {Q : Exit → Act → World → Prop} {rid : Nat} {a : Act} {w w0 : World} {g n m c B : Nat} {xi zi : Int} {T : TypeId} {a0 : Nat → Value} (hsz : a.tmps.size = 48) (ha0 : ∀ t, a.tmps.getD t undef = a0 t) (h7 : a0 7 = .slice (some ⟨g, 0, none⟩) n n) (h8 : a0 8 = .int .i64 (m : Int))
    (hm : 1 ≤ m) (hmn : m < n) (hn : n ≤ 8) (hc : c = min m (n - m)) (hg : w.heap[g]? = some (.cells (rowL n m (.int .i64 xi) (.int .i64 zi)).toArray T (0, 0))) (hB : Below B w0 w) (hBg : B ≤ g)
    (hQ : ∀ a' w', Phi a0 (Fv g n m c) a.defers 48 g n m c B (.int .i64 xi) (.int .i64 zi) T w0 (fun _ => true) a' w' → Q .normal a' w') : (Code.region rid ops9 true).wp Try.prog Q a w := by
  have h0 : Phi a0 (Fv g n m c) a.defers 48 g n m c B (.int .i64 xi) (.int .i64 zi) T w0 (fun _ => false) a { w with drawn := w.drawn + 1 } :=
    ⟨hsz, rfl, fun t => by rw [ha0 t]; unfold val; by_cases e : t = 8 <;> simp [e], hg, ⟨hB.os, hB.tape, hB.output, hB.size, hB.block⟩⟩
  refine wp_draw_inv (Phi a0 (Fv g n m c) a.defers 48 g n m c B (.int .i64 xi) (.int .i64 zi) T w0) (by kernel_rfl) back9 (fun L a' w' hL h => ?_) (fun L a1 w1 j o ho hj hL hr h => ?_) h0
  · refine hQ a' w' ⟨h.size, h.defers, fun t => ?_, ?_, h.below⟩
    · rw [h.tmps t]
      unfold val
      have := size9
      have e9 : L 9 = true := hL 9 (by omega)
      by_cases et : t = 8
      · simp [et, e9]
      · by_cases er : 38 ≤ t ∧ t ≤ 46
        · have : L (t - 38) = true := hL _ (by omega)
          simp [et, er, this]
        · simp [et, er]
    · have e7 : L 7 = true := hL 7 (by have := size9; omega)
      have := h.row
      rw [e7] at this
      exact this
  · have hj10 : j < 10 := by
      have := (Array.getElem?_eq_some_iff.1 ho).1
      have := size9
      omega
    have l98 : L 9 = true → L 8 = true := clos hL (by kernel_rfl) (by omega)
    have l80 : L 8 = true → L 0 = true := clos hL (by kernel_rfl) (by omega)
    have l87 : L 8 = true → L 7 = true := clos hL (by kernel_rfl) (by omega)
    have l73 : L 7 = true → L 3 = true := clos hL (by kernel_rfl) (by omega)
    have l76 : L 7 = true → L 6 = true := clos hL (by kernel_rfl) (by omega)
    have l32 : L 3 = true → L 2 = true := clos hL (by kernel_rfl) (by omega)
    have l65 : L 6 = true → L 5 = true := clos hL (by kernel_rfl) (by omega)
    have no9 : (j = 0 ∨ j = 2 ∨ j = 5) → L 9 = false := by
      intro hh
      cases h9 : L 9 with
      | false => rfl
      | true =>
        have e8 := l98 h9
        have e7 := l87 e8
        rcases hh with rfl | rfl | rfl
        · rw [l80 e8] at hj; cases hj
        · rw [l32 (l73 e7)] at hj; cases hj
        · rw [l65 (l76 e7)] at hj; cases hj
    have hcases : j = 0 ∨ j = 1 ∨ j = 2 ∨ j = 3 ∨ j = 4 ∨ j = 5 ∨ j = 6 ∨ j = 7 ∨ j = 8 ∨ j = 9 := by omega
    rcases hcases with rfl | rfl | rfl | rfl | rfl | rfl | rfl | rfl | rfl | rfl
    · obtain ⟨d1, d2, d3⟩ := dof_of o9_0 ho
      refine ⟨d3, h.fin0 (by omega) (by omega) d1 ?_⟩
      unfold execOp
      rw [d2]
      simp [eval_tmp, h.tmps, val8 (no9 (by omega)), h8, Fv]
    · obtain ⟨d1, d2, d3⟩ := dof_of o9_1 ho
      refine ⟨d3, h.fin0 (by omega) (by omega) d1 ?_⟩
      unfold execOp
      rw [d2]
      simp [eval_tmp, h.tmps, val7, h7, Fv]
    · obtain ⟨d1, d2, d3⟩ := dof_of o9_2 ho
      refine ⟨d3, h.fin0 (by omega) (by omega) d1 ?_⟩
      unfold execOp
      rw [d2]
      simp [eval_tmp, h.tmps, val8 (no9 (by omega)), h8, Fv]
    · obtain ⟨d1, d2, d3⟩ := dof_of o9_3 ho
      refine ⟨d3, h.fin0 (by omega) (by omega) d1 ?_⟩
      have r1 : L 1 = true := rdy (by kernel_rfl) ho hr
      have r2 : L 2 = true := rdy (by kernel_rfl) ho hr
      have e1 := valD (a0 := a0) (F := Fv g n m c) (show 1 ≤ 8 by omega) r1
      have e2 := valD (a0 := a0) (F := Fv g n m c) (show 2 ≤ 8 by omega) r2
      unfold execOp
      rw [d2]
      simp [eval_tmp, h.tmps, e1, e2, Fv, sliced_l w1 hmn]
    · obtain ⟨d1, d2, d3⟩ := dof_of o9_4 ho
      refine ⟨d3, h.fin0 (by omega) (by omega) d1 ?_⟩
      unfold execOp
      rw [d2]
      simp [eval_tmp, h.tmps, val7, h7, Fv]
    · obtain ⟨d1, d2, d3⟩ := dof_of o9_5 ho
      refine ⟨d3, h.fin0 (by omega) (by omega) d1 ?_⟩
      unfold execOp
      rw [d2]
      simp [eval_tmp, h.tmps, val8 (no9 (by omega)), h8, Fv]
    · obtain ⟨d1, d2, d3⟩ := dof_of o9_6 ho
      refine ⟨d3, h.fin0 (by omega) (by omega) d1 ?_⟩
      have r1 : L 4 = true := rdy (by kernel_rfl) ho hr
      have r2 : L 5 = true := rdy (by kernel_rfl) ho hr
      have e1 := valD (a0 := a0) (F := Fv g n m c) (show 4 ≤ 8 by omega) r1
      have e2 := valD (a0 := a0) (F := Fv g n m c) (show 5 ≤ 8 by omega) r2
      unfold execOp
      rw [d2]
      simp [eval_tmp, h.tmps, e1, e2, Fv, sliced_h w1 hmn]
    · obtain ⟨d1, d2, d3⟩ := dof_of o9_7 ho
      refine ⟨d3, ?_⟩
      have r1 : L 3 = true := rdy (by kernel_rfl) ho hr
      have r2 : L 6 = true := rdy (by kernel_rfl) ho hr
      have e1 := valD (a0 := a0) (F := Fv g n m c) (show 3 ≤ 8 by omega) r1
      have e2 := valD (a0 := a0) (F := Fv g n m c) (show 6 ≤ 8 by omega) r2
      have hrw := h.row
      rw [hj] at hrw
      simp only [Bool.false_eq_true, if_false] at hrw
      have hlen : (rowL n m (.int .i64 xi) (.int .i64 zi)).length = n := by unfold rowL; simp; omega
      have hrun := run_copy_row (P := Try.prog) w1 53 53 o.type 3 g m (n - m) (n - m) ⟨g, 0, none⟩ m n (rowL n m (.int .i64 xi) (.int .i64 zi)).toArray T (List.replicate c (.int .i64 xi)) Try.underlying53 sz3 hrw (by simp only [List.length_replicate]; exact hc) (fun j v hv => by
        refine row_src hrw j v ?_
        have hjc : j < c := by
          rcases Nat.lt_or_ge j c with h' | h'
          · exact h'
          · rw [List.getElem?_eq_none (by simpa using h')] at hv; cases hv
        unfold rowL
        rw [List.getElem?_append_left (by simp; omega)]
        rw [List.getElem?_replicate] at hv ⊢
        rw [if_pos hjc] at hv
        rw [if_pos (by omega)]
        exact hv) (by simp [hlen]; omega) (by intro v hv; rw [List.eq_of_mem_replicate hv]; rfl)
      simp only [List.length_replicate, rowL_splice (show m + c ≤ n by omega)] at hrun
      refine h.fin (by omega) d1 (w' := w1.setRow g (rowL n (m + c) (.int .i64 xi) (.int .i64 zi)).toArray) ?_ ?_ (below_setRow h.below hBg _)
      · unfold execOp
        rw [d2]
        simp only [resolve, invoke, builtin, Sem.run_bind, Sem.run_pure, Result.andThen_ok, List.map_toArray, List.map_cons, List.map_nil, eval_tmp, h.tmps, e1, e2]
        show (Result.andThen (Sem.run Try.prog (Builtin.copy_ #[53, 53] o.type #[.slice (some ⟨g, m, none⟩) (n - m) (n - m), .slice (some ⟨g, 0, none⟩) m n]) w1) _) = _
        rw [hrun]
        rfl
      · simp only [decide_true, Bool.or_true, if_true]
        exact setRow_heap w1 g _ _ T _ hrw
    · obtain ⟨d1, d2, d3⟩ := dof_of o9_8 ho
      refine ⟨d3, h.fin0 (by omega) (by omega) d1 ?_⟩
      have r1 : L 0 = true := rdy (by kernel_rfl) ho hr
      have r2 : L 7 = true := rdy (by kernel_rfl) ho hr
      have e1 := valD (a0 := a0) (F := Fv g n m c) (show 0 ≤ 8 by omega) r1
      have e2 := valD (a0 := a0) (F := Fv g n m c) (show 7 ≤ 8 by omega) r2
      unfold execOp
      rw [d2]
      have hw : IntKind.wrap .i64 ((m : Int) + (c : Int)) = ((m + c : Nat) : Int) := by
        rw [Go.IntWalk.i64_in _ (by omega)]
        omega
      have hw' : IntKind.wrap .i64 ((m : Int) + (c : Int)) = (m : Int) + (c : Int) := by
        rw [hw]
        omega
      simp [eval_tmp, h.tmps, e1, e2, Fv, binOp, Op.intArith, run_eqGuard_int, hw']
    · obtain ⟨d1, d2, d3⟩ := dof_of o9_9 ho
      refine ⟨d3, h.fin0 (by omega) (by omega) d1 ?_⟩
      have r1 : L 8 = true := rdy (by kernel_rfl) ho hr
      have e1 := valD (a0 := a0) (F := Fv g n m c) (show 8 ≤ 8 by omega) r1
      unfold execOp
      rw [d2]
      simp [eval_tmp, h.tmps, e1, Fv]
theorem arr48 {A : Array Value} (h : A.size = 48) {f : Nat → Value} (hf : ∀ t, A.getD t undef = f t) : A = #[f 0, f 1, f 2, f 3, f 4, f 5, f 6, f 7, f 8, f 9, f 10, f 11, f 12, f 13, f 14, f 15, f 16, f 17, f 18, f 19, f 20, f 21, f 22, f 23, f 24, f 25, f 26, f 27, f 28, f 29, f 30, f 31, f 32, f 33, f 34, f 35, f 36, f 37, f 38, f 39, f 40, f 41, f 42, f 43, f 44, f 45, f 46, f 47] := by
  apply Array.ext
  · simp [h]
  · intro i h1 h2
    have e := hf i
    rw [Array.getD_eq_getD_getElem?, Array.getElem?_eq_getElem h1] at e
    simp only [Option.getD_some] at e
    rw [e]
    simp only [List.size_toArray, List.length_cons, List.length_nil] at h2
    match i, h2 with
    | 0, _ => rfl
    | 1, _ => rfl
    | 2, _ => rfl
    | 3, _ => rfl
    | 4, _ => rfl
    | 5, _ => rfl
    | 6, _ => rfl
    | 7, _ => rfl
    | 8, _ => rfl
    | 9, _ => rfl
    | 10, _ => rfl
    | 11, _ => rfl
    | 12, _ => rfl
    | 13, _ => rfl
    | 14, _ => rfl
    | 15, _ => rfl
    | 16, _ => rfl
    | 17, _ => rfl
    | 18, _ => rfl
    | 19, _ => rfl
    | 20, _ => rfl
    | 21, _ => rfl
    | 22, _ => rfl
    | 23, _ => rfl
    | 24, _ => rfl
    | 25, _ => rfl
    | 26, _ => rfl
    | 27, _ => rfl
    | 28, _ => rfl
    | 29, _ => rfl
    | 30, _ => rfl
    | 31, _ => rfl
    | 32, _ => rfl
    | 33, _ => rfl
    | 34, _ => rfl
    | 35, _ => rfl
    | 36, _ => rfl
    | 37, _ => rfl
    | 38, _ => rfl
    | 39, _ => rfl
    | 40, _ => rfl
    | 41, _ => rfl
    | 42, _ => rfl
    | 43, _ => rfl
    | 44, _ => rfl
    | 45, _ => rfl
    | 46, _ => rfl
    | 47, _ => rfl
    | k + 48, h2 => exact absurd h2 (by simp)
theorem reg9x {Q : Exit → Act → World → Prop} {rid : Nat} {ops : Array Oper} (hops : ops = ops9) {A : Array Value} {df : List Deferred} {w w0 : World} {g n m c B : Nat} {xi zi : Int} {T : TypeId} {L L' : List Value} (a0 : Nat → Value) (hsz : A.size = 48) (ha0 : ∀ t, A.getD t undef = a0 t) (h7 : a0 7 = .slice (some ⟨g, 0, none⟩) n n) (h8 : a0 8 = .int .i64 (m : Int))
    (hm : 1 ≤ m) (hmn : m < n) (hn : n ≤ 8) (hc : c = min m (n - m)) (hL : L = rowL n m (.int .i64 xi) (.int .i64 zi)) (hL' : L' = rowL n (m + c) (.int .i64 xi) (.int .i64 zi)) (hg : w.heap[g]? = some (.cells L.toArray T (0, 0))) (hB : Below B w0 w) (hBg : B ≤ g) {A' : Array Value} (hA' : A' = #[val a0 (Fv g n m c) (fun _ => true) 0, val a0 (Fv g n m c) (fun _ => true) 1, val a0 (Fv g n m c) (fun _ => true) 2, val a0 (Fv g n m c) (fun _ => true) 3, val a0 (Fv g n m c) (fun _ => true) 4, val a0 (Fv g n m c) (fun _ => true) 5, val a0 (Fv g n m c) (fun _ => true) 6, val a0 (Fv g n m c) (fun _ => true) 7, val a0 (Fv g n m c) (fun _ => true) 8, val a0 (Fv g n m c) (fun _ => true) 9, val a0 (Fv g n m c) (fun _ => true) 10, val a0 (Fv g n m c) (fun _ => true) 11, val a0 (Fv g n m c) (fun _ => true) 12, val a0 (Fv g n m c) (fun _ => true) 13, val a0 (Fv g n m c) (fun _ => true) 14, val a0 (Fv g n m c) (fun _ => true) 15, val a0 (Fv g n m c) (fun _ => true) 16, val a0 (Fv g n m c) (fun _ => true) 17, val a0 (Fv g n m c) (fun _ => true) 18, val a0 (Fv g n m c) (fun _ => true) 19, val a0 (Fv g n m c) (fun _ => true) 20, val a0 (Fv g n m c) (fun _ => true) 21, val a0 (Fv g n m c) (fun _ => true) 22, val a0 (Fv g n m c) (fun _ => true) 23, val a0 (Fv g n m c) (fun _ => true) 24, val a0 (Fv g n m c) (fun _ => true) 25, val a0 (Fv g n m c) (fun _ => true) 26, val a0 (Fv g n m c) (fun _ => true) 27, val a0 (Fv g n m c) (fun _ => true) 28, val a0 (Fv g n m c) (fun _ => true) 29, val a0 (Fv g n m c) (fun _ => true) 30, val a0 (Fv g n m c) (fun _ => true) 31, val a0 (Fv g n m c) (fun _ => true) 32, val a0 (Fv g n m c) (fun _ => true) 33, val a0 (Fv g n m c) (fun _ => true) 34, val a0 (Fv g n m c) (fun _ => true) 35, val a0 (Fv g n m c) (fun _ => true) 36, val a0 (Fv g n m c) (fun _ => true) 37, val a0 (Fv g n m c) (fun _ => true) 38, val a0 (Fv g n m c) (fun _ => true) 39, val a0 (Fv g n m c) (fun _ => true) 40, val a0 (Fv g n m c) (fun _ => true) 41, val a0 (Fv g n m c) (fun _ => true) 42, val a0 (Fv g n m c) (fun _ => true) 43, val a0 (Fv g n m c) (fun _ => true) 44, val a0 (Fv g n m c) (fun _ => true) 45, val a0 (Fv g n m c) (fun _ => true) 46, val a0 (Fv g n m c) (fun _ => true) 47])
    (hQ : ∀ w', Hid (w'.heap[g]? = some (.cells L'.toArray T (0, 0))) → Below B w0 w' → Q .normal ⟨A', df⟩ w') : (Code.region rid ops true).wp Try.prog Q ⟨A, df⟩ w := by
  subst hops hL hL' hA'
  refine reg9 (a := ⟨A, df⟩) hsz ha0 h7 h8 hm hmn hn hc hg hB hBg fun a' w' h => ?_
  have e := arr48 h.size h.tmps
  have e2 : a' = ⟨a'.tmps, a'.defers⟩ := rfl
  rw [e2, e, h.defers]
  refine hQ w' ?_ h.below
  have := h.row
  exact this
end Go.V.W
set_option linter.unusedVariables false
set_option linter.unusedSimpArgs false
namespace Go.V.W
open Go.Proofs Go.RowKit
set_option maxRecDepth 1000000 in
theorem mul64 (n : Nat) (hn : n ≤ 8) (w : World) : Calls Try.prog 88 #[.int .u64 1, .int .u64 n] w fun e w' => e = .returned (.tuple #[.int .u64 0, .int .u64 n]) ∧ w' = w := by
  have : n = 0 ∨ n = 1 ∨ n = 2 ∨ n = 3 ∨ n = 4 ∨ n = 5 ∨ n = 6 ∨ n = 7 ∨ n = 8 := by omega
  rcases this with rfl | rfl | rfl | rfl | rfl | rfl | rfl | rfl | rfl <;>
  (go_enter Try.func88, Try.ntmps88
   go_wp2
   go_ret2
   exact ⟨rfl, rfl⟩)
set_option maxRecDepth 1000000 in
theorem mul153 (n : Nat) (hn : n ≤ 8) (w : World) : Calls Try.prog 79 #[.int .u64 1, .int .u64 n] w fun e w' => e = .returned (.tuple #[.int .u64 0, .int .u64 n]) ∧ w' = w := by
  have hm := mul64 n hn w
  go_enter Try.func79, Try.ntmps79
  go_wp2_with (go_at_call 88; go_fit hm; rintro e w' ⟨rfl, hw⟩; rw [hw])
  go_ret2
  exact ⟨rfl, rfl⟩
theorem made1 (z : Value) (n : Nat) : madeCells #[z] n = (List.replicate n z).toArray := by
  apply Array.ext
  · simp [madeCells]
  · intro i h1 h2
    simp [madeCells, Nat.mod_one]
theorem info3 : (Try.prog.info? 3).map (fun i => (i.zero, i.size, i.bytes)) = some (some (.int .i64 0), 1, 8) := by kernel_rfl
theorem mk3 (n : Nat) (hn : n ≤ 8) (w : World) : (Instr.makeSlice 53 (.int .i64 (n : Int)) (.int .i64 (n : Int))).run Try.prog w = .ok (.slice (some ⟨w.heap.size, 0, none⟩) n n) (w.alloc (.cells (List.replicate n (.int .i64 0)).toArray 3)) := by
  rw [← made1]
  exact run_make_row' 53 3 (.int .i64 0) 8 Try.underlying53 info3 rfl .i64 .i64 n (by omega) (by omega) w
theorem src1 {w : World} {a : Addr} {v : Value} (h : w.cell? a = some v) : ∀ j u, [v][j]? = some u → w.cell? (a.add j) = some u := by
  intro j u hj
  match j with
  | 0 =>
    simp only [List.length_cons, List.length_nil, Nat.zero_add, Nat.lt_add_one, List.getElem?_eq_getElem, List.getElem_cons_zero, Option.some.injEq] at hj
    subst hj
    exact h
  | j + 1 => simp at hj
theorem cell_alloc {w : World} {a : Addr} {v : Value} (h : w.cell? a = some v) (o : Obj) : (w.alloc o).cell? a = some v := by
  have hlt : a.block < w.heap.size := by
    unfold World.cell? at h
    cases hb : w.heap[a.block]? with
    | none => rw [hb] at h; cases h
    | some x => exact (Array.getElem?_eq_some_iff.1 hb).1
  unfold World.cell? at h ⊢
  rw [Below.heap_alloc w o a.block hlt]
  exact h
set_option maxRecDepth 1000000 in
set_option maxHeartbeats 4000000 in
theorem rep1 (x : Int) (w : World) (b off cap : Nat) (hx : w.cell? ⟨b, off, none⟩ = some (.int .i64 x)) : Calls Try.prog 60 #[.slice (some ⟨b, off, none⟩) 1 cap, .int .i64 1] w fun e w' => ∃ g T, e = .returned (.slice (some ⟨g, 0, none⟩) 1 1) ∧ w.heap.size ≤ g ∧ w'.heap[g]? = some (.cells (List.replicate 1 (.int .i64 x)).toArray T (0, 0)) ∧ Below w.heap.size w w' := by
  have hm := mul153 1 (by omega) w
  obtain ⟨W1, hW1⟩ : ∃ W1, W1 = w.alloc (.cells (List.replicate 1 (.int .i64 0)).toArray 3) := ⟨_, rfl⟩
  have hk : (Instr.makeSlice 53 (.int .i64 1) (.int .i64 1)).run Try.prog w = .ok (.slice (some ⟨w.heap.size, 0, none⟩) 1 1) W1 := by
    rw [hW1]
    exact mk3 1 (by omega) w
  have hB0 : Hid (Below w.heap.size w W1) := hW1 ▸ (Below.refl _ w).alloc (Nat.le_refl _) _
  have hG0 : Hid (W1.heap[w.heap.size]? = some (.cells ([.int .i64 0] : List Value).toArray 3 (0, 0))) := by
    subst hW1
    show _ = _
    exact heap_alloc_new w _
  have hs0 : Hid (∀ j v, [Value.int .i64 x][j]? = some v → W1.cell? ((⟨b, off, none⟩ : Addr).add j) = some v) := src1 (hW1 ▸ cell_alloc hx _)
  clear hW1
  go_enter Try.func60, Try.ntmps60
  go_wp2_with (first
    | (go_at_call 79; go_fit hm; rintro e w' ⟨rfl, hw⟩; rw [hw])
    | (refine wpList_copy_splice (o := ⟨some 33, _, _, _, _, _⟩) rfl (.tmp 31) (.tmp 32) 53 53 rfl 3 Try.underlying53 sz3 (some ⟨w.heap.size, 0, none⟩) (some ⟨b, off, none⟩) 1 1 1 cap rfl rfl w.heap.size 0 [.int .i64 0] 3 hG0.out [.int .i64 x] rfl (fun _ => ⟨rfl, _, rfl, hs0.out⟩) (by simp) (by simp [Value.oneCell']) w.heap.size w hB0.out (Nat.le_refl _) ?_; intro w2 HG2 hB2))
  have hG : Hid (w2.heap[w.heap.size]? = some (.cells ([.int .i64 x] : List Value).toArray 3 (0, 0))) := HG2.out
  clear HG2 hk hs0 hG0 hB0 hm
  refine wp_loop_rounds 1 ?_
  rw [rounds_succ]
  go_wp2_with (fail)
  go_ret
  first
    | exact ⟨_, _, rfl, Nat.le_refl _, hG.out, hB2⟩
    | exact ⟨_, rfl, Nat.le_refl _, ⟨_, hG.out⟩, hB2⟩
set_option maxRecDepth 1000000 in
set_option maxHeartbeats 4000000 in
theorem rep2 (x : Int) (w : World) (b off cap : Nat) (hx : w.cell? ⟨b, off, none⟩ = some (.int .i64 x)) : Calls Try.prog 60 #[.slice (some ⟨b, off, none⟩) 1 cap, .int .i64 2] w fun e w' => ∃ g T, e = .returned (.slice (some ⟨g, 0, none⟩) 2 2) ∧ w.heap.size ≤ g ∧ w'.heap[g]? = some (.cells (List.replicate 2 (.int .i64 x)).toArray T (0, 0)) ∧ Below w.heap.size w w' := by
  have hm := mul153 2 (by omega) w
  obtain ⟨W1, hW1⟩ : ∃ W1, W1 = w.alloc (.cells (List.replicate 2 (.int .i64 0)).toArray 3) := ⟨_, rfl⟩
  have hk : (Instr.makeSlice 53 (.int .i64 2) (.int .i64 2)).run Try.prog w = .ok (.slice (some ⟨w.heap.size, 0, none⟩) 2 2) W1 := by
    rw [hW1]
    exact mk3 2 (by omega) w
  have hB0 : Hid (Below w.heap.size w W1) := hW1 ▸ (Below.refl _ w).alloc (Nat.le_refl _) _
  have hG0 : Hid (W1.heap[w.heap.size]? = some (.cells ([.int .i64 0, .int .i64 0] : List Value).toArray 3 (0, 0))) := by
    subst hW1
    show _ = _
    exact heap_alloc_new w _
  have hs0 : Hid (∀ j v, [Value.int .i64 x][j]? = some v → W1.cell? ((⟨b, off, none⟩ : Addr).add j) = some v) := src1 (hW1 ▸ cell_alloc hx _)
  clear hW1
  go_enter Try.func60, Try.ntmps60
  go_wp2_with (first
    | (go_at_call 79; go_fit hm; rintro e w' ⟨rfl, hw⟩; rw [hw])
    | (refine wpList_copy_splice (o := ⟨some 33, _, _, _, _, _⟩) rfl (.tmp 31) (.tmp 32) 53 53 rfl 3 Try.underlying53 sz3 (some ⟨w.heap.size, 0, none⟩) (some ⟨b, off, none⟩) 2 2 1 cap rfl rfl w.heap.size 0 [.int .i64 0, .int .i64 0] 3 hG0.out [.int .i64 x] rfl (fun _ => ⟨rfl, _, rfl, hs0.out⟩) (by simp) (by simp [Value.oneCell']) w.heap.size w hB0.out (Nat.le_refl _) ?_; intro w2 HG2 hB2))
  have hG : Hid (w2.heap[w.heap.size]? = some (.cells ([.int .i64 x, .int .i64 0] : List Value).toArray 3 (0, 0))) := HG2.out
  clear HG2 hk hs0 hG0 hB0 hm
  refine wp_loop_rounds 2 ?_
  rw [rounds_succ]
  go_wp2_with (fail)
  refine reg9x (by kernel_rfl) (g := w.heap.size) (n := 2) (m := 1) (c := 1) (xi := x) (zi := 0) (T := 3) (L := [.int .i64 x, .int .i64 0]) (L' := [.int .i64 x, .int .i64 x]) _ rfl (fun _ => rfl) rfl rfl (by omega) (by omega) (by omega) rfl rfl rfl hG.out hB2 (Nat.le_refl _) rfl ?_
  intro w3 hG3 hB3
  clear hG hB2
  have hG := hG3
  have hB2 := hB3
  clear hG3 hB3
  simp only [Exit.inBlock, Exit.then, rounds_succ, val, Fv]
  go_wp2_with (fail)
  go_ret
  first
    | exact ⟨_, _, rfl, Nat.le_refl _, hG.out, hB2⟩
    | exact ⟨_, rfl, Nat.le_refl _, ⟨_, hG.out⟩, hB2⟩
set_option maxRecDepth 1000000 in
set_option maxHeartbeats 4000000 in
theorem rep3 (x : Int) (w : World) (b off cap : Nat) (hx : w.cell? ⟨b, off, none⟩ = some (.int .i64 x)) : Calls Try.prog 60 #[.slice (some ⟨b, off, none⟩) 1 cap, .int .i64 3] w fun e w' => ∃ g T, e = .returned (.slice (some ⟨g, 0, none⟩) 3 3) ∧ w.heap.size ≤ g ∧ w'.heap[g]? = some (.cells (List.replicate 3 (.int .i64 x)).toArray T (0, 0)) ∧ Below w.heap.size w w' := by
  have hm := mul153 3 (by omega) w
  obtain ⟨W1, hW1⟩ : ∃ W1, W1 = w.alloc (.cells (List.replicate 3 (.int .i64 0)).toArray 3) := ⟨_, rfl⟩
  have hk : (Instr.makeSlice 53 (.int .i64 3) (.int .i64 3)).run Try.prog w = .ok (.slice (some ⟨w.heap.size, 0, none⟩) 3 3) W1 := by
    rw [hW1]
    exact mk3 3 (by omega) w
  have hB0 : Hid (Below w.heap.size w W1) := hW1 ▸ (Below.refl _ w).alloc (Nat.le_refl _) _
  have hG0 : Hid (W1.heap[w.heap.size]? = some (.cells ([.int .i64 0, .int .i64 0, .int .i64 0] : List Value).toArray 3 (0, 0))) := by
    subst hW1
    show _ = _
    exact heap_alloc_new w _
  have hs0 : Hid (∀ j v, [Value.int .i64 x][j]? = some v → W1.cell? ((⟨b, off, none⟩ : Addr).add j) = some v) := src1 (hW1 ▸ cell_alloc hx _)
  clear hW1
  go_enter Try.func60, Try.ntmps60
  go_wp2_with (first
    | (go_at_call 79; go_fit hm; rintro e w' ⟨rfl, hw⟩; rw [hw])
    | (refine wpList_copy_splice (o := ⟨some 33, _, _, _, _, _⟩) rfl (.tmp 31) (.tmp 32) 53 53 rfl 3 Try.underlying53 sz3 (some ⟨w.heap.size, 0, none⟩) (some ⟨b, off, none⟩) 3 3 1 cap rfl rfl w.heap.size 0 [.int .i64 0, .int .i64 0, .int .i64 0] 3 hG0.out [.int .i64 x] rfl (fun _ => ⟨rfl, _, rfl, hs0.out⟩) (by simp) (by simp [Value.oneCell']) w.heap.size w hB0.out (Nat.le_refl _) ?_; intro w2 HG2 hB2))
  have hG : Hid (w2.heap[w.heap.size]? = some (.cells ([.int .i64 x, .int .i64 0, .int .i64 0] : List Value).toArray 3 (0, 0))) := HG2.out
  clear HG2 hk hs0 hG0 hB0 hm
  refine wp_loop_rounds 3 ?_
  rw [rounds_succ]
  go_wp2_with (fail)
  refine reg9x (by kernel_rfl) (g := w.heap.size) (n := 3) (m := 1) (c := 1) (xi := x) (zi := 0) (T := 3) (L := [.int .i64 x, .int .i64 0, .int .i64 0]) (L' := [.int .i64 x, .int .i64 x, .int .i64 0]) _ rfl (fun _ => rfl) rfl rfl (by omega) (by omega) (by omega) rfl rfl rfl hG.out hB2 (Nat.le_refl _) rfl ?_
  intro w3 hG3 hB3
  clear hG hB2
  have hG := hG3
  have hB2 := hB3
  clear hG3 hB3
  simp only [Exit.inBlock, Exit.then, rounds_succ, val, Fv]
  go_wp2_with (fail)
  refine reg9x (by kernel_rfl) (g := w.heap.size) (n := 3) (m := 2) (c := 1) (xi := x) (zi := 0) (T := 3) (L := [.int .i64 x, .int .i64 x, .int .i64 0]) (L' := [.int .i64 x, .int .i64 x, .int .i64 x]) _ rfl (fun _ => rfl) rfl rfl (by omega) (by omega) (by omega) rfl rfl rfl hG.out hB2 (Nat.le_refl _) rfl ?_
  intro w3 hG3 hB3
  clear hG hB2
  have hG := hG3
  have hB2 := hB3
  clear hG3 hB3
  simp only [Exit.inBlock, Exit.then, rounds_succ, val, Fv]
  go_wp2_with (fail)
  go_ret
  first
    | exact ⟨_, _, rfl, Nat.le_refl _, hG.out, hB2⟩
    | exact ⟨_, rfl, Nat.le_refl _, ⟨_, hG.out⟩, hB2⟩
set_option maxRecDepth 1000000 in
set_option maxHeartbeats 4000000 in
theorem rep4 (x : Int) (w : World) (b off cap : Nat) (hx : w.cell? ⟨b, off, none⟩ = some (.int .i64 x)) : Calls Try.prog 60 #[.slice (some ⟨b, off, none⟩) 1 cap, .int .i64 4] w fun e w' => ∃ g T, e = .returned (.slice (some ⟨g, 0, none⟩) 4 4) ∧ w.heap.size ≤ g ∧ w'.heap[g]? = some (.cells (List.replicate 4 (.int .i64 x)).toArray T (0, 0)) ∧ Below w.heap.size w w' := by
  have hm := mul153 4 (by omega) w
  obtain ⟨W1, hW1⟩ : ∃ W1, W1 = w.alloc (.cells (List.replicate 4 (.int .i64 0)).toArray 3) := ⟨_, rfl⟩
  have hk : (Instr.makeSlice 53 (.int .i64 4) (.int .i64 4)).run Try.prog w = .ok (.slice (some ⟨w.heap.size, 0, none⟩) 4 4) W1 := by
    rw [hW1]
    exact mk3 4 (by omega) w
  have hB0 : Hid (Below w.heap.size w W1) := hW1 ▸ (Below.refl _ w).alloc (Nat.le_refl _) _
  have hG0 : Hid (W1.heap[w.heap.size]? = some (.cells ([.int .i64 0, .int .i64 0, .int .i64 0, .int .i64 0] : List Value).toArray 3 (0, 0))) := by
    subst hW1
    show _ = _
    exact heap_alloc_new w _
  have hs0 : Hid (∀ j v, [Value.int .i64 x][j]? = some v → W1.cell? ((⟨b, off, none⟩ : Addr).add j) = some v) := src1 (hW1 ▸ cell_alloc hx _)
  clear hW1
  go_enter Try.func60, Try.ntmps60
  go_wp2_with (first
    | (go_at_call 79; go_fit hm; rintro e w' ⟨rfl, hw⟩; rw [hw])
    | (refine wpList_copy_splice (o := ⟨some 33, _, _, _, _, _⟩) rfl (.tmp 31) (.tmp 32) 53 53 rfl 3 Try.underlying53 sz3 (some ⟨w.heap.size, 0, none⟩) (some ⟨b, off, none⟩) 4 4 1 cap rfl rfl w.heap.size 0 [.int .i64 0, .int .i64 0, .int .i64 0, .int .i64 0] 3 hG0.out [.int .i64 x] rfl (fun _ => ⟨rfl, _, rfl, hs0.out⟩) (by simp) (by simp [Value.oneCell']) w.heap.size w hB0.out (Nat.le_refl _) ?_; intro w2 HG2 hB2))
  have hG : Hid (w2.heap[w.heap.size]? = some (.cells ([.int .i64 x, .int .i64 0, .int .i64 0, .int .i64 0] : List Value).toArray 3 (0, 0))) := HG2.out
  clear HG2 hk hs0 hG0 hB0 hm
  refine wp_loop_rounds 3 ?_
  rw [rounds_succ]
  go_wp2_with (fail)
  refine reg9x (by kernel_rfl) (g := w.heap.size) (n := 4) (m := 1) (c := 1) (xi := x) (zi := 0) (T := 3) (L := [.int .i64 x, .int .i64 0, .int .i64 0, .int .i64 0]) (L' := [.int .i64 x, .int .i64 x, .int .i64 0, .int .i64 0]) _ rfl (fun _ => rfl) rfl rfl (by omega) (by omega) (by omega) rfl rfl rfl hG.out hB2 (Nat.le_refl _) rfl ?_
  intro w3 hG3 hB3
  clear hG hB2
  have hG := hG3
  have hB2 := hB3
  clear hG3 hB3
  simp only [Exit.inBlock, Exit.then, rounds_succ, val, Fv]
  go_wp2_with (fail)
  refine reg9x (by kernel_rfl) (g := w.heap.size) (n := 4) (m := 2) (c := 2) (xi := x) (zi := 0) (T := 3) (L := [.int .i64 x, .int .i64 x, .int .i64 0, .int .i64 0]) (L' := [.int .i64 x, .int .i64 x, .int .i64 x, .int .i64 x]) _ rfl (fun _ => rfl) rfl rfl (by omega) (by omega) (by omega) rfl rfl rfl hG.out hB2 (Nat.le_refl _) rfl ?_
  intro w3 hG3 hB3
  clear hG hB2
  have hG := hG3
  have hB2 := hB3
  clear hG3 hB3
  simp only [Exit.inBlock, Exit.then, rounds_succ, val, Fv]
  go_wp2_with (fail)
  go_ret
  first
    | exact ⟨_, _, rfl, Nat.le_refl _, hG.out, hB2⟩
    | exact ⟨_, rfl, Nat.le_refl _, ⟨_, hG.out⟩, hB2⟩
set_option maxRecDepth 1000000 in
set_option maxHeartbeats 4000000 in
theorem rep5 (x : Int) (w : World) (b off cap : Nat) (hx : w.cell? ⟨b, off, none⟩ = some (.int .i64 x)) : Calls Try.prog 60 #[.slice (some ⟨b, off, none⟩) 1 cap, .int .i64 5] w fun e w' => ∃ g T, e = .returned (.slice (some ⟨g, 0, none⟩) 5 5) ∧ w.heap.size ≤ g ∧ w'.heap[g]? = some (.cells (List.replicate 5 (.int .i64 x)).toArray T (0, 0)) ∧ Below w.heap.size w w' := by
  have hm := mul153 5 (by omega) w
  obtain ⟨W1, hW1⟩ : ∃ W1, W1 = w.alloc (.cells (List.replicate 5 (.int .i64 0)).toArray 3) := ⟨_, rfl⟩
  have hk : (Instr.makeSlice 53 (.int .i64 5) (.int .i64 5)).run Try.prog w = .ok (.slice (some ⟨w.heap.size, 0, none⟩) 5 5) W1 := by
    rw [hW1]
    exact mk3 5 (by omega) w
  have hB0 : Hid (Below w.heap.size w W1) := hW1 ▸ (Below.refl _ w).alloc (Nat.le_refl _) _
  have hG0 : Hid (W1.heap[w.heap.size]? = some (.cells ([.int .i64 0, .int .i64 0, .int .i64 0, .int .i64 0, .int .i64 0] : List Value).toArray 3 (0, 0))) := by
    subst hW1
    show _ = _
    exact heap_alloc_new w _
  have hs0 : Hid (∀ j v, [Value.int .i64 x][j]? = some v → W1.cell? ((⟨b, off, none⟩ : Addr).add j) = some v) := src1 (hW1 ▸ cell_alloc hx _)
  clear hW1
  go_enter Try.func60, Try.ntmps60
  go_wp2_with (first
    | (go_at_call 79; go_fit hm; rintro e w' ⟨rfl, hw⟩; rw [hw])
    | (refine wpList_copy_splice (o := ⟨some 33, _, _, _, _, _⟩) rfl (.tmp 31) (.tmp 32) 53 53 rfl 3 Try.underlying53 sz3 (some ⟨w.heap.size, 0, none⟩) (some ⟨b, off, none⟩) 5 5 1 cap rfl rfl w.heap.size 0 [.int .i64 0, .int .i64 0, .int .i64 0, .int .i64 0, .int .i64 0] 3 hG0.out [.int .i64 x] rfl (fun _ => ⟨rfl, _, rfl, hs0.out⟩) (by simp) (by simp [Value.oneCell']) w.heap.size w hB0.out (Nat.le_refl _) ?_; intro w2 HG2 hB2))
  have hG : Hid (w2.heap[w.heap.size]? = some (.cells ([.int .i64 x, .int .i64 0, .int .i64 0, .int .i64 0, .int .i64 0] : List Value).toArray 3 (0, 0))) := HG2.out
  clear HG2 hk hs0 hG0 hB0 hm
  refine wp_loop_rounds 4 ?_
  rw [rounds_succ]
  go_wp2_with (fail)
  refine reg9x (by kernel_rfl) (g := w.heap.size) (n := 5) (m := 1) (c := 1) (xi := x) (zi := 0) (T := 3) (L := [.int .i64 x, .int .i64 0, .int .i64 0, .int .i64 0, .int .i64 0]) (L' := [.int .i64 x, .int .i64 x, .int .i64 0, .int .i64 0, .int .i64 0]) _ rfl (fun _ => rfl) rfl rfl (by omega) (by omega) (by omega) rfl rfl rfl hG.out hB2 (Nat.le_refl _) rfl ?_
  intro w3 hG3 hB3
  clear hG hB2
  have hG := hG3
  have hB2 := hB3
  clear hG3 hB3
  simp only [Exit.inBlock, Exit.then, rounds_succ, val, Fv]
  go_wp2_with (fail)
  refine reg9x (by kernel_rfl) (g := w.heap.size) (n := 5) (m := 2) (c := 2) (xi := x) (zi := 0) (T := 3) (L := [.int .i64 x, .int .i64 x, .int .i64 0, .int .i64 0, .int .i64 0]) (L' := [.int .i64 x, .int .i64 x, .int .i64 x, .int .i64 x, .int .i64 0]) _ rfl (fun _ => rfl) rfl rfl (by omega) (by omega) (by omega) rfl rfl rfl hG.out hB2 (Nat.le_refl _) rfl ?_
  intro w3 hG3 hB3
  clear hG hB2
  have hG := hG3
  have hB2 := hB3
  clear hG3 hB3
  simp only [Exit.inBlock, Exit.then, rounds_succ, val, Fv]
  go_wp2_with (fail)
  refine reg9x (by kernel_rfl) (g := w.heap.size) (n := 5) (m := 4) (c := 1) (xi := x) (zi := 0) (T := 3) (L := [.int .i64 x, .int .i64 x, .int .i64 x, .int .i64 x, .int .i64 0]) (L' := [.int .i64 x, .int .i64 x, .int .i64 x, .int .i64 x, .int .i64 x]) _ rfl (fun _ => rfl) rfl rfl (by omega) (by omega) (by omega) rfl rfl rfl hG.out hB2 (Nat.le_refl _) rfl ?_
  intro w3 hG3 hB3
  clear hG hB2
  have hG := hG3
  have hB2 := hB3
  clear hG3 hB3
  simp only [Exit.inBlock, Exit.then, rounds_succ, val, Fv]
  go_wp2_with (fail)
  go_ret
  first
    | exact ⟨_, _, rfl, Nat.le_refl _, hG.out, hB2⟩
    | exact ⟨_, rfl, Nat.le_refl _, ⟨_, hG.out⟩, hB2⟩
set_option maxRecDepth 1000000 in
set_option maxHeartbeats 4000000 in
theorem rep6 (x : Int) (w : World) (b off cap : Nat) (hx : w.cell? ⟨b, off, none⟩ = some (.int .i64 x)) : Calls Try.prog 60 #[.slice (some ⟨b, off, none⟩) 1 cap, .int .i64 6] w fun e w' => ∃ g T, e = .returned (.slice (some ⟨g, 0, none⟩) 6 6) ∧ w.heap.size ≤ g ∧ w'.heap[g]? = some (.cells (List.replicate 6 (.int .i64 x)).toArray T (0, 0)) ∧ Below w.heap.size w w' := by
  have hm := mul153 6 (by omega) w
  obtain ⟨W1, hW1⟩ : ∃ W1, W1 = w.alloc (.cells (List.replicate 6 (.int .i64 0)).toArray 3) := ⟨_, rfl⟩
  have hk : (Instr.makeSlice 53 (.int .i64 6) (.int .i64 6)).run Try.prog w = .ok (.slice (some ⟨w.heap.size, 0, none⟩) 6 6) W1 := by
    rw [hW1]
    exact mk3 6 (by omega) w
  have hB0 : Hid (Below w.heap.size w W1) := hW1 ▸ (Below.refl _ w).alloc (Nat.le_refl _) _
  have hG0 : Hid (W1.heap[w.heap.size]? = some (.cells ([.int .i64 0, .int .i64 0, .int .i64 0, .int .i64 0, .int .i64 0, .int .i64 0] : List Value).toArray 3 (0, 0))) := by
    subst hW1
    show _ = _
    exact heap_alloc_new w _
  have hs0 : Hid (∀ j v, [Value.int .i64 x][j]? = some v → W1.cell? ((⟨b, off, none⟩ : Addr).add j) = some v) := src1 (hW1 ▸ cell_alloc hx _)
  clear hW1
  go_enter Try.func60, Try.ntmps60
  go_wp2_with (first
    | (go_at_call 79; go_fit hm; rintro e w' ⟨rfl, hw⟩; rw [hw])
    | (refine wpList_copy_splice (o := ⟨some 33, _, _, _, _, _⟩) rfl (.tmp 31) (.tmp 32) 53 53 rfl 3 Try.underlying53 sz3 (some ⟨w.heap.size, 0, none⟩) (some ⟨b, off, none⟩) 6 6 1 cap rfl rfl w.heap.size 0 [.int .i64 0, .int .i64 0, .int .i64 0, .int .i64 0, .int .i64 0, .int .i64 0] 3 hG0.out [.int .i64 x] rfl (fun _ => ⟨rfl, _, rfl, hs0.out⟩) (by simp) (by simp [Value.oneCell']) w.heap.size w hB0.out (Nat.le_refl _) ?_; intro w2 HG2 hB2))
  have hG : Hid (w2.heap[w.heap.size]? = some (.cells ([.int .i64 x, .int .i64 0, .int .i64 0, .int .i64 0, .int .i64 0, .int .i64 0] : List Value).toArray 3 (0, 0))) := HG2.out
  clear HG2 hk hs0 hG0 hB0 hm
  refine wp_loop_rounds 4 ?_
  rw [rounds_succ]
  go_wp2_with (fail)
  refine reg9x (by kernel_rfl) (g := w.heap.size) (n := 6) (m := 1) (c := 1) (xi := x) (zi := 0) (T := 3) (L := [.int .i64 x, .int .i64 0, .int .i64 0, .int .i64 0, .int .i64 0, .int .i64 0]) (L' := [.int .i64 x, .int .i64 x, .int .i64 0, .int .i64 0, .int .i64 0, .int .i64 0]) _ rfl (fun _ => rfl) rfl rfl (by omega) (by omega) (by omega) rfl rfl rfl hG.out hB2 (Nat.le_refl _) rfl ?_
  intro w3 hG3 hB3
  clear hG hB2
  have hG := hG3
  have hB2 := hB3
  clear hG3 hB3
  simp only [Exit.inBlock, Exit.then, rounds_succ, val, Fv]
  go_wp2_with (fail)
  refine reg9x (by kernel_rfl) (g := w.heap.size) (n := 6) (m := 2) (c := 2) (xi := x) (zi := 0) (T := 3) (L := [.int .i64 x, .int .i64 x, .int .i64 0, .int .i64 0, .int .i64 0, .int .i64 0]) (L' := [.int .i64 x, .int .i64 x, .int .i64 x, .int .i64 x, .int .i64 0, .int .i64 0]) _ rfl (fun _ => rfl) rfl rfl (by omega) (by omega) (by omega) rfl rfl rfl hG.out hB2 (Nat.le_refl _) rfl ?_
  intro w3 hG3 hB3
  clear hG hB2
  have hG := hG3
  have hB2 := hB3
  clear hG3 hB3
  simp only [Exit.inBlock, Exit.then, rounds_succ, val, Fv]
  go_wp2_with (fail)
  refine reg9x (by kernel_rfl) (g := w.heap.size) (n := 6) (m := 4) (c := 2) (xi := x) (zi := 0) (T := 3) (L := [.int .i64 x, .int .i64 x, .int .i64 x, .int .i64 x, .int .i64 0, .int .i64 0]) (L' := [.int .i64 x, .int .i64 x, .int .i64 x, .int .i64 x, .int .i64 x, .int .i64 x]) _ rfl (fun _ => rfl) rfl rfl (by omega) (by omega) (by omega) rfl rfl rfl hG.out hB2 (Nat.le_refl _) rfl ?_
  intro w3 hG3 hB3
  clear hG hB2
  have hG := hG3
  have hB2 := hB3
  clear hG3 hB3
  simp only [Exit.inBlock, Exit.then, rounds_succ, val, Fv]
  go_wp2_with (fail)
  go_ret
  first
    | exact ⟨_, _, rfl, Nat.le_refl _, hG.out, hB2⟩
    | exact ⟨_, rfl, Nat.le_refl _, ⟨_, hG.out⟩, hB2⟩
set_option maxRecDepth 1000000 in
set_option maxHeartbeats 4000000 in
theorem rep7 (x : Int) (w : World) (b off cap : Nat) (hx : w.cell? ⟨b, off, none⟩ = some (.int .i64 x)) : Calls Try.prog 60 #[.slice (some ⟨b, off, none⟩) 1 cap, .int .i64 7] w fun e w' => ∃ g T, e = .returned (.slice (some ⟨g, 0, none⟩) 7 7) ∧ w.heap.size ≤ g ∧ w'.heap[g]? = some (.cells (List.replicate 7 (.int .i64 x)).toArray T (0, 0)) ∧ Below w.heap.size w w' := by
  have hm := mul153 7 (by omega) w
  obtain ⟨W1, hW1⟩ : ∃ W1, W1 = w.alloc (.cells (List.replicate 7 (.int .i64 0)).toArray 3) := ⟨_, rfl⟩
  have hk : (Instr.makeSlice 53 (.int .i64 7) (.int .i64 7)).run Try.prog w = .ok (.slice (some ⟨w.heap.size, 0, none⟩) 7 7) W1 := by
    rw [hW1]
    exact mk3 7 (by omega) w
  have hB0 : Hid (Below w.heap.size w W1) := hW1 ▸ (Below.refl _ w).alloc (Nat.le_refl _) _
  have hG0 : Hid (W1.heap[w.heap.size]? = some (.cells ([.int .i64 0, .int .i64 0, .int .i64 0, .int .i64 0, .int .i64 0, .int .i64 0, .int .i64 0] : List Value).toArray 3 (0, 0))) := by
    subst hW1
    show _ = _
    exact heap_alloc_new w _
  have hs0 : Hid (∀ j v, [Value.int .i64 x][j]? = some v → W1.cell? ((⟨b, off, none⟩ : Addr).add j) = some v) := src1 (hW1 ▸ cell_alloc hx _)
  clear hW1
  go_enter Try.func60, Try.ntmps60
  go_wp2_with (first
    | (go_at_call 79; go_fit hm; rintro e w' ⟨rfl, hw⟩; rw [hw])
    | (refine wpList_copy_splice (o := ⟨some 33, _, _, _, _, _⟩) rfl (.tmp 31) (.tmp 32) 53 53 rfl 3 Try.underlying53 sz3 (some ⟨w.heap.size, 0, none⟩) (some ⟨b, off, none⟩) 7 7 1 cap rfl rfl w.heap.size 0 [.int .i64 0, .int .i64 0, .int .i64 0, .int .i64 0, .int .i64 0, .int .i64 0, .int .i64 0] 3 hG0.out [.int .i64 x] rfl (fun _ => ⟨rfl, _, rfl, hs0.out⟩) (by simp) (by simp [Value.oneCell']) w.heap.size w hB0.out (Nat.le_refl _) ?_; intro w2 HG2 hB2))
  have hG : Hid (w2.heap[w.heap.size]? = some (.cells ([.int .i64 x, .int .i64 0, .int .i64 0, .int .i64 0, .int .i64 0, .int .i64 0, .int .i64 0] : List Value).toArray 3 (0, 0))) := HG2.out
  clear HG2 hk hs0 hG0 hB0 hm
  refine wp_loop_rounds 4 ?_
  rw [rounds_succ]
  go_wp2_with (fail)
  refine reg9x (by kernel_rfl) (g := w.heap.size) (n := 7) (m := 1) (c := 1) (xi := x) (zi := 0) (T := 3) (L := [.int .i64 x, .int .i64 0, .int .i64 0, .int .i64 0, .int .i64 0, .int .i64 0, .int .i64 0]) (L' := [.int .i64 x, .int .i64 x, .int .i64 0, .int .i64 0, .int .i64 0, .int .i64 0, .int .i64 0]) _ rfl (fun _ => rfl) rfl rfl (by omega) (by omega) (by omega) rfl rfl rfl hG.out hB2 (Nat.le_refl _) rfl ?_
  intro w3 hG3 hB3
  clear hG hB2
  have hG := hG3
  have hB2 := hB3
  clear hG3 hB3
  simp only [Exit.inBlock, Exit.then, rounds_succ, val, Fv]
  go_wp2_with (fail)
  refine reg9x (by kernel_rfl) (g := w.heap.size) (n := 7) (m := 2) (c := 2) (xi := x) (zi := 0) (T := 3) (L := [.int .i64 x, .int .i64 x, .int .i64 0, .int .i64 0, .int .i64 0, .int .i64 0, .int .i64 0]) (L' := [.int .i64 x, .int .i64 x, .int .i64 x, .int .i64 x, .int .i64 0, .int .i64 0, .int .i64 0]) _ rfl (fun _ => rfl) rfl rfl (by omega) (by omega) (by omega) rfl rfl rfl hG.out hB2 (Nat.le_refl _) rfl ?_
  intro w3 hG3 hB3
  clear hG hB2
  have hG := hG3
  have hB2 := hB3
  clear hG3 hB3
  simp only [Exit.inBlock, Exit.then, rounds_succ, val, Fv]
  go_wp2_with (fail)
  refine reg9x (by kernel_rfl) (g := w.heap.size) (n := 7) (m := 4) (c := 3) (xi := x) (zi := 0) (T := 3) (L := [.int .i64 x, .int .i64 x, .int .i64 x, .int .i64 x, .int .i64 0, .int .i64 0, .int .i64 0]) (L' := [.int .i64 x, .int .i64 x, .int .i64 x, .int .i64 x, .int .i64 x, .int .i64 x, .int .i64 x]) _ rfl (fun _ => rfl) rfl rfl (by omega) (by omega) (by omega) rfl rfl rfl hG.out hB2 (Nat.le_refl _) rfl ?_
  intro w3 hG3 hB3
  clear hG hB2
  have hG := hG3
  have hB2 := hB3
  clear hG3 hB3
  simp only [Exit.inBlock, Exit.then, rounds_succ, val, Fv]
  go_wp2_with (fail)
  go_ret
  first
    | exact ⟨_, _, rfl, Nat.le_refl _, hG.out, hB2⟩
    | exact ⟨_, rfl, Nat.le_refl _, ⟨_, hG.out⟩, hB2⟩
set_option maxRecDepth 1000000 in
set_option maxHeartbeats 4000000 in
theorem rep8 (x : Int) (w : World) (b off cap : Nat) (hx : w.cell? ⟨b, off, none⟩ = some (.int .i64 x)) : Calls Try.prog 60 #[.slice (some ⟨b, off, none⟩) 1 cap, .int .i64 8] w fun e w' => ∃ g T, e = .returned (.slice (some ⟨g, 0, none⟩) 8 8) ∧ w.heap.size ≤ g ∧ w'.heap[g]? = some (.cells (List.replicate 8 (.int .i64 x)).toArray T (0, 0)) ∧ Below w.heap.size w w' := by
  have hm := mul153 8 (by omega) w
  obtain ⟨W1, hW1⟩ : ∃ W1, W1 = w.alloc (.cells (List.replicate 8 (.int .i64 0)).toArray 3) := ⟨_, rfl⟩
  have hk : (Instr.makeSlice 53 (.int .i64 8) (.int .i64 8)).run Try.prog w = .ok (.slice (some ⟨w.heap.size, 0, none⟩) 8 8) W1 := by
    rw [hW1]
    exact mk3 8 (by omega) w
  have hB0 : Hid (Below w.heap.size w W1) := hW1 ▸ (Below.refl _ w).alloc (Nat.le_refl _) _
  have hG0 : Hid (W1.heap[w.heap.size]? = some (.cells ([.int .i64 0, .int .i64 0, .int .i64 0, .int .i64 0, .int .i64 0, .int .i64 0, .int .i64 0, .int .i64 0] : List Value).toArray 3 (0, 0))) := by
    subst hW1
    show _ = _
    exact heap_alloc_new w _
  have hs0 : Hid (∀ j v, [Value.int .i64 x][j]? = some v → W1.cell? ((⟨b, off, none⟩ : Addr).add j) = some v) := src1 (hW1 ▸ cell_alloc hx _)
  clear hW1
  go_enter Try.func60, Try.ntmps60
  go_wp2_with (first
    | (go_at_call 79; go_fit hm; rintro e w' ⟨rfl, hw⟩; rw [hw])
    | (refine wpList_copy_splice (o := ⟨some 33, _, _, _, _, _⟩) rfl (.tmp 31) (.tmp 32) 53 53 rfl 3 Try.underlying53 sz3 (some ⟨w.heap.size, 0, none⟩) (some ⟨b, off, none⟩) 8 8 1 cap rfl rfl w.heap.size 0 [.int .i64 0, .int .i64 0, .int .i64 0, .int .i64 0, .int .i64 0, .int .i64 0, .int .i64 0, .int .i64 0] 3 hG0.out [.int .i64 x] rfl (fun _ => ⟨rfl, _, rfl, hs0.out⟩) (by simp) (by simp [Value.oneCell']) w.heap.size w hB0.out (Nat.le_refl _) ?_; intro w2 HG2 hB2))
  have hG : Hid (w2.heap[w.heap.size]? = some (.cells ([.int .i64 x, .int .i64 0, .int .i64 0, .int .i64 0, .int .i64 0, .int .i64 0, .int .i64 0, .int .i64 0] : List Value).toArray 3 (0, 0))) := HG2.out
  clear HG2 hk hs0 hG0 hB0 hm
  refine wp_loop_rounds 4 ?_
  rw [rounds_succ]
  go_wp2_with (fail)
  refine reg9x (by kernel_rfl) (g := w.heap.size) (n := 8) (m := 1) (c := 1) (xi := x) (zi := 0) (T := 3) (L := [.int .i64 x, .int .i64 0, .int .i64 0, .int .i64 0, .int .i64 0, .int .i64 0, .int .i64 0, .int .i64 0]) (L' := [.int .i64 x, .int .i64 x, .int .i64 0, .int .i64 0, .int .i64 0, .int .i64 0, .int .i64 0, .int .i64 0]) _ rfl (fun _ => rfl) rfl rfl (by omega) (by omega) (by omega) rfl rfl rfl hG.out hB2 (Nat.le_refl _) rfl ?_
  intro w3 hG3 hB3
  clear hG hB2
  have hG := hG3
  have hB2 := hB3
  clear hG3 hB3
  simp only [Exit.inBlock, Exit.then, rounds_succ, val, Fv]
  go_wp2_with (fail)
  refine reg9x (by kernel_rfl) (g := w.heap.size) (n := 8) (m := 2) (c := 2) (xi := x) (zi := 0) (T := 3) (L := [.int .i64 x, .int .i64 x, .int .i64 0, .int .i64 0, .int .i64 0, .int .i64 0, .int .i64 0, .int .i64 0]) (L' := [.int .i64 x, .int .i64 x, .int .i64 x, .int .i64 x, .int .i64 0, .int .i64 0, .int .i64 0, .int .i64 0]) _ rfl (fun _ => rfl) rfl rfl (by omega) (by omega) (by omega) rfl rfl rfl hG.out hB2 (Nat.le_refl _) rfl ?_
  intro w3 hG3 hB3
  clear hG hB2
  have hG := hG3
  have hB2 := hB3
  clear hG3 hB3
  simp only [Exit.inBlock, Exit.then, rounds_succ, val, Fv]
  go_wp2_with (fail)
  refine reg9x (by kernel_rfl) (g := w.heap.size) (n := 8) (m := 4) (c := 4) (xi := x) (zi := 0) (T := 3) (L := [.int .i64 x, .int .i64 x, .int .i64 x, .int .i64 x, .int .i64 0, .int .i64 0, .int .i64 0, .int .i64 0]) (L' := [.int .i64 x, .int .i64 x, .int .i64 x, .int .i64 x, .int .i64 x, .int .i64 x, .int .i64 x, .int .i64 x]) _ rfl (fun _ => rfl) rfl rfl (by omega) (by omega) (by omega) rfl rfl rfl hG.out hB2 (Nat.le_refl _) rfl ?_
  intro w3 hG3 hB3
  clear hG hB2
  have hG := hG3
  have hB2 := hB3
  clear hG3 hB3
  simp only [Exit.inBlock, Exit.then, rounds_succ, val, Fv]
  go_wp2_with (fail)
  go_ret
  first
    | exact ⟨_, _, rfl, Nat.le_refl _, hG.out, hB2⟩
    | exact ⟨_, rfl, Nat.le_refl _, ⟨_, hG.out⟩, hB2⟩
end Go.V.W
set_option linter.unusedVariables false
set_option linter.unusedSimpArgs false
set_option maxRecDepth 100000
namespace Go.V.W
open Go.Proofs Go.RowKit Go.Shelf
theorem rep_calls (x : Int) (n : Nat) (h1 : 1 ≤ n) (h8 : n ≤ 8) (w : World) (b off cap : Nat) (hx : w.cell? ⟨b, off, none⟩ = some (.int .i64 x)) : Calls Try.prog 60 #[.slice (some ⟨b, off, none⟩) 1 cap, .int .i64 (n : Int)] w fun e w' => ∃ g T, e = .returned (.slice (some ⟨g, 0, none⟩) n n) ∧ w.heap.size ≤ g ∧ w'.heap[g]? = some (.cells (List.replicate n (.int .i64 x)).toArray T (0, 0)) ∧ Below w.heap.size w w' := by
  have : n = 1 ∨ n = 2 ∨ n = 3 ∨ n = 4 ∨ n = 5 ∨ n = 6 ∨ n = 7 ∨ n = 8 := by omega
  rcases this with rfl | rfl | rfl | rfl | rfl | rfl | rfl | rfl
  · exact rep1 x w b off cap hx
  · exact rep2 x w b off cap hx
  · exact rep3 x w b off cap hx
  · exact rep4 x w b off cap hx
  · exact rep5 x w b off cap hx
  · exact rep6 x w b off cap hx
  · exact rep7 x w b off cap hx
  · exact rep8 x w b off cap hx
theorem con_repeat {P : Program} {f : FuncId} (he : ∀ (args : Array Value) (w : World), (callFunc f args).run P w = .ok (.enter f args) w)
    (h : ∀ (x : Int) (n : Nat), 1 ≤ n → n ≤ 8 → ∀ (w : World) (b off cap : Nat), w.cell? ⟨b, off, none⟩ = some (.int .i64 x) → Calls P f #[.slice (some ⟨b, off, none⟩) 1 cap, .int .i64 (n : Int)] w fun e w' => ∃ g T, e = .returned (.slice (some ⟨g, 0, none⟩) n n) ∧ w.heap.size ≤ g ∧ w'.heap[g]? = some (.cells (List.replicate n (.int .i64 x)).toArray T (0, 0)) ∧ Below w.heap.size w w') :
    Contract P f ⟨[(.slice (.int .i64), false), (.int .i64, false)], [.slice (.int .i64)], true, G_repeat⟩ := by
  intro w ψ U vs d out hargs hU hψ hgl ho
  obtain ⟨l, n, u⟩ := d
  have ho : G_repeat (l, n, u) = some out := ho
  unfold G_repeat at ho
  split at ho
  · rename_i hc
    simp only [Bool.and_eq_true, decide_eq_true_eq] at hc
    obtain ⟨⟨hl, h1⟩, h8⟩ := hc
    have h1 : 1 ≤ n := h1
    have h8 : n ≤ 8 := h8
    have ho := Option.some.inj ho
    subst ho
    obtain ⟨c1, r1, rfl, k2, c2, r2, rfl, k4, k5⟩ := hargs
    have k5 : r2 = [] := k5
    subst k5
    have k4 : c2 = [.int .i64 n] := k4
    subst k4
    obtain ⟨x, rfl⟩ : ∃ x : Int, l = [x] := by
      match l, hl with
      | [x], _ => exact ⟨x, rfl⟩
    simp only [Rep] at k2
    rcases k2 with ⟨_, k2⟩ | ⟨b, off, cap, rfl, kc, kS, kb, ke⟩
    · cases k2
    · have kx := ke 0 (by simp)
      simp only [Rep, Nat.zero_mul, Nat.add_zero, List.get_eq_getElem, List.getElem_cons_zero, Kd.size] at kx
      have hcell : w.cell? ⟨b, off, none⟩ = some (.int .i64 x) := by
        unfold cellsAt at kx
        split at kx
        · rename_i cs T fr hb
          simp only [World.cell?, hb]
          have h0 : ((cs.toList.drop off).take 1)[0]? = some (.int .i64 x) := by rw [kx]; rfl
          rw [List.getElem?_take, List.getElem?_drop] at h0
          simpa using h0
        · cases kx
      have hn : @Eq Int n ((Int.toNat n : Nat) : Int) := by omega
      have hcalls := h x n.toNat (by omega) (by omega) w b off cap hcell
      rw [← hn] at hcalls
      unfold CallsTo
      show match (callFunc f #[.slice (some ⟨b, off, none⟩) 1 cap, .int .i64 n]).run P w with
        | .ok (.value v) w' => _
        | .ok (.enter f args) w' => _
        | .ok (.row row args) w' => _
        | _ => False
      rw [he]
      refine Calls.mono hcalls fun e w' hh => ?_
      obtain ⟨g, T, rfl, hg, hrow, bel⟩ := hh
      refine ⟨fun b => if b = g then some (.res [.l]) else none, ⟨bel.os, bel.tape, bel.output, bel.size, fun b hb _ => bel.block b hb, fun b z h => ?_, ⟨[.slice (some ⟨g, 0, none⟩) n.toNat n.toNat], rfl, ?_⟩, trivial⟩⟩
      · split at h
        · rename_i e
          subst e
          exact ⟨.inl hg, _, _, hrow⟩
        · cases h
      · refine ⟨?_, rfl⟩
        have hlen : (List.replicate n.toNat x).length = n.toNat := by simp
        refine .inr ⟨g, 0, n.toNat, ?_, ?_, ?_, ⟨_, _, _, hrow, ?_⟩, fun i hi => ?_⟩
        · show [Value.slice (some ⟨g, 0, none⟩) n.toNat n.toNat] = [Value.slice (some ⟨g, 0, none⟩) (List.replicate n.toNat x).length n.toNat]
          rw [hlen]
        · show (List.replicate n.toNat x).length ≤ n.toNat
          rw [hlen]
          exact Nat.le_refl _
        · show (if g = g then some (Lab.res [.l]) else none) = some (.res ([] ++ [.l]))
          simp
        · simp [Kd.size]
        · have hi : i < (List.replicate n.toNat x).length := hi
          show cellsAt w' g (0 + i * 1) 1 = [.int .i64 ((List.replicate n.toNat x).get ⟨i, hi⟩)]
          rw [hlen] at hi
          unfold cellsAt
          rw [hrow]
          simp only [List.get_eq_getElem, List.getElem_replicate, List.drop_replicate, List.take_replicate]
          rw [show min 1 (n.toNat - (0 + i * 1)) = 1 by omega]
          rfl
  · cases ho
theorem C_repeat : Contract Try.prog 60 ⟨[(.slice (.int .i64), false), (.int .i64, false)], [.slice (.int .i64)], true, G_repeat⟩ :=
  con_repeat (enters_of Try.func60 (by kernel_rfl) rfl) rep_calls
end Go.V.W
set_option maxRecDepth 100000
namespace Go.V.W
open Go.Proofs
theorem C_slices_Repeat_Sint_int : Contract Try.prog 60 S_slices_Repeat_Sint_int := C_repeat
end Go.V.W
set_option linter.unusedVariables false
set_option linter.unusedSimpArgs false
namespace Go.V.W
open Go.Proofs
theorem containsAny_any (c : List UInt8) : ∀ l : List UInt8, Lib.containsAny l c = l.any fun b => c.contains b := by
  intro l
  induction l with
  | nil => simp [Lib.containsAny, Lib.indexAny]
  | cons b l ih =>
    unfold Lib.containsAny at ih ⊢
    unfold Lib.indexAny
    rw [List.any_cons, ← ih]
    by_cases hb : c.contains b = true
    · have hb' : b ∈ c := by simpa using hb
      simp [hb']
    · simp only [Bool.not_eq_true] at hb
      rw [hb]
      simp only [Bool.false_eq_true, if_false, Bool.false_or]
      have := Lib.indexAny_ge c l
      by_cases he : Lib.indexAny l c = -1
      · simp [he]
      · have e1 : (Lib.indexAny l c == -1) = false := by simpa using he
        rw [e1]
        simp only [Bool.false_eq_true, if_false]
        have e2 : (0 ≤ Lib.indexAny l c) := by omega
        have e3 : (0 ≤ Lib.indexAny l c + 1) := by omega
        simp [e2, e3]
end Go.V.W
set_option linter.unusedVariables false
set_option linter.unusedSimpArgs false
namespace Go.V.W
open Go.Proofs
def specB (a b : ByteArray) : Bool := !seq_ a (⟨#[]⟩ : ByteArray) && ((a.data.toList.all (fun b => printed1 b && !(b.toNat == 35)) && decide ((a.size : Int) ≤ 160)) && (!(a.data.toList.any (fun b => ((b.toNat : Int) == 64))) && (b.data.toList.all (fun b => printed1 b && !(b.toNat == 35)) && decide ((b.size : Int) ≤ 200))))
def implB (a b : ByteArray) : Bool := ((decide ((a.size : Int) ≥ 1) && decide ((a.size : Int) ≤ 160)) && (printedB a && !Lib.containsAny a.data.toList [35, 64])) && (decide ((b.size : Int) ≤ 200) && (printedB b && !Lib.containsAny b.data.toList [35]))
theorem all_not (l : List UInt8) (p q : UInt8 → Bool) : l.all (fun b => p b && !q b) = (l.all p && !l.any q) := by
  induction l with
  | nil => rfl
  | cons b l ih =>
    simp only [List.all_cons, List.any_cons, ih]
    cases p b <;> cases q b <;> cases l.all p <;> cases l.any q <;> rfl
theorem any_or (l : List UInt8) (p q : UInt8 → Bool) : l.any (fun b => p b || q b) = (l.any p || l.any q) := by
  induction l with
  | nil => rfl
  | cons b l ih =>
    simp only [List.any_cons, ih]
    cases p b <;> cases q b <;> cases l.any p <;> cases l.any q <;> rfl
theorem has35 (l : List UInt8) : Lib.containsAny l [35] = l.any (fun b => b.toNat == 35) := by
  rw [containsAny_any]
  congr 1
  funext b
  simp only [List.contains_cons, List.contains_nil, Bool.or_false]
  rw [Bool.eq_iff_iff]
  simp only [beq_iff_eq]
  exact ⟨fun h => by rw [h]; rfl, fun h => UInt8.toNat_inj.1 h⟩
theorem has3564 (l : List UInt8) : Lib.containsAny l [35, 64] = (l.any (fun b => b.toNat == 35) || l.any (fun b => ((b.toNat : Int) == 64))) := by
  rw [containsAny_any, ← any_or]
  congr 1
  funext b
  simp only [List.contains_cons, List.contains_nil, Bool.or_false]
  rw [Bool.eq_iff_iff]
  simp only [Bool.or_eq_true, beq_iff_eq]
  constructor
  · rintro (h | h)
    · left; rw [h]; rfl
    · right; rw [h]; rfl
  · rintro (h | h)
    · left; exact UInt8.toNat_inj.1 h
    · right; exact UInt8.toNat_inj.1 (by have : b.toNat = 64 := by omega
                                         rw [this]; rfl)
theorem empty_size (a : ByteArray) : seq_ a (⟨#[]⟩ : ByteArray) = !decide ((a.size : Int) ≥ 1) := by
  unfold seq_
  have h1 : a.toList = a.data.toList := Lib.toList_data a
  have h2 : (⟨#[]⟩ : ByteArray).toList = [] := Lib.toList_data _
  have h3 : a.data.toList.length = a.size := by simp
  rw [h1, h2]
  cases hl : a.data.toList with
  | nil =>
    rw [hl] at h3
    simp only [List.length_nil] at h3
    simp [← h3]
  | cons x l =>
    rw [hl] at h3
    simp only [List.length_cons] at h3
    have : decide ((a.size : Int) ≥ 1) = true := by simp; omega
    rw [this]
    rfl
theorem same (a b : ByteArray) : specB a b = implB a b := by
  unfold specB implB
  rw [empty_size, all_not, all_not, has35, has3564]
  unfold printedB
  cases decide ((a.size : Int) ≥ 1) <;> cases a.data.toList.all printed1 <;> cases a.data.toList.any (fun b => b.toNat == 35) <;> cases a.data.toList.any (fun b => ((b.toNat : Int) == 64)) <;> cases decide ((a.size : Int) ≤ 160) <;> cases decide ((b.size : Int) ≤ 200) <;> cases b.data.toList.all printed1 <;> cases b.data.toList.any (fun b => b.toNat == 35) <;> rfl
end Go.V.W
set_option linter.unusedVariables false
set_option linter.unusedSimpArgs false
namespace Go.V.W
open Go.Proofs
theorem lim_max {n : Nat} (h : n ≤ lim) : n ≤ maxLen := by unfold lim at h; unfold maxLen; omega
theorem toIntA2_lim (d) (r) (h : G_toIntA2 d = some r) : ∃ N, F_laws_toIntA2 N d = some r := by
  obtain ⟨⟨a, b, _⟩, _⟩ := d
  have h := Option.some.inj h
  subst h
  exact ⟨3, rfl⟩
theorem set_copy {α : Type} (l m : List α) (i : Nat) (x : α) (hi : i < l.length) (hx : l[i] = x) (hm : m.length = l.length) (h : m.take i = l.take i) : (m.set i x).take (i + 1) = l.take (i + 1) := by
  apply List.ext_getElem?
  intro j
  simp only [List.getElem?_take]
  split
  · rename_i hj
    by_cases hji : j = i
    · subst hji
      rw [List.getElem?_set_self (by omega), List.getElem?_eq_getElem hi, hx]
    · rw [List.getElem?_set_ne (fun e => hji e.symm)]
      have := congrArg (fun z => z[j]?) h
      simp only [List.getElem?_take] at this
      rw [if_pos (by omega), if_pos (by omega)] at this
      exact this
  · rfl
theorem toIntS_l0 (N : Nat) (l : List Int) (hl : l.length ≤ lim) : ∀ k, l.length ≤ k → laws_toIntS_l0 N (k + 1) (l, List.replicate l.length (0 : Int), (0 : Int), ()) = some (.inl (l, ())) := by
  intro k hk
  have hmx := lim_max hl
  have key : ∀ n i (m : List Int), l.length ≤ i + n → i ≤ l.length → m.length = l.length → m.take i = l.take i → laws_toIntS_l0 N (n + 1) (l, m, (i : Int), ()) = some (.inl (l, ())) := by
    intro n
    induction n with
    | zero =>
      intro i m h1 h2 h3 h4
      have e : i = l.length := by omega
      subst e
      rw [List.take_of_length_le (by omega), List.take_of_length_le (by omega)] at h4
      subst h4
      simp [laws_toIntS_l0, laws_toIntS_l0_r]
    | succ n ih =>
      intro i m h1 h2 h3 h4
      by_cases hi : i < l.length
      · show laws_toIntS_l0_r N (laws_toIntS_l0 N (n + 1)) (l, m, (i : Int), ()) = _
        unfold laws_toIntS_l0_r
        have hlt : decide ((i : Int) < (List.length l : Int)) = true := by simp; omega
        simp only [hlt, if_true, idxIn_nat hi, idxIn_nat (show i < m.length by omega), Int.toNat_natCast, wrap_up hi hmx]
        refine ih (i + 1) _ (by omega) (by omega) (by simp [h3]) ?_
        exact set_copy l m i _ hi (by rw [at_get (e := I) hi]; rfl) h3 h4
      · have e : i = l.length := by omega
        subst e
        rw [List.take_of_length_le (by omega), List.take_of_length_le (by omega)] at h4
        subst h4
        simp [laws_toIntS_l0, laws_toIntS_l0_r]
  simpa using key k 0 (List.replicate l.length 0) (by omega) (by omega) (by simp) (by simp)
theorem toIntS_lim (d) (r) (h : G_toIntS d = some r) : ∃ N, F_laws_toIntS N d = some r := by
  obtain ⟨l, _⟩ := d
  unfold G_toIntS at h
  split at h
  · rename_i hl
    have hl : l.length ≤ lim := of_decide_eq_true hl
    have h := Option.some.inj h
    subst h
    refine ⟨l.length + 1, ?_⟩
    unfold F_laws_toIntS
    have hc : (decide (0 ≤ (List.length l : Int)) && decide ((List.length l : Int) ≤ (List.length l : Int)) && decide ((List.length l : Int) ≤ (lim : Int))) = true := by simp; omega
    have := toIntS_l0 (l.length + 1) l hl l.length (Nat.le_refl _)
    simp only [hc, if_true, Int.toNat_natCast]
    rw [this]
    rfl
  · cases h
theorem toIntA2S_l0 (N : Nat) (l : List E) (hl : l.length ≤ lim) : ∀ k, l.length ≤ k → laws_toIntA2S_l0 N (k + 1) (l, List.replicate l.length ((0 : Int), (0 : Int), ()), (0 : Int), ()) = some (.inl (l, ())) := by
  intro k hk
  have hmx := lim_max hl
  have key : ∀ n i (m : List E), l.length ≤ i + n → i ≤ l.length → m.length = l.length → m.take i = l.take i → laws_toIntA2S_l0 N (n + 1) (l, m, (i : Int), ()) = some (.inl (l, ())) := by
    intro n
    induction n with
    | zero =>
      intro i m h1 h2 h3 h4
      have e : i = l.length := by omega
      subst e
      rw [List.take_of_length_le (by omega), List.take_of_length_le (by omega)] at h4
      subst h4
      simp [laws_toIntA2S_l0, laws_toIntA2S_l0_r]
    | succ n ih =>
      intro i m h1 h2 h3 h4
      by_cases hi : i < l.length
      · show laws_toIntA2S_l0_r N (laws_toIntA2S_l0 N (n + 1)) (l, m, (i : Int), ()) = _
        unfold laws_toIntA2S_l0_r
        have hlt : decide ((i : Int) < (List.length l : Int)) = true := by simp; omega
        simp only [hlt, if_true, idxIn_nat hi, idxIn_nat (show i < m.length by omega), Int.toNat_natCast, wrap_up hi hmx, G_toIntA2, Option.bind_some]
        refine ih (i + 1) _ (by omega) (by omega) (by simp [h3]) ?_
        exact set_copy l m i _ hi (by rw [at_get (e := K_Piiq) hi]; rfl) h3 h4
      · have e : i = l.length := by omega
        subst e
        rw [List.take_of_length_le (by omega), List.take_of_length_le (by omega)] at h4
        subst h4
        simp [laws_toIntA2S_l0, laws_toIntA2S_l0_r]
  simpa using key k 0 (List.replicate l.length ((0 : Int), (0 : Int), ())) (by omega) (by omega) (by simp) (by simp)
theorem toIntA2S_lim (d) (r) (h : G_toIntA2S d = some r) : ∃ N, F_laws_toIntA2S N d = some r := by
  obtain ⟨l, _⟩ := d
  unfold G_toIntA2S at h
  split at h
  · rename_i hl
    have hl : l.length ≤ lim := of_decide_eq_true hl
    have h := Option.some.inj h
    subst h
    refine ⟨l.length + 1, ?_⟩
    unfold F_laws_toIntA2S
    have hc : (decide (0 ≤ (List.length l : Int)) && decide ((List.length l : Int) ≤ (List.length l : Int)) && decide ((List.length l : Int) ≤ (lim : Int))) = true := by simp; omega
    have := toIntA2S_l0 (l.length + 1) l hl l.length (Nat.le_refl _)
    simp only [hc, if_true, Int.toNat_natCast]
    rw [this]
    rfl
  · cases h
end Go.V.W
set_option linter.unusedVariables false
set_option linter.unusedSimpArgs false
namespace Go.V.W
open Go.Proofs
theorem eqIntA2_lim (d) (r) (h : G_eqIntA2 d = some r) : ∃ N, F_laws_eqIntA2 N d = some r := by
  obtain ⟨⟨a, b, _⟩, ⟨c, e, _⟩, _⟩ := d
  have h := Option.some.inj h
  subst h
  refine ⟨3, ?_⟩
  by_cases h1 : a = c
  · by_cases h2 : b = e
    · subst h1 h2
      simp [F_laws_eqIntA2, laws_eqIntA2_l0, laws_eqIntA2_l0_r, wrap_in]
    · subst h1
      simp [F_laws_eqIntA2, laws_eqIntA2_l0, laws_eqIntA2_l0_r, wrap_in, h2]
  · simp [F_laws_eqIntA2, laws_eqIntA2_l0, laws_eqIntA2_l0_r, wrap_in, h1]
theorem eqIntS_l0 (N : Nat) (l m : List Int) (hl : l.length ≤ lim) (hm : l.length = m.length) : ∀ n i, l.length ≤ i + n → i ≤ l.length → laws_eqIntS_l0 N (n + 1) (l, m, (i : Int), ()) = if l.drop i = m.drop i then some (.inr (.inl ())) else some (.inl (false, ())) := by
  have hmx := lim_max hl
  intro n
  induction n with
  | zero =>
    intro i h1 h2
    have e : i = l.length := by omega
    subst e
    rw [List.drop_of_length_le (by omega), List.drop_of_length_le (by omega)]
    simp [laws_eqIntS_l0, laws_eqIntS_l0_r]
  | succ n ih =>
    intro i h1 h2
    by_cases hi : i < l.length
    · have hi' : i < m.length := by omega
      show laws_eqIntS_l0_r N (laws_eqIntS_l0 N (n + 1)) (l, m, (i : Int), ()) = _
      unfold laws_eqIntS_l0_r
      have hlt : decide ((i : Int) < (List.length l : Int)) = true := by simp; omega
      simp only [hlt, if_true, idxIn_nat hi, idxIn_nat hi', Int.toNat_natCast, wrap_up hi hmx, at_get (e := I) hi, at_get (e := I) (l := m) hi', ih (i + 1) (by omega) (by omega)]
      rw [List.drop_eq_getElem_cons hi, List.drop_eq_getElem_cons hi']
      simp only [List.cons.injEq, List.get_eq_getElem]
      by_cases he : l[i] = m[i]
      · simp only [he, bne_self_eq_false, Bool.false_eq_true, if_false, true_and]
      · have he' : (l[i] != m[i]) = true := by simpa using he
        simp only [he', he, if_true, false_and, if_false]
    · have e : i = l.length := by omega
      subst e
      rw [List.drop_of_length_le (by omega), List.drop_of_length_le (by omega)]
      simp [laws_eqIntS_l0, laws_eqIntS_l0_r]
theorem eqIntS_lim (d) (r) (h : G_eqIntS d = some r) : ∃ N, F_laws_eqIntS N d = some r := by
  obtain ⟨l, m, _⟩ := d
  unfold G_eqIntS at h
  split at h
  · rename_i hl
    have hl : l.length ≤ lim := of_decide_eq_true hl
    have h := Option.some.inj h
    subst h
    refine ⟨l.length + 1, ?_⟩
    unfold F_laws_eqIntS
    by_cases hm : l.length = m.length
    · have := eqIntS_l0 (l.length + 1) l m hl hm l.length 0 (by omega) (by omega)
      simp only [Int.natCast_zero, List.drop_zero] at this
      have hne : ((List.length l : Int) != (List.length m : Int)) = false := by simp [hm]
      simp only [hne, Bool.false_eq_true, if_false, this]
      by_cases he : l = m
      · simp [he]
      · simp [he]
    · have hne : ((List.length l : Int) != (List.length m : Int)) = true := by simp; omega
      have he : ¬ l = m := fun e => hm (by rw [e])
      simp [hne, he]
  · cases h
end Go.V.W
