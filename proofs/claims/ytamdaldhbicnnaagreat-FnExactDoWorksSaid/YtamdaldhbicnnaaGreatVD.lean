/- What the law FnExactDoWorks leans on, part 4: an interpreter of the model as plain data, its soundness, the functions as it tells them, and their laws. -/
import Derived.Test.YtamdaldhbicnnaaGreatProg
import Derived.Test.YtamdaldhbicnnaaGreatVC
set_option linter.unusedVariables false
set_option linter.unusedSimpArgs false
set_option maxRecDepth 100000
set_option linter.unusedVariables false
set_option maxRecDepth 100000
namespace Go.V.W
open Go.Proofs
abbrev I : Kd := .int .i64
abbrev K_Piq : Kd := .pair I .unit
abbrev K_Piiq : Kd := .pair I K_Piq
abbrev K_SPiiq : Kd := .slice K_Piiq
abbrev K_PSPiiqq : Kd := .pair K_SPiiq .unit
abbrev K_PiSPiiqq : Kd := .pair I K_PSPiiqq
abbrev K_Si : Kd := .slice I
abbrev K_PSiiq : Kd := .pair K_Si K_Piq
abbrev K_PiSiiq : Kd := .pair I K_PSiiq
abbrev K_PiiSiiq : Kd := .pair I K_PiSiiq
abbrev K_PPiSPiiqqiiSiiq : Kd := .pair K_PiSPiiqq K_PiiSiiq
abbrev K_Piiiq : Kd := .pair I K_Piiq
abbrev K_SPiiiq : Kd := .slice K_Piiiq
abbrev K_SSi : Kd := .slice K_Si
abbrev K_PSiq : Kd := .pair K_Si .unit
abbrev K_BPSiq : Kd := .bx K_PSiq
abbrev K_BSi : Kd := .bx K_Si
abbrev K_PBSiq : Kd := .pair K_BSi .unit
abbrev K_PBPSiqBSiq : Kd := .pair K_BPSiq K_PBSiq
abbrev K_F_impl_net_induced_1_qPBPSiqBSiq : Kd := .clo 165 .unit K_PBPSiqBSiq
abbrev K_BPPiSPiiqqiiSiiq : Kd := .bx K_PPiSPiiqqiiSiiq
abbrev K_PPSiqq : Kd := .pair K_PSiq .unit
abbrev K_F_impl_net_has_PPSiqqq : Kd := .clo 151 K_PPSiqq .unit
abbrev K_Bi : Kd := .bx I
abbrev K_BSSi : Kd := .bx K_SSi
abbrev K_PBSSiq : Kd := .pair K_BSSi .unit
abbrev K_PBPSiqBSSiq : Kd := .pair K_BPSiq K_PBSSiq
abbrev K_PBiBPSiqBSSiq : Kd := .pair K_Bi K_PBPSiqBSSiq
abbrev K_F_impl_net_copCan_1_qPBiBPSiqBSSiq : Kd := .clo 140 .unit K_PBiBPSiqBSSiq
def tks : List (Nat × Kd) := [(3, I), (4, .bool), (22, K_SPiiq), (24, K_PiSPiiqq), (25, K_Si), (27, K_PPiSPiiqqiiSiiq), (29, K_Piiiq), (31, K_PiSPiiqq), (33, K_PPiSPiiqqiiSiiq), (37, K_Piiiq), (51, K_SPiiiq), (62, K_SSi), (67, K_Piiq), (68, K_SPiiiq), (94, K_PSiq)]
def ars : List (Nat × Nat) := [(67, 3)]
noncomputable def Γ_laws_szIntA2S : Ctx := { tk := assoc tks, ar := assoc ars, fs := assoc [] }
noncomputable def F_laws_szIntA2S (N : Nat) (d : (List (Int × Int × Unit)) × Int × Unit) : Option (Int × Unit) :=
 let a0 : List (Int × Int × Unit) := d.1
 let a1 : Int := d.2.1
 let x1 : Int := IntKind.wrap .i64 (a1 - (List.length a0 : Int))
 if (decide (x1 < (0 : Int))) = true then
  some ((-1 : Int), ())
 else
  some (x1, ())
theorem F_laws_szIntA2S_ok (N : Nat) (d) : fnR Γ_laws_szIntA2S (assoc []) true [(K_SPiiq, false), (I, false)] [I] Tryz.f74.results.toList (bodyOf Tryz.f74) d = F_laws_szIntA2S N d := by kernel_rfl
noncomputable def g_laws_szIntA2S (d : (List (Int × Int × Unit)) × Int × Unit) : Int × Unit :=
 let a0 : List (Int × Int × Unit) := d.1
 let a1 : Int := d.2.1
 let x1 : Int := IntKind.wrap .i64 (a1 - (List.length a0 : Int))
 if (decide (x1 < (0 : Int))) = true then
  ((-1 : Int), ())
 else
  (x1, ())
theorem F_laws_szIntA2S_tot (N : Nat) (d) : F_laws_szIntA2S N d = some (g_laws_szIntA2S d) := by
 unfold F_laws_szIntA2S g_laws_szIntA2S
 first
  | rfl
  | (dsimp only; (repeat' split) <;> rfl)
noncomputable def S_laws_szIntA2S : FSig := ⟨[(K_SPiiq, false), (I, false)], [I], true, (fun d => some (g_laws_szIntA2S d))⟩
noncomputable def Γ_laws_szGraph : Ctx := { tk := assoc tks, ar := assoc ars, fs := assoc [(74, S_laws_szIntA2S)] }
noncomputable def F_laws_szGraph (N : Nat) (d : (Int × (List (Int × Int × Unit)) × Unit) × Int × Unit) : Option (Int × Unit) :=
 let a0 : Int × (List (Int × Int × Unit)) × Unit := d.1
 let a1 : Int := d.2.1
 let r1 : Int × Unit := g_laws_szIntA2S ((a0.2.1, (a1, ())))
 if (decide (r1.1 < (0 : Int))) = true then
  some ((-1 : Int), ())
 else
  some (r1.1, ())
theorem F_laws_szGraph_ok (N : Nat) (d) : fnR Γ_laws_szGraph (assoc []) true [(K_PiSPiiqq, false), (I, false)] [I] Tryz.f42.results.toList (bodyOf Tryz.f42) d = F_laws_szGraph N d := by kernel_rfl
noncomputable def g_laws_szGraph (d : (Int × (List (Int × Int × Unit)) × Unit) × Int × Unit) : Int × Unit :=
 let a0 : Int × (List (Int × Int × Unit)) × Unit := d.1
 let a1 : Int := d.2.1
 let r1 : Int × Unit := g_laws_szIntA2S ((a0.2.1, (a1, ())))
 if (decide (r1.1 < (0 : Int))) = true then
  ((-1 : Int), ())
 else
  (r1.1, ())
theorem F_laws_szGraph_tot (N : Nat) (d) : F_laws_szGraph N d = some (g_laws_szGraph d) := by
 unfold F_laws_szGraph g_laws_szGraph
 first
  | rfl
  | (dsimp only; (repeat' split) <;> rfl)
noncomputable def S_laws_szGraph : FSig := ⟨[(K_PiSPiiqq, false), (I, false)], [I], true, (fun d => some (g_laws_szGraph d))⟩
noncomputable def Γ_laws_szIntS : Ctx := { tk := assoc tks, ar := assoc ars, fs := assoc [] }
noncomputable def F_laws_szIntS (N : Nat) (d : List Int × Int × Unit) : Option (Int × Unit) :=
 let a0 : List Int := d.1
 let a1 : Int := d.2.1
 let x1 : Int := IntKind.wrap .i64 (a1 - (List.length a0 : Int))
 if (decide (x1 < (0 : Int))) = true then
  some ((-1 : Int), ())
 else
  some (x1, ())
theorem F_laws_szIntS_ok (N : Nat) (d) : fnR Γ_laws_szIntS (assoc []) true [(K_Si, false), (I, false)] [I] Tryz.f43.results.toList (bodyOf Tryz.f43) d = F_laws_szIntS N d := by kernel_rfl
noncomputable def g_laws_szIntS (d : List Int × Int × Unit) : Int × Unit :=
 let a0 : List Int := d.1
 let a1 : Int := d.2.1
 let x1 : Int := IntKind.wrap .i64 (a1 - (List.length a0 : Int))
 if (decide (x1 < (0 : Int))) = true then
  ((-1 : Int), ())
 else
  (x1, ())
theorem F_laws_szIntS_tot (N : Nat) (d) : F_laws_szIntS N d = some (g_laws_szIntS d) := by
 unfold F_laws_szIntS g_laws_szIntS
 first
  | rfl
  | (dsimp only; (repeat' split) <;> rfl)
noncomputable def S_laws_szIntS : FSig := ⟨[(K_Si, false), (I, false)], [I], true, (fun d => some (g_laws_szIntS d))⟩
noncomputable def Γ_laws_szWorkshop : Ctx := { tk := assoc tks, ar := assoc ars, fs := assoc [(42, S_laws_szGraph), (43, S_laws_szIntS)] }
noncomputable def F_laws_szWorkshop (N : Nat) (d : ((Int × (List (Int × Int × Unit)) × Unit) × Int × Int × List Int × Int × Unit) × Int × Unit) : Option (Int × Unit) :=
 let a0 : (Int × (List (Int × Int × Unit)) × Unit) × Int × Int × List Int × Int × Unit := d.1
 let a1 : Int := d.2.1
 let r1 : Int × Unit := g_laws_szGraph ((a0.1, (a1, ())))
 if (decide (r1.1 < (0 : Int))) = true then
  some ((-1 : Int), ())
 else
  let r2 : Int × Unit := g_laws_szIntS ((a0.2.2.2.1, (r1.1, ())))
  if (decide (r2.1 < (0 : Int))) = true then
   some ((-1 : Int), ())
  else
   some (r2.1, ())
theorem F_laws_szWorkshop_ok (N : Nat) (d) : fnR Γ_laws_szWorkshop (assoc []) true [(K_PPiSPiiqqiiSiiq, false), (I, false)] [I] Tryz.f8.results.toList (bodyOf Tryz.f8) d = F_laws_szWorkshop N d := by kernel_rfl
noncomputable def g_laws_szWorkshop (d : ((Int × (List (Int × Int × Unit)) × Unit) × Int × Int × List Int × Int × Unit) × Int × Unit) : Int × Unit :=
 let a0 : (Int × (List (Int × Int × Unit)) × Unit) × Int × Int × List Int × Int × Unit := d.1
 let a1 : Int := d.2.1
 let r1 : Int × Unit := g_laws_szGraph ((a0.1, (a1, ())))
 if (decide (r1.1 < (0 : Int))) = true then
  ((-1 : Int), ())
 else
  let r2 : Int × Unit := g_laws_szIntS ((a0.2.2.2.1, (r1.1, ())))
  if (decide (r2.1 < (0 : Int))) = true then
   ((-1 : Int), ())
  else
   (r2.1, ())
theorem F_laws_szWorkshop_tot (N : Nat) (d) : F_laws_szWorkshop N d = some (g_laws_szWorkshop d) := by
 unfold F_laws_szWorkshop g_laws_szWorkshop
 first
  | rfl
  | (dsimp only; (repeat' split) <;> rfl)
noncomputable def S_laws_szWorkshop : FSig := ⟨[(K_PPiSPiiqqiiSiiq, false), (I, false)], [I], true, (fun d => some (g_laws_szWorkshop d))⟩
noncomputable def Γ_laws_szWorkS : Ctx := { tk := assoc tks, ar := assoc ars, fs := assoc [] }
noncomputable def F_laws_szWorkS (N : Nat) (d : (List (Int × Int × Int × Unit)) × Int × Unit) : Option (Int × Unit) :=
 let a0 : List (Int × Int × Int × Unit) := d.1
 let a1 : Int := d.2.1
 let x1 : Int := IntKind.wrap .i64 (a1 - (List.length a0 : Int))
 if (decide (x1 < (0 : Int))) = true then
  some ((-1 : Int), ())
 else
  some (x1, ())
theorem F_laws_szWorkS_ok (N : Nat) (d) : fnR Γ_laws_szWorkS (assoc []) true [(K_SPiiiq, false), (I, false)] [I] Tryz.f38.results.toList (bodyOf Tryz.f38) d = F_laws_szWorkS N d := by kernel_rfl
noncomputable def g_laws_szWorkS (d : (List (Int × Int × Int × Unit)) × Int × Unit) : Int × Unit :=
 let a0 : List (Int × Int × Int × Unit) := d.1
 let a1 : Int := d.2.1
 let x1 : Int := IntKind.wrap .i64 (a1 - (List.length a0 : Int))
 if (decide (x1 < (0 : Int))) = true then
  ((-1 : Int), ())
 else
  (x1, ())
theorem F_laws_szWorkS_tot (N : Nat) (d) : F_laws_szWorkS N d = some (g_laws_szWorkS d) := by
 unfold F_laws_szWorkS g_laws_szWorkS
 first
  | rfl
  | (dsimp only; (repeat' split) <;> rfl)
noncomputable def S_laws_szWorkS : FSig := ⟨[(K_SPiiiq, false), (I, false)], [I], true, (fun d => some (g_laws_szWorkS d))⟩
noncomputable def Γ_laws_toIntA2 : Ctx := { tk := assoc tks, ar := assoc ars, fs := assoc [] }
abbrev laws_toIntA2_l0_H := (Int × Int × Unit) × (Int × Int × Unit) × (Int × Int × Unit) × Int × Unit
abbrev laws_toIntA2_l0_O := ((Int × Int × Unit) × (Int × Int × Unit) × Unit) ⊕ Empty
def laws_toIntA2_l0_h : Form := [(1, .box K_Piiq 99), (2, .box K_Piiq 99), (3, .box K_Piiq 99), (4, .v I)]
def laws_toIntA2_l0_o : Outs := [(.normal, [(2, .box K_Piiq 99), (3, .box K_Piiq 99)])]
noncomputable def laws_toIntA2_l0_r (N : Nat) (back : laws_toIntA2_l0_H → Option laws_toIntA2_l0_O) (d : laws_toIntA2_l0_H) : Option laws_toIntA2_l0_O :=
 let s1 : Int × Int × Unit := d.1
 let s2 : Int × Int × Unit := d.2.1
 let s3 : Int × Int × Unit := d.2.2.1
 let s4 : Int := d.2.2.2.1
 if (decide (s4 < (2 : Int))) = true then
  if (s4 == (0 : Int)) = true then
   if (s4 == (0 : Int)) = true then
    let x10 : Int := IntKind.wrap .i64 (s4 + (1 : Int))
    back ((s1, (s2, ((s1.1, s3.2), (x10, ())))))
   else
    if (s4 == (1 : Int)) = true then
    let x9 : Int := IntKind.wrap .i64 (s4 + (1 : Int))
    back ((s1, (s2, ((s3.1, (s1.1, s3.2.2)), (x9, ())))))
    else none
  else
   if (s4 == (1 : Int)) = true then
   if (s4 == (0 : Int)) = true then
    let x8 : Int := IntKind.wrap .i64 (s4 + (1 : Int))
    back ((s1, (s2, ((s1.2.1, s3.2), (x8, ())))))
   else
    if (s4 == (1 : Int)) = true then
    let x7 : Int := IntKind.wrap .i64 (s4 + (1 : Int))
    back ((s1, (s2, ((s3.1, (s1.2.1, s3.2.2)), (x7, ())))))
    else none
   else none
 else
  some (.inl ((s2, (s3, ()))))
noncomputable def laws_toIntA2_l0 (N : Nat) : Nat → laws_toIntA2_l0_H → Option laws_toIntA2_l0_O
 | 0, _ => none
 | k + 1, d => laws_toIntA2_l0_r N (laws_toIntA2_l0 N k) d
theorem laws_toIntA2_l0_ok (N : Nat) (back) (d) : roundR Γ_laws_toIntA2 (assoc []) 0 laws_toIntA2_l0_h laws_toIntA2_l0_o (loopOf Tryz.f125 0) back d = laws_toIntA2_l0_r N back d := by kernel_rfl
noncomputable def F_laws_toIntA2 (N : Nat) (d : (Int × Int × Unit) × Unit) : Option ((Int × Int × Unit) × Unit) :=
 let a0 : Int × Int × Unit := d.1
 (laws_toIntA2_l0 N N ((a0, (((0 : Int), ((0 : Int), ())), (((0 : Int), ((0 : Int), ())), ((0 : Int), ())))))).bind fun o5 => match o5 with
 | .inl d6 =>
  some (d6.2.1, ())
theorem F_laws_toIntA2_ok (N : Nat) (d) : fnR Γ_laws_toIntA2 (assoc [(0, ⟨laws_toIntA2_l0_h, laws_toIntA2_l0_o, laws_toIntA2_l0 N N⟩)]) true [(K_Piiq, false)] [K_Piiq] Tryz.f125.results.toList (bodyOf Tryz.f125) d = F_laws_toIntA2 N d := by kernel_rfl
noncomputable def S_laws_toIntA2 : FSig := ⟨[(K_Piiq, false)], [K_Piiq], true, (G_toIntA2)⟩
noncomputable def Γ_laws_toIntA2S : Ctx := { tk := assoc tks, ar := assoc ars, fs := assoc [(125, S_laws_toIntA2)] }
abbrev laws_toIntA2S_l0_H := (List (Int × Int × Unit)) × (List (Int × Int × Unit)) × Int × Unit
abbrev laws_toIntA2S_l0_O := ((List (Int × Int × Unit)) × Unit) ⊕ Empty
def laws_toIntA2S_l0_h : Form := [(0, .v K_SPiiq), (3, .own K_SPiiq 99), (4, .v I)]
def laws_toIntA2S_l0_o : Outs := [(.normal, [(3, .own K_SPiiq 99)])]
noncomputable def laws_toIntA2S_l0_r (N : Nat) (back : laws_toIntA2S_l0_H → Option laws_toIntA2S_l0_O) (d : laws_toIntA2S_l0_H) : Option laws_toIntA2S_l0_O :=
 let s0 : List (Int × Int × Unit) := d.1
 let s3 : List (Int × Int × Unit) := d.2.1
 let s4 : Int := d.2.2.1
 if (decide (s4 < (List.length s0 : Int))) = true then
  if (idxIn s4 (List.length s0)) = true then
  (G_toIntA2 (at_ K_Piiq s0 s4.toNat, ())).bind fun r6 =>
  if (idxIn s4 (List.length s3)) = true then
  let x7 : Int := IntKind.wrap .i64 (s4 + (1 : Int))
  back ((s0, (List.set s3 s4.toNat r6.1, (x7, ()))))
  else none
  else none
 else
  some (.inl (s3, ()))
noncomputable def laws_toIntA2S_l0 (N : Nat) : Nat → laws_toIntA2S_l0_H → Option laws_toIntA2S_l0_O
 | 0, _ => none
 | k + 1, d => laws_toIntA2S_l0_r N (laws_toIntA2S_l0 N k) d
theorem laws_toIntA2S_l0_ok (N : Nat) (back) (d) : roundR Γ_laws_toIntA2S (assoc []) 0 laws_toIntA2S_l0_h laws_toIntA2S_l0_o (loopOf Tryz.f81 0) back d = laws_toIntA2S_l0_r N back d := by kernel_rfl
noncomputable def F_laws_toIntA2S (N : Nat) (d : (List (Int × Int × Unit)) × Unit) : Option ((List (Int × Int × Unit)) × Unit) :=
 let a0 : List (Int × Int × Unit) := d.1
 if ((decide (0 ≤ (List.length a0 : Int)) && decide ((List.length a0 : Int) ≤ (List.length a0 : Int)) && decide ((List.length a0 : Int) ≤ (lim : Int)))) = true then
 let x1 : List (Int × Int × Unit) := List.replicate (List.length a0 : Int).toNat (((0 : Int), ((0 : Int), ())))
 (laws_toIntA2S_l0 N N ((a0, (x1, ((0 : Int), ()))))).bind fun o4 => match o4 with
 | .inl d5 =>
  some (d5.1, ())
 else none
theorem F_laws_toIntA2S_ok (N : Nat) (d) : fnR Γ_laws_toIntA2S (assoc [(0, ⟨laws_toIntA2S_l0_h, laws_toIntA2S_l0_o, laws_toIntA2S_l0 N N⟩)]) true [(K_SPiiq, false)] [K_SPiiq] Tryz.f81.results.toList (bodyOf Tryz.f81) d = F_laws_toIntA2S N d := by kernel_rfl
noncomputable def S_laws_toIntA2S : FSig := ⟨[(K_SPiiq, false)], [K_SPiiq], true, (G_toIntA2S)⟩
noncomputable def Γ_laws_toGraph : Ctx := { tk := assoc tks, ar := assoc ars, fs := assoc [(81, S_laws_toIntA2S)] }
noncomputable def F_laws_toGraph (N : Nat) (d : (Int × (List (Int × Int × Unit)) × Unit) × Unit) : Option ((Int × (List (Int × Int × Unit)) × Unit) × Unit) :=
 let a0 : Int × (List (Int × Int × Unit)) × Unit := d.1
 (G_toIntA2S (a0.2.1, ())).bind fun r1 =>
 some (((a0.1, (r1.1, ())), ()))
theorem F_laws_toGraph_ok (N : Nat) (d) : fnR Γ_laws_toGraph (assoc []) true [(K_PiSPiiqq, false)] [K_PiSPiiqq] Tryz.f46.results.toList (bodyOf Tryz.f46) d = F_laws_toGraph N d := by kernel_rfl
noncomputable def S_laws_toGraph : FSig := ⟨[(K_PiSPiiqq, false)], [K_PiSPiiqq], true, (F_laws_toGraph 0)⟩
noncomputable def Γ_laws_toIntS : Ctx := { tk := assoc tks, ar := assoc ars, fs := assoc [] }
abbrev laws_toIntS_l0_H := List Int × List Int × Int × Unit
abbrev laws_toIntS_l0_O := (List Int × Unit) ⊕ Empty
def laws_toIntS_l0_h : Form := [(0, .v K_Si), (3, .own K_Si 99), (4, .v I)]
def laws_toIntS_l0_o : Outs := [(.normal, [(3, .own K_Si 99)])]
noncomputable def laws_toIntS_l0_r (N : Nat) (back : laws_toIntS_l0_H → Option laws_toIntS_l0_O) (d : laws_toIntS_l0_H) : Option laws_toIntS_l0_O :=
 let s0 : List Int := d.1
 let s3 : List Int := d.2.1
 let s4 : Int := d.2.2.1
 if (decide (s4 < (List.length s0 : Int))) = true then
  if (idxIn s4 (List.length s0)) = true then
  if (idxIn s4 (List.length s3)) = true then
  let x6 : List Int := List.set s3 s4.toNat (at_ I s0 s4.toNat)
  let x7 : Int := IntKind.wrap .i64 (s4 + (1 : Int))
  back ((s0, (x6, (x7, ()))))
  else none
  else none
 else
  some (.inl (s3, ()))
noncomputable def laws_toIntS_l0 (N : Nat) : Nat → laws_toIntS_l0_H → Option laws_toIntS_l0_O
 | 0, _ => none
 | k + 1, d => laws_toIntS_l0_r N (laws_toIntS_l0 N k) d
theorem laws_toIntS_l0_ok (N : Nat) (back) (d) : roundR Γ_laws_toIntS (assoc []) 0 laws_toIntS_l0_h laws_toIntS_l0_o (loopOf Tryz.f47 0) back d = laws_toIntS_l0_r N back d := by kernel_rfl
noncomputable def F_laws_toIntS (N : Nat) (d : List Int × Unit) : Option (List Int × Unit) :=
 let a0 : List Int := d.1
 if ((decide (0 ≤ (List.length a0 : Int)) && decide ((List.length a0 : Int) ≤ (List.length a0 : Int)) && decide ((List.length a0 : Int) ≤ (lim : Int)))) = true then
 let x1 : List Int := List.replicate (List.length a0 : Int).toNat (0 : Int)
 (laws_toIntS_l0 N N ((a0, (x1, ((0 : Int), ()))))).bind fun o4 => match o4 with
 | .inl d5 =>
  some (d5.1, ())
 else none
theorem F_laws_toIntS_ok (N : Nat) (d) : fnR Γ_laws_toIntS (assoc [(0, ⟨laws_toIntS_l0_h, laws_toIntS_l0_o, laws_toIntS_l0 N N⟩)]) true [(K_Si, false)] [K_Si] Tryz.f47.results.toList (bodyOf Tryz.f47) d = F_laws_toIntS N d := by kernel_rfl
noncomputable def S_laws_toIntS : FSig := ⟨[(K_Si, false)], [K_Si], true, (G_toIntS)⟩
noncomputable def Γ_laws_toWorkshop : Ctx := { tk := assoc tks, ar := assoc ars, fs := assoc [(46, S_laws_toGraph), (47, S_laws_toIntS)] }
noncomputable def F_laws_toWorkshop (N : Nat) (d : ((Int × (List (Int × Int × Unit)) × Unit) × Int × Int × List Int × Int × Unit) × Unit) : Option (((Int × (List (Int × Int × Unit)) × Unit) × Int × Int × List Int × Int × Unit) × Unit) :=
 let a0 : (Int × (List (Int × Int × Unit)) × Unit) × Int × Int × List Int × Int × Unit := d.1
 ((F_laws_toGraph 0) (a0.1, ())).bind fun r1 =>
 (G_toIntS (a0.2.2.2.1, ())).bind fun r2 =>
 some (((r1.1, (a0.2.1, (a0.2.2.1, (r2.1, (a0.2.2.2.2.1, ()))))), ()))
theorem F_laws_toWorkshop_ok (N : Nat) (d) : fnR Γ_laws_toWorkshop (assoc []) true [(K_PPiSPiiqqiiSiiq, false)] [K_PPiSPiiqqiiSiiq] Tryz.f10.results.toList (bodyOf Tryz.f10) d = F_laws_toWorkshop N d := by kernel_rfl
noncomputable def S_laws_toWorkshop : FSig := ⟨[(K_PPiSPiiqqiiSiiq, false)], [K_PPiSPiiqqiiSiiq], true, (F_laws_toWorkshop 0)⟩
noncomputable def Γ_laws_toWork : Ctx := { tk := assoc tks, ar := assoc ars, fs := assoc [] }
noncomputable def F_laws_toWork (N : Nat) (d : (Int × Int × Int × Unit) × Unit) : Option ((Int × Int × Int × Unit) × Unit) :=
 let a0 : Int × Int × Int × Unit := d.1
 some (((a0.1, (a0.2.1, (a0.2.2.1, ()))), ()))
theorem F_laws_toWork_ok (N : Nat) (d) : fnR Γ_laws_toWork (assoc []) true [(K_Piiiq, false)] [K_Piiiq] Tryz.f11.results.toList (bodyOf Tryz.f11) d = F_laws_toWork N d := by kernel_rfl
noncomputable def g_laws_toWork (d : (Int × Int × Int × Unit) × Unit) : (Int × Int × Int × Unit) × Unit :=
 let a0 : Int × Int × Int × Unit := d.1
 (((a0.1, (a0.2.1, (a0.2.2.1, ()))), ()))
theorem F_laws_toWork_tot (N : Nat) (d) : F_laws_toWork N d = some (g_laws_toWork d) := by
 unfold F_laws_toWork g_laws_toWork
 first
  | rfl
  | (dsimp only; (repeat' split) <;> rfl)
noncomputable def S_laws_toWork : FSig := ⟨[(K_Piiiq, false)], [K_Piiiq], true, (fun d => some (g_laws_toWork d))⟩
noncomputable def Γ_laws_toWorkS : Ctx := { tk := assoc tks, ar := assoc ars, fs := assoc [(11, S_laws_toWork)] }
abbrev laws_toWorkS_l0_H := (List (Int × Int × Int × Unit)) × (List (Int × Int × Int × Unit)) × Int × Unit
abbrev laws_toWorkS_l0_O := ((List (Int × Int × Int × Unit)) × Unit) ⊕ Empty
def laws_toWorkS_l0_h : Form := [(0, .v K_SPiiiq), (3, .own K_SPiiiq 99), (4, .v I)]
def laws_toWorkS_l0_o : Outs := [(.normal, [(3, .own K_SPiiiq 99)])]
noncomputable def laws_toWorkS_l0_r (N : Nat) (back : laws_toWorkS_l0_H → Option laws_toWorkS_l0_O) (d : laws_toWorkS_l0_H) : Option laws_toWorkS_l0_O :=
 let s0 : List (Int × Int × Int × Unit) := d.1
 let s3 : List (Int × Int × Int × Unit) := d.2.1
 let s4 : Int := d.2.2.1
 if (decide (s4 < (List.length s0 : Int))) = true then
  if (idxIn s4 (List.length s0)) = true then
  let r6 : (Int × Int × Int × Unit) × Unit := g_laws_toWork (at_ K_Piiiq s0 s4.toNat, ())
  if (idxIn s4 (List.length s3)) = true then
  let x7 : Int := IntKind.wrap .i64 (s4 + (1 : Int))
  back ((s0, (List.set s3 s4.toNat r6.1, (x7, ()))))
  else none
  else none
 else
  some (.inl (s3, ()))
noncomputable def laws_toWorkS_l0 (N : Nat) : Nat → laws_toWorkS_l0_H → Option laws_toWorkS_l0_O
 | 0, _ => none
 | k + 1, d => laws_toWorkS_l0_r N (laws_toWorkS_l0 N k) d
theorem laws_toWorkS_l0_ok (N : Nat) (back) (d) : roundR Γ_laws_toWorkS (assoc []) 0 laws_toWorkS_l0_h laws_toWorkS_l0_o (loopOf Tryz.f39 0) back d = laws_toWorkS_l0_r N back d := by kernel_rfl
noncomputable def F_laws_toWorkS (N : Nat) (d : (List (Int × Int × Int × Unit)) × Unit) : Option ((List (Int × Int × Int × Unit)) × Unit) :=
 let a0 : List (Int × Int × Int × Unit) := d.1
 if ((decide (0 ≤ (List.length a0 : Int)) && decide ((List.length a0 : Int) ≤ (List.length a0 : Int)) && decide ((List.length a0 : Int) ≤ (lim : Int)))) = true then
 let x1 : List (Int × Int × Int × Unit) := List.replicate (List.length a0 : Int).toNat (((0 : Int), ((0 : Int), ((0 : Int), ()))))
 (laws_toWorkS_l0 N N ((a0, (x1, ((0 : Int), ()))))).bind fun o4 => match o4 with
 | .inl d5 =>
  some (d5.1, ())
 else none
theorem F_laws_toWorkS_ok (N : Nat) (d) : fnR Γ_laws_toWorkS (assoc [(0, ⟨laws_toWorkS_l0_h, laws_toWorkS_l0_o, laws_toWorkS_l0 N N⟩)]) true [(K_SPiiiq, false)] [K_SPiiiq] Tryz.f39.results.toList (bodyOf Tryz.f39) d = F_laws_toWorkS N d := by kernel_rfl
noncomputable def S_laws_toWorkS : FSig := ⟨[(K_SPiiiq, false)], [K_SPiiiq], true, (G_toWorkS)⟩
noncomputable def Γ_spec_l1In : Ctx := { tk := assoc tks, ar := assoc ars, fs := assoc [] }
noncomputable def F_spec_l1In (N : Nat) (d : Int × Int × Int × Unit) : Option (Bool × Unit) :=
 let a0 : Int := d.1
 let a1 : Int := d.2.1
 let a2 : Int := d.2.2.1
 if (decide (a0 ≥ a1)) = true then
  some (decide (a0 ≤ a2), ())
 else
  some (false, ())
theorem F_spec_l1In_ok (N : Nat) (d) : fnR Γ_spec_l1In (assoc []) true [(I, false), (I, false), (I, false)] [.bool] Tryz.f78.results.toList (bodyOf Tryz.f78) d = F_spec_l1In N d := by kernel_rfl
noncomputable def g_spec_l1In (d : Int × Int × Int × Unit) : Bool × Unit :=
 let a0 : Int := d.1
 let a1 : Int := d.2.1
 let a2 : Int := d.2.2.1
 if (decide (a0 ≥ a1)) = true then
  (decide (a0 ≤ a2), ())
 else
  (false, ())
theorem F_spec_l1In_tot (N : Nat) (d) : F_spec_l1In N d = some (g_spec_l1In d) := by
 unfold F_spec_l1In g_spec_l1In
 first
  | rfl
  | (dsimp only; (repeat' split) <;> rfl)
noncomputable def S_spec_l1In : FSig := ⟨[(I, false), (I, false), (I, false)], [.bool], true, (fun d => some (g_spec_l1In d))⟩
noncomputable def Γ_spec_l2Before : Ctx := { tk := assoc tks, ar := assoc ars, fs := assoc [] }
noncomputable def F_spec_l2Before (N : Nat) (d : (Int × Int × Unit) × (Int × Int × Unit) × Unit) : Option (Bool × Unit) :=
 let a0 : Int × Int × Unit := d.1
 let a1 : Int × Int × Unit := d.2.1
 if (decide (a0.1 < a1.1)) = true then
  some (true, ())
 else
  if (a0.1 == a1.1) = true then
   some (decide (a0.2.1 < a1.2.1), ())
  else
   some (false, ())
theorem F_spec_l2Before_ok (N : Nat) (d) : fnR Γ_spec_l2Before (assoc []) true [(K_Piiq, false), (K_Piiq, false)] [.bool] Tryz.f111.results.toList (bodyOf Tryz.f111) d = F_spec_l2Before N d := by kernel_rfl
noncomputable def g_spec_l2Before (d : (Int × Int × Unit) × (Int × Int × Unit) × Unit) : Bool × Unit :=
 let a0 : Int × Int × Unit := d.1
 let a1 : Int × Int × Unit := d.2.1
 if (decide (a0.1 < a1.1)) = true then
  (true, ())
 else
  if (a0.1 == a1.1) = true then
   (decide (a0.2.1 < a1.2.1), ())
  else
   (false, ())
theorem F_spec_l2Before_tot (N : Nat) (d) : F_spec_l2Before N d = some (g_spec_l2Before d) := by
 unfold F_spec_l2Before g_spec_l2Before
 first
  | rfl
  | (dsimp only; (repeat' split) <;> rfl)
noncomputable def S_spec_l2Before : FSig := ⟨[(K_Piiq, false), (K_Piiq, false)], [.bool], true, (fun d => some (g_spec_l2Before d))⟩
noncomputable def Γ_spec_l2Good : Ctx := { tk := assoc tks, ar := assoc ars, fs := assoc [(78, S_spec_l1In), (111, S_spec_l2Before)] }
abbrev spec_l2Good_l0_H := (Int × (List (Int × Int × Unit)) × Unit) × Int × Unit
abbrev spec_l2Good_l0_O := (Bool × Unit) ⊕ ((Int × (List (Int × Int × Unit)) × Unit) × Unit) ⊕ Empty
def spec_l2Good_l0_h : Form := [(1, .box K_PiSPiiqq 0), (3, .v I)]
def spec_l2Good_l0_o : Outs := [(.ret, [(2, .v .bool)]), (.normal, [(1, .box K_PiSPiiqq 0)])]
noncomputable def spec_l2Good_l0_r (N : Nat) (back : spec_l2Good_l0_H → Option spec_l2Good_l0_O) (d : spec_l2Good_l0_H) : Option spec_l2Good_l0_O :=
 let s1 : Int × (List (Int × Int × Unit)) × Unit := d.1
 let s3 : Int := d.2.1
 if (decide (s3 < (List.length s1.2.1 : Int))) = true then
  if (idxIn s3 (List.length s1.2.1)) = true then
  let x13 : Int := IntKind.wrap .i64 (s1.1 - (1 : Int))
  let r14 : Bool × Unit := g_spec_l1In (((at_ K_Piiq s1.2.1 s3.toNat).1, ((0 : Int), (x13, ()))))
  if (!r14.1) = true then
   some (.inl (false, ()))
  else
   let x15 : Int := IntKind.wrap .i64 (s1.1 - (1 : Int))
   let r16 : Bool × Unit := g_spec_l1In (((at_ K_Piiq s1.2.1 s3.toNat).2.1, ((0 : Int), (x15, ()))))
   if (!r16.1) = true then
    some (.inl (false, ()))
   else
    if (decide ((at_ K_Piiq s1.2.1 s3.toNat).1 ≥ (at_ K_Piiq s1.2.1 s3.toNat).2.1)) = true then
     some (.inl (false, ()))
    else
     if (decide (s3 > (0 : Int))) = true then
      let x17 : Int := IntKind.wrap .i64 (s3 - (1 : Int))
      if (idxIn x17 (List.length s1.2.1)) = true then
      let r18 : Bool × Unit := g_spec_l2Before ((at_ K_Piiq s1.2.1 x17.toNat, (at_ K_Piiq s1.2.1 s3.toNat, ())))
      if (!r18.1) = true then
       some (.inl (false, ()))
      else
       let x19 : Int := IntKind.wrap .i64 (s3 + (1 : Int))
       back ((s1, (x19, ())))
      else none
     else
      let x20 : Int := IntKind.wrap .i64 (s3 + (1 : Int))
      back ((s1, (x20, ())))
  else none
 else
  some (.inr (.inl (s1, ())))
noncomputable def spec_l2Good_l0 (N : Nat) : Nat → spec_l2Good_l0_H → Option spec_l2Good_l0_O
 | 0, _ => none
 | k + 1, d => spec_l2Good_l0_r N (spec_l2Good_l0 N k) d
theorem spec_l2Good_l0_ok (N : Nat) (back) (d) : roundR Γ_spec_l2Good (assoc []) 0 spec_l2Good_l0_h spec_l2Good_l0_o (loopOf Tryz.f75 0) back d = spec_l2Good_l0_r N back d := by kernel_rfl
noncomputable def F_spec_l2Good (N : Nat) (d : (Int × (List (Int × Int × Unit)) × Unit) × Unit) : Option (Bool × Unit) :=
 let a0 : Int × (List (Int × Int × Unit)) × Unit := d.1
 (spec_l2Good_l0 N N ((a0, ((0 : Int), ())))).bind fun o9 => match o9 with
 | .inl d10 =>
  some (d10.1, ())
 | .inr (.inl d11) =>
  let r12 : Bool × Unit := g_spec_l1In ((d11.1.1, ((0 : Int), ((8 : Int), ()))))
  some (r12.1, ())
theorem F_spec_l2Good_ok (N : Nat) (d) : fnR Γ_spec_l2Good (assoc [(0, ⟨spec_l2Good_l0_h, spec_l2Good_l0_o, spec_l2Good_l0 N N⟩)]) true [(K_PiSPiiqq, false)] [.bool] Tryz.f75.results.toList (bodyOf Tryz.f75) d = F_spec_l2Good N d := by kernel_rfl
noncomputable def S_spec_l2Good : FSig := ⟨[(K_PiSPiiqq, false)], [.bool], true, (G_graph)⟩
noncomputable def Γ_spec_l12Spot : Ctx := { tk := assoc tks, ar := assoc ars, fs := assoc [(78, S_spec_l1In)] }
noncomputable def F_spec_l12Spot (N : Nat) (d : (Int × (List (Int × Int × Unit)) × Unit) × Int × Unit) : Option (Bool × Unit) :=
 let a0 : Int × (List (Int × Int × Unit)) × Unit := d.1
 let a1 : Int := d.2.1
 let x1 : Int := IntKind.wrap .i64 (a0.1 - (1 : Int))
 let r2 : Bool × Unit := g_spec_l1In ((a1, ((-1 : Int), (x1, ()))))
 some (r2.1, ())
theorem F_spec_l12Spot_ok (N : Nat) (d) : fnR Γ_spec_l12Spot (assoc []) true [(K_PiSPiiqq, false), (I, false)] [.bool] Tryz.f76.results.toList (bodyOf Tryz.f76) d = F_spec_l12Spot N d := by kernel_rfl
noncomputable def g_spec_l12Spot (d : (Int × (List (Int × Int × Unit)) × Unit) × Int × Unit) : Bool × Unit :=
 let a0 : Int × (List (Int × Int × Unit)) × Unit := d.1
 let a1 : Int := d.2.1
 let x1 : Int := IntKind.wrap .i64 (a0.1 - (1 : Int))
 let r2 : Bool × Unit := g_spec_l1In ((a1, ((-1 : Int), (x1, ()))))
 (r2.1, ())
theorem F_spec_l12Spot_tot (N : Nat) (d) : F_spec_l12Spot N d = some (g_spec_l12Spot d) := by
 unfold F_spec_l12Spot g_spec_l12Spot
 first
  | rfl
  | (dsimp only; (repeat' split) <;> rfl)
noncomputable def S_spec_l12Spot : FSig := ⟨[(K_PiSPiiqq, false), (I, false)], [.bool], true, (fun d => some (g_spec_l12Spot d))⟩
noncomputable def Γ_spec_l1Rising : Ctx := { tk := assoc tks, ar := assoc ars, fs := assoc [(78, S_spec_l1In)] }
abbrev spec_l1Rising_l0_H := List Int × Int × Int × Int × Unit
abbrev spec_l1Rising_l0_O := (Bool × Unit) ⊕ Unit ⊕ Empty
def spec_l1Rising_l0_h : Form := [(0, .v K_Si), (1, .v I), (2, .v I), (7, .v I)]
def spec_l1Rising_l0_o : Outs := [(.ret, [(6, .v .bool)]), (.normal, [])]
noncomputable def spec_l1Rising_l0_r (N : Nat) (back : spec_l1Rising_l0_H → Option spec_l1Rising_l0_O) (d : spec_l1Rising_l0_H) : Option spec_l1Rising_l0_O :=
 let s0 : List Int := d.1
 let s1 : Int := d.2.1
 let s2 : Int := d.2.2.1
 let s7 : Int := d.2.2.2.1
 if (decide (s7 < (List.length s0 : Int))) = true then
  if (idxIn s7 (List.length s0)) = true then
  let r8 : Bool × Unit := g_spec_l1In ((at_ I s0 s7.toNat, (s1, (s2, ()))))
  if (!r8.1) = true then
   some (.inl (false, ()))
  else
   if (decide (s7 > (0 : Int))) = true then
    let x9 : Int := IntKind.wrap .i64 (s7 - (1 : Int))
    if (idxIn x9 (List.length s0)) = true then
    if (idxIn s7 (List.length s0)) = true then
    if (decide (at_ I s0 x9.toNat ≥ at_ I s0 s7.toNat)) = true then
     some (.inl (false, ()))
    else
     let x10 : Int := IntKind.wrap .i64 (s7 + (1 : Int))
     back ((s0, (s1, (s2, (x10, ())))))
    else none
    else none
   else
    let x11 : Int := IntKind.wrap .i64 (s7 + (1 : Int))
    back ((s0, (s1, (s2, (x11, ())))))
  else none
 else
  some (.inr (.inl ()))
noncomputable def spec_l1Rising_l0 (N : Nat) : Nat → spec_l1Rising_l0_H → Option spec_l1Rising_l0_O
 | 0, _ => none
 | k + 1, d => spec_l1Rising_l0_r N (spec_l1Rising_l0 N k) d
theorem spec_l1Rising_l0_ok (N : Nat) (back) (d) : roundR Γ_spec_l1Rising (assoc []) 0 spec_l1Rising_l0_h spec_l1Rising_l0_o (loopOf Tryz.f112 0) back d = spec_l1Rising_l0_r N back d := by kernel_rfl
noncomputable def F_spec_l1Rising (N : Nat) (d : List Int × Int × Int × Unit) : Option (Bool × Unit) :=
 let a0 : List Int := d.1
 let a1 : Int := d.2.1
 let a2 : Int := d.2.2.1
 (spec_l1Rising_l0 N N ((a0, (a1, (a2, ((0 : Int), ())))))).bind fun o5 => match o5 with
 | .inl d6 =>
  some (d6.1, ())
 | .inr (.inl d7) =>
  some (true, ())
theorem F_spec_l1Rising_ok (N : Nat) (d) : fnR Γ_spec_l1Rising (assoc [(0, ⟨spec_l1Rising_l0_h, spec_l1Rising_l0_o, spec_l1Rising_l0 N N⟩)]) true [(K_Si, false), (I, false), (I, false)] [.bool] Tryz.f112.results.toList (bodyOf Tryz.f112) d = F_spec_l1Rising N d := by kernel_rfl
noncomputable def S_spec_l1Rising : FSig := ⟨[(K_Si, false), (I, false), (I, false)], [.bool], true, (G_l1Rising)⟩
noncomputable def Γ_spec_l2Set : Ctx := { tk := assoc tks, ar := assoc ars, fs := assoc [(112, S_spec_l1Rising)] }
noncomputable def F_spec_l2Set (N : Nat) (d : (Int × (List (Int × Int × Unit)) × Unit) × List Int × Unit) : Option (Bool × Unit) :=
 let a0 : Int × (List (Int × Int × Unit)) × Unit := d.1
 let a1 : List Int := d.2.1
 let x1 : Int := IntKind.wrap .i64 (a0.1 - (1 : Int))
 (G_l1Rising ((a1, ((0 : Int), (x1, ()))))).bind fun r2 =>
 some (r2.1, ())
theorem F_spec_l2Set_ok (N : Nat) (d) : fnR Γ_spec_l2Set (assoc []) true [(K_PiSPiiqq, false), (K_Si, false)] [.bool] Tryz.f77.results.toList (bodyOf Tryz.f77) d = F_spec_l2Set N d := by kernel_rfl
noncomputable def S_spec_l2Set : FSig := ⟨[(K_PiSPiiqq, false), (K_Si, false)], [.bool], true, (F_spec_l2Set 0)⟩
noncomputable def Γ_spec_l12Good : Ctx := { tk := assoc tks, ar := assoc ars, fs := assoc [(75, S_spec_l2Good), (76, S_spec_l12Spot), (77, S_spec_l2Set), (78, S_spec_l1In)] }
noncomputable def F_spec_l12Good (N : Nat) (d : ((Int × (List (Int × Int × Unit)) × Unit) × Int × Int × List Int × Int × Unit) × Unit) : Option (Bool × Unit) :=
 let a0 : (Int × (List (Int × Int × Unit)) × Unit) × Int × Int × List Int × Int × Unit := d.1
 (G_graph (a0.1, ())).bind fun r1 =>
 if (r1.1) = true then
  let r2 : Bool × Unit := g_spec_l12Spot ((a0.1, (a0.2.1, ())))
  if (r2.1) = true then
   let r3 : Bool × Unit := g_spec_l12Spot ((a0.1, (a0.2.2.1, ())))
   if (r3.1) = true then
    ((F_spec_l2Set 0) ((a0.1, (a0.2.2.2.1, ())))).bind fun r4 =>
    if (r4.1) = true then
     let r5 : Bool × Unit := g_spec_l1In ((a0.2.2.2.2.1, ((0 : Int), ((1000 : Int), ()))))
     some (r5.1, ())
    else
     some (false, ())
   else
    some (false, ())
  else
   some (false, ())
 else
  some (false, ())
theorem F_spec_l12Good_ok (N : Nat) (d) : fnR Γ_spec_l12Good (assoc []) true [(K_PPiSPiiqqiiSiiq, false)] [.bool] Tryz.f44.results.toList (bodyOf Tryz.f44) d = F_spec_l12Good N d := by kernel_rfl
noncomputable def S_spec_l12Good : FSig := ⟨[(K_PPiSPiiqqiiSiiq, false)], [.bool], true, (F_spec_l12Good 0)⟩
noncomputable def Γ_spec_l1Own : Ctx := { tk := assoc tks, ar := assoc ars, fs := assoc [] }
noncomputable def F_spec_l1Own (N : Nat) (d : List Int × Unit) : Option (List Int × Unit) :=
 let a0 : List Int := d.1
 if (decide (List.length ([] : List Int) + List.length a0 ≤ lim)) = true then
 some (([] : List Int) ++ a0, ())
 else none
theorem F_spec_l1Own_ok (N : Nat) (d) : fnR Γ_spec_l1Own (assoc []) true [(K_Si, false)] [K_Si] Tryz.f91.results.toList (bodyOf Tryz.f91) d = F_spec_l1Own N d := by kernel_rfl
noncomputable def S_spec_l1Own : FSig := ⟨[(K_Si, false)], [K_Si], true, (F_spec_l1Own 0)⟩
noncomputable def Γ_spec_l12Own : Ctx := { tk := assoc tks, ar := assoc ars, fs := assoc [(91, S_spec_l1Own)] }
noncomputable def F_spec_l12Own (N : Nat) (d : ((Int × (List (Int × Int × Unit)) × Unit) × Int × Int × List Int × Int × Unit) × Unit) : Option (((Int × (List (Int × Int × Unit)) × Unit) × Int × Int × List Int × Int × Unit) × Unit) :=
 let a0 : (Int × (List (Int × Int × Unit)) × Unit) × Int × Int × List Int × Int × Unit := d.1
 if (decide (List.length ([] : List (Int × Int × Unit)) + List.length a0.1.2.1 ≤ lim)) = true then
 let x1 : List (Int × Int × Unit) := ([] : List (Int × Int × Unit)) ++ a0.1.2.1
 ((F_spec_l1Own 0) (a0.2.2.2.1, ())).bind fun r2 =>
 some ((((a0.1.1, (x1, ())), (a0.2.1, (a0.2.2.1, (r2.1, (a0.2.2.2.2.1, ()))))), ()))
 else none
theorem F_spec_l12Own_ok (N : Nat) (d) : fnR Γ_spec_l12Own (assoc []) true [(K_PPiSPiiqqiiSiiq, false)] [K_PPiSPiiqqiiSiiq] Tryz.f55.results.toList (bodyOf Tryz.f55) d = F_spec_l12Own N d := by kernel_rfl
noncomputable def S_spec_l12Own : FSig := ⟨[(K_PPiSPiiqqiiSiiq, false)], [K_PPiSPiiqqiiSiiq], true, (F_spec_l12Own 0)⟩
noncomputable def Γ_spec_l2Node : Ctx := { tk := assoc tks, ar := assoc ars, fs := assoc [(78, S_spec_l1In)] }
noncomputable def F_spec_l2Node (N : Nat) (d : (Int × (List (Int × Int × Unit)) × Unit) × Int × Unit) : Option (Bool × Unit) :=
 let a0 : Int × (List (Int × Int × Unit)) × Unit := d.1
 let a1 : Int := d.2.1
 let x1 : Int := IntKind.wrap .i64 (a0.1 - (1 : Int))
 let r2 : Bool × Unit := g_spec_l1In ((a1, ((0 : Int), (x1, ()))))
 some (r2.1, ())
theorem F_spec_l2Node_ok (N : Nat) (d) : fnR Γ_spec_l2Node (assoc []) true [(K_PiSPiiqq, false), (I, false)] [.bool] Tryz.f113.results.toList (bodyOf Tryz.f113) d = F_spec_l2Node N d := by kernel_rfl
noncomputable def g_spec_l2Node (d : (Int × (List (Int × Int × Unit)) × Unit) × Int × Unit) : Bool × Unit :=
 let a0 : Int × (List (Int × Int × Unit)) × Unit := d.1
 let a1 : Int := d.2.1
 let x1 : Int := IntKind.wrap .i64 (a0.1 - (1 : Int))
 let r2 : Bool × Unit := g_spec_l1In ((a1, ((0 : Int), (x1, ()))))
 (r2.1, ())
theorem F_spec_l2Node_tot (N : Nat) (d) : F_spec_l2Node N d = some (g_spec_l2Node d) := by
 unfold F_spec_l2Node g_spec_l2Node
 first
  | rfl
  | (dsimp only; (repeat' split) <;> rfl)
noncomputable def S_spec_l2Node : FSig := ⟨[(K_PiSPiiqq, false), (I, false)], [.bool], true, (fun d => some (g_spec_l2Node d))⟩
noncomputable def Γ_spec_l3Two : Ctx := { tk := assoc tks, ar := assoc ars, fs := assoc [(75, S_spec_l2Good), (113, S_spec_l2Node)] }
noncomputable def F_spec_l3Two (N : Nat) (d : (Int × (List (Int × Int × Unit)) × Unit) × Int × Int × Unit) : Option (Bool × Unit) :=
 let a0 : Int × (List (Int × Int × Unit)) × Unit := d.1
 let a1 : Int := d.2.1
 let a2 : Int := d.2.2.1
 (G_graph (a0, ())).bind fun r1 =>
 if (r1.1) = true then
  let r2 : Bool × Unit := g_spec_l2Node ((a0, (a1, ())))
  if (r2.1) = true then
   let r3 : Bool × Unit := g_spec_l2Node ((a0, (a2, ())))
   some (r3.1, ())
  else
   some (false, ())
 else
  some (false, ())
theorem F_spec_l3Two_ok (N : Nat) (d) : fnR Γ_spec_l3Two (assoc []) true [(K_PiSPiiqq, false), (I, false), (I, false)] [.bool] Tryz.f114.results.toList (bodyOf Tryz.f114) d = F_spec_l3Two N d := by kernel_rfl
noncomputable def S_spec_l3Two : FSig := ⟨[(K_PiSPiiqq, false), (I, false), (I, false)], [.bool], true, (F_spec_l3Two 0)⟩
noncomputable def Γ_spec_l12Chase : Ctx := { tk := assoc tks, ar := assoc ars, fs := assoc [] }
noncomputable def F_spec_l12Chase (N : Nat) (d : ((Int × (List (Int × Int × Unit)) × Unit) × Int × Int × List Int × Int × Unit) × Unit) : Option (Bool × Unit) :=
 let a0 : (Int × (List (Int × Int × Unit)) × Unit) × Int × Int × List Int × Int × Unit := d.1
 if (decide (a0.2.1 ≥ (0 : Int))) = true then
  if (decide (a0.2.2.1 ≥ (0 : Int))) = true then
   some (a0.2.1 != a0.2.2.1, ())
  else
   some (false, ())
 else
  some (false, ())
theorem F_spec_l12Chase_ok (N : Nat) (d) : fnR Γ_spec_l12Chase (assoc []) true [(K_PPiSPiiqqiiSiiq, false)] [.bool] Tryz.f116.results.toList (bodyOf Tryz.f116) d = F_spec_l12Chase N d := by kernel_rfl
noncomputable def g_spec_l12Chase (d : ((Int × (List (Int × Int × Unit)) × Unit) × Int × Int × List Int × Int × Unit) × Unit) : Bool × Unit :=
 let a0 : (Int × (List (Int × Int × Unit)) × Unit) × Int × Int × List Int × Int × Unit := d.1
 if (decide (a0.2.1 ≥ (0 : Int))) = true then
  if (decide (a0.2.2.1 ≥ (0 : Int))) = true then
   (a0.2.1 != a0.2.2.1, ())
  else
   (false, ())
 else
  (false, ())
theorem F_spec_l12Chase_tot (N : Nat) (d) : F_spec_l12Chase N d = some (g_spec_l12Chase d) := by
 unfold F_spec_l12Chase g_spec_l12Chase
 first
  | rfl
  | (dsimp only; (repeat' split) <;> rfl)
noncomputable def S_spec_l12Chase : FSig := ⟨[(K_PPiSPiiqqiiSiiq, false)], [.bool], true, (fun d => some (g_spec_l12Chase d))⟩
noncomputable def Γ_spec_l2Near : Ctx := { tk := assoc tks, ar := assoc ars, fs := assoc [] }
abbrev spec_l2Near_l0_H := Int × Int × (Int × (List (Int × Int × Unit)) × Unit) × Int × Unit
abbrev spec_l2Near_l0_O := (Bool × Unit) ⊕ Unit ⊕ Empty
def spec_l2Near_l0_h : Form := [(1, .v I), (2, .v I), (3, .box K_PiSPiiqq 0), (7, .v I)]
def spec_l2Near_l0_o : Outs := [(.ret, [(6, .v .bool)]), (.normal, [])]
noncomputable def spec_l2Near_l0_r (N : Nat) (back : spec_l2Near_l0_H → Option spec_l2Near_l0_O) (d : spec_l2Near_l0_H) : Option spec_l2Near_l0_O :=
 let s1 : Int := d.1
 let s2 : Int := d.2.1
 let s3 : Int × (List (Int × Int × Unit)) × Unit := d.2.2.1
 let s7 : Int := d.2.2.2.1
 if (decide (s7 < (List.length s3.2.1 : Int))) = true then
  if (idxIn s7 (List.length s3.2.1)) = true then
  if ((at_ K_Piiq s3.2.1 s7.toNat).1 == s1) = true then
   if ((at_ K_Piiq s3.2.1 s7.toNat).2.1 == s2) = true then
    some (.inl (true, ()))
   else
    if ((at_ K_Piiq s3.2.1 s7.toNat).1 == s2) = true then
     if ((at_ K_Piiq s3.2.1 s7.toNat).2.1 == s1) = true then
      some (.inl (true, ()))
     else
      let x8 : Int := IntKind.wrap .i64 (s7 + (1 : Int))
      back ((s1, (s2, (s3, (x8, ())))))
    else
     let x9 : Int := IntKind.wrap .i64 (s7 + (1 : Int))
     back ((s1, (s2, (s3, (x9, ())))))
  else
   if ((at_ K_Piiq s3.2.1 s7.toNat).1 == s2) = true then
    if ((at_ K_Piiq s3.2.1 s7.toNat).2.1 == s1) = true then
     some (.inl (true, ()))
    else
     let x10 : Int := IntKind.wrap .i64 (s7 + (1 : Int))
     back ((s1, (s2, (s3, (x10, ())))))
   else
    let x11 : Int := IntKind.wrap .i64 (s7 + (1 : Int))
    back ((s1, (s2, (s3, (x11, ())))))
  else none
 else
  some (.inr (.inl ()))
noncomputable def spec_l2Near_l0 (N : Nat) : Nat → spec_l2Near_l0_H → Option spec_l2Near_l0_O
 | 0, _ => none
 | k + 1, d => spec_l2Near_l0_r N (spec_l2Near_l0 N k) d
theorem spec_l2Near_l0_ok (N : Nat) (back) (d) : roundR Γ_spec_l2Near (assoc []) 0 spec_l2Near_l0_h spec_l2Near_l0_o (loopOf Tryz.f156 0) back d = spec_l2Near_l0_r N back d := by kernel_rfl
noncomputable def F_spec_l2Near (N : Nat) (d : (Int × (List (Int × Int × Unit)) × Unit) × Int × Int × Unit) : Option (Bool × Unit) :=
 let a0 : Int × (List (Int × Int × Unit)) × Unit := d.1
 let a1 : Int := d.2.1
 let a2 : Int := d.2.2.1
 (spec_l2Near_l0 N N ((a1, (a2, (a0, ((0 : Int), ())))))).bind fun o5 => match o5 with
 | .inl d6 =>
  some (d6.1, ())
 | .inr (.inl d7) =>
  some (false, ())
theorem F_spec_l2Near_ok (N : Nat) (d) : fnR Γ_spec_l2Near (assoc [(0, ⟨spec_l2Near_l0_h, spec_l2Near_l0_o, spec_l2Near_l0 N N⟩)]) true [(K_PiSPiiqq, false), (I, false), (I, false)] [.bool] Tryz.f156.results.toList (bodyOf Tryz.f156) d = F_spec_l2Near N d := by kernel_rfl
noncomputable def S_spec_l2Near : FSig := ⟨[(K_PiSPiiqq, false), (I, false), (I, false)], [.bool], true, (G_l2Near)⟩
noncomputable def Γ_spec_l2Neighbors : Ctx := { tk := assoc tks, ar := assoc ars, fs := assoc [(156, S_spec_l2Near)] }
abbrev spec_l2Neighbors_l0_H := Int × (Int × (List (Int × Int × Unit)) × Unit) × List Int × Int × Unit
abbrev spec_l2Neighbors_l0_O := (List Int × Unit) ⊕ Empty
def spec_l2Neighbors_l0_h : Form := [(1, .v I), (2, .box K_PiSPiiqq 0), (5, .own K_Si 99), (6, .v I)]
def spec_l2Neighbors_l0_o : Outs := [(.normal, [(5, .own K_Si 99)])]
noncomputable def spec_l2Neighbors_l0_r (N : Nat) (back : spec_l2Neighbors_l0_H → Option spec_l2Neighbors_l0_O) (d : spec_l2Neighbors_l0_H) : Option spec_l2Neighbors_l0_O :=
 let s1 : Int := d.1
 let s2 : Int × (List (Int × Int × Unit)) × Unit := d.2.1
 let s5 : List Int := d.2.2.1
 let s6 : Int := d.2.2.2.1
 if (decide (s6 < s2.1)) = true then
  (G_l2Near ((s2, (s1, (s6, ()))))).bind fun r6 =>
  if (r6.1) = true then
   if (decide (List.length s5 + List.length ([s6]) ≤ lim)) = true then
   let x7 : Int := IntKind.wrap .i64 (s6 + (1 : Int))
   back ((s1, (s2, (s5 ++ ([s6]), (x7, ())))))
   else none
  else
   let x8 : Int := IntKind.wrap .i64 (s6 + (1 : Int))
   back ((s1, (s2, (s5, (x8, ())))))
 else
  some (.inl (s5, ()))
noncomputable def spec_l2Neighbors_l0 (N : Nat) : Nat → spec_l2Neighbors_l0_H → Option spec_l2Neighbors_l0_O
 | 0, _ => none
 | k + 1, d => spec_l2Neighbors_l0_r N (spec_l2Neighbors_l0 N k) d
theorem spec_l2Neighbors_l0_ok (N : Nat) (back) (d) : roundR Γ_spec_l2Neighbors (assoc []) 0 spec_l2Neighbors_l0_h spec_l2Neighbors_l0_o (loopOf Tryz.f152 0) back d = spec_l2Neighbors_l0_r N back d := by kernel_rfl
noncomputable def F_spec_l2Neighbors (N : Nat) (d : (Int × (List (Int × Int × Unit)) × Unit) × Int × Unit) : Option (List Int × Unit) :=
 let a0 : Int × (List (Int × Int × Unit)) × Unit := d.1
 let a1 : Int := d.2.1
 (spec_l2Neighbors_l0 N N ((a1, (a0, (([] : List Int), ((0 : Int), ())))))).bind fun o4 => match o4 with
 | .inl d5 =>
  some (d5.1, ())
theorem F_spec_l2Neighbors_ok (N : Nat) (d) : fnR Γ_spec_l2Neighbors (assoc [(0, ⟨spec_l2Neighbors_l0_h, spec_l2Neighbors_l0_o, spec_l2Neighbors_l0 N N⟩)]) true [(K_PiSPiiqq, false), (I, false)] [K_Si] Tryz.f152.results.toList (bodyOf Tryz.f152) d = F_spec_l2Neighbors N d := by kernel_rfl
noncomputable def S_spec_l2Neighbors : FSig := ⟨[(K_PiSPiiqq, false), (I, false)], [K_Si], true, (G_l2Neighbors)⟩
noncomputable def Γ_spec_l1Put : Ctx := { tk := assoc tks, ar := assoc ars, fs := assoc [] }
abbrev spec_l1Put_l0_H := List Int × Int × Int × Unit
abbrev spec_l1Put_l0_O := (List Int × Int × Int × Unit) ⊕ Empty
def spec_l1Put_l0_h : Form := [(0, .v K_Si), (1, .v I), (5, .v I)]
def spec_l1Put_l0_o : Outs := [(.normal, [(0, .v K_Si), (1, .v I), (5, .v I)])]
noncomputable def spec_l1Put_l0_r (N : Nat) (back : spec_l1Put_l0_H → Option spec_l1Put_l0_O) (d : spec_l1Put_l0_H) : Option spec_l1Put_l0_O :=
 let s0 : List Int := d.1
 let s1 : Int := d.2.1
 let s5 : Int := d.2.2.1
 if (decide (s5 < (List.length s0 : Int))) = true then
  if (idxIn s5 (List.length s0)) = true then
  if (decide (at_ I s0 s5.toNat < s1)) = true then
   let x11 : Int := IntKind.wrap .i64 (s5 + (1 : Int))
   back ((s0, (s1, (x11, ()))))
  else
   some (.inl ((s0, (s1, (s5, ())))))
  else none
 else
  some (.inl ((s0, (s1, (s5, ())))))
noncomputable def spec_l1Put_l0 (N : Nat) : Nat → spec_l1Put_l0_H → Option spec_l1Put_l0_O
 | 0, _ => none
 | k + 1, d => spec_l1Put_l0_r N (spec_l1Put_l0 N k) d
theorem spec_l1Put_l0_ok (N : Nat) (back) (d) : roundR Γ_spec_l1Put (assoc []) 0 spec_l1Put_l0_h spec_l1Put_l0_o (loopOf Tryz.f122 0) back d = spec_l1Put_l0_r N back d := by kernel_rfl
noncomputable def F_spec_l1Put (N : Nat) (d : List Int × Int × Unit) : Option (List Int × Unit) :=
 let a0 : List Int := d.1
 let a1 : Int := d.2.1
 (spec_l1Put_l0 N N ((a0, (a1, ((0 : Int), ()))))).bind fun o5 => match o5 with
 | .inl d6 =>
  if (decide (d6.2.2.1 < (List.length d6.1 : Int))) = true then
   if (idxIn d6.2.2.1 (List.length d6.1)) = true then
   if (at_ I d6.1 d6.2.2.1.toNat == d6.2.1) = true then
    some (d6.1, ())
   else
    if ((decide (0 ≤ (0 : Int)) && decide ((0 : Int) ≤ d6.2.2.1) && decide (d6.2.2.1 ≤ (List.length d6.1 : Int)))) = true then
    if (decide (List.length ([] : List Int) + List.length (sub_ d6.1 (0 : Int) d6.2.2.1) ≤ lim)) = true then
    let x7 : List Int := ([] : List Int) ++ (sub_ d6.1 (0 : Int) d6.2.2.1)
    if (decide (List.length x7 + List.length ([d6.2.1]) ≤ lim)) = true then
    if ((decide (0 ≤ d6.2.2.1) && decide (d6.2.2.1 ≤ (List.length d6.1 : Int)) && decide ((List.length d6.1 : Int) ≤ (List.length d6.1 : Int)))) = true then
    let x8 : List Int := sub_ d6.1 d6.2.2.1 (List.length d6.1 : Int)
    if (decide (List.length (x7 ++ ([d6.2.1])) + List.length x8 ≤ lim)) = true then
    some (((x7 ++ ([d6.2.1])) ++ x8, ()))
    else none
    else none
    else none
    else none
    else none
   else none
  else
   if ((decide (0 ≤ (0 : Int)) && decide ((0 : Int) ≤ d6.2.2.1) && decide (d6.2.2.1 ≤ (List.length d6.1 : Int)))) = true then
   if (decide (List.length ([] : List Int) + List.length (sub_ d6.1 (0 : Int) d6.2.2.1) ≤ lim)) = true then
   let x9 : List Int := ([] : List Int) ++ (sub_ d6.1 (0 : Int) d6.2.2.1)
   if (decide (List.length x9 + List.length ([d6.2.1]) ≤ lim)) = true then
   if ((decide (0 ≤ d6.2.2.1) && decide (d6.2.2.1 ≤ (List.length d6.1 : Int)) && decide ((List.length d6.1 : Int) ≤ (List.length d6.1 : Int)))) = true then
   let x10 : List Int := sub_ d6.1 d6.2.2.1 (List.length d6.1 : Int)
   if (decide (List.length (x9 ++ ([d6.2.1])) + List.length x10 ≤ lim)) = true then
   some (((x9 ++ ([d6.2.1])) ++ x10, ()))
   else none
   else none
   else none
   else none
   else none
theorem F_spec_l1Put_ok (N : Nat) (d) : fnR Γ_spec_l1Put (assoc [(0, ⟨spec_l1Put_l0_h, spec_l1Put_l0_o, spec_l1Put_l0 N N⟩)]) false [(K_Si, false), (I, false)] [K_Si] Tryz.f122.results.toList (bodyOf Tryz.f122) d = F_spec_l1Put N d := by kernel_rfl
noncomputable def S_spec_l1Put : FSig := ⟨[(K_Si, false), (I, false)], [K_Si], false, (G_l1Put)⟩
noncomputable def Γ_spec_l2Ball : Ctx := { tk := assoc tks, ar := assoc ars, fs := assoc [(122, S_spec_l1Put), (152, S_spec_l2Neighbors)] }
noncomputable def F_spec_l2Ball (N : Nat) (d : (Int × (List (Int × Int × Unit)) × Unit) × Int × Unit) : Option (List Int × Unit) :=
 let a0 : Int × (List (Int × Int × Unit)) × Unit := d.1
 let a1 : Int := d.2.1
 (G_l2Neighbors ((a0, (a1, ())))).bind fun r3 =>
 (G_l1Put ((r3.1, (a1, ())))).bind fun r4 =>
 some (r4.1, ())
theorem F_spec_l2Ball_ok (N : Nat) (d) : fnR Γ_spec_l2Ball (assoc []) false [(K_PiSPiiqq, false), (I, false)] [K_Si] Tryz.f133.results.toList (bodyOf Tryz.f133) d = F_spec_l2Ball N d := by kernel_rfl
noncomputable def S_spec_l2Ball : FSig := ⟨[(K_PiSPiiqq, false), (I, false)], [K_Si], false, (F_spec_l2Ball 0)⟩
noncomputable def Γ_spec_l1Has : Ctx := { tk := assoc tks, ar := assoc ars, fs := assoc [] }
abbrev spec_l1Has_l0_H := List Int × Int × Int × Unit
abbrev spec_l1Has_l0_O := (Bool × Unit) ⊕ Unit ⊕ Empty
def spec_l1Has_l0_h : Form := [(0, .v K_Si), (1, .v I), (5, .v I)]
def spec_l1Has_l0_o : Outs := [(.ret, [(4, .v .bool)]), (.normal, [])]
noncomputable def spec_l1Has_l0_r (N : Nat) (back : spec_l1Has_l0_H → Option spec_l1Has_l0_O) (d : spec_l1Has_l0_H) : Option spec_l1Has_l0_O :=
 let s0 : List Int := d.1
 let s1 : Int := d.2.1
 let s5 : Int := d.2.2.1
 if (decide (s5 < (List.length s0 : Int))) = true then
  if (idxIn s5 (List.length s0)) = true then
  if (at_ I s0 s5.toNat == s1) = true then
   some (.inl (true, ()))
  else
   let x5 : Int := IntKind.wrap .i64 (s5 + (1 : Int))
   back ((s0, (s1, (x5, ()))))
  else none
 else
  some (.inr (.inl ()))
noncomputable def spec_l1Has_l0 (N : Nat) : Nat → spec_l1Has_l0_H → Option spec_l1Has_l0_O
 | 0, _ => none
 | k + 1, d => spec_l1Has_l0_r N (spec_l1Has_l0 N k) d
theorem spec_l1Has_l0_ok (N : Nat) (back) (d) : roundR Γ_spec_l1Has (assoc []) 0 spec_l1Has_l0_h spec_l1Has_l0_o (loopOf Tryz.f120 0) back d = spec_l1Has_l0_r N back d := by kernel_rfl
noncomputable def F_spec_l1Has (N : Nat) (d : List Int × Int × Unit) : Option (Bool × Unit) :=
 let a0 : List Int := d.1
 let a1 : Int := d.2.1
 (spec_l1Has_l0 N N ((a0, (a1, ((0 : Int), ()))))).bind fun o2 => match o2 with
 | .inl d3 =>
  some (d3.1, ())
 | .inr (.inl d4) =>
  some (false, ())
theorem F_spec_l1Has_ok (N : Nat) (d) : fnR Γ_spec_l1Has (assoc [(0, ⟨spec_l1Has_l0_h, spec_l1Has_l0_o, spec_l1Has_l0 N N⟩)]) true [(K_Si, false), (I, false)] [.bool] Tryz.f120.results.toList (bodyOf Tryz.f120) d = F_spec_l1Has N d := by kernel_rfl
noncomputable def S_spec_l1Has : FSig := ⟨[(K_Si, false), (I, false)], [.bool], true, (G_l1Has)⟩
noncomputable def Γ_spec_l12Moves : Ctx := { tk := assoc tks, ar := assoc ars, fs := assoc [(116, S_spec_l12Chase), (120, S_spec_l1Has), (133, S_spec_l2Ball)] }
noncomputable def F_spec_l12Moves (N : Nat) (d : ((Int × (List (Int × Int × Unit)) × Unit) × Int × Int × List Int × Int × Unit) × Int × Int × Unit) : Option (Bool × Unit) :=
 let a0 : (Int × (List (Int × Int × Unit)) × Unit) × Int × Int × List Int × Int × Unit := d.1
 let a1 : Int := d.2.1
 let a2 : Int := d.2.2.1
 let r1 : Bool × Unit := g_spec_l12Chase (a0, ())
 if (r1.1) = true then
  ((F_spec_l2Ball 0) ((a0.1, (a0.2.1, ())))).bind fun r2 =>
  (G_l1Has ((r2.1, (a1, ())))).bind fun r3 =>
  if (r3.1) = true then
   ((F_spec_l2Ball 0) ((a0.1, (a0.2.2.1, ())))).bind fun r4 =>
   (G_l1Has ((r4.1, (a2, ())))).bind fun r5 =>
   if (r5.1) = true then
    if (a1 != a0.2.2.1) = true then
     some (true, ())
    else
     some (a2 == a1, ())
   else
    some (false, ())
  else
   some (false, ())
 else
  some (false, ())
theorem F_spec_l12Moves_ok (N : Nat) (d) : fnR Γ_spec_l12Moves (assoc []) true [(K_PPiSPiiqqiiSiiq, false), (I, false), (I, false)] [.bool] Tryz.f115.results.toList (bodyOf Tryz.f115) d = F_spec_l12Moves N d := by kernel_rfl
noncomputable def S_spec_l12Moves : FSig := ⟨[(K_PPiSPiiqqiiSiiq, false), (I, false), (I, false)], [.bool], true, (F_spec_l12Moves 0)⟩
noncomputable def Γ_spec_l12May : Ctx := { tk := assoc tks, ar := assoc ars, fs := assoc [(76, S_spec_l12Spot), (113, S_spec_l2Node), (114, S_spec_l3Two), (115, S_spec_l12Moves), (116, S_spec_l12Chase)] }
noncomputable def F_spec_l12May (N : Nat) (d : ((Int × (List (Int × Int × Unit)) × Unit) × Int × Int × List Int × Int × Unit) × (Int × Int × Int × Unit) × Unit) : Option (Bool × Unit) :=
 let a0 : (Int × (List (Int × Int × Unit)) × Unit) × Int × Int × List Int × Int × Unit := d.1
 let a1 : Int × Int × Int × Unit := d.2.1
 if (a1.1 == (2 : Int)) = true then
  if (a1.2.2.1 == (0 : Int)) = true then
   let r1 : Bool × Unit := g_spec_l2Node ((a0.1, (a1.2.1, ())))
   if (r1.1) = true then
    if (a0.2.1 != a1.2.1) = true then
     some (a0.2.2.1 != a1.2.1, ())
    else
     some (false, ())
   else
    some (false, ())
  else
   some (false, ())
 else
  if (a1.1 == (3 : Int)) = true then
   ((F_spec_l3Two 0) ((a0.1, (a1.2.1, (a1.2.2.1, ()))))).bind fun r2 =>
   if (r2.1) = true then
    some (a1.2.1 != a1.2.2.1, ())
   else
    some (false, ())
  else
   if (a1.1 == (4 : Int)) = true then
    if (a1.2.2.1 == (0 : Int)) = true then
     let r3 : Bool × Unit := g_spec_l12Spot ((a0.1, (a1.2.1, ())))
     some (r3.1, ())
    else
     some (false, ())
   else
    if (a1.1 == (5 : Int)) = true then
     if (a1.2.2.1 == (0 : Int)) = true then
      let r4 : Bool × Unit := g_spec_l12Spot ((a0.1, (a1.2.1, ())))
      some (r4.1, ())
     else
      some (false, ())
    else
     if (a1.1 == (6 : Int)) = true then
      ((F_spec_l12Moves 0) ((a0, (a1.2.1, (a1.2.2.1, ()))))).bind fun r5 =>
      some (r5.1, ())
     else
      if (a1.1 == (7 : Int)) = true then
       if (a1.2.1 == (0 : Int)) = true then
        if (a1.2.2.1 == (0 : Int)) = true then
         let r6 : Bool × Unit := g_spec_l12Chase (a0, ())
         some (r6.1, ())
        else
         some (false, ())
       else
        some (false, ())
      else
       if (a1.1 == (8 : Int)) = true then
        if (a1.2.2.1 == (0 : Int)) = true then
         let r7 : Bool × Unit := g_spec_l2Node ((a0.1, (a1.2.1, ())))
         some (r7.1, ())
        else
         some (false, ())
       else
        if (a1.2.1 == (0 : Int)) = true then
         if (a1.2.2.1 == (0 : Int)) = true then
          if (a1.1 == (1 : Int)) = true then
           some (true, ())
          else
           if (a1.1 == (9 : Int)) = true then
            some (true, ())
           else
            some (a1.1 == (10 : Int), ())
         else
          some (false, ())
        else
         some (false, ())
theorem F_spec_l12May_ok (N : Nat) (d) : fnR Γ_spec_l12May (assoc []) true [(K_PPiSPiiqqiiSiiq, false), (K_Piiiq, false)] [.bool] Tryz.f79.results.toList (bodyOf Tryz.f79) d = F_spec_l12May N d := by kernel_rfl
noncomputable def S_spec_l12May : FSig := ⟨[(K_PPiSPiiqqiiSiiq, false), (K_Piiiq, false)], [.bool], true, (F_spec_l12May 0)⟩
noncomputable def Γ_spec_l2Bits : Ctx := { tk := assoc tks, ar := assoc ars, fs := assoc [] }
abbrev spec_l2Bits_l0_H := Int × Int × List Int × Int × Unit
abbrev spec_l2Bits_l0_O := (List Int × Unit) ⊕ Empty
def spec_l2Bits_l0_h : Form := [(0, .v I), (1, .v I), (5, .own K_Si 99), (6, .v I)]
def spec_l2Bits_l0_o : Outs := [(.normal, [(5, .own K_Si 99)])]
noncomputable def spec_l2Bits_l0_r (N : Nat) (back : spec_l2Bits_l0_H → Option spec_l2Bits_l0_O) (d : spec_l2Bits_l0_H) : Option spec_l2Bits_l0_O :=
 let s0 : Int := d.1
 let s1 : Int := d.2.1
 let s5 : List Int := d.2.2.1
 let s6 : Int := d.2.2.2.1
 if (decide (s6 < s0)) = true then
  if (decide (0 ≤ s6)) = true then
  let x6 : Int := bits .and .i64 (shr .i64 s1 s6) (1 : Int)
  if (x6 == (1 : Int)) = true then
   if (decide (List.length s5 + List.length ([s6]) ≤ lim)) = true then
   let x7 : Int := IntKind.wrap .i64 (s6 + (1 : Int))
   back ((s0, (s1, (s5 ++ ([s6]), (x7, ())))))
   else none
  else
   let x8 : Int := IntKind.wrap .i64 (s6 + (1 : Int))
   back ((s0, (s1, (s5, (x8, ())))))
  else none
 else
  some (.inl (s5, ()))
noncomputable def spec_l2Bits_l0 (N : Nat) : Nat → spec_l2Bits_l0_H → Option spec_l2Bits_l0_O
 | 0, _ => none
 | k + 1, d => spec_l2Bits_l0_r N (spec_l2Bits_l0 N k) d
theorem spec_l2Bits_l0_ok (N : Nat) (back) (d) : roundR Γ_spec_l2Bits (assoc []) 0 spec_l2Bits_l0_h spec_l2Bits_l0_o (loopOf Tryz.f97 0) back d = spec_l2Bits_l0_r N back d := by kernel_rfl
noncomputable def F_spec_l2Bits (N : Nat) (d : Int × Int × Unit) : Option (List Int × Unit) :=
 let a0 : Int := d.1
 let a1 : Int := d.2.1
 (spec_l2Bits_l0 N N ((a0, (a1, (([] : List Int), ((0 : Int), ())))))).bind fun o4 => match o4 with
 | .inl d5 =>
  some (d5.1, ())
theorem F_spec_l2Bits_ok (N : Nat) (d) : fnR Γ_spec_l2Bits (assoc [(0, ⟨spec_l2Bits_l0_h, spec_l2Bits_l0_o, spec_l2Bits_l0 N N⟩)]) true [(I, false), (I, false)] [K_Si] Tryz.f97.results.toList (bodyOf Tryz.f97) d = F_spec_l2Bits N d := by kernel_rfl
noncomputable def S_spec_l2Bits : FSig := ⟨[(I, false), (I, false)], [K_Si], true, (G_l2Bits)⟩
noncomputable def Γ_spec_l2All : Ctx := { tk := assoc tks, ar := assoc ars, fs := assoc [(97, S_spec_l2Bits)] }
noncomputable def F_spec_l2All (N : Nat) (d : (Int × (List (Int × Int × Unit)) × Unit) × Unit) : Option (List Int × Unit) :=
 let a0 : Int × (List (Int × Int × Unit)) × Unit := d.1
 if (decide (0 ≤ a0.1)) = true then
 let x1 : Int := IntKind.wrap .i64 (shl .i64 (1 : Int) a0.1 - (1 : Int))
 (G_l2Bits ((a0.1, (x1, ())))).bind fun r2 =>
 some (r2.1, ())
 else none
theorem F_spec_l2All_ok (N : Nat) (d) : fnR Γ_spec_l2All (assoc []) true [(K_PiSPiiqq, false)] [K_Si] Tryz.f144.results.toList (bodyOf Tryz.f144) d = F_spec_l2All N d := by kernel_rfl
noncomputable def S_spec_l2All : FSig := ⟨[(K_PiSPiiqq, false)], [K_Si], true, (F_spec_l2All 0)⟩
noncomputable def Γ_spec_l2Without : Ctx := { tk := assoc tks, ar := assoc ars, fs := assoc [] }
abbrev spec_l2Without_l0_H := List Int × Int × List Int × Int × Unit
abbrev spec_l2Without_l0_O := (List Int × Unit) ⊕ Empty
def spec_l2Without_l0_h : Form := [(0, .v K_Si), (1, .v I), (5, .own K_Si 99), (6, .v I)]
def spec_l2Without_l0_o : Outs := [(.normal, [(5, .own K_Si 99)])]
noncomputable def spec_l2Without_l0_r (N : Nat) (back : spec_l2Without_l0_H → Option spec_l2Without_l0_O) (d : spec_l2Without_l0_H) : Option spec_l2Without_l0_O :=
 let s0 : List Int := d.1
 let s1 : Int := d.2.1
 let s5 : List Int := d.2.2.1
 let s6 : Int := d.2.2.2.1
 if (decide (s6 < (List.length s0 : Int))) = true then
  if (idxIn s6 (List.length s0)) = true then
  if (at_ I s0 s6.toNat != s1) = true then
   if (idxIn s6 (List.length s0)) = true then
   if (decide (List.length s5 + List.length ([at_ I s0 s6.toNat]) ≤ lim)) = true then
   let x5 : Int := IntKind.wrap .i64 (s6 + (1 : Int))
   back ((s0, (s1, (s5 ++ ([at_ I s0 s6.toNat]), (x5, ())))))
   else none
   else none
  else
   let x6 : Int := IntKind.wrap .i64 (s6 + (1 : Int))
   back ((s0, (s1, (s5, (x6, ())))))
  else none
 else
  some (.inl (s5, ()))
noncomputable def spec_l2Without_l0 (N : Nat) : Nat → spec_l2Without_l0_H → Option spec_l2Without_l0_O
 | 0, _ => none
 | k + 1, d => spec_l2Without_l0_r N (spec_l2Without_l0 N k) d
theorem spec_l2Without_l0_ok (N : Nat) (back) (d) : roundR Γ_spec_l2Without (assoc []) 0 spec_l2Without_l0_h spec_l2Without_l0_o (loopOf Tryz.f121 0) back d = spec_l2Without_l0_r N back d := by kernel_rfl
noncomputable def F_spec_l2Without (N : Nat) (d : List Int × Int × Unit) : Option (List Int × Unit) :=
 let a0 : List Int := d.1
 let a1 : Int := d.2.1
 (spec_l2Without_l0 N N ((a0, (a1, (([] : List Int), ((0 : Int), ())))))).bind fun o3 => match o3 with
 | .inl d4 =>
  some (d4.1, ())
theorem F_spec_l2Without_ok (N : Nat) (d) : fnR Γ_spec_l2Without (assoc [(0, ⟨spec_l2Without_l0_h, spec_l2Without_l0_o, spec_l2Without_l0 N N⟩)]) true [(K_Si, false), (I, false)] [K_Si] Tryz.f121.results.toList (bodyOf Tryz.f121) d = F_spec_l2Without N d := by kernel_rfl
noncomputable def S_spec_l2Without : FSig := ⟨[(K_Si, false), (I, false)], [K_Si], true, (G_l2Without)⟩
noncomputable def Γ_spec_l2Induced : Ctx := { tk := assoc tks, ar := assoc ars, fs := assoc [(156, S_spec_l2Near)] }
abbrev spec_l2Induced_l2_H := List Int × (Int × (List (Int × Int × Unit)) × Unit) × (Int × (List (Int × Int × Unit)) × Unit) × (Int × (List (Int × Int × Unit)) × Unit) × Int × Int × Unit
abbrev spec_l2Induced_l2_O := (List Int × (Int × (List (Int × Int × Unit)) × Unit) × (Int × (List (Int × Int × Unit)) × Unit) × (Int × (List (Int × Int × Unit)) × Unit) × Int × Unit) ⊕ Empty
def spec_l2Induced_l2_h : Form := [(1, .v K_Si), (2, .box K_PiSPiiqq 0), (4, .box K_PiSPiiqq 99), (5, .box K_PiSPiiqq 99), (6, .v I), (7, .v I)]
def spec_l2Induced_l2_o : Outs := [(.normal, [(1, .v K_Si), (2, .box K_PiSPiiqq 0), (4, .box K_PiSPiiqq 99), (5, .box K_PiSPiiqq 99), (6, .v I)])]
noncomputable def spec_l2Induced_l2_r (N : Nat) (back : spec_l2Induced_l2_H → Option spec_l2Induced_l2_O) (d : spec_l2Induced_l2_H) : Option spec_l2Induced_l2_O :=
 let s1 : List Int := d.1
 let s2 : Int × (List (Int × Int × Unit)) × Unit := d.2.1
 let s4 : Int × (List (Int × Int × Unit)) × Unit := d.2.2.1
 let s5 : Int × (List (Int × Int × Unit)) × Unit := d.2.2.2.1
 let s6 : Int := d.2.2.2.2.1
 let s7 : Int := d.2.2.2.2.2.1
 if (decide (s7 < (List.length s1 : Int))) = true then
  if (idxIn s6 (List.length s1)) = true then
  if (idxIn s7 (List.length s1)) = true then
  (G_l2Near ((s2, (at_ I s1 s6.toNat, (at_ I s1 s7.toNat, ()))))).bind fun r17 =>
  if (r17.1) = true then
   if (decide (List.length s5.2.1 + List.length ([(s6, (s7, ()))]) ≤ lim)) = true then
   let x18 : Int := IntKind.wrap .i64 (s7 + (1 : Int))
   back ((s1, (s2, (s4, ((s5.1, (s5.2.1 ++ ([(s6, (s7, ()))]), s5.2.2)), (s6, (x18, ())))))))
   else none
  else
   let x19 : Int := IntKind.wrap .i64 (s7 + (1 : Int))
   back ((s1, (s2, (s4, (s5, (s6, (x19, ())))))))
  else none
  else none
 else
  some (.inl ((s1, (s2, (s4, (s5, (s6, ())))))))
noncomputable def spec_l2Induced_l2 (N : Nat) : Nat → spec_l2Induced_l2_H → Option spec_l2Induced_l2_O
 | 0, _ => none
 | k + 1, d => spec_l2Induced_l2_r N (spec_l2Induced_l2 N k) d
theorem spec_l2Induced_l2_ok (N : Nat) (back) (d) : roundR Γ_spec_l2Induced (assoc []) 2 spec_l2Induced_l2_h spec_l2Induced_l2_o (loopOf Tryz.f143 2) back d = spec_l2Induced_l2_r N back d := by kernel_rfl
abbrev spec_l2Induced_l0_H := List Int × (Int × (List (Int × Int × Unit)) × Unit) × (Int × (List (Int × Int × Unit)) × Unit) × (Int × (List (Int × Int × Unit)) × Unit) × Int × Unit
abbrev spec_l2Induced_l0_O := ((Int × (List (Int × Int × Unit)) × Unit) × (Int × (List (Int × Int × Unit)) × Unit) × Unit) ⊕ Empty
def spec_l2Induced_l0_h : Form := [(1, .v K_Si), (2, .box K_PiSPiiqq 0), (4, .box K_PiSPiiqq 99), (5, .box K_PiSPiiqq 99), (6, .v I)]
def spec_l2Induced_l0_o : Outs := [(.normal, [(4, .box K_PiSPiiqq 99), (5, .box K_PiSPiiqq 99)])]
noncomputable def spec_l2Induced_l0_r (N : Nat) (back : spec_l2Induced_l0_H → Option spec_l2Induced_l0_O) (d : spec_l2Induced_l0_H) : Option spec_l2Induced_l0_O :=
 let s1 : List Int := d.1
 let s2 : Int × (List (Int × Int × Unit)) × Unit := d.2.1
 let s4 : Int × (List (Int × Int × Unit)) × Unit := d.2.2.1
 let s5 : Int × (List (Int × Int × Unit)) × Unit := d.2.2.2.1
 let s6 : Int := d.2.2.2.2.1
 if (decide (s6 < (List.length s1 : Int))) = true then
  let x10 : Int := IntKind.wrap .i64 (s6 + (1 : Int))
  (spec_l2Induced_l2 N N ((s1, (s2, (s4, (s5, (s6, (x10, ())))))))).bind fun o14 => match o14 with
  | .inl d15 =>
   let x16 : Int := IntKind.wrap .i64 (d15.2.2.2.2.1 + (1 : Int))
   back ((d15.1, (d15.2.1, (d15.2.2.1, (d15.2.2.2.1, (x16, ()))))))
 else
  some (.inl ((s4, (s5, ()))))
noncomputable def spec_l2Induced_l0 (N : Nat) : Nat → spec_l2Induced_l0_H → Option spec_l2Induced_l0_O
 | 0, _ => none
 | k + 1, d => spec_l2Induced_l0_r N (spec_l2Induced_l0 N k) d
theorem spec_l2Induced_l0_ok (N : Nat) (back) (d) : roundR Γ_spec_l2Induced (assoc [(2, ⟨spec_l2Induced_l2_h, spec_l2Induced_l2_o, spec_l2Induced_l2 N N⟩)]) 0 spec_l2Induced_l0_h spec_l2Induced_l0_o (loopOf Tryz.f143 0) back d = spec_l2Induced_l0_r N back d := by kernel_rfl
noncomputable def F_spec_l2Induced (N : Nat) (d : (Int × (List (Int × Int × Unit)) × Unit) × List Int × Unit) : Option ((Int × (List (Int × Int × Unit)) × Unit) × Unit) :=
 let a0 : Int × (List (Int × Int × Unit)) × Unit := d.1
 let a1 : List Int := d.2.1
 (spec_l2Induced_l0 N N ((a1, (a0, (((0 : Int), (([] : List (Int × Int × Unit)), ())), (((List.length a1 : Int), (([] : List (Int × Int × Unit)), ())), ((0 : Int), ()))))))).bind fun o8 => match o8 with
 | .inl d9 =>
  some (d9.2.1, ())
theorem F_spec_l2Induced_ok (N : Nat) (d) : fnR Γ_spec_l2Induced (assoc [(0, ⟨spec_l2Induced_l0_h, spec_l2Induced_l0_o, spec_l2Induced_l0 N N⟩)]) true [(K_PiSPiiqq, false), (K_Si, false)] [K_PiSPiiqq] Tryz.f143.results.toList (bodyOf Tryz.f143) d = F_spec_l2Induced N d := by kernel_rfl
noncomputable def S_spec_l2Induced : FSig := ⟨[(K_PiSPiiqq, false), (K_Si, false)], [K_PiSPiiqq], true, (G_l2Induced)⟩
noncomputable def Γ_spec_l12Less : Ctx := { tk := assoc tks, ar := assoc ars, fs := assoc [] }
noncomputable def F_spec_l12Less (N : Nat) (d : Int × Int × Unit) : Option (Int × Unit) :=
 let a0 : Int := d.1
 let a1 : Int := d.2.1
 if (decide (a0 > a1)) = true then
  let x1 : Int := IntKind.wrap .i64 (a0 - (1 : Int))
  some (x1, ())
 else
  some (a0, ())
theorem F_spec_l12Less_ok (N : Nat) (d) : fnR Γ_spec_l12Less (assoc []) true [(I, false), (I, false)] [I] Tryz.f145.results.toList (bodyOf Tryz.f145) d = F_spec_l12Less N d := by kernel_rfl
noncomputable def g_spec_l12Less (d : Int × Int × Unit) : Int × Unit :=
 let a0 : Int := d.1
 let a1 : Int := d.2.1
 if (decide (a0 > a1)) = true then
  let x1 : Int := IntKind.wrap .i64 (a0 - (1 : Int))
  (x1, ())
 else
  (a0, ())
theorem F_spec_l12Less_tot (N : Nat) (d) : F_spec_l12Less N d = some (g_spec_l12Less d) := by
 unfold F_spec_l12Less g_spec_l12Less
 first
  | rfl
  | (dsimp only; (repeat' split) <;> rfl)
noncomputable def S_spec_l12Less : FSig := ⟨[(I, false), (I, false)], [I], true, (fun d => some (g_spec_l12Less d))⟩
noncomputable def Γ_spec_l12Drop : Ctx := { tk := assoc tks, ar := assoc ars, fs := assoc [(55, S_spec_l12Own), (121, S_spec_l2Without), (143, S_spec_l2Induced), (144, S_spec_l2All), (145, S_spec_l12Less)] }
abbrev spec_l12Drop_l0_H := Int × ((Int × (List (Int × Int × Unit)) × Unit) × Int × Int × List Int × Int × Unit) × ((Int × (List (Int × Int × Unit)) × Unit) × Int × Int × List Int × Int × Unit) × ((Int × (List (Int × Int × Unit)) × Unit) × Int × Int × List Int × Int × Unit) × Int × Unit
abbrev spec_l12Drop_l0_O := (((Int × (List (Int × Int × Unit)) × Unit) × Int × Int × List Int × Int × Unit) × ((Int × (List (Int × Int × Unit)) × Unit) × Int × Int × List Int × Int × Unit) × Unit) ⊕ Empty
def spec_l12Drop_l0_h : Form := [(1, .v I), (2, .box K_PPiSPiiqqiiSiiq 0), (4, .box K_PPiSPiiqqiiSiiq 99), (5, .box K_PPiSPiiqqiiSiiq 99), (6, .v I)]
def spec_l12Drop_l0_o : Outs := [(.normal, [(4, .box K_PPiSPiiqqiiSiiq 99), (5, .box K_PPiSPiiqqiiSiiq 99)])]
noncomputable def spec_l12Drop_l0_r (N : Nat) (back : spec_l12Drop_l0_H → Option spec_l12Drop_l0_O) (d : spec_l12Drop_l0_H) : Option spec_l12Drop_l0_O :=
 let s1 : Int := d.1
 let s2 : (Int × (List (Int × Int × Unit)) × Unit) × Int × Int × List Int × Int × Unit := d.2.1
 let s4 : (Int × (List (Int × Int × Unit)) × Unit) × Int × Int × List Int × Int × Unit := d.2.2.1
 let s5 : (Int × (List (Int × Int × Unit)) × Unit) × Int × Int × List Int × Int × Unit := d.2.2.2.1
 let s6 : Int := d.2.2.2.2.1
 if (decide (s6 < (List.length s2.2.2.2.1 : Int))) = true then
  if (idxIn s6 (List.length s2.2.2.2.1)) = true then
  if (at_ I s2.2.2.2.1 s6.toNat != s1) = true then
   if (idxIn s6 (List.length s2.2.2.2.1)) = true then
   let r12 : Int × Unit := g_spec_l12Less ((at_ I s2.2.2.2.1 s6.toNat, (s1, ())))
   if (decide (List.length s5.2.2.2.1 + List.length ([r12.1]) ≤ lim)) = true then
   let x13 : Int := IntKind.wrap .i64 (s6 + (1 : Int))
   back ((s1, (s2, (s4, ((s5.1, (s5.2.1, (s5.2.2.1, (s5.2.2.2.1 ++ ([r12.1]), s5.2.2.2.2)))), (x13, ()))))))
   else none
   else none
  else
   let x14 : Int := IntKind.wrap .i64 (s6 + (1 : Int))
   back ((s1, (s2, (s4, (s5, (x14, ()))))))
  else none
 else
  some (.inl ((s4, (s5, ()))))
noncomputable def spec_l12Drop_l0 (N : Nat) : Nat → spec_l12Drop_l0_H → Option spec_l12Drop_l0_O
 | 0, _ => none
 | k + 1, d => spec_l12Drop_l0_r N (spec_l12Drop_l0 N k) d
theorem spec_l12Drop_l0_ok (N : Nat) (back) (d) : roundR Γ_spec_l12Drop (assoc []) 0 spec_l12Drop_l0_h spec_l12Drop_l0_o (loopOf Tryz.f117 0) back d = spec_l12Drop_l0_r N back d := by kernel_rfl
noncomputable def F_spec_l12Drop (N : Nat) (d : ((Int × (List (Int × Int × Unit)) × Unit) × Int × Int × List Int × Int × Unit) × Int × Unit) : Option (((Int × (List (Int × Int × Unit)) × Unit) × Int × Int × List Int × Int × Unit) × Unit) :=
 let a0 : (Int × (List (Int × Int × Unit)) × Unit) × Int × Int × List Int × Int × Unit := d.1
 let a1 : Int := d.2.1
 ((F_spec_l12Own 0) (a0, ())).bind fun r1 =>
 ((F_spec_l2All 0) (a0.1, ())).bind fun r2 =>
 (G_l2Without ((r2.1, (a1, ())))).bind fun r3 =>
 (G_l2Induced ((a0.1, (r3.1, ())))).bind fun r4 =>
 let r5 : Int × Unit := g_spec_l12Less ((a0.2.1, (a1, ())))
 let r6 : Int × Unit := g_spec_l12Less ((a0.2.2.1, (a1, ())))
 (spec_l12Drop_l0 N N ((a1, (a0, ((((0 : Int), (([] : List (Int × Int × Unit)), ())), ((0 : Int), ((0 : Int), (([] : List Int), ((0 : Int), ()))))), ((r4.1, (r5.1, (r6.1, (([] : List Int), r1.1.2.2.2.2)))), ((0 : Int), ()))))))).bind fun o10 => match o10 with
 | .inl d11 =>
  some (d11.2.1, ())
theorem F_spec_l12Drop_ok (N : Nat) (d) : fnR Γ_spec_l12Drop (assoc [(0, ⟨spec_l12Drop_l0_h, spec_l12Drop_l0_o, spec_l12Drop_l0 N N⟩)]) true [(K_PPiSPiiqqiiSiiq, false), (I, false)] [K_PPiSPiiqqiiSiiq] Tryz.f117.results.toList (bodyOf Tryz.f117) d = F_spec_l12Drop N d := by kernel_rfl
noncomputable def S_spec_l12Drop : FSig := ⟨[(K_PPiSPiiqqiiSiiq, false), (I, false)], [K_PPiSPiiqqiiSiiq], true, (G_l12Drop)⟩
noncomputable def Γ_spec_l1Least : Ctx := { tk := assoc tks, ar := assoc ars, fs := assoc [] }
noncomputable def F_spec_l1Least (N : Nat) (d : Int × Int × Unit) : Option (Int × Unit) :=
 let a0 : Int := d.1
 let a1 : Int := d.2.1
 if (decide (a0 < a1)) = true then
  some (a0, ())
 else
  some (a1, ())
theorem F_spec_l1Least_ok (N : Nat) (d) : fnR Γ_spec_l1Least (assoc []) true [(I, false), (I, false)] [I] Tryz.f100.results.toList (bodyOf Tryz.f100) d = F_spec_l1Least N d := by kernel_rfl
noncomputable def g_spec_l1Least (d : Int × Int × Unit) : Int × Unit :=
 let a0 : Int := d.1
 let a1 : Int := d.2.1
 if (decide (a0 < a1)) = true then
  (a0, ())
 else
  (a1, ())
theorem F_spec_l1Least_tot (N : Nat) (d) : F_spec_l1Least N d = some (g_spec_l1Least d) := by
 unfold F_spec_l1Least g_spec_l1Least
 first
  | rfl
  | (dsimp only; (repeat' split) <;> rfl)
noncomputable def S_spec_l1Least : FSig := ⟨[(I, false), (I, false)], [I], true, (fun d => some (g_spec_l1Least d))⟩
noncomputable def Γ_spec_l1Most : Ctx := { tk := assoc tks, ar := assoc ars, fs := assoc [] }
noncomputable def F_spec_l1Most (N : Nat) (d : Int × Int × Unit) : Option (Int × Unit) :=
 let a0 : Int := d.1
 let a1 : Int := d.2.1
 if (decide (a0 > a1)) = true then
  some (a0, ())
 else
  some (a1, ())
theorem F_spec_l1Most_ok (N : Nat) (d) : fnR Γ_spec_l1Most (assoc []) true [(I, false), (I, false)] [I] Tryz.f99.results.toList (bodyOf Tryz.f99) d = F_spec_l1Most N d := by kernel_rfl
noncomputable def g_spec_l1Most (d : Int × Int × Unit) : Int × Unit :=
 let a0 : Int := d.1
 let a1 : Int := d.2.1
 if (decide (a0 > a1)) = true then
  (a0, ())
 else
  (a1, ())
theorem F_spec_l1Most_tot (N : Nat) (d) : F_spec_l1Most N d = some (g_spec_l1Most d) := by
 unfold F_spec_l1Most g_spec_l1Most
 first
  | rfl
  | (dsimp only; (repeat' split) <;> rfl)
noncomputable def S_spec_l1Most : FSig := ⟨[(I, false), (I, false)], [I], true, (fun d => some (g_spec_l1Most d))⟩
noncomputable def Γ_spec_l2Put : Ctx := { tk := assoc tks, ar := assoc ars, fs := assoc [(111, S_spec_l2Before)] }
abbrev spec_l2Put_l0_H := (List (Int × Int × Unit)) × (Int × Int × Unit) × Int × Unit
abbrev spec_l2Put_l0_O := ((List (Int × Int × Unit)) × (Int × Int × Unit) × Int × Unit) ⊕ Empty
def spec_l2Put_l0_h : Form := [(0, .v K_SPiiq), (3, .box K_Piiq 99), (5, .v I)]
def spec_l2Put_l0_o : Outs := [(.normal, [(0, .v K_SPiiq), (3, .box K_Piiq 99), (5, .v I)])]
noncomputable def spec_l2Put_l0_r (N : Nat) (back : spec_l2Put_l0_H → Option spec_l2Put_l0_O) (d : spec_l2Put_l0_H) : Option spec_l2Put_l0_O :=
 let s0 : List (Int × Int × Unit) := d.1
 let s3 : Int × Int × Unit := d.2.1
 let s5 : Int := d.2.2.1
 if (decide (s5 < (List.length s0 : Int))) = true then
  if (idxIn s5 (List.length s0)) = true then
  let r7 : Bool × Unit := g_spec_l2Before ((at_ K_Piiq s0 s5.toNat, (s3, ())))
  if (r7.1) = true then
   let x8 : Int := IntKind.wrap .i64 (s5 + (1 : Int))
   back ((s0, (s3, (x8, ()))))
  else
   some (.inl ((s0, (s3, (s5, ())))))
  else none
 else
  some (.inl ((s0, (s3, (s5, ())))))
noncomputable def spec_l2Put_l0 (N : Nat) : Nat → spec_l2Put_l0_H → Option spec_l2Put_l0_O
 | 0, _ => none
 | k + 1, d => spec_l2Put_l0_r N (spec_l2Put_l0 N k) d
theorem spec_l2Put_l0_ok (N : Nat) (back) (d) : roundR Γ_spec_l2Put (assoc []) 0 spec_l2Put_l0_h spec_l2Put_l0_o (loopOf Tryz.f134 0) back d = spec_l2Put_l0_r N back d := by kernel_rfl
noncomputable def F_spec_l2Put (N : Nat) (d : (List (Int × Int × Unit)) × (Int × Int × Unit) × Unit) : Option ((List (Int × Int × Unit)) × Unit) :=
 let a0 : List (Int × Int × Unit) := d.1
 let a1 : Int × Int × Unit := d.2.1
 (spec_l2Put_l0 N N ((a0, (a1, ((0 : Int), ()))))).bind fun o3 => match o3 with
 | .inl d4 =>
  if ((decide (0 ≤ (0 : Int)) && decide ((0 : Int) ≤ d4.2.2.1) && decide (d4.2.2.1 ≤ (List.length d4.1 : Int)))) = true then
  if (decide (List.length ([] : List (Int × Int × Unit)) + List.length (sub_ d4.1 (0 : Int) d4.2.2.1) ≤ lim)) = true then
  let x5 : List (Int × Int × Unit) := ([] : List (Int × Int × Unit)) ++ (sub_ d4.1 (0 : Int) d4.2.2.1)
  if (decide (List.length x5 + List.length ([d4.2.1]) ≤ lim)) = true then
  if ((decide (0 ≤ d4.2.2.1) && decide (d4.2.2.1 ≤ (List.length d4.1 : Int)) && decide ((List.length d4.1 : Int) ≤ (List.length d4.1 : Int)))) = true then
  let x6 : List (Int × Int × Unit) := sub_ d4.1 d4.2.2.1 (List.length d4.1 : Int)
  if (decide (List.length (x5 ++ ([d4.2.1])) + List.length x6 ≤ lim)) = true then
  some (((x5 ++ ([d4.2.1])) ++ x6, ()))
  else none
  else none
  else none
  else none
  else none
theorem F_spec_l2Put_ok (N : Nat) (d) : fnR Γ_spec_l2Put (assoc [(0, ⟨spec_l2Put_l0_h, spec_l2Put_l0_o, spec_l2Put_l0 N N⟩)]) true [(K_SPiiq, false), (K_Piiq, false)] [K_SPiiq] Tryz.f134.results.toList (bodyOf Tryz.f134) d = F_spec_l2Put N d := by kernel_rfl
noncomputable def S_spec_l2Put : FSig := ⟨[(K_SPiiq, false), (K_Piiq, false)], [K_SPiiq], true, (G_l2Put)⟩
noncomputable def Γ_spec_ToggleEdge : Ctx := { tk := assoc tks, ar := assoc ars, fs := assoc [(75, S_spec_l2Good), (99, S_spec_l1Most), (100, S_spec_l1Least), (113, S_spec_l2Node), (134, S_spec_l2Put)], cs := assoc [], gs := assoc [], eqt := inL [67], md := md0 }
abbrev spec_ToggleEdge_l0_H := (Int × (List (Int × Int × Unit)) × Unit) × (Int × (List (Int × Int × Unit)) × Unit) × (Int × Int × Unit) × (Int × (List (Int × Int × Unit)) × Unit) × Int × Unit
abbrev spec_ToggleEdge_l0_O := ((Int × (List (Int × Int × Unit)) × Unit) × (Int × (List (Int × Int × Unit)) × Unit) × (Int × Int × Unit) × (Int × (List (Int × Int × Unit)) × Unit) × Unit) ⊕ Empty
def spec_ToggleEdge_l0_h : Form := [(3, .box K_PiSPiiqq 0), (6, .box K_PiSPiiqq 99), (8, .box K_Piiq 99), (9, .box K_PiSPiiqq 99), (10, .v I)]
def spec_ToggleEdge_l0_o : Outs := [(.normal, [(3, .box K_PiSPiiqq 0), (6, .box K_PiSPiiqq 99), (8, .box K_Piiq 99), (9, .box K_PiSPiiqq 99)])]
noncomputable def spec_ToggleEdge_l0_r (N : Nat) (back : spec_ToggleEdge_l0_H → Option spec_ToggleEdge_l0_O) (d : spec_ToggleEdge_l0_H) : Option spec_ToggleEdge_l0_O :=
 let s3 : Int × (List (Int × Int × Unit)) × Unit := d.1
 let s6 : Int × (List (Int × Int × Unit)) × Unit := d.2.1
 let s8 : Int × Int × Unit := d.2.2.1
 let s9 : Int × (List (Int × Int × Unit)) × Unit := d.2.2.2.1
 let s10 : Int := d.2.2.2.2.1
 if (decide (s10 < (List.length s3.2.1 : Int))) = true then
  if (idxIn s10 (List.length s3.2.1)) = true then
  if (!eqB K_Piiq (at_ K_Piiq s3.2.1 s10.toNat) s8) = true then
   if (idxIn s10 (List.length s3.2.1)) = true then
   if (decide (List.length s9.2.1 + List.length ([at_ K_Piiq s3.2.1 s10.toNat]) ≤ lim)) = true then
   let x12 : List (Int × Int × Unit) := s9.2.1 ++ ([at_ K_Piiq s3.2.1 s10.toNat])
   let x13 : Int := IntKind.wrap .i64 (s10 + (1 : Int))
   back ((s3, (s6, (s8, ((s9.1, (x12, s9.2.2)), (x13, ()))))))
   else none
   else none
  else
   let x14 : Int := IntKind.wrap .i64 (s10 + (1 : Int))
   back ((s3, (s6, (s8, (s9, (x14, ()))))))
  else none
 else
  some (.inl ((s3, (s6, (s8, (s9, ()))))))
noncomputable def spec_ToggleEdge_l0 (N : Nat) : Nat → spec_ToggleEdge_l0_H → Option spec_ToggleEdge_l0_O
 | 0, _ => none
 | k + 1, d => spec_ToggleEdge_l0_r N (spec_ToggleEdge_l0 N k) d
theorem spec_ToggleEdge_l0_ok (N : Nat) (back) (d) : roundR Γ_spec_ToggleEdge (assoc []) 0 spec_ToggleEdge_l0_h spec_ToggleEdge_l0_o (loopOf Tryz.f118 0) back d = spec_ToggleEdge_l0_r N back d := by kernel_rfl
noncomputable def F_spec_ToggleEdge (N : Nat) (d : (Int × (List (Int × Int × Unit)) × Unit) × Int × Int × Unit) : Option ((Int × (List (Int × Int × Unit)) × Unit) × Bool × Unit) :=
 let a0 : Int × (List (Int × Int × Unit)) × Unit := d.1
 let a1 : Int := d.2.1
 let a2 : Int := d.2.2.1
 (G_graph (a0, ())).bind fun r1 =>
 if (!r1.1) = true then
  some ((((0 : Int), (([] : List (Int × Int × Unit)), ())), (false, ())))
 else
  let r2 : Bool × Unit := g_spec_l2Node ((a0, (a1, ())))
  if (!r2.1) = true then
   some ((((0 : Int), (([] : List (Int × Int × Unit)), ())), (false, ())))
  else
   let r3 : Bool × Unit := g_spec_l2Node ((a0, (a2, ())))
   if (!r3.1) = true then
    some ((((0 : Int), (([] : List (Int × Int × Unit)), ())), (false, ())))
   else
    if (a1 == a2) = true then
     some ((((0 : Int), (([] : List (Int × Int × Unit)), ())), (false, ())))
    else
     let r4 : Int × Unit := g_spec_l1Least ((a1, (a2, ())))
     let r5 : Int × Unit := g_spec_l1Most ((a1, (a2, ())))
     (spec_ToggleEdge_l0 N N ((a0, (((0 : Int), (([] : List (Int × Int × Unit)), ())), ((r4.1, (r5.1, ())), ((a0.1, (([] : List (Int × Int × Unit)), ())), ((0 : Int), ()))))))).bind fun o9 => match o9 with
     | .inl d10 =>
      if ((List.length d10.2.2.2.1.2.1 : Int) == (List.length d10.1.2.1 : Int)) = true then
       (G_l2Put ((d10.2.2.2.1.2.1, (d10.2.2.1, ())))).bind fun r11 =>
       some (((d10.2.2.2.1.1, (r11.1, d10.2.2.2.1.2.2)), (true, ())))
      else
       some ((d10.2.2.2.1, (true, ())))
theorem F_spec_ToggleEdge_ok (N : Nat) (d) : fnR Γ_spec_ToggleEdge (assoc [(0, ⟨spec_ToggleEdge_l0_h, spec_ToggleEdge_l0_o, spec_ToggleEdge_l0 N N⟩)]) true [(K_PiSPiiqq, false), (I, false), (I, false)] [K_PiSPiiqq, .bool] Tryz.f118.results.toList (bodyOf Tryz.f118) d = F_spec_ToggleEdge N d := by kernel_rfl
noncomputable def S_spec_ToggleEdge : FSig := ⟨[(K_PiSPiiqq, false), (I, false), (I, false)], [K_PiSPiiqq, .bool], true, (G_ToggleEdge)⟩
noncomputable def Γ_spec_l3Sign : Ctx := { tk := assoc tks, ar := assoc ars, fs := assoc [] }
noncomputable def F_spec_l3Sign (N : Nat) (d : Bool × Unit) : Option (Int × Unit) :=
 let a0 : Bool := d.1
 if (a0) = true then
  some ((0 : Int), ())
 else
  some ((-1 : Int), ())
theorem F_spec_l3Sign_ok (N : Nat) (d) : fnR Γ_spec_l3Sign (assoc []) true [(.bool, false)] [I] Tryz.f141.results.toList (bodyOf Tryz.f141) d = F_spec_l3Sign N d := by kernel_rfl
noncomputable def g_spec_l3Sign (d : Bool × Unit) : Int × Unit :=
 let a0 : Bool := d.1
 if (a0) = true then
  ((0 : Int), ())
 else
  ((-1 : Int), ())
theorem F_spec_l3Sign_tot (N : Nat) (d) : F_spec_l3Sign N d = some (g_spec_l3Sign d) := by
 unfold F_spec_l3Sign g_spec_l3Sign
 first
  | rfl
  | (dsimp only; (repeat' split) <;> rfl)
noncomputable def S_spec_l3Sign : FSig := ⟨[(.bool, false)], [I], true, (fun d => some (g_spec_l3Sign d))⟩
noncomputable def Γ_spec_l3Worst : Ctx := { tk := assoc tks, ar := assoc ars, fs := assoc [(99, S_spec_l1Most), (133, S_spec_l2Ball)] }
abbrev spec_l3Worst_l0_H := List (List Int) × Int × Int × List Int × Int × Unit
abbrev spec_l3Worst_l0_O := (Int × Unit) ⊕ (Int × Unit) ⊕ Empty
def spec_l3Worst_l0_h : Form := [(1, .v K_SSi), (2, .v I), (9, .v I), (10, .v K_Si), (11, .v I)]
def spec_l3Worst_l0_o : Outs := [(.ret, [(8, .v I)]), (.normal, [(9, .v I)])]
noncomputable def spec_l3Worst_l0_r (N : Nat) (back : spec_l3Worst_l0_H → Option spec_l3Worst_l0_O) (d : spec_l3Worst_l0_H) : Option spec_l3Worst_l0_O :=
 let s1 : List (List Int) := d.1
 let s2 : Int := d.2.1
 let s9 : Int := d.2.2.1
 let s10 : List Int := d.2.2.2.1
 let s11 : Int := d.2.2.2.2.1
 if (decide (s11 < (List.length s10 : Int))) = true then
  if (idxIn s2 (List.length s1)) = true then
  if (idxIn s11 (List.length s10)) = true then
  if (idxIn (at_ I s10 s11.toNat) (List.length (at_ K_Si s1 s2.toNat))) = true then
  if (decide (at_ I (at_ K_Si s1 s2.toNat) (at_ I s10 s11.toNat).toNat < (0 : Int))) = true then
   some (.inl ((-1 : Int), ()))
  else
   if (idxIn s2 (List.length s1)) = true then
   if (idxIn s11 (List.length s10)) = true then
   if (idxIn (at_ I s10 s11.toNat) (List.length (at_ K_Si s1 s2.toNat))) = true then
   let r7 : Int × Unit := g_spec_l1Most ((s9, (at_ I (at_ K_Si s1 s2.toNat) (at_ I s10 s11.toNat).toNat, ())))
   let x8 : Int := IntKind.wrap .i64 (s11 + (1 : Int))
   back ((s1, (s2, (r7.1, (s10, (x8, ()))))))
   else none
   else none
   else none
  else none
  else none
  else none
 else
  some (.inr (.inl (s9, ())))
noncomputable def spec_l3Worst_l0 (N : Nat) : Nat → spec_l3Worst_l0_H → Option spec_l3Worst_l0_O
 | 0, _ => none
 | k + 1, d => spec_l3Worst_l0_r N (spec_l3Worst_l0 N k) d
theorem spec_l3Worst_l0_ok (N : Nat) (back) (d) : roundR Γ_spec_l3Worst (assoc []) 0 spec_l3Worst_l0_h spec_l3Worst_l0_o (loopOf Tryz.f166 0) back d = spec_l3Worst_l0_r N back d := by kernel_rfl
noncomputable def F_spec_l3Worst (N : Nat) (d : (Int × (List (Int × Int × Unit)) × Unit) × List (List Int) × Int × Int × Unit) : Option (Int × Unit) :=
 let a0 : Int × (List (Int × Int × Unit)) × Unit := d.1
 let a1 : List (List Int) := d.2.1
 let a2 : Int := d.2.2.1
 let a3 : Int := d.2.2.2.1
 ((F_spec_l2Ball 0) ((a0, (a3, ())))).bind fun r1 =>
 (spec_l3Worst_l0 N N ((a1, (a2, ((0 : Int), (r1.1, ((0 : Int), ()))))))).bind fun o4 => match o4 with
 | .inl d5 =>
  some (d5.1, ())
 | .inr (.inl d6) =>
  some (d6.1, ())
theorem F_spec_l3Worst_ok (N : Nat) (d) : fnR Γ_spec_l3Worst (assoc [(0, ⟨spec_l3Worst_l0_h, spec_l3Worst_l0_o, spec_l3Worst_l0 N N⟩)]) true [(K_PiSPiiqq, false), (K_SSi, false), (I, false), (I, false)] [I] Tryz.f166.results.toList (bodyOf Tryz.f166) d = F_spec_l3Worst N d := by kernel_rfl
noncomputable def S_spec_l3Worst : FSig := ⟨[(K_PiSPiiqq, false), (K_SSi, false), (I, false), (I, false)], [I], true, (G_l3Worst)⟩
noncomputable def Γ_spec_l3After : Ctx := { tk := assoc tks, ar := assoc ars, fs := assoc [(166, S_spec_l3Worst)] }
noncomputable def F_spec_l3After (N : Nat) (d : (Int × (List (Int × Int × Unit)) × Unit) × List (List Int) × Int × Int × Unit) : Option (Int × Unit) :=
 let a0 : Int × (List (Int × Int × Unit)) × Unit := d.1
 let a1 : List (List Int) := d.2.1
 let a2 : Int := d.2.2.1
 let a3 : Int := d.2.2.2.1
 if (a2 == a3) = true then
  some ((0 : Int), ())
 else
  (G_l3Worst ((a0, (a1, (a2, (a3, ())))))).bind fun r1 =>
  some (r1.1, ())
theorem F_spec_l3After_ok (N : Nat) (d) : fnR Γ_spec_l3After (assoc []) true [(K_PiSPiiqq, false), (K_SSi, false), (I, false), (I, false)] [I] Tryz.f161.results.toList (bodyOf Tryz.f161) d = F_spec_l3After N d := by kernel_rfl
noncomputable def S_spec_l3After : FSig := ⟨[(K_PiSPiiqq, false), (K_SSi, false), (I, false), (I, false)], [I], true, (F_spec_l3After 0)⟩
noncomputable def Γ_spec_l3Best : Ctx := { tk := assoc tks, ar := assoc ars, fs := assoc [(133, S_spec_l2Ball), (161, S_spec_l3After)] }
abbrev spec_l3Best_l0_H := List (List Int) × Int × (Int × (List (Int × Int × Unit)) × Unit) × Int × List Int × Int × Unit
abbrev spec_l3Best_l0_O := (Int × Unit) ⊕ Empty
def spec_l3Best_l0_h : Form := [(1, .v K_SSi), (3, .v I), (4, .box K_PiSPiiqq 0), (9, .v I), (10, .v K_Si), (11, .v I)]
def spec_l3Best_l0_o : Outs := [(.normal, [(9, .v I)])]
noncomputable def spec_l3Best_l0_r (N : Nat) (back : spec_l3Best_l0_H → Option spec_l3Best_l0_O) (d : spec_l3Best_l0_H) : Option spec_l3Best_l0_O :=
 let s1 : List (List Int) := d.1
 let s3 : Int := d.2.1
 let s4 : Int × (List (Int × Int × Unit)) × Unit := d.2.2.1
 let s9 : Int := d.2.2.2.1
 let s10 : List Int := d.2.2.2.2.1
 let s11 : Int := d.2.2.2.2.2.1
 if (decide (s11 < (List.length s10 : Int))) = true then
  if (idxIn s11 (List.length s10)) = true then
  ((F_spec_l3After 0) ((s4, (s1, (at_ I s10 s11.toNat, (s3, ())))))).bind fun r9 =>
  if (decide (r9.1 ≥ (0 : Int))) = true then
   if (decide (s9 < (0 : Int))) = true then
    let x10 : Int := IntKind.wrap .i64 (s11 + (1 : Int))
    back ((s1, (s3, (s4, (r9.1, (s10, (x10, ())))))))
   else
    if (decide (r9.1 < s9)) = true then
     let x11 : Int := IntKind.wrap .i64 (s11 + (1 : Int))
     back ((s1, (s3, (s4, (r9.1, (s10, (x11, ())))))))
    else
     let x12 : Int := IntKind.wrap .i64 (s11 + (1 : Int))
     back ((s1, (s3, (s4, (s9, (s10, (x12, ())))))))
  else
   let x13 : Int := IntKind.wrap .i64 (s11 + (1 : Int))
   back ((s1, (s3, (s4, (s9, (s10, (x13, ())))))))
  else none
 else
  some (.inl (s9, ()))
noncomputable def spec_l3Best_l0 (N : Nat) : Nat → spec_l3Best_l0_H → Option spec_l3Best_l0_O
 | 0, _ => none
 | k + 1, d => spec_l3Best_l0_r N (spec_l3Best_l0 N k) d
theorem spec_l3Best_l0_ok (N : Nat) (back) (d) : roundR Γ_spec_l3Best (assoc []) 0 spec_l3Best_l0_h spec_l3Best_l0_o (loopOf Tryz.f142 0) back d = spec_l3Best_l0_r N back d := by kernel_rfl
noncomputable def F_spec_l3Best (N : Nat) (d : (Int × (List (Int × Int × Unit)) × Unit) × List (List Int) × Int × Int × Unit) : Option (Int × Unit) :=
 let a0 : Int × (List (Int × Int × Unit)) × Unit := d.1
 let a1 : List (List Int) := d.2.1
 let a2 : Int := d.2.2.1
 let a3 : Int := d.2.2.2.1
 ((F_spec_l2Ball 0) ((a0, (a2, ())))).bind fun r1 =>
 (spec_l3Best_l0 N N ((a1, (a3, (a0, ((-1 : Int), (r1.1, ((0 : Int), ())))))))).bind fun o7 => match o7 with
 | .inl d8 =>
  some (d8.1, ())
theorem F_spec_l3Best_ok (N : Nat) (d) : fnR Γ_spec_l3Best (assoc [(0, ⟨spec_l3Best_l0_h, spec_l3Best_l0_o, spec_l3Best_l0 N N⟩)]) true [(K_PiSPiiqq, false), (K_SSi, false), (I, false), (I, false)] [I] Tryz.f142.results.toList (bodyOf Tryz.f142) d = F_spec_l3Best N d := by kernel_rfl
noncomputable def S_spec_l3Best : FSig := ⟨[(K_PiSPiiqq, false), (K_SSi, false), (I, false), (I, false)], [I], true, (G_l3Best)⟩
noncomputable def Γ_spec_l3Times : Ctx := { tk := assoc tks, ar := assoc ars, fs := assoc [(91, S_spec_l1Own), (141, S_spec_l3Sign), (142, S_spec_l3Best)] }
abbrev spec_l3Times_l2_H := (Int × (List (Int × Int × Unit)) × Unit) × List (List Int) × Int × List Int × Int × Unit
abbrev spec_l3Times_l2_O := ((Int × (List (Int × Int × Unit)) × Unit) × List (List Int) × Int × List Int × Unit) ⊕ Empty
def spec_l3Times_l2_h : Form := [(1, .box K_PiSPiiqq 0), (3, .own K_SSi 100), (4, .v I), (5, .own K_Si 99), (6, .v I)]
def spec_l3Times_l2_o : Outs := [(.normal, [(1, .box K_PiSPiiqq 0), (3, .own K_SSi 100), (4, .v I), (5, .own K_Si 99)])]
noncomputable def spec_l3Times_l2_r (N : Nat) (back : spec_l3Times_l2_H → Option spec_l3Times_l2_O) (d : spec_l3Times_l2_H) : Option spec_l3Times_l2_O :=
 let s1 : Int × (List (Int × Int × Unit)) × Unit := d.1
 let s3 : List (List Int) := d.2.1
 let s4 : Int := d.2.2.1
 let s5 : List Int := d.2.2.2.1
 let s6 : Int := d.2.2.2.2.1
 if (decide (s6 < s1.1)) = true then
  let r27 : Int × Unit := g_spec_l3Sign (s4 == s6, ())
  if (decide (List.length s5 + List.length ([r27.1]) ≤ lim)) = true then
  let x28 : Int := IntKind.wrap .i64 (s6 + (1 : Int))
  back ((s1, (s3, (s4, (s5 ++ ([r27.1]), (x28, ()))))))
  else none
 else
  some (.inl ((s1, (s3, (s4, (s5, ()))))))
noncomputable def spec_l3Times_l2 (N : Nat) : Nat → spec_l3Times_l2_H → Option spec_l3Times_l2_O
 | 0, _ => none
 | k + 1, d => spec_l3Times_l2_r N (spec_l3Times_l2 N k) d
theorem spec_l3Times_l2_ok (N : Nat) (back) (d) : roundR Γ_spec_l3Times (assoc []) 2 spec_l3Times_l2_h spec_l3Times_l2_o (loopOf Tryz.f106 2) back d = spec_l3Times_l2_r N back d := by kernel_rfl
abbrev spec_l3Times_l0_H := (Int × (List (Int × Int × Unit)) × Unit) × List (List Int) × Int × Unit
abbrev spec_l3Times_l0_O := ((Int × (List (Int × Int × Unit)) × Unit) × List (List Int) × Unit) ⊕ Empty
def spec_l3Times_l0_h : Form := [(1, .box K_PiSPiiqq 0), (3, .own K_SSi 100), (4, .v I)]
def spec_l3Times_l0_o : Outs := [(.normal, [(1, .box K_PiSPiiqq 0), (3, .own K_SSi 100)])]
noncomputable def spec_l3Times_l0_r (N : Nat) (back : spec_l3Times_l0_H → Option spec_l3Times_l0_O) (d : spec_l3Times_l0_H) : Option spec_l3Times_l0_O :=
 let s1 : Int × (List (Int × Int × Unit)) × Unit := d.1
 let s3 : List (List Int) := d.2.1
 let s4 : Int := d.2.2.1
 if (decide (s4 < s1.1)) = true then
  (spec_l3Times_l2 N N ((s1, (s3, (s4, (([] : List Int), ((0 : Int), ()))))))).bind fun o24 => match o24 with
  | .inl d25 =>
   if (decide (List.length d25.2.1 + List.length ([d25.2.2.2.1]) ≤ lim)) = true then
   let x26 : Int := IntKind.wrap .i64 (d25.2.2.1 + (1 : Int))
   back ((d25.1, (d25.2.1 ++ ([d25.2.2.2.1]), (x26, ()))))
   else none
 else
  some (.inl ((s1, (s3, ()))))
noncomputable def spec_l3Times_l0 (N : Nat) : Nat → spec_l3Times_l0_H → Option spec_l3Times_l0_O
 | 0, _ => none
 | k + 1, d => spec_l3Times_l0_r N (spec_l3Times_l0 N k) d
theorem spec_l3Times_l0_ok (N : Nat) (back) (d) : roundR Γ_spec_l3Times (assoc [(2, ⟨spec_l3Times_l2_h, spec_l3Times_l2_o, spec_l3Times_l2 N N⟩)]) 0 spec_l3Times_l0_h spec_l3Times_l0_o (loopOf Tryz.f106 0) back d = spec_l3Times_l0_r N back d := by kernel_rfl
abbrev spec_l3Times_l8_H := (Int × (List (Int × Int × Unit)) × Unit) × List (List Int) × Bool × List (List Int) × Int × List Int × Int × Unit
abbrev spec_l3Times_l8_O := ((Int × (List (Int × Int × Unit)) × Unit) × List (List Int) × Bool × List (List Int) × Int × List Int × Unit) ⊕ Empty
def spec_l3Times_l8_h : Form := [(1, .box K_PiSPiiqq 0), (3, .own K_SSi 100), (7, .v .bool), (8, .own K_SSi 100), (9, .v I), (10, .own K_Si 99), (11, .v I)]
def spec_l3Times_l8_o : Outs := [(.normal, [(1, .box K_PiSPiiqq 0), (3, .own K_SSi 100), (7, .v .bool), (8, .own K_SSi 100), (9, .v I), (10, .own K_Si 99)])]
noncomputable def spec_l3Times_l8_r (N : Nat) (back : spec_l3Times_l8_H → Option spec_l3Times_l8_O) (d : spec_l3Times_l8_H) : Option spec_l3Times_l8_O :=
 let s1 : Int × (List (Int × Int × Unit)) × Unit := d.1
 let s3 : List (List Int) := d.2.1
 let s7 : Bool := d.2.2.1
 let s8 : List (List Int) := d.2.2.2.1
 let s9 : Int := d.2.2.2.2.1
 let s10 : List Int := d.2.2.2.2.2.1
 let s11 : Int := d.2.2.2.2.2.2.1
 if (decide (s11 < s1.1)) = true then
  (G_l3Best ((s1, (s3, (s9, (s11, ())))))).bind fun r51 =>
  if (idxIn s11 (List.length s10)) = true then
  if (decide (at_ I s10 s11.toNat < (0 : Int))) = true then
   if (decide (r51.1 ≥ (0 : Int))) = true then
    let x52 : Int := IntKind.wrap .i64 (r51.1 + (1 : Int))
    if (idxIn s11 (List.length s10)) = true then
    let x53 : Int := IntKind.wrap .i64 (s11 + (1 : Int))
    back ((s1, (s3, (true, (s8, (s9, (List.set s10 s11.toNat x52, (x53, ()))))))))
    else none
   else
    let x54 : Int := IntKind.wrap .i64 (s11 + (1 : Int))
    back ((s1, (s3, (s7, (s8, (s9, (s10, (x54, ()))))))))
  else
   let x55 : Int := IntKind.wrap .i64 (s11 + (1 : Int))
   back ((s1, (s3, (s7, (s8, (s9, (s10, (x55, ()))))))))
  else none
 else
  some (.inl ((s1, (s3, (s7, (s8, (s9, (s10, ()))))))))
noncomputable def spec_l3Times_l8 (N : Nat) : Nat → spec_l3Times_l8_H → Option spec_l3Times_l8_O
 | 0, _ => none
 | k + 1, d => spec_l3Times_l8_r N (spec_l3Times_l8 N k) d
theorem spec_l3Times_l8_ok (N : Nat) (back) (d) : roundR Γ_spec_l3Times (assoc []) 8 spec_l3Times_l8_h spec_l3Times_l8_o (loopOf Tryz.f106 8) back d = spec_l3Times_l8_r N back d := by kernel_rfl
abbrev spec_l3Times_l6_H := (Int × (List (Int × Int × Unit)) × Unit) × List (List Int) × Bool × List (List Int) × Int × Unit
abbrev spec_l3Times_l6_O := ((Int × (List (Int × Int × Unit)) × Unit) × Bool × List (List Int) × Unit) ⊕ Empty
def spec_l3Times_l6_h : Form := [(1, .box K_PiSPiiqq 0), (3, .own K_SSi 100), (7, .v .bool), (8, .own K_SSi 100), (9, .v I)]
def spec_l3Times_l6_o : Outs := [(.normal, [(1, .box K_PiSPiiqq 0), (7, .v .bool), (8, .own K_SSi 100)])]
noncomputable def spec_l3Times_l6_r (N : Nat) (back : spec_l3Times_l6_H → Option spec_l3Times_l6_O) (d : spec_l3Times_l6_H) : Option spec_l3Times_l6_O :=
 let s1 : Int × (List (Int × Int × Unit)) × Unit := d.1
 let s3 : List (List Int) := d.2.1
 let s7 : Bool := d.2.2.1
 let s8 : List (List Int) := d.2.2.2.1
 let s9 : Int := d.2.2.2.2.1
 if (decide (s9 < s1.1)) = true then
  if (idxIn s9 (List.length s3)) = true then
  ((F_spec_l1Own 0) (at_ K_Si s3 s9.toNat, ())).bind fun r41 =>
  (spec_l3Times_l8 N N ((s1, (s3, (s7, (s8, (s9, (r41.1, ((0 : Int), ()))))))))).bind fun o47 => match o47 with
  | .inl d48 =>
   if (decide (List.length d48.2.2.2.1 + List.length ([d48.2.2.2.2.2.1]) ≤ lim)) = true then
   let x49 : List (List Int) := d48.2.2.2.1 ++ ([d48.2.2.2.2.2.1])
   let x50 : Int := IntKind.wrap .i64 (d48.2.2.2.2.1 + (1 : Int))
   back ((d48.1, (d48.2.1, (d48.2.2.1, (x49, (x50, ()))))))
   else none
  else none
 else
  some (.inl ((s1, (s7, (s8, ())))))
noncomputable def spec_l3Times_l6 (N : Nat) : Nat → spec_l3Times_l6_H → Option spec_l3Times_l6_O
 | 0, _ => none
 | k + 1, d => spec_l3Times_l6_r N (spec_l3Times_l6 N k) d
theorem spec_l3Times_l6_ok (N : Nat) (back) (d) : roundR Γ_spec_l3Times (assoc [(8, ⟨spec_l3Times_l8_h, spec_l3Times_l8_o, spec_l3Times_l8 N N⟩)]) 6 spec_l3Times_l6_h spec_l3Times_l6_o (loopOf Tryz.f106 6) back d = spec_l3Times_l6_r N back d := by kernel_rfl
abbrev spec_l3Times_l4_H := (Int × (List (Int × Int × Unit)) × Unit) × List (List Int) × Bool × Unit
abbrev spec_l3Times_l4_O := (List (List Int) × Unit) ⊕ Empty
def spec_l3Times_l4_h : Form := [(1, .box K_PiSPiiqq 0), (3, .own K_SSi 100), (7, .v .bool)]
def spec_l3Times_l4_o : Outs := [(.normal, [(3, .own K_SSi 100)])]
noncomputable def spec_l3Times_l4_r (N : Nat) (back : spec_l3Times_l4_H → Option spec_l3Times_l4_O) (d : spec_l3Times_l4_H) : Option spec_l3Times_l4_O :=
 let s1 : Int × (List (Int × Int × Unit)) × Unit := d.1
 let s3 : List (List Int) := d.2.1
 let s7 : Bool := d.2.2.1
 if (s7) = true then
  (spec_l3Times_l6 N N ((s1, (s3, (false, (([] : List (List Int)), ((0 : Int), ()))))))).bind fun o39 => match o39 with
  | .inl d40 =>
   back ((d40.1, (d40.2.2.1, (d40.2.1, ()))))
 else
  some (.inl (s3, ()))
noncomputable def spec_l3Times_l4 (N : Nat) : Nat → spec_l3Times_l4_H → Option spec_l3Times_l4_O
 | 0, _ => none
 | k + 1, d => spec_l3Times_l4_r N (spec_l3Times_l4 N k) d
theorem spec_l3Times_l4_ok (N : Nat) (back) (d) : roundR Γ_spec_l3Times (assoc [(6, ⟨spec_l3Times_l6_h, spec_l3Times_l6_o, spec_l3Times_l6 N N⟩)]) 4 spec_l3Times_l4_h spec_l3Times_l4_o (loopOf Tryz.f106 4) back d = spec_l3Times_l4_r N back d := by kernel_rfl
noncomputable def F_spec_l3Times (N : Nat) (d : (Int × (List (Int × Int × Unit)) × Unit) × Unit) : Option (List (List Int) × Unit) :=
 let a0 : Int × (List (Int × Int × Unit)) × Unit := d.1
 (spec_l3Times_l0 N N ((a0, (([] : List (List Int)), ((0 : Int), ()))))).bind fun o6 => match o6 with
 | .inl d7 =>
  (spec_l3Times_l4 N N ((d7.1, (d7.2.1, (true, ()))))).bind fun o20 => match o20 with
  | .inl d21 =>
   some (d21.1, ())
theorem F_spec_l3Times_ok (N : Nat) (d) : fnR Γ_spec_l3Times (assoc [(0, ⟨spec_l3Times_l0_h, spec_l3Times_l0_o, spec_l3Times_l0 N N⟩), (4, ⟨spec_l3Times_l4_h, spec_l3Times_l4_o, spec_l3Times_l4 N N⟩)]) true [(K_PiSPiiqq, false)] [K_SSi] Tryz.f106.results.toList (bodyOf Tryz.f106) d = F_spec_l3Times N d := by kernel_rfl
noncomputable def S_spec_l3Times : FSig := ⟨[(K_PiSPiiqq, false)], [K_SSi], true, (G_l3Times)⟩
noncomputable def Γ_spec_l3Chase : Ctx := { tk := assoc tks, ar := assoc ars, fs := assoc [(133, S_spec_l2Ball), (161, S_spec_l3After)] }
abbrev spec_l3Chase_l0_H := List (List Int) × Int × Int × (Int × (List (Int × Int × Unit)) × Unit) × List Int × Int × Unit
abbrev spec_l3Chase_l0_O := (List Int × Int × Unit) ⊕ Empty
def spec_l3Chase_l0_h : Form := [(1, .v K_SSi), (2, .v I), (3, .v I), (4, .box K_PiSPiiqq 0), (9, .v K_Si), (10, .v I)]
def spec_l3Chase_l0_o : Outs := [(.normal, [(9, .v K_Si), (10, .v I)])]
noncomputable def spec_l3Chase_l0_r (N : Nat) (back : spec_l3Chase_l0_H → Option spec_l3Chase_l0_O) (d : spec_l3Chase_l0_H) : Option spec_l3Chase_l0_O :=
 let s1 : List (List Int) := d.1
 let s2 : Int := d.2.1
 let s3 : Int := d.2.2.1
 let s4 : Int × (List (Int × Int × Unit)) × Unit := d.2.2.2.1
 let s9 : List Int := d.2.2.2.2.1
 let s10 : Int := d.2.2.2.2.2.1
 if (idxIn s10 (List.length s9)) = true then
 ((F_spec_l3After 0) ((s4, (s1, (at_ I s9 s10.toNat, (s3, ())))))).bind fun r7 =>
 if (idxIn s2 (List.length s1)) = true then
 if (idxIn s3 (List.length (at_ K_Si s1 s2.toNat))) = true then
 let x8 : Int := IntKind.wrap .i64 (at_ I (at_ K_Si s1 s2.toNat) s3.toNat - (1 : Int))
 if (r7.1 != x8) = true then
  let x9 : Int := IntKind.wrap .i64 (s10 + (1 : Int))
  back ((s1, (s2, (s3, (s4, (s9, (x9, ())))))))
 else
  some (.inl ((s9, (s10, ()))))
 else none
 else none
 else none
noncomputable def spec_l3Chase_l0 (N : Nat) : Nat → spec_l3Chase_l0_H → Option spec_l3Chase_l0_O
 | 0, _ => none
 | k + 1, d => spec_l3Chase_l0_r N (spec_l3Chase_l0 N k) d
theorem spec_l3Chase_l0_ok (N : Nat) (back) (d) : roundR Γ_spec_l3Chase (assoc []) 0 spec_l3Chase_l0_h spec_l3Chase_l0_o (loopOf Tryz.f162 0) back d = spec_l3Chase_l0_r N back d := by kernel_rfl
noncomputable def F_spec_l3Chase (N : Nat) (d : (Int × (List (Int × Int × Unit)) × Unit) × List (List Int) × Int × Int × Unit) : Option (Int × Unit) :=
 let a0 : Int × (List (Int × Int × Unit)) × Unit := d.1
 let a1 : List (List Int) := d.2.1
 let a2 : Int := d.2.2.1
 let a3 : Int := d.2.2.2.1
 ((F_spec_l2Ball 0) ((a0, (a2, ())))).bind fun r1 =>
 (spec_l3Chase_l0 N N ((a1, (a2, (a3, (a0, (r1.1, ((0 : Int), ())))))))).bind fun o5 => match o5 with
 | .inl d6 =>
  if (idxIn d6.2.1 (List.length d6.1)) = true then
  some (at_ I d6.1 d6.2.1.toNat, ())
  else none
theorem F_spec_l3Chase_ok (N : Nat) (d) : fnR Γ_spec_l3Chase (assoc [(0, ⟨spec_l3Chase_l0_h, spec_l3Chase_l0_o, spec_l3Chase_l0 N N⟩)]) true [(K_PiSPiiqq, false), (K_SSi, false), (I, false), (I, false)] [I] Tryz.f162.results.toList (bodyOf Tryz.f162) d = F_spec_l3Chase N d := by kernel_rfl
noncomputable def S_spec_l3Chase : FSig := ⟨[(K_PiSPiiqq, false), (K_SSi, false), (I, false), (I, false)], [I], true, (G_l3Chase)⟩
noncomputable def Γ_spec_CopMove : Ctx := { tk := assoc tks, ar := assoc ars, fs := assoc [(106, S_spec_l3Times), (114, S_spec_l3Two), (162, S_spec_l3Chase)] }
noncomputable def F_spec_CopMove (N : Nat) (d : (Int × (List (Int × Int × Unit)) × Unit) × Int × Int × Unit) : Option (Int × Bool × Unit) :=
 let a0 : Int × (List (Int × Int × Unit)) × Unit := d.1
 let a1 : Int := d.2.1
 let a2 : Int := d.2.2.1
 ((F_spec_l3Two 0) ((a0, (a1, (a2, ()))))).bind fun r1 =>
 if (!r1.1) = true then
  some (((0 : Int), (false, ())))
 else
  (G_l3Times (a0, ())).bind fun r2 =>
  if (idxIn a1 (List.length r2.1)) = true then
  if (idxIn a2 (List.length (at_ K_Si r2.1 a1.toNat))) = true then
  if (decide (at_ I (at_ K_Si r2.1 a1.toNat) a2.toNat < (1 : Int))) = true then
   some (((0 : Int), (false, ())))
  else
   (G_l3Chase ((a0, (r2.1, (a1, (a2, ())))))).bind fun r3 =>
   some ((r3.1, (true, ())))
  else none
  else none
theorem F_spec_CopMove_ok (N : Nat) (d) : fnR Γ_spec_CopMove (assoc []) true [(K_PiSPiiqq, false), (I, false), (I, false)] [I, .bool] Tryz.f146.results.toList (bodyOf Tryz.f146) d = F_spec_CopMove N d := by kernel_rfl
noncomputable def S_spec_CopMove : FSig := ⟨[(K_PiSPiiqq, false), (I, false), (I, false)], [I, .bool], true, (F_spec_CopMove 0)⟩
noncomputable def Γ_spec_l3Flee : Ctx := { tk := assoc tks, ar := assoc ars, fs := assoc [(133, S_spec_l2Ball)] }
abbrev spec_l3Flee_l0_H := List (List Int) × Int × List Int × Int × Int × Unit
abbrev spec_l3Flee_l0_O := (Int × Unit) ⊕ (Int × Unit) ⊕ Empty
def spec_l3Flee_l0_h : Form := [(1, .v K_SSi), (2, .v I), (9, .v K_Si), (10, .v I), (11, .v I)]
def spec_l3Flee_l0_o : Outs := [(.ret, [(8, .v I)]), (.normal, [(10, .v I)])]
noncomputable def spec_l3Flee_l0_r (N : Nat) (back : spec_l3Flee_l0_H → Option spec_l3Flee_l0_O) (d : spec_l3Flee_l0_H) : Option spec_l3Flee_l0_O :=
 let s1 : List (List Int) := d.1
 let s2 : Int := d.2.1
 let s9 : List Int := d.2.2.1
 let s10 : Int := d.2.2.2.1
 let s11 : Int := d.2.2.2.2.1
 if (decide (s11 < (List.length s9 : Int))) = true then
  if (idxIn s2 (List.length s1)) = true then
  if (idxIn s11 (List.length s9)) = true then
  if (idxIn (at_ I s9 s11.toNat) (List.length (at_ K_Si s1 s2.toNat))) = true then
  if (decide (at_ I (at_ K_Si s1 s2.toNat) (at_ I s9 s11.toNat).toNat < (0 : Int))) = true then
   if (idxIn s11 (List.length s9)) = true then
   some (.inl (at_ I s9 s11.toNat, ()))
   else none
  else
   if (idxIn s2 (List.length s1)) = true then
   if (idxIn s11 (List.length s9)) = true then
   if (idxIn (at_ I s9 s11.toNat) (List.length (at_ K_Si s1 s2.toNat))) = true then
   if (idxIn s2 (List.length s1)) = true then
   if (idxIn s10 (List.length (at_ K_Si s1 s2.toNat))) = true then
   if (decide (at_ I (at_ K_Si s1 s2.toNat) (at_ I s9 s11.toNat).toNat > at_ I (at_ K_Si s1 s2.toNat) s10.toNat)) = true then
    if (idxIn s11 (List.length s9)) = true then
    let x7 : Int := IntKind.wrap .i64 (s11 + (1 : Int))
    back ((s1, (s2, (s9, (at_ I s9 s11.toNat, (x7, ()))))))
    else none
   else
    let x8 : Int := IntKind.wrap .i64 (s11 + (1 : Int))
    back ((s1, (s2, (s9, (s10, (x8, ()))))))
   else none
   else none
   else none
   else none
   else none
  else none
  else none
  else none
 else
  some (.inr (.inl (s10, ())))
noncomputable def spec_l3Flee_l0 (N : Nat) : Nat → spec_l3Flee_l0_H → Option spec_l3Flee_l0_O
 | 0, _ => none
 | k + 1, d => spec_l3Flee_l0_r N (spec_l3Flee_l0 N k) d
theorem spec_l3Flee_l0_ok (N : Nat) (back) (d) : roundR Γ_spec_l3Flee (assoc []) 0 spec_l3Flee_l0_h spec_l3Flee_l0_o (loopOf Tryz.f163 0) back d = spec_l3Flee_l0_r N back d := by kernel_rfl
noncomputable def F_spec_l3Flee (N : Nat) (d : (Int × (List (Int × Int × Unit)) × Unit) × List (List Int) × Int × Int × Unit) : Option (Int × Unit) :=
 let a0 : Int × (List (Int × Int × Unit)) × Unit := d.1
 let a1 : List (List Int) := d.2.1
 let a2 : Int := d.2.2.1
 let a3 : Int := d.2.2.2.1
 ((F_spec_l2Ball 0) ((a0, (a3, ())))).bind fun r1 =>
 if (idxIn (0 : Int) (List.length r1.1)) = true then
 (spec_l3Flee_l0 N N ((a1, (a2, (r1.1, (at_ I r1.1 (0 : Int).toNat, ((0 : Int), ()))))))).bind fun o4 => match o4 with
 | .inl d5 =>
  some (d5.1, ())
 | .inr (.inl d6) =>
  some (d6.1, ())
 else none
theorem F_spec_l3Flee_ok (N : Nat) (d) : fnR Γ_spec_l3Flee (assoc [(0, ⟨spec_l3Flee_l0_h, spec_l3Flee_l0_o, spec_l3Flee_l0 N N⟩)]) true [(K_PiSPiiqq, false), (K_SSi, false), (I, false), (I, false)] [I] Tryz.f163.results.toList (bodyOf Tryz.f163) d = F_spec_l3Flee N d := by kernel_rfl
noncomputable def S_spec_l3Flee : FSig := ⟨[(K_PiSPiiqq, false), (K_SSi, false), (I, false), (I, false)], [I], true, (G_l3Flee)⟩
noncomputable def Γ_spec_RobberMove : Ctx := { tk := assoc tks, ar := assoc ars, fs := assoc [(106, S_spec_l3Times), (114, S_spec_l3Two), (163, S_spec_l3Flee)] }
noncomputable def F_spec_RobberMove (N : Nat) (d : (Int × (List (Int × Int × Unit)) × Unit) × Int × Int × Unit) : Option (Int × Bool × Unit) :=
 let a0 : Int × (List (Int × Int × Unit)) × Unit := d.1
 let a1 : Int := d.2.1
 let a2 : Int := d.2.2.1
 ((F_spec_l3Two 0) ((a0, (a1, (a2, ()))))).bind fun r1 =>
 if (!r1.1) = true then
  some (((0 : Int), (false, ())))
 else
  if (a1 == a2) = true then
   some (((0 : Int), (false, ())))
  else
   (G_l3Times (a0, ())).bind fun r2 =>
   (G_l3Flee ((a0, (r2.1, (a1, (a2, ())))))).bind fun r3 =>
   some ((r3.1, (true, ())))
theorem F_spec_RobberMove_ok (N : Nat) (d) : fnR Γ_spec_RobberMove (assoc []) true [(K_PiSPiiqq, false), (I, false), (I, false)] [I, .bool] Tryz.f147.results.toList (bodyOf Tryz.f147) d = F_spec_RobberMove N d := by kernel_rfl
noncomputable def S_spec_RobberMove : FSig := ⟨[(K_PiSPiiqq, false), (I, false), (I, false)], [I, .bool], true, (F_spec_RobberMove 0)⟩
noncomputable def Γ_spec_l12Play : Ctx := { tk := assoc tks, ar := assoc ars, fs := assoc [(55, S_spec_l12Own), (146, S_spec_CopMove), (147, S_spec_RobberMove)] }
noncomputable def F_spec_l12Play (N : Nat) (d : ((Int × (List (Int × Int × Unit)) × Unit) × Int × Int × List Int × Int × Unit) × Unit) : Option (((Int × (List (Int × Int × Unit)) × Unit) × Int × Int × List Int × Int × Unit) × Unit) :=
 let a0 : (Int × (List (Int × Int × Unit)) × Unit) × Int × Int × List Int × Int × Unit := d.1
 ((F_spec_l12Own 0) (a0, ())).bind fun r1 =>
 ((F_spec_CopMove 0) ((a0.1, (a0.2.1, (a0.2.2.1, ()))))).bind fun r2 =>
 if (r2.2.1) = true then
  ((F_spec_RobberMove 0) ((a0.1, (r2.1, (a0.2.2.1, ()))))).bind fun r3 =>
  if (r3.2.1) = true then
   some (((r1.1.1, (r2.1, (r3.1, r1.1.2.2.2))), ()))
  else
   some (((r1.1.1, (r2.1, r1.1.2.2)), ()))
 else
  ((F_spec_RobberMove 0) ((a0.1, (r1.1.2.1, (a0.2.2.1, ()))))).bind fun r4 =>
  if (r4.2.1) = true then
   some (((r1.1.1, (r1.1.2.1, (r4.1, r1.1.2.2.2))), ()))
  else
   some (r1.1, ())
theorem F_spec_l12Play_ok (N : Nat) (d) : fnR Γ_spec_l12Play (assoc []) true [(K_PPiSPiiqqiiSiiq, false)] [K_PPiSPiiqqiiSiiq] Tryz.f119.results.toList (bodyOf Tryz.f119) d = F_spec_l12Play N d := by kernel_rfl
noncomputable def S_spec_l12Play : FSig := ⟨[(K_PPiSPiiqqiiSiiq, false)], [K_PPiSPiiqqiiSiiq], true, (F_spec_l12Play 0)⟩
noncomputable def Γ_spec_l5Among : Ctx := { tk := assoc tks, ar := assoc ars, fs := assoc [(120, S_spec_l1Has), (152, S_spec_l2Neighbors)] }
abbrev spec_l5Among_l0_H := List Int × List Int × List Int × Int × Unit
abbrev spec_l5Among_l0_O := (List Int × Unit) ⊕ Empty
def spec_l5Among_l0_h : Form := [(1, .v K_Si), (7, .own K_Si 99), (8, .own K_Si 99), (9, .v I)]
def spec_l5Among_l0_o : Outs := [(.normal, [(7, .own K_Si 99)])]
noncomputable def spec_l5Among_l0_r (N : Nat) (back : spec_l5Among_l0_H → Option spec_l5Among_l0_O) (d : spec_l5Among_l0_H) : Option spec_l5Among_l0_O :=
 let s1 : List Int := d.1
 let s7 : List Int := d.2.1
 let s8 : List Int := d.2.2.1
 let s9 : Int := d.2.2.2.1
 if (decide (s9 < (List.length s8 : Int))) = true then
  if (idxIn s9 (List.length s8)) = true then
  (G_l1Has ((s1, (at_ I s8 s9.toNat, ())))).bind fun r7 =>
  if (!r7.1) = true then
   if (idxIn s9 (List.length s8)) = true then
   if (decide (List.length s7 + List.length ([at_ I s8 s9.toNat]) ≤ lim)) = true then
   let x8 : Int := IntKind.wrap .i64 (s9 + (1 : Int))
   back ((s1, (s7 ++ ([at_ I s8 s9.toNat]), (s8, (x8, ())))))
   else none
   else none
  else
   let x9 : Int := IntKind.wrap .i64 (s9 + (1 : Int))
   back ((s1, (s7, (s8, (x9, ())))))
  else none
 else
  some (.inl (s7, ()))
noncomputable def spec_l5Among_l0 (N : Nat) : Nat → spec_l5Among_l0_H → Option spec_l5Among_l0_O
 | 0, _ => none
 | k + 1, d => spec_l5Among_l0_r N (spec_l5Among_l0 N k) d
theorem spec_l5Among_l0_ok (N : Nat) (back) (d) : roundR Γ_spec_l5Among (assoc []) 0 spec_l5Among_l0_h spec_l5Among_l0_o (loopOf Tryz.f164 0) back d = spec_l5Among_l0_r N back d := by kernel_rfl
noncomputable def F_spec_l5Among (N : Nat) (d : (Int × (List (Int × Int × Unit)) × Unit) × List Int × Int × Unit) : Option (List Int × Unit) :=
 let a0 : Int × (List (Int × Int × Unit)) × Unit := d.1
 let a1 : List Int := d.2.1
 let a2 : Int := d.2.2.1
 (G_l2Neighbors ((a0, (a2, ())))).bind fun r1 =>
 (spec_l5Among_l0 N N ((a1, (([] : List Int), (r1.1, ((0 : Int), ())))))).bind fun o5 => match o5 with
 | .inl d6 =>
  some (d6.1, ())
theorem F_spec_l5Among_ok (N : Nat) (d) : fnR Γ_spec_l5Among (assoc [(0, ⟨spec_l5Among_l0_h, spec_l5Among_l0_o, spec_l5Among_l0 N N⟩)]) true [(K_PiSPiiqq, false), (K_Si, false), (I, false)] [K_Si] Tryz.f164.results.toList (bodyOf Tryz.f164) d = F_spec_l5Among N d := by kernel_rfl
noncomputable def S_spec_l5Among : FSig := ⟨[(K_PiSPiiqq, false), (K_Si, false), (I, false)], [K_Si], true, (G_l5Among)⟩
noncomputable def Γ_spec_l9Open : Ctx := { tk := assoc tks, ar := assoc ars, fs := assoc [(164, S_spec_l5Among)] }
noncomputable def F_spec_l9Open (N : Nat) (d : (Int × (List (Int × Int × Unit)) × Unit) × List Int × Int × Unit) : Option (List Int × Unit) :=
 let a0 : Int × (List (Int × Int × Unit)) × Unit := d.1
 let a1 : List Int := d.2.1
 let a2 : Int := d.2.2.1
 (G_l5Among ((a0, (a1, (a2, ()))))).bind fun r1 =>
 some (r1.1, ())
theorem F_spec_l9Open_ok (N : Nat) (d) : fnR Γ_spec_l9Open (assoc []) true [(K_PiSPiiqq, false), (K_Si, false), (I, false)] [K_Si] Tryz.f148.results.toList (bodyOf Tryz.f148) d = F_spec_l9Open N d := by kernel_rfl
noncomputable def S_spec_l9Open : FSig := ⟨[(K_PiSPiiqq, false), (K_Si, false), (I, false)], [K_Si], true, (F_spec_l9Open 0)⟩
noncomputable def Γ_spec_l9Once : Ctx := { tk := assoc tks, ar := assoc ars, fs := assoc [(91, S_spec_l1Own), (120, S_spec_l1Has), (122, S_spec_l1Put), (148, S_spec_l9Open)], dm := fun t => Nat.beq t 7, cs := assoc [] }
abbrev spec_l9Once_l0_H := List Int × Bool × (Int × (List (Int × Int × Unit)) × Unit) × List Int × Int × Unit
abbrev spec_l9Once_l0_O := (List Int × Unit) ⊕ Empty
def spec_l9Once_l0_h : Form := [(1, .v K_Si), (2, .v .bool), (3, .box K_PiSPiiqq 0), (7, .v K_Si), (8, .v I)]
def spec_l9Once_l0_o : Outs := [(.normal, [(7, .v K_Si)])]
noncomputable def spec_l9Once_l0_r (N : Nat) (back : spec_l9Once_l0_H → Option spec_l9Once_l0_O) (d : spec_l9Once_l0_H) : Option spec_l9Once_l0_O :=
 let s1 : List Int := d.1
 let s2 : Bool := d.2.1
 let s3 : Int × (List (Int × Int × Unit)) × Unit := d.2.2.1
 let s7 : List Int := d.2.2.2.1
 let s8 : Int := d.2.2.2.2.1
 if (decide (s8 < s3.1)) = true then
  ((F_spec_l9Open 0) ((s3, (s1, (s8, ()))))).bind fun r23 =>
  if ((List.length r23.1 : Int) == (1 : Int)) = true then
   if (s2) = true then
    if (idxIn (0 : Int) (List.length r23.1)) = true then
    (G_l1Put ((s7, (at_ I r23.1 (0 : Int).toNat, ())))).bind fun r24 =>
    let x25 : Int := IntKind.wrap .i64 (s8 + (1 : Int))
    back ((s1, (s2, (s3, (r24.1, (x25, ()))))))
    else none
   else
    (G_l1Has ((s1, (s8, ())))).bind fun r26 =>
    if (r26.1) = true then
     if (idxIn (0 : Int) (List.length r23.1)) = true then
     (G_l1Put ((s7, (at_ I r23.1 (0 : Int).toNat, ())))).bind fun r27 =>
     let x28 : Int := IntKind.wrap .i64 (s8 + (1 : Int))
     back ((s1, (s2, (s3, (r27.1, (x28, ()))))))
     else none
    else
     let x29 : Int := IntKind.wrap .i64 (s8 + (1 : Int))
     back ((s1, (s2, (s3, (s7, (x29, ()))))))
  else
   let x30 : Int := IntKind.wrap .i64 (s8 + (1 : Int))
   back ((s1, (s2, (s3, (s7, (x30, ()))))))
 else
  some (.inl (s7, ()))
noncomputable def spec_l9Once_l0 (N : Nat) : Nat → spec_l9Once_l0_H → Option spec_l9Once_l0_O
 | 0, _ => none
 | k + 1, d => spec_l9Once_l0_r N (spec_l9Once_l0 N k) d
theorem spec_l9Once_l0_ok (N : Nat) (back) (d) : roundR Γ_spec_l9Once (assoc []) 0 spec_l9Once_l0_h spec_l9Once_l0_o (loopOf Tryz.f123 0) back d = spec_l9Once_l0_r N back d := by kernel_rfl
noncomputable def F_spec_l9Once (N : Nat) (d : (Int × (List (Int × Int × Unit)) × Unit) × List Int × Bool × Unit) : Option (List Int × Unit) :=
 let a0 : Int × (List (Int × Int × Unit)) × Unit := d.1
 let a1 : List Int := d.2.1
 let a2 : Bool := d.2.2.1
 ((F_spec_l1Own 0) (a1, ())).bind fun r12 =>
 (spec_l9Once_l0 N N ((a1, (a2, (a0, (r12.1, ((0 : Int), ()))))))).bind fun o21 => match o21 with
 | .inl d22 =>
  some (d22.1, ())
theorem F_spec_l9Once_ok (N : Nat) (d) : fnR Γ_spec_l9Once (assoc [(0, ⟨spec_l9Once_l0_h, spec_l9Once_l0_o, spec_l9Once_l0 N N⟩)]) false [(K_PiSPiiqq, false), (K_Si, false), (.bool, false)] [K_Si] Tryz.f123.results.toList (bodyOf Tryz.f123) d = F_spec_l9Once N d := by kernel_rfl
noncomputable def S_spec_l9Once : FSig := ⟨[(K_PiSPiiqq, false), (K_Si, false), (.bool, false)], [K_Si], false, (G_l9Once)⟩
noncomputable def Γ_spec_l5Rest : Ctx := { tk := assoc tks, ar := assoc ars, fs := assoc [(120, S_spec_l1Has)] }
abbrev spec_l5Rest_l0_H := List Int × (Int × (List (Int × Int × Unit)) × Unit) × List Int × Int × Unit
abbrev spec_l5Rest_l0_O := (List Int × Unit) ⊕ Empty
def spec_l5Rest_l0_h : Form := [(1, .v K_Si), (2, .box K_PiSPiiqq 0), (5, .own K_Si 99), (6, .v I)]
def spec_l5Rest_l0_o : Outs := [(.normal, [(5, .own K_Si 99)])]
noncomputable def spec_l5Rest_l0_r (N : Nat) (back : spec_l5Rest_l0_H → Option spec_l5Rest_l0_O) (d : spec_l5Rest_l0_H) : Option spec_l5Rest_l0_O :=
 let s1 : List Int := d.1
 let s2 : Int × (List (Int × Int × Unit)) × Unit := d.2.1
 let s5 : List Int := d.2.2.1
 let s6 : Int := d.2.2.2.1
 if (decide (s6 < s2.1)) = true then
  (G_l1Has ((s1, (s6, ())))).bind fun r6 =>
  if (!r6.1) = true then
   if (decide (List.length s5 + List.length ([s6]) ≤ lim)) = true then
   let x7 : Int := IntKind.wrap .i64 (s6 + (1 : Int))
   back ((s1, (s2, (s5 ++ ([s6]), (x7, ())))))
   else none
  else
   let x8 : Int := IntKind.wrap .i64 (s6 + (1 : Int))
   back ((s1, (s2, (s5, (x8, ())))))
 else
  some (.inl (s5, ()))
noncomputable def spec_l5Rest_l0 (N : Nat) : Nat → spec_l5Rest_l0_H → Option spec_l5Rest_l0_O
 | 0, _ => none
 | k + 1, d => spec_l5Rest_l0_r N (spec_l5Rest_l0 N k) d
theorem spec_l5Rest_l0_ok (N : Nat) (back) (d) : roundR Γ_spec_l5Rest (assoc []) 0 spec_l5Rest_l0_h spec_l5Rest_l0_o (loopOf Tryz.f124 0) back d = spec_l5Rest_l0_r N back d := by kernel_rfl
noncomputable def F_spec_l5Rest (N : Nat) (d : (Int × (List (Int × Int × Unit)) × Unit) × List Int × Unit) : Option (List Int × Unit) :=
 let a0 : Int × (List (Int × Int × Unit)) × Unit := d.1
 let a1 : List Int := d.2.1
 (spec_l5Rest_l0 N N ((a1, (a0, (([] : List Int), ((0 : Int), ())))))).bind fun o4 => match o4 with
 | .inl d5 =>
  some (d5.1, ())
theorem F_spec_l5Rest_ok (N : Nat) (d) : fnR Γ_spec_l5Rest (assoc [(0, ⟨spec_l5Rest_l0_h, spec_l5Rest_l0_o, spec_l5Rest_l0 N N⟩)]) true [(K_PiSPiiqq, false), (K_Si, false)] [K_Si] Tryz.f124.results.toList (bodyOf Tryz.f124) d = F_spec_l5Rest N d := by kernel_rfl
noncomputable def S_spec_l5Rest : FSig := ⟨[(K_PiSPiiqq, false), (K_Si, false)], [K_Si], true, (G_l5Rest)⟩
noncomputable def Γ_spec_l12Make : Ctx := { tk := assoc tks, ar := assoc ars, fs := assoc [(55, S_spec_l12Own), (117, S_spec_l12Drop), (118, S_spec_ToggleEdge), (119, S_spec_l12Play), (120, S_spec_l1Has), (121, S_spec_l2Without), (122, S_spec_l1Put), (123, S_spec_l9Once), (124, S_spec_l5Rest)] }
noncomputable def F_spec_l12Make (N : Nat) (d : ((Int × (List (Int × Int × Unit)) × Unit) × Int × Int × List Int × Int × Unit) × (Int × Int × Int × Unit) × Unit) : Option (((Int × (List (Int × Int × Unit)) × Unit) × Int × Int × List Int × Int × Unit) × Unit) :=
 let a0 : (Int × (List (Int × Int × Unit)) × Unit) × Int × Int × List Int × Int × Unit := d.1
 let a1 : Int × Int × Int × Unit := d.2.1
 ((F_spec_l12Own 0) (a0, ())).bind fun r9 =>
 if (a1.1 == (1 : Int)) = true then
  let x10 : Int := IntKind.wrap .i64 (r9.1.1.1 + (1 : Int))
  some ((((x10, r9.1.1.2), r9.1.2), ()))
 else
  if (a1.1 == (2 : Int)) = true then
   (G_l12Drop ((a0, (a1.2.1, ())))).bind fun r11 =>
   some (r11.1, ())
  else
   if (a1.1 == (3 : Int)) = true then
    (G_ToggleEdge ((a0.1, (a1.2.1, (a1.2.2.1, ()))))).bind fun r12 =>
    some ((r12.1, r9.1.2), ())
   else
    if (a1.1 == (4 : Int)) = true then
     some (((r9.1.1, (a1.2.1, r9.1.2.2)), ()))
    else
     if (a1.1 == (5 : Int)) = true then
      some (((r9.1.1, (r9.1.2.1, (a1.2.1, r9.1.2.2.2))), ()))
     else
      if (a1.1 == (6 : Int)) = true then
       some (((r9.1.1, (a1.2.1, (a1.2.2.1, r9.1.2.2.2))), ()))
      else
       if (a1.1 == (7 : Int)) = true then
        ((F_spec_l12Play 0) (a0, ())).bind fun r13 =>
        some (r13.1, ())
       else
        if (a1.1 == (8 : Int)) = true then
         (G_l1Has ((a0.2.2.2.1, (a1.2.1, ())))).bind fun r14 =>
         if (r14.1) = true then
          (G_l2Without ((a0.2.2.2.1, (a1.2.1, ())))).bind fun r15 =>
          some (((r9.1.1, (r9.1.2.1, (r9.1.2.2.1, (r15.1, r9.1.2.2.2.2)))), ()))
         else
          (G_l1Put ((a0.2.2.2.1, (a1.2.1, ())))).bind fun r16 =>
          some (((r9.1.1, (r9.1.2.1, (r9.1.2.2.1, (r16.1, r9.1.2.2.2.2)))), ()))
        else
         if (a1.1 == (9 : Int)) = true then
          (G_l9Once ((a0.1, (a0.2.2.2.1, (false, ()))))).bind fun r17 =>
          some (((r9.1.1, (r9.1.2.1, (r9.1.2.2.1, (r17.1, r9.1.2.2.2.2)))), ()))
         else
          if (a1.1 == (10 : Int)) = true then
           (G_l5Rest ((a0.1, (a0.2.2.2.1, ())))).bind fun r18 =>
           some (((r9.1.1, (r9.1.2.1, (r9.1.2.2.1, (r18.1, r9.1.2.2.2.2)))), ()))
          else
           some (r9.1, ())
theorem F_spec_l12Make_ok (N : Nat) (d) : fnR Γ_spec_l12Make (assoc []) false [(K_PPiSPiiqqiiSiiq, false), (K_Piiiq, false)] [K_PPiSPiiqqiiSiiq] Tryz.f80.results.toList (bodyOf Tryz.f80) d = F_spec_l12Make N d := by kernel_rfl
noncomputable def S_spec_l12Make : FSig := ⟨[(K_PPiSPiiqqiiSiiq, false), (K_Piiiq, false)], [K_PPiSPiiqqiiSiiq], false, (F_spec_l12Make 0)⟩
noncomputable def Γ_spec_l12Do : Ctx := { tk := assoc tks, ar := assoc ars, fs := assoc [(44, S_spec_l12Good), (79, S_spec_l12May), (80, S_spec_l12Make)] }
noncomputable def F_spec_l12Do (N : Nat) (d : ((Int × (List (Int × Int × Unit)) × Unit) × Int × Int × List Int × Int × Unit) × (Int × Int × Int × Unit) × Unit) : Option (((Int × (List (Int × Int × Unit)) × Unit) × Int × Int × List Int × Int × Unit) × Bool × Unit) :=
 let a0 : (Int × (List (Int × Int × Unit)) × Unit) × Int × Int × List Int × Int × Unit := d.1
 let a1 : Int × Int × Int × Unit := d.2.1
 ((F_spec_l12May 0) ((a0, (a1, ())))).bind fun r5 =>
 if (!r5.1) = true then
  some (((((0 : Int), (([] : List (Int × Int × Unit)), ())), ((0 : Int), ((0 : Int), (([] : List Int), ((0 : Int), ()))))), (false, ())))
 else
  ((F_spec_l12Make 0) ((a0, (a1, ())))).bind fun r6 =>
  let x7 : Int := IntKind.wrap .i64 (a0.2.2.2.2.1 + (1 : Int))
  ((F_spec_l12Good 0) (((r6.1.1, (r6.1.2.1, (r6.1.2.2.1, (r6.1.2.2.2.1, (x7, r6.1.2.2.2.2.2))))), ()))).bind fun r8 =>
  if (!r8.1) = true then
   some (((((0 : Int), (([] : List (Int × Int × Unit)), ())), ((0 : Int), ((0 : Int), (([] : List Int), ((0 : Int), ()))))), (false, ())))
  else
   some (((r6.1.1, (r6.1.2.1, (r6.1.2.2.1, (r6.1.2.2.2.1, (x7, r6.1.2.2.2.2.2))))), (true, ())))
theorem F_spec_l12Do_ok (N : Nat) (d) : fnR Γ_spec_l12Do (assoc []) false [(K_PPiSPiiqqiiSiiq, false), (K_Piiiq, false)] [K_PPiSPiiqqiiSiiq, .bool] Tryz.f45.results.toList (bodyOf Tryz.f45) d = F_spec_l12Do N d := by kernel_rfl
noncomputable def S_spec_l12Do : FSig := ⟨[(K_PPiSPiiqqiiSiiq, false), (K_Piiiq, false)], [K_PPiSPiiqqiiSiiq, .bool], false, (G_do)⟩
noncomputable def Γ_spec_DoWorks : Ctx := { tk := assoc tks, ar := assoc ars, fs := assoc [(44, S_spec_l12Good), (45, S_spec_l12Do), (55, S_spec_l12Own)] }
abbrev spec_DoWorks_l0_H := (List (Int × Int × Int × Unit)) × ((Int × (List (Int × Int × Unit)) × Unit) × Int × Int × List Int × Int × Unit) × ((Int × (List (Int × Int × Unit)) × Unit) × Int × Int × List Int × Int × Unit) × Int × Unit
abbrev spec_DoWorks_l0_O := (((Int × (List (Int × Int × Unit)) × Unit) × Int × Int × List Int × Int × Unit) × Int × Bool × Unit) ⊕ ((List (Int × Int × Int × Unit)) × ((Int × (List (Int × Int × Unit)) × Unit) × Int × Int × List Int × Int × Unit) × ((Int × (List (Int × Int × Unit)) × Unit) × Int × Int × List Int × Int × Unit) × Unit) ⊕ Empty
def spec_DoWorks_l0_h : Form := [(1, .v K_SPiiiq), (4, .box K_PPiSPiiqqiiSiiq 99), (7, .box K_PPiSPiiqqiiSiiq 0), (8, .v I)]
def spec_DoWorks_l0_o : Outs := [(.ret, [(4, .box K_PPiSPiiqqiiSiiq 0), (5, .v I), (6, .v .bool)]), (.normal, [(1, .v K_SPiiiq), (4, .box K_PPiSPiiqqiiSiiq 99), (7, .box K_PPiSPiiqqiiSiiq 0)])]
noncomputable def spec_DoWorks_l0_r (N : Nat) (back : spec_DoWorks_l0_H → Option spec_DoWorks_l0_O) (d : spec_DoWorks_l0_H) : Option spec_DoWorks_l0_O :=
 let s1 : List (Int × Int × Int × Unit) := d.1
 let s4 : (Int × (List (Int × Int × Unit)) × Unit) × Int × Int × List Int × Int × Unit := d.2.1
 let s7 : (Int × (List (Int × Int × Unit)) × Unit) × Int × Int × List Int × Int × Unit := d.2.2.1
 let s8 : Int := d.2.2.2.1
 if (decide (s8 < (List.length s1 : Int))) = true then
  if (idxIn s8 (List.length s1)) = true then
  (G_do ((s7, (at_ K_Piiiq s1 s8.toNat, ())))).bind fun r16 =>
  if (!r16.2.1) = true then
   some (.inl ((s7, (s8, (true, ())))))
  else
   let x17 : Int := IntKind.wrap .i64 (s8 + (1 : Int))
   back ((s1, (s4, (r16.1, (x17, ())))))
  else none
 else
  some (.inr (.inl ((s1, (s4, (s7, ()))))))
noncomputable def spec_DoWorks_l0 (N : Nat) : Nat → spec_DoWorks_l0_H → Option spec_DoWorks_l0_O
 | 0, _ => none
 | k + 1, d => spec_DoWorks_l0_r N (spec_DoWorks_l0 N k) d
theorem spec_DoWorks_l0_ok (N : Nat) (back) (d) : roundR Γ_spec_DoWorks (assoc []) 0 spec_DoWorks_l0_h spec_DoWorks_l0_o (loopOf Tryz.f26 0) back d = spec_DoWorks_l0_r N back d := by kernel_rfl
noncomputable def F_spec_DoWorks (N : Nat) (d : ((Int × (List (Int × Int × Unit)) × Unit) × Int × Int × List Int × Int × Unit) × (List (Int × Int × Int × Unit)) × Unit) : Option (((Int × (List (Int × Int × Unit)) × Unit) × Int × Int × List Int × Int × Unit) × Int × Bool × Unit) :=
 let a0 : (Int × (List (Int × Int × Unit)) × Unit) × Int × Int × List Int × Int × Unit := d.1
 let a1 : List (Int × Int × Int × Unit) := d.2.1
 ((F_spec_l12Good 0) (a0, ())).bind fun r9 =>
 if (!r9.1) = true then
  some (((((0 : Int), (([] : List (Int × Int × Unit)), ())), ((0 : Int), ((0 : Int), (([] : List Int), ((0 : Int), ()))))), ((0 : Int), (false, ()))))
 else
  ((F_spec_l12Own 0) (a0, ())).bind fun r10 =>
  (spec_DoWorks_l0 N N ((a1, ((((0 : Int), (([] : List (Int × Int × Unit)), ())), ((0 : Int), ((0 : Int), (([] : List Int), ((0 : Int), ()))))), (r10.1, ((0 : Int), ())))))).bind fun o13 => match o13 with
  | .inl d14 =>
   some ((d14.1, (d14.2.1, (d14.2.2.1, ()))))
  | .inr (.inl d15) =>
   some ((d15.2.2.1, ((List.length d15.1 : Int), (true, ()))))
theorem F_spec_DoWorks_ok (N : Nat) (d) : fnR Γ_spec_DoWorks (assoc [(0, ⟨spec_DoWorks_l0_h, spec_DoWorks_l0_o, spec_DoWorks_l0 N N⟩)]) false [(K_PPiSPiiqqiiSiiq, false), (K_SPiiiq, false)] [K_PPiSPiiqqiiSiiq, I, .bool] Tryz.f26.results.toList (bodyOf Tryz.f26) d = F_spec_DoWorks N d := by kernel_rfl
noncomputable def S_spec_DoWorks : FSig := ⟨[(K_PPiSPiiqqiiSiiq, false), (K_SPiiiq, false)], [K_PPiSPiiqqiiSiiq, I, .bool], false, (G_DoWorks)⟩
noncomputable def Γ_impl_within : Ctx := { tk := assoc tks, ar := assoc ars, fs := assoc [] }
noncomputable def F_impl_within (N : Nat) (d : Int × Int × Int × Unit) : Option (Bool × Unit) :=
 let a0 : Int := d.1
 let a1 : Int := d.2.1
 let a2 : Int := d.2.2.1
 if (decide (a0 ≥ a1)) = true then
  some (decide (a0 ≤ a2), ())
 else
  some (false, ())
theorem F_impl_within_ok (N : Nat) (d) : fnR Γ_impl_within (assoc []) true [(I, false), (I, false), (I, false)] [.bool] Tryz.f64.results.toList (bodyOf Tryz.f64) d = F_impl_within N d := by kernel_rfl
noncomputable def g_impl_within (d : Int × Int × Int × Unit) : Bool × Unit :=
 let a0 : Int := d.1
 let a1 : Int := d.2.1
 let a2 : Int := d.2.2.1
 if (decide (a0 ≥ a1)) = true then
  (decide (a0 ≤ a2), ())
 else
  (false, ())
theorem F_impl_within_tot (N : Nat) (d) : F_impl_within N d = some (g_impl_within d) := by
 unfold F_impl_within g_impl_within
 first
  | rfl
  | (dsimp only; (repeat' split) <;> rfl)
noncomputable def S_impl_within : FSig := ⟨[(I, false), (I, false), (I, false)], [.bool], true, (fun d => some (g_impl_within d))⟩
noncomputable def Γ_cmp_isNaN_int : Ctx := { tk := assoc tks, ar := assoc ars, fs := assoc [] }
noncomputable def F_cmp_isNaN_int (N : Nat) (d : Int × Unit) : Option (Bool × Unit) :=
 let a0 : Int := d.1
 some (a0 != a0, ())
theorem F_cmp_isNaN_int_ok (N : Nat) (d) : fnR Γ_cmp_isNaN_int (assoc []) true [(I, false)] [.bool] Tryz.f157.results.toList (bodyOf Tryz.f157) d = F_cmp_isNaN_int N d := by kernel_rfl
noncomputable def g_cmp_isNaN_int (d : Int × Unit) : Bool × Unit :=
 let a0 : Int := d.1
 (a0 != a0, ())
theorem F_cmp_isNaN_int_tot (N : Nat) (d) : F_cmp_isNaN_int N d = some (g_cmp_isNaN_int d) := by
 unfold F_cmp_isNaN_int g_cmp_isNaN_int
 first
  | rfl
  | (dsimp only; (repeat' split) <;> rfl)
noncomputable def S_cmp_isNaN_int : FSig := ⟨[(I, false)], [.bool], true, (fun d => some (g_cmp_isNaN_int d))⟩
noncomputable def Γ_cmp_Compare_int : Ctx := { tk := assoc tks, ar := assoc ars, fs := assoc [(157, S_cmp_isNaN_int)] }
noncomputable def F_cmp_Compare_int (N : Nat) (d : Int × Int × Unit) : Option (Int × Unit) :=
 let a0 : Int := d.1
 let a1 : Int := d.2.1
 let r1 : Bool × Unit := g_cmp_isNaN_int (a0, ())
 let r2 : Bool × Unit := g_cmp_isNaN_int (a1, ())
 if (r1.1) = true then
  if (r2.1) = true then
   some ((0 : Int), ())
  else
   some ((-1 : Int), ())
 else
  if (r2.1) = true then
   some ((1 : Int), ())
  else
   if (decide (a0 < a1)) = true then
    some ((-1 : Int), ())
   else
    if (decide (a0 > a1)) = true then
     some ((1 : Int), ())
    else
     some ((0 : Int), ())
theorem F_cmp_Compare_int_ok (N : Nat) (d) : fnR Γ_cmp_Compare_int (assoc []) true [(I, false), (I, false)] [I] Tryz.f137.results.toList (bodyOf Tryz.f137) d = F_cmp_Compare_int N d := by kernel_rfl
noncomputable def g_cmp_Compare_int (d : Int × Int × Unit) : Int × Unit :=
 let a0 : Int := d.1
 let a1 : Int := d.2.1
 let r1 : Bool × Unit := g_cmp_isNaN_int (a0, ())
 let r2 : Bool × Unit := g_cmp_isNaN_int (a1, ())
 if (r1.1) = true then
  if (r2.1) = true then
   ((0 : Int), ())
  else
   ((-1 : Int), ())
 else
  if (r2.1) = true then
   ((1 : Int), ())
  else
   if (decide (a0 < a1)) = true then
    ((-1 : Int), ())
   else
    if (decide (a0 > a1)) = true then
     ((1 : Int), ())
    else
     ((0 : Int), ())
theorem F_cmp_Compare_int_tot (N : Nat) (d) : F_cmp_Compare_int N d = some (g_cmp_Compare_int d) := by
 unfold F_cmp_Compare_int g_cmp_Compare_int
 first
  | rfl
  | (dsimp only; (repeat' split) <;> rfl)
noncomputable def S_cmp_Compare_int : FSig := ⟨[(I, false), (I, false)], [I], true, (fun d => some (g_cmp_Compare_int d))⟩
noncomputable def Γ_slices_Compare_Sint_int : Ctx := { tk := assoc tks, ar := assoc ars, fs := assoc [(137, S_cmp_Compare_int)] }
abbrev slices_Compare_Sint_int_l0_H := List Int × List Int × List Int × Int × Int × Unit
abbrev slices_Compare_Sint_int_l0_O := (Int × Unit) ⊕ (List Int × List Int × Unit) ⊕ Empty
def slices_Compare_Sint_int_l0_h : Form := [(0, .v K_Si), (1, .v K_Si), (9, .v K_Si), (10, .v I), (11, .v I)]
def slices_Compare_Sint_int_l0_o : Outs := [(.ret, [(4, .v I)]), (.normal, [(0, .v K_Si), (1, .v K_Si)])]
noncomputable def slices_Compare_Sint_int_l0_r (N : Nat) (back : slices_Compare_Sint_int_l0_H → Option slices_Compare_Sint_int_l0_O) (d : slices_Compare_Sint_int_l0_H) : Option slices_Compare_Sint_int_l0_O :=
 let s0 : List Int := d.1
 let s1 : List Int := d.2.1
 let s9 : List Int := d.2.2.1
 let s10 : Int := d.2.2.2.1
 let s11 : Int := d.2.2.2.2.1
 if (decide (s11 < s10)) = true then
  if (idxIn s11 (List.length s9)) = true then
  if (decide (s11 ≥ (List.length s1 : Int))) = true then
   some (.inl ((1 : Int), ()))
  else
   if (idxIn s11 (List.length s1)) = true then
   let r6 : Int × Unit := g_cmp_Compare_int ((at_ I s9 s11.toNat, (at_ I s1 s11.toNat, ())))
   if (r6.1 != (0 : Int)) = true then
    some (.inl (r6.1, ()))
   else
    let x7 : Int := IntKind.wrap .i64 (s11 + (1 : Int))
    back ((s0, (s1, (s9, (s10, (x7, ()))))))
   else none
  else none
 else
  some (.inr (.inl ((s0, (s1, ())))))
noncomputable def slices_Compare_Sint_int_l0 (N : Nat) : Nat → slices_Compare_Sint_int_l0_H → Option slices_Compare_Sint_int_l0_O
 | 0, _ => none
 | k + 1, d => slices_Compare_Sint_int_l0_r N (slices_Compare_Sint_int_l0 N k) d
theorem slices_Compare_Sint_int_l0_ok (N : Nat) (back) (d) : roundR Γ_slices_Compare_Sint_int (assoc []) 0 slices_Compare_Sint_int_l0_h slices_Compare_Sint_int_l0_o (loopOf Tryz.f96 0) back d = slices_Compare_Sint_int_l0_r N back d := by kernel_rfl
noncomputable def F_slices_Compare_Sint_int (N : Nat) (d : List Int × List Int × Unit) : Option (Int × Unit) :=
 let a0 : List Int := d.1
 let a1 : List Int := d.2.1
 (slices_Compare_Sint_int_l0 N N ((a0, (a1, (a0, ((List.length a0 : Int), ((0 : Int), ()))))))).bind fun o3 => match o3 with
 | .inl d4 =>
  some (d4.1, ())
 | .inr (.inl d5) =>
  if (decide ((List.length d5.1 : Int) < (List.length d5.2.1 : Int))) = true then
   some ((-1 : Int), ())
  else
   some ((0 : Int), ())
theorem F_slices_Compare_Sint_int_ok (N : Nat) (d) : fnR Γ_slices_Compare_Sint_int (assoc [(0, ⟨slices_Compare_Sint_int_l0_h, slices_Compare_Sint_int_l0_o, slices_Compare_Sint_int_l0 N N⟩)]) true [(K_Si, false), (K_Si, false)] [I] Tryz.f96.results.toList (bodyOf Tryz.f96) d = F_slices_Compare_Sint_int N d := by kernel_rfl
noncomputable def S_slices_Compare_Sint_int : FSig := ⟨[(K_Si, false), (K_Si, false)], [I], true, (G_compare)⟩
noncomputable def Γ_impl_IsGraph : Ctx := { tk := assoc tks, ar := assoc ars, fs := assoc [(64, S_impl_within), (96, S_slices_Compare_Sint_int)] }
abbrev impl_IsGraph_l0_H := (Int × (List (Int × Int × Unit)) × Unit) × (List (Int × Int × Unit)) × Int × Int × Unit
abbrev impl_IsGraph_l0_O := (Bool × Unit) ⊕ Unit ⊕ Empty
def impl_IsGraph_l0_h : Form := [(1, .box K_PiSPiiqq 0), (10, .v K_SPiiq), (11, .v I), (12, .v I)]
def impl_IsGraph_l0_o : Outs := [(.ret, [(2, .v .bool)]), (.normal, [])]
noncomputable def impl_IsGraph_l0_r (N : Nat) (back : impl_IsGraph_l0_H → Option impl_IsGraph_l0_O) (d : impl_IsGraph_l0_H) : Option impl_IsGraph_l0_O :=
 let s1 : Int × (List (Int × Int × Unit)) × Unit := d.1
 let s10 : List (Int × Int × Unit) := d.2.1
 let s11 : Int := d.2.2.1
 let s12 : Int := d.2.2.2.1
 if (decide (s12 < s11)) = true then
  if (idxIn s12 (List.length s10)) = true then
  if (decide ((at_ K_Piiq s10 s12.toNat).1 < (0 : Int))) = true then
   some (.inl (false, ()))
  else
   if (decide ((at_ K_Piiq s10 s12.toNat).1 ≥ (at_ K_Piiq s10 s12.toNat).2.1)) = true then
    some (.inl (false, ()))
   else
    if (decide ((at_ K_Piiq s10 s12.toNat).2.1 ≥ s1.1)) = true then
     some (.inl (false, ()))
    else
     if (decide (s12 > (0 : Int))) = true then
      let x9 : Int := IntKind.wrap .i64 (s12 - (1 : Int))
      if (idxIn x9 (List.length s1.2.1)) = true then
      (G_compare (([(at_ K_Piiq s1.2.1 x9.toNat).1, (at_ K_Piiq s1.2.1 x9.toNat).2.1], ([(at_ K_Piiq s10 s12.toNat).1, (at_ K_Piiq s10 s12.toNat).2.1], ())))).bind fun r10 =>
      if (decide (r10.1 ≥ (0 : Int))) = true then
       some (.inl (false, ()))
      else
       let x11 : Int := IntKind.wrap .i64 (s12 + (1 : Int))
       back ((s1, (s10, (s11, (x11, ())))))
      else none
     else
      let x12 : Int := IntKind.wrap .i64 (s12 + (1 : Int))
      back ((s1, (s10, (s11, (x12, ())))))
  else none
 else
  some (.inr (.inl ()))
noncomputable def impl_IsGraph_l0 (N : Nat) : Nat → impl_IsGraph_l0_H → Option impl_IsGraph_l0_O
 | 0, _ => none
 | k + 1, d => impl_IsGraph_l0_r N (impl_IsGraph_l0 N k) d
theorem impl_IsGraph_l0_ok (N : Nat) (back) (d) : roundR Γ_impl_IsGraph (assoc []) 0 impl_IsGraph_l0_h impl_IsGraph_l0_o (loopOf Tryz.f58 0) back d = impl_IsGraph_l0_r N back d := by kernel_rfl
noncomputable def F_impl_IsGraph (N : Nat) (d : (Int × (List (Int × Int × Unit)) × Unit) × Unit) : Option (Bool × Unit) :=
 let a0 : Int × (List (Int × Int × Unit)) × Unit := d.1
 let r1 : Bool × Unit := g_impl_within ((a0.1, ((0 : Int), ((8 : Int), ()))))
 if (!r1.1) = true then
  some (false, ())
 else
  (impl_IsGraph_l0 N N ((a0, (a0.2.1, ((List.length a0.2.1 : Int), ((0 : Int), ())))))).bind fun o6 => match o6 with
  | .inl d7 =>
   some (d7.1, ())
  | .inr (.inl d8) =>
   some (true, ())
theorem F_impl_IsGraph_ok (N : Nat) (d) : fnR Γ_impl_IsGraph (assoc [(0, ⟨impl_IsGraph_l0_h, impl_IsGraph_l0_o, impl_IsGraph_l0 N N⟩)]) true [(K_PiSPiiqq, false)] [.bool] Tryz.f58.results.toList (bodyOf Tryz.f58) d = F_impl_IsGraph N d := by kernel_rfl
noncomputable def S_impl_IsGraph : FSig := ⟨[(K_PiSPiiqq, false)], [.bool], true, (G_graph)⟩
noncomputable def Γ_impl_allWithin : Ctx := { tk := assoc tks, ar := assoc ars, fs := assoc [(64, S_impl_within)] }
abbrev impl_allWithin_l0_H := Int × Int × List Int × Int × Int × Unit
abbrev impl_allWithin_l0_O := (Bool × Unit) ⊕ Unit ⊕ Empty
def impl_allWithin_l0_h : Form := [(1, .v I), (2, .v I), (9, .v K_Si), (10, .v I), (11, .v I)]
def impl_allWithin_l0_o : Outs := [(.ret, [(6, .v .bool)]), (.normal, [])]
noncomputable def impl_allWithin_l0_r (N : Nat) (back : impl_allWithin_l0_H → Option impl_allWithin_l0_O) (d : impl_allWithin_l0_H) : Option impl_allWithin_l0_O :=
 let s1 : Int := d.1
 let s2 : Int := d.2.1
 let s9 : List Int := d.2.2.1
 let s10 : Int := d.2.2.2.1
 let s11 : Int := d.2.2.2.2.1
 if (decide (s11 < s10)) = true then
  if (idxIn s11 (List.length s9)) = true then
  let r6 : Bool × Unit := g_impl_within ((at_ I s9 s11.toNat, (s1, (s2, ()))))
  if (!r6.1) = true then
   some (.inl (false, ()))
  else
   let x7 : Int := IntKind.wrap .i64 (s11 + (1 : Int))
   back ((s1, (s2, (s9, (s10, (x7, ()))))))
  else none
 else
  some (.inr (.inl ()))
noncomputable def impl_allWithin_l0 (N : Nat) : Nat → impl_allWithin_l0_H → Option impl_allWithin_l0_O
 | 0, _ => none
 | k + 1, d => impl_allWithin_l0_r N (impl_allWithin_l0 N k) d
theorem impl_allWithin_l0_ok (N : Nat) (back) (d) : roundR Γ_impl_allWithin (assoc []) 0 impl_allWithin_l0_h impl_allWithin_l0_o (loopOf Tryz.f107 0) back d = impl_allWithin_l0_r N back d := by kernel_rfl
noncomputable def F_impl_allWithin (N : Nat) (d : List Int × Int × Int × Unit) : Option (Bool × Unit) :=
 let a0 : List Int := d.1
 let a1 : Int := d.2.1
 let a2 : Int := d.2.2.1
 (impl_allWithin_l0 N N ((a1, (a2, (a0, ((List.length a0 : Int), ((0 : Int), ()))))))).bind fun o3 => match o3 with
 | .inl d4 =>
  some (d4.1, ())
 | .inr (.inl d5) =>
  some (true, ())
theorem F_impl_allWithin_ok (N : Nat) (d) : fnR Γ_impl_allWithin (assoc [(0, ⟨impl_allWithin_l0_h, impl_allWithin_l0_o, impl_allWithin_l0 N N⟩)]) true [(K_Si, false), (I, false), (I, false)] [.bool] Tryz.f107.results.toList (bodyOf Tryz.f107) d = F_impl_allWithin N d := by kernel_rfl
noncomputable def S_impl_allWithin : FSig := ⟨[(K_Si, false), (I, false), (I, false)], [.bool], true, (G_allWithin)⟩
noncomputable def Γ_impl_hasNodes : Ctx := { tk := assoc tks, ar := assoc ars, fs := assoc [(58, S_impl_IsGraph), (107, S_impl_allWithin)] }
noncomputable def F_impl_hasNodes (N : Nat) (d : (Int × (List (Int × Int × Unit)) × Unit) × List Int × Unit) : Option (Bool × Unit) :=
 let a0 : Int × (List (Int × Int × Unit)) × Unit := d.1
 let a1 : List Int := d.2.1
 (G_graph (a0, ())).bind fun r1 =>
 if (r1.1) = true then
  let x2 : Int := IntKind.wrap .i64 (a0.1 - (1 : Int))
  (G_allWithin ((a1, ((0 : Int), (x2, ()))))).bind fun r3 =>
  some (r3.1, ())
 else
  some (false, ())
theorem F_impl_hasNodes_ok (N : Nat) (d) : fnR Γ_impl_hasNodes (assoc []) true [(K_PiSPiiqq, false), (K_Si, false)] [.bool] Tryz.f70.results.toList (bodyOf Tryz.f70) d = F_impl_hasNodes N d := by kernel_rfl
noncomputable def S_impl_hasNodes : FSig := ⟨[(K_PiSPiiqq, false), (K_Si, false)], [.bool], true, (F_impl_hasNodes 0)⟩
noncomputable def Γ_impl_increasing : Ctx := { tk := assoc tks, ar := assoc ars, fs := assoc [] }
abbrev impl_increasing_l0_H := List Int × Int × Unit
abbrev impl_increasing_l0_O := (Bool × Unit) ⊕ Unit ⊕ Empty
def impl_increasing_l0_h : Form := [(0, .v K_Si), (3, .v I)]
def impl_increasing_l0_o : Outs := [(.ret, [(2, .v .bool)]), (.normal, [])]
noncomputable def impl_increasing_l0_r (N : Nat) (back : impl_increasing_l0_H → Option impl_increasing_l0_O) (d : impl_increasing_l0_H) : Option impl_increasing_l0_O :=
 let s0 : List Int := d.1
 let s3 : Int := d.2.1
 if (decide (s3 < (List.length s0 : Int))) = true then
  let x6 : Int := IntKind.wrap .i64 (s3 - (1 : Int))
  if (idxIn x6 (List.length s0)) = true then
  if (idxIn s3 (List.length s0)) = true then
  if (decide (at_ I s0 x6.toNat ≥ at_ I s0 s3.toNat)) = true then
   some (.inl (false, ()))
  else
   let x7 : Int := IntKind.wrap .i64 (s3 + (1 : Int))
   back ((s0, (x7, ())))
  else none
  else none
 else
  some (.inr (.inl ()))
noncomputable def impl_increasing_l0 (N : Nat) : Nat → impl_increasing_l0_H → Option impl_increasing_l0_O
 | 0, _ => none
 | k + 1, d => impl_increasing_l0_r N (impl_increasing_l0 N k) d
theorem impl_increasing_l0_ok (N : Nat) (back) (d) : roundR Γ_impl_increasing (assoc []) 0 impl_increasing_l0_h impl_increasing_l0_o (loopOf Tryz.f102 0) back d = impl_increasing_l0_r N back d := by kernel_rfl
noncomputable def F_impl_increasing (N : Nat) (d : List Int × Unit) : Option (Bool × Unit) :=
 let a0 : List Int := d.1
 (impl_increasing_l0 N N ((a0, ((1 : Int), ())))).bind fun o3 => match o3 with
 | .inl d4 =>
  some (d4.1, ())
 | .inr (.inl d5) =>
  some (true, ())
theorem F_impl_increasing_ok (N : Nat) (d) : fnR Γ_impl_increasing (assoc [(0, ⟨impl_increasing_l0_h, impl_increasing_l0_o, impl_increasing_l0 N N⟩)]) true [(K_Si, false)] [.bool] Tryz.f102.results.toList (bodyOf Tryz.f102) d = F_impl_increasing N d := by kernel_rfl
noncomputable def S_impl_increasing : FSig := ⟨[(K_Si, false)], [.bool], true, (G_increasing)⟩
noncomputable def Γ_impl_isSet : Ctx := { tk := assoc tks, ar := assoc ars, fs := assoc [(70, S_impl_hasNodes), (102, S_impl_increasing)] }
noncomputable def F_impl_isSet (N : Nat) (d : (Int × (List (Int × Int × Unit)) × Unit) × List Int × Unit) : Option (Bool × Unit) :=
 let a0 : Int × (List (Int × Int × Unit)) × Unit := d.1
 let a1 : List Int := d.2.1
 ((F_impl_hasNodes 0) ((a0, (a1, ())))).bind fun r1 =>
 if (r1.1) = true then
  (G_increasing (a1, ())).bind fun r2 =>
  some (r2.1, ())
 else
  some (false, ())
theorem F_impl_isSet_ok (N : Nat) (d) : fnR Γ_impl_isSet (assoc []) true [(K_PiSPiiqq, false), (K_Si, false)] [.bool] Tryz.f63.results.toList (bodyOf Tryz.f63) d = F_impl_isSet N d := by kernel_rfl
noncomputable def S_impl_isSet : FSig := ⟨[(K_PiSPiiqq, false), (K_Si, false)], [.bool], true, (F_impl_isSet 0)⟩
noncomputable def Γ_impl_IsWorkshop : Ctx := { tk := assoc tks, ar := assoc ars, fs := assoc [(63, S_impl_isSet), (64, S_impl_within)] }
noncomputable def F_impl_IsWorkshop (N : Nat) (d : ((Int × (List (Int × Int × Unit)) × Unit) × Int × Int × List Int × Int × Unit) × Unit) : Option (Bool × Unit) :=
 let a0 : (Int × (List (Int × Int × Unit)) × Unit) × Int × Int × List Int × Int × Unit := d.1
 ((F_impl_isSet 0) ((a0.1, (a0.2.2.2.1, ())))).bind fun r1 =>
 if (r1.1) = true then
  let x2 : Int := IntKind.wrap .i64 (a0.1.1 - (1 : Int))
  let r3 : Bool × Unit := g_impl_within ((a0.2.1, ((-1 : Int), (x2, ()))))
  if (r3.1) = true then
   let x4 : Int := IntKind.wrap .i64 (a0.1.1 - (1 : Int))
   let r5 : Bool × Unit := g_impl_within ((a0.2.2.1, ((-1 : Int), (x4, ()))))
   if (r5.1) = true then
    let r6 : Bool × Unit := g_impl_within ((a0.2.2.2.2.1, ((0 : Int), ((1000 : Int), ()))))
    some (r6.1, ())
   else
    some (false, ())
  else
   some (false, ())
 else
  some (false, ())
theorem F_impl_IsWorkshop_ok (N : Nat) (d) : fnR Γ_impl_IsWorkshop (assoc []) true [(K_PPiSPiiqqiiSiiq, false)] [.bool] Tryz.f28.results.toList (bodyOf Tryz.f28) d = F_impl_IsWorkshop N d := by kernel_rfl
noncomputable def S_impl_IsWorkshop : FSig := ⟨[(K_PPiSPiiqqiiSiiq, false)], [.bool], true, (F_impl_IsWorkshop 0)⟩
noncomputable def Γ_slices_Clone_S_2_int_2_int : Ctx := { tk := assoc tks, ar := assoc ars, fs := assoc [] }
noncomputable def F_slices_Clone_S_2_int_2_int (N : Nat) (d : (List (Int × Int × Unit)) × Unit) : Option ((List (Int × Int × Unit)) × Unit) :=
 let a0 : List (Int × Int × Unit) := d.1
 if (decide (List.length a0 = 0)) = true then
  both (
    some ((([] : List (Int × Int × Unit)), ()))) (
    if (decide (List.length ([] : List (Int × Int × Unit)) + List.length a0 ≤ lim)) = true then
    let x1 : List (Int × Int × Unit) := ([] : List (Int × Int × Unit)) ++ a0
    some (x1, ())
    else none)
 else
  if (decide (List.length ([] : List (Int × Int × Unit)) + List.length a0 ≤ lim)) = true then
  let x2 : List (Int × Int × Unit) := ([] : List (Int × Int × Unit)) ++ a0
  some (x2, ())
  else none
theorem F_slices_Clone_S_2_int_2_int_ok (N : Nat) (d) : fnR Γ_slices_Clone_S_2_int_2_int (assoc []) true [(K_SPiiq, false)] [K_SPiiq] Tryz.f59.results.toList (bodyOf Tryz.f59) d = F_slices_Clone_S_2_int_2_int N d := by kernel_rfl
noncomputable def S_slices_Clone_S_2_int_2_int : FSig := ⟨[(K_SPiiq, false)], [K_SPiiq], true, (G_toIntA2S)⟩
noncomputable def Γ_slices_Clone_Sint_int : Ctx := { tk := assoc tks, ar := assoc ars, fs := assoc [] }
noncomputable def F_slices_Clone_Sint_int (N : Nat) (d : List Int × Unit) : Option (List Int × Unit) :=
 let a0 : List Int := d.1
 if (decide (List.length a0 = 0)) = true then
  both (
    some (([] : List Int), ())) (
    if (decide (List.length ([] : List Int) + List.length a0 ≤ lim)) = true then
    some (([] : List Int) ++ a0, ())
    else none)
 else
  if (decide (List.length ([] : List Int) + List.length a0 ≤ lim)) = true then
  some (([] : List Int) ++ a0, ())
  else none
theorem F_slices_Clone_Sint_int_ok (N : Nat) (d) : fnR Γ_slices_Clone_Sint_int (assoc []) true [(K_Si, false)] [K_Si] Tryz.f92.results.toList (bodyOf Tryz.f92) d = F_slices_Clone_Sint_int N d := by kernel_rfl
noncomputable def S_slices_Clone_Sint_int : FSig := ⟨[(K_Si, false)], [K_Si], true, (G_toIntS)⟩
def S_impl_cloneWorkshop : FSig := ⟨[(K_PPiSPiiqqiiSiiq, false)], [K_PPiSPiiqqiiSiiq], true, G_cloneWs⟩
noncomputable def Γ_impl_isNamed : Ctx := { tk := assoc tks, ar := assoc ars, fs := assoc [] }
noncomputable def F_impl_isNamed (N : Nat) (d : (Int × Int × Int × Unit) × Unit) : Option (Bool × Unit) :=
 let a0 : Int × Int × Int × Unit := d.1
 if (a0.1 == (3 : Int)) = true then
  some (true, ())
 else
  if (a0.1 == (6 : Int)) = true then
   some (true, ())
  else
   if (a0.1 == (2 : Int)) = true then
    some (a0.2.2.1 == (0 : Int), ())
   else
    if (a0.1 == (4 : Int)) = true then
     some (a0.2.2.1 == (0 : Int), ())
    else
     if (a0.1 == (5 : Int)) = true then
      some (a0.2.2.1 == (0 : Int), ())
     else
      if (a0.1 == (8 : Int)) = true then
       some (a0.2.2.1 == (0 : Int), ())
      else
       if (a0.2.1 == (0 : Int)) = true then
        some (a0.2.2.1 == (0 : Int), ())
       else
        some (false, ())
theorem F_impl_isNamed_ok (N : Nat) (d) : fnR Γ_impl_isNamed (assoc []) true [(K_Piiiq, false)] [.bool] Tryz.f82.results.toList (bodyOf Tryz.f82) d = F_impl_isNamed N d := by kernel_rfl
noncomputable def g_impl_isNamed (d : (Int × Int × Int × Unit) × Unit) : Bool × Unit :=
 let a0 : Int × Int × Int × Unit := d.1
 if (a0.1 == (3 : Int)) = true then
  (true, ())
 else
  if (a0.1 == (6 : Int)) = true then
   (true, ())
  else
   if (a0.1 == (2 : Int)) = true then
    (a0.2.2.1 == (0 : Int), ())
   else
    if (a0.1 == (4 : Int)) = true then
     (a0.2.2.1 == (0 : Int), ())
    else
     if (a0.1 == (5 : Int)) = true then
      (a0.2.2.1 == (0 : Int), ())
     else
      if (a0.1 == (8 : Int)) = true then
       (a0.2.2.1 == (0 : Int), ())
      else
       if (a0.2.1 == (0 : Int)) = true then
        (a0.2.2.1 == (0 : Int), ())
       else
        (false, ())
theorem F_impl_isNamed_tot (N : Nat) (d) : F_impl_isNamed N d = some (g_impl_isNamed d) := by
 unfold F_impl_isNamed g_impl_isNamed
 first
  | rfl
  | (dsimp only; (repeat' split) <;> rfl)
noncomputable def S_impl_isNamed : FSig := ⟨[(K_Piiiq, false)], [.bool], true, (fun d => some (g_impl_isNamed d))⟩
noncomputable def Γ_impl_netOf : Ctx := { tk := assoc tks, ar := assoc ars, fs := assoc [] }
abbrev impl_netOf_l0_H := (List Int × Unit) × (List Int × Unit) × (List (Int × Int × Unit)) × Int × Int × Unit
abbrev impl_netOf_l0_O := ((List Int × Unit) × (List Int × Unit) × Unit) ⊕ Empty
def impl_netOf_l0_h : Form := [(2, .box K_PSiq 99), (3, .box K_PSiq 99), (11, .v K_SPiiq), (12, .v I), (13, .v I)]
def impl_netOf_l0_o : Outs := [(.normal, [(2, .box K_PSiq 99), (3, .box K_PSiq 99)])]
noncomputable def impl_netOf_l0_r (N : Nat) (back : impl_netOf_l0_H → Option impl_netOf_l0_O) (d : impl_netOf_l0_H) : Option impl_netOf_l0_O :=
 let s2 : List Int × Unit := d.1
 let s3 : List Int × Unit := d.2.1
 let s11 : List (Int × Int × Unit) := d.2.2.1
 let s12 : Int := d.2.2.2.1
 let s13 : Int := d.2.2.2.2.1
 if (decide (s13 < s12)) = true then
  if (idxIn s13 (List.length s11)) = true then
  if (idxIn (at_ K_Piiq s11 s13.toNat).1 (List.length s3.1)) = true then
  if (decide (0 ≤ (at_ K_Piiq s11 s13.toNat).2.1)) = true then
  let x9 : Int := shl .i64 (1 : Int) (at_ K_Piiq s11 s13.toNat).2.1
  let x10 : Int := bits .or .i64 (at_ I s3.1 (at_ K_Piiq s11 s13.toNat).1.toNat) x9
  if (idxIn (at_ K_Piiq s11 s13.toNat).1 (List.length s3.1)) = true then
  if (idxIn (at_ K_Piiq s11 s13.toNat).2.1 (List.length (List.set s3.1 (at_ K_Piiq s11 s13.toNat).1.toNat x10))) = true then
  if (decide (0 ≤ (at_ K_Piiq s11 s13.toNat).1)) = true then
  let x11 : Int := shl .i64 (1 : Int) (at_ K_Piiq s11 s13.toNat).1
  let x12 : Int := bits .or .i64 (at_ I (List.set s3.1 (at_ K_Piiq s11 s13.toNat).1.toNat x10) (at_ K_Piiq s11 s13.toNat).2.1.toNat) x11
  if (idxIn (at_ K_Piiq s11 s13.toNat).2.1 (List.length (List.set s3.1 (at_ K_Piiq s11 s13.toNat).1.toNat x10))) = true then
  let x13 : Int := IntKind.wrap .i64 (s13 + (1 : Int))
  back ((s2, ((List.set (List.set s3.1 (at_ K_Piiq s11 s13.toNat).1.toNat x10) (at_ K_Piiq s11 s13.toNat).2.1.toNat x12, s3.2), (s11, (s12, (x13, ()))))))
  else none
  else none
  else none
  else none
  else none
  else none
  else none
 else
  some (.inl ((s2, (s3, ()))))
noncomputable def impl_netOf_l0 (N : Nat) : Nat → impl_netOf_l0_H → Option impl_netOf_l0_O
 | 0, _ => none
 | k + 1, d => impl_netOf_l0_r N (impl_netOf_l0 N k) d
theorem impl_netOf_l0_ok (N : Nat) (back) (d) : roundR Γ_impl_netOf (assoc []) 0 impl_netOf_l0_h impl_netOf_l0_o (loopOf Tryz.f67 0) back d = impl_netOf_l0_r N back d := by kernel_rfl
noncomputable def F_impl_netOf (N : Nat) (d : (Int × (List (Int × Int × Unit)) × Unit) × Unit) : Option ((List Int × Unit) × Unit) :=
 let a0 : Int × (List (Int × Int × Unit)) × Unit := d.1
 if ((decide (0 ≤ a0.1) && decide (a0.1 ≤ a0.1) && decide (a0.1 ≤ (lim : Int)))) = true then
 let x1 : List Int := List.replicate a0.1.toNat (0 : Int)
 (impl_netOf_l0 N N (((([] : List Int), ()), ((x1, ()), (a0.2.1, ((List.length a0.2.1 : Int), ((0 : Int), ()))))))).bind fun o7 => match o7 with
 | .inl d8 =>
  some (d8.2.1, ())
 else none
theorem F_impl_netOf_ok (N : Nat) (d) : fnR Γ_impl_netOf (assoc [(0, ⟨impl_netOf_l0_h, impl_netOf_l0_o, impl_netOf_l0 N N⟩)]) true [(K_PiSPiiqq, false)] [K_PSiq] Tryz.f67.results.toList (bodyOf Tryz.f67) d = F_impl_netOf N d := by kernel_rfl
noncomputable def S_impl_netOf : FSig := ⟨[(K_PiSPiiqq, false)], [K_PSiq], true, (G_netOf)⟩
noncomputable def Γ_impl_net_all : Ctx := { tk := assoc tks, ar := assoc ars, fs := assoc [] }
noncomputable def F_impl_net_all (N : Nat) (d : (List Int × Unit) × Unit) : Option (Int × Unit) :=
 let a0 : List Int × Unit := d.1
 if (decide (0 ≤ (List.length a0.1 : Int))) = true then
 let x1 : Int := shl .i64 (1 : Int) (List.length a0.1 : Int)
 let x2 : Int := IntKind.wrap .i64 (x1 - (1 : Int))
 some (x2, ())
 else none
theorem F_impl_net_all_ok (N : Nat) (d) : fnR Γ_impl_net_all (assoc []) true [(K_PSiq, false)] [I] Tryz.f131.results.toList (bodyOf Tryz.f131) d = F_impl_net_all N d := by kernel_rfl
noncomputable def S_impl_net_all : FSig := ⟨[(K_PSiq, false)], [I], true, (F_impl_net_all 0)⟩
noncomputable def Γ_impl_setOf : Ctx := { tk := assoc tks, ar := assoc ars, fs := assoc [] }
abbrev impl_setOf_l0_H := Int × List Int × Int × Unit
abbrev impl_setOf_l0_O := (List Int × Unit) ⊕ Empty
def impl_setOf_l0_h : Form := [(0, .v I), (3, .own K_Si 99), (4, .v I)]
def impl_setOf_l0_o : Outs := [(.normal, [(3, .own K_Si 99)])]
noncomputable def impl_setOf_l0_r (N : Nat) (back : impl_setOf_l0_H → Option impl_setOf_l0_O) (d : impl_setOf_l0_H) : Option impl_setOf_l0_O :=
 let s0 : Int := d.1
 let s3 : List Int := d.2.1
 let s4 : Int := d.2.2.1
 if (decide (0 ≤ s4)) = true then
 if (shr .i64 s0 s4 != (0 : Int)) = true then
  if (decide (0 ≤ s4)) = true then
  let x6 : Int := bits .and .i64 (shr .i64 s0 s4) (1 : Int)
  if (x6 == (1 : Int)) = true then
   if (decide (List.length s3 + List.length ([s4]) ≤ lim)) = true then
   let x7 : Int := IntKind.wrap .i64 (s4 + (1 : Int))
   back ((s0, (s3 ++ ([s4]), (x7, ()))))
   else none
  else
   let x8 : Int := IntKind.wrap .i64 (s4 + (1 : Int))
   back ((s0, (s3, (x8, ()))))
  else none
 else
  some (.inl (s3, ()))
 else none
noncomputable def impl_setOf_l0 (N : Nat) : Nat → impl_setOf_l0_H → Option impl_setOf_l0_O
 | 0, _ => none
 | k + 1, d => impl_setOf_l0_r N (impl_setOf_l0 N k) d
theorem impl_setOf_l0_ok (N : Nat) (back) (d) : roundR Γ_impl_setOf (assoc []) 0 impl_setOf_l0_h impl_setOf_l0_o (loopOf Tryz.f108 0) back d = impl_setOf_l0_r N back d := by kernel_rfl
noncomputable def F_impl_setOf (N : Nat) (d : Int × Unit) : Option (List Int × Unit) :=
 let a0 : Int := d.1
 (impl_setOf_l0 N N ((a0, (([] : List Int), ((0 : Int), ()))))).bind fun o4 => match o4 with
 | .inl d5 =>
  some (d5.1, ())
theorem F_impl_setOf_ok (N : Nat) (d) : fnR Γ_impl_setOf (assoc [(0, ⟨impl_setOf_l0_h, impl_setOf_l0_o, impl_setOf_l0 N N⟩)]) true [(I, false)] [K_Si] Tryz.f108.results.toList (bodyOf Tryz.f108) d = F_impl_setOf N d := by kernel_rfl
noncomputable def S_impl_setOf : FSig := ⟨[(I, false)], [K_Si], true, (G_setOf)⟩
noncomputable def Γ_impl_net_has : Ctx := { tk := assoc tks, ar := assoc ars, fs := assoc [] }
noncomputable def F_impl_net_has (N : Nat) (d : (List Int × Unit) × Int × Int × Unit) : Option (Bool × Unit) :=
 let a0 : List Int × Unit := d.1
 let a1 : Int := d.2.1
 let a2 : Int := d.2.2.1
 if (idxIn a1 (List.length a0.1)) = true then
 if (decide (0 ≤ a2)) = true then
 let x1 : Int := shr .i64 (at_ I a0.1 a1.toNat) a2
 some (bits .and .i64 x1 (1 : Int) == (1 : Int), ())
 else none
 else none
theorem F_impl_net_has_ok (N : Nat) (d) : fnR Γ_impl_net_has (assoc []) true [(K_PSiq, false), (I, false), (I, false)] [.bool] Tryz.f151.results.toList (bodyOf Tryz.f151) d = F_impl_net_has N d := by kernel_rfl
noncomputable def S_impl_net_has : FSig := ⟨[(K_PSiq, false), (I, false), (I, false)], [.bool], true, (F_impl_net_has 0)⟩
noncomputable def Γ_impl_net_induced_1 : Ctx := { tk := assoc tks, ar := assoc ars, fs := assoc [(151, S_impl_net_has)] }
noncomputable def F_impl_net_induced_1 (N : Nat) (d : Int × Int × (List Int × Unit) × List Int × Unit) : Option (Bool × Unit) :=
 let a0 : Int := d.1
 let a1 : Int := d.2.1
 let a2 : List Int × Unit := d.2.2.1
 let a3 : List Int := d.2.2.2.1
 if (idxIn a0 (List.length a3)) = true then
 if (idxIn a1 (List.length a3)) = true then
 ((F_impl_net_has 0) ((a2, (at_ I a3 a0.toNat, (at_ I a3 a1.toNat, ()))))).bind fun r1 =>
 some (r1.1, ())
 else none
 else none
theorem F_impl_net_induced_1_ok (N : Nat) (d) : fnR Γ_impl_net_induced_1 (assoc []) true [(I, false), (I, false), (K_BPSiq, false), (K_BSi, false)] [.bool] Tryz.f165.results.toList (bodyOf Tryz.f165) d = F_impl_net_induced_1 N d := by kernel_rfl
noncomputable def S_impl_net_induced_1 : FSig := ⟨[(I, false), (I, false), (K_BPSiq, false), (K_BSi, false)], [.bool], true, (F_impl_net_induced_1 0)⟩
noncomputable def FV_impl_net_induced_1 (d : Int × Int × (Unit × (List Int × Unit) × List Int × Unit) × Unit) : Option (Bool × Unit) := (F_impl_net_induced_1 0) (d.1, d.2.1, d.2.2.1.2)
noncomputable def SV_impl_net_induced_1 : FSig := ⟨[(I, false), (I, false), (K_F_impl_net_induced_1_qPBPSiqBSiq, false)], [.bool], true, FV_impl_net_induced_1⟩
noncomputable def Γ_impl_graphBy_by_impl_net_induced_1 : Ctx := { tk := assoc tks, ar := assoc ars, fs := assoc [], cs := assoc [(165, SV_impl_net_induced_1)] }
abbrev impl_graphBy_by_impl_net_induced_1_l2_H := Int × (Unit × (List Int × Unit) × List Int × Unit) × (Int × (List (Int × Int × Unit)) × Unit) × (Int × (List (Int × Int × Unit)) × Unit) × Int × Int × Int × Int × Unit
abbrev impl_graphBy_by_impl_net_induced_1_l2_O := (Int × (Unit × (List Int × Unit) × List Int × Unit) × (Int × (List (Int × Int × Unit)) × Unit) × (Int × (List (Int × Int × Unit)) × Unit) × Int × Int × Unit) ⊕ Empty
def impl_graphBy_by_impl_net_induced_1_l2_h : Form := [(0, .v I), (1, .v K_F_impl_net_induced_1_qPBPSiqBSiq), (4, .box K_PiSPiiqq 99), (5, .box K_PiSPiiqq 99), (6, .v I), (7, .v I), (10, .v I), (11, .v I)]
def impl_graphBy_by_impl_net_induced_1_l2_o : Outs := [(.normal, [(0, .v I), (1, .v K_F_impl_net_induced_1_qPBPSiqBSiq), (4, .box K_PiSPiiqq 99), (5, .box K_PiSPiiqq 99), (10, .v I), (11, .v I)])]
noncomputable def impl_graphBy_by_impl_net_induced_1_l2_r (N : Nat) (back : impl_graphBy_by_impl_net_induced_1_l2_H → Option impl_graphBy_by_impl_net_induced_1_l2_O) (d : impl_graphBy_by_impl_net_induced_1_l2_H) : Option impl_graphBy_by_impl_net_induced_1_l2_O :=
 let s0 : Int := d.1
 let s1 : Unit × (List Int × Unit) × List Int × Unit := d.2.1
 let s4 : Int × (List (Int × Int × Unit)) × Unit := d.2.2.1
 let s5 : Int × (List (Int × Int × Unit)) × Unit := d.2.2.2.1
 let s6 : Int := d.2.2.2.2.1
 let s7 : Int := d.2.2.2.2.2.1
 let s10 : Int := d.2.2.2.2.2.2.1
 let s11 : Int := d.2.2.2.2.2.2.2.1
 if (decide (s7 < s0)) = true then
  (FV_impl_net_induced_1 ((s6, (s7, (s1, ()))))).bind fun r17 =>
  if (r17.1) = true then
   if (decide (List.length s5.2.1 + List.length ([(s6, (s7, ()))]) ≤ lim)) = true then
   let x18 : Int := IntKind.wrap .i64 (s7 + (1 : Int))
   back ((s0, (s1, (s4, ((s5.1, (s5.2.1 ++ ([(s6, (s7, ()))]), s5.2.2)), (s6, (x18, (s10, (s11, ())))))))))
   else none
  else
   let x19 : Int := IntKind.wrap .i64 (s7 + (1 : Int))
   back ((s0, (s1, (s4, (s5, (s6, (x19, (s10, (s11, ())))))))))
 else
  some (.inl ((s0, (s1, (s4, (s5, (s10, (s11, ()))))))))
noncomputable def impl_graphBy_by_impl_net_induced_1_l2 (N : Nat) : Nat → impl_graphBy_by_impl_net_induced_1_l2_H → Option impl_graphBy_by_impl_net_induced_1_l2_O
 | 0, _ => none
 | k + 1, d => impl_graphBy_by_impl_net_induced_1_l2_r N (impl_graphBy_by_impl_net_induced_1_l2 N k) d
theorem impl_graphBy_by_impl_net_induced_1_l2_ok (N : Nat) (back) (d) : roundR Γ_impl_graphBy_by_impl_net_induced_1 (assoc []) 2 impl_graphBy_by_impl_net_induced_1_l2_h impl_graphBy_by_impl_net_induced_1_l2_o (loopOf Tryz.f150 2) back d = impl_graphBy_by_impl_net_induced_1_l2_r N back d := by kernel_rfl
abbrev impl_graphBy_by_impl_net_induced_1_l0_H := Int × (Unit × (List Int × Unit) × List Int × Unit) × (Int × (List (Int × Int × Unit)) × Unit) × (Int × (List (Int × Int × Unit)) × Unit) × Int × Int × Unit
abbrev impl_graphBy_by_impl_net_induced_1_l0_O := ((Int × (List (Int × Int × Unit)) × Unit) × (Int × (List (Int × Int × Unit)) × Unit) × Unit) ⊕ Empty
def impl_graphBy_by_impl_net_induced_1_l0_h : Form := [(0, .v I), (1, .v K_F_impl_net_induced_1_qPBPSiqBSiq), (4, .box K_PiSPiiqq 99), (5, .box K_PiSPiiqq 99), (10, .v I), (11, .v I)]
def impl_graphBy_by_impl_net_induced_1_l0_o : Outs := [(.normal, [(4, .box K_PiSPiiqq 99), (5, .box K_PiSPiiqq 99)])]
noncomputable def impl_graphBy_by_impl_net_induced_1_l0_r (N : Nat) (back : impl_graphBy_by_impl_net_induced_1_l0_H → Option impl_graphBy_by_impl_net_induced_1_l0_O) (d : impl_graphBy_by_impl_net_induced_1_l0_H) : Option impl_graphBy_by_impl_net_induced_1_l0_O :=
 let s0 : Int := d.1
 let s1 : Unit × (List Int × Unit) × List Int × Unit := d.2.1
 let s4 : Int × (List (Int × Int × Unit)) × Unit := d.2.2.1
 let s5 : Int × (List (Int × Int × Unit)) × Unit := d.2.2.2.1
 let s10 : Int := d.2.2.2.2.1
 let s11 : Int := d.2.2.2.2.2.1
 if (decide (s11 < s10)) = true then
  let x10 : Int := IntKind.wrap .i64 (s11 + (1 : Int))
  (impl_graphBy_by_impl_net_induced_1_l2 N N ((s0, (s1, (s4, (s5, (s11, (x10, (s10, (s11, ())))))))))).bind fun o14 => match o14 with
  | .inl d15 =>
   let x16 : Int := IntKind.wrap .i64 (d15.2.2.2.2.2.1 + (1 : Int))
   back ((d15.1, (d15.2.1, (d15.2.2.1, (d15.2.2.2.1, (d15.2.2.2.2.1, (x16, ())))))))
 else
  some (.inl ((s4, (s5, ()))))
noncomputable def impl_graphBy_by_impl_net_induced_1_l0 (N : Nat) : Nat → impl_graphBy_by_impl_net_induced_1_l0_H → Option impl_graphBy_by_impl_net_induced_1_l0_O
 | 0, _ => none
 | k + 1, d => impl_graphBy_by_impl_net_induced_1_l0_r N (impl_graphBy_by_impl_net_induced_1_l0 N k) d
theorem impl_graphBy_by_impl_net_induced_1_l0_ok (N : Nat) (back) (d) : roundR Γ_impl_graphBy_by_impl_net_induced_1 (assoc [(2, ⟨impl_graphBy_by_impl_net_induced_1_l2_h, impl_graphBy_by_impl_net_induced_1_l2_o, impl_graphBy_by_impl_net_induced_1_l2 N N⟩)]) 0 impl_graphBy_by_impl_net_induced_1_l0_h impl_graphBy_by_impl_net_induced_1_l0_o (loopOf Tryz.f150 0) back d = impl_graphBy_by_impl_net_induced_1_l0_r N back d := by kernel_rfl
noncomputable def F_impl_graphBy_by_impl_net_induced_1 (N : Nat) (d : Int × (Unit × (List Int × Unit) × List Int × Unit) × Unit) : Option ((Int × (List (Int × Int × Unit)) × Unit) × Unit) :=
 let a0 : Int := d.1
 let a1 : Unit × (List Int × Unit) × List Int × Unit := d.2.1
 (impl_graphBy_by_impl_net_induced_1_l0 N N ((a0, (a1, (((0 : Int), (([] : List (Int × Int × Unit)), ())), ((a0, (([] : List (Int × Int × Unit)), ())), (a0, ((0 : Int), ())))))))).bind fun o8 => match o8 with
 | .inl d9 =>
  some (d9.2.1, ())
theorem F_impl_graphBy_by_impl_net_induced_1_ok (N : Nat) (d) : fnR Γ_impl_graphBy_by_impl_net_induced_1 (assoc [(0, ⟨impl_graphBy_by_impl_net_induced_1_l0_h, impl_graphBy_by_impl_net_induced_1_l0_o, impl_graphBy_by_impl_net_induced_1_l0 N N⟩)]) true [(I, false), (K_F_impl_net_induced_1_qPBPSiqBSiq, false)] [K_PiSPiiqq] Tryz.f150.results.toList (bodyOf Tryz.f150) d = F_impl_graphBy_by_impl_net_induced_1 N d := by kernel_rfl
noncomputable def S_impl_graphBy_by_impl_net_induced_1 : FSig := ⟨[(I, false), (K_F_impl_net_induced_1_qPBPSiqBSiq, false)], [K_PiSPiiqq], true, (G_graphByInd)⟩
noncomputable def Γ_impl_net_induced : Ctx := { tk := assoc tks, ar := assoc ars, fs := assoc [(150, S_impl_graphBy_by_impl_net_induced_1)], cs := assoc [], fz := fun t => Nat.beq t 2 || Nat.beq t 3 }
noncomputable def F_impl_net_induced (N : Nat) (d : (List Int × Unit) × List Int × Unit) : Option ((Int × (List (Int × Int × Unit)) × Unit) × Unit) :=
 let a0 : List Int × Unit := d.1
 let a1 : List Int := d.2.1
 (G_graphByInd (((List.length a1 : Int), (((), (a0, (a1, ()))), ())))).bind fun r1 =>
 some (r1.1, ())
theorem F_impl_net_induced_ok (N : Nat) (d) : fnR Γ_impl_net_induced (assoc []) true [(K_PSiq, false), (K_Si, false)] [K_PiSPiiqq] Tryz.f149.results.toList (bodyOf Tryz.f149) d = F_impl_net_induced N d := by kernel_rfl
noncomputable def S_impl_net_induced : FSig := ⟨[(K_PSiq, false), (K_Si, false)], [K_PiSPiiqq], true, (F_impl_net_induced 0)⟩
noncomputable def Γ_impl_RemoveNode : Ctx := { tk := assoc tks, ar := assoc ars, fs := assoc [(67, S_impl_netOf), (70, S_impl_hasNodes), (108, S_impl_setOf), (131, S_impl_net_all), (149, S_impl_net_induced)] }
noncomputable def F_impl_RemoveNode (N : Nat) (d : (Int × (List (Int × Int × Unit)) × Unit) × Int × Unit) : Option ((Int × (List (Int × Int × Unit)) × Unit) × Bool × Unit) :=
 let a0 : Int × (List (Int × Int × Unit)) × Unit := d.1
 let a1 : Int := d.2.1
 ((F_impl_hasNodes 0) ((a0, ([a1], ())))).bind fun r1 =>
 if (!r1.1) = true then
  some ((((0 : Int), (([] : List (Int × Int × Unit)), ())), (false, ())))
 else
  (G_netOf (a0, ())).bind fun r2 =>
  ((F_impl_net_all 0) (r2.1, ())).bind fun r3 =>
  if (decide (0 ≤ a1)) = true then
  let x4 : Int := bits .andNot .i64 r3.1 (shl .i64 (1 : Int) a1)
  (G_setOf (x4, ())).bind fun r5 =>
  ((F_impl_net_induced 0) ((r2.1, (r5.1, ())))).bind fun r6 =>
  some ((r6.1, (true, ())))
  else none
theorem F_impl_RemoveNode_ok (N : Nat) (d) : fnR Γ_impl_RemoveNode (assoc []) true [(K_PiSPiiqq, false), (I, false)] [K_PiSPiiqq, .bool] Tryz.f126.results.toList (bodyOf Tryz.f126) d = F_impl_RemoveNode N d := by kernel_rfl
noncomputable def S_impl_RemoveNode : FSig := ⟨[(K_PiSPiiqq, false), (I, false)], [K_PiSPiiqq, .bool], true, (F_impl_RemoveNode 0)⟩
noncomputable def Γ_impl_dropNode : Ctx := { tk := assoc tks, ar := assoc ars, fs := assoc [(126, S_impl_RemoveNode)], lent := fun t => Nat.beq t 0, cs := assoc [], gs := assoc [], eqt := inL [], md := { gone := [], deep := [0] } }
abbrev impl_dropNode_l0_H := ((Int × (List (Int × Int × Unit)) × Unit) × Int × Int × List Int × Int × Unit) × Int × List Int × Int × Int × Unit × Unit
abbrev impl_dropNode_l0_O := (((Int × (List (Int × Int × Unit)) × Unit) × Int × Int × List Int × Int × Unit) × List Int × Unit) ⊕ Empty
def impl_dropNode_l0_h : Form := [(0, .box K_PPiSPiiqqiiSiiq 1), (1, .v I), (7, .own K_Si 99), (71, .v I), (72, .v I), (70, .same 0 [.r, .r, .r, .l])]
def impl_dropNode_l0_o : Outs := [(.normal, [(0, .box K_PPiSPiiqqiiSiiq 1), (7, .own K_Si 99)])]
noncomputable def impl_dropNode_l0_r (N : Nat) (back : impl_dropNode_l0_H → Option impl_dropNode_l0_O) (d : impl_dropNode_l0_H) : Option impl_dropNode_l0_O :=
 let s0 : (Int × (List (Int × Int × Unit)) × Unit) × Int × Int × List Int × Int × Unit := d.1
 let s1 : Int := d.2.1
 let s7 : List Int := d.2.2.1
 let s71 : Int := d.2.2.2.1
 let s72 : Int := d.2.2.2.2.1
 let s70 : Unit := d.2.2.2.2.2.1
 if (decide (s72 < s71)) = true then
  if (idxIn s72 (List.length s0.2.2.2.1)) = true then
  if (decide (at_ I s0.2.2.2.1 s72.toNat < s1)) = true then
   if (decide (List.length s7 + List.length ([at_ I s0.2.2.2.1 s72.toNat]) ≤ lim)) = true then
   let x18 : List Int := s7 ++ ([at_ I s0.2.2.2.1 s72.toNat])
   let x19 : Int := IntKind.wrap .i64 (s72 + (1 : Int))
   back ((s0, (s1, (x18, (s71, (x19, ((), ())))))))
   else none
  else
   if (decide (at_ I s0.2.2.2.1 s72.toNat > s1)) = true then
    let x20 : Int := IntKind.wrap .i64 (at_ I s0.2.2.2.1 s72.toNat - (1 : Int))
    if (decide (List.length s7 + List.length ([x20]) ≤ lim)) = true then
    let x21 : Int := IntKind.wrap .i64 (s72 + (1 : Int))
    back ((s0, (s1, (s7 ++ ([x20]), (s71, (x21, ((), ())))))))
    else none
   else
    let x22 : Int := IntKind.wrap .i64 (s72 + (1 : Int))
    back ((s0, (s1, (s7, (s71, (x22, ((), ())))))))
  else none
 else
  some (.inl ((s0, (s7, ()))))
noncomputable def impl_dropNode_l0 (N : Nat) : Nat → impl_dropNode_l0_H → Option impl_dropNode_l0_O
 | 0, _ => none
 | k + 1, d => impl_dropNode_l0_r N (impl_dropNode_l0 N k) d
theorem impl_dropNode_l0_ok (N : Nat) (back) (d) : roundR Γ_impl_dropNode (assoc []) 0 impl_dropNode_l0_h impl_dropNode_l0_o (loopOf Tryz.f83 0) back d = impl_dropNode_l0_r N back d := by kernel_rfl
noncomputable def F_impl_dropNode (N : Nat) (d : ((Int × (List (Int × Int × Unit)) × Unit) × Int × Int × List Int × Int × Unit) × Int × Unit) : Option (Bool × ((Int × (List (Int × Int × Unit)) × Unit) × Int × Int × List Int × Int × Unit) × Unit) :=
 let a0 : (Int × (List (Int × Int × Unit)) × Unit) × Int × Int × List Int × Int × Unit := d.1
 let a1 : Int := d.2.1
 ((F_impl_RemoveNode 0) ((a0.1, (a1, ())))).bind fun r1 =>
 if (!r1.2.1) = true then
  some ((false, (a0, ())))
 else
  if (a0.2.1 == a1) = true then
   some ((false, (a0, ())))
  else
   if (a0.2.2.1 == a1) = true then
    some ((false, (a0, ())))
   else
    if (decide (a0.2.1 > a1)) = true then
     let x2 : Int := IntKind.wrap .i64 (a0.2.1 - (1 : Int))
     if (decide (a0.2.2.1 > a1)) = true then
      let x3 : Int := IntKind.wrap .i64 (a0.2.2.1 - (1 : Int))
      (impl_dropNode_l0 N N (((r1.1, (x2, (x3, a0.2.2.2))), (a1, (([] : List Int), ((List.length a0.2.2.2.1 : Int), ((0 : Int), ((), ())))))))).bind fun o9 => match o9 with
      | .inl d10 =>
       some ((true, ((d10.1.1, (d10.1.2.1, (d10.1.2.2.1, (d10.2.1, d10.1.2.2.2.2)))), ())))
     else
      (impl_dropNode_l0 N N (((r1.1, (x2, a0.2.2)), (a1, (([] : List Int), ((List.length a0.2.2.2.1 : Int), ((0 : Int), ((), ())))))))).bind fun o11 => match o11 with
      | .inl d12 =>
       some ((true, ((d12.1.1, (d12.1.2.1, (d12.1.2.2.1, (d12.2.1, d12.1.2.2.2.2)))), ())))
    else
     if (decide (a0.2.2.1 > a1)) = true then
      let x13 : Int := IntKind.wrap .i64 (a0.2.2.1 - (1 : Int))
      (impl_dropNode_l0 N N (((r1.1, (a0.2.1, (x13, a0.2.2.2))), (a1, (([] : List Int), ((List.length a0.2.2.2.1 : Int), ((0 : Int), ((), ())))))))).bind fun o14 => match o14 with
      | .inl d15 =>
       some ((true, ((d15.1.1, (d15.1.2.1, (d15.1.2.2.1, (d15.2.1, d15.1.2.2.2.2)))), ())))
     else
      (impl_dropNode_l0 N N (((r1.1, a0.2), (a1, (([] : List Int), ((List.length a0.2.2.2.1 : Int), ((0 : Int), ((), ())))))))).bind fun o16 => match o16 with
      | .inl d17 =>
       some ((true, ((d17.1.1, (d17.1.2.1, (d17.1.2.2.1, (d17.2.1, d17.1.2.2.2.2)))), ())))
theorem F_impl_dropNode_ok (N : Nat) (d) : fnR Γ_impl_dropNode (assoc [(0, ⟨impl_dropNode_l0_h, impl_dropNode_l0_o, impl_dropNode_l0 N N⟩)]) true [(K_BPPiSPiiqqiiSiiq, true), (I, false)] [.bool] Tryz.f83.results.toList (bodyOf Tryz.f83) d = F_impl_dropNode N d := by kernel_rfl
noncomputable def S_impl_dropNode : FSig := ⟨[(K_BPPiSPiiqqiiSiiq, true), (I, false)], [.bool], true, (G_dropNode)⟩
noncomputable def Γ_impl_net_size : Ctx := { tk := assoc tks, ar := assoc ars, fs := assoc [] }
noncomputable def F_impl_net_size (N : Nat) (d : (List Int × Unit) × Unit) : Option (Int × Unit) :=
 let a0 : List Int × Unit := d.1
 some ((List.length a0.1 : Int), ())
theorem F_impl_net_size_ok (N : Nat) (d) : fnR Γ_impl_net_size (assoc []) true [(K_PSiq, false)] [I] Tryz.f103.results.toList (bodyOf Tryz.f103) d = F_impl_net_size N d := by kernel_rfl
noncomputable def g_impl_net_size (d : (List Int × Unit) × Unit) : Int × Unit :=
 let a0 : List Int × Unit := d.1
 ((List.length a0.1 : Int), ())
theorem F_impl_net_size_tot (N : Nat) (d) : F_impl_net_size N d = some (g_impl_net_size d) := by
 unfold F_impl_net_size g_impl_net_size
 first
  | rfl
  | (dsimp only; (repeat' split) <;> rfl)
noncomputable def S_impl_net_size : FSig := ⟨[(K_PSiq, false)], [I], true, (fun d => some (g_impl_net_size d))⟩
noncomputable def FV_impl_net_has (d : Int × Int × (((List Int × Unit) × Unit) × Unit) × Unit) : Option (Bool × Unit) := (F_impl_net_has 0) (d.2.2.1.1.1, d.1, d.2.1, d.2.2.1.2)
noncomputable def SV_impl_net_has : FSig := ⟨[(I, false), (I, false), (K_F_impl_net_has_PPSiqqq, false)], [.bool], true, FV_impl_net_has⟩
noncomputable def Γ_impl_graphBy_by_impl_net_has : Ctx := { tk := assoc tks, ar := assoc ars, fs := assoc [], cs := assoc [(151, SV_impl_net_has)] }
abbrev impl_graphBy_by_impl_net_has_l2_H := Int × (((List Int × Unit) × Unit) × Unit) × (Int × (List (Int × Int × Unit)) × Unit) × (Int × (List (Int × Int × Unit)) × Unit) × Int × Int × Int × Int × Unit
abbrev impl_graphBy_by_impl_net_has_l2_O := (Int × (((List Int × Unit) × Unit) × Unit) × (Int × (List (Int × Int × Unit)) × Unit) × (Int × (List (Int × Int × Unit)) × Unit) × Int × Int × Unit) ⊕ Empty
def impl_graphBy_by_impl_net_has_l2_h : Form := [(0, .v I), (1, .v K_F_impl_net_has_PPSiqqq), (4, .box K_PiSPiiqq 99), (5, .box K_PiSPiiqq 99), (6, .v I), (7, .v I), (10, .v I), (11, .v I)]
def impl_graphBy_by_impl_net_has_l2_o : Outs := [(.normal, [(0, .v I), (1, .v K_F_impl_net_has_PPSiqqq), (4, .box K_PiSPiiqq 99), (5, .box K_PiSPiiqq 99), (10, .v I), (11, .v I)])]
noncomputable def impl_graphBy_by_impl_net_has_l2_r (N : Nat) (back : impl_graphBy_by_impl_net_has_l2_H → Option impl_graphBy_by_impl_net_has_l2_O) (d : impl_graphBy_by_impl_net_has_l2_H) : Option impl_graphBy_by_impl_net_has_l2_O :=
 let s0 : Int := d.1
 let s1 : ((List Int × Unit) × Unit) × Unit := d.2.1
 let s4 : Int × (List (Int × Int × Unit)) × Unit := d.2.2.1
 let s5 : Int × (List (Int × Int × Unit)) × Unit := d.2.2.2.1
 let s6 : Int := d.2.2.2.2.1
 let s7 : Int := d.2.2.2.2.2.1
 let s10 : Int := d.2.2.2.2.2.2.1
 let s11 : Int := d.2.2.2.2.2.2.2.1
 if (decide (s7 < s0)) = true then
  (FV_impl_net_has ((s6, (s7, (s1, ()))))).bind fun r17 =>
  if (r17.1) = true then
   if (decide (List.length s5.2.1 + List.length ([(s6, (s7, ()))]) ≤ lim)) = true then
   let x18 : Int := IntKind.wrap .i64 (s7 + (1 : Int))
   back ((s0, (s1, (s4, ((s5.1, (s5.2.1 ++ ([(s6, (s7, ()))]), s5.2.2)), (s6, (x18, (s10, (s11, ())))))))))
   else none
  else
   let x19 : Int := IntKind.wrap .i64 (s7 + (1 : Int))
   back ((s0, (s1, (s4, (s5, (s6, (x19, (s10, (s11, ())))))))))
 else
  some (.inl ((s0, (s1, (s4, (s5, (s10, (s11, ()))))))))
noncomputable def impl_graphBy_by_impl_net_has_l2 (N : Nat) : Nat → impl_graphBy_by_impl_net_has_l2_H → Option impl_graphBy_by_impl_net_has_l2_O
 | 0, _ => none
 | k + 1, d => impl_graphBy_by_impl_net_has_l2_r N (impl_graphBy_by_impl_net_has_l2 N k) d
theorem impl_graphBy_by_impl_net_has_l2_ok (N : Nat) (back) (d) : roundR Γ_impl_graphBy_by_impl_net_has (assoc []) 2 impl_graphBy_by_impl_net_has_l2_h impl_graphBy_by_impl_net_has_l2_o (loopOf Tryz.f150 2) back d = impl_graphBy_by_impl_net_has_l2_r N back d := by kernel_rfl
abbrev impl_graphBy_by_impl_net_has_l0_H := Int × (((List Int × Unit) × Unit) × Unit) × (Int × (List (Int × Int × Unit)) × Unit) × (Int × (List (Int × Int × Unit)) × Unit) × Int × Int × Unit
abbrev impl_graphBy_by_impl_net_has_l0_O := ((Int × (List (Int × Int × Unit)) × Unit) × (Int × (List (Int × Int × Unit)) × Unit) × Unit) ⊕ Empty
def impl_graphBy_by_impl_net_has_l0_h : Form := [(0, .v I), (1, .v K_F_impl_net_has_PPSiqqq), (4, .box K_PiSPiiqq 99), (5, .box K_PiSPiiqq 99), (10, .v I), (11, .v I)]
def impl_graphBy_by_impl_net_has_l0_o : Outs := [(.normal, [(4, .box K_PiSPiiqq 99), (5, .box K_PiSPiiqq 99)])]
noncomputable def impl_graphBy_by_impl_net_has_l0_r (N : Nat) (back : impl_graphBy_by_impl_net_has_l0_H → Option impl_graphBy_by_impl_net_has_l0_O) (d : impl_graphBy_by_impl_net_has_l0_H) : Option impl_graphBy_by_impl_net_has_l0_O :=
 let s0 : Int := d.1
 let s1 : ((List Int × Unit) × Unit) × Unit := d.2.1
 let s4 : Int × (List (Int × Int × Unit)) × Unit := d.2.2.1
 let s5 : Int × (List (Int × Int × Unit)) × Unit := d.2.2.2.1
 let s10 : Int := d.2.2.2.2.1
 let s11 : Int := d.2.2.2.2.2.1
 if (decide (s11 < s10)) = true then
  let x10 : Int := IntKind.wrap .i64 (s11 + (1 : Int))
  (impl_graphBy_by_impl_net_has_l2 N N ((s0, (s1, (s4, (s5, (s11, (x10, (s10, (s11, ())))))))))).bind fun o14 => match o14 with
  | .inl d15 =>
   let x16 : Int := IntKind.wrap .i64 (d15.2.2.2.2.2.1 + (1 : Int))
   back ((d15.1, (d15.2.1, (d15.2.2.1, (d15.2.2.2.1, (d15.2.2.2.2.1, (x16, ())))))))
 else
  some (.inl ((s4, (s5, ()))))
noncomputable def impl_graphBy_by_impl_net_has_l0 (N : Nat) : Nat → impl_graphBy_by_impl_net_has_l0_H → Option impl_graphBy_by_impl_net_has_l0_O
 | 0, _ => none
 | k + 1, d => impl_graphBy_by_impl_net_has_l0_r N (impl_graphBy_by_impl_net_has_l0 N k) d
theorem impl_graphBy_by_impl_net_has_l0_ok (N : Nat) (back) (d) : roundR Γ_impl_graphBy_by_impl_net_has (assoc [(2, ⟨impl_graphBy_by_impl_net_has_l2_h, impl_graphBy_by_impl_net_has_l2_o, impl_graphBy_by_impl_net_has_l2 N N⟩)]) 0 impl_graphBy_by_impl_net_has_l0_h impl_graphBy_by_impl_net_has_l0_o (loopOf Tryz.f150 0) back d = impl_graphBy_by_impl_net_has_l0_r N back d := by kernel_rfl
noncomputable def F_impl_graphBy_by_impl_net_has (N : Nat) (d : Int × (((List Int × Unit) × Unit) × Unit) × Unit) : Option ((Int × (List (Int × Int × Unit)) × Unit) × Unit) :=
 let a0 : Int := d.1
 let a1 : ((List Int × Unit) × Unit) × Unit := d.2.1
 (impl_graphBy_by_impl_net_has_l0 N N ((a0, (a1, (((0 : Int), (([] : List (Int × Int × Unit)), ())), ((a0, (([] : List (Int × Int × Unit)), ())), (a0, ((0 : Int), ())))))))).bind fun o8 => match o8 with
 | .inl d9 =>
  some (d9.2.1, ())
theorem F_impl_graphBy_by_impl_net_has_ok (N : Nat) (d) : fnR Γ_impl_graphBy_by_impl_net_has (assoc [(0, ⟨impl_graphBy_by_impl_net_has_l0_h, impl_graphBy_by_impl_net_has_l0_o, impl_graphBy_by_impl_net_has_l0 N N⟩)]) true [(I, false), (K_F_impl_net_has_PPSiqqq, false)] [K_PiSPiiqq] Tryz.f150.results.toList (bodyOf Tryz.f150) d = F_impl_graphBy_by_impl_net_has N d := by kernel_rfl
noncomputable def S_impl_graphBy_by_impl_net_has : FSig := ⟨[(I, false), (K_F_impl_net_has_PPSiqqq, false)], [K_PiSPiiqq], true, (G_graphBy135)⟩
noncomputable def Γ_impl_net_graph : Ctx := { tk := assoc tks, ar := assoc ars, fs := assoc [(103, S_impl_net_size), (150, S_impl_graphBy_by_impl_net_has)] }
noncomputable def F_impl_net_graph (N : Nat) (d : (List Int × Unit) × Unit) : Option ((Int × (List (Int × Int × Unit)) × Unit) × Unit) :=
 let a0 : List Int × Unit := d.1
 let r1 : Int × Unit := g_impl_net_size (a0, ())
 (G_graphBy135 ((r1.1, (((a0, ()), ()), ())))).bind fun r2 =>
 some (r2.1, ())
theorem F_impl_net_graph_ok (N : Nat) (d) : fnR Γ_impl_net_graph (assoc []) true [(K_PSiq, false)] [K_PiSPiiqq] Tryz.f127.results.toList (bodyOf Tryz.f127) d = F_impl_net_graph N d := by kernel_rfl
noncomputable def S_impl_net_graph : FSig := ⟨[(K_PSiq, false)], [K_PiSPiiqq], true, (F_impl_net_graph 0)⟩
noncomputable def Γ_impl_ToggleEdge : Ctx := { tk := assoc tks, ar := assoc ars, fs := assoc [(67, S_impl_netOf), (70, S_impl_hasNodes), (127, S_impl_net_graph)] }
noncomputable def F_impl_ToggleEdge (N : Nat) (d : (Int × (List (Int × Int × Unit)) × Unit) × Int × Int × Unit) : Option ((Int × (List (Int × Int × Unit)) × Unit) × Bool × Unit) :=
 let a0 : Int × (List (Int × Int × Unit)) × Unit := d.1
 let a1 : Int := d.2.1
 let a2 : Int := d.2.2.1
 ((F_impl_hasNodes 0) ((a0, ([a1, a2], ())))).bind fun r1 =>
 if (!r1.1) = true then
  some ((((0 : Int), (([] : List (Int × Int × Unit)), ())), (false, ())))
 else
  if (a1 == a2) = true then
   some ((((0 : Int), (([] : List (Int × Int × Unit)), ())), (false, ())))
  else
   (G_netOf (a0, ())).bind fun r2 =>
   if (idxIn a1 (List.length r2.1.1)) = true then
   if (decide (0 ≤ a2)) = true then
   let x3 : Int := bits .xor .i64 (at_ I r2.1.1 a1.toNat) (shl .i64 (1 : Int) a2)
   if (idxIn a1 (List.length r2.1.1)) = true then
   if (idxIn a2 (List.length (List.set r2.1.1 a1.toNat x3))) = true then
   if (decide (0 ≤ a1)) = true then
   let x4 : Int := bits .xor .i64 (at_ I (List.set r2.1.1 a1.toNat x3) a2.toNat) (shl .i64 (1 : Int) a1)
   if (idxIn a2 (List.length (List.set r2.1.1 a1.toNat x3))) = true then
   ((F_impl_net_graph 0) (((List.set (List.set r2.1.1 a1.toNat x3) a2.toNat x4, r2.1.2), ()))).bind fun r5 =>
   some ((r5.1, (true, ())))
   else none
   else none
   else none
   else none
   else none
   else none
theorem F_impl_ToggleEdge_ok (N : Nat) (d) : fnR Γ_impl_ToggleEdge (assoc []) true [(K_PiSPiiqq, false), (I, false), (I, false)] [K_PiSPiiqq, .bool] Tryz.f84.results.toList (bodyOf Tryz.f84) d = F_impl_ToggleEdge N d := by kernel_rfl
noncomputable def S_impl_ToggleEdge : FSig := ⟨[(K_PiSPiiqq, false), (I, false), (I, false)], [K_PiSPiiqq, .bool], true, (F_impl_ToggleEdge 0)⟩
noncomputable def Γ_impl_areApart : Ctx := { tk := assoc tks, ar := assoc ars, fs := assoc [] }
noncomputable def F_impl_areApart (N : Nat) (d : ((Int × (List (Int × Int × Unit)) × Unit) × Int × Int × List Int × Int × Unit) × Unit) : Option (Bool × Unit) :=
 let a0 : (Int × (List (Int × Int × Unit)) × Unit) × Int × Int × List Int × Int × Unit := d.1
 if (decide (a0.2.1 ≥ (0 : Int))) = true then
  if (decide (a0.2.2.1 ≥ (0 : Int))) = true then
   some (a0.2.1 != a0.2.2.1, ())
  else
   some (false, ())
 else
  some (false, ())
theorem F_impl_areApart_ok (N : Nat) (d) : fnR Γ_impl_areApart (assoc []) true [(K_BPPiSPiiqqiiSiiq, false)] [.bool] Tryz.f128.results.toList (bodyOf Tryz.f128) d = F_impl_areApart N d := by kernel_rfl
noncomputable def g_impl_areApart (d : ((Int × (List (Int × Int × Unit)) × Unit) × Int × Int × List Int × Int × Unit) × Unit) : Bool × Unit :=
 let a0 : (Int × (List (Int × Int × Unit)) × Unit) × Int × Int × List Int × Int × Unit := d.1
 if (decide (a0.2.1 ≥ (0 : Int))) = true then
  if (decide (a0.2.2.1 ≥ (0 : Int))) = true then
   (a0.2.1 != a0.2.2.1, ())
  else
   (false, ())
 else
  (false, ())
theorem F_impl_areApart_tot (N : Nat) (d) : F_impl_areApart N d = some (g_impl_areApart d) := by
 unfold F_impl_areApart g_impl_areApart
 first
  | rfl
  | (dsimp only; (repeat' split) <;> rfl)
noncomputable def S_impl_areApart : FSig := ⟨[(K_BPPiSPiiqqiiSiiq, false)], [.bool], true, (fun d => some (g_impl_areApart d))⟩
noncomputable def Γ_impl_net_closed : Ctx := { tk := assoc tks, ar := assoc ars, fs := assoc [] }
noncomputable def F_impl_net_closed (N : Nat) (d : (List Int × Unit) × Int × Unit) : Option (Int × Unit) :=
 let a0 : List Int × Unit := d.1
 let a1 : Int := d.2.1
 if (idxIn a1 (List.length a0.1)) = true then
 if (decide (0 ≤ a1)) = true then
 let x1 : Int := bits .or .i64 (at_ I a0.1 a1.toNat) (shl .i64 (1 : Int) a1)
 some (x1, ())
 else none
 else none
theorem F_impl_net_closed_ok (N : Nat) (d) : fnR Γ_impl_net_closed (assoc []) true [(K_PSiq, false), (I, false)] [I] Tryz.f109.results.toList (bodyOf Tryz.f109) d = F_impl_net_closed N d := by kernel_rfl
noncomputable def S_impl_net_closed : FSig := ⟨[(K_PSiq, false), (I, false)], [I], true, (F_impl_net_closed 0)⟩
noncomputable def Γ_impl_moveBoth : Ctx := { tk := assoc tks, ar := assoc ars, fs := assoc [(67, S_impl_netOf), (70, S_impl_hasNodes), (109, S_impl_net_closed), (128, S_impl_areApart)], lent := fun t => Nat.beq t 0, cs := assoc [], gs := assoc [], eqt := inL [], md := { gone := [], deep := [0] } }
noncomputable def F_impl_moveBoth (N : Nat) (d : ((Int × (List (Int × Int × Unit)) × Unit) × Int × Int × List Int × Int × Unit) × Int × Int × Unit) : Option (Bool × ((Int × (List (Int × Int × Unit)) × Unit) × Int × Int × List Int × Int × Unit) × Unit) :=
 let a0 : (Int × (List (Int × Int × Unit)) × Unit) × Int × Int × List Int × Int × Unit := d.1
 let a1 : Int := d.2.1
 let a2 : Int := d.2.2.1
 let r1 : Bool × Unit := g_impl_areApart (a0, ())
 if (!r1.1) = true then
  some ((false, (a0, ())))
 else
  ((F_impl_hasNodes 0) ((a0.1, ([a1, a2], ())))).bind fun r2 =>
  if (!r2.1) = true then
   some ((false, (a0, ())))
  else
   if (a1 == a0.2.2.1) = true then
    if (a2 != a1) = true then
     some ((false, (a0, ())))
    else
     (G_netOf (a0.1, ())).bind fun r3 =>
     ((F_impl_net_closed 0) ((r3.1, (a0.2.1, ())))).bind fun r4 =>
     if (decide (0 ≤ a1)) = true then
     let x5 : Int := bits .and .i64 (shr .i64 r4.1 a1) (1 : Int)
     if (x5 == (0 : Int)) = true then
      some ((false, (a0, ())))
     else
      ((F_impl_net_closed 0) ((r3.1, (a0.2.2.1, ())))).bind fun r6 =>
      if (decide (0 ≤ a2)) = true then
      let x7 : Int := bits .and .i64 (shr .i64 r6.1 a2) (1 : Int)
      if (x7 == (0 : Int)) = true then
       some ((false, (a0, ())))
      else
       some ((true, ((a0.1, (a1, (a2, a0.2.2.2))), ())))
      else none
     else none
   else
    (G_netOf (a0.1, ())).bind fun r8 =>
    ((F_impl_net_closed 0) ((r8.1, (a0.2.1, ())))).bind fun r9 =>
    if (decide (0 ≤ a1)) = true then
    let x10 : Int := bits .and .i64 (shr .i64 r9.1 a1) (1 : Int)
    if (x10 == (0 : Int)) = true then
     some ((false, (a0, ())))
    else
     ((F_impl_net_closed 0) ((r8.1, (a0.2.2.1, ())))).bind fun r11 =>
     if (decide (0 ≤ a2)) = true then
     let x12 : Int := bits .and .i64 (shr .i64 r11.1 a2) (1 : Int)
     if (x12 == (0 : Int)) = true then
      some ((false, (a0, ())))
     else
      some ((true, ((a0.1, (a1, (a2, a0.2.2.2))), ())))
     else none
    else none
theorem F_impl_moveBoth_ok (N : Nat) (d) : fnR Γ_impl_moveBoth (assoc []) true [(K_BPPiSPiiqqiiSiiq, true), (I, false), (I, false)] [.bool] Tryz.f85.results.toList (bodyOf Tryz.f85) d = F_impl_moveBoth N d := by kernel_rfl
noncomputable def S_impl_moveBoth : FSig := ⟨[(K_BPPiSPiiqqiiSiiq, true), (I, false), (I, false)], [.bool], true, (F_impl_moveBoth 0)⟩
def S_slices_Repeat_Sint_int : FSig := ⟨[(K_Si, false), (I, false)], [K_Si], true, G_repeat⟩
noncomputable def Γ_impl_net_timeAfter : Ctx := { tk := assoc tks, ar := assoc ars, fs := assoc [(108, S_impl_setOf), (109, S_impl_net_closed)] }
abbrev impl_net_timeAfter_l0_H := List Int × Int × List Int × Int × Int × Unit
abbrev impl_net_timeAfter_l0_O := (Int × Unit) ⊕ (Int × Unit) ⊕ Empty
def impl_net_timeAfter_l0_h : Form := [(1, .v K_Si), (7, .v I), (13, .own K_Si 99), (14, .v I), (15, .v I)]
def impl_net_timeAfter_l0_o : Outs := [(.ret, [(6, .v I)]), (.normal, [(7, .v I)])]
noncomputable def impl_net_timeAfter_l0_r (N : Nat) (back : impl_net_timeAfter_l0_H → Option impl_net_timeAfter_l0_O) (d : impl_net_timeAfter_l0_H) : Option impl_net_timeAfter_l0_O :=
 let s1 : List Int := d.1
 let s7 : Int := d.2.1
 let s13 : List Int := d.2.2.1
 let s14 : Int := d.2.2.2.1
 let s15 : Int := d.2.2.2.2.1
 if (decide (s15 < s14)) = true then
  if (idxIn s15 (List.length s13)) = true then
  if (idxIn (at_ I s13 s15.toNat) (List.length s1)) = true then
  if (decide (at_ I s1 (at_ I s13 s15.toNat).toNat < (0 : Int))) = true then
   some (.inl ((-1 : Int), ()))
  else
   if (idxIn (at_ I s13 s15.toNat) (List.length s1)) = true then
   let x8 : Int := if s7 < at_ I s1 (at_ I s13 s15.toNat).toNat then at_ I s1 (at_ I s13 s15.toNat).toNat else s7
   let x9 : Int := IntKind.wrap .i64 (s15 + (1 : Int))
   back ((s1, (x8, (s13, (s14, (x9, ()))))))
   else none
  else none
  else none
 else
  some (.inr (.inl (s7, ())))
noncomputable def impl_net_timeAfter_l0 (N : Nat) : Nat → impl_net_timeAfter_l0_H → Option impl_net_timeAfter_l0_O
 | 0, _ => none
 | k + 1, d => impl_net_timeAfter_l0_r N (impl_net_timeAfter_l0 N k) d
theorem impl_net_timeAfter_l0_ok (N : Nat) (back) (d) : roundR Γ_impl_net_timeAfter (assoc []) 0 impl_net_timeAfter_l0_h impl_net_timeAfter_l0_o (loopOf Tryz.f110 0) back d = impl_net_timeAfter_l0_r N back d := by kernel_rfl
noncomputable def F_impl_net_timeAfter (N : Nat) (d : (List Int × Unit) × List Int × Int × Unit) : Option (Int × Unit) :=
 let a0 : List Int × Unit := d.1
 let a1 : List Int := d.2.1
 let a2 : Int := d.2.2.1
 ((F_impl_net_closed 0) ((a0, (a2, ())))).bind fun r1 =>
 (G_setOf (r1.1, ())).bind fun r2 =>
 (impl_net_timeAfter_l0 N N ((a1, ((0 : Int), (r2.1, ((List.length r2.1 : Int), ((0 : Int), ()))))))).bind fun o5 => match o5 with
 | .inl d6 =>
  some (d6.1, ())
 | .inr (.inl d7) =>
  some (d7.1, ())
theorem F_impl_net_timeAfter_ok (N : Nat) (d) : fnR Γ_impl_net_timeAfter (assoc [(0, ⟨impl_net_timeAfter_l0_h, impl_net_timeAfter_l0_o, impl_net_timeAfter_l0 N N⟩)]) true [(K_PSiq, false), (K_Si, false), (I, false)] [I] Tryz.f110.results.toList (bodyOf Tryz.f110) d = F_impl_net_timeAfter N d := by kernel_rfl
noncomputable def S_impl_net_timeAfter : FSig := ⟨[(K_PSiq, false), (K_Si, false), (I, false)], [I], true, (G_timeAfter)⟩
noncomputable def Γ_impl_net_copCan_1 : Ctx := { tk := assoc tks, ar := assoc ars, fs := assoc [(110, S_impl_net_timeAfter)] }
noncomputable def F_impl_net_copCan_1 (N : Nat) (d : Int × Int × (List Int × Unit) × List (List Int) × Unit) : Option (Bool × Unit) :=
 let a0 : Int := d.1
 let a1 : Int := d.2.1
 let a2 : List Int × Unit := d.2.2.1
 let a3 : List (List Int) := d.2.2.2.1
 if (a0 == a1) = true then
  some (true, ())
 else
  if (idxIn a0 (List.length a3)) = true then
  (G_timeAfter ((a2, (at_ K_Si a3 a0.toNat, (a1, ()))))).bind fun r1 =>
  some ((decide (r1.1 ≥ (0 : Int)), ()))
  else none
theorem F_impl_net_copCan_1_ok (N : Nat) (d) : fnR Γ_impl_net_copCan_1 (assoc []) true [(I, false), (K_Bi, false), (K_BPSiq, false), (K_BSSi, false)] [.bool] Tryz.f140.results.toList (bodyOf Tryz.f140) d = F_impl_net_copCan_1 N d := by kernel_rfl
noncomputable def S_impl_net_copCan_1 : FSig := ⟨[(I, false), (K_Bi, false), (K_BPSiq, false), (K_BSSi, false)], [.bool], true, (F_impl_net_copCan_1 0)⟩
noncomputable def FV_impl_net_copCan_1 (d : Int × (Unit × Int × (List Int × Unit) × List (List Int) × Unit) × Unit) : Option (Bool × Unit) := (F_impl_net_copCan_1 0) (d.1, d.2.1.2)
noncomputable def SV_impl_net_copCan_1 : FSig := ⟨[(I, false), (K_F_impl_net_copCan_1_qPBiBPSiqBSSiq, false)], [.bool], true, FV_impl_net_copCan_1⟩
noncomputable def Γ_slices_IndexFunc_Sint_int_by_impl_net_copCan_1 : Ctx := { tk := assoc tks, ar := assoc ars, fs := assoc [], cs := assoc [(140, SV_impl_net_copCan_1)] }
abbrev slices_IndexFunc_Sint_int_by_impl_net_copCan_1_l0_H := List Int × (Unit × Int × (List Int × Unit) × List (List Int) × Unit) × Int × Int × Unit
abbrev slices_IndexFunc_Sint_int_by_impl_net_copCan_1_l0_O := (Int × Unit) ⊕ Unit ⊕ Empty
def slices_IndexFunc_Sint_int_by_impl_net_copCan_1_l0_h : Form := [(0, .v K_Si), (1, .v K_F_impl_net_copCan_1_qPBiBPSiqBSSiq), (7, .v I), (8, .v I)]
def slices_IndexFunc_Sint_int_by_impl_net_copCan_1_l0_o : Outs := [(.ret, [(4, .v I)]), (.normal, [])]
noncomputable def slices_IndexFunc_Sint_int_by_impl_net_copCan_1_l0_r (N : Nat) (back : slices_IndexFunc_Sint_int_by_impl_net_copCan_1_l0_H → Option slices_IndexFunc_Sint_int_by_impl_net_copCan_1_l0_O) (d : slices_IndexFunc_Sint_int_by_impl_net_copCan_1_l0_H) : Option slices_IndexFunc_Sint_int_by_impl_net_copCan_1_l0_O :=
 let s0 : List Int := d.1
 let s1 : Unit × Int × (List Int × Unit) × List (List Int) × Unit := d.2.1
 let s7 : Int := d.2.2.1
 let s8 : Int := d.2.2.2.1
 if (decide (s8 < s7)) = true then
  if (idxIn s8 (List.length s0)) = true then
  (FV_impl_net_copCan_1 ((at_ I s0 s8.toNat, (s1, ())))).bind fun r6 =>
  if (r6.1) = true then
   some (.inl (s8, ()))
  else
   let x7 : Int := IntKind.wrap .i64 (s8 + (1 : Int))
   back ((s0, (s1, (s7, (x7, ())))))
  else none
 else
  some (.inr (.inl ()))
noncomputable def slices_IndexFunc_Sint_int_by_impl_net_copCan_1_l0 (N : Nat) : Nat → slices_IndexFunc_Sint_int_by_impl_net_copCan_1_l0_H → Option slices_IndexFunc_Sint_int_by_impl_net_copCan_1_l0_O
 | 0, _ => none
 | k + 1, d => slices_IndexFunc_Sint_int_by_impl_net_copCan_1_l0_r N (slices_IndexFunc_Sint_int_by_impl_net_copCan_1_l0 N k) d
theorem slices_IndexFunc_Sint_int_by_impl_net_copCan_1_l0_ok (N : Nat) (back) (d) : roundR Γ_slices_IndexFunc_Sint_int_by_impl_net_copCan_1 (assoc []) 0 slices_IndexFunc_Sint_int_by_impl_net_copCan_1_l0_h slices_IndexFunc_Sint_int_by_impl_net_copCan_1_l0_o (loopOf Tryz.f160 0) back d = slices_IndexFunc_Sint_int_by_impl_net_copCan_1_l0_r N back d := by kernel_rfl
noncomputable def F_slices_IndexFunc_Sint_int_by_impl_net_copCan_1 (N : Nat) (d : List Int × (Unit × Int × (List Int × Unit) × List (List Int) × Unit) × Unit) : Option (Int × Unit) :=
 let a0 : List Int := d.1
 let a1 : Unit × Int × (List Int × Unit) × List (List Int) × Unit := d.2.1
 (slices_IndexFunc_Sint_int_by_impl_net_copCan_1_l0 N N ((a0, (a1, ((List.length a0 : Int), ((0 : Int), ())))))).bind fun o3 => match o3 with
 | .inl d4 =>
  some (d4.1, ())
 | .inr (.inl d5) =>
  some ((-1 : Int), ())
theorem F_slices_IndexFunc_Sint_int_by_impl_net_copCan_1_ok (N : Nat) (d) : fnR Γ_slices_IndexFunc_Sint_int_by_impl_net_copCan_1 (assoc [(0, ⟨slices_IndexFunc_Sint_int_by_impl_net_copCan_1_l0_h, slices_IndexFunc_Sint_int_by_impl_net_copCan_1_l0_o, slices_IndexFunc_Sint_int_by_impl_net_copCan_1_l0 N N⟩)]) true [(K_Si, false), (K_F_impl_net_copCan_1_qPBiBPSiqBSSiq, false)] [I] Tryz.f160.results.toList (bodyOf Tryz.f160) d = F_slices_IndexFunc_Sint_int_by_impl_net_copCan_1 N d := by kernel_rfl
noncomputable def S_slices_IndexFunc_Sint_int_by_impl_net_copCan_1 : FSig := ⟨[(K_Si, false), (K_F_impl_net_copCan_1_qPBiBPSiqBSSiq, false)], [I], true, (G_index154)⟩
noncomputable def Γ_slices_ContainsFunc_Sint_int_by_impl_net_copCan_1 : Ctx := { tk := assoc tks, ar := assoc ars, fs := assoc [(160, S_slices_IndexFunc_Sint_int_by_impl_net_copCan_1)] }
noncomputable def F_slices_ContainsFunc_Sint_int_by_impl_net_copCan_1 (N : Nat) (d : List Int × (Unit × Int × (List Int × Unit) × List (List Int) × Unit) × Unit) : Option (Bool × Unit) :=
 let a0 : List Int := d.1
 let a1 : Unit × Int × (List Int × Unit) × List (List Int) × Unit := d.2.1
 (G_index154 ((a0, (a1, ())))).bind fun r1 =>
 some ((decide (r1.1 ≥ (0 : Int)), ()))
theorem F_slices_ContainsFunc_Sint_int_by_impl_net_copCan_1_ok (N : Nat) (d) : fnR Γ_slices_ContainsFunc_Sint_int_by_impl_net_copCan_1 (assoc []) true [(K_Si, false), (K_F_impl_net_copCan_1_qPBiBPSiqBSSiq, false)] [.bool] Tryz.f139.results.toList (bodyOf Tryz.f139) d = F_slices_ContainsFunc_Sint_int_by_impl_net_copCan_1 N d := by kernel_rfl
noncomputable def S_slices_ContainsFunc_Sint_int_by_impl_net_copCan_1 : FSig := ⟨[(K_Si, false), (K_F_impl_net_copCan_1_qPBiBPSiqBSSiq, false)], [.bool], true, (F_slices_ContainsFunc_Sint_int_by_impl_net_copCan_1 0)⟩
noncomputable def Γ_impl_net_copCan : Ctx := { tk := assoc tks, ar := assoc ars, fs := assoc [(108, S_impl_setOf), (109, S_impl_net_closed), (139, S_slices_ContainsFunc_Sint_int_by_impl_net_copCan_1)], cs := assoc [], fz := fun t => Nat.beq t 4 || Nat.beq t 5 || Nat.beq t 7 }
noncomputable def F_impl_net_copCan (N : Nat) (d : (List Int × Unit) × List (List Int) × Int × Int × Unit) : Option (Bool × Unit) :=
 let a0 : List Int × Unit := d.1
 let a1 : List (List Int) := d.2.1
 let a2 : Int := d.2.2.1
 let a3 : Int := d.2.2.2.1
 ((F_impl_net_closed 0) ((a0, (a2, ())))).bind fun r1 =>
 (G_setOf (r1.1, ())).bind fun r2 =>
 ((F_slices_ContainsFunc_Sint_int_by_impl_net_copCan_1 0) ((r2.1, (((), (a3, (a0, (a1, ())))), ())))).bind fun r3 =>
 some (r3.1, ())
theorem F_impl_net_copCan_ok (N : Nat) (d) : fnR Γ_impl_net_copCan (assoc []) true [(K_PSiq, false), (K_SSi, false), (I, false), (I, false)] [.bool] Tryz.f105.results.toList (bodyOf Tryz.f105) d = F_impl_net_copCan N d := by kernel_rfl
noncomputable def S_impl_net_copCan : FSig := ⟨[(K_PSiq, false), (K_SSi, false), (I, false), (I, false)], [.bool], true, (F_impl_net_copCan 0)⟩
noncomputable def Γ_impl_net_copTimes : Ctx := { tk := assoc tks, ar := assoc ars, fs := assoc [(103, S_impl_net_size), (104, S_slices_Repeat_Sint_int), (105, S_impl_net_copCan)] }
abbrev impl_net_copTimes_l0_H := (List Int × Unit) × Int × List (List Int) × Int × Int × Unit
abbrev impl_net_copTimes_l0_O := ((List Int × Unit) × Int × List (List Int) × Unit) ⊕ Empty
def impl_net_copTimes_l0_h : Form := [(1, .box K_PSiq 0), (3, .v I), (4, .own K_SSi 99), (18, .v I), (19, .v I)]
def impl_net_copTimes_l0_o : Outs := [(.normal, [(1, .box K_PSiq 0), (3, .v I), (4, .own K_SSi 99)])]
noncomputable def impl_net_copTimes_l0_r (N : Nat) (back : impl_net_copTimes_l0_H → Option impl_net_copTimes_l0_O) (d : impl_net_copTimes_l0_H) : Option impl_net_copTimes_l0_O :=
 let s1 : List Int × Unit := d.1
 let s3 : Int := d.2.1
 let s4 : List (List Int) := d.2.2.1
 let s18 : Int := d.2.2.2.1
 let s19 : Int := d.2.2.2.2.1
 if (decide (s19 < s18)) = true then
  (G_repeat (([(-1 : Int)], (s3, ())))).bind fun r24 =>
  if (idxIn s19 (List.length s4)) = true then
  if (idxIn s19 (List.length (List.set s4 s19.toNat r24.1))) = true then
  if (idxIn s19 (List.length (at_ K_Si (List.set s4 s19.toNat r24.1) s19.toNat))) = true then
  let x25 : List (List Int) := List.set (List.set s4 s19.toNat r24.1) s19.toNat (List.set (at_ K_Si (List.set s4 s19.toNat r24.1) s19.toNat) s19.toNat (0 : Int))
  let x26 : Int := IntKind.wrap .i64 (s19 + (1 : Int))
  back ((s1, (s3, (x25, (s18, (x26, ()))))))
  else none
  else none
  else none
 else
  some (.inl ((s1, (s3, (s4, ())))))
noncomputable def impl_net_copTimes_l0 (N : Nat) : Nat → impl_net_copTimes_l0_H → Option impl_net_copTimes_l0_O
 | 0, _ => none
 | k + 1, d => impl_net_copTimes_l0_r N (impl_net_copTimes_l0 N k) d
theorem impl_net_copTimes_l0_ok (N : Nat) (back) (d) : roundR Γ_impl_net_copTimes (assoc []) 0 impl_net_copTimes_l0_h impl_net_copTimes_l0_o (loopOf Tryz.f68 0) back d = impl_net_copTimes_l0_r N back d := by kernel_rfl
abbrev impl_net_copTimes_l6_H := (List Int × Unit) × Int × List (List Int) × Int × Bool × (List (Int × Int × Unit)) × Int × Int × Int × Int × Int × Unit
abbrev impl_net_copTimes_l6_O := ((List Int × Unit) × Int × List (List Int) × Int × Bool × (List (Int × Int × Unit)) × Int × Int × Unit) ⊕ Empty
def impl_net_copTimes_l6_h : Form := [(1, .box K_PSiq 0), (3, .v I), (4, .own K_SSi 99), (6, .v I), (7, .v .bool), (8, .own K_SPiiq 99), (9, .v I), (38, .v I), (39, .v I), (42, .v I), (43, .v I)]
def impl_net_copTimes_l6_o : Outs := [(.normal, [(1, .box K_PSiq 0), (3, .v I), (4, .own K_SSi 99), (6, .v I), (7, .v .bool), (8, .own K_SPiiq 99), (38, .v I), (39, .v I)])]
noncomputable def impl_net_copTimes_l6_r (N : Nat) (back : impl_net_copTimes_l6_H → Option impl_net_copTimes_l6_O) (d : impl_net_copTimes_l6_H) : Option impl_net_copTimes_l6_O :=
 let s1 : List Int × Unit := d.1
 let s3 : Int := d.2.1
 let s4 : List (List Int) := d.2.2.1
 let s6 : Int := d.2.2.2.1
 let s7 : Bool := d.2.2.2.2.1
 let s8 : List (Int × Int × Unit) := d.2.2.2.2.2.1
 let s9 : Int := d.2.2.2.2.2.2.1
 let s38 : Int := d.2.2.2.2.2.2.2.1
 let s39 : Int := d.2.2.2.2.2.2.2.2.1
 let s42 : Int := d.2.2.2.2.2.2.2.2.2.1
 let s43 : Int := d.2.2.2.2.2.2.2.2.2.2.1
 if (decide (s43 < s42)) = true then
  if (idxIn s9 (List.length s4)) = true then
  if (idxIn s43 (List.length (at_ K_Si s4 s9.toNat))) = true then
  if (decide (at_ I (at_ K_Si s4 s9.toNat) s43.toNat < (0 : Int))) = true then
   ((F_impl_net_copCan 0) ((s1, (s4, (s9, (s43, ())))))).bind fun r48 =>
   if (r48.1) = true then
    if (decide (List.length s8 + List.length ([(s9, (s43, ()))]) ≤ lim)) = true then
    let x49 : Int := IntKind.wrap .i64 (s43 + (1 : Int))
    back ((s1, (s3, (s4, (s6, (s7, (s8 ++ ([(s9, (s43, ()))]), (s9, (s38, (s39, (s42, (x49, ()))))))))))))
    else none
   else
    let x50 : Int := IntKind.wrap .i64 (s43 + (1 : Int))
    back ((s1, (s3, (s4, (s6, (s7, (s8, (s9, (s38, (s39, (s42, (x50, ()))))))))))))
  else
   let x51 : Int := IntKind.wrap .i64 (s43 + (1 : Int))
   back ((s1, (s3, (s4, (s6, (s7, (s8, (s9, (s38, (s39, (s42, (x51, ()))))))))))))
  else none
  else none
 else
  some (.inl ((s1, (s3, (s4, (s6, (s7, (s8, (s38, (s39, ()))))))))))
noncomputable def impl_net_copTimes_l6 (N : Nat) : Nat → impl_net_copTimes_l6_H → Option impl_net_copTimes_l6_O
 | 0, _ => none
 | k + 1, d => impl_net_copTimes_l6_r N (impl_net_copTimes_l6 N k) d
theorem impl_net_copTimes_l6_ok (N : Nat) (back) (d) : roundR Γ_impl_net_copTimes (assoc []) 6 impl_net_copTimes_l6_h impl_net_copTimes_l6_o (loopOf Tryz.f68 6) back d = impl_net_copTimes_l6_r N back d := by kernel_rfl
abbrev impl_net_copTimes_l4_H := (List Int × Unit) × Int × List (List Int) × Int × Bool × (List (Int × Int × Unit)) × Int × Int × Unit
abbrev impl_net_copTimes_l4_O := ((List Int × Unit) × Int × List (List Int) × Int × Bool × (List (Int × Int × Unit)) × Unit) ⊕ Empty
def impl_net_copTimes_l4_h : Form := [(1, .box K_PSiq 0), (3, .v I), (4, .own K_SSi 99), (6, .v I), (7, .v .bool), (8, .own K_SPiiq 99), (38, .v I), (39, .v I)]
def impl_net_copTimes_l4_o : Outs := [(.normal, [(1, .box K_PSiq 0), (3, .v I), (4, .own K_SSi 99), (6, .v I), (7, .v .bool), (8, .own K_SPiiq 99)])]
noncomputable def impl_net_copTimes_l4_r (N : Nat) (back : impl_net_copTimes_l4_H → Option impl_net_copTimes_l4_O) (d : impl_net_copTimes_l4_H) : Option impl_net_copTimes_l4_O :=
 let s1 : List Int × Unit := d.1
 let s3 : Int := d.2.1
 let s4 : List (List Int) := d.2.2.1
 let s6 : Int := d.2.2.2.1
 let s7 : Bool := d.2.2.2.2.1
 let s8 : List (Int × Int × Unit) := d.2.2.2.2.2.1
 let s38 : Int := d.2.2.2.2.2.2.1
 let s39 : Int := d.2.2.2.2.2.2.2.1
 if (decide (s39 < s38)) = true then
  (impl_net_copTimes_l6 N N ((s1, (s3, (s4, (s6, (s7, (s8, (s39, (s38, (s39, (s3, ((0 : Int), ()))))))))))))).bind fun o45 => match o45 with
  | .inl d46 =>
   let x47 : Int := IntKind.wrap .i64 (d46.2.2.2.2.2.2.2.1 + (1 : Int))
   back ((d46.1, (d46.2.1, (d46.2.2.1, (d46.2.2.2.1, (d46.2.2.2.2.1, (d46.2.2.2.2.2.1, (d46.2.2.2.2.2.2.1, (x47, ())))))))))
 else
  some (.inl ((s1, (s3, (s4, (s6, (s7, (s8, ()))))))))
noncomputable def impl_net_copTimes_l4 (N : Nat) : Nat → impl_net_copTimes_l4_H → Option impl_net_copTimes_l4_O
 | 0, _ => none
 | k + 1, d => impl_net_copTimes_l4_r N (impl_net_copTimes_l4 N k) d
theorem impl_net_copTimes_l4_ok (N : Nat) (back) (d) : roundR Γ_impl_net_copTimes (assoc [(6, ⟨impl_net_copTimes_l6_h, impl_net_copTimes_l6_o, impl_net_copTimes_l6 N N⟩)]) 4 impl_net_copTimes_l4_h impl_net_copTimes_l4_o (loopOf Tryz.f68 4) back d = impl_net_copTimes_l4_r N back d := by kernel_rfl
abbrev impl_net_copTimes_l8_H := (List Int × Unit) × Int × List (List Int) × Int × Bool × (List (Int × Int × Unit)) × Int × Int × Unit
abbrev impl_net_copTimes_l8_O := ((List Int × Unit) × Int × List (List Int) × Int × Bool × Unit) ⊕ Empty
def impl_net_copTimes_l8_h : Form := [(1, .box K_PSiq 0), (3, .v I), (4, .own K_SSi 99), (6, .v I), (7, .v .bool), (69, .own K_SPiiq 99), (70, .v I), (71, .v I)]
def impl_net_copTimes_l8_o : Outs := [(.normal, [(1, .box K_PSiq 0), (3, .v I), (4, .own K_SSi 99), (6, .v I), (7, .v .bool)])]
noncomputable def impl_net_copTimes_l8_r (N : Nat) (back : impl_net_copTimes_l8_H → Option impl_net_copTimes_l8_O) (d : impl_net_copTimes_l8_H) : Option impl_net_copTimes_l8_O :=
 let s1 : List Int × Unit := d.1
 let s3 : Int := d.2.1
 let s4 : List (List Int) := d.2.2.1
 let s6 : Int := d.2.2.2.1
 let s7 : Bool := d.2.2.2.2.1
 let s69 : List (Int × Int × Unit) := d.2.2.2.2.2.1
 let s70 : Int := d.2.2.2.2.2.2.1
 let s71 : Int := d.2.2.2.2.2.2.2.1
 if (decide (s71 < s70)) = true then
  if (idxIn s71 (List.length s69)) = true then
  if (idxIn (at_ K_Piiq s69 s71.toNat).1 (List.length s4)) = true then
  if (idxIn (at_ K_Piiq s69 s71.toNat).2.1 (List.length (at_ K_Si s4 (at_ K_Piiq s69 s71.toNat).1.toNat))) = true then
  let x52 : List (List Int) := List.set s4 (at_ K_Piiq s69 s71.toNat).1.toNat (List.set (at_ K_Si s4 (at_ K_Piiq s69 s71.toNat).1.toNat) (at_ K_Piiq s69 s71.toNat).2.1.toNat s6)
  let x53 : Int := IntKind.wrap .i64 (s71 + (1 : Int))
  back ((s1, (s3, (x52, (s6, (true, (s69, (s70, (x53, ())))))))))
  else none
  else none
  else none
 else
  some (.inl ((s1, (s3, (s4, (s6, (s7, ())))))))
noncomputable def impl_net_copTimes_l8 (N : Nat) : Nat → impl_net_copTimes_l8_H → Option impl_net_copTimes_l8_O
 | 0, _ => none
 | k + 1, d => impl_net_copTimes_l8_r N (impl_net_copTimes_l8 N k) d
theorem impl_net_copTimes_l8_ok (N : Nat) (back) (d) : roundR Γ_impl_net_copTimes (assoc []) 8 impl_net_copTimes_l8_h impl_net_copTimes_l8_o (loopOf Tryz.f68 8) back d = impl_net_copTimes_l8_r N back d := by kernel_rfl
abbrev impl_net_copTimes_l2_H := (List Int × Unit) × Int × List (List Int) × Int × Bool × Unit
abbrev impl_net_copTimes_l2_O := (List (List Int) × Unit) ⊕ Empty
def impl_net_copTimes_l2_h : Form := [(1, .box K_PSiq 0), (3, .v I), (4, .own K_SSi 99), (6, .v I), (7, .v .bool)]
def impl_net_copTimes_l2_o : Outs := [(.normal, [(4, .own K_SSi 99)])]
noncomputable def impl_net_copTimes_l2_r (N : Nat) (back : impl_net_copTimes_l2_H → Option impl_net_copTimes_l2_O) (d : impl_net_copTimes_l2_H) : Option impl_net_copTimes_l2_O :=
 let s1 : List Int × Unit := d.1
 let s3 : Int := d.2.1
 let s4 : List (List Int) := d.2.2.1
 let s6 : Int := d.2.2.2.1
 let s7 : Bool := d.2.2.2.2.1
 if (s7) = true then
  (impl_net_copTimes_l4 N N ((s1, (s3, (s4, (s6, (false, (([] : List (Int × Int × Unit)), (s3, ((0 : Int), ())))))))))).bind fun o34 => match o34 with
  | .inl d35 =>
   (impl_net_copTimes_l8 N N ((d35.1, (d35.2.1, (d35.2.2.1, (d35.2.2.2.1, (d35.2.2.2.2.1, (d35.2.2.2.2.2.1, ((List.length d35.2.2.2.2.2.1 : Int), ((0 : Int), ())))))))))).bind fun o38 => match o38 with
   | .inl d39 =>
    let x40 : Int := IntKind.wrap .i64 (d39.2.2.2.1 + (1 : Int))
    back ((d39.1, (d39.2.1, (d39.2.2.1, (x40, (d39.2.2.2.2.1, ()))))))
 else
  some (.inl (s4, ()))
noncomputable def impl_net_copTimes_l2 (N : Nat) : Nat → impl_net_copTimes_l2_H → Option impl_net_copTimes_l2_O
 | 0, _ => none
 | k + 1, d => impl_net_copTimes_l2_r N (impl_net_copTimes_l2 N k) d
theorem impl_net_copTimes_l2_ok (N : Nat) (back) (d) : roundR Γ_impl_net_copTimes (assoc [(4, ⟨impl_net_copTimes_l4_h, impl_net_copTimes_l4_o, impl_net_copTimes_l4 N N⟩), (8, ⟨impl_net_copTimes_l8_h, impl_net_copTimes_l8_o, impl_net_copTimes_l8 N N⟩)]) 2 impl_net_copTimes_l2_h impl_net_copTimes_l2_o (loopOf Tryz.f68 2) back d = impl_net_copTimes_l2_r N back d := by kernel_rfl
noncomputable def F_impl_net_copTimes (N : Nat) (d : (List Int × Unit) × Unit) : Option (List (List Int) × Unit) :=
 let a0 : List Int × Unit := d.1
 let r1 : Int × Unit := g_impl_net_size (a0, ())
 if ((decide (0 ≤ r1.1) && decide (r1.1 ≤ r1.1) && decide (r1.1 ≤ (lim : Int)))) = true then
 let x2 : List (List Int) := List.replicate r1.1.toNat ([] : List Int)
 (impl_net_copTimes_l0 N N ((a0, (r1.1, (x2, ((List.length x2 : Int), ((0 : Int), ()))))))).bind fun o6 => match o6 with
 | .inl d7 =>
  (impl_net_copTimes_l2 N N ((d7.1, (d7.2.1, (d7.2.2.1, ((1 : Int), (true, ()))))))).bind fun o22 => match o22 with
  | .inl d23 =>
   some (d23.1, ())
 else none
theorem F_impl_net_copTimes_ok (N : Nat) (d) : fnR Γ_impl_net_copTimes (assoc [(0, ⟨impl_net_copTimes_l0_h, impl_net_copTimes_l0_o, impl_net_copTimes_l0 N N⟩), (2, ⟨impl_net_copTimes_l2_h, impl_net_copTimes_l2_o, impl_net_copTimes_l2 N N⟩)]) true [(K_PSiq, false)] [K_SSi] Tryz.f68.results.toList (bodyOf Tryz.f68) d = F_impl_net_copTimes N d := by kernel_rfl
noncomputable def S_impl_net_copTimes : FSig := ⟨[(K_PSiq, false)], [K_SSi], true, (G_copTimes)⟩
noncomputable def Γ_impl_net_copMove : Ctx := { tk := assoc tks, ar := assoc ars, fs := assoc [(108, S_impl_setOf), (109, S_impl_net_closed), (110, S_impl_net_timeAfter)] }
abbrev impl_net_copMove_l0_H := List (List Int) × Int × Int × (List Int × Unit) × List Int × Int × Int × Unit
abbrev impl_net_copMove_l0_O := (Int × Unit) ⊕ (Int × Unit) ⊕ Empty
def impl_net_copMove_l0_h : Form := [(1, .v K_SSi), (2, .v I), (3, .v I), (4, .box K_PSiq 0), (15, .own K_Si 99), (16, .v I), (17, .v I)]
def impl_net_copMove_l0_o : Outs := [(.ret, [(8, .v I)]), (.normal, [(2, .v I)])]
noncomputable def impl_net_copMove_l0_r (N : Nat) (back : impl_net_copMove_l0_H → Option impl_net_copMove_l0_O) (d : impl_net_copMove_l0_H) : Option impl_net_copMove_l0_O :=
 let s1 : List (List Int) := d.1
 let s2 : Int := d.2.1
 let s3 : Int := d.2.2.1
 let s4 : List Int × Unit := d.2.2.2.1
 let s15 : List Int := d.2.2.2.2.1
 let s16 : Int := d.2.2.2.2.2.1
 let s17 : Int := d.2.2.2.2.2.2.1
 if (decide (s17 < s16)) = true then
  if (idxIn s17 (List.length s15)) = true then
  if (at_ I s15 s17.toNat != s3) = true then
   if (idxIn (at_ I s15 s17.toNat) (List.length s1)) = true then
   (G_timeAfter ((s4, (at_ K_Si s1 (at_ I s15 s17.toNat).toNat, (s3, ()))))).bind fun r12 =>
   let x13 : Int := IntKind.wrap .i64 (r12.1 + (1 : Int))
   if (idxIn s2 (List.length s1)) = true then
   if (idxIn s3 (List.length (at_ K_Si s1 s2.toNat))) = true then
   if (x13 == at_ I (at_ K_Si s1 s2.toNat) s3.toNat) = true then
    if (decide (x13 > (0 : Int))) = true then
     some (.inl (at_ I s15 s17.toNat, ()))
    else
     let x14 : Int := IntKind.wrap .i64 (s17 + (1 : Int))
     back ((s1, (s2, (s3, (s4, (s15, (s16, (x14, ()))))))))
   else
    let x15 : Int := IntKind.wrap .i64 (s17 + (1 : Int))
    back ((s1, (s2, (s3, (s4, (s15, (s16, (x15, ()))))))))
   else none
   else none
   else none
  else
   if (idxIn s2 (List.length s1)) = true then
   if (idxIn s3 (List.length (at_ K_Si s1 s2.toNat))) = true then
   if ((1 : Int) == at_ I (at_ K_Si s1 s2.toNat) s3.toNat) = true then
    if (decide ((1 : Int) > (0 : Int))) = true then
     some (.inl (at_ I s15 s17.toNat, ()))
    else
     let x16 : Int := IntKind.wrap .i64 (s17 + (1 : Int))
     back ((s1, (s2, (s3, (s4, (s15, (s16, (x16, ()))))))))
   else
    let x17 : Int := IntKind.wrap .i64 (s17 + (1 : Int))
    back ((s1, (s2, (s3, (s4, (s15, (s16, (x17, ()))))))))
   else none
   else none
  else none
 else
  some (.inr (.inl (s2, ())))
noncomputable def impl_net_copMove_l0 (N : Nat) : Nat → impl_net_copMove_l0_H → Option impl_net_copMove_l0_O
 | 0, _ => none
 | k + 1, d => impl_net_copMove_l0_r N (impl_net_copMove_l0 N k) d
theorem impl_net_copMove_l0_ok (N : Nat) (back) (d) : roundR Γ_impl_net_copMove (assoc []) 0 impl_net_copMove_l0_h impl_net_copMove_l0_o (loopOf Tryz.f71 0) back d = impl_net_copMove_l0_r N back d := by kernel_rfl
noncomputable def F_impl_net_copMove (N : Nat) (d : (List Int × Unit) × List (List Int) × Int × Int × Unit) : Option (Int × Unit) :=
 let a0 : List Int × Unit := d.1
 let a1 : List (List Int) := d.2.1
 let a2 : Int := d.2.2.1
 let a3 : Int := d.2.2.2.1
 ((F_impl_net_closed 0) ((a0, (a2, ())))).bind fun r1 =>
 (G_setOf (r1.1, ())).bind fun r2 =>
 (impl_net_copMove_l0 N N ((a1, (a2, (a3, (a0, (r2.1, ((List.length r2.1 : Int), ((0 : Int), ()))))))))).bind fun o9 => match o9 with
 | .inl d10 =>
  some (d10.1, ())
 | .inr (.inl d11) =>
  some (d11.1, ())
theorem F_impl_net_copMove_ok (N : Nat) (d) : fnR Γ_impl_net_copMove (assoc [(0, ⟨impl_net_copMove_l0_h, impl_net_copMove_l0_o, impl_net_copMove_l0 N N⟩)]) true [(K_PSiq, false), (K_SSi, false), (I, false), (I, false)] [I] Tryz.f71.results.toList (bodyOf Tryz.f71) d = F_impl_net_copMove N d := by kernel_rfl
noncomputable def S_impl_net_copMove : FSig := ⟨[(K_PSiq, false), (K_SSi, false), (I, false), (I, false)], [I], true, (G_copMove)⟩
noncomputable def Γ_impl_net_robberMove : Ctx := { tk := assoc tks, ar := assoc ars, fs := assoc [(108, S_impl_setOf), (109, S_impl_net_closed)] }
abbrev impl_net_robberMove_l0_H := List Int × Int × List Int × Int × Int × Unit
abbrev impl_net_robberMove_l0_O := (Int × Unit) ⊕ Empty
def impl_net_robberMove_l0_h : Form := [(1, .v K_Si), (8, .v I), (19, .v K_Si), (20, .v I), (21, .v I)]
def impl_net_robberMove_l0_o : Outs := [(.normal, [(8, .v I)])]
noncomputable def impl_net_robberMove_l0_r (N : Nat) (back : impl_net_robberMove_l0_H → Option impl_net_robberMove_l0_O) (d : impl_net_robberMove_l0_H) : Option impl_net_robberMove_l0_O :=
 let s1 : List Int := d.1
 let s8 : Int := d.2.1
 let s19 : List Int := d.2.2.1
 let s20 : Int := d.2.2.2.1
 let s21 : Int := d.2.2.2.2.1
 if (decide (s21 < s20)) = true then
  if (idxIn s21 (List.length s19)) = true then
  if (idxIn s8 (List.length s1)) = true then
  if (decide (at_ I s1 s8.toNat ≥ (0 : Int))) = true then
   if (idxIn (at_ I s19 s21.toNat) (List.length s1)) = true then
   if (decide (at_ I s1 (at_ I s19 s21.toNat).toNat < (0 : Int))) = true then
    let x10 : Int := IntKind.wrap .i64 (s21 + (1 : Int))
    back ((s1, (at_ I s19 s21.toNat, (s19, (s20, (x10, ()))))))
   else
    if (idxIn (at_ I s19 s21.toNat) (List.length s1)) = true then
    if (idxIn s8 (List.length s1)) = true then
    if (decide (at_ I s1 (at_ I s19 s21.toNat).toNat > at_ I s1 s8.toNat)) = true then
     let x11 : Int := IntKind.wrap .i64 (s21 + (1 : Int))
     back ((s1, (at_ I s19 s21.toNat, (s19, (s20, (x11, ()))))))
    else
     let x12 : Int := IntKind.wrap .i64 (s21 + (1 : Int))
     back ((s1, (s8, (s19, (s20, (x12, ()))))))
    else none
    else none
   else none
  else
   let x13 : Int := IntKind.wrap .i64 (s21 + (1 : Int))
   back ((s1, (s8, (s19, (s20, (x13, ()))))))
  else none
  else none
 else
  some (.inl (s8, ()))
noncomputable def impl_net_robberMove_l0 (N : Nat) : Nat → impl_net_robberMove_l0_H → Option impl_net_robberMove_l0_O
 | 0, _ => none
 | k + 1, d => impl_net_robberMove_l0_r N (impl_net_robberMove_l0 N k) d
theorem impl_net_robberMove_l0_ok (N : Nat) (back) (d) : roundR Γ_impl_net_robberMove (assoc []) 0 impl_net_robberMove_l0_h impl_net_robberMove_l0_o (loopOf Tryz.f72 0) back d = impl_net_robberMove_l0_r N back d := by kernel_rfl
noncomputable def F_impl_net_robberMove (N : Nat) (d : (List Int × Unit) × List Int × Int × Unit) : Option (Int × Unit) :=
 let a0 : List Int × Unit := d.1
 let a1 : List Int := d.2.1
 let a2 : Int := d.2.2.1
 ((F_impl_net_closed 0) ((a0, (a2, ())))).bind fun r1 =>
 (G_setOf (r1.1, ())).bind fun r2 =>
 if (idxIn (0 : Int) (List.length r2.1)) = true then
 if ((decide (0 ≤ (1 : Int)) && decide ((1 : Int) ≤ (List.length r2.1 : Int)) && decide ((List.length r2.1 : Int) ≤ (List.length r2.1 : Int)))) = true then
 let x3 : List Int := sub_ r2.1 (1 : Int) (List.length r2.1 : Int)
 (impl_net_robberMove_l0 N N ((a1, (at_ I r2.1 (0 : Int).toNat, (x3, ((List.length x3 : Int), ((0 : Int), ()))))))).bind fun o8 => match o8 with
 | .inl d9 =>
  some (d9.1, ())
 else none
 else none
theorem F_impl_net_robberMove_ok (N : Nat) (d) : fnR Γ_impl_net_robberMove (assoc [(0, ⟨impl_net_robberMove_l0_h, impl_net_robberMove_l0_o, impl_net_robberMove_l0 N N⟩)]) true [(K_PSiq, false), (K_Si, false), (I, false)] [I] Tryz.f72.results.toList (bodyOf Tryz.f72) d = F_impl_net_robberMove N d := by kernel_rfl
noncomputable def S_impl_net_robberMove : FSig := ⟨[(K_PSiq, false), (K_Si, false), (I, false)], [I], true, (G_robberMove)⟩
noncomputable def Γ_impl_playBoth : Ctx := { tk := assoc tks, ar := assoc ars, fs := assoc [(67, S_impl_netOf), (68, S_impl_net_copTimes), (71, S_impl_net_copMove), (72, S_impl_net_robberMove), (128, S_impl_areApart)], lent := fun t => Nat.beq t 0, cs := assoc [], gs := assoc [], eqt := inL [], md := { gone := [], deep := [0] } }
noncomputable def F_impl_playBoth (N : Nat) (d : ((Int × (List (Int × Int × Unit)) × Unit) × Int × Int × List Int × Int × Unit) × Unit) : Option (Bool × ((Int × (List (Int × Int × Unit)) × Unit) × Int × Int × List Int × Int × Unit) × Unit) :=
 let a0 : (Int × (List (Int × Int × Unit)) × Unit) × Int × Int × List Int × Int × Unit := d.1
 let r1 : Bool × Unit := g_impl_areApart (a0, ())
 if (!r1.1) = true then
  some ((false, (a0, ())))
 else
  (G_netOf (a0.1, ())).bind fun r2 =>
  (G_copTimes (r2.1, ())).bind fun r3 =>
  if (idxIn a0.2.1 (List.length r3.1)) = true then
  if (idxIn a0.2.2.1 (List.length (at_ K_Si r3.1 a0.2.1.toNat))) = true then
  if (decide (at_ I (at_ K_Si r3.1 a0.2.1.toNat) a0.2.2.1.toNat > (0 : Int))) = true then
   (G_copMove ((r2.1, (r3.1, (a0.2.1, (a0.2.2.1, ())))))).bind fun r4 =>
   if (r4.1 != a0.2.2.1) = true then
    if (idxIn r4.1 (List.length r3.1)) = true then
    (G_robberMove ((r2.1, (at_ K_Si r3.1 r4.1.toNat, (a0.2.2.1, ()))))).bind fun r5 =>
    some ((true, ((a0.1, (r4.1, (r5.1, a0.2.2.2))), ())))
    else none
   else
    some ((true, ((a0.1, (r4.1, a0.2.2)), ())))
  else
   if (a0.2.1 != a0.2.2.1) = true then
    if (idxIn a0.2.1 (List.length r3.1)) = true then
    (G_robberMove ((r2.1, (at_ K_Si r3.1 a0.2.1.toNat, (a0.2.2.1, ()))))).bind fun r6 =>
    some ((true, ((a0.1, (a0.2.1, (r6.1, a0.2.2.2))), ())))
    else none
   else
    some ((true, (a0, ())))
  else none
  else none
theorem F_impl_playBoth_ok (N : Nat) (d) : fnR Γ_impl_playBoth (assoc []) true [(K_BPPiSPiiqqiiSiiq, true)] [.bool] Tryz.f86.results.toList (bodyOf Tryz.f86) d = F_impl_playBoth N d := by kernel_rfl
noncomputable def S_impl_playBoth : FSig := ⟨[(K_BPPiSPiiqqiiSiiq, true)], [.bool], true, (F_impl_playBoth 0)⟩
noncomputable def Γ_impl_maskOf : Ctx := { tk := assoc tks, ar := assoc ars, fs := assoc [] }
abbrev impl_maskOf_l0_H := Int × List Int × Int × Int × Unit
abbrev impl_maskOf_l0_O := (Int × Unit) ⊕ Empty
def impl_maskOf_l0_h : Form := [(3, .v I), (6, .v K_Si), (7, .v I), (8, .v I)]
def impl_maskOf_l0_o : Outs := [(.normal, [(3, .v I)])]
noncomputable def impl_maskOf_l0_r (N : Nat) (back : impl_maskOf_l0_H → Option impl_maskOf_l0_O) (d : impl_maskOf_l0_H) : Option impl_maskOf_l0_O :=
 let s3 : Int := d.1
 let s6 : List Int := d.2.1
 let s7 : Int := d.2.2.1
 let s8 : Int := d.2.2.2.1
 if (decide (s8 < s7)) = true then
  if (idxIn s8 (List.length s6)) = true then
  if (decide (0 ≤ at_ I s6 s8.toNat)) = true then
  let x5 : Int := shl .i64 (1 : Int) (at_ I s6 s8.toNat)
  let x6 : Int := IntKind.wrap .i64 (s8 + (1 : Int))
  back ((bits .or .i64 s3 x5, (s6, (s7, (x6, ())))))
  else none
  else none
 else
  some (.inl (s3, ()))
noncomputable def impl_maskOf_l0 (N : Nat) : Nat → impl_maskOf_l0_H → Option impl_maskOf_l0_O
 | 0, _ => none
 | k + 1, d => impl_maskOf_l0_r N (impl_maskOf_l0 N k) d
theorem impl_maskOf_l0_ok (N : Nat) (back) (d) : roundR Γ_impl_maskOf (assoc []) 0 impl_maskOf_l0_h impl_maskOf_l0_o (loopOf Tryz.f129 0) back d = impl_maskOf_l0_r N back d := by kernel_rfl
noncomputable def F_impl_maskOf (N : Nat) (d : List Int × Unit) : Option (Int × Unit) :=
 let a0 : List Int := d.1
 (impl_maskOf_l0 N N (((0 : Int), (a0, ((List.length a0 : Int), ((0 : Int), ())))))).bind fun o3 => match o3 with
 | .inl d4 =>
  some (d4.1, ())
theorem F_impl_maskOf_ok (N : Nat) (d) : fnR Γ_impl_maskOf (assoc [(0, ⟨impl_maskOf_l0_h, impl_maskOf_l0_o, impl_maskOf_l0 N N⟩)]) true [(K_Si, false)] [I] Tryz.f129.results.toList (bodyOf Tryz.f129) d = F_impl_maskOf N d := by kernel_rfl
noncomputable def S_impl_maskOf : FSig := ⟨[(K_Si, false)], [I], true, (G_maskOf)⟩
noncomputable def Γ_impl_net_forced : Ctx := { tk := assoc tks, ar := assoc ars, fs := assoc [] }
abbrev impl_net_forced_l0_H := Int × Bool × Int × List Int × Int × Int × Unit
abbrev impl_net_forced_l0_O := (Int × Unit) ⊕ Empty
def impl_net_forced_l0_h : Form := [(1, .v I), (2, .v .bool), (7, .v I), (13, .v K_Si), (14, .v I), (15, .v I)]
def impl_net_forced_l0_o : Outs := [(.normal, [(7, .v I)])]
noncomputable def impl_net_forced_l0_r (N : Nat) (back : impl_net_forced_l0_H → Option impl_net_forced_l0_O) (d : impl_net_forced_l0_H) : Option impl_net_forced_l0_O :=
 let s1 : Int := d.1
 let s2 : Bool := d.2.1
 let s7 : Int := d.2.2.1
 let s13 : List Int := d.2.2.2.1
 let s14 : Int := d.2.2.2.2.1
 let s15 : Int := d.2.2.2.2.2.1
 if (decide (s15 < s14)) = true then
  if (idxIn s15 (List.length s13)) = true then
  let x14 : Int := bits .andNot .i64 (at_ I s13 s15.toNat) s1
  if (s2) = true then
   if (x14 != (0 : Int)) = true then
    let x15 : Int := IntKind.wrap .i64 (x14 - (1 : Int))
    if (bits .and .i64 x14 x15 == (0 : Int)) = true then
     let x16 : Int := IntKind.wrap .i64 (s15 + (1 : Int))
     back ((s1, (s2, (bits .or .i64 s7 x14, (s13, (s14, (x16, ())))))))
    else
     let x17 : Int := IntKind.wrap .i64 (s15 + (1 : Int))
     back ((s1, (s2, (s7, (s13, (s14, (x17, ())))))))
   else
    let x18 : Int := IntKind.wrap .i64 (s15 + (1 : Int))
    back ((s1, (s2, (s7, (s13, (s14, (x18, ())))))))
  else
   if (decide (0 ≤ s15)) = true then
   let x19 : Int := bits .and .i64 (shr .i64 s1 s15) (1 : Int)
   if (x19 == (1 : Int)) = true then
    if (x14 != (0 : Int)) = true then
     let x20 : Int := IntKind.wrap .i64 (x14 - (1 : Int))
     if (bits .and .i64 x14 x20 == (0 : Int)) = true then
      let x21 : Int := IntKind.wrap .i64 (s15 + (1 : Int))
      back ((s1, (s2, (bits .or .i64 s7 x14, (s13, (s14, (x21, ())))))))
     else
      let x22 : Int := IntKind.wrap .i64 (s15 + (1 : Int))
      back ((s1, (s2, (s7, (s13, (s14, (x22, ())))))))
    else
     let x23 : Int := IntKind.wrap .i64 (s15 + (1 : Int))
     back ((s1, (s2, (s7, (s13, (s14, (x23, ())))))))
   else
    let x24 : Int := IntKind.wrap .i64 (s15 + (1 : Int))
    back ((s1, (s2, (s7, (s13, (s14, (x24, ())))))))
   else none
  else none
 else
  some (.inl (s7, ()))
noncomputable def impl_net_forced_l0 (N : Nat) : Nat → impl_net_forced_l0_H → Option impl_net_forced_l0_O
 | 0, _ => none
 | k + 1, d => impl_net_forced_l0_r N (impl_net_forced_l0 N k) d
theorem impl_net_forced_l0_ok (N : Nat) (back) (d) : roundR Γ_impl_net_forced (assoc []) 0 impl_net_forced_l0_h impl_net_forced_l0_o (loopOf Tryz.f130 0) back d = impl_net_forced_l0_r N back d := by kernel_rfl
noncomputable def F_impl_net_forced (N : Nat) (d : (List Int × Unit) × Int × Bool × Unit) : Option (Int × Unit) :=
 let a0 : List Int × Unit := d.1
 let a1 : Int := d.2.1
 let a2 : Bool := d.2.2.1
 (impl_net_forced_l0 N N ((a1, (a2, (a1, (a0.1, ((List.length a0.1 : Int), ((0 : Int), ())))))))).bind fun o12 => match o12 with
 | .inl d13 =>
  some (d13.1, ())
theorem F_impl_net_forced_ok (N : Nat) (d) : fnR Γ_impl_net_forced (assoc [(0, ⟨impl_net_forced_l0_h, impl_net_forced_l0_o, impl_net_forced_l0 N N⟩)]) true [(K_PSiq, false), (I, false), (.bool, false)] [I] Tryz.f130.results.toList (bodyOf Tryz.f130) d = F_impl_net_forced N d := by kernel_rfl
noncomputable def S_impl_net_forced : FSig := ⟨[(K_PSiq, false), (I, false), (.bool, false)], [I], true, (G_forced)⟩
noncomputable def Γ_impl_markNodes : Ctx := { tk := assoc tks, ar := assoc ars, fs := assoc [(64, S_impl_within), (67, S_impl_netOf), (108, S_impl_setOf), (129, S_impl_maskOf), (130, S_impl_net_forced), (131, S_impl_net_all)], lent := fun t => Nat.beq t 0, cs := assoc [], gs := assoc [], eqt := inL [], md := { gone := [], deep := [0] } }
noncomputable def F_impl_markNodes (N : Nat) (d : ((Int × (List (Int × Int × Unit)) × Unit) × Int × Int × List Int × Int × Unit) × (Int × Int × Int × Unit) × Unit) : Option (Bool × ((Int × (List (Int × Int × Unit)) × Unit) × Int × Int × List Int × Int × Unit) × Unit) :=
 let a0 : (Int × (List (Int × Int × Unit)) × Unit) × Int × Int × List Int × Int × Unit := d.1
 let a1 : Int × Int × Int × Unit := d.2.1
 (G_maskOf (a0.2.2.2.1, ())).bind fun r1 =>
 (G_netOf (a0.1, ())).bind fun r2 =>
 if (a1.1 == (8 : Int)) = true then
  let x3 : Int := IntKind.wrap .i64 (a0.1.1 - (1 : Int))
  let r4 : Bool × Unit := g_impl_within ((a1.2.1, ((0 : Int), (x3, ()))))
  if (!r4.1) = true then
   some ((false, (a0, ())))
  else
   if (decide (0 ≤ a1.2.1)) = true then
   let x5 : Int := bits .xor .i64 r1.1 (shl .i64 (1 : Int) a1.2.1)
   (G_setOf (x5, ())).bind fun r6 =>
   some ((true, ((a0.1, (a0.2.1, (a0.2.2.1, (r6.1, a0.2.2.2.2)))), ())))
   else none
 else
  if (a1.1 == (9 : Int)) = true then
   (G_forced ((r2.1, (r1.1, (false, ()))))).bind fun r7 =>
   (G_setOf (r7.1, ())).bind fun r8 =>
   some ((true, ((a0.1, (a0.2.1, (a0.2.2.1, (r8.1, a0.2.2.2.2)))), ())))
  else
   ((F_impl_net_all 0) (r2.1, ())).bind fun r9 =>
   (G_setOf (bits .andNot .i64 r9.1 r1.1, ())).bind fun r10 =>
   some ((true, ((a0.1, (a0.2.1, (a0.2.2.1, (r10.1, a0.2.2.2.2)))), ())))
theorem F_impl_markNodes_ok (N : Nat) (d) : fnR Γ_impl_markNodes (assoc []) true [(K_BPPiSPiiqqiiSiiq, true), (K_Piiiq, false)] [.bool] Tryz.f87.results.toList (bodyOf Tryz.f87) d = F_impl_markNodes N d := by kernel_rfl
noncomputable def S_impl_markNodes : FSig := ⟨[(K_BPPiSPiiqqiiSiiq, true), (K_Piiiq, false)], [.bool], true, (F_impl_markNodes 0)⟩
noncomputable def Γ_impl_doWork : Ctx := { tk := assoc tks, ar := assoc ars, fs := assoc [(28, S_impl_IsWorkshop), (56, S_impl_cloneWorkshop), (82, S_impl_isNamed), (84, S_impl_ToggleEdge)], cs := assoc [], gs := assoc [(83, (S_impl_dropNode, { gone := [], deep := [0] })), (85, (S_impl_moveBoth, { gone := [], deep := [0] })), (86, (S_impl_playBoth, { gone := [], deep := [0] })), (87, (S_impl_markNodes, { gone := [], deep := [0] }))], eqt := inL [], md := md0 }
noncomputable def F_impl_doWork (N : Nat) (d : ((Int × (List (Int × Int × Unit)) × Unit) × Int × Int × List Int × Int × Unit) × (Int × Int × Int × Unit) × Unit) : Option (((Int × (List (Int × Int × Unit)) × Unit) × Int × Int × List Int × Int × Unit) × Bool × Unit) :=
 let a0 : (Int × (List (Int × Int × Unit)) × Unit) × Int × Int × List Int × Int × Unit := d.1
 let a1 : Int × Int × Int × Unit := d.2.1
 let r1 : Bool × Unit := g_impl_isNamed (a1, ())
 if (!r1.1) = true then
  some (((((0 : Int), (([] : List (Int × Int × Unit)), ())), ((0 : Int), ((0 : Int), (([] : List Int), ((0 : Int), ()))))), (false, ())))
 else
  (G_cloneWs (a0, ())).bind fun r2 =>
  if (a1.1 == (1 : Int)) = true then
   let x3 : Int := IntKind.wrap .i64 (r2.1.1.1 + (1 : Int))
   let x4 : Int := IntKind.wrap .i64 (r2.1.2.2.2.2.1 + (1 : Int))
   if (!true) = true then
    some (((((0 : Int), (([] : List (Int × Int × Unit)), ())), ((0 : Int), ((0 : Int), (([] : List Int), ((0 : Int), ()))))), (false, ())))
   else
    ((F_impl_IsWorkshop 0) ((((x3, r2.1.1.2), (r2.1.2.1, (r2.1.2.2.1, (r2.1.2.2.2.1, (x4, r2.1.2.2.2.2.2))))), ()))).bind fun r5 =>
    if (!r5.1) = true then
     some (((((0 : Int), (([] : List (Int × Int × Unit)), ())), ((0 : Int), ((0 : Int), (([] : List Int), ((0 : Int), ()))))), (false, ())))
    else
     some ((((x3, r2.1.1.2), (r2.1.2.1, (r2.1.2.2.1, (r2.1.2.2.2.1, (x4, r2.1.2.2.2.2.2))))), (true, ())))
  else
   if (a1.1 == (2 : Int)) = true then
    (G_dropNode ((r2.1, (a1.2.1, ())))).bind fun r6 =>
    let x7 : Int := IntKind.wrap .i64 (r6.2.1.2.2.2.2.1 + (1 : Int))
    if (!r6.1) = true then
     some (((((0 : Int), (([] : List (Int × Int × Unit)), ())), ((0 : Int), ((0 : Int), (([] : List Int), ((0 : Int), ()))))), (false, ())))
    else
     ((F_impl_IsWorkshop 0) (((r6.2.1.1, (r6.2.1.2.1, (r6.2.1.2.2.1, (r6.2.1.2.2.2.1, (x7, r6.2.1.2.2.2.2.2))))), ()))).bind fun r8 =>
     if (!r8.1) = true then
      some (((((0 : Int), (([] : List (Int × Int × Unit)), ())), ((0 : Int), ((0 : Int), (([] : List Int), ((0 : Int), ()))))), (false, ())))
     else
      some (((r6.2.1.1, (r6.2.1.2.1, (r6.2.1.2.2.1, (r6.2.1.2.2.2.1, (x7, r6.2.1.2.2.2.2.2))))), (true, ())))
   else
    if (a1.1 == (3 : Int)) = true then
     ((F_impl_ToggleEdge 0) ((a0.1, (a1.2.1, (a1.2.2.1, ()))))).bind fun r9 =>
     let x10 : Int := IntKind.wrap .i64 (r2.1.2.2.2.2.1 + (1 : Int))
     if (!r9.2.1) = true then
      some (((((0 : Int), (([] : List (Int × Int × Unit)), ())), ((0 : Int), ((0 : Int), (([] : List Int), ((0 : Int), ()))))), (false, ())))
     else
      ((F_impl_IsWorkshop 0) (((r9.1, (r2.1.2.1, (r2.1.2.2.1, (r2.1.2.2.2.1, (x10, r2.1.2.2.2.2.2))))), ()))).bind fun r11 =>
      if (!r11.1) = true then
       some (((((0 : Int), (([] : List (Int × Int × Unit)), ())), ((0 : Int), ((0 : Int), (([] : List Int), ((0 : Int), ()))))), (false, ())))
      else
       some (((r9.1, (r2.1.2.1, (r2.1.2.2.1, (r2.1.2.2.2.1, (x10, r2.1.2.2.2.2.2))))), (true, ())))
    else
     if (a1.1 == (4 : Int)) = true then
      let x12 : Int := IntKind.wrap .i64 (r2.1.2.2.2.2.1 + (1 : Int))
      if (!true) = true then
       some (((((0 : Int), (([] : List (Int × Int × Unit)), ())), ((0 : Int), ((0 : Int), (([] : List Int), ((0 : Int), ()))))), (false, ())))
      else
       ((F_impl_IsWorkshop 0) (((r2.1.1, (a1.2.1, (r2.1.2.2.1, (r2.1.2.2.2.1, (x12, r2.1.2.2.2.2.2))))), ()))).bind fun r13 =>
       if (!r13.1) = true then
        some (((((0 : Int), (([] : List (Int × Int × Unit)), ())), ((0 : Int), ((0 : Int), (([] : List Int), ((0 : Int), ()))))), (false, ())))
       else
        some (((r2.1.1, (a1.2.1, (r2.1.2.2.1, (r2.1.2.2.2.1, (x12, r2.1.2.2.2.2.2))))), (true, ())))
     else
      if (a1.1 == (5 : Int)) = true then
       let x14 : Int := IntKind.wrap .i64 (r2.1.2.2.2.2.1 + (1 : Int))
       if (!true) = true then
        some (((((0 : Int), (([] : List (Int × Int × Unit)), ())), ((0 : Int), ((0 : Int), (([] : List Int), ((0 : Int), ()))))), (false, ())))
       else
        ((F_impl_IsWorkshop 0) (((r2.1.1, (r2.1.2.1, (a1.2.1, (r2.1.2.2.2.1, (x14, r2.1.2.2.2.2.2))))), ()))).bind fun r15 =>
        if (!r15.1) = true then
         some (((((0 : Int), (([] : List (Int × Int × Unit)), ())), ((0 : Int), ((0 : Int), (([] : List Int), ((0 : Int), ()))))), (false, ())))
        else
         some (((r2.1.1, (r2.1.2.1, (a1.2.1, (r2.1.2.2.2.1, (x14, r2.1.2.2.2.2.2))))), (true, ())))
      else
       if (a1.1 == (6 : Int)) = true then
        ((F_impl_moveBoth 0) ((r2.1, (a1.2.1, (a1.2.2.1, ()))))).bind fun r16 =>
        let x17 : Int := IntKind.wrap .i64 (r16.2.1.2.2.2.2.1 + (1 : Int))
        if (!r16.1) = true then
         some (((((0 : Int), (([] : List (Int × Int × Unit)), ())), ((0 : Int), ((0 : Int), (([] : List Int), ((0 : Int), ()))))), (false, ())))
        else
         ((F_impl_IsWorkshop 0) (((r16.2.1.1, (r16.2.1.2.1, (r16.2.1.2.2.1, (r16.2.1.2.2.2.1, (x17, r16.2.1.2.2.2.2.2))))), ()))).bind fun r18 =>
         if (!r18.1) = true then
          some (((((0 : Int), (([] : List (Int × Int × Unit)), ())), ((0 : Int), ((0 : Int), (([] : List Int), ((0 : Int), ()))))), (false, ())))
         else
          some (((r16.2.1.1, (r16.2.1.2.1, (r16.2.1.2.2.1, (r16.2.1.2.2.2.1, (x17, r16.2.1.2.2.2.2.2))))), (true, ())))
       else
        if (a1.1 == (7 : Int)) = true then
         ((F_impl_playBoth 0) (r2.1, ())).bind fun r19 =>
         let x20 : Int := IntKind.wrap .i64 (r19.2.1.2.2.2.2.1 + (1 : Int))
         if (!r19.1) = true then
          some (((((0 : Int), (([] : List (Int × Int × Unit)), ())), ((0 : Int), ((0 : Int), (([] : List Int), ((0 : Int), ()))))), (false, ())))
         else
          ((F_impl_IsWorkshop 0) (((r19.2.1.1, (r19.2.1.2.1, (r19.2.1.2.2.1, (r19.2.1.2.2.2.1, (x20, r19.2.1.2.2.2.2.2))))), ()))).bind fun r21 =>
          if (!r21.1) = true then
           some (((((0 : Int), (([] : List (Int × Int × Unit)), ())), ((0 : Int), ((0 : Int), (([] : List Int), ((0 : Int), ()))))), (false, ())))
          else
           some (((r19.2.1.1, (r19.2.1.2.1, (r19.2.1.2.2.1, (r19.2.1.2.2.2.1, (x20, r19.2.1.2.2.2.2.2))))), (true, ())))
        else
         if (a1.1 == (8 : Int)) = true then
          ((F_impl_markNodes 0) ((r2.1, (a1, ())))).bind fun r22 =>
          let x23 : Int := IntKind.wrap .i64 (r22.2.1.2.2.2.2.1 + (1 : Int))
          if (!r22.1) = true then
           some (((((0 : Int), (([] : List (Int × Int × Unit)), ())), ((0 : Int), ((0 : Int), (([] : List Int), ((0 : Int), ()))))), (false, ())))
          else
           ((F_impl_IsWorkshop 0) (((r22.2.1.1, (r22.2.1.2.1, (r22.2.1.2.2.1, (r22.2.1.2.2.2.1, (x23, r22.2.1.2.2.2.2.2))))), ()))).bind fun r24 =>
           if (!r24.1) = true then
            some (((((0 : Int), (([] : List (Int × Int × Unit)), ())), ((0 : Int), ((0 : Int), (([] : List Int), ((0 : Int), ()))))), (false, ())))
           else
            some (((r22.2.1.1, (r22.2.1.2.1, (r22.2.1.2.2.1, (r22.2.1.2.2.2.1, (x23, r22.2.1.2.2.2.2.2))))), (true, ())))
         else
          if (a1.1 == (9 : Int)) = true then
           ((F_impl_markNodes 0) ((r2.1, (a1, ())))).bind fun r25 =>
           let x26 : Int := IntKind.wrap .i64 (r25.2.1.2.2.2.2.1 + (1 : Int))
           if (!r25.1) = true then
            some (((((0 : Int), (([] : List (Int × Int × Unit)), ())), ((0 : Int), ((0 : Int), (([] : List Int), ((0 : Int), ()))))), (false, ())))
           else
            ((F_impl_IsWorkshop 0) (((r25.2.1.1, (r25.2.1.2.1, (r25.2.1.2.2.1, (r25.2.1.2.2.2.1, (x26, r25.2.1.2.2.2.2.2))))), ()))).bind fun r27 =>
            if (!r27.1) = true then
             some (((((0 : Int), (([] : List (Int × Int × Unit)), ())), ((0 : Int), ((0 : Int), (([] : List Int), ((0 : Int), ()))))), (false, ())))
            else
             some (((r25.2.1.1, (r25.2.1.2.1, (r25.2.1.2.2.1, (r25.2.1.2.2.2.1, (x26, r25.2.1.2.2.2.2.2))))), (true, ())))
          else
           if (a1.1 == (10 : Int)) = true then
            ((F_impl_markNodes 0) ((r2.1, (a1, ())))).bind fun r28 =>
            let x29 : Int := IntKind.wrap .i64 (r28.2.1.2.2.2.2.1 + (1 : Int))
            if (!r28.1) = true then
             some (((((0 : Int), (([] : List (Int × Int × Unit)), ())), ((0 : Int), ((0 : Int), (([] : List Int), ((0 : Int), ()))))), (false, ())))
            else
             ((F_impl_IsWorkshop 0) (((r28.2.1.1, (r28.2.1.2.1, (r28.2.1.2.2.1, (r28.2.1.2.2.2.1, (x29, r28.2.1.2.2.2.2.2))))), ()))).bind fun r30 =>
             if (!r30.1) = true then
              some (((((0 : Int), (([] : List (Int × Int × Unit)), ())), ((0 : Int), ((0 : Int), (([] : List Int), ((0 : Int), ()))))), (false, ())))
             else
              some (((r28.2.1.1, (r28.2.1.2.1, (r28.2.1.2.2.1, (r28.2.1.2.2.2.1, (x29, r28.2.1.2.2.2.2.2))))), (true, ())))
           else
            some (((((0 : Int), (([] : List (Int × Int × Unit)), ())), ((0 : Int), ((0 : Int), (([] : List Int), ((0 : Int), ()))))), (false, ())))
end Go.V.W
set_option linter.unusedVariables false
set_option maxRecDepth 100000
namespace Go.V.W
open Go.Proofs
theorem F_impl_doWork_ok (N : Nat) (d) : fnR Γ_impl_doWork (assoc []) true [(K_PPiSPiiqqiiSiiq, false), (K_Piiiq, false)] [K_PPiSPiiqqiiSiiq, .bool] Tryz.f48.results.toList (bodyOf Tryz.f48) d = F_impl_doWork N d := by kernel_rfl
noncomputable def S_impl_doWork : FSig := ⟨[(K_PPiSPiiqqiiSiiq, false), (K_Piiiq, false)], [K_PPiSPiiqqiiSiiq, .bool], true, (G_do)⟩
noncomputable def Γ_impl_DoWorks : Ctx := { tk := assoc tks, ar := assoc ars, fs := assoc [(28, S_impl_IsWorkshop), (48, S_impl_doWork), (56, S_impl_cloneWorkshop)] }
abbrev impl_DoWorks_l0_H := (List (Int × Int × Int × Unit)) × ((Int × (List (Int × Int × Unit)) × Unit) × Int × Int × List Int × Int × Unit) × ((Int × (List (Int × Int × Unit)) × Unit) × Int × Int × List Int × Int × Unit) × (List (Int × Int × Int × Unit)) × Int × Int × Unit
abbrev impl_DoWorks_l0_O := (((Int × (List (Int × Int × Unit)) × Unit) × Int × Int × List Int × Int × Unit) × Int × Bool × Unit) ⊕ ((List (Int × Int × Int × Unit)) × ((Int × (List (Int × Int × Unit)) × Unit) × Int × Int × List Int × Int × Unit) × ((Int × (List (Int × Int × Unit)) × Unit) × Int × Int × List Int × Int × Unit) × Unit) ⊕ Empty
def impl_DoWorks_l0_h : Form := [(1, .v K_SPiiiq), (4, .box K_PPiSPiiqqiiSiiq 99), (7, .box K_PPiSPiiqqiiSiiq 99), (18, .v K_SPiiiq), (19, .v I), (20, .v I)]
def impl_DoWorks_l0_o : Outs := [(.ret, [(4, .box K_PPiSPiiqqiiSiiq 99), (5, .v I), (6, .v .bool)]), (.normal, [(1, .v K_SPiiiq), (4, .box K_PPiSPiiqqiiSiiq 99), (7, .box K_PPiSPiiqqiiSiiq 99)])]
noncomputable def impl_DoWorks_l0_r (N : Nat) (back : impl_DoWorks_l0_H → Option impl_DoWorks_l0_O) (d : impl_DoWorks_l0_H) : Option impl_DoWorks_l0_O :=
 let s1 : List (Int × Int × Int × Unit) := d.1
 let s4 : (Int × (List (Int × Int × Unit)) × Unit) × Int × Int × List Int × Int × Unit := d.2.1
 let s7 : (Int × (List (Int × Int × Unit)) × Unit) × Int × Int × List Int × Int × Unit := d.2.2.1
 let s18 : List (Int × Int × Int × Unit) := d.2.2.2.1
 let s19 : Int := d.2.2.2.2.1
 let s20 : Int := d.2.2.2.2.2.1
 if (decide (s20 < s19)) = true then
  if (idxIn s20 (List.length s18)) = true then
  (G_do ((s7, (at_ K_Piiiq s18 s20.toNat, ())))).bind fun r8 =>
  if (!r8.2.1) = true then
   some (.inl ((s7, (s20, (true, ())))))
  else
   let x9 : Int := IntKind.wrap .i64 (s20 + (1 : Int))
   back ((s1, (s4, (r8.1, (s18, (s19, (x9, ())))))))
  else none
 else
  some (.inr (.inl ((s1, (s4, (s7, ()))))))
noncomputable def impl_DoWorks_l0 (N : Nat) : Nat → impl_DoWorks_l0_H → Option impl_DoWorks_l0_O
 | 0, _ => none
 | k + 1, d => impl_DoWorks_l0_r N (impl_DoWorks_l0 N k) d
theorem impl_DoWorks_l0_ok (N : Nat) (back) (d) : roundR Γ_impl_DoWorks (assoc []) 0 impl_DoWorks_l0_h impl_DoWorks_l0_o (loopOf Tryz.f25 0) back d = impl_DoWorks_l0_r N back d := by kernel_rfl
noncomputable def F_impl_DoWorks (N : Nat) (d : ((Int × (List (Int × Int × Unit)) × Unit) × Int × Int × List Int × Int × Unit) × (List (Int × Int × Int × Unit)) × Unit) : Option (((Int × (List (Int × Int × Unit)) × Unit) × Int × Int × List Int × Int × Unit) × Int × Bool × Unit) :=
 let a0 : (Int × (List (Int × Int × Unit)) × Unit) × Int × Int × List Int × Int × Unit := d.1
 let a1 : List (Int × Int × Int × Unit) := d.2.1
 ((F_impl_IsWorkshop 0) (a0, ())).bind fun r1 =>
 if (!r1.1) = true then
  some (((((0 : Int), (([] : List (Int × Int × Unit)), ())), ((0 : Int), ((0 : Int), (([] : List Int), ((0 : Int), ()))))), ((0 : Int), (false, ()))))
 else
  (G_cloneWs (a0, ())).bind fun r2 =>
  (impl_DoWorks_l0 N N ((a1, ((((0 : Int), (([] : List (Int × Int × Unit)), ())), ((0 : Int), ((0 : Int), (([] : List Int), ((0 : Int), ()))))), (r2.1, (a1, ((List.length a1 : Int), ((0 : Int), ())))))))).bind fun o5 => match o5 with
  | .inl d6 =>
   some ((d6.1, (d6.2.1, (d6.2.2.1, ()))))
  | .inr (.inl d7) =>
   some ((d7.2.2.1, ((List.length d7.1 : Int), (true, ()))))
theorem F_impl_DoWorks_ok (N : Nat) (d) : fnR Γ_impl_DoWorks (assoc [(0, ⟨impl_DoWorks_l0_h, impl_DoWorks_l0_o, impl_DoWorks_l0 N N⟩)]) true [(K_PPiSPiiqqiiSiiq, false), (K_SPiiiq, false)] [K_PPiSPiiqqiiSiiq, I, .bool] Tryz.f25.results.toList (bodyOf Tryz.f25) d = F_impl_DoWorks N d := by kernel_rfl
noncomputable def S_impl_DoWorks : FSig := ⟨[(K_PPiSPiiqqiiSiiq, false), (K_SPiiiq, false)], [K_PPiSPiiqqiiSiiq, I, .bool], true, (G_DoWorks)⟩
noncomputable def Γ_laws_eqIntA2 : Ctx := { tk := assoc tks, ar := assoc ars, fs := assoc [] }
abbrev laws_eqIntA2_l0_H := (Int × Int × Unit) × (Int × Int × Unit) × Int × Unit
abbrev laws_eqIntA2_l0_O := (Bool × Unit) ⊕ Unit ⊕ Empty
def laws_eqIntA2_l0_h : Form := [(2, .box K_Piiq 99), (3, .box K_Piiq 99), (5, .v I)]
def laws_eqIntA2_l0_o : Outs := [(.ret, [(4, .v .bool)]), (.normal, [])]
noncomputable def laws_eqIntA2_l0_r (N : Nat) (back : laws_eqIntA2_l0_H → Option laws_eqIntA2_l0_O) (d : laws_eqIntA2_l0_H) : Option laws_eqIntA2_l0_O :=
 let s2 : Int × Int × Unit := d.1
 let s3 : Int × Int × Unit := d.2.1
 let s5 : Int := d.2.2.1
 if (decide (s5 < (2 : Int))) = true then
  if (s5 == (0 : Int)) = true then
   if (s5 == (0 : Int)) = true then
    if (s2.1 != s3.1) = true then
     some (.inl (false, ()))
    else
     let x11 : Int := IntKind.wrap .i64 (s5 + (1 : Int))
     back ((s2, (s3, (x11, ()))))
   else
    if (s5 == (1 : Int)) = true then
    if (s2.1 != s3.2.1) = true then
     some (.inl (false, ()))
    else
     let x10 : Int := IntKind.wrap .i64 (s5 + (1 : Int))
     back ((s2, (s3, (x10, ()))))
    else none
  else
   if (s5 == (1 : Int)) = true then
   if (s5 == (0 : Int)) = true then
    if (s2.2.1 != s3.1) = true then
     some (.inl (false, ()))
    else
     let x9 : Int := IntKind.wrap .i64 (s5 + (1 : Int))
     back ((s2, (s3, (x9, ()))))
   else
    if (s5 == (1 : Int)) = true then
    if (s2.2.1 != s3.2.1) = true then
     some (.inl (false, ()))
    else
     let x8 : Int := IntKind.wrap .i64 (s5 + (1 : Int))
     back ((s2, (s3, (x8, ()))))
    else none
   else none
 else
  some (.inr (.inl ()))
noncomputable def laws_eqIntA2_l0 (N : Nat) : Nat → laws_eqIntA2_l0_H → Option laws_eqIntA2_l0_O
 | 0, _ => none
 | k + 1, d => laws_eqIntA2_l0_r N (laws_eqIntA2_l0 N k) d
theorem laws_eqIntA2_l0_ok (N : Nat) (back) (d) : roundR Γ_laws_eqIntA2 (assoc []) 0 laws_eqIntA2_l0_h laws_eqIntA2_l0_o (loopOf Tryz.f132 0) back d = laws_eqIntA2_l0_r N back d := by kernel_rfl
noncomputable def F_laws_eqIntA2 (N : Nat) (d : (Int × Int × Unit) × (Int × Int × Unit) × Unit) : Option (Bool × Unit) :=
 let a0 : Int × Int × Unit := d.1
 let a1 : Int × Int × Unit := d.2.1
 (laws_eqIntA2_l0 N N ((a0, (a1, ((0 : Int), ()))))).bind fun o5 => match o5 with
 | .inl d6 =>
  some (d6.1, ())
 | .inr (.inl d7) =>
  some (true, ())
theorem F_laws_eqIntA2_ok (N : Nat) (d) : fnR Γ_laws_eqIntA2 (assoc [(0, ⟨laws_eqIntA2_l0_h, laws_eqIntA2_l0_o, laws_eqIntA2_l0 N N⟩)]) true [(K_Piiq, false), (K_Piiq, false)] [.bool] Tryz.f132.results.toList (bodyOf Tryz.f132) d = F_laws_eqIntA2 N d := by kernel_rfl
noncomputable def S_laws_eqIntA2 : FSig := ⟨[(K_Piiq, false), (K_Piiq, false)], [.bool], true, (G_eqIntA2)⟩
noncomputable def Γ_laws_eqIntA2S : Ctx := { tk := assoc tks, ar := assoc ars, fs := assoc [(132, S_laws_eqIntA2)] }
abbrev laws_eqIntA2S_l0_H := (List (Int × Int × Unit)) × (List (Int × Int × Unit)) × Int × Unit
abbrev laws_eqIntA2S_l0_O := (Bool × Unit) ⊕ Unit ⊕ Empty
def laws_eqIntA2S_l0_h : Form := [(0, .v K_SPiiq), (1, .v K_SPiiq), (5, .v I)]
def laws_eqIntA2S_l0_o : Outs := [(.ret, [(4, .v .bool)]), (.normal, [])]
noncomputable def laws_eqIntA2S_l0_r (N : Nat) (back : laws_eqIntA2S_l0_H → Option laws_eqIntA2S_l0_O) (d : laws_eqIntA2S_l0_H) : Option laws_eqIntA2S_l0_O :=
 let s0 : List (Int × Int × Unit) := d.1
 let s1 : List (Int × Int × Unit) := d.2.1
 let s5 : Int := d.2.2.1
 if (decide (s5 < (List.length s0 : Int))) = true then
  if (idxIn s5 (List.length s0)) = true then
  if (idxIn s5 (List.length s1)) = true then
  (G_eqIntA2 ((at_ K_Piiq s0 s5.toNat, (at_ K_Piiq s1 s5.toNat, ())))).bind fun r6 =>
  if (!r6.1) = true then
   some (.inl (false, ()))
  else
   let x7 : Int := IntKind.wrap .i64 (s5 + (1 : Int))
   back ((s0, (s1, (x7, ()))))
  else none
  else none
 else
  some (.inr (.inl ()))
noncomputable def laws_eqIntA2S_l0 (N : Nat) : Nat → laws_eqIntA2S_l0_H → Option laws_eqIntA2S_l0_O
 | 0, _ => none
 | k + 1, d => laws_eqIntA2S_l0_r N (laws_eqIntA2S_l0 N k) d
theorem laws_eqIntA2S_l0_ok (N : Nat) (back) (d) : roundR Γ_laws_eqIntA2S (assoc []) 0 laws_eqIntA2S_l0_h laws_eqIntA2S_l0_o (loopOf Tryz.f88 0) back d = laws_eqIntA2S_l0_r N back d := by kernel_rfl
noncomputable def F_laws_eqIntA2S (N : Nat) (d : (List (Int × Int × Unit)) × (List (Int × Int × Unit)) × Unit) : Option (Bool × Unit) :=
 let a0 : List (Int × Int × Unit) := d.1
 let a1 : List (Int × Int × Unit) := d.2.1
 if ((List.length a0 : Int) != (List.length a1 : Int)) = true then
  some (false, ())
 else
  (laws_eqIntA2S_l0 N N ((a0, (a1, ((0 : Int), ()))))).bind fun o3 => match o3 with
  | .inl d4 =>
   some (d4.1, ())
  | .inr (.inl d5) =>
   some (true, ())
theorem F_laws_eqIntA2S_ok (N : Nat) (d) : fnR Γ_laws_eqIntA2S (assoc [(0, ⟨laws_eqIntA2S_l0_h, laws_eqIntA2S_l0_o, laws_eqIntA2S_l0 N N⟩)]) true [(K_SPiiq, false), (K_SPiiq, false)] [.bool] Tryz.f88.results.toList (bodyOf Tryz.f88) d = F_laws_eqIntA2S N d := by kernel_rfl
noncomputable def S_laws_eqIntA2S : FSig := ⟨[(K_SPiiq, false), (K_SPiiq, false)], [.bool], true, (G_eqIntA2S)⟩
noncomputable def Γ_laws_eqGraph : Ctx := { tk := assoc tks, ar := assoc ars, fs := assoc [(88, S_laws_eqIntA2S)] }
noncomputable def F_laws_eqGraph (N : Nat) (d : (Int × (List (Int × Int × Unit)) × Unit) × (Int × (List (Int × Int × Unit)) × Unit) × Unit) : Option (Bool × Unit) :=
 let a0 : Int × (List (Int × Int × Unit)) × Unit := d.1
 let a1 : Int × (List (Int × Int × Unit)) × Unit := d.2.1
 if (a0.1 != a1.1) = true then
  some (false, ())
 else
  (G_eqIntA2S ((a0.2.1, (a1.2.1, ())))).bind fun r1 =>
  if (!r1.1) = true then
   some (false, ())
  else
   some (true, ())
theorem F_laws_eqGraph_ok (N : Nat) (d) : fnR Γ_laws_eqGraph (assoc []) true [(K_PiSPiiqq, false), (K_PiSPiiqq, false)] [.bool] Tryz.f49.results.toList (bodyOf Tryz.f49) d = F_laws_eqGraph N d := by kernel_rfl
noncomputable def S_laws_eqGraph : FSig := ⟨[(K_PiSPiiqq, false), (K_PiSPiiqq, false)], [.bool], true, (F_laws_eqGraph 0)⟩
noncomputable def Γ_laws_eqIntS : Ctx := { tk := assoc tks, ar := assoc ars, fs := assoc [] }
abbrev laws_eqIntS_l0_H := List Int × List Int × Int × Unit
abbrev laws_eqIntS_l0_O := (Bool × Unit) ⊕ Unit ⊕ Empty
def laws_eqIntS_l0_h : Form := [(0, .v K_Si), (1, .v K_Si), (5, .v I)]
def laws_eqIntS_l0_o : Outs := [(.ret, [(4, .v .bool)]), (.normal, [])]
noncomputable def laws_eqIntS_l0_r (N : Nat) (back : laws_eqIntS_l0_H → Option laws_eqIntS_l0_O) (d : laws_eqIntS_l0_H) : Option laws_eqIntS_l0_O :=
 let s0 : List Int := d.1
 let s1 : List Int := d.2.1
 let s5 : Int := d.2.2.1
 if (decide (s5 < (List.length s0 : Int))) = true then
  if (idxIn s5 (List.length s0)) = true then
  if (idxIn s5 (List.length s1)) = true then
  if (at_ I s0 s5.toNat != at_ I s1 s5.toNat) = true then
   some (.inl (false, ()))
  else
   let x5 : Int := IntKind.wrap .i64 (s5 + (1 : Int))
   back ((s0, (s1, (x5, ()))))
  else none
  else none
 else
  some (.inr (.inl ()))
noncomputable def laws_eqIntS_l0 (N : Nat) : Nat → laws_eqIntS_l0_H → Option laws_eqIntS_l0_O
 | 0, _ => none
 | k + 1, d => laws_eqIntS_l0_r N (laws_eqIntS_l0 N k) d
theorem laws_eqIntS_l0_ok (N : Nat) (back) (d) : roundR Γ_laws_eqIntS (assoc []) 0 laws_eqIntS_l0_h laws_eqIntS_l0_o (loopOf Tryz.f50 0) back d = laws_eqIntS_l0_r N back d := by kernel_rfl
noncomputable def F_laws_eqIntS (N : Nat) (d : List Int × List Int × Unit) : Option (Bool × Unit) :=
 let a0 : List Int := d.1
 let a1 : List Int := d.2.1
 if ((List.length a0 : Int) != (List.length a1 : Int)) = true then
  some (false, ())
 else
  (laws_eqIntS_l0 N N ((a0, (a1, ((0 : Int), ()))))).bind fun o2 => match o2 with
  | .inl d3 =>
   some (d3.1, ())
  | .inr (.inl d4) =>
   some (true, ())
theorem F_laws_eqIntS_ok (N : Nat) (d) : fnR Γ_laws_eqIntS (assoc [(0, ⟨laws_eqIntS_l0_h, laws_eqIntS_l0_o, laws_eqIntS_l0 N N⟩)]) true [(K_Si, false), (K_Si, false)] [.bool] Tryz.f50.results.toList (bodyOf Tryz.f50) d = F_laws_eqIntS N d := by kernel_rfl
noncomputable def S_laws_eqIntS : FSig := ⟨[(K_Si, false), (K_Si, false)], [.bool], true, (G_eqIntS)⟩
noncomputable def Γ_laws_eqWorkshop : Ctx := { tk := assoc tks, ar := assoc ars, fs := assoc [(49, S_laws_eqGraph), (50, S_laws_eqIntS)] }
noncomputable def F_laws_eqWorkshop (N : Nat) (d : ((Int × (List (Int × Int × Unit)) × Unit) × Int × Int × List Int × Int × Unit) × ((Int × (List (Int × Int × Unit)) × Unit) × Int × Int × List Int × Int × Unit) × Unit) : Option (Bool × Unit) :=
 let a0 : (Int × (List (Int × Int × Unit)) × Unit) × Int × Int × List Int × Int × Unit := d.1
 let a1 : (Int × (List (Int × Int × Unit)) × Unit) × Int × Int × List Int × Int × Unit := d.2.1
 ((F_laws_eqGraph 0) ((a0.1, (a1.1, ())))).bind fun r1 =>
 if (!r1.1) = true then
  some (false, ())
 else
  if (a0.2.1 != a1.2.1) = true then
   some (false, ())
  else
   if (a0.2.2.1 != a1.2.2.1) = true then
    some (false, ())
   else
    (G_eqIntS ((a0.2.2.2.1, (a1.2.2.2.1, ())))).bind fun r2 =>
    if (!r2.1) = true then
     some (false, ())
    else
     if (a0.2.2.2.2.1 != a1.2.2.2.2.1) = true then
      some (false, ())
     else
      some (true, ())
theorem F_laws_eqWorkshop_ok (N : Nat) (d) : fnR Γ_laws_eqWorkshop (assoc []) true [(K_PPiSPiiqqiiSiiq, false), (K_PPiSPiiqqiiSiiq, false)] [.bool] Tryz.f13.results.toList (bodyOf Tryz.f13) d = F_laws_eqWorkshop N d := by kernel_rfl
noncomputable def S_laws_eqWorkshop : FSig := ⟨[(K_PPiSPiiqqiiSiiq, false), (K_PPiSPiiqqiiSiiq, false)], [.bool], true, (F_laws_eqWorkshop 0)⟩
noncomputable def Γ_laws_eqWork : Ctx := { tk := assoc tks, ar := assoc ars, fs := assoc [] }
noncomputable def F_laws_eqWork (N : Nat) (d : (Int × Int × Int × Unit) × (Int × Int × Int × Unit) × Unit) : Option (Bool × Unit) :=
 let a0 : Int × Int × Int × Unit := d.1
 let a1 : Int × Int × Int × Unit := d.2.1
 if (a0.1 != a1.1) = true then
  some (false, ())
 else
  if (a0.2.1 != a1.2.1) = true then
   some (false, ())
  else
   if (a0.2.2.1 != a1.2.2.1) = true then
    some (false, ())
   else
    some (true, ())
theorem F_laws_eqWork_ok (N : Nat) (d) : fnR Γ_laws_eqWork (assoc []) true [(K_Piiiq, false), (K_Piiiq, false)] [.bool] Tryz.f73.results.toList (bodyOf Tryz.f73) d = F_laws_eqWork N d := by kernel_rfl
noncomputable def g_laws_eqWork (d : (Int × Int × Int × Unit) × (Int × Int × Int × Unit) × Unit) : Bool × Unit :=
 let a0 : Int × Int × Int × Unit := d.1
 let a1 : Int × Int × Int × Unit := d.2.1
 if (a0.1 != a1.1) = true then
  (false, ())
 else
  if (a0.2.1 != a1.2.1) = true then
   (false, ())
  else
   if (a0.2.2.1 != a1.2.2.1) = true then
    (false, ())
   else
    (true, ())
theorem F_laws_eqWork_tot (N : Nat) (d) : F_laws_eqWork N d = some (g_laws_eqWork d) := by
 unfold F_laws_eqWork g_laws_eqWork
 first
  | rfl
  | (dsimp only; (repeat' split) <;> rfl)
noncomputable def S_laws_eqWork : FSig := ⟨[(K_Piiiq, false), (K_Piiiq, false)], [.bool], true, (fun d => some (g_laws_eqWork d))⟩
noncomputable def Γ_laws_eqWorkS : Ctx := { tk := assoc tks, ar := assoc ars, fs := assoc [(73, S_laws_eqWork)] }
abbrev laws_eqWorkS_l0_H := (List (Int × Int × Int × Unit)) × (List (Int × Int × Int × Unit)) × Int × Unit
abbrev laws_eqWorkS_l0_O := (Bool × Unit) ⊕ Unit ⊕ Empty
def laws_eqWorkS_l0_h : Form := [(0, .v K_SPiiiq), (1, .v K_SPiiiq), (5, .v I)]
def laws_eqWorkS_l0_o : Outs := [(.ret, [(4, .v .bool)]), (.normal, [])]
noncomputable def laws_eqWorkS_l0_r (N : Nat) (back : laws_eqWorkS_l0_H → Option laws_eqWorkS_l0_O) (d : laws_eqWorkS_l0_H) : Option laws_eqWorkS_l0_O :=
 let s0 : List (Int × Int × Int × Unit) := d.1
 let s1 : List (Int × Int × Int × Unit) := d.2.1
 let s5 : Int := d.2.2.1
 if (decide (s5 < (List.length s0 : Int))) = true then
  if (idxIn s5 (List.length s0)) = true then
  if (idxIn s5 (List.length s1)) = true then
  let r6 : Bool × Unit := g_laws_eqWork ((at_ K_Piiiq s0 s5.toNat, (at_ K_Piiiq s1 s5.toNat, ())))
  if (!r6.1) = true then
   some (.inl (false, ()))
  else
   let x7 : Int := IntKind.wrap .i64 (s5 + (1 : Int))
   back ((s0, (s1, (x7, ()))))
  else none
  else none
 else
  some (.inr (.inl ()))
noncomputable def laws_eqWorkS_l0 (N : Nat) : Nat → laws_eqWorkS_l0_H → Option laws_eqWorkS_l0_O
 | 0, _ => none
 | k + 1, d => laws_eqWorkS_l0_r N (laws_eqWorkS_l0 N k) d
theorem laws_eqWorkS_l0_ok (N : Nat) (back) (d) : roundR Γ_laws_eqWorkS (assoc []) 0 laws_eqWorkS_l0_h laws_eqWorkS_l0_o (loopOf Tryz.f40 0) back d = laws_eqWorkS_l0_r N back d := by kernel_rfl
noncomputable def F_laws_eqWorkS (N : Nat) (d : (List (Int × Int × Int × Unit)) × (List (Int × Int × Int × Unit)) × Unit) : Option (Bool × Unit) :=
 let a0 : List (Int × Int × Int × Unit) := d.1
 let a1 : List (Int × Int × Int × Unit) := d.2.1
 if ((List.length a0 : Int) != (List.length a1 : Int)) = true then
  some (false, ())
 else
  (laws_eqWorkS_l0 N N ((a0, (a1, ((0 : Int), ()))))).bind fun o3 => match o3 with
  | .inl d4 =>
   some (d4.1, ())
  | .inr (.inl d5) =>
   some (true, ())
theorem F_laws_eqWorkS_ok (N : Nat) (d) : fnR Γ_laws_eqWorkS (assoc [(0, ⟨laws_eqWorkS_l0_h, laws_eqWorkS_l0_o, laws_eqWorkS_l0 N N⟩)]) true [(K_SPiiiq, false), (K_SPiiiq, false)] [.bool] Tryz.f40.results.toList (bodyOf Tryz.f40) d = F_laws_eqWorkS N d := by kernel_rfl
noncomputable def S_laws_eqWorkS : FSig := ⟨[(K_SPiiiq, false), (K_SPiiiq, false)], [.bool], true, (G_eqWorkS)⟩
noncomputable def Γ_laws_markIntA2S : Ctx := { tk := assoc tks, ar := assoc ars, fs := assoc [], lent := fun t => Nat.beq t 0 }
abbrev laws_markIntA2S_l2_H := (List (Int × Int × Unit)) × Int × Int × Int × Unit
abbrev laws_markIntA2S_l2_O := ((List (Int × Int × Unit)) × Int × Int × Unit) ⊕ Empty
def laws_markIntA2S_l2_h : Form := [(0, .own K_SPiiq 1), (1, .v I), (5, .v I), (6, .v I)]
def laws_markIntA2S_l2_o : Outs := [(.normal, [(0, .own K_SPiiq 1), (1, .v I), (5, .v I)])]
noncomputable def laws_markIntA2S_l2_r (N : Nat) (back : laws_markIntA2S_l2_H → Option laws_markIntA2S_l2_O) (d : laws_markIntA2S_l2_H) : Option laws_markIntA2S_l2_O :=
 let s0 : List (Int × Int × Unit) := d.1
 let s1 : Int := d.2.1
 let s5 : Int := d.2.2.1
 let s6 : Int := d.2.2.2.1
 if (decide (s6 < (2 : Int))) = true then
  if (idxIn s5 (List.length s0)) = true then
  if (s6 == (0 : Int)) = true then
   let x24 : List (Int × Int × Unit) := List.set s0 s5.toNat (s1, (at_ K_Piiq s0 s5.toNat).2)
   let x25 : Int := IntKind.wrap .i64 (s1 + (1 : Int))
   let x26 : Int := IntKind.wrap .i64 (s6 + (1 : Int))
   back ((x24, (x25, (s5, (x26, ())))))
  else
   if (s6 == (1 : Int)) = true then
   let x21 : List (Int × Int × Unit) := List.set s0 s5.toNat (((at_ K_Piiq s0 s5.toNat).1, (s1, (at_ K_Piiq s0 s5.toNat).2.2)))
   let x22 : Int := IntKind.wrap .i64 (s1 + (1 : Int))
   let x23 : Int := IntKind.wrap .i64 (s6 + (1 : Int))
   back ((x21, (x22, (s5, (x23, ())))))
   else none
  else none
 else
  some (.inl ((s0, (s1, (s5, ())))))
noncomputable def laws_markIntA2S_l2 (N : Nat) : Nat → laws_markIntA2S_l2_H → Option laws_markIntA2S_l2_O
 | 0, _ => none
 | k + 1, d => laws_markIntA2S_l2_r N (laws_markIntA2S_l2 N k) d
theorem laws_markIntA2S_l2_ok (N : Nat) (back) (d) : roundR Γ_laws_markIntA2S (assoc []) 2 laws_markIntA2S_l2_h laws_markIntA2S_l2_o (loopOf Tryz.f89 2) back d = laws_markIntA2S_l2_r N back d := by kernel_rfl
abbrev laws_markIntA2S_l0_H := (List (Int × Int × Unit)) × Int × Int × Unit
abbrev laws_markIntA2S_l0_O := ((List (Int × Int × Unit)) × Int × Unit) ⊕ Empty
def laws_markIntA2S_l0_h : Form := [(0, .own K_SPiiq 1), (1, .v I), (5, .v I)]
def laws_markIntA2S_l0_o : Outs := [(.normal, [(0, .own K_SPiiq 1), (1, .v I)])]
noncomputable def laws_markIntA2S_l0_r (N : Nat) (back : laws_markIntA2S_l0_H → Option laws_markIntA2S_l0_O) (d : laws_markIntA2S_l0_H) : Option laws_markIntA2S_l0_O :=
 let s0 : List (Int × Int × Unit) := d.1
 let s1 : Int := d.2.1
 let s5 : Int := d.2.2.1
 if (decide (s5 < (List.length s0 : Int))) = true then
  (laws_markIntA2S_l2 N N ((s0, (s1, (s5, ((0 : Int), ())))))).bind fun o18 => match o18 with
  | .inl d19 =>
   let x20 : Int := IntKind.wrap .i64 (d19.2.2.1 + (1 : Int))
   back ((d19.1, (d19.2.1, (x20, ()))))
 else
  some (.inl ((s0, (s1, ()))))
noncomputable def laws_markIntA2S_l0 (N : Nat) : Nat → laws_markIntA2S_l0_H → Option laws_markIntA2S_l0_O
 | 0, _ => none
 | k + 1, d => laws_markIntA2S_l0_r N (laws_markIntA2S_l0 N k) d
theorem laws_markIntA2S_l0_ok (N : Nat) (back) (d) : roundR Γ_laws_markIntA2S (assoc [(2, ⟨laws_markIntA2S_l2_h, laws_markIntA2S_l2_o, laws_markIntA2S_l2 N N⟩)]) 0 laws_markIntA2S_l0_h laws_markIntA2S_l0_o (loopOf Tryz.f89 0) back d = laws_markIntA2S_l0_r N back d := by kernel_rfl
noncomputable def F_laws_markIntA2S (N : Nat) (d : (List (Int × Int × Unit)) × Int × Unit) : Option (Int × (List (Int × Int × Unit)) × Unit) :=
 let a0 : List (Int × Int × Unit) := d.1
 let a1 : Int := d.2.1
 (laws_markIntA2S_l0 N N ((a0, (a1, ((0 : Int), ()))))).bind fun o10 => match o10 with
 | .inl d11 =>
  some ((d11.2.1, (d11.1, ())))
theorem F_laws_markIntA2S_ok (N : Nat) (d) : fnR Γ_laws_markIntA2S (assoc [(0, ⟨laws_markIntA2S_l0_h, laws_markIntA2S_l0_o, laws_markIntA2S_l0 N N⟩)]) true [(K_SPiiq, true), (I, false)] [I] Tryz.f89.results.toList (bodyOf Tryz.f89) d = F_laws_markIntA2S N d := by kernel_rfl
noncomputable def S_laws_markIntA2S : FSig := ⟨[(K_SPiiq, true), (I, false)], [I], true, (G_markIntA2S)⟩
noncomputable def Γ_laws_markGraph : Ctx := { tk := assoc tks, ar := assoc ars, fs := assoc [(89, S_laws_markIntA2S)], lent := fun t => Nat.beq t 0 }
noncomputable def F_laws_markGraph (N : Nat) (d : (Int × (List (Int × Int × Unit)) × Unit) × Int × Unit) : Option (Int × (Int × (List (Int × Int × Unit)) × Unit) × Unit) :=
 let a0 : Int × (List (Int × Int × Unit)) × Unit := d.1
 let a1 : Int := d.2.1
 (G_markIntA2S ((a0.2.1, (a1, ())))).bind fun r1 =>
 some ((r1.1, ((a0.1, (r1.2.1, a0.2.2)), ())))
theorem F_laws_markGraph_ok (N : Nat) (d) : fnR Γ_laws_markGraph (assoc []) true [(K_PiSPiiqq, true), (I, false)] [I] Tryz.f51.results.toList (bodyOf Tryz.f51) d = F_laws_markGraph N d := by kernel_rfl
noncomputable def S_laws_markGraph : FSig := ⟨[(K_PiSPiiqq, true), (I, false)], [I], true, (F_laws_markGraph 0)⟩
noncomputable def Γ_laws_markIntS : Ctx := { tk := assoc tks, ar := assoc ars, fs := assoc [], lent := fun t => Nat.beq t 0 }
abbrev laws_markIntS_l0_H := List Int × Int × Int × Unit
abbrev laws_markIntS_l0_O := (List Int × Int × Unit) ⊕ Empty
def laws_markIntS_l0_h : Form := [(0, .own K_Si 1), (1, .v I), (5, .v I)]
def laws_markIntS_l0_o : Outs := [(.normal, [(0, .own K_Si 1), (1, .v I)])]
noncomputable def laws_markIntS_l0_r (N : Nat) (back : laws_markIntS_l0_H → Option laws_markIntS_l0_O) (d : laws_markIntS_l0_H) : Option laws_markIntS_l0_O :=
 let s0 : List Int := d.1
 let s1 : Int := d.2.1
 let s5 : Int := d.2.2.1
 if (decide (s5 < (List.length s0 : Int))) = true then
  if (idxIn s5 (List.length s0)) = true then
  let x5 : Int := IntKind.wrap .i64 (s1 + (1 : Int))
  let x6 : Int := IntKind.wrap .i64 (s5 + (1 : Int))
  back ((List.set s0 s5.toNat s1, (x5, (x6, ()))))
  else none
 else
  some (.inl ((s0, (s1, ()))))
noncomputable def laws_markIntS_l0 (N : Nat) : Nat → laws_markIntS_l0_H → Option laws_markIntS_l0_O
 | 0, _ => none
 | k + 1, d => laws_markIntS_l0_r N (laws_markIntS_l0 N k) d
theorem laws_markIntS_l0_ok (N : Nat) (back) (d) : roundR Γ_laws_markIntS (assoc []) 0 laws_markIntS_l0_h laws_markIntS_l0_o (loopOf Tryz.f52 0) back d = laws_markIntS_l0_r N back d := by kernel_rfl
noncomputable def F_laws_markIntS (N : Nat) (d : List Int × Int × Unit) : Option (Int × List Int × Unit) :=
 let a0 : List Int := d.1
 let a1 : Int := d.2.1
 (laws_markIntS_l0 N N ((a0, (a1, ((0 : Int), ()))))).bind fun o3 => match o3 with
 | .inl d4 =>
  some ((d4.2.1, (d4.1, ())))
theorem F_laws_markIntS_ok (N : Nat) (d) : fnR Γ_laws_markIntS (assoc [(0, ⟨laws_markIntS_l0_h, laws_markIntS_l0_o, laws_markIntS_l0 N N⟩)]) true [(K_Si, true), (I, false)] [I] Tryz.f52.results.toList (bodyOf Tryz.f52) d = F_laws_markIntS N d := by kernel_rfl
noncomputable def S_laws_markIntS : FSig := ⟨[(K_Si, true), (I, false)], [I], true, (G_markIntS)⟩
noncomputable def Γ_laws_markWorkshop : Ctx := { tk := assoc tks, ar := assoc ars, fs := assoc [(51, S_laws_markGraph), (52, S_laws_markIntS)], lent := fun t => Nat.beq t 0 }
noncomputable def F_laws_markWorkshop (N : Nat) (d : ((Int × (List (Int × Int × Unit)) × Unit) × Int × Int × List Int × Int × Unit) × Int × Unit) : Option (Int × ((Int × (List (Int × Int × Unit)) × Unit) × Int × Int × List Int × Int × Unit) × Unit) :=
 let a0 : (Int × (List (Int × Int × Unit)) × Unit) × Int × Int × List Int × Int × Unit := d.1
 let a1 : Int := d.2.1
 ((F_laws_markGraph 0) ((a0.1, (a1, ())))).bind fun r1 =>
 (G_markIntS ((a0.2.2.2.1, (r1.1, ())))).bind fun r2 =>
 some ((r2.1, ((r1.2.1, (a0.2.1, (a0.2.2.1, (r2.2.1, a0.2.2.2.2)))), ())))
theorem F_laws_markWorkshop_ok (N : Nat) (d) : fnR Γ_laws_markWorkshop (assoc []) true [(K_PPiSPiiqqiiSiiq, true), (I, false)] [I] Tryz.f14.results.toList (bodyOf Tryz.f14) d = F_laws_markWorkshop N d := by kernel_rfl
noncomputable def S_laws_markWorkshop : FSig := ⟨[(K_PPiSPiiqqiiSiiq, true), (I, false)], [I], true, (F_laws_markWorkshop 0)⟩
noncomputable def Γ_laws_markWorkS : Ctx := { tk := assoc tks, ar := assoc ars, fs := assoc [], lent := fun t => Nat.beq t 0 }
abbrev laws_markWorkS_l0_H := (List (Int × Int × Int × Unit)) × Int × Int × Unit
abbrev laws_markWorkS_l0_O := ((List (Int × Int × Int × Unit)) × Int × Unit) ⊕ Empty
def laws_markWorkS_l0_h : Form := [(0, .own K_SPiiiq 1), (1, .v I), (5, .v I)]
def laws_markWorkS_l0_o : Outs := [(.normal, [(0, .own K_SPiiiq 1), (1, .v I)])]
noncomputable def laws_markWorkS_l0_r (N : Nat) (back : laws_markWorkS_l0_H → Option laws_markWorkS_l0_O) (d : laws_markWorkS_l0_H) : Option laws_markWorkS_l0_O :=
 let s0 : List (Int × Int × Int × Unit) := d.1
 let s1 : Int := d.2.1
 let s5 : Int := d.2.2.1
 if (decide (s5 < (List.length s0 : Int))) = true then
  if (idxIn s5 (List.length s0)) = true then
  let x10 : List (Int × Int × Int × Unit) := List.set s0 s5.toNat (s1, (at_ K_Piiiq s0 s5.toNat).2)
  let x11 : Int := IntKind.wrap .i64 (s1 + (1 : Int))
  if (idxIn s5 (List.length x10)) = true then
  let x12 : List (Int × Int × Int × Unit) := List.set x10 s5.toNat (((at_ K_Piiiq x10 s5.toNat).1, (x11, (at_ K_Piiiq x10 s5.toNat).2.2)))
  let x13 : Int := IntKind.wrap .i64 (x11 + (1 : Int))
  if (idxIn s5 (List.length x12)) = true then
  let x14 : List (Int × Int × Int × Unit) := List.set x12 s5.toNat (((at_ K_Piiiq x12 s5.toNat).1, ((at_ K_Piiiq x12 s5.toNat).2.1, (x13, (at_ K_Piiiq x12 s5.toNat).2.2.2))))
  let x15 : Int := IntKind.wrap .i64 (x13 + (1 : Int))
  let x16 : Int := IntKind.wrap .i64 (s5 + (1 : Int))
  back ((x14, (x15, (x16, ()))))
  else none
  else none
  else none
 else
  some (.inl ((s0, (s1, ()))))
noncomputable def laws_markWorkS_l0 (N : Nat) : Nat → laws_markWorkS_l0_H → Option laws_markWorkS_l0_O
 | 0, _ => none
 | k + 1, d => laws_markWorkS_l0_r N (laws_markWorkS_l0 N k) d
theorem laws_markWorkS_l0_ok (N : Nat) (back) (d) : roundR Γ_laws_markWorkS (assoc []) 0 laws_markWorkS_l0_h laws_markWorkS_l0_o (loopOf Tryz.f41 0) back d = laws_markWorkS_l0_r N back d := by kernel_rfl
noncomputable def F_laws_markWorkS (N : Nat) (d : (List (Int × Int × Int × Unit)) × Int × Unit) : Option (Int × (List (Int × Int × Int × Unit)) × Unit) :=
 let a0 : List (Int × Int × Int × Unit) := d.1
 let a1 : Int := d.2.1
 (laws_markWorkS_l0 N N ((a0, (a1, ((0 : Int), ()))))).bind fun o8 => match o8 with
 | .inl d9 =>
  some ((d9.2.1, (d9.1, ())))
theorem F_laws_markWorkS_ok (N : Nat) (d) : fnR Γ_laws_markWorkS (assoc [(0, ⟨laws_markWorkS_l0_h, laws_markWorkS_l0_o, laws_markWorkS_l0 N N⟩)]) true [(K_SPiiiq, true), (I, false)] [I] Tryz.f41.results.toList (bodyOf Tryz.f41) d = F_laws_markWorkS N d := by kernel_rfl
noncomputable def S_laws_markWorkS : FSig := ⟨[(K_SPiiiq, true), (I, false)], [I], true, (G_markWorkS)⟩
noncomputable def Γ_laws_heldIntA2S : Ctx := { tk := assoc tks, ar := assoc ars, fs := assoc [] }
abbrev laws_heldIntA2S_l2_H := (List (Int × Int × Unit)) × Int × Int × Int × Unit
abbrev laws_heldIntA2S_l2_O := (Int × Unit) ⊕ ((List (Int × Int × Unit)) × Int × Int × Unit) ⊕ Empty
def laws_heldIntA2S_l2_h : Form := [(0, .v K_SPiiq), (1, .v I), (5, .v I), (6, .v I)]
def laws_heldIntA2S_l2_o : Outs := [(.ret, [(4, .v I)]), (.normal, [(0, .v K_SPiiq), (1, .v I), (5, .v I)])]
noncomputable def laws_heldIntA2S_l2_r (N : Nat) (back : laws_heldIntA2S_l2_H → Option laws_heldIntA2S_l2_O) (d : laws_heldIntA2S_l2_H) : Option laws_heldIntA2S_l2_O :=
 let s0 : List (Int × Int × Unit) := d.1
 let s1 : Int := d.2.1
 let s5 : Int := d.2.2.1
 let s6 : Int := d.2.2.2.1
 if (decide (s6 < (2 : Int))) = true then
  if (idxIn s5 (List.length s0)) = true then
  if (s6 == (0 : Int)) = true then
   if ((at_ K_Piiq s0 s5.toNat).1 != s1) = true then
    some (.inl ((-1 : Int), ()))
   else
    let x22 : Int := IntKind.wrap .i64 (s1 + (1 : Int))
    let x23 : Int := IntKind.wrap .i64 (s6 + (1 : Int))
    back ((s0, (x22, (s5, (x23, ())))))
  else
   if (s6 == (1 : Int)) = true then
   if ((at_ K_Piiq s0 s5.toNat).2.1 != s1) = true then
    some (.inl ((-1 : Int), ()))
   else
    let x20 : Int := IntKind.wrap .i64 (s1 + (1 : Int))
    let x21 : Int := IntKind.wrap .i64 (s6 + (1 : Int))
    back ((s0, (x20, (s5, (x21, ())))))
   else none
  else none
 else
  some (.inr (.inl ((s0, (s1, (s5, ()))))))
noncomputable def laws_heldIntA2S_l2 (N : Nat) : Nat → laws_heldIntA2S_l2_H → Option laws_heldIntA2S_l2_O
 | 0, _ => none
 | k + 1, d => laws_heldIntA2S_l2_r N (laws_heldIntA2S_l2 N k) d
theorem laws_heldIntA2S_l2_ok (N : Nat) (back) (d) : roundR Γ_laws_heldIntA2S (assoc []) 2 laws_heldIntA2S_l2_h laws_heldIntA2S_l2_o (loopOf Tryz.f90 2) back d = laws_heldIntA2S_l2_r N back d := by kernel_rfl
abbrev laws_heldIntA2S_l0_H := (List (Int × Int × Unit)) × Int × Int × Unit
abbrev laws_heldIntA2S_l0_O := (Int × Unit) ⊕ (Int × Unit) ⊕ Empty
def laws_heldIntA2S_l0_h : Form := [(0, .v K_SPiiq), (1, .v I), (5, .v I)]
def laws_heldIntA2S_l0_o : Outs := [(.ret, [(4, .v I)]), (.normal, [(1, .v I)])]
noncomputable def laws_heldIntA2S_l0_r (N : Nat) (back : laws_heldIntA2S_l0_H → Option laws_heldIntA2S_l0_O) (d : laws_heldIntA2S_l0_H) : Option laws_heldIntA2S_l0_O :=
 let s0 : List (Int × Int × Unit) := d.1
 let s1 : Int := d.2.1
 let s5 : Int := d.2.2.1
 if (decide (s5 < (List.length s0 : Int))) = true then
  (laws_heldIntA2S_l2 N N ((s0, (s1, (s5, ((0 : Int), ())))))).bind fun o16 => match o16 with
  | .inl d17 =>
   some (.inl (d17.1, ()))
  | .inr (.inl d18) =>
   let x19 : Int := IntKind.wrap .i64 (d18.2.2.1 + (1 : Int))
   back ((d18.1, (d18.2.1, (x19, ()))))
 else
  some (.inr (.inl (s1, ())))
noncomputable def laws_heldIntA2S_l0 (N : Nat) : Nat → laws_heldIntA2S_l0_H → Option laws_heldIntA2S_l0_O
 | 0, _ => none
 | k + 1, d => laws_heldIntA2S_l0_r N (laws_heldIntA2S_l0 N k) d
theorem laws_heldIntA2S_l0_ok (N : Nat) (back) (d) : roundR Γ_laws_heldIntA2S (assoc [(2, ⟨laws_heldIntA2S_l2_h, laws_heldIntA2S_l2_o, laws_heldIntA2S_l2 N N⟩)]) 0 laws_heldIntA2S_l0_h laws_heldIntA2S_l0_o (loopOf Tryz.f90 0) back d = laws_heldIntA2S_l0_r N back d := by kernel_rfl
noncomputable def F_laws_heldIntA2S (N : Nat) (d : (List (Int × Int × Unit)) × Int × Unit) : Option (Int × Unit) :=
 let a0 : List (Int × Int × Unit) := d.1
 let a1 : Int := d.2.1
 (laws_heldIntA2S_l0 N N ((a0, (a1, ((0 : Int), ()))))).bind fun o9 => match o9 with
 | .inl d10 =>
  some (d10.1, ())
 | .inr (.inl d11) =>
  some (d11.1, ())
theorem F_laws_heldIntA2S_ok (N : Nat) (d) : fnR Γ_laws_heldIntA2S (assoc [(0, ⟨laws_heldIntA2S_l0_h, laws_heldIntA2S_l0_o, laws_heldIntA2S_l0 N N⟩)]) true [(K_SPiiq, false), (I, false)] [I] Tryz.f90.results.toList (bodyOf Tryz.f90) d = F_laws_heldIntA2S N d := by kernel_rfl
noncomputable def S_laws_heldIntA2S : FSig := ⟨[(K_SPiiq, false), (I, false)], [I], true, (G_heldIntA2S)⟩
noncomputable def Γ_laws_heldGraph : Ctx := { tk := assoc tks, ar := assoc ars, fs := assoc [(90, S_laws_heldIntA2S)] }
noncomputable def F_laws_heldGraph (N : Nat) (d : (Int × (List (Int × Int × Unit)) × Unit) × Int × Unit) : Option (Int × Unit) :=
 let a0 : Int × (List (Int × Int × Unit)) × Unit := d.1
 let a1 : Int := d.2.1
 (G_heldIntA2S ((a0.2.1, (a1, ())))).bind fun r1 =>
 if (decide (r1.1 < (0 : Int))) = true then
  some ((-1 : Int), ())
 else
  some (r1.1, ())
theorem F_laws_heldGraph_ok (N : Nat) (d) : fnR Γ_laws_heldGraph (assoc []) true [(K_PiSPiiqq, false), (I, false)] [I] Tryz.f53.results.toList (bodyOf Tryz.f53) d = F_laws_heldGraph N d := by kernel_rfl
noncomputable def S_laws_heldGraph : FSig := ⟨[(K_PiSPiiqq, false), (I, false)], [I], true, (F_laws_heldGraph 0)⟩
noncomputable def Γ_laws_heldIntS : Ctx := { tk := assoc tks, ar := assoc ars, fs := assoc [] }
abbrev laws_heldIntS_l0_H := List Int × Int × Int × Unit
abbrev laws_heldIntS_l0_O := (Int × Unit) ⊕ (Int × Unit) ⊕ Empty
def laws_heldIntS_l0_h : Form := [(0, .v K_Si), (1, .v I), (5, .v I)]
def laws_heldIntS_l0_o : Outs := [(.ret, [(4, .v I)]), (.normal, [(1, .v I)])]
noncomputable def laws_heldIntS_l0_r (N : Nat) (back : laws_heldIntS_l0_H → Option laws_heldIntS_l0_O) (d : laws_heldIntS_l0_H) : Option laws_heldIntS_l0_O :=
 let s0 : List Int := d.1
 let s1 : Int := d.2.1
 let s5 : Int := d.2.2.1
 if (decide (s5 < (List.length s0 : Int))) = true then
  if (idxIn s5 (List.length s0)) = true then
  if (at_ I s0 s5.toNat != s1) = true then
   some (.inl ((-1 : Int), ()))
  else
   let x6 : Int := IntKind.wrap .i64 (s1 + (1 : Int))
   let x7 : Int := IntKind.wrap .i64 (s5 + (1 : Int))
   back ((s0, (x6, (x7, ()))))
  else none
 else
  some (.inr (.inl (s1, ())))
noncomputable def laws_heldIntS_l0 (N : Nat) : Nat → laws_heldIntS_l0_H → Option laws_heldIntS_l0_O
 | 0, _ => none
 | k + 1, d => laws_heldIntS_l0_r N (laws_heldIntS_l0 N k) d
theorem laws_heldIntS_l0_ok (N : Nat) (back) (d) : roundR Γ_laws_heldIntS (assoc []) 0 laws_heldIntS_l0_h laws_heldIntS_l0_o (loopOf Tryz.f54 0) back d = laws_heldIntS_l0_r N back d := by kernel_rfl
noncomputable def F_laws_heldIntS (N : Nat) (d : List Int × Int × Unit) : Option (Int × Unit) :=
 let a0 : List Int := d.1
 let a1 : Int := d.2.1
 (laws_heldIntS_l0 N N ((a0, (a1, ((0 : Int), ()))))).bind fun o3 => match o3 with
 | .inl d4 =>
  some (d4.1, ())
 | .inr (.inl d5) =>
  some (d5.1, ())
theorem F_laws_heldIntS_ok (N : Nat) (d) : fnR Γ_laws_heldIntS (assoc [(0, ⟨laws_heldIntS_l0_h, laws_heldIntS_l0_o, laws_heldIntS_l0 N N⟩)]) true [(K_Si, false), (I, false)] [I] Tryz.f54.results.toList (bodyOf Tryz.f54) d = F_laws_heldIntS N d := by kernel_rfl
noncomputable def S_laws_heldIntS : FSig := ⟨[(K_Si, false), (I, false)], [I], true, (G_heldIntS)⟩
noncomputable def Γ_laws_heldWorkshop : Ctx := { tk := assoc tks, ar := assoc ars, fs := assoc [(53, S_laws_heldGraph), (54, S_laws_heldIntS)] }
noncomputable def F_laws_heldWorkshop (N : Nat) (d : ((Int × (List (Int × Int × Unit)) × Unit) × Int × Int × List Int × Int × Unit) × Int × Unit) : Option (Int × Unit) :=
 let a0 : (Int × (List (Int × Int × Unit)) × Unit) × Int × Int × List Int × Int × Unit := d.1
 let a1 : Int := d.2.1
 ((F_laws_heldGraph 0) ((a0.1, (a1, ())))).bind fun r1 =>
 if (decide (r1.1 < (0 : Int))) = true then
  some ((-1 : Int), ())
 else
  (G_heldIntS ((a0.2.2.2.1, (r1.1, ())))).bind fun r2 =>
  if (decide (r2.1 < (0 : Int))) = true then
   some ((-1 : Int), ())
  else
   some (r2.1, ())
theorem F_laws_heldWorkshop_ok (N : Nat) (d) : fnR Γ_laws_heldWorkshop (assoc []) true [(K_PPiSPiiqqiiSiiq, false), (I, false)] [I] Tryz.f15.results.toList (bodyOf Tryz.f15) d = F_laws_heldWorkshop N d := by kernel_rfl
noncomputable def S_laws_heldWorkshop : FSig := ⟨[(K_PPiSPiiqqiiSiiq, false), (I, false)], [I], true, (F_laws_heldWorkshop 0)⟩
noncomputable def Γ_laws_FnExactDoWorks : Ctx := { tk := assoc tks, ar := assoc ars, fs := assoc [(8, S_laws_szWorkshop), (10, S_laws_toWorkshop), (13, S_laws_eqWorkshop), (14, S_laws_markWorkshop), (15, S_laws_heldWorkshop), (25, S_impl_DoWorks), (26, S_spec_DoWorks), (38, S_laws_szWorkS), (39, S_laws_toWorkS), (40, S_laws_eqWorkS), (41, S_laws_markWorkS)] }
noncomputable def F_laws_FnExactDoWorks (N : Nat) (d : ((Int × (List (Int × Int × Unit)) × Unit) × Int × Int × List Int × Int × Unit) × (List (Int × Int × Int × Unit)) × Unit) : Option (Bool × Unit) :=
 let a0 : (Int × (List (Int × Int × Unit)) × Unit) × Int × Int × List Int × Int × Unit := d.1
 let a1 : List (Int × Int × Int × Unit) := d.2.1
 let r1 : Int × Unit := g_laws_szWorkshop ((a0, ((1048576 : Int), ())))
 if (decide (r1.1 < (0 : Int))) = true then
  some (true, ())
 else
  let r2 : Int × Unit := g_laws_szWorkS ((a1, (r1.1, ())))
  if (decide (r2.1 < (0 : Int))) = true then
   some (true, ())
  else
   ((F_laws_toWorkshop 0) (a0, ())).bind fun r3 =>
   (G_toWorkS (a1, ())).bind fun r4 =>
   (G_DoWorks ((r3.1, (r4.1, ())))).bind fun r5 =>
   ((F_laws_toWorkshop 0) (a0, ())).bind fun r6 =>
   (G_toWorkS (a1, ())).bind fun r7 =>
   (G_DoWorks ((r6.1, (r7.1, ())))).bind fun r8 =>
   ((F_laws_eqWorkshop 0) ((r8.1, (r5.1, ())))).bind fun r9 =>
   if (!r9.1) = true then
    some (false, ())
   else
    if (r8.2.1 != r5.2.1) = true then
     some (false, ())
    else
     if (!(r8.2.2.1 == r5.2.2.1)) = true then
      some (false, ())
     else
      ((F_laws_toWorkshop 0) (a0, ())).bind fun r10 =>
      ((F_laws_eqWorkshop 0) ((r6.1, (r10.1, ())))).bind fun r11 =>
      if (!r11.1) = true then
       some (false, ())
      else
       (G_toWorkS (a1, ())).bind fun r12 =>
       (G_eqWorkS ((r7.1, (r12.1, ())))).bind fun r13 =>
       if (!r13.1) = true then
        some (false, ())
       else
        ((F_laws_markWorkshop 0) ((r6.1, ((1 : Int), ())))).bind fun r14 =>
        (G_markWorkS ((r7.1, (r14.1, ())))).bind fun r15 =>
        if (decide (r15.1 < (0 : Int))) = true then
         some (false, ())
        else
         ((F_laws_eqWorkshop 0) ((r8.1, (r5.1, ())))).bind fun r16 =>
         if (!r16.1) = true then
          some (false, ())
         else
          if (r8.2.1 != r5.2.1) = true then
           some (false, ())
          else
           if (!(r8.2.2.1 == r5.2.2.1)) = true then
            some (false, ())
           else
            ((F_laws_markWorkshop 0) ((r8.1, ((1 : Int), ())))).bind fun r17 =>
            ((F_laws_heldWorkshop 0) ((r17.2.1, ((1 : Int), ())))).bind fun r18 =>
            if (decide (r18.1 < (0 : Int))) = true then
             some (false, ())
            else
             if (r18.1 != r17.1) = true then
              some (false, ())
             else
              ((F_laws_toWorkshop 0) (a0, ())).bind fun r19 =>
              (G_toWorkS (a1, ())).bind fun r20 =>
              (G_DoWorks ((r19.1, (r20.1, ())))).bind fun r21 =>
              ((F_laws_eqWorkshop 0) ((r21.1, (r5.1, ())))).bind fun r22 =>
              if (!r22.1) = true then
               some (false, ())
              else
               if (r21.2.1 != r5.2.1) = true then
                some (false, ())
               else
                if (!(r21.2.2.1 == r5.2.2.1)) = true then
                 some (false, ())
                else
                 ((F_laws_heldWorkshop 0) ((r17.2.1, ((1 : Int), ())))).bind fun r23 =>
                 if (decide (r23.1 < (0 : Int))) = true then
                  some (false, ())
                 else
                  if (r23.1 != r17.1) = true then
                   some (false, ())
                  else
                   some (true, ())
theorem F_laws_FnExactDoWorks_ok (N : Nat) (d) : fnR Γ_laws_FnExactDoWorks (assoc []) true [(K_PPiSPiiqqiiSiiq, false), (K_SPiiiq, false)] [.bool] Tryz.f7.results.toList (bodyOf Tryz.f7) d = F_laws_FnExactDoWorks N d := by kernel_rfl
noncomputable def S_laws_FnExactDoWorks : FSig := ⟨[(K_PPiSPiiqqiiSiiq, false), (K_SPiiiq, false)], [.bool], true, (F_laws_FnExactDoWorks 0)⟩
end Go.V.W
