/- What the law FnExactCopReply leans on, part 5: an interpreter of the model as plain data, its soundness, the functions as it tells them, and their laws. -/
import Derived.Test.YtcdhlpfcjpnfoaaGreatProg
import Derived.Laws.CopyOwn
import Derived.Deep.OwnRows
import Derived.WalkKit
import Derived.LoopN
import Derived.Deep.DeepFit
import Derived.Test.YtcdhlpfcjpnfoaaGreatVD
set_option linter.unusedVariables false
set_option linter.unusedSimpArgs false
set_option maxRecDepth 100000
set_option linter.unusedVariables false
set_option maxRecDepth 100000
namespace Go.V.W
open Go.Proofs
abbrev I : Kd := .int .i64
abbrev K_Piq : Kd := .pair I .unit
abbrev K_Piiq : Kd := .pair I K_Piq
abbrev K_SPiiq : Kd := .slice K_Piiq
abbrev K_PSPiiqq : Kd := .pair K_SPiiq .unit
abbrev K_PiSPiiqq : Kd := .pair I K_PSPiiqq
abbrev K_Si : Kd := .slice I
abbrev K_SSi : Kd := .slice K_Si
abbrev K_ZSi : Kd := .ssl K_Si
abbrev K_PSSiq : Kd := .pair K_SSi .unit
abbrev K_PSSiSSiq : Kd := .pair K_SSi K_PSSiq
abbrev K_PZSiSSiSSiq : Kd := .pair K_ZSi K_PSSiSSiq
abbrev K_PSiq : Kd := .pair K_Si .unit
abbrev K_F_slices_Compare_Sint_int_qq : Kd := .clo 113 .unit .unit
abbrev K_F_slices_Equal_Sint_int_qq : Kd := .clo 92 .unit .unit
abbrev K_Zi : Kd := .ssl I
abbrev K_PZiq : Kd := .pair K_Zi .unit
abbrev K_PPZiqZSiSSiSSiq : Kd := .pair K_PZiq K_PZSiSSiSSiq
abbrev K_BPPZiqZSiSSiSSiq : Kd := .bx K_PPZiqZSiSSiSSiq
abbrev K_BBPPZiqZSiSSiSSiq : Kd := .bx K_BPPZiqZSiSSiSSiq
abbrev K_Bi : Kd := .bx I
abbrev K_PBiq : Kd := .pair K_Bi .unit
abbrev K_PBBPPZiqZSiSSiSSiqBiq : Kd := .pair K_BBPPZiqZSiSSiSSiq K_PBiq
abbrev K_F_impl_copGame_can_1_qPBBPPZiqZSiSSiSSiqBiq : Kd := .clo 128 .unit K_PBBPPZiqZSiSSiSSiqBiq
def tks : List (Nat × Kd) := [(3, I), (4, .bool), (22, K_SPiiq), (24, K_PiSPiiqq), (25, K_SSi), (30, K_PiSPiiqq), (37, K_Si), (62, K_PSiq), (73, K_PZSiSSiSSiq), (76, K_PPZiqZSiSSiSSiq), (88, K_Piiq), (114, (.int .u64))]
def ars : List (Nat × Nat) := [(88, 3)]
noncomputable def Γ_laws_szIntA2S : Ctx := { tk := assoc tks, ar := assoc ars, fs := assoc [] }
noncomputable def F_laws_szIntA2S (N : Nat) (d : (List (Int × Int × Unit)) × Int × Unit) : Option (Int × Unit) :=
 let a0 : List (Int × Int × Unit) := d.1
 let a1 : Int := d.2.1
 let x1 : Int := IntKind.wrap .i64 (a1 - (List.length a0 : Int))
 if (decide (x1 < (0 : Int))) = true then
  some ((-1 : Int), ())
 else
  some (x1, ())
theorem F_laws_szIntA2S_ok (N : Nat) (d) : fnR Γ_laws_szIntA2S (assoc []) true [(K_SPiiq, false), (I, false)] [I] Tryz.f43.results.toList (bodyOf Tryz.f43) d = F_laws_szIntA2S N d := by kernel_rfl
noncomputable def g_laws_szIntA2S (d : (List (Int × Int × Unit)) × Int × Unit) : Int × Unit :=
 let a0 : List (Int × Int × Unit) := d.1
 let a1 : Int := d.2.1
 let x1 : Int := IntKind.wrap .i64 (a1 - (List.length a0 : Int))
 if (decide (x1 < (0 : Int))) = true then
  ((-1 : Int), ())
 else
  (x1, ())
theorem F_laws_szIntA2S_tot (N : Nat) (d) : F_laws_szIntA2S N d = some (g_laws_szIntA2S d) := by
 unfold F_laws_szIntA2S g_laws_szIntA2S
 first
  | rfl
  | (dsimp only; (repeat' split) <;> rfl)
noncomputable def S_laws_szIntA2S : FSig := ⟨[(K_SPiiq, false), (I, false)], [I], true, (fun d => some (g_laws_szIntA2S d))⟩
noncomputable def Γ_laws_szGraph : Ctx := { tk := assoc tks, ar := assoc ars, fs := assoc [(43, S_laws_szIntA2S)] }
noncomputable def F_laws_szGraph (N : Nat) (d : (Int × (List (Int × Int × Unit)) × Unit) × Int × Unit) : Option (Int × Unit) :=
 let a0 : Int × (List (Int × Int × Unit)) × Unit := d.1
 let a1 : Int := d.2.1
 let r1 : Int × Unit := g_laws_szIntA2S ((a0.2.1, (a1, ())))
 if (decide (r1.1 < (0 : Int))) = true then
  some ((-1 : Int), ())
 else
  some (r1.1, ())
theorem F_laws_szGraph_ok (N : Nat) (d) : fnR Γ_laws_szGraph (assoc []) true [(K_PiSPiiqq, false), (I, false)] [I] Tryz.f12.results.toList (bodyOf Tryz.f12) d = F_laws_szGraph N d := by kernel_rfl
noncomputable def g_laws_szGraph (d : (Int × (List (Int × Int × Unit)) × Unit) × Int × Unit) : Int × Unit :=
 let a0 : Int × (List (Int × Int × Unit)) × Unit := d.1
 let a1 : Int := d.2.1
 let r1 : Int × Unit := g_laws_szIntA2S ((a0.2.1, (a1, ())))
 if (decide (r1.1 < (0 : Int))) = true then
  ((-1 : Int), ())
 else
  (r1.1, ())
theorem F_laws_szGraph_tot (N : Nat) (d) : F_laws_szGraph N d = some (g_laws_szGraph d) := by
 unfold F_laws_szGraph g_laws_szGraph
 first
  | rfl
  | (dsimp only; (repeat' split) <;> rfl)
noncomputable def S_laws_szGraph : FSig := ⟨[(K_PiSPiiqq, false), (I, false)], [I], true, (fun d => some (g_laws_szGraph d))⟩
noncomputable def Γ_laws_toIntA2 : Ctx := { tk := assoc tks, ar := assoc ars, fs := assoc [] }
abbrev laws_toIntA2_l0_H := (Int × Int × Unit) × (Int × Int × Unit) × (Int × Int × Unit) × Int × Unit
abbrev laws_toIntA2_l0_O := ((Int × Int × Unit) × (Int × Int × Unit) × Unit) ⊕ Empty
def laws_toIntA2_l0_h : Form := [(1, .box K_Piiq 99), (2, .box K_Piiq 99), (3, .box K_Piiq 99), (4, .v I)]
def laws_toIntA2_l0_o : Outs := [(.normal, [(2, .box K_Piiq 99), (3, .box K_Piiq 99)])]
noncomputable def laws_toIntA2_l0_r (N : Nat) (back : laws_toIntA2_l0_H → Option laws_toIntA2_l0_O) (d : laws_toIntA2_l0_H) : Option laws_toIntA2_l0_O :=
 let s1 : Int × Int × Unit := d.1
 let s2 : Int × Int × Unit := d.2.1
 let s3 : Int × Int × Unit := d.2.2.1
 let s4 : Int := d.2.2.2.1
 if (decide (s4 < (2 : Int))) = true then
  if (s4 == (0 : Int)) = true then
   if (s4 == (0 : Int)) = true then
    let x10 : Int := IntKind.wrap .i64 (s4 + (1 : Int))
    back ((s1, (s2, ((s1.1, s3.2), (x10, ())))))
   else
    if (s4 == (1 : Int)) = true then
    let x9 : Int := IntKind.wrap .i64 (s4 + (1 : Int))
    back ((s1, (s2, ((s3.1, (s1.1, s3.2.2)), (x9, ())))))
    else none
  else
   if (s4 == (1 : Int)) = true then
   if (s4 == (0 : Int)) = true then
    let x8 : Int := IntKind.wrap .i64 (s4 + (1 : Int))
    back ((s1, (s2, ((s1.2.1, s3.2), (x8, ())))))
   else
    if (s4 == (1 : Int)) = true then
    let x7 : Int := IntKind.wrap .i64 (s4 + (1 : Int))
    back ((s1, (s2, ((s3.1, (s1.2.1, s3.2.2)), (x7, ())))))
    else none
   else none
 else
  some (.inl ((s2, (s3, ()))))
noncomputable def laws_toIntA2_l0 (N : Nat) : Nat → laws_toIntA2_l0_H → Option laws_toIntA2_l0_O
 | 0, _ => none
 | k + 1, d => laws_toIntA2_l0_r N (laws_toIntA2_l0 N k) d
theorem laws_toIntA2_l0_ok (N : Nat) (back) (d) : roundR Γ_laws_toIntA2 (assoc []) 0 laws_toIntA2_l0_h laws_toIntA2_l0_o (loopOf Tryz.f87 0) back d = laws_toIntA2_l0_r N back d := by kernel_rfl
noncomputable def F_laws_toIntA2 (N : Nat) (d : (Int × Int × Unit) × Unit) : Option ((Int × Int × Unit) × Unit) :=
 let a0 : Int × Int × Unit := d.1
 (laws_toIntA2_l0 N N ((a0, (((0 : Int), ((0 : Int), ())), (((0 : Int), ((0 : Int), ())), ((0 : Int), ())))))).bind fun o5 => match o5 with
 | .inl d6 =>
  some (d6.2.1, ())
theorem F_laws_toIntA2_ok (N : Nat) (d) : fnR Γ_laws_toIntA2 (assoc [(0, ⟨laws_toIntA2_l0_h, laws_toIntA2_l0_o, laws_toIntA2_l0 N N⟩)]) true [(K_Piiq, false)] [K_Piiq] Tryz.f87.results.toList (bodyOf Tryz.f87) d = F_laws_toIntA2 N d := by kernel_rfl
noncomputable def S_laws_toIntA2 : FSig := ⟨[(K_Piiq, false)], [K_Piiq], true, (G_toIntA2)⟩
noncomputable def Γ_laws_toIntA2S : Ctx := { tk := assoc tks, ar := assoc ars, fs := assoc [(87, S_laws_toIntA2)] }
abbrev laws_toIntA2S_l0_H := (List (Int × Int × Unit)) × (List (Int × Int × Unit)) × Int × Unit
abbrev laws_toIntA2S_l0_O := ((List (Int × Int × Unit)) × Unit) ⊕ Empty
def laws_toIntA2S_l0_h : Form := [(0, .v K_SPiiq), (3, .own K_SPiiq 99), (4, .v I)]
def laws_toIntA2S_l0_o : Outs := [(.normal, [(3, .own K_SPiiq 99)])]
noncomputable def laws_toIntA2S_l0_r (N : Nat) (back : laws_toIntA2S_l0_H → Option laws_toIntA2S_l0_O) (d : laws_toIntA2S_l0_H) : Option laws_toIntA2S_l0_O :=
 let s0 : List (Int × Int × Unit) := d.1
 let s3 : List (Int × Int × Unit) := d.2.1
 let s4 : Int := d.2.2.1
 if (decide (s4 < (List.length s0 : Int))) = true then
  if (idxIn s4 (List.length s0)) = true then
  (G_toIntA2 (at_ K_Piiq s0 s4.toNat, ())).bind fun r6 =>
  if (idxIn s4 (List.length s3)) = true then
  let x7 : Int := IntKind.wrap .i64 (s4 + (1 : Int))
  back ((s0, (List.set s3 s4.toNat r6.1, (x7, ()))))
  else none
  else none
 else
  some (.inl (s3, ()))
noncomputable def laws_toIntA2S_l0 (N : Nat) : Nat → laws_toIntA2S_l0_H → Option laws_toIntA2S_l0_O
 | 0, _ => none
 | k + 1, d => laws_toIntA2S_l0_r N (laws_toIntA2S_l0 N k) d
theorem laws_toIntA2S_l0_ok (N : Nat) (back) (d) : roundR Γ_laws_toIntA2S (assoc []) 0 laws_toIntA2S_l0_h laws_toIntA2S_l0_o (loopOf Tryz.f48 0) back d = laws_toIntA2S_l0_r N back d := by kernel_rfl
noncomputable def F_laws_toIntA2S (N : Nat) (d : (List (Int × Int × Unit)) × Unit) : Option ((List (Int × Int × Unit)) × Unit) :=
 let a0 : List (Int × Int × Unit) := d.1
 if ((decide (0 ≤ (List.length a0 : Int)) && decide ((List.length a0 : Int) ≤ (List.length a0 : Int)) && decide ((List.length a0 : Int) ≤ (lim : Int)))) = true then
 let x1 : List (Int × Int × Unit) := List.replicate (List.length a0 : Int).toNat (((0 : Int), ((0 : Int), ())))
 (laws_toIntA2S_l0 N N ((a0, (x1, ((0 : Int), ()))))).bind fun o4 => match o4 with
 | .inl d5 =>
  some (d5.1, ())
 else none
theorem F_laws_toIntA2S_ok (N : Nat) (d) : fnR Γ_laws_toIntA2S (assoc [(0, ⟨laws_toIntA2S_l0_h, laws_toIntA2S_l0_o, laws_toIntA2S_l0 N N⟩)]) true [(K_SPiiq, false)] [K_SPiiq] Tryz.f48.results.toList (bodyOf Tryz.f48) d = F_laws_toIntA2S N d := by kernel_rfl
noncomputable def S_laws_toIntA2S : FSig := ⟨[(K_SPiiq, false)], [K_SPiiq], true, (G_toIntA2S)⟩
noncomputable def Γ_laws_toGraph : Ctx := { tk := assoc tks, ar := assoc ars, fs := assoc [(48, S_laws_toIntA2S)] }
noncomputable def F_laws_toGraph (N : Nat) (d : (Int × (List (Int × Int × Unit)) × Unit) × Unit) : Option ((Int × (List (Int × Int × Unit)) × Unit) × Unit) :=
 let a0 : Int × (List (Int × Int × Unit)) × Unit := d.1
 (G_toIntA2S (a0.2.1, ())).bind fun r1 =>
 some (((a0.1, (r1.1, ())), ()))
theorem F_laws_toGraph_ok (N : Nat) (d) : fnR Γ_laws_toGraph (assoc []) true [(K_PiSPiiqq, false)] [K_PiSPiiqq] Tryz.f15.results.toList (bodyOf Tryz.f15) d = F_laws_toGraph N d := by kernel_rfl
noncomputable def S_laws_toGraph : FSig := ⟨[(K_PiSPiiqq, false)], [K_PiSPiiqq], true, (F_laws_toGraph 0)⟩
noncomputable def Γ_laws_toIntS : Ctx := { tk := assoc tks, ar := assoc ars, fs := assoc [] }
abbrev laws_toIntS_l0_H := List Int × List Int × Int × Unit
abbrev laws_toIntS_l0_O := (List Int × Unit) ⊕ Empty
def laws_toIntS_l0_h : Form := [(0, .v K_Si), (3, .own K_Si 99), (4, .v I)]
def laws_toIntS_l0_o : Outs := [(.normal, [(3, .own K_Si 99)])]
noncomputable def laws_toIntS_l0_r (N : Nat) (back : laws_toIntS_l0_H → Option laws_toIntS_l0_O) (d : laws_toIntS_l0_H) : Option laws_toIntS_l0_O :=
 let s0 : List Int := d.1
 let s3 : List Int := d.2.1
 let s4 : Int := d.2.2.1
 if (decide (s4 < (List.length s0 : Int))) = true then
  if (idxIn s4 (List.length s0)) = true then
  if (idxIn s4 (List.length s3)) = true then
  let x6 : List Int := List.set s3 s4.toNat (at_ I s0 s4.toNat)
  let x7 : Int := IntKind.wrap .i64 (s4 + (1 : Int))
  back ((s0, (x6, (x7, ()))))
  else none
  else none
 else
  some (.inl (s3, ()))
noncomputable def laws_toIntS_l0 (N : Nat) : Nat → laws_toIntS_l0_H → Option laws_toIntS_l0_O
 | 0, _ => none
 | k + 1, d => laws_toIntS_l0_r N (laws_toIntS_l0 N k) d
theorem laws_toIntS_l0_ok (N : Nat) (back) (d) : roundR Γ_laws_toIntS (assoc []) 0 laws_toIntS_l0_h laws_toIntS_l0_o (loopOf Tryz.f31 0) back d = laws_toIntS_l0_r N back d := by kernel_rfl
noncomputable def F_laws_toIntS (N : Nat) (d : List Int × Unit) : Option (List Int × Unit) :=
 let a0 : List Int := d.1
 if ((decide (0 ≤ (List.length a0 : Int)) && decide ((List.length a0 : Int) ≤ (List.length a0 : Int)) && decide ((List.length a0 : Int) ≤ (lim : Int)))) = true then
 let x1 : List Int := List.replicate (List.length a0 : Int).toNat (0 : Int)
 (laws_toIntS_l0 N N ((a0, (x1, ((0 : Int), ()))))).bind fun o4 => match o4 with
 | .inl d5 =>
  some (d5.1, ())
 else none
theorem F_laws_toIntS_ok (N : Nat) (d) : fnR Γ_laws_toIntS (assoc [(0, ⟨laws_toIntS_l0_h, laws_toIntS_l0_o, laws_toIntS_l0 N N⟩)]) true [(K_Si, false)] [K_Si] Tryz.f31.results.toList (bodyOf Tryz.f31) d = F_laws_toIntS N d := by kernel_rfl
noncomputable def S_laws_toIntS : FSig := ⟨[(K_Si, false)], [K_Si], true, (G_toIntS)⟩
noncomputable def Γ_spec_l1In : Ctx := { tk := assoc tks, ar := assoc ars, fs := assoc [] }
noncomputable def F_spec_l1In (N : Nat) (d : Int × Int × Int × Unit) : Option (Bool × Unit) :=
 let a0 : Int := d.1
 let a1 : Int := d.2.1
 let a2 : Int := d.2.2.1
 if (decide (a0 ≥ a1)) = true then
  some (decide (a0 ≤ a2), ())
 else
  some (false, ())
theorem F_spec_l1In_ok (N : Nat) (d) : fnR Γ_spec_l1In (assoc []) true [(I, false), (I, false), (I, false)] [.bool] Tryz.f77.results.toList (bodyOf Tryz.f77) d = F_spec_l1In N d := by kernel_rfl
noncomputable def g_spec_l1In (d : Int × Int × Int × Unit) : Bool × Unit :=
 let a0 : Int := d.1
 let a1 : Int := d.2.1
 let a2 : Int := d.2.2.1
 if (decide (a0 ≥ a1)) = true then
  (decide (a0 ≤ a2), ())
 else
  (false, ())
theorem F_spec_l1In_tot (N : Nat) (d) : F_spec_l1In N d = some (g_spec_l1In d) := by
 unfold F_spec_l1In g_spec_l1In
 first
  | rfl
  | (dsimp only; (repeat' split) <;> rfl)
noncomputable def S_spec_l1In : FSig := ⟨[(I, false), (I, false), (I, false)], [.bool], true, (fun d => some (g_spec_l1In d))⟩
noncomputable def Γ_spec_l2Before : Ctx := { tk := assoc tks, ar := assoc ars, fs := assoc [] }
noncomputable def F_spec_l2Before (N : Nat) (d : (Int × Int × Unit) × (Int × Int × Unit) × Unit) : Option (Bool × Unit) :=
 let a0 : Int × Int × Unit := d.1
 let a1 : Int × Int × Unit := d.2.1
 if (decide (a0.1 < a1.1)) = true then
  some (true, ())
 else
  if (a0.1 == a1.1) = true then
   some (decide (a0.2.1 < a1.2.1), ())
  else
   some (false, ())
theorem F_spec_l2Before_ok (N : Nat) (d) : fnR Γ_spec_l2Before (assoc []) true [(K_Piiq, false), (K_Piiq, false)] [.bool] Tryz.f82.results.toList (bodyOf Tryz.f82) d = F_spec_l2Before N d := by kernel_rfl
noncomputable def g_spec_l2Before (d : (Int × Int × Unit) × (Int × Int × Unit) × Unit) : Bool × Unit :=
 let a0 : Int × Int × Unit := d.1
 let a1 : Int × Int × Unit := d.2.1
 if (decide (a0.1 < a1.1)) = true then
  (true, ())
 else
  if (a0.1 == a1.1) = true then
   (decide (a0.2.1 < a1.2.1), ())
  else
   (false, ())
theorem F_spec_l2Before_tot (N : Nat) (d) : F_spec_l2Before N d = some (g_spec_l2Before d) := by
 unfold F_spec_l2Before g_spec_l2Before
 first
  | rfl
  | (dsimp only; (repeat' split) <;> rfl)
noncomputable def S_spec_l2Before : FSig := ⟨[(K_Piiq, false), (K_Piiq, false)], [.bool], true, (fun d => some (g_spec_l2Before d))⟩
noncomputable def Γ_spec_l2Good : Ctx := { tk := assoc tks, ar := assoc ars, fs := assoc [(77, S_spec_l1In), (82, S_spec_l2Before)] }
abbrev spec_l2Good_l0_H := (Int × (List (Int × Int × Unit)) × Unit) × Int × Unit
abbrev spec_l2Good_l0_O := (Bool × Unit) ⊕ ((Int × (List (Int × Int × Unit)) × Unit) × Unit) ⊕ Empty
def spec_l2Good_l0_h : Form := [(1, .box K_PiSPiiqq 0), (3, .v I)]
def spec_l2Good_l0_o : Outs := [(.ret, [(2, .v .bool)]), (.normal, [(1, .box K_PiSPiiqq 0)])]
noncomputable def spec_l2Good_l0_r (N : Nat) (back : spec_l2Good_l0_H → Option spec_l2Good_l0_O) (d : spec_l2Good_l0_H) : Option spec_l2Good_l0_O :=
 let s1 : Int × (List (Int × Int × Unit)) × Unit := d.1
 let s3 : Int := d.2.1
 if (decide (s3 < (List.length s1.2.1 : Int))) = true then
  if (idxIn s3 (List.length s1.2.1)) = true then
  let x13 : Int := IntKind.wrap .i64 (s1.1 - (1 : Int))
  let r14 : Bool × Unit := g_spec_l1In (((at_ K_Piiq s1.2.1 s3.toNat).1, ((0 : Int), (x13, ()))))
  if (!r14.1) = true then
   some (.inl (false, ()))
  else
   let x15 : Int := IntKind.wrap .i64 (s1.1 - (1 : Int))
   let r16 : Bool × Unit := g_spec_l1In (((at_ K_Piiq s1.2.1 s3.toNat).2.1, ((0 : Int), (x15, ()))))
   if (!r16.1) = true then
    some (.inl (false, ()))
   else
    if (decide ((at_ K_Piiq s1.2.1 s3.toNat).1 ≥ (at_ K_Piiq s1.2.1 s3.toNat).2.1)) = true then
     some (.inl (false, ()))
    else
     if (decide (s3 > (0 : Int))) = true then
      let x17 : Int := IntKind.wrap .i64 (s3 - (1 : Int))
      if (idxIn x17 (List.length s1.2.1)) = true then
      let r18 : Bool × Unit := g_spec_l2Before ((at_ K_Piiq s1.2.1 x17.toNat, (at_ K_Piiq s1.2.1 s3.toNat, ())))
      if (!r18.1) = true then
       some (.inl (false, ()))
      else
       let x19 : Int := IntKind.wrap .i64 (s3 + (1 : Int))
       back ((s1, (x19, ())))
      else none
     else
      let x20 : Int := IntKind.wrap .i64 (s3 + (1 : Int))
      back ((s1, (x20, ())))
  else none
 else
  some (.inr (.inl (s1, ())))
noncomputable def spec_l2Good_l0 (N : Nat) : Nat → spec_l2Good_l0_H → Option spec_l2Good_l0_O
 | 0, _ => none
 | k + 1, d => spec_l2Good_l0_r N (spec_l2Good_l0 N k) d
theorem spec_l2Good_l0_ok (N : Nat) (back) (d) : roundR Γ_spec_l2Good (assoc []) 0 spec_l2Good_l0_h spec_l2Good_l0_o (loopOf Tryz.f45 0) back d = spec_l2Good_l0_r N back d := by kernel_rfl
noncomputable def F_spec_l2Good (N : Nat) (d : (Int × (List (Int × Int × Unit)) × Unit) × Unit) : Option (Bool × Unit) :=
 let a0 : Int × (List (Int × Int × Unit)) × Unit := d.1
 (spec_l2Good_l0 N N ((a0, ((0 : Int), ())))).bind fun o9 => match o9 with
 | .inl d10 =>
  some (d10.1, ())
 | .inr (.inl d11) =>
  let r12 : Bool × Unit := g_spec_l1In ((d11.1.1, ((0 : Int), ((8 : Int), ()))))
  some (r12.1, ())
theorem F_spec_l2Good_ok (N : Nat) (d) : fnR Γ_spec_l2Good (assoc [(0, ⟨spec_l2Good_l0_h, spec_l2Good_l0_o, spec_l2Good_l0 N N⟩)]) true [(K_PiSPiiqq, false)] [.bool] Tryz.f45.results.toList (bodyOf Tryz.f45) d = F_spec_l2Good N d := by kernel_rfl
noncomputable def S_spec_l2Good : FSig := ⟨[(K_PiSPiiqq, false)], [.bool], true, (G_graph)⟩
noncomputable def Γ_spec_l4Field : Ctx := { tk := assoc tks, ar := assoc ars, fs := assoc [(45, S_spec_l2Good), (77, S_spec_l1In)] }
noncomputable def F_spec_l4Field (N : Nat) (d : (Int × (List (Int × Int × Unit)) × Unit) × Int × Unit) : Option (Bool × Unit) :=
 let a0 : Int × (List (Int × Int × Unit)) × Unit := d.1
 let a1 : Int := d.2.1
 (G_graph (a0, ())).bind fun r1 =>
 if (r1.1) = true then
  if (decide (a0.1 > (0 : Int))) = true then
   let r2 : Bool × Unit := g_spec_l1In ((a1, ((1 : Int), ((3 : Int), ()))))
   some (r2.1, ())
  else
   some (false, ())
 else
  some (false, ())
theorem F_spec_l4Field_ok (N : Nat) (d) : fnR Γ_spec_l4Field (assoc []) true [(K_PiSPiiqq, false), (I, false)] [.bool] Tryz.f59.results.toList (bodyOf Tryz.f59) d = F_spec_l4Field N d := by kernel_rfl
noncomputable def S_spec_l4Field : FSig := ⟨[(K_PiSPiiqq, false), (I, false)], [.bool], true, (F_spec_l4Field 0)⟩
noncomputable def Γ_spec_l2Node : Ctx := { tk := assoc tks, ar := assoc ars, fs := assoc [(77, S_spec_l1In)] }
noncomputable def F_spec_l2Node (N : Nat) (d : (Int × (List (Int × Int × Unit)) × Unit) × Int × Unit) : Option (Bool × Unit) :=
 let a0 : Int × (List (Int × Int × Unit)) × Unit := d.1
 let a1 : Int := d.2.1
 let x1 : Int := IntKind.wrap .i64 (a0.1 - (1 : Int))
 let r2 : Bool × Unit := g_spec_l1In ((a1, ((0 : Int), (x1, ()))))
 some (r2.1, ())
theorem F_spec_l2Node_ok (N : Nat) (d) : fnR Γ_spec_l2Node (assoc []) true [(K_PiSPiiqq, false), (I, false)] [.bool] Tryz.f107.results.toList (bodyOf Tryz.f107) d = F_spec_l2Node N d := by kernel_rfl
noncomputable def g_spec_l2Node (d : (Int × (List (Int × Int × Unit)) × Unit) × Int × Unit) : Bool × Unit :=
 let a0 : Int × (List (Int × Int × Unit)) × Unit := d.1
 let a1 : Int := d.2.1
 let x1 : Int := IntKind.wrap .i64 (a0.1 - (1 : Int))
 let r2 : Bool × Unit := g_spec_l1In ((a1, ((0 : Int), (x1, ()))))
 (r2.1, ())
theorem F_spec_l2Node_tot (N : Nat) (d) : F_spec_l2Node N d = some (g_spec_l2Node d) := by
 unfold F_spec_l2Node g_spec_l2Node
 first
  | rfl
  | (dsimp only; (repeat' split) <;> rfl)
noncomputable def S_spec_l2Node : FSig := ⟨[(K_PiSPiiqq, false), (I, false)], [.bool], true, (fun d => some (g_spec_l2Node d))⟩
noncomputable def Γ_spec_l4Cops : Ctx := { tk := assoc tks, ar := assoc ars, fs := assoc [(107, S_spec_l2Node)] }
abbrev spec_l4Cops_l0_H := List Int × (Int × (List (Int × Int × Unit)) × Unit) × Int × Unit
abbrev spec_l4Cops_l0_O := (Bool × Unit) ⊕ Unit ⊕ Empty
def spec_l4Cops_l0_h : Form := [(1, .v K_Si), (2, .box K_PiSPiiqq 0), (5, .v I)]
def spec_l4Cops_l0_o : Outs := [(.ret, [(4, .v .bool)]), (.normal, [])]
noncomputable def spec_l4Cops_l0_r (N : Nat) (back : spec_l4Cops_l0_H → Option spec_l4Cops_l0_O) (d : spec_l4Cops_l0_H) : Option spec_l4Cops_l0_O :=
 let s1 : List Int := d.1
 let s2 : Int × (List (Int × Int × Unit)) × Unit := d.2.1
 let s5 : Int := d.2.2.1
 if (decide (s5 < (List.length s1 : Int))) = true then
  if (idxIn s5 (List.length s1)) = true then
  let r8 : Bool × Unit := g_spec_l2Node ((s2, (at_ I s1 s5.toNat, ())))
  if (!r8.1) = true then
   some (.inl (false, ()))
  else
   if (decide (s5 > (0 : Int))) = true then
    let x9 : Int := IntKind.wrap .i64 (s5 - (1 : Int))
    if (idxIn x9 (List.length s1)) = true then
    if (idxIn s5 (List.length s1)) = true then
    if (decide (at_ I s1 x9.toNat > at_ I s1 s5.toNat)) = true then
     some (.inl (false, ()))
    else
     let x10 : Int := IntKind.wrap .i64 (s5 + (1 : Int))
     back ((s1, (s2, (x10, ()))))
    else none
    else none
   else
    let x11 : Int := IntKind.wrap .i64 (s5 + (1 : Int))
    back ((s1, (s2, (x11, ()))))
  else none
 else
  some (.inr (.inl ()))
noncomputable def spec_l4Cops_l0 (N : Nat) : Nat → spec_l4Cops_l0_H → Option spec_l4Cops_l0_O
 | 0, _ => none
 | k + 1, d => spec_l4Cops_l0_r N (spec_l4Cops_l0 N k) d
theorem spec_l4Cops_l0_ok (N : Nat) (back) (d) : roundR Γ_spec_l4Cops (assoc []) 0 spec_l4Cops_l0_h spec_l4Cops_l0_o (loopOf Tryz.f76 0) back d = spec_l4Cops_l0_r N back d := by kernel_rfl
noncomputable def F_spec_l4Cops (N : Nat) (d : (Int × (List (Int × Int × Unit)) × Unit) × List Int × Unit) : Option (Bool × Unit) :=
 let a0 : Int × (List (Int × Int × Unit)) × Unit := d.1
 let a1 : List Int := d.2.1
 (spec_l4Cops_l0 N N ((a1, (a0, ((0 : Int), ()))))).bind fun o5 => match o5 with
 | .inl d6 =>
  some (d6.1, ())
 | .inr (.inl d7) =>
  some (true, ())
theorem F_spec_l4Cops_ok (N : Nat) (d) : fnR Γ_spec_l4Cops (assoc [(0, ⟨spec_l4Cops_l0_h, spec_l4Cops_l0_o, spec_l4Cops_l0 N N⟩)]) true [(K_PiSPiiqq, false), (K_Si, false)] [.bool] Tryz.f76.results.toList (bodyOf Tryz.f76) d = F_spec_l4Cops N d := by kernel_rfl
noncomputable def S_spec_l4Cops : FSig := ⟨[(K_PiSPiiqq, false), (K_Si, false)], [.bool], true, (G_l4Cops)⟩
noncomputable def Γ_spec_l1Has : Ctx := { tk := assoc tks, ar := assoc ars, fs := assoc [] }
abbrev spec_l1Has_l0_H := List Int × Int × Int × Unit
abbrev spec_l1Has_l0_O := (Bool × Unit) ⊕ Unit ⊕ Empty
def spec_l1Has_l0_h : Form := [(0, .v K_Si), (1, .v I), (5, .v I)]
def spec_l1Has_l0_o : Outs := [(.ret, [(4, .v .bool)]), (.normal, [])]
noncomputable def spec_l1Has_l0_r (N : Nat) (back : spec_l1Has_l0_H → Option spec_l1Has_l0_O) (d : spec_l1Has_l0_H) : Option spec_l1Has_l0_O :=
 let s0 : List Int := d.1
 let s1 : Int := d.2.1
 let s5 : Int := d.2.2.1
 if (decide (s5 < (List.length s0 : Int))) = true then
  if (idxIn s5 (List.length s0)) = true then
  if (at_ I s0 s5.toNat == s1) = true then
   some (.inl (true, ()))
  else
   let x5 : Int := IntKind.wrap .i64 (s5 + (1 : Int))
   back ((s0, (s1, (x5, ()))))
  else none
 else
  some (.inr (.inl ()))
noncomputable def spec_l1Has_l0 (N : Nat) : Nat → spec_l1Has_l0_H → Option spec_l1Has_l0_O
 | 0, _ => none
 | k + 1, d => spec_l1Has_l0_r N (spec_l1Has_l0 N k) d
theorem spec_l1Has_l0_ok (N : Nat) (back) (d) : roundR Γ_spec_l1Has (assoc []) 0 spec_l1Has_l0_h spec_l1Has_l0_o (loopOf Tryz.f57 0) back d = spec_l1Has_l0_r N back d := by kernel_rfl
noncomputable def F_spec_l1Has (N : Nat) (d : List Int × Int × Unit) : Option (Bool × Unit) :=
 let a0 : List Int := d.1
 let a1 : Int := d.2.1
 (spec_l1Has_l0 N N ((a0, (a1, ((0 : Int), ()))))).bind fun o2 => match o2 with
 | .inl d3 =>
  some (d3.1, ())
 | .inr (.inl d4) =>
  some (false, ())
theorem F_spec_l1Has_ok (N : Nat) (d) : fnR Γ_spec_l1Has (assoc [(0, ⟨spec_l1Has_l0_h, spec_l1Has_l0_o, spec_l1Has_l0 N N⟩)]) true [(K_Si, false), (I, false)] [.bool] Tryz.f57.results.toList (bodyOf Tryz.f57) d = F_spec_l1Has N d := by kernel_rfl
noncomputable def S_spec_l1Has : FSig := ⟨[(K_Si, false), (I, false)], [.bool], true, (G_l1Has)⟩
noncomputable def Γ_spec_l4Meets : Ctx := { tk := assoc tks, ar := assoc ars, fs := assoc [(57, S_spec_l1Has), (59, S_spec_l4Field), (76, S_spec_l4Cops), (107, S_spec_l2Node)] }
noncomputable def F_spec_l4Meets (N : Nat) (d : (Int × (List (Int × Int × Unit)) × Unit) × List Int × Int × Unit) : Option (Bool × Unit) :=
 let a0 : Int × (List (Int × Int × Unit)) × Unit := d.1
 let a1 : List Int := d.2.1
 let a2 : Int := d.2.2.1
 ((F_spec_l4Field 0) ((a0, ((List.length a1 : Int), ())))).bind fun r1 =>
 if (r1.1) = true then
  (G_l4Cops ((a0, (a1, ())))).bind fun r2 =>
  if (r2.1) = true then
   let r3 : Bool × Unit := g_spec_l2Node ((a0, (a2, ())))
   if (r3.1) = true then
    (G_l1Has ((a1, (a2, ())))).bind fun r4 =>
    some (!r4.1, ())
   else
    some (false, ())
  else
   some (false, ())
 else
  some (false, ())
theorem F_spec_l4Meets_ok (N : Nat) (d) : fnR Γ_spec_l4Meets (assoc []) true [(K_PiSPiiqq, false), (K_Si, false), (I, false)] [.bool] Tryz.f64.results.toList (bodyOf Tryz.f64) d = F_spec_l4Meets N d := by kernel_rfl
noncomputable def S_spec_l4Meets : FSig := ⟨[(K_PiSPiiqq, false), (K_Si, false), (I, false)], [.bool], true, (F_spec_l4Meets 0)⟩
noncomputable def Γ_spec_l1Own : Ctx := { tk := assoc tks, ar := assoc ars, fs := assoc [] }
noncomputable def F_spec_l1Own (N : Nat) (d : List Int × Unit) : Option (List Int × Unit) :=
 let a0 : List Int := d.1
 if (decide (List.length ([] : List Int) + List.length a0 ≤ lim)) = true then
 some (([] : List Int) ++ a0, ())
 else none
theorem F_spec_l1Own_ok (N : Nat) (d) : fnR Γ_spec_l1Own (assoc []) true [(K_Si, false)] [K_Si] Tryz.f73.results.toList (bodyOf Tryz.f73) d = F_spec_l1Own N d := by kernel_rfl
noncomputable def S_spec_l1Own : FSig := ⟨[(K_Si, false)], [K_Si], true, (F_spec_l1Own 0)⟩
noncomputable def Γ_spec_l4Configs : Ctx := { tk := assoc tks, ar := assoc ars, fs := assoc [(73, S_spec_l1Own)] }
abbrev spec_l4Configs_l4_H := Int × Int × List (List Int) × Int × List (List Int) × Int × Int × Unit
abbrev spec_l4Configs_l4_O := (Int × Int × List (List Int) × Int × List (List Int) × Int × Unit) ⊕ Empty
def spec_l4Configs_l4_h : Form := [(0, .v I), (1, .v I), (5, .own K_SSi 100), (6, .v I), (7, .own K_SSi 100), (8, .v I), (10, .v I)]
def spec_l4Configs_l4_o : Outs := [(.normal, [(0, .v I), (1, .v I), (5, .own K_SSi 100), (6, .v I), (7, .own K_SSi 100), (8, .v I)])]
noncomputable def spec_l4Configs_l4_r (N : Nat) (back : spec_l4Configs_l4_H → Option spec_l4Configs_l4_O) (d : spec_l4Configs_l4_H) : Option spec_l4Configs_l4_O :=
 let s0 : Int := d.1
 let s1 : Int := d.2.1
 let s5 : List (List Int) := d.2.2.1
 let s6 : Int := d.2.2.2.1
 let s7 : List (List Int) := d.2.2.2.2.1
 let s8 : Int := d.2.2.2.2.2.1
 let s10 : Int := d.2.2.2.2.2.2.1
 if (decide (s10 < s0)) = true then
  if (idxIn s8 (List.length s5)) = true then
  ((F_spec_l1Own 0) (at_ K_Si s5 s8.toNat, ())).bind fun r36 =>
  if (decide (List.length r36.1 + List.length ([s10]) ≤ lim)) = true then
  if (decide (List.length s7 + List.length ([r36.1 ++ ([s10])]) ≤ lim)) = true then
  let x37 : Int := IntKind.wrap .i64 (s10 + (1 : Int))
  back ((s0, (s1, (s5, (s6, (s7 ++ ([r36.1 ++ ([s10])]), (s8, (x37, ()))))))))
  else none
  else none
  else none
 else
  some (.inl ((s0, (s1, (s5, (s6, (s7, (s8, ()))))))))
noncomputable def spec_l4Configs_l4 (N : Nat) : Nat → spec_l4Configs_l4_H → Option spec_l4Configs_l4_O
 | 0, _ => none
 | k + 1, d => spec_l4Configs_l4_r N (spec_l4Configs_l4 N k) d
theorem spec_l4Configs_l4_ok (N : Nat) (back) (d) : roundR Γ_spec_l4Configs (assoc []) 4 spec_l4Configs_l4_h spec_l4Configs_l4_o (loopOf Tryz.f102 4) back d = spec_l4Configs_l4_r N back d := by kernel_rfl
abbrev spec_l4Configs_l2_H := Int × Int × List (List Int) × Int × List (List Int) × Int × Unit
abbrev spec_l4Configs_l2_O := (Int × Int × Int × List (List Int) × Unit) ⊕ Empty
def spec_l4Configs_l2_h : Form := [(0, .v I), (1, .v I), (5, .own K_SSi 100), (6, .v I), (7, .own K_SSi 100), (8, .v I)]
def spec_l4Configs_l2_o : Outs := [(.normal, [(0, .v I), (1, .v I), (6, .v I), (7, .own K_SSi 100)])]
noncomputable def spec_l4Configs_l2_r (N : Nat) (back : spec_l4Configs_l2_H → Option spec_l4Configs_l2_O) (d : spec_l4Configs_l2_H) : Option spec_l4Configs_l2_O :=
 let s0 : Int := d.1
 let s1 : Int := d.2.1
 let s5 : List (List Int) := d.2.2.1
 let s6 : Int := d.2.2.2.1
 let s7 : List (List Int) := d.2.2.2.2.1
 let s8 : Int := d.2.2.2.2.2.1
 if (decide (s8 < (List.length s5 : Int))) = true then
  if (decide (s6 > (0 : Int))) = true then
   if (idxIn s8 (List.length s5)) = true then
   let x27 : Int := IntKind.wrap .i64 (s6 - (1 : Int))
   if (idxIn x27 (List.length (at_ K_Si s5 s8.toNat))) = true then
   (spec_l4Configs_l4 N N ((s0, (s1, (s5, (s6, (s7, (s8, (at_ I (at_ K_Si s5 s8.toNat) x27.toNat, ()))))))))).bind fun o30 => match o30 with
   | .inl d31 =>
    let x32 : Int := IntKind.wrap .i64 (d31.2.2.2.2.2.1 + (1 : Int))
    back ((d31.1, (d31.2.1, (d31.2.2.1, (d31.2.2.2.1, (d31.2.2.2.2.1, (x32, ())))))))
   else none
   else none
  else
   (spec_l4Configs_l4 N N ((s0, (s1, (s5, (s6, (s7, (s8, ((0 : Int), ()))))))))).bind fun o33 => match o33 with
   | .inl d34 =>
    let x35 : Int := IntKind.wrap .i64 (d34.2.2.2.2.2.1 + (1 : Int))
    back ((d34.1, (d34.2.1, (d34.2.2.1, (d34.2.2.2.1, (d34.2.2.2.2.1, (x35, ())))))))
 else
  some (.inl ((s0, (s1, (s6, (s7, ()))))))
noncomputable def spec_l4Configs_l2 (N : Nat) : Nat → spec_l4Configs_l2_H → Option spec_l4Configs_l2_O
 | 0, _ => none
 | k + 1, d => spec_l4Configs_l2_r N (spec_l4Configs_l2 N k) d
theorem spec_l4Configs_l2_ok (N : Nat) (back) (d) : roundR Γ_spec_l4Configs (assoc [(4, ⟨spec_l4Configs_l4_h, spec_l4Configs_l4_o, spec_l4Configs_l4 N N⟩)]) 2 spec_l4Configs_l2_h spec_l4Configs_l2_o (loopOf Tryz.f102 2) back d = spec_l4Configs_l2_r N back d := by kernel_rfl
abbrev spec_l4Configs_l0_H := Int × Int × List (List Int) × Int × Unit
abbrev spec_l4Configs_l0_O := (List (List Int) × Unit) ⊕ Empty
def spec_l4Configs_l0_h : Form := [(0, .v I), (1, .v I), (5, .own K_SSi 100), (6, .v I)]
def spec_l4Configs_l0_o : Outs := [(.normal, [(5, .own K_SSi 100)])]
noncomputable def spec_l4Configs_l0_r (N : Nat) (back : spec_l4Configs_l0_H → Option spec_l4Configs_l0_O) (d : spec_l4Configs_l0_H) : Option spec_l4Configs_l0_O :=
 let s0 : Int := d.1
 let s1 : Int := d.2.1
 let s5 : List (List Int) := d.2.2.1
 let s6 : Int := d.2.2.2.1
 if (decide (s6 < s1)) = true then
  (spec_l4Configs_l2 N N ((s0, (s1, (s5, (s6, (([] : List (List Int)), ((0 : Int), ())))))))).bind fun o24 => match o24 with
  | .inl d25 =>
   let x26 : Int := IntKind.wrap .i64 (d25.2.2.1 + (1 : Int))
   back ((d25.1, (d25.2.1, (d25.2.2.2.1, (x26, ())))))
 else
  some (.inl (s5, ()))
noncomputable def spec_l4Configs_l0 (N : Nat) : Nat → spec_l4Configs_l0_H → Option spec_l4Configs_l0_O
 | 0, _ => none
 | k + 1, d => spec_l4Configs_l0_r N (spec_l4Configs_l0 N k) d
theorem spec_l4Configs_l0_ok (N : Nat) (back) (d) : roundR Γ_spec_l4Configs (assoc [(2, ⟨spec_l4Configs_l2_h, spec_l4Configs_l2_o, spec_l4Configs_l2 N N⟩)]) 0 spec_l4Configs_l0_h spec_l4Configs_l0_o (loopOf Tryz.f102 0) back d = spec_l4Configs_l0_r N back d := by kernel_rfl
noncomputable def F_spec_l4Configs (N : Nat) (d : Int × Int × Unit) : Option (List (List Int) × Unit) :=
 let a0 : Int := d.1
 let a1 : Int := d.2.1
 (spec_l4Configs_l0 N N ((a0, (a1, ([([] : List Int)], ((0 : Int), ())))))).bind fun o13 => match o13 with
 | .inl d14 =>
  some (d14.1, ())
theorem F_spec_l4Configs_ok (N : Nat) (d) : fnR Γ_spec_l4Configs (assoc [(0, ⟨spec_l4Configs_l0_h, spec_l4Configs_l0_o, spec_l4Configs_l0 N N⟩)]) true [(I, false), (I, false)] [K_SSi] Tryz.f102.results.toList (bodyOf Tryz.f102) d = F_spec_l4Configs N d := by kernel_rfl
noncomputable def S_spec_l4Configs : FSig := ⟨[(I, false), (I, false)], [K_SSi], true, (G_configs)⟩
noncomputable def Γ_spec_l2Near : Ctx := { tk := assoc tks, ar := assoc ars, fs := assoc [] }
abbrev spec_l2Near_l0_H := Int × Int × (Int × (List (Int × Int × Unit)) × Unit) × Int × Unit
abbrev spec_l2Near_l0_O := (Bool × Unit) ⊕ Unit ⊕ Empty
def spec_l2Near_l0_h : Form := [(1, .v I), (2, .v I), (3, .box K_PiSPiiqq 0), (7, .v I)]
def spec_l2Near_l0_o : Outs := [(.ret, [(6, .v .bool)]), (.normal, [])]
noncomputable def spec_l2Near_l0_r (N : Nat) (back : spec_l2Near_l0_H → Option spec_l2Near_l0_O) (d : spec_l2Near_l0_H) : Option spec_l2Near_l0_O :=
 let s1 : Int := d.1
 let s2 : Int := d.2.1
 let s3 : Int × (List (Int × Int × Unit)) × Unit := d.2.2.1
 let s7 : Int := d.2.2.2.1
 if (decide (s7 < (List.length s3.2.1 : Int))) = true then
  if (idxIn s7 (List.length s3.2.1)) = true then
  if ((at_ K_Piiq s3.2.1 s7.toNat).1 == s1) = true then
   if ((at_ K_Piiq s3.2.1 s7.toNat).2.1 == s2) = true then
    some (.inl (true, ()))
   else
    if ((at_ K_Piiq s3.2.1 s7.toNat).1 == s2) = true then
     if ((at_ K_Piiq s3.2.1 s7.toNat).2.1 == s1) = true then
      some (.inl (true, ()))
     else
      let x8 : Int := IntKind.wrap .i64 (s7 + (1 : Int))
      back ((s1, (s2, (s3, (x8, ())))))
    else
     let x9 : Int := IntKind.wrap .i64 (s7 + (1 : Int))
     back ((s1, (s2, (s3, (x9, ())))))
  else
   if ((at_ K_Piiq s3.2.1 s7.toNat).1 == s2) = true then
    if ((at_ K_Piiq s3.2.1 s7.toNat).2.1 == s1) = true then
     some (.inl (true, ()))
    else
     let x10 : Int := IntKind.wrap .i64 (s7 + (1 : Int))
     back ((s1, (s2, (s3, (x10, ())))))
   else
    let x11 : Int := IntKind.wrap .i64 (s7 + (1 : Int))
    back ((s1, (s2, (s3, (x11, ())))))
  else none
 else
  some (.inr (.inl ()))
noncomputable def spec_l2Near_l0 (N : Nat) : Nat → spec_l2Near_l0_H → Option spec_l2Near_l0_O
 | 0, _ => none
 | k + 1, d => spec_l2Near_l0_r N (spec_l2Near_l0 N k) d
theorem spec_l2Near_l0_ok (N : Nat) (back) (d) : roundR Γ_spec_l2Near (assoc []) 0 spec_l2Near_l0_h spec_l2Near_l0_o (loopOf Tryz.f124 0) back d = spec_l2Near_l0_r N back d := by kernel_rfl
noncomputable def F_spec_l2Near (N : Nat) (d : (Int × (List (Int × Int × Unit)) × Unit) × Int × Int × Unit) : Option (Bool × Unit) :=
 let a0 : Int × (List (Int × Int × Unit)) × Unit := d.1
 let a1 : Int := d.2.1
 let a2 : Int := d.2.2.1
 (spec_l2Near_l0 N N ((a1, (a2, (a0, ((0 : Int), ())))))).bind fun o5 => match o5 with
 | .inl d6 =>
  some (d6.1, ())
 | .inr (.inl d7) =>
  some (false, ())
theorem F_spec_l2Near_ok (N : Nat) (d) : fnR Γ_spec_l2Near (assoc [(0, ⟨spec_l2Near_l0_h, spec_l2Near_l0_o, spec_l2Near_l0 N N⟩)]) true [(K_PiSPiiqq, false), (I, false), (I, false)] [.bool] Tryz.f124.results.toList (bodyOf Tryz.f124) d = F_spec_l2Near N d := by kernel_rfl
noncomputable def S_spec_l2Near : FSig := ⟨[(K_PiSPiiqq, false), (I, false), (I, false)], [.bool], true, (G_l2Near)⟩
noncomputable def Γ_spec_l2Neighbors : Ctx := { tk := assoc tks, ar := assoc ars, fs := assoc [(124, S_spec_l2Near)] }
abbrev spec_l2Neighbors_l0_H := Int × (Int × (List (Int × Int × Unit)) × Unit) × List Int × Int × Unit
abbrev spec_l2Neighbors_l0_O := (List Int × Unit) ⊕ Empty
def spec_l2Neighbors_l0_h : Form := [(1, .v I), (2, .box K_PiSPiiqq 0), (5, .own K_Si 99), (6, .v I)]
def spec_l2Neighbors_l0_o : Outs := [(.normal, [(5, .own K_Si 99)])]
noncomputable def spec_l2Neighbors_l0_r (N : Nat) (back : spec_l2Neighbors_l0_H → Option spec_l2Neighbors_l0_O) (d : spec_l2Neighbors_l0_H) : Option spec_l2Neighbors_l0_O :=
 let s1 : Int := d.1
 let s2 : Int × (List (Int × Int × Unit)) × Unit := d.2.1
 let s5 : List Int := d.2.2.1
 let s6 : Int := d.2.2.2.1
 if (decide (s6 < s2.1)) = true then
  (G_l2Near ((s2, (s1, (s6, ()))))).bind fun r6 =>
  if (r6.1) = true then
   if (decide (List.length s5 + List.length ([s6]) ≤ lim)) = true then
   let x7 : Int := IntKind.wrap .i64 (s6 + (1 : Int))
   back ((s1, (s2, (s5 ++ ([s6]), (x7, ())))))
   else none
  else
   let x8 : Int := IntKind.wrap .i64 (s6 + (1 : Int))
   back ((s1, (s2, (s5, (x8, ())))))
 else
  some (.inl (s5, ()))
noncomputable def spec_l2Neighbors_l0 (N : Nat) : Nat → spec_l2Neighbors_l0_H → Option spec_l2Neighbors_l0_O
 | 0, _ => none
 | k + 1, d => spec_l2Neighbors_l0_r N (spec_l2Neighbors_l0 N k) d
theorem spec_l2Neighbors_l0_ok (N : Nat) (back) (d) : roundR Γ_spec_l2Neighbors (assoc []) 0 spec_l2Neighbors_l0_h spec_l2Neighbors_l0_o (loopOf Tryz.f98 0) back d = spec_l2Neighbors_l0_r N back d := by kernel_rfl
noncomputable def F_spec_l2Neighbors (N : Nat) (d : (Int × (List (Int × Int × Unit)) × Unit) × Int × Unit) : Option (List Int × Unit) :=
 let a0 : Int × (List (Int × Int × Unit)) × Unit := d.1
 let a1 : Int := d.2.1
 (spec_l2Neighbors_l0 N N ((a1, (a0, (([] : List Int), ((0 : Int), ())))))).bind fun o4 => match o4 with
 | .inl d5 =>
  some (d5.1, ())
theorem F_spec_l2Neighbors_ok (N : Nat) (d) : fnR Γ_spec_l2Neighbors (assoc [(0, ⟨spec_l2Neighbors_l0_h, spec_l2Neighbors_l0_o, spec_l2Neighbors_l0 N N⟩)]) true [(K_PiSPiiqq, false), (I, false)] [K_Si] Tryz.f98.results.toList (bodyOf Tryz.f98) d = F_spec_l2Neighbors N d := by kernel_rfl
noncomputable def S_spec_l2Neighbors : FSig := ⟨[(K_PiSPiiqq, false), (I, false)], [K_Si], true, (G_l2Neighbors)⟩
noncomputable def Γ_spec_l1Put : Ctx := { tk := assoc tks, ar := assoc ars, fs := assoc [] }
abbrev spec_l1Put_l0_H := List Int × Int × Int × Unit
abbrev spec_l1Put_l0_O := (List Int × Int × Int × Unit) ⊕ Empty
def spec_l1Put_l0_h : Form := [(0, .v K_Si), (1, .v I), (5, .v I)]
def spec_l1Put_l0_o : Outs := [(.normal, [(0, .v K_Si), (1, .v I), (5, .v I)])]
noncomputable def spec_l1Put_l0_r (N : Nat) (back : spec_l1Put_l0_H → Option spec_l1Put_l0_O) (d : spec_l1Put_l0_H) : Option spec_l1Put_l0_O :=
 let s0 : List Int := d.1
 let s1 : Int := d.2.1
 let s5 : Int := d.2.2.1
 if (decide (s5 < (List.length s0 : Int))) = true then
  if (idxIn s5 (List.length s0)) = true then
  if (decide (at_ I s0 s5.toNat < s1)) = true then
   let x11 : Int := IntKind.wrap .i64 (s5 + (1 : Int))
   back ((s0, (s1, (x11, ()))))
  else
   some (.inl ((s0, (s1, (s5, ())))))
  else none
 else
  some (.inl ((s0, (s1, (s5, ())))))
noncomputable def spec_l1Put_l0 (N : Nat) : Nat → spec_l1Put_l0_H → Option spec_l1Put_l0_O
 | 0, _ => none
 | k + 1, d => spec_l1Put_l0_r N (spec_l1Put_l0 N k) d
theorem spec_l1Put_l0_ok (N : Nat) (back) (d) : roundR Γ_spec_l1Put (assoc []) 0 spec_l1Put_l0_h spec_l1Put_l0_o (loopOf Tryz.f97 0) back d = spec_l1Put_l0_r N back d := by kernel_rfl
noncomputable def F_spec_l1Put (N : Nat) (d : List Int × Int × Unit) : Option (List Int × Unit) :=
 let a0 : List Int := d.1
 let a1 : Int := d.2.1
 (spec_l1Put_l0 N N ((a0, (a1, ((0 : Int), ()))))).bind fun o5 => match o5 with
 | .inl d6 =>
  if (decide (d6.2.2.1 < (List.length d6.1 : Int))) = true then
   if (idxIn d6.2.2.1 (List.length d6.1)) = true then
   if (at_ I d6.1 d6.2.2.1.toNat == d6.2.1) = true then
    some (d6.1, ())
   else
    if ((decide (0 ≤ (0 : Int)) && decide ((0 : Int) ≤ d6.2.2.1) && decide (d6.2.2.1 ≤ (List.length d6.1 : Int)))) = true then
    if (decide (List.length ([] : List Int) + List.length (sub_ d6.1 (0 : Int) d6.2.2.1) ≤ lim)) = true then
    let x7 : List Int := ([] : List Int) ++ (sub_ d6.1 (0 : Int) d6.2.2.1)
    if (decide (List.length x7 + List.length ([d6.2.1]) ≤ lim)) = true then
    if ((decide (0 ≤ d6.2.2.1) && decide (d6.2.2.1 ≤ (List.length d6.1 : Int)) && decide ((List.length d6.1 : Int) ≤ (List.length d6.1 : Int)))) = true then
    let x8 : List Int := sub_ d6.1 d6.2.2.1 (List.length d6.1 : Int)
    if (decide (List.length (x7 ++ ([d6.2.1])) + List.length x8 ≤ lim)) = true then
    some (((x7 ++ ([d6.2.1])) ++ x8, ()))
    else none
    else none
    else none
    else none
    else none
   else none
  else
   if ((decide (0 ≤ (0 : Int)) && decide ((0 : Int) ≤ d6.2.2.1) && decide (d6.2.2.1 ≤ (List.length d6.1 : Int)))) = true then
   if (decide (List.length ([] : List Int) + List.length (sub_ d6.1 (0 : Int) d6.2.2.1) ≤ lim)) = true then
   let x9 : List Int := ([] : List Int) ++ (sub_ d6.1 (0 : Int) d6.2.2.1)
   if (decide (List.length x9 + List.length ([d6.2.1]) ≤ lim)) = true then
   if ((decide (0 ≤ d6.2.2.1) && decide (d6.2.2.1 ≤ (List.length d6.1 : Int)) && decide ((List.length d6.1 : Int) ≤ (List.length d6.1 : Int)))) = true then
   let x10 : List Int := sub_ d6.1 d6.2.2.1 (List.length d6.1 : Int)
   if (decide (List.length (x9 ++ ([d6.2.1])) + List.length x10 ≤ lim)) = true then
   some (((x9 ++ ([d6.2.1])) ++ x10, ()))
   else none
   else none
   else none
   else none
   else none
theorem F_spec_l1Put_ok (N : Nat) (d) : fnR Γ_spec_l1Put (assoc [(0, ⟨spec_l1Put_l0_h, spec_l1Put_l0_o, spec_l1Put_l0 N N⟩)]) false [(K_Si, false), (I, false)] [K_Si] Tryz.f97.results.toList (bodyOf Tryz.f97) d = F_spec_l1Put N d := by kernel_rfl
noncomputable def S_spec_l1Put : FSig := ⟨[(K_Si, false), (I, false)], [K_Si], false, (G_l1Put)⟩
noncomputable def Γ_spec_l2Ball : Ctx := { tk := assoc tks, ar := assoc ars, fs := assoc [(97, S_spec_l1Put), (98, S_spec_l2Neighbors)] }
noncomputable def F_spec_l2Ball (N : Nat) (d : (Int × (List (Int × Int × Unit)) × Unit) × Int × Unit) : Option (List Int × Unit) :=
 let a0 : Int × (List (Int × Int × Unit)) × Unit := d.1
 let a1 : Int := d.2.1
 (G_l2Neighbors ((a0, (a1, ())))).bind fun r3 =>
 (G_l1Put ((r3.1, (a1, ())))).bind fun r4 =>
 some (r4.1, ())
theorem F_spec_l2Ball_ok (N : Nat) (d) : fnR Γ_spec_l2Ball (assoc []) false [(K_PiSPiiqq, false), (I, false)] [K_Si] Tryz.f56.results.toList (bodyOf Tryz.f56) d = F_spec_l2Ball N d := by kernel_rfl
noncomputable def S_spec_l2Ball : FSig := ⟨[(K_PiSPiiqq, false), (I, false)], [K_Si], false, (F_spec_l2Ball 0)⟩
noncomputable def Γ_spec_l4Sorted : Ctx := { tk := assoc tks, ar := assoc ars, fs := assoc [], dm := fun t => Nat.beq t 3, cs := assoc [] }
abbrev spec_l4Sorted_l2_H := List Int × List Int × Int × Int × Unit
abbrev spec_l4Sorted_l2_O := (List Int × List Int × Int × Int × Unit) ⊕ Empty
def spec_l4Sorted_l2_h : Form := [(0, .v K_Si), (3, .v K_Si), (4, .v I), (5, .v I)]
def spec_l4Sorted_l2_o : Outs := [(.normal, [(0, .v K_Si), (3, .v K_Si), (4, .v I), (5, .v I)])]
noncomputable def spec_l4Sorted_l2_r (N : Nat) (back : spec_l4Sorted_l2_H → Option spec_l4Sorted_l2_O) (d : spec_l4Sorted_l2_H) : Option spec_l4Sorted_l2_O :=
 let s0 : List Int := d.1
 let s3 : List Int := d.2.1
 let s4 : Int := d.2.2.1
 let s5 : Int := d.2.2.2.1
 if (decide (s5 < (List.length s3 : Int))) = true then
  if (idxIn s5 (List.length s3)) = true then
  if (idxIn s4 (List.length s0)) = true then
  if (decide (at_ I s3 s5.toNat ≤ at_ I s0 s4.toNat)) = true then
   let x26 : Int := IntKind.wrap .i64 (s5 + (1 : Int))
   back ((s0, (s3, (s4, (x26, ())))))
  else
   some (.inl ((s0, (s3, (s4, (s5, ()))))))
  else none
  else none
 else
  some (.inl ((s0, (s3, (s4, (s5, ()))))))
noncomputable def spec_l4Sorted_l2 (N : Nat) : Nat → spec_l4Sorted_l2_H → Option spec_l4Sorted_l2_O
 | 0, _ => none
 | k + 1, d => spec_l4Sorted_l2_r N (spec_l4Sorted_l2 N k) d
theorem spec_l4Sorted_l2_ok (N : Nat) (back) (d) : roundR Γ_spec_l4Sorted (assoc []) 2 spec_l4Sorted_l2_h spec_l4Sorted_l2_o (loopOf Tryz.f118 2) back d = spec_l4Sorted_l2_r N back d := by kernel_rfl
abbrev spec_l4Sorted_l0_H := List Int × List Int × Int × Unit
abbrev spec_l4Sorted_l0_O := (List Int × Unit) ⊕ Empty
def spec_l4Sorted_l0_h : Form := [(0, .v K_Si), (3, .v K_Si), (4, .v I)]
def spec_l4Sorted_l0_o : Outs := [(.normal, [(3, .v K_Si)])]
noncomputable def spec_l4Sorted_l0_r (N : Nat) (back : spec_l4Sorted_l0_H → Option spec_l4Sorted_l0_O) (d : spec_l4Sorted_l0_H) : Option spec_l4Sorted_l0_O :=
 let s0 : List Int := d.1
 let s3 : List Int := d.2.1
 let s4 : Int := d.2.2.1
 if (decide (s4 < (List.length s0 : Int))) = true then
  (spec_l4Sorted_l2 N N ((s0, (s3, (s4, ((0 : Int), ())))))).bind fun o20 => match o20 with
  | .inl d21 =>
   if ((decide (0 ≤ (0 : Int)) && decide ((0 : Int) ≤ d21.2.2.2.1) && decide (d21.2.2.2.1 ≤ (List.length d21.2.1 : Int)))) = true then
   let x22 : List Int := sub_ d21.2.1 (0 : Int) d21.2.2.2.1
   if (decide (List.length ([] : List Int) + List.length x22 ≤ lim)) = true then
   if (idxIn d21.2.2.1 (List.length d21.1)) = true then
   if (decide (List.length (([] : List Int) ++ x22) + List.length ([at_ I d21.1 d21.2.2.1.toNat]) ≤ lim)) = true then
   let x23 : List Int := (([] : List Int) ++ x22) ++ ([at_ I d21.1 d21.2.2.1.toNat])
   if ((decide (0 ≤ d21.2.2.2.1) && decide (d21.2.2.2.1 ≤ (List.length d21.2.1 : Int)) && decide ((List.length d21.2.1 : Int) ≤ (List.length d21.2.1 : Int)))) = true then
   let x24 : List Int := sub_ d21.2.1 d21.2.2.2.1 (List.length d21.2.1 : Int)
   if (decide (List.length x23 + List.length x24 ≤ lim)) = true then
   let x25 : Int := IntKind.wrap .i64 (d21.2.2.1 + (1 : Int))
   back ((d21.1, (x23 ++ x24, (x25, ()))))
   else none
   else none
   else none
   else none
   else none
   else none
 else
  some (.inl (s3, ()))
noncomputable def spec_l4Sorted_l0 (N : Nat) : Nat → spec_l4Sorted_l0_H → Option spec_l4Sorted_l0_O
 | 0, _ => none
 | k + 1, d => spec_l4Sorted_l0_r N (spec_l4Sorted_l0 N k) d
theorem spec_l4Sorted_l0_ok (N : Nat) (back) (d) : roundR Γ_spec_l4Sorted (assoc [(2, ⟨spec_l4Sorted_l2_h, spec_l4Sorted_l2_o, spec_l4Sorted_l2 N N⟩)]) 0 spec_l4Sorted_l0_h spec_l4Sorted_l0_o (loopOf Tryz.f118 0) back d = spec_l4Sorted_l0_r N back d := by kernel_rfl
noncomputable def F_spec_l4Sorted (N : Nat) (d : List Int × Unit) : Option (List Int × Unit) :=
 let a0 : List Int := d.1
 (spec_l4Sorted_l0 N N ((a0, (([] : List Int), ((0 : Int), ()))))).bind fun o17 => match o17 with
 | .inl d18 =>
  some (d18.1, ())
theorem F_spec_l4Sorted_ok (N : Nat) (d) : fnR Γ_spec_l4Sorted (assoc [(0, ⟨spec_l4Sorted_l0_h, spec_l4Sorted_l0_o, spec_l4Sorted_l0 N N⟩)]) false [(K_Si, false)] [K_Si] Tryz.f118.results.toList (bodyOf Tryz.f118) d = F_spec_l4Sorted N d := by kernel_rfl
noncomputable def S_spec_l4Sorted : FSig := ⟨[(K_Si, false)], [K_Si], false, (G_l4Sorted)⟩
noncomputable def Γ_spec_l4Less : Ctx := { tk := assoc tks, ar := assoc ars, fs := assoc [] }
abbrev spec_l4Less_l0_H := List Int × List Int × Int × Unit
abbrev spec_l4Less_l0_O := (Bool × Unit) ⊕ Unit ⊕ Empty
def spec_l4Less_l0_h : Form := [(0, .v K_Si), (1, .v K_Si), (5, .v I)]
def spec_l4Less_l0_o : Outs := [(.ret, [(4, .v .bool)]), (.normal, [])]
noncomputable def spec_l4Less_l0_r (N : Nat) (back : spec_l4Less_l0_H → Option spec_l4Less_l0_O) (d : spec_l4Less_l0_H) : Option spec_l4Less_l0_O :=
 let s0 : List Int := d.1
 let s1 : List Int := d.2.1
 let s5 : Int := d.2.2.1
 if (decide (s5 < (List.length s0 : Int))) = true then
  if (idxIn s5 (List.length s0)) = true then
  if (idxIn s5 (List.length s1)) = true then
  if (at_ I s0 s5.toNat != at_ I s1 s5.toNat) = true then
   if (idxIn s5 (List.length s0)) = true then
   if (idxIn s5 (List.length s1)) = true then
   some (.inl (decide (at_ I s0 s5.toNat < at_ I s1 s5.toNat), ()))
   else none
   else none
  else
   let x5 : Int := IntKind.wrap .i64 (s5 + (1 : Int))
   back ((s0, (s1, (x5, ()))))
  else none
  else none
 else
  some (.inr (.inl ()))
noncomputable def spec_l4Less_l0 (N : Nat) : Nat → spec_l4Less_l0_H → Option spec_l4Less_l0_O
 | 0, _ => none
 | k + 1, d => spec_l4Less_l0_r N (spec_l4Less_l0 N k) d
theorem spec_l4Less_l0_ok (N : Nat) (back) (d) : roundR Γ_spec_l4Less (assoc []) 0 spec_l4Less_l0_h spec_l4Less_l0_o (loopOf Tryz.f131 0) back d = spec_l4Less_l0_r N back d := by kernel_rfl
noncomputable def F_spec_l4Less (N : Nat) (d : List Int × List Int × Unit) : Option (Bool × Unit) :=
 let a0 : List Int := d.1
 let a1 : List Int := d.2.1
 (spec_l4Less_l0 N N ((a0, (a1, ((0 : Int), ()))))).bind fun o2 => match o2 with
 | .inl d3 =>
  some (d3.1, ())
 | .inr (.inl d4) =>
  some (false, ())
theorem F_spec_l4Less_ok (N : Nat) (d) : fnR Γ_spec_l4Less (assoc [(0, ⟨spec_l4Less_l0_h, spec_l4Less_l0_o, spec_l4Less_l0 N N⟩)]) true [(K_Si, false), (K_Si, false)] [.bool] Tryz.f131.results.toList (bodyOf Tryz.f131) d = F_spec_l4Less N d := by kernel_rfl
noncomputable def S_spec_l4Less : FSig := ⟨[(K_Si, false), (K_Si, false)], [.bool], true, (G_l4Less)⟩
noncomputable def Γ_spec_l1Same : Ctx := { tk := assoc tks, ar := assoc ars, fs := assoc [] }
abbrev spec_l1Same_l0_H := List Int × List Int × Int × Unit
abbrev spec_l1Same_l0_O := (Bool × Unit) ⊕ Unit ⊕ Empty
def spec_l1Same_l0_h : Form := [(0, .v K_Si), (1, .v K_Si), (5, .v I)]
def spec_l1Same_l0_o : Outs := [(.ret, [(4, .v .bool)]), (.normal, [])]
noncomputable def spec_l1Same_l0_r (N : Nat) (back : spec_l1Same_l0_H → Option spec_l1Same_l0_O) (d : spec_l1Same_l0_H) : Option spec_l1Same_l0_O :=
 let s0 : List Int := d.1
 let s1 : List Int := d.2.1
 let s5 : Int := d.2.2.1
 if (decide (s5 < (List.length s0 : Int))) = true then
  if (idxIn s5 (List.length s0)) = true then
  if (idxIn s5 (List.length s1)) = true then
  if (at_ I s0 s5.toNat != at_ I s1 s5.toNat) = true then
   some (.inl (false, ()))
  else
   let x5 : Int := IntKind.wrap .i64 (s5 + (1 : Int))
   back ((s0, (s1, (x5, ()))))
  else none
  else none
 else
  some (.inr (.inl ()))
noncomputable def spec_l1Same_l0 (N : Nat) : Nat → spec_l1Same_l0_H → Option spec_l1Same_l0_O
 | 0, _ => none
 | k + 1, d => spec_l1Same_l0_r N (spec_l1Same_l0 N k) d
theorem spec_l1Same_l0_ok (N : Nat) (back) (d) : roundR Γ_spec_l1Same (assoc []) 0 spec_l1Same_l0_h spec_l1Same_l0_o (loopOf Tryz.f108 0) back d = spec_l1Same_l0_r N back d := by kernel_rfl
noncomputable def F_spec_l1Same (N : Nat) (d : List Int × List Int × Unit) : Option (Bool × Unit) :=
 let a0 : List Int := d.1
 let a1 : List Int := d.2.1
 if ((List.length a0 : Int) != (List.length a1 : Int)) = true then
  some (false, ())
 else
  (spec_l1Same_l0 N N ((a0, (a1, ((0 : Int), ()))))).bind fun o2 => match o2 with
  | .inl d3 =>
   some (d3.1, ())
  | .inr (.inl d4) =>
   some (true, ())
theorem F_spec_l1Same_ok (N : Nat) (d) : fnR Γ_spec_l1Same (assoc [(0, ⟨spec_l1Same_l0_h, spec_l1Same_l0_o, spec_l1Same_l0 N N⟩)]) true [(K_Si, false), (K_Si, false)] [.bool] Tryz.f108.results.toList (bodyOf Tryz.f108) d = F_spec_l1Same N d := by kernel_rfl
noncomputable def S_spec_l1Same : FSig := ⟨[(K_Si, false), (K_Si, false)], [.bool], true, (G_l1Same)⟩
noncomputable def Γ_spec_l4Put : Ctx := { tk := assoc tks, ar := assoc ars, fs := assoc [(108, S_spec_l1Same), (131, S_spec_l4Less)] }
abbrev spec_l4Put_l0_H := List (List Int) × List Int × Int × Unit
abbrev spec_l4Put_l0_O := (List (List Int) × List Int × Int × Unit) ⊕ Empty
def spec_l4Put_l0_h : Form := [(0, .v K_SSi), (1, .v K_Si), (5, .v I)]
def spec_l4Put_l0_o : Outs := [(.normal, [(0, .v K_SSi), (1, .v K_Si), (5, .v I)])]
noncomputable def spec_l4Put_l0_r (N : Nat) (back : spec_l4Put_l0_H → Option spec_l4Put_l0_O) (d : spec_l4Put_l0_H) : Option spec_l4Put_l0_O :=
 let s0 : List (List Int) := d.1
 let s1 : List Int := d.2.1
 let s5 : Int := d.2.2.1
 if (decide (s5 < (List.length s0 : Int))) = true then
  if (idxIn s5 (List.length s0)) = true then
  (G_l4Less ((at_ K_Si s0 s5.toNat, (s1, ())))).bind fun r15 =>
  if (r15.1) = true then
   let x16 : Int := IntKind.wrap .i64 (s5 + (1 : Int))
   back ((s0, (s1, (x16, ()))))
  else
   some (.inl ((s0, (s1, (s5, ())))))
  else none
 else
  some (.inl ((s0, (s1, (s5, ())))))
noncomputable def spec_l4Put_l0 (N : Nat) : Nat → spec_l4Put_l0_H → Option spec_l4Put_l0_O
 | 0, _ => none
 | k + 1, d => spec_l4Put_l0_r N (spec_l4Put_l0 N k) d
theorem spec_l4Put_l0_ok (N : Nat) (back) (d) : roundR Γ_spec_l4Put (assoc []) 0 spec_l4Put_l0_h spec_l4Put_l0_o (loopOf Tryz.f117 0) back d = spec_l4Put_l0_r N back d := by kernel_rfl
noncomputable def F_spec_l4Put (N : Nat) (d : List (List Int) × List Int × Unit) : Option (List (List Int) × Unit) :=
 let a0 : List (List Int) := d.1
 let a1 : List Int := d.2.1
 (spec_l4Put_l0 N N ((a0, (a1, ((0 : Int), ()))))).bind fun o8 => match o8 with
 | .inl d9 =>
  if (decide (d9.2.2.1 < (List.length d9.1 : Int))) = true then
   if (idxIn d9.2.2.1 (List.length d9.1)) = true then
   (G_l1Same ((at_ K_Si d9.1 d9.2.2.1.toNat, (d9.2.1, ())))).bind fun r10 =>
   if (r10.1) = true then
    some (d9.1, ())
   else
    if ((decide (0 ≤ (0 : Int)) && decide ((0 : Int) ≤ d9.2.2.1) && decide (d9.2.2.1 ≤ (List.length d9.1 : Int)))) = true then
    if (decide (List.length ([] : List (List Int)) + List.length (sub_ d9.1 (0 : Int) d9.2.2.1) ≤ lim)) = true then
    let x11 : List (List Int) := ([] : List (List Int)) ++ (sub_ d9.1 (0 : Int) d9.2.2.1)
    if (decide (List.length x11 + List.length ([d9.2.1]) ≤ lim)) = true then
    if ((decide (0 ≤ d9.2.2.1) && decide (d9.2.2.1 ≤ (List.length d9.1 : Int)) && decide ((List.length d9.1 : Int) ≤ (List.length d9.1 : Int)))) = true then
    let x12 : List (List Int) := sub_ d9.1 d9.2.2.1 (List.length d9.1 : Int)
    if (decide (List.length (x11 ++ ([d9.2.1])) + List.length x12 ≤ lim)) = true then
    some (((x11 ++ ([d9.2.1])) ++ x12, ()))
    else none
    else none
    else none
    else none
    else none
   else none
  else
   if ((decide (0 ≤ (0 : Int)) && decide ((0 : Int) ≤ d9.2.2.1) && decide (d9.2.2.1 ≤ (List.length d9.1 : Int)))) = true then
   if (decide (List.length ([] : List (List Int)) + List.length (sub_ d9.1 (0 : Int) d9.2.2.1) ≤ lim)) = true then
   let x13 : List (List Int) := ([] : List (List Int)) ++ (sub_ d9.1 (0 : Int) d9.2.2.1)
   if (decide (List.length x13 + List.length ([d9.2.1]) ≤ lim)) = true then
   if ((decide (0 ≤ d9.2.2.1) && decide (d9.2.2.1 ≤ (List.length d9.1 : Int)) && decide ((List.length d9.1 : Int) ≤ (List.length d9.1 : Int)))) = true then
   let x14 : List (List Int) := sub_ d9.1 d9.2.2.1 (List.length d9.1 : Int)
   if (decide (List.length (x13 ++ ([d9.2.1])) + List.length x14 ≤ lim)) = true then
   some (((x13 ++ ([d9.2.1])) ++ x14, ()))
   else none
   else none
   else none
   else none
   else none
theorem F_spec_l4Put_ok (N : Nat) (d) : fnR Γ_spec_l4Put (assoc [(0, ⟨spec_l4Put_l0_h, spec_l4Put_l0_o, spec_l4Put_l0 N N⟩)]) false [(K_SSi, false), (K_Si, false)] [K_SSi] Tryz.f117.results.toList (bodyOf Tryz.f117) d = F_spec_l4Put N d := by kernel_rfl
noncomputable def S_spec_l4Put : FSig := ⟨[(K_SSi, false), (K_Si, false)], [K_SSi], false, (G_l4Put)⟩
noncomputable def Γ_spec_l4Moves : Ctx := { tk := assoc tks, ar := assoc ars, fs := assoc [(56, S_spec_l2Ball), (73, S_spec_l1Own), (117, S_spec_l4Put), (118, S_spec_l4Sorted)], dm := fun t => Nat.beq t 5 || Nat.beq t 11, cs := assoc [] }
abbrev spec_l4Moves_l4_H := List Int × (Int × (List (Int × Int × Unit)) × Unit) × List (List Int) × Int × List (List Int) × List Int × Int × Int × Unit
abbrev spec_l4Moves_l4_O := (List Int × (Int × (List (Int × Int × Unit)) × Unit) × List (List Int) × Int × List (List Int) × List Int × Int × Unit) ⊕ Empty
def spec_l4Moves_l4_h : Form := [(1, .v K_Si), (2, .box K_PiSPiiqq 0), (5, .v K_SSi), (6, .v I), (7, .own K_SSi 100), (8, .v K_Si), (9, .v I), (10, .v I)]
def spec_l4Moves_l4_o : Outs := [(.normal, [(1, .v K_Si), (2, .box K_PiSPiiqq 0), (5, .v K_SSi), (6, .v I), (7, .own K_SSi 100), (8, .v K_Si), (9, .v I)])]
noncomputable def spec_l4Moves_l4_r (N : Nat) (back : spec_l4Moves_l4_H → Option spec_l4Moves_l4_O) (d : spec_l4Moves_l4_H) : Option spec_l4Moves_l4_O :=
 let s1 : List Int := d.1
 let s2 : Int × (List (Int × Int × Unit)) × Unit := d.2.1
 let s5 : List (List Int) := d.2.2.1
 let s6 : Int := d.2.2.2.1
 let s7 : List (List Int) := d.2.2.2.2.1
 let s8 : List Int := d.2.2.2.2.2.1
 let s9 : Int := d.2.2.2.2.2.2.1
 let s10 : Int := d.2.2.2.2.2.2.2.1
 if (decide (s10 < (List.length s8 : Int))) = true then
  if (idxIn s9 (List.length s5)) = true then
  ((F_spec_l1Own 0) (at_ K_Si s5 s9.toNat, ())).bind fun r51 =>
  if (idxIn s10 (List.length s8)) = true then
  if (decide (List.length r51.1 + List.length ([at_ I s8 s10.toNat]) ≤ lim)) = true then
  let x52 : List Int := r51.1 ++ ([at_ I s8 s10.toNat])
  if (decide (List.length s7 + List.length ([x52]) ≤ lim)) = true then
  let x53 : Int := IntKind.wrap .i64 (s10 + (1 : Int))
  back ((s1, (s2, (s5, (s6, (s7 ++ ([x52]), (s8, (s9, (x53, ())))))))))
  else none
  else none
  else none
  else none
 else
  some (.inl ((s1, (s2, (s5, (s6, (s7, (s8, (s9, ())))))))))
noncomputable def spec_l4Moves_l4 (N : Nat) : Nat → spec_l4Moves_l4_H → Option spec_l4Moves_l4_O
 | 0, _ => none
 | k + 1, d => spec_l4Moves_l4_r N (spec_l4Moves_l4 N k) d
theorem spec_l4Moves_l4_ok (N : Nat) (back) (d) : roundR Γ_spec_l4Moves (assoc []) 4 spec_l4Moves_l4_h spec_l4Moves_l4_o (loopOf Tryz.f83 4) back d = spec_l4Moves_l4_r N back d := by kernel_rfl
abbrev spec_l4Moves_l2_H := List Int × (Int × (List (Int × Int × Unit)) × Unit) × List (List Int) × Int × List (List Int) × List Int × Int × Unit
abbrev spec_l4Moves_l2_O := (List Int × (Int × (List (Int × Int × Unit)) × Unit) × Int × List (List Int) × Unit) ⊕ Empty
def spec_l4Moves_l2_h : Form := [(1, .v K_Si), (2, .box K_PiSPiiqq 0), (5, .v K_SSi), (6, .v I), (7, .own K_SSi 100), (8, .v K_Si), (9, .v I)]
def spec_l4Moves_l2_o : Outs := [(.normal, [(1, .v K_Si), (2, .box K_PiSPiiqq 0), (6, .v I), (7, .own K_SSi 100)])]
noncomputable def spec_l4Moves_l2_r (N : Nat) (back : spec_l4Moves_l2_H → Option spec_l4Moves_l2_O) (d : spec_l4Moves_l2_H) : Option spec_l4Moves_l2_O :=
 let s1 : List Int := d.1
 let s2 : Int × (List (Int × Int × Unit)) × Unit := d.2.1
 let s5 : List (List Int) := d.2.2.1
 let s6 : Int := d.2.2.2.1
 let s7 : List (List Int) := d.2.2.2.2.1
 let s8 : List Int := d.2.2.2.2.2.1
 let s9 : Int := d.2.2.2.2.2.2.1
 if (decide (s9 < (List.length s5 : Int))) = true then
  (spec_l4Moves_l4 N N ((s1, (s2, (s5, (s6, (s7, (s8, (s9, ((0 : Int), ())))))))))).bind fun o48 => match o48 with
  | .inl d49 =>
   let x50 : Int := IntKind.wrap .i64 (d49.2.2.2.2.2.2.1 + (1 : Int))
   back ((d49.1, (d49.2.1, (d49.2.2.1, (d49.2.2.2.1, (d49.2.2.2.2.1, (d49.2.2.2.2.2.1, (x50, ()))))))))
 else
  some (.inl ((s1, (s2, (s6, (s7, ()))))))
noncomputable def spec_l4Moves_l2 (N : Nat) : Nat → spec_l4Moves_l2_H → Option spec_l4Moves_l2_O
 | 0, _ => none
 | k + 1, d => spec_l4Moves_l2_r N (spec_l4Moves_l2 N k) d
theorem spec_l4Moves_l2_ok (N : Nat) (back) (d) : roundR Γ_spec_l4Moves (assoc [(4, ⟨spec_l4Moves_l4_h, spec_l4Moves_l4_o, spec_l4Moves_l4 N N⟩)]) 2 spec_l4Moves_l2_h spec_l4Moves_l2_o (loopOf Tryz.f83 2) back d = spec_l4Moves_l2_r N back d := by kernel_rfl
abbrev spec_l4Moves_l0_H := List Int × (Int × (List (Int × Int × Unit)) × Unit) × List (List Int) × Int × Unit
abbrev spec_l4Moves_l0_O := (List (List Int) × Unit) ⊕ Empty
def spec_l4Moves_l0_h : Form := [(1, .v K_Si), (2, .box K_PiSPiiqq 0), (5, .v K_SSi), (6, .v I)]
def spec_l4Moves_l0_o : Outs := [(.normal, [(5, .v K_SSi)])]
noncomputable def spec_l4Moves_l0_r (N : Nat) (back : spec_l4Moves_l0_H → Option spec_l4Moves_l0_O) (d : spec_l4Moves_l0_H) : Option spec_l4Moves_l0_O :=
 let s1 : List Int := d.1
 let s2 : Int × (List (Int × Int × Unit)) × Unit := d.2.1
 let s5 : List (List Int) := d.2.2.1
 let s6 : Int := d.2.2.2.1
 if (decide (s6 < (List.length s1 : Int))) = true then
  if (idxIn s6 (List.length s1)) = true then
  ((F_spec_l2Ball 0) ((s2, (at_ I s1 s6.toNat, ())))).bind fun r35 =>
  (spec_l4Moves_l2 N N ((s1, (s2, (s5, (s6, (([] : List (List Int)), (r35.1, ((0 : Int), ()))))))))).bind fun o42 => match o42 with
  | .inl d43 =>
   let x44 : Int := IntKind.wrap .i64 (d43.2.2.1 + (1 : Int))
   back ((d43.1, (d43.2.1, (d43.2.2.2.1, (x44, ())))))
  else none
 else
  some (.inl (s5, ()))
noncomputable def spec_l4Moves_l0 (N : Nat) : Nat → spec_l4Moves_l0_H → Option spec_l4Moves_l0_O
 | 0, _ => none
 | k + 1, d => spec_l4Moves_l0_r N (spec_l4Moves_l0 N k) d
theorem spec_l4Moves_l0_ok (N : Nat) (back) (d) : roundR Γ_spec_l4Moves (assoc [(2, ⟨spec_l4Moves_l2_h, spec_l4Moves_l2_o, spec_l4Moves_l2 N N⟩)]) 0 spec_l4Moves_l0_h spec_l4Moves_l0_o (loopOf Tryz.f83 0) back d = spec_l4Moves_l0_r N back d := by kernel_rfl
abbrev spec_l4Moves_l6_H := List (List Int) × List (List Int) × Int × Unit
abbrev spec_l4Moves_l6_O := (List (List Int) × Unit) ⊕ Empty
def spec_l4Moves_l6_h : Form := [(5, .v K_SSi), (11, .v K_SSi), (12, .v I)]
def spec_l4Moves_l6_o : Outs := [(.normal, [(11, .v K_SSi)])]
noncomputable def spec_l4Moves_l6_r (N : Nat) (back : spec_l4Moves_l6_H → Option spec_l4Moves_l6_O) (d : spec_l4Moves_l6_H) : Option spec_l4Moves_l6_O :=
 let s5 : List (List Int) := d.1
 let s11 : List (List Int) := d.2.1
 let s12 : Int := d.2.2.1
 if (decide (s12 < (List.length s5 : Int))) = true then
  if (idxIn s12 (List.length s5)) = true then
  (G_l4Sorted (at_ K_Si s5 s12.toNat, ())).bind fun r54 =>
  (G_l4Put ((s11, (r54.1, ())))).bind fun r55 =>
  let x56 : Int := IntKind.wrap .i64 (s12 + (1 : Int))
  back ((s5, (r55.1, (x56, ()))))
  else none
 else
  some (.inl (s11, ()))
noncomputable def spec_l4Moves_l6 (N : Nat) : Nat → spec_l4Moves_l6_H → Option spec_l4Moves_l6_O
 | 0, _ => none
 | k + 1, d => spec_l4Moves_l6_r N (spec_l4Moves_l6 N k) d
theorem spec_l4Moves_l6_ok (N : Nat) (back) (d) : roundR Γ_spec_l4Moves (assoc []) 6 spec_l4Moves_l6_h spec_l4Moves_l6_o (loopOf Tryz.f83 6) back d = spec_l4Moves_l6_r N back d := by kernel_rfl
noncomputable def F_spec_l4Moves (N : Nat) (d : (Int × (List (Int × Int × Unit)) × Unit) × List Int × Unit) : Option (List (List Int) × Unit) :=
 let a0 : Int × (List (Int × Int × Unit)) × Unit := d.1
 let a1 : List Int := d.2.1
 (spec_l4Moves_l0 N N ((a1, (a0, ([([] : List Int)], ((0 : Int), ())))))).bind fun o28 => match o28 with
 | .inl d29 =>
  (spec_l4Moves_l6 N N ((d29.1, (([] : List (List Int)), ((0 : Int), ()))))).bind fun o33 => match o33 with
  | .inl d34 =>
   some (d34.1, ())
theorem F_spec_l4Moves_ok (N : Nat) (d) : fnR Γ_spec_l4Moves (assoc [(0, ⟨spec_l4Moves_l0_h, spec_l4Moves_l0_o, spec_l4Moves_l0 N N⟩), (6, ⟨spec_l4Moves_l6_h, spec_l4Moves_l6_o, spec_l4Moves_l6 N N⟩)]) false [(K_PiSPiiqq, false), (K_Si, false)] [K_SSi] Tryz.f83.results.toList (bodyOf Tryz.f83) d = F_spec_l4Moves N d := by kernel_rfl
noncomputable def S_spec_l4Moves : FSig := ⟨[(K_PiSPiiqq, false), (K_Si, false)], [K_SSi], false, (G_l4Moves)⟩
noncomputable def Γ_spec_l4At : Ctx := { tk := assoc tks, ar := assoc ars, fs := assoc [(108, S_spec_l1Same)] }
abbrev spec_l4At_l0_H := List (List Int) × List Int × Int × Unit
abbrev spec_l4At_l0_O := (Int × Unit) ⊕ Unit ⊕ Empty
def spec_l4At_l0_h : Form := [(0, .v K_SSi), (1, .v K_Si), (5, .v I)]
def spec_l4At_l0_o : Outs := [(.ret, [(4, .v I)]), (.normal, [])]
noncomputable def spec_l4At_l0_r (N : Nat) (back : spec_l4At_l0_H → Option spec_l4At_l0_O) (d : spec_l4At_l0_H) : Option spec_l4At_l0_O :=
 let s0 : List (List Int) := d.1
 let s1 : List Int := d.2.1
 let s5 : Int := d.2.2.1
 if (decide (s5 < (List.length s0 : Int))) = true then
  if (idxIn s5 (List.length s0)) = true then
  (G_l1Same ((at_ K_Si s0 s5.toNat, (s1, ())))).bind fun r6 =>
  if (r6.1) = true then
   some (.inl (s5, ()))
  else
   let x7 : Int := IntKind.wrap .i64 (s5 + (1 : Int))
   back ((s0, (s1, (x7, ()))))
  else none
 else
  some (.inr (.inl ()))
noncomputable def spec_l4At_l0 (N : Nat) : Nat → spec_l4At_l0_H → Option spec_l4At_l0_O
 | 0, _ => none
 | k + 1, d => spec_l4At_l0_r N (spec_l4At_l0 N k) d
theorem spec_l4At_l0_ok (N : Nat) (back) (d) : roundR Γ_spec_l4At (assoc []) 0 spec_l4At_l0_h spec_l4At_l0_o (loopOf Tryz.f66 0) back d = spec_l4At_l0_r N back d := by kernel_rfl
noncomputable def F_spec_l4At (N : Nat) (d : List (List Int) × List Int × Unit) : Option (Int × Unit) :=
 let a0 : List (List Int) := d.1
 let a1 : List Int := d.2.1
 (spec_l4At_l0 N N ((a0, (a1, ((0 : Int), ()))))).bind fun o3 => match o3 with
 | .inl d4 =>
  some (d4.1, ())
 | .inr (.inl d5) =>
  some ((-1 : Int), ())
theorem F_spec_l4At_ok (N : Nat) (d) : fnR Γ_spec_l4At (assoc [(0, ⟨spec_l4At_l0_h, spec_l4At_l0_o, spec_l4At_l0 N N⟩)]) true [(K_SSi, false), (K_Si, false)] [I] Tryz.f66.results.toList (bodyOf Tryz.f66) d = F_spec_l4At N d := by kernel_rfl
noncomputable def S_spec_l4At : FSig := ⟨[(K_SSi, false), (K_Si, false)], [I], true, (G_l4At)⟩
noncomputable def Γ_spec_l4Make : Ctx := { tk := assoc tks, ar := assoc ars, fs := assoc [(56, S_spec_l2Ball), (66, S_spec_l4At), (83, S_spec_l4Moves), (102, S_spec_l4Configs)], cs := assoc [], gs := assoc [], eqt := inL [], md := md0, ad := fun t => bif Nat.beq t 5 then 1 else 99 }
abbrev spec_l4Make_l2_H := (Int × (List (Int × Int × Unit)) × Unit) × (List (List Int) × List (List Int) × List (List Int) × Unit) × (List (List Int) × List (List Int) × List (List Int) × Unit) × Int × List (List Int) × List Int × Int × Unit
abbrev spec_l4Make_l2_O := ((Int × (List (Int × Int × Unit)) × Unit) × (List (List Int) × List (List Int) × List (List Int) × Unit) × (List (List Int) × List (List Int) × List (List Int) × Unit) × Int × List Int × Unit) ⊕ Empty
def spec_l4Make_l2_h : Form := [(2, .box K_PiSPiiqq 0), (4, .box K_PZSiSSiSSiq 99), (5, .box K_PZSiSSiSSiq 1), (6, .v I), (7, .v K_SSi), (8, .own K_Si 99), (9, .v I)]
def spec_l4Make_l2_o : Outs := [(.normal, [(2, .box K_PiSPiiqq 0), (4, .box K_PZSiSSiSSiq 99), (5, .box K_PZSiSSiSSiq 1), (6, .v I), (8, .own K_Si 99)])]
noncomputable def spec_l4Make_l2_r (N : Nat) (back : spec_l4Make_l2_H → Option spec_l4Make_l2_O) (d : spec_l4Make_l2_H) : Option spec_l4Make_l2_O :=
 let s2 : Int × (List (Int × Int × Unit)) × Unit := d.1
 let s4 : List (List Int) × List (List Int) × List (List Int) × Unit := d.2.1
 let s5 : List (List Int) × List (List Int) × List (List Int) × Unit := d.2.2.1
 let s6 : Int := d.2.2.2.1
 let s7 : List (List Int) := d.2.2.2.2.1
 let s8 : List Int := d.2.2.2.2.2.1
 let s9 : Int := d.2.2.2.2.2.2.1
 if (decide (s9 < (List.length s7 : Int))) = true then
  if (idxIn s9 (List.length s7)) = true then
  (G_l4At ((s5.1, (at_ K_Si s7 s9.toNat, ())))).bind fun r36 =>
  if (decide (List.length s8 + List.length ([r36.1]) ≤ lim)) = true then
  let x37 : Int := IntKind.wrap .i64 (s9 + (1 : Int))
  back ((s2, (s4, (s5, (s6, (s7, (s8 ++ ([r36.1]), (x37, ()))))))))
  else none
  else none
 else
  some (.inl ((s2, (s4, (s5, (s6, (s8, ())))))))
noncomputable def spec_l4Make_l2 (N : Nat) : Nat → spec_l4Make_l2_H → Option spec_l4Make_l2_O
 | 0, _ => none
 | k + 1, d => spec_l4Make_l2_r N (spec_l4Make_l2 N k) d
theorem spec_l4Make_l2_ok (N : Nat) (back) (d) : roundR Γ_spec_l4Make (assoc []) 2 spec_l4Make_l2_h spec_l4Make_l2_o (loopOf Tryz.f61 2) back d = spec_l4Make_l2_r N back d := by kernel_rfl
abbrev spec_l4Make_l0_H := (Int × (List (Int × Int × Unit)) × Unit) × (List (List Int) × List (List Int) × List (List Int) × Unit) × (List (List Int) × List (List Int) × List (List Int) × Unit) × Int × Unit
abbrev spec_l4Make_l0_O := ((Int × (List (Int × Int × Unit)) × Unit) × (List (List Int) × List (List Int) × List (List Int) × Unit) × (List (List Int) × List (List Int) × List (List Int) × Unit) × Unit) ⊕ Empty
def spec_l4Make_l0_h : Form := [(2, .box K_PiSPiiqq 0), (4, .box K_PZSiSSiSSiq 99), (5, .box K_PZSiSSiSSiq 1), (6, .v I)]
def spec_l4Make_l0_o : Outs := [(.normal, [(2, .box K_PiSPiiqq 0), (4, .box K_PZSiSSiSSiq 99), (5, .box K_PZSiSSiSSiq 1)])]
noncomputable def spec_l4Make_l0_r (N : Nat) (back : spec_l4Make_l0_H → Option spec_l4Make_l0_O) (d : spec_l4Make_l0_H) : Option spec_l4Make_l0_O :=
 let s2 : Int × (List (Int × Int × Unit)) × Unit := d.1
 let s4 : List (List Int) × List (List Int) × List (List Int) × Unit := d.2.1
 let s5 : List (List Int) × List (List Int) × List (List Int) × Unit := d.2.2.1
 let s6 : Int := d.2.2.2.1
 if (decide (s6 < (List.length s5.1 : Int))) = true then
  if (idxIn s6 (List.length s5.1)) = true then
  (G_l4Moves ((s2, (at_ K_Si s5.1 s6.toNat, ())))).bind fun r29 =>
  (spec_l4Make_l2 N N ((s2, (s4, (s5, (s6, (r29.1, (([] : List Int), ((0 : Int), ()))))))))).bind fun o32 => match o32 with
  | .inl d33 =>
   if (decide (List.length d33.2.2.1.2.1 + List.length ([d33.2.2.2.2.1]) ≤ lim)) = true then
   let x34 : List (List Int) := d33.2.2.1.2.1 ++ ([d33.2.2.2.2.1])
   let x35 : Int := IntKind.wrap .i64 (d33.2.2.2.1 + (1 : Int))
   back ((d33.1, (d33.2.1, ((d33.2.2.1.1, (x34, d33.2.2.1.2.2)), (x35, ())))))
   else none
  else none
 else
  some (.inl ((s2, (s4, (s5, ())))))
noncomputable def spec_l4Make_l0 (N : Nat) : Nat → spec_l4Make_l0_H → Option spec_l4Make_l0_O
 | 0, _ => none
 | k + 1, d => spec_l4Make_l0_r N (spec_l4Make_l0 N k) d
theorem spec_l4Make_l0_ok (N : Nat) (back) (d) : roundR Γ_spec_l4Make (assoc [(2, ⟨spec_l4Make_l2_h, spec_l4Make_l2_o, spec_l4Make_l2 N N⟩)]) 0 spec_l4Make_l0_h spec_l4Make_l0_o (loopOf Tryz.f61 0) back d = spec_l4Make_l0_r N back d := by kernel_rfl
abbrev spec_l4Make_l4_H := (Int × (List (Int × Int × Unit)) × Unit) × (List (List Int) × List (List Int) × List (List Int) × Unit) × (List (List Int) × List (List Int) × List (List Int) × Unit) × Int × Unit
abbrev spec_l4Make_l4_O := ((List (List Int) × List (List Int) × List (List Int) × Unit) × (List (List Int) × List (List Int) × List (List Int) × Unit) × Unit) ⊕ Empty
def spec_l4Make_l4_h : Form := [(2, .box K_PiSPiiqq 0), (4, .box K_PZSiSSiSSiq 99), (5, .box K_PZSiSSiSSiq 1), (10, .v I)]
def spec_l4Make_l4_o : Outs := [(.normal, [(4, .box K_PZSiSSiSSiq 99), (5, .box K_PZSiSSiSSiq 1)])]
noncomputable def spec_l4Make_l4_r (N : Nat) (back : spec_l4Make_l4_H → Option spec_l4Make_l4_O) (d : spec_l4Make_l4_H) : Option spec_l4Make_l4_O :=
 let s2 : Int × (List (Int × Int × Unit)) × Unit := d.1
 let s4 : List (List Int) × List (List Int) × List (List Int) × Unit := d.2.1
 let s5 : List (List Int) × List (List Int) × List (List Int) × Unit := d.2.2.1
 let s10 : Int := d.2.2.2.1
 if (decide (s10 < s2.1)) = true then
  ((F_spec_l2Ball 0) ((s2, (s10, ())))).bind fun r38 =>
  if (decide (List.length s5.2.2.1 + List.length ([r38.1]) ≤ lim)) = true then
  let x39 : Int := IntKind.wrap .i64 (s10 + (1 : Int))
  back ((s2, (s4, ((s5.1, (s5.2.1, (s5.2.2.1 ++ ([r38.1]), s5.2.2.2))), (x39, ())))))
  else none
 else
  some (.inl ((s4, (s5, ()))))
noncomputable def spec_l4Make_l4 (N : Nat) : Nat → spec_l4Make_l4_H → Option spec_l4Make_l4_O
 | 0, _ => none
 | k + 1, d => spec_l4Make_l4_r N (spec_l4Make_l4 N k) d
theorem spec_l4Make_l4_ok (N : Nat) (back) (d) : roundR Γ_spec_l4Make (assoc []) 4 spec_l4Make_l4_h spec_l4Make_l4_o (loopOf Tryz.f61 4) back d = spec_l4Make_l4_r N back d := by kernel_rfl
noncomputable def F_spec_l4Make (N : Nat) (d : (Int × (List (Int × Int × Unit)) × Unit) × Int × Unit) : Option ((List (List Int) × List (List Int) × List (List Int) × Unit) × Unit) :=
 let a0 : Int × (List (Int × Int × Unit)) × Unit := d.1
 let a1 : Int := d.2.1
 (G_configs ((a0.1, (a1, ())))).bind fun r15 =>
 (spec_l4Make_l0 N N ((a0, ((([] : List (List Int)), (([] : List (List Int)), (([] : List (List Int)), ()))), ((r15.1, (([] : List (List Int)), (([] : List (List Int)), ()))), ((0 : Int), ())))))).bind fun o23 => match o23 with
 | .inl d24 =>
  (spec_l4Make_l4 N N ((d24.1, (d24.2.1, (d24.2.2.1, ((0 : Int), ())))))).bind fun o27 => match o27 with
  | .inl d28 =>
   some (d28.2.1, ())
theorem F_spec_l4Make_ok (N : Nat) (d) : fnR Γ_spec_l4Make (assoc [(0, ⟨spec_l4Make_l0_h, spec_l4Make_l0_o, spec_l4Make_l0 N N⟩), (4, ⟨spec_l4Make_l4_h, spec_l4Make_l4_o, spec_l4Make_l4 N N⟩)]) false [(K_PiSPiiqq, false), (I, false)] [K_PZSiSSiSSiq] Tryz.f61.results.toList (bodyOf Tryz.f61) d = F_spec_l4Make N d := by kernel_rfl
noncomputable def S_spec_l4Make : FSig := ⟨[(K_PiSPiiqq, false), (I, false)], [K_PZSiSSiSSiq], false, (G_l4Make)⟩
noncomputable def Γ_spec_l1Most : Ctx := { tk := assoc tks, ar := assoc ars, fs := assoc [] }
noncomputable def F_spec_l1Most (N : Nat) (d : Int × Int × Unit) : Option (Int × Unit) :=
 let a0 : Int := d.1
 let a1 : Int := d.2.1
 if (decide (a0 > a1)) = true then
  some (a0, ())
 else
  some (a1, ())
theorem F_spec_l1Most_ok (N : Nat) (d) : fnR Γ_spec_l1Most (assoc []) true [(I, false), (I, false)] [I] Tryz.f114.results.toList (bodyOf Tryz.f114) d = F_spec_l1Most N d := by kernel_rfl
noncomputable def g_spec_l1Most (d : Int × Int × Unit) : Int × Unit :=
 let a0 : Int := d.1
 let a1 : Int := d.2.1
 if (decide (a0 > a1)) = true then
  (a0, ())
 else
  (a1, ())
theorem F_spec_l1Most_tot (N : Nat) (d) : F_spec_l1Most N d = some (g_spec_l1Most d) := by
 unfold F_spec_l1Most g_spec_l1Most
 first
  | rfl
  | (dsimp only; (repeat' split) <;> rfl)
noncomputable def S_spec_l1Most : FSig := ⟨[(I, false), (I, false)], [I], true, (fun d => some (g_spec_l1Most d))⟩
noncomputable def Γ_spec_l4After : Ctx := { tk := assoc tks, ar := assoc ars, fs := assoc [(57, S_spec_l1Has), (114, S_spec_l1Most)] }
abbrev spec_l4After_l0_H := List (List Int) × Int × Int × List Int × Int × Unit
abbrev spec_l4After_l0_O := (Int × Unit) ⊕ (Int × Unit) ⊕ Empty
def spec_l4After_l0_h : Form := [(1, .v K_SSi), (2, .v I), (9, .v I), (10, .v K_Si), (11, .v I)]
def spec_l4After_l0_o : Outs := [(.ret, [(8, .v I)]), (.normal, [(9, .v I)])]
noncomputable def spec_l4After_l0_r (N : Nat) (back : spec_l4After_l0_H → Option spec_l4After_l0_O) (d : spec_l4After_l0_H) : Option spec_l4After_l0_O :=
 let s1 : List (List Int) := d.1
 let s2 : Int := d.2.1
 let s9 : Int := d.2.2.1
 let s10 : List Int := d.2.2.2.1
 let s11 : Int := d.2.2.2.2.1
 if (decide (s11 < (List.length s10 : Int))) = true then
  if (idxIn s2 (List.length s1)) = true then
  if (idxIn s11 (List.length s10)) = true then
  if (idxIn (at_ I s10 s11.toNat) (List.length (at_ K_Si s1 s2.toNat))) = true then
  if (decide (at_ I (at_ K_Si s1 s2.toNat) (at_ I s10 s11.toNat).toNat < (0 : Int))) = true then
   some (.inl ((-1 : Int), ()))
  else
   if (idxIn s2 (List.length s1)) = true then
   if (idxIn s11 (List.length s10)) = true then
   if (idxIn (at_ I s10 s11.toNat) (List.length (at_ K_Si s1 s2.toNat))) = true then
   let r7 : Int × Unit := g_spec_l1Most ((s9, (at_ I (at_ K_Si s1 s2.toNat) (at_ I s10 s11.toNat).toNat, ())))
   let x8 : Int := IntKind.wrap .i64 (s11 + (1 : Int))
   back ((s1, (s2, (r7.1, (s10, (x8, ()))))))
   else none
   else none
   else none
  else none
  else none
  else none
 else
  some (.inr (.inl (s9, ())))
noncomputable def spec_l4After_l0 (N : Nat) : Nat → spec_l4After_l0_H → Option spec_l4After_l0_O
 | 0, _ => none
 | k + 1, d => spec_l4After_l0_r N (spec_l4After_l0 N k) d
theorem spec_l4After_l0_ok (N : Nat) (back) (d) : roundR Γ_spec_l4After (assoc []) 0 spec_l4After_l0_h spec_l4After_l0_o (loopOf Tryz.f101 0) back d = spec_l4After_l0_r N back d := by kernel_rfl
noncomputable def F_spec_l4After (N : Nat) (d : (List (List Int) × List (List Int) × List (List Int) × Unit) × List (List Int) × Int × Int × Unit) : Option (Int × Unit) :=
 let a0 : List (List Int) × List (List Int) × List (List Int) × Unit := d.1
 let a1 : List (List Int) := d.2.1
 let a2 : Int := d.2.2.1
 let a3 : Int := d.2.2.2.1
 if (idxIn a2 (List.length a0.1)) = true then
 (G_l1Has ((at_ K_Si a0.1 a2.toNat, (a3, ())))).bind fun r1 =>
 if (r1.1) = true then
  some ((0 : Int), ())
 else
  if (idxIn a3 (List.length a0.2.2.1)) = true then
  (spec_l4After_l0 N N ((a1, (a2, ((0 : Int), (at_ K_Si a0.2.2.1 a3.toNat, ((0 : Int), ()))))))).bind fun o4 => match o4 with
  | .inl d5 =>
   some (d5.1, ())
  | .inr (.inl d6) =>
   some (d6.1, ())
  else none
 else none
theorem F_spec_l4After_ok (N : Nat) (d) : fnR Γ_spec_l4After (assoc [(0, ⟨spec_l4After_l0_h, spec_l4After_l0_o, spec_l4After_l0 N N⟩)]) true [(K_PZSiSSiSSiq, false), (K_SSi, false), (I, false), (I, false)] [I] Tryz.f101.results.toList (bodyOf Tryz.f101) d = F_spec_l4After N d := by kernel_rfl
noncomputable def S_spec_l4After : FSig := ⟨[(K_PZSiSSiSSiq, false), (K_SSi, false), (I, false), (I, false)], [I], true, (G_l4After)⟩
noncomputable def Γ_spec_l4Times : Ctx := { tk := assoc tks, ar := assoc ars, fs := assoc [(57, S_spec_l1Has), (73, S_spec_l1Own), (101, S_spec_l4After)] }
abbrev spec_l4Times_l2_H := (List (List Int) × List (List Int) × List (List Int) × Unit) × List (List Int) × Int × List Int × Int × Unit
abbrev spec_l4Times_l2_O := ((List (List Int) × List (List Int) × List (List Int) × Unit) × List (List Int) × Int × List Int × Unit) ⊕ Empty
def spec_l4Times_l2_h : Form := [(1, .box K_PZSiSSiSSiq 0), (3, .own K_SSi 100), (4, .v I), (5, .own K_Si 99), (6, .v I)]
def spec_l4Times_l2_o : Outs := [(.normal, [(1, .box K_PZSiSSiSSiq 0), (3, .own K_SSi 100), (4, .v I), (5, .own K_Si 99)])]
noncomputable def spec_l4Times_l2_r (N : Nat) (back : spec_l4Times_l2_H → Option spec_l4Times_l2_O) (d : spec_l4Times_l2_H) : Option spec_l4Times_l2_O :=
 let s1 : List (List Int) × List (List Int) × List (List Int) × Unit := d.1
 let s3 : List (List Int) := d.2.1
 let s4 : Int := d.2.2.1
 let s5 : List Int := d.2.2.2.1
 let s6 : Int := d.2.2.2.2.1
 if (decide (s6 < (List.length s1.2.2.1 : Int))) = true then
  if (idxIn s4 (List.length s1.1)) = true then
  (G_l1Has ((at_ K_Si s1.1 s4.toNat, (s6, ())))).bind fun r31 =>
  if (r31.1) = true then
   if (decide (List.length s5 + List.length ([(0 : Int)]) ≤ lim)) = true then
   let x32 : Int := IntKind.wrap .i64 (s6 + (1 : Int))
   back ((s1, (s3, (s4, (s5 ++ ([(0 : Int)]), (x32, ()))))))
   else none
  else
   if (decide (List.length s5 + List.length ([(-1 : Int)]) ≤ lim)) = true then
   let x33 : Int := IntKind.wrap .i64 (s6 + (1 : Int))
   back ((s1, (s3, (s4, (s5 ++ ([(-1 : Int)]), (x33, ()))))))
   else none
  else none
 else
  some (.inl ((s1, (s3, (s4, (s5, ()))))))
noncomputable def spec_l4Times_l2 (N : Nat) : Nat → spec_l4Times_l2_H → Option spec_l4Times_l2_O
 | 0, _ => none
 | k + 1, d => spec_l4Times_l2_r N (spec_l4Times_l2 N k) d
theorem spec_l4Times_l2_ok (N : Nat) (back) (d) : roundR Γ_spec_l4Times (assoc []) 2 spec_l4Times_l2_h spec_l4Times_l2_o (loopOf Tryz.f60 2) back d = spec_l4Times_l2_r N back d := by kernel_rfl
abbrev spec_l4Times_l0_H := (List (List Int) × List (List Int) × List (List Int) × Unit) × List (List Int) × Int × Unit
abbrev spec_l4Times_l0_O := ((List (List Int) × List (List Int) × List (List Int) × Unit) × List (List Int) × Unit) ⊕ Empty
def spec_l4Times_l0_h : Form := [(1, .box K_PZSiSSiSSiq 0), (3, .own K_SSi 100), (4, .v I)]
def spec_l4Times_l0_o : Outs := [(.normal, [(1, .box K_PZSiSSiSSiq 0), (3, .own K_SSi 100)])]
noncomputable def spec_l4Times_l0_r (N : Nat) (back : spec_l4Times_l0_H → Option spec_l4Times_l0_O) (d : spec_l4Times_l0_H) : Option spec_l4Times_l0_O :=
 let s1 : List (List Int) × List (List Int) × List (List Int) × Unit := d.1
 let s3 : List (List Int) := d.2.1
 let s4 : Int := d.2.2.1
 if (decide (s4 < (List.length s1.1 : Int))) = true then
  (spec_l4Times_l2 N N ((s1, (s3, (s4, (([] : List Int), ((0 : Int), ()))))))).bind fun o28 => match o28 with
  | .inl d29 =>
   if (decide (List.length d29.2.1 + List.length ([d29.2.2.2.1]) ≤ lim)) = true then
   let x30 : Int := IntKind.wrap .i64 (d29.2.2.1 + (1 : Int))
   back ((d29.1, (d29.2.1 ++ ([d29.2.2.2.1]), (x30, ()))))
   else none
 else
  some (.inl ((s1, (s3, ()))))
noncomputable def spec_l4Times_l0 (N : Nat) : Nat → spec_l4Times_l0_H → Option spec_l4Times_l0_O
 | 0, _ => none
 | k + 1, d => spec_l4Times_l0_r N (spec_l4Times_l0 N k) d
theorem spec_l4Times_l0_ok (N : Nat) (back) (d) : roundR Γ_spec_l4Times (assoc [(2, ⟨spec_l4Times_l2_h, spec_l4Times_l2_o, spec_l4Times_l2 N N⟩)]) 0 spec_l4Times_l0_h spec_l4Times_l0_o (loopOf Tryz.f60 0) back d = spec_l4Times_l0_r N back d := by kernel_rfl
abbrev spec_l4Times_l10_H := (List (List Int) × List (List Int) × List (List Int) × Unit) × List (List Int) × Int × List (List Int) × Bool × Int × List Int × Int × Int × Unit
abbrev spec_l4Times_l10_O := ((List (List Int) × List (List Int) × List (List Int) × Unit) × List (List Int) × Int × List (List Int) × Bool × Int × List Int × Int × Unit) ⊕ Empty
def spec_l4Times_l10_h : Form := [(1, .box K_PZSiSSiSSiq 0), (3, .own K_SSi 100), (7, .v I), (8, .own K_SSi 100), (9, .v .bool), (10, .v I), (11, .own K_Si 99), (12, .v I), (13, .v I)]
def spec_l4Times_l10_o : Outs := [(.normal, [(1, .box K_PZSiSSiSSiq 0), (3, .own K_SSi 100), (7, .v I), (8, .own K_SSi 100), (9, .v .bool), (10, .v I), (11, .own K_Si 99), (12, .v I)])]
noncomputable def spec_l4Times_l10_r (N : Nat) (back : spec_l4Times_l10_H → Option spec_l4Times_l10_O) (d : spec_l4Times_l10_H) : Option spec_l4Times_l10_O :=
 let s1 : List (List Int) × List (List Int) × List (List Int) × Unit := d.1
 let s3 : List (List Int) := d.2.1
 let s7 : Int := d.2.2.1
 let s8 : List (List Int) := d.2.2.2.1
 let s9 : Bool := d.2.2.2.2.1
 let s10 : Int := d.2.2.2.2.2.1
 let s11 : List Int := d.2.2.2.2.2.2.1
 let s12 : Int := d.2.2.2.2.2.2.2.1
 let s13 : Int := d.2.2.2.2.2.2.2.2.1
 if (idxIn s10 (List.length s1.2.1)) = true then
 if (decide (s13 < (List.length (at_ K_Si s1.2.1 s10.toNat) : Int))) = true then
  if (idxIn s12 (List.length s11)) = true then
  if (decide (at_ I s11 s12.toNat < (0 : Int))) = true then
   if (idxIn s10 (List.length s1.2.1)) = true then
   if (idxIn s13 (List.length (at_ K_Si s1.2.1 s10.toNat))) = true then
   (G_l4After ((s1, (s3, (at_ I (at_ K_Si s1.2.1 s10.toNat) s13.toNat, (s12, ())))))).bind fun r65 =>
   if (decide (r65.1 ≥ (0 : Int))) = true then
    if (idxIn s12 (List.length s11)) = true then
    let x66 : Int := IntKind.wrap .i64 (s13 + (1 : Int))
    back ((s1, (s3, (s7, (s8, (true, (s10, (List.set s11 s12.toNat s7, (s12, (x66, ()))))))))))
    else none
   else
    let x67 : Int := IntKind.wrap .i64 (s13 + (1 : Int))
    back ((s1, (s3, (s7, (s8, (s9, (s10, (s11, (s12, (x67, ()))))))))))
   else none
   else none
  else
   some (.inl ((s1, (s3, (s7, (s8, (s9, (s10, (s11, (s12, ()))))))))))
  else none
 else
  some (.inl ((s1, (s3, (s7, (s8, (s9, (s10, (s11, (s12, ()))))))))))
 else none
noncomputable def spec_l4Times_l10 (N : Nat) : Nat → spec_l4Times_l10_H → Option spec_l4Times_l10_O
 | 0, _ => none
 | k + 1, d => spec_l4Times_l10_r N (spec_l4Times_l10 N k) d
theorem spec_l4Times_l10_ok (N : Nat) (back) (d) : roundR Γ_spec_l4Times (assoc []) 10 spec_l4Times_l10_h spec_l4Times_l10_o (loopOf Tryz.f60 10) back d = spec_l4Times_l10_r N back d := by kernel_rfl
abbrev spec_l4Times_l8_H := (List (List Int) × List (List Int) × List (List Int) × Unit) × List (List Int) × Int × List (List Int) × Bool × Int × List Int × Int × Unit
abbrev spec_l4Times_l8_O := ((List (List Int) × List (List Int) × List (List Int) × Unit) × List (List Int) × Int × List (List Int) × Bool × Int × List Int × Unit) ⊕ Empty
def spec_l4Times_l8_h : Form := [(1, .box K_PZSiSSiSSiq 0), (3, .own K_SSi 100), (7, .v I), (8, .own K_SSi 100), (9, .v .bool), (10, .v I), (11, .own K_Si 99), (12, .v I)]
def spec_l4Times_l8_o : Outs := [(.normal, [(1, .box K_PZSiSSiSSiq 0), (3, .own K_SSi 100), (7, .v I), (8, .own K_SSi 100), (9, .v .bool), (10, .v I), (11, .own K_Si 99)])]
noncomputable def spec_l4Times_l8_r (N : Nat) (back : spec_l4Times_l8_H → Option spec_l4Times_l8_O) (d : spec_l4Times_l8_H) : Option spec_l4Times_l8_O :=
 let s1 : List (List Int) × List (List Int) × List (List Int) × Unit := d.1
 let s3 : List (List Int) := d.2.1
 let s7 : Int := d.2.2.1
 let s8 : List (List Int) := d.2.2.2.1
 let s9 : Bool := d.2.2.2.2.1
 let s10 : Int := d.2.2.2.2.2.1
 let s11 : List Int := d.2.2.2.2.2.2.1
 let s12 : Int := d.2.2.2.2.2.2.2.1
 if (decide (s12 < (List.length s11 : Int))) = true then
  (spec_l4Times_l10 N N ((s1, (s3, (s7, (s8, (s9, (s10, (s11, (s12, ((0 : Int), ()))))))))))).bind fun o62 => match o62 with
  | .inl d63 =>
   let x64 : Int := IntKind.wrap .i64 (d63.2.2.2.2.2.2.2.1 + (1 : Int))
   back ((d63.1, (d63.2.1, (d63.2.2.1, (d63.2.2.2.1, (d63.2.2.2.2.1, (d63.2.2.2.2.2.1, (d63.2.2.2.2.2.2.1, (x64, ())))))))))
 else
  some (.inl ((s1, (s3, (s7, (s8, (s9, (s10, (s11, ())))))))))
noncomputable def spec_l4Times_l8 (N : Nat) : Nat → spec_l4Times_l8_H → Option spec_l4Times_l8_O
 | 0, _ => none
 | k + 1, d => spec_l4Times_l8_r N (spec_l4Times_l8 N k) d
theorem spec_l4Times_l8_ok (N : Nat) (back) (d) : roundR Γ_spec_l4Times (assoc [(10, ⟨spec_l4Times_l10_h, spec_l4Times_l10_o, spec_l4Times_l10 N N⟩)]) 8 spec_l4Times_l8_h spec_l4Times_l8_o (loopOf Tryz.f60 8) back d = spec_l4Times_l8_r N back d := by kernel_rfl
abbrev spec_l4Times_l6_H := (List (List Int) × List (List Int) × List (List Int) × Unit) × List (List Int) × Int × List (List Int) × Bool × Int × Unit
abbrev spec_l4Times_l6_O := ((List (List Int) × List (List Int) × List (List Int) × Unit) × Int × List (List Int) × Bool × Unit) ⊕ Empty
def spec_l4Times_l6_h : Form := [(1, .box K_PZSiSSiSSiq 0), (3, .own K_SSi 100), (7, .v I), (8, .own K_SSi 100), (9, .v .bool), (10, .v I)]
def spec_l4Times_l6_o : Outs := [(.normal, [(1, .box K_PZSiSSiSSiq 0), (7, .v I), (8, .own K_SSi 100), (9, .v .bool)])]
noncomputable def spec_l4Times_l6_r (N : Nat) (back : spec_l4Times_l6_H → Option spec_l4Times_l6_O) (d : spec_l4Times_l6_H) : Option spec_l4Times_l6_O :=
 let s1 : List (List Int) × List (List Int) × List (List Int) × Unit := d.1
 let s3 : List (List Int) := d.2.1
 let s7 : Int := d.2.2.1
 let s8 : List (List Int) := d.2.2.2.1
 let s9 : Bool := d.2.2.2.2.1
 let s10 : Int := d.2.2.2.2.2.1
 if (decide (s10 < (List.length s3 : Int))) = true then
  if (idxIn s10 (List.length s3)) = true then
  ((F_spec_l1Own 0) (at_ K_Si s3 s10.toNat, ())).bind fun r48 =>
  (spec_l4Times_l8 N N ((s1, (s3, (s7, (s8, (s9, (s10, (r48.1, ((0 : Int), ())))))))))).bind fun o55 => match o55 with
  | .inl d56 =>
   if (decide (List.length d56.2.2.2.1 + List.length ([d56.2.2.2.2.2.2.1]) ≤ lim)) = true then
   let x57 : List (List Int) := d56.2.2.2.1 ++ ([d56.2.2.2.2.2.2.1])
   let x58 : Int := IntKind.wrap .i64 (d56.2.2.2.2.2.1 + (1 : Int))
   back ((d56.1, (d56.2.1, (d56.2.2.1, (x57, (d56.2.2.2.2.1, (x58, ())))))))
   else none
  else none
 else
  some (.inl ((s1, (s7, (s8, (s9, ()))))))
noncomputable def spec_l4Times_l6 (N : Nat) : Nat → spec_l4Times_l6_H → Option spec_l4Times_l6_O
 | 0, _ => none
 | k + 1, d => spec_l4Times_l6_r N (spec_l4Times_l6 N k) d
theorem spec_l4Times_l6_ok (N : Nat) (back) (d) : roundR Γ_spec_l4Times (assoc [(8, ⟨spec_l4Times_l8_h, spec_l4Times_l8_o, spec_l4Times_l8 N N⟩)]) 6 spec_l4Times_l6_h spec_l4Times_l6_o (loopOf Tryz.f60 6) back d = spec_l4Times_l6_r N back d := by kernel_rfl
abbrev spec_l4Times_l4_H := (List (List Int) × List (List Int) × List (List Int) × Unit) × List (List Int) × Int × Unit
abbrev spec_l4Times_l4_O := (List (List Int) × Unit) ⊕ Empty
def spec_l4Times_l4_h : Form := [(1, .box K_PZSiSSiSSiq 0), (3, .own K_SSi 100), (7, .v I)]
def spec_l4Times_l4_o : Outs := [(.ret, [(2, .own K_SSi 100)])]
noncomputable def spec_l4Times_l4_r (N : Nat) (back : spec_l4Times_l4_H → Option spec_l4Times_l4_O) (d : spec_l4Times_l4_H) : Option spec_l4Times_l4_O :=
 let s1 : List (List Int) × List (List Int) × List (List Int) × Unit := d.1
 let s3 : List (List Int) := d.2.1
 let s7 : Int := d.2.2.1
 (spec_l4Times_l6 N N ((s1, (s3, (s7, (([] : List (List Int)), (false, ((0 : Int), ())))))))).bind fun o45 => match o45 with
 | .inl d46 =>
  if (!d46.2.2.2.1) = true then
   some (.inl (d46.2.2.1, ()))
  else
   let x47 : Int := IntKind.wrap .i64 (d46.2.1 + (1 : Int))
   back ((d46.1, (d46.2.2.1, (x47, ()))))
noncomputable def spec_l4Times_l4 (N : Nat) : Nat → spec_l4Times_l4_H → Option spec_l4Times_l4_O
 | 0, _ => none
 | k + 1, d => spec_l4Times_l4_r N (spec_l4Times_l4 N k) d
theorem spec_l4Times_l4_ok (N : Nat) (back) (d) : roundR Γ_spec_l4Times (assoc [(6, ⟨spec_l4Times_l6_h, spec_l4Times_l6_o, spec_l4Times_l6 N N⟩)]) 4 spec_l4Times_l4_h spec_l4Times_l4_o (loopOf Tryz.f60 4) back d = spec_l4Times_l4_r N back d := by kernel_rfl
noncomputable def F_spec_l4Times (N : Nat) (d : (List (List Int) × List (List Int) × List (List Int) × Unit) × Unit) : Option (List (List Int) × Unit) :=
 let a0 : List (List Int) × List (List Int) × List (List Int) × Unit := d.1
 (spec_l4Times_l0 N N ((a0, (([] : List (List Int)), ((0 : Int), ()))))).bind fun o7 => match o7 with
 | .inl d8 =>
  (spec_l4Times_l4 N N ((d8.1, (d8.2.1, ((1 : Int), ()))))).bind fun o23 => match o23 with
  | .inl d24 =>
   some (d24.1, ())
theorem F_spec_l4Times_ok (N : Nat) (d) : fnR Γ_spec_l4Times (assoc [(0, ⟨spec_l4Times_l0_h, spec_l4Times_l0_o, spec_l4Times_l0 N N⟩), (4, ⟨spec_l4Times_l4_h, spec_l4Times_l4_o, spec_l4Times_l4 N N⟩)]) true [(K_PZSiSSiSSiq, false)] [K_SSi] Tryz.f60.results.toList (bodyOf Tryz.f60) d = F_spec_l4Times N d := by kernel_rfl
noncomputable def S_spec_l4Times : FSig := ⟨[(K_PZSiSSiSSiq, false)], [K_SSi], true, (G_l4Times)⟩
noncomputable def Γ_spec_l4Best : Ctx := { tk := assoc tks, ar := assoc ars, fs := assoc [(101, S_spec_l4After)] }
abbrev spec_l4Best_l0_H := List (List Int) × Int × Int × (List (List Int) × List (List Int) × List (List Int) × Unit) × Int × Int × Int × Unit
abbrev spec_l4Best_l0_O := (Int × Unit) ⊕ Empty
def spec_l4Best_l0_h : Form := [(1, .v K_SSi), (2, .v I), (3, .v I), (4, .box K_PZSiSSiSSiq 0), (9, .v I), (10, .v I), (11, .v I)]
def spec_l4Best_l0_o : Outs := [(.normal, [(9, .v I)])]
noncomputable def spec_l4Best_l0_r (N : Nat) (back : spec_l4Best_l0_H → Option spec_l4Best_l0_O) (d : spec_l4Best_l0_H) : Option spec_l4Best_l0_O :=
 let s1 : List (List Int) := d.1
 let s2 : Int := d.2.1
 let s3 : Int := d.2.2.1
 let s4 : List (List Int) × List (List Int) × List (List Int) × Unit := d.2.2.2.1
 let s9 : Int := d.2.2.2.2.1
 let s10 : Int := d.2.2.2.2.2.1
 let s11 : Int := d.2.2.2.2.2.2.1
 if (idxIn s2 (List.length s4.2.1)) = true then
 if (decide (s11 < (List.length (at_ K_Si s4.2.1 s2.toNat) : Int))) = true then
  if (idxIn s2 (List.length s4.2.1)) = true then
  if (idxIn s11 (List.length (at_ K_Si s4.2.1 s2.toNat))) = true then
  (G_l4After ((s4, (s1, (at_ I (at_ K_Si s4.2.1 s2.toNat) s11.toNat, (s3, ())))))).bind fun r8 =>
  if (decide (r8.1 ≥ (0 : Int))) = true then
   if (decide (s9 < (0 : Int))) = true then
    if (idxIn s2 (List.length s4.2.1)) = true then
    if (idxIn s11 (List.length (at_ K_Si s4.2.1 s2.toNat))) = true then
    let x9 : Int := IntKind.wrap .i64 (s11 + (1 : Int))
    back ((s1, (s2, (s3, (s4, (at_ I (at_ K_Si s4.2.1 s2.toNat) s11.toNat, (r8.1, (x9, ()))))))))
    else none
    else none
   else
    if (decide (r8.1 < s10)) = true then
     if (idxIn s2 (List.length s4.2.1)) = true then
     if (idxIn s11 (List.length (at_ K_Si s4.2.1 s2.toNat))) = true then
     let x10 : Int := IntKind.wrap .i64 (s11 + (1 : Int))
     back ((s1, (s2, (s3, (s4, (at_ I (at_ K_Si s4.2.1 s2.toNat) s11.toNat, (r8.1, (x10, ()))))))))
     else none
     else none
    else
     let x11 : Int := IntKind.wrap .i64 (s11 + (1 : Int))
     back ((s1, (s2, (s3, (s4, (s9, (s10, (x11, ()))))))))
  else
   let x12 : Int := IntKind.wrap .i64 (s11 + (1 : Int))
   back ((s1, (s2, (s3, (s4, (s9, (s10, (x12, ()))))))))
  else none
  else none
 else
  some (.inl (s9, ()))
 else none
noncomputable def spec_l4Best_l0 (N : Nat) : Nat → spec_l4Best_l0_H → Option spec_l4Best_l0_O
 | 0, _ => none
 | k + 1, d => spec_l4Best_l0_r N (spec_l4Best_l0 N k) d
theorem spec_l4Best_l0_ok (N : Nat) (back) (d) : roundR Γ_spec_l4Best (assoc []) 0 spec_l4Best_l0_h spec_l4Best_l0_o (loopOf Tryz.f79 0) back d = spec_l4Best_l0_r N back d := by kernel_rfl
noncomputable def F_spec_l4Best (N : Nat) (d : (List (List Int) × List (List Int) × List (List Int) × Unit) × List (List Int) × Int × Int × Unit) : Option (Int × Unit) :=
 let a0 : List (List Int) × List (List Int) × List (List Int) × Unit := d.1
 let a1 : List (List Int) := d.2.1
 let a2 : Int := d.2.2.1
 let a3 : Int := d.2.2.2.1
 (spec_l4Best_l0 N N ((a1, (a2, (a3, (a0, ((-1 : Int), ((-1 : Int), ((0 : Int), ()))))))))).bind fun o6 => match o6 with
 | .inl d7 =>
  some (d7.1, ())
theorem F_spec_l4Best_ok (N : Nat) (d) : fnR Γ_spec_l4Best (assoc [(0, ⟨spec_l4Best_l0_h, spec_l4Best_l0_o, spec_l4Best_l0 N N⟩)]) true [(K_PZSiSSiSSiq, false), (K_SSi, false), (I, false), (I, false)] [I] Tryz.f79.results.toList (bodyOf Tryz.f79) d = F_spec_l4Best N d := by kernel_rfl
noncomputable def S_spec_l4Best : FSig := ⟨[(K_PZSiSSiSSiq, false), (K_SSi, false), (I, false), (I, false)], [I], true, (G_l4Best)⟩
noncomputable def Γ_spec_CopReply : Ctx := { tk := assoc tks, ar := assoc ars, fs := assoc [(60, S_spec_l4Times), (61, S_spec_l4Make), (64, S_spec_l4Meets), (66, S_spec_l4At), (73, S_spec_l1Own), (79, S_spec_l4Best)] }
noncomputable def F_spec_CopReply (N : Nat) (d : (Int × (List (Int × Int × Unit)) × Unit) × List Int × Int × Unit) : Option (List Int × Bool × Unit) :=
 let a0 : Int × (List (Int × Int × Unit)) × Unit := d.1
 let a1 : List Int := d.2.1
 let a2 : Int := d.2.2.1
 ((F_spec_l4Meets 0) ((a0, (a1, (a2, ()))))).bind fun r1 =>
 if (!r1.1) = true then
  some ((([] : List Int), (false, ())))
 else
  (G_l4Make ((a0, ((List.length a1 : Int), ())))).bind fun r2 =>
  (G_l4Times (r2.1, ())).bind fun r3 =>
  (G_l4At ((r2.1.1, (a1, ())))).bind fun r4 =>
  (G_l4Best ((r2.1, (r3.1, (r4.1, (a2, ())))))).bind fun r5 =>
  if (decide (r5.1 < (0 : Int))) = true then
   some ((([] : List Int), (false, ())))
  else
   if (idxIn r5.1 (List.length r2.1.1)) = true then
   ((F_spec_l1Own 0) (at_ K_Si r2.1.1 r5.1.toNat, ())).bind fun r6 =>
   some ((r6.1, (true, ())))
   else none
theorem F_spec_CopReply_ok (N : Nat) (d) : fnR Γ_spec_CopReply (assoc []) true [(K_PiSPiiqq, false), (K_Si, false), (I, false)] [K_Si, .bool] Tryz.f39.results.toList (bodyOf Tryz.f39) d = F_spec_CopReply N d := by kernel_rfl
noncomputable def S_spec_CopReply : FSig := ⟨[(K_PiSPiiqq, false), (K_Si, false), (I, false)], [K_Si, .bool], true, (F_spec_CopReply 0)⟩
noncomputable def Γ_impl_within : Ctx := { tk := assoc tks, ar := assoc ars, fs := assoc [] }
noncomputable def F_impl_within (N : Nat) (d : Int × Int × Int × Unit) : Option (Bool × Unit) :=
 let a0 : Int := d.1
 let a1 : Int := d.2.1
 let a2 : Int := d.2.2.1
 if (decide (a0 ≥ a1)) = true then
  some (decide (a0 ≤ a2), ())
 else
  some (false, ())
theorem F_impl_within_ok (N : Nat) (d) : fnR Γ_impl_within (assoc []) true [(I, false), (I, false), (I, false)] [.bool] Tryz.f78.results.toList (bodyOf Tryz.f78) d = F_impl_within N d := by kernel_rfl
noncomputable def g_impl_within (d : Int × Int × Int × Unit) : Bool × Unit :=
 let a0 : Int := d.1
 let a1 : Int := d.2.1
 let a2 : Int := d.2.2.1
 if (decide (a0 ≥ a1)) = true then
  (decide (a0 ≤ a2), ())
 else
  (false, ())
theorem F_impl_within_tot (N : Nat) (d) : F_impl_within N d = some (g_impl_within d) := by
 unfold F_impl_within g_impl_within
 first
  | rfl
  | (dsimp only; (repeat' split) <;> rfl)
noncomputable def S_impl_within : FSig := ⟨[(I, false), (I, false), (I, false)], [.bool], true, (fun d => some (g_impl_within d))⟩
noncomputable def Γ_cmp_isNaN_int : Ctx := { tk := assoc tks, ar := assoc ars, fs := assoc [] }
noncomputable def F_cmp_isNaN_int (N : Nat) (d : Int × Unit) : Option (Bool × Unit) :=
 let a0 : Int := d.1
 some (a0 != a0, ())
theorem F_cmp_isNaN_int_ok (N : Nat) (d) : fnR Γ_cmp_isNaN_int (assoc []) true [(I, false)] [.bool] Tryz.f138.results.toList (bodyOf Tryz.f138) d = F_cmp_isNaN_int N d := by kernel_rfl
noncomputable def g_cmp_isNaN_int (d : Int × Unit) : Bool × Unit :=
 let a0 : Int := d.1
 (a0 != a0, ())
theorem F_cmp_isNaN_int_tot (N : Nat) (d) : F_cmp_isNaN_int N d = some (g_cmp_isNaN_int d) := by
 unfold F_cmp_isNaN_int g_cmp_isNaN_int
 first
  | rfl
  | (dsimp only; (repeat' split) <;> rfl)
noncomputable def S_cmp_isNaN_int : FSig := ⟨[(I, false)], [.bool], true, (fun d => some (g_cmp_isNaN_int d))⟩
noncomputable def Γ_cmp_Compare_int : Ctx := { tk := assoc tks, ar := assoc ars, fs := assoc [(138, S_cmp_isNaN_int)] }
noncomputable def F_cmp_Compare_int (N : Nat) (d : Int × Int × Unit) : Option (Int × Unit) :=
 let a0 : Int := d.1
 let a1 : Int := d.2.1
 let r1 : Bool × Unit := g_cmp_isNaN_int (a0, ())
 let r2 : Bool × Unit := g_cmp_isNaN_int (a1, ())
 if (r1.1) = true then
  if (r2.1) = true then
   some ((0 : Int), ())
  else
   some ((-1 : Int), ())
 else
  if (r2.1) = true then
   some ((1 : Int), ())
  else
   if (decide (a0 < a1)) = true then
    some ((-1 : Int), ())
   else
    if (decide (a0 > a1)) = true then
     some ((1 : Int), ())
    else
     some ((0 : Int), ())
theorem F_cmp_Compare_int_ok (N : Nat) (d) : fnR Γ_cmp_Compare_int (assoc []) true [(I, false), (I, false)] [I] Tryz.f130.results.toList (bodyOf Tryz.f130) d = F_cmp_Compare_int N d := by kernel_rfl
noncomputable def g_cmp_Compare_int (d : Int × Int × Unit) : Int × Unit :=
 let a0 : Int := d.1
 let a1 : Int := d.2.1
 let r1 : Bool × Unit := g_cmp_isNaN_int (a0, ())
 let r2 : Bool × Unit := g_cmp_isNaN_int (a1, ())
 if (r1.1) = true then
  if (r2.1) = true then
   ((0 : Int), ())
  else
   ((-1 : Int), ())
 else
  if (r2.1) = true then
   ((1 : Int), ())
  else
   if (decide (a0 < a1)) = true then
    ((-1 : Int), ())
   else
    if (decide (a0 > a1)) = true then
     ((1 : Int), ())
    else
     ((0 : Int), ())
theorem F_cmp_Compare_int_tot (N : Nat) (d) : F_cmp_Compare_int N d = some (g_cmp_Compare_int d) := by
 unfold F_cmp_Compare_int g_cmp_Compare_int
 first
  | rfl
  | (dsimp only; (repeat' split) <;> rfl)
noncomputable def S_cmp_Compare_int : FSig := ⟨[(I, false), (I, false)], [I], true, (fun d => some (g_cmp_Compare_int d))⟩
noncomputable def Γ_slices_Compare_Sint_int : Ctx := { tk := assoc tks, ar := assoc ars, fs := assoc [(130, S_cmp_Compare_int)] }
abbrev slices_Compare_Sint_int_l0_H := List Int × List Int × List Int × Int × Int × Unit
abbrev slices_Compare_Sint_int_l0_O := (Int × Unit) ⊕ (List Int × List Int × Unit) ⊕ Empty
def slices_Compare_Sint_int_l0_h : Form := [(0, .v K_Si), (1, .v K_Si), (9, .v K_Si), (10, .v I), (11, .v I)]
def slices_Compare_Sint_int_l0_o : Outs := [(.ret, [(4, .v I)]), (.normal, [(0, .v K_Si), (1, .v K_Si)])]
noncomputable def slices_Compare_Sint_int_l0_r (N : Nat) (back : slices_Compare_Sint_int_l0_H → Option slices_Compare_Sint_int_l0_O) (d : slices_Compare_Sint_int_l0_H) : Option slices_Compare_Sint_int_l0_O :=
 let s0 : List Int := d.1
 let s1 : List Int := d.2.1
 let s9 : List Int := d.2.2.1
 let s10 : Int := d.2.2.2.1
 let s11 : Int := d.2.2.2.2.1
 if (decide (s11 < s10)) = true then
  if (idxIn s11 (List.length s9)) = true then
  if (decide (s11 ≥ (List.length s1 : Int))) = true then
   some (.inl ((1 : Int), ()))
  else
   if (idxIn s11 (List.length s1)) = true then
   let r6 : Int × Unit := g_cmp_Compare_int ((at_ I s9 s11.toNat, (at_ I s1 s11.toNat, ())))
   if (r6.1 != (0 : Int)) = true then
    some (.inl (r6.1, ()))
   else
    let x7 : Int := IntKind.wrap .i64 (s11 + (1 : Int))
    back ((s0, (s1, (s9, (s10, (x7, ()))))))
   else none
  else none
 else
  some (.inr (.inl ((s0, (s1, ())))))
noncomputable def slices_Compare_Sint_int_l0 (N : Nat) : Nat → slices_Compare_Sint_int_l0_H → Option slices_Compare_Sint_int_l0_O
 | 0, _ => none
 | k + 1, d => slices_Compare_Sint_int_l0_r N (slices_Compare_Sint_int_l0 N k) d
theorem slices_Compare_Sint_int_l0_ok (N : Nat) (back) (d) : roundR Γ_slices_Compare_Sint_int (assoc []) 0 slices_Compare_Sint_int_l0_h slices_Compare_Sint_int_l0_o (loopOf Tryz.f113 0) back d = slices_Compare_Sint_int_l0_r N back d := by kernel_rfl
noncomputable def F_slices_Compare_Sint_int (N : Nat) (d : List Int × List Int × Unit) : Option (Int × Unit) :=
 let a0 : List Int := d.1
 let a1 : List Int := d.2.1
 (slices_Compare_Sint_int_l0 N N ((a0, (a1, (a0, ((List.length a0 : Int), ((0 : Int), ()))))))).bind fun o3 => match o3 with
 | .inl d4 =>
  some (d4.1, ())
 | .inr (.inl d5) =>
  if (decide ((List.length d5.1 : Int) < (List.length d5.2.1 : Int))) = true then
   some ((-1 : Int), ())
  else
   some ((0 : Int), ())
theorem F_slices_Compare_Sint_int_ok (N : Nat) (d) : fnR Γ_slices_Compare_Sint_int (assoc [(0, ⟨slices_Compare_Sint_int_l0_h, slices_Compare_Sint_int_l0_o, slices_Compare_Sint_int_l0 N N⟩)]) true [(K_Si, false), (K_Si, false)] [I] Tryz.f113.results.toList (bodyOf Tryz.f113) d = F_slices_Compare_Sint_int N d := by kernel_rfl
noncomputable def S_slices_Compare_Sint_int : FSig := ⟨[(K_Si, false), (K_Si, false)], [I], true, (G_compare)⟩
noncomputable def Γ_impl_IsGraph : Ctx := { tk := assoc tks, ar := assoc ars, fs := assoc [(78, S_impl_within), (113, S_slices_Compare_Sint_int)] }
abbrev impl_IsGraph_l0_H := (Int × (List (Int × Int × Unit)) × Unit) × (List (Int × Int × Unit)) × Int × Int × Unit
abbrev impl_IsGraph_l0_O := (Bool × Unit) ⊕ Unit ⊕ Empty
def impl_IsGraph_l0_h : Form := [(1, .box K_PiSPiiqq 0), (10, .v K_SPiiq), (11, .v I), (12, .v I)]
def impl_IsGraph_l0_o : Outs := [(.ret, [(2, .v .bool)]), (.normal, [])]
noncomputable def impl_IsGraph_l0_r (N : Nat) (back : impl_IsGraph_l0_H → Option impl_IsGraph_l0_O) (d : impl_IsGraph_l0_H) : Option impl_IsGraph_l0_O :=
 let s1 : Int × (List (Int × Int × Unit)) × Unit := d.1
 let s10 : List (Int × Int × Unit) := d.2.1
 let s11 : Int := d.2.2.1
 let s12 : Int := d.2.2.2.1
 if (decide (s12 < s11)) = true then
  if (idxIn s12 (List.length s10)) = true then
  if (decide ((at_ K_Piiq s10 s12.toNat).1 < (0 : Int))) = true then
   some (.inl (false, ()))
  else
   if (decide ((at_ K_Piiq s10 s12.toNat).1 ≥ (at_ K_Piiq s10 s12.toNat).2.1)) = true then
    some (.inl (false, ()))
   else
    if (decide ((at_ K_Piiq s10 s12.toNat).2.1 ≥ s1.1)) = true then
     some (.inl (false, ()))
    else
     if (decide (s12 > (0 : Int))) = true then
      let x9 : Int := IntKind.wrap .i64 (s12 - (1 : Int))
      if (idxIn x9 (List.length s1.2.1)) = true then
      (G_compare (([(at_ K_Piiq s1.2.1 x9.toNat).1, (at_ K_Piiq s1.2.1 x9.toNat).2.1], ([(at_ K_Piiq s10 s12.toNat).1, (at_ K_Piiq s10 s12.toNat).2.1], ())))).bind fun r10 =>
      if (decide (r10.1 ≥ (0 : Int))) = true then
       some (.inl (false, ()))
      else
       let x11 : Int := IntKind.wrap .i64 (s12 + (1 : Int))
       back ((s1, (s10, (s11, (x11, ())))))
      else none
     else
      let x12 : Int := IntKind.wrap .i64 (s12 + (1 : Int))
      back ((s1, (s10, (s11, (x12, ())))))
  else none
 else
  some (.inr (.inl ()))
noncomputable def impl_IsGraph_l0 (N : Nat) : Nat → impl_IsGraph_l0_H → Option impl_IsGraph_l0_O
 | 0, _ => none
 | k + 1, d => impl_IsGraph_l0_r N (impl_IsGraph_l0 N k) d
theorem impl_IsGraph_l0_ok (N : Nat) (back) (d) : roundR Γ_impl_IsGraph (assoc []) 0 impl_IsGraph_l0_h impl_IsGraph_l0_o (loopOf Tryz.f88 0) back d = impl_IsGraph_l0_r N back d := by kernel_rfl
noncomputable def F_impl_IsGraph (N : Nat) (d : (Int × (List (Int × Int × Unit)) × Unit) × Unit) : Option (Bool × Unit) :=
 let a0 : Int × (List (Int × Int × Unit)) × Unit := d.1
 let r1 : Bool × Unit := g_impl_within ((a0.1, ((0 : Int), ((8 : Int), ()))))
 if (!r1.1) = true then
  some (false, ())
 else
  (impl_IsGraph_l0 N N ((a0, (a0.2.1, ((List.length a0.2.1 : Int), ((0 : Int), ())))))).bind fun o6 => match o6 with
  | .inl d7 =>
   some (d7.1, ())
  | .inr (.inl d8) =>
   some (true, ())
theorem F_impl_IsGraph_ok (N : Nat) (d) : fnR Γ_impl_IsGraph (assoc [(0, ⟨impl_IsGraph_l0_h, impl_IsGraph_l0_o, impl_IsGraph_l0 N N⟩)]) true [(K_PiSPiiqq, false)] [.bool] Tryz.f88.results.toList (bodyOf Tryz.f88) d = F_impl_IsGraph N d := by kernel_rfl
noncomputable def S_impl_IsGraph : FSig := ⟨[(K_PiSPiiqq, false)], [.bool], true, (G_graph)⟩
noncomputable def Γ_impl_isCopGame : Ctx := { tk := assoc tks, ar := assoc ars, fs := assoc [(78, S_impl_within), (88, S_impl_IsGraph)] }
noncomputable def F_impl_isCopGame (N : Nat) (d : (Int × (List (Int × Int × Unit)) × Unit) × Int × Unit) : Option (Bool × Unit) :=
 let a0 : Int × (List (Int × Int × Unit)) × Unit := d.1
 let a1 : Int := d.2.1
 (G_graph (a0, ())).bind fun r1 =>
 if (r1.1) = true then
  if (decide (a0.1 > (0 : Int))) = true then
   let r2 : Bool × Unit := g_impl_within ((a1, ((1 : Int), ((3 : Int), ()))))
   some (r2.1, ())
  else
   some (false, ())
 else
  some (false, ())
theorem F_impl_isCopGame_ok (N : Nat) (d) : fnR Γ_impl_isCopGame (assoc []) true [(K_PiSPiiqq, false), (I, false)] [.bool] Tryz.f62.results.toList (bodyOf Tryz.f62) d = F_impl_isCopGame N d := by kernel_rfl
noncomputable def S_impl_isCopGame : FSig := ⟨[(K_PiSPiiqq, false), (I, false)], [.bool], true, (F_impl_isCopGame 0)⟩
noncomputable def Γ_impl_allWithin : Ctx := { tk := assoc tks, ar := assoc ars, fs := assoc [(78, S_impl_within)] }
abbrev impl_allWithin_l0_H := Int × Int × List Int × Int × Int × Unit
abbrev impl_allWithin_l0_O := (Bool × Unit) ⊕ Unit ⊕ Empty
def impl_allWithin_l0_h : Form := [(1, .v I), (2, .v I), (9, .v K_Si), (10, .v I), (11, .v I)]
def impl_allWithin_l0_o : Outs := [(.ret, [(6, .v .bool)]), (.normal, [])]
noncomputable def impl_allWithin_l0_r (N : Nat) (back : impl_allWithin_l0_H → Option impl_allWithin_l0_O) (d : impl_allWithin_l0_H) : Option impl_allWithin_l0_O :=
 let s1 : Int := d.1
 let s2 : Int := d.2.1
 let s9 : List Int := d.2.2.1
 let s10 : Int := d.2.2.2.1
 let s11 : Int := d.2.2.2.2.1
 if (decide (s11 < s10)) = true then
  if (idxIn s11 (List.length s9)) = true then
  let r6 : Bool × Unit := g_impl_within ((at_ I s9 s11.toNat, (s1, (s2, ()))))
  if (!r6.1) = true then
   some (.inl (false, ()))
  else
   let x7 : Int := IntKind.wrap .i64 (s11 + (1 : Int))
   back ((s1, (s2, (s9, (s10, (x7, ()))))))
  else none
 else
  some (.inr (.inl ()))
noncomputable def impl_allWithin_l0 (N : Nat) : Nat → impl_allWithin_l0_H → Option impl_allWithin_l0_O
 | 0, _ => none
 | k + 1, d => impl_allWithin_l0_r N (impl_allWithin_l0 N k) d
theorem impl_allWithin_l0_ok (N : Nat) (back) (d) : roundR Γ_impl_allWithin (assoc []) 0 impl_allWithin_l0_h impl_allWithin_l0_o (loopOf Tryz.f110 0) back d = impl_allWithin_l0_r N back d := by kernel_rfl
noncomputable def F_impl_allWithin (N : Nat) (d : List Int × Int × Int × Unit) : Option (Bool × Unit) :=
 let a0 : List Int := d.1
 let a1 : Int := d.2.1
 let a2 : Int := d.2.2.1
 (impl_allWithin_l0 N N ((a1, (a2, (a0, ((List.length a0 : Int), ((0 : Int), ()))))))).bind fun o3 => match o3 with
 | .inl d4 =>
  some (d4.1, ())
 | .inr (.inl d5) =>
  some (true, ())
theorem F_impl_allWithin_ok (N : Nat) (d) : fnR Γ_impl_allWithin (assoc [(0, ⟨impl_allWithin_l0_h, impl_allWithin_l0_o, impl_allWithin_l0 N N⟩)]) true [(K_Si, false), (I, false), (I, false)] [.bool] Tryz.f110.results.toList (bodyOf Tryz.f110) d = F_impl_allWithin N d := by kernel_rfl
noncomputable def S_impl_allWithin : FSig := ⟨[(K_Si, false), (I, false), (I, false)], [.bool], true, (G_allWithin)⟩
noncomputable def Γ_impl_hasNodes : Ctx := { tk := assoc tks, ar := assoc ars, fs := assoc [(88, S_impl_IsGraph), (110, S_impl_allWithin)] }
noncomputable def F_impl_hasNodes (N : Nat) (d : (Int × (List (Int × Int × Unit)) × Unit) × List Int × Unit) : Option (Bool × Unit) :=
 let a0 : Int × (List (Int × Int × Unit)) × Unit := d.1
 let a1 : List Int := d.2.1
 (G_graph (a0, ())).bind fun r1 =>
 if (r1.1) = true then
  let x2 : Int := IntKind.wrap .i64 (a0.1 - (1 : Int))
  (G_allWithin ((a1, ((0 : Int), (x2, ()))))).bind fun r3 =>
  some (r3.1, ())
 else
  some (false, ())
theorem F_impl_hasNodes_ok (N : Nat) (d) : fnR Γ_impl_hasNodes (assoc []) true [(K_PiSPiiqq, false), (K_Si, false)] [.bool] Tryz.f68.results.toList (bodyOf Tryz.f68) d = F_impl_hasNodes N d := by kernel_rfl
noncomputable def S_impl_hasNodes : FSig := ⟨[(K_PiSPiiqq, false), (K_Si, false)], [.bool], true, (F_impl_hasNodes 0)⟩
noncomputable def Γ_cmp_Less_int : Ctx := { tk := assoc tks, ar := assoc ars, fs := assoc [(138, S_cmp_isNaN_int)] }
noncomputable def F_cmp_Less_int (N : Nat) (d : Int × Int × Unit) : Option (Bool × Unit) :=
 let a0 : Int := d.1
 let a1 : Int := d.2.1
 let r1 : Bool × Unit := g_cmp_isNaN_int (a0, ())
 if (r1.1) = true then
  let r2 : Bool × Unit := g_cmp_isNaN_int (a1, ())
  if (!r2.1) = true then
   some (true, ())
  else
   some (decide (a0 < a1), ())
 else
  some (decide (a0 < a1), ())
theorem F_cmp_Less_int_ok (N : Nat) (d) : fnR Γ_cmp_Less_int (assoc []) true [(I, false), (I, false)] [.bool] Tryz.f129.results.toList (bodyOf Tryz.f129) d = F_cmp_Less_int N d := by kernel_rfl
noncomputable def g_cmp_Less_int (d : Int × Int × Unit) : Bool × Unit :=
 let a0 : Int := d.1
 let a1 : Int := d.2.1
 let r1 : Bool × Unit := g_cmp_isNaN_int (a0, ())
 if (r1.1) = true then
  let r2 : Bool × Unit := g_cmp_isNaN_int (a1, ())
  if (!r2.1) = true then
   (true, ())
  else
   (decide (a0 < a1), ())
 else
  (decide (a0 < a1), ())
theorem F_cmp_Less_int_tot (N : Nat) (d) : F_cmp_Less_int N d = some (g_cmp_Less_int d) := by
 unfold F_cmp_Less_int g_cmp_Less_int
 first
  | rfl
  | (dsimp only; (repeat' split) <;> rfl)
noncomputable def S_cmp_Less_int : FSig := ⟨[(I, false), (I, false)], [.bool], true, (fun d => some (g_cmp_Less_int d))⟩
noncomputable def Γ_slices_IsSorted_Sint_int : Ctx := { tk := assoc tks, ar := assoc ars, fs := assoc [(129, S_cmp_Less_int)] }
abbrev slices_IsSorted_Sint_int_l0_H := List Int × Int × Unit
abbrev slices_IsSorted_Sint_int_l0_O := (Bool × Unit) ⊕ Unit ⊕ Empty
def slices_IsSorted_Sint_int_l0_h : Form := [(0, .v K_Si), (3, .v I)]
def slices_IsSorted_Sint_int_l0_o : Outs := [(.ret, [(2, .v .bool)]), (.normal, [])]
noncomputable def slices_IsSorted_Sint_int_l0_r (N : Nat) (back : slices_IsSorted_Sint_int_l0_H → Option slices_IsSorted_Sint_int_l0_O) (d : slices_IsSorted_Sint_int_l0_H) : Option slices_IsSorted_Sint_int_l0_O :=
 let s0 : List Int := d.1
 let s3 : Int := d.2.1
 if (decide (s3 > (0 : Int))) = true then
  if (idxIn s3 (List.length s0)) = true then
  let x8 : Int := IntKind.wrap .i64 (s3 - (1 : Int))
  if (idxIn x8 (List.length s0)) = true then
  let r9 : Bool × Unit := g_cmp_Less_int ((at_ I s0 s3.toNat, (at_ I s0 x8.toNat, ())))
  if (r9.1) = true then
   some (.inl (false, ()))
  else
   let x10 : Int := IntKind.wrap .i64 (s3 - (1 : Int))
   back ((s0, (x10, ())))
  else none
  else none
 else
  some (.inr (.inl ()))
noncomputable def slices_IsSorted_Sint_int_l0 (N : Nat) : Nat → slices_IsSorted_Sint_int_l0_H → Option slices_IsSorted_Sint_int_l0_O
 | 0, _ => none
 | k + 1, d => slices_IsSorted_Sint_int_l0_r N (slices_IsSorted_Sint_int_l0 N k) d
theorem slices_IsSorted_Sint_int_l0_ok (N : Nat) (back) (d) : roundR Γ_slices_IsSorted_Sint_int (assoc []) 0 slices_IsSorted_Sint_int_l0_h slices_IsSorted_Sint_int_l0_o (loopOf Tryz.f109 0) back d = slices_IsSorted_Sint_int_l0_r N back d := by kernel_rfl
noncomputable def F_slices_IsSorted_Sint_int (N : Nat) (d : List Int × Unit) : Option (Bool × Unit) :=
 let a0 : List Int := d.1
 let x1 : Int := IntKind.wrap .i64 ((List.length a0 : Int) - (1 : Int))
 (slices_IsSorted_Sint_int_l0 N N ((a0, (x1, ())))).bind fun o5 => match o5 with
 | .inl d6 =>
  some (d6.1, ())
 | .inr (.inl d7) =>
  some (true, ())
theorem F_slices_IsSorted_Sint_int_ok (N : Nat) (d) : fnR Γ_slices_IsSorted_Sint_int (assoc [(0, ⟨slices_IsSorted_Sint_int_l0_h, slices_IsSorted_Sint_int_l0_o, slices_IsSorted_Sint_int_l0 N N⟩)]) true [(K_Si, false)] [.bool] Tryz.f109.results.toList (bodyOf Tryz.f109) d = F_slices_IsSorted_Sint_int N d := by kernel_rfl
noncomputable def S_slices_IsSorted_Sint_int : FSig := ⟨[(K_Si, false)], [.bool], true, (G_isSorted)⟩
noncomputable def Γ_impl_areCops : Ctx := { tk := assoc tks, ar := assoc ars, fs := assoc [(62, S_impl_isCopGame), (68, S_impl_hasNodes), (109, S_slices_IsSorted_Sint_int)] }
noncomputable def F_impl_areCops (N : Nat) (d : (Int × (List (Int × Int × Unit)) × Unit) × List Int × Unit) : Option (Bool × Unit) :=
 let a0 : Int × (List (Int × Int × Unit)) × Unit := d.1
 let a1 : List Int := d.2.1
 ((F_impl_isCopGame 0) ((a0, ((List.length a1 : Int), ())))).bind fun r1 =>
 if (r1.1) = true then
  ((F_impl_hasNodes 0) ((a0, (a1, ())))).bind fun r2 =>
  if (r2.1) = true then
   (G_isSorted (a1, ())).bind fun r3 =>
   some (r3.1, ())
  else
   some (false, ())
 else
  some (false, ())
theorem F_impl_areCops_ok (N : Nat) (d) : fnR Γ_impl_areCops (assoc []) true [(K_PiSPiiqq, false), (K_Si, false)] [.bool] Tryz.f67.results.toList (bodyOf Tryz.f67) d = F_impl_areCops N d := by kernel_rfl
noncomputable def S_impl_areCops : FSig := ⟨[(K_PiSPiiqq, false), (K_Si, false)], [.bool], true, (F_impl_areCops 0)⟩
noncomputable def Γ_impl_netOf : Ctx := { tk := assoc tks, ar := assoc ars, fs := assoc [] }
abbrev impl_netOf_l0_H := (List Int × Unit) × (List Int × Unit) × (List (Int × Int × Unit)) × Int × Int × Unit
abbrev impl_netOf_l0_O := ((List Int × Unit) × (List Int × Unit) × Unit) ⊕ Empty
def impl_netOf_l0_h : Form := [(2, .box K_PSiq 99), (3, .box K_PSiq 99), (11, .v K_SPiiq), (12, .v I), (13, .v I)]
def impl_netOf_l0_o : Outs := [(.normal, [(2, .box K_PSiq 99), (3, .box K_PSiq 99)])]
noncomputable def impl_netOf_l0_r (N : Nat) (back : impl_netOf_l0_H → Option impl_netOf_l0_O) (d : impl_netOf_l0_H) : Option impl_netOf_l0_O :=
 let s2 : List Int × Unit := d.1
 let s3 : List Int × Unit := d.2.1
 let s11 : List (Int × Int × Unit) := d.2.2.1
 let s12 : Int := d.2.2.2.1
 let s13 : Int := d.2.2.2.2.1
 if (decide (s13 < s12)) = true then
  if (idxIn s13 (List.length s11)) = true then
  if (idxIn (at_ K_Piiq s11 s13.toNat).1 (List.length s3.1)) = true then
  if (decide (0 ≤ (at_ K_Piiq s11 s13.toNat).2.1)) = true then
  let x9 : Int := shl .i64 (1 : Int) (at_ K_Piiq s11 s13.toNat).2.1
  let x10 : Int := bits .or .i64 (at_ I s3.1 (at_ K_Piiq s11 s13.toNat).1.toNat) x9
  if (idxIn (at_ K_Piiq s11 s13.toNat).1 (List.length s3.1)) = true then
  if (idxIn (at_ K_Piiq s11 s13.toNat).2.1 (List.length (List.set s3.1 (at_ K_Piiq s11 s13.toNat).1.toNat x10))) = true then
  if (decide (0 ≤ (at_ K_Piiq s11 s13.toNat).1)) = true then
  let x11 : Int := shl .i64 (1 : Int) (at_ K_Piiq s11 s13.toNat).1
  let x12 : Int := bits .or .i64 (at_ I (List.set s3.1 (at_ K_Piiq s11 s13.toNat).1.toNat x10) (at_ K_Piiq s11 s13.toNat).2.1.toNat) x11
  if (idxIn (at_ K_Piiq s11 s13.toNat).2.1 (List.length (List.set s3.1 (at_ K_Piiq s11 s13.toNat).1.toNat x10))) = true then
  let x13 : Int := IntKind.wrap .i64 (s13 + (1 : Int))
  back ((s2, ((List.set (List.set s3.1 (at_ K_Piiq s11 s13.toNat).1.toNat x10) (at_ K_Piiq s11 s13.toNat).2.1.toNat x12, s3.2), (s11, (s12, (x13, ()))))))
  else none
  else none
  else none
  else none
  else none
  else none
  else none
 else
  some (.inl ((s2, (s3, ()))))
noncomputable def impl_netOf_l0 (N : Nat) : Nat → impl_netOf_l0_H → Option impl_netOf_l0_O
 | 0, _ => none
 | k + 1, d => impl_netOf_l0_r N (impl_netOf_l0 N k) d
theorem impl_netOf_l0_ok (N : Nat) (back) (d) : roundR Γ_impl_netOf (assoc []) 0 impl_netOf_l0_h impl_netOf_l0_o (loopOf Tryz.f50 0) back d = impl_netOf_l0_r N back d := by kernel_rfl
noncomputable def F_impl_netOf (N : Nat) (d : (Int × (List (Int × Int × Unit)) × Unit) × Unit) : Option ((List Int × Unit) × Unit) :=
 let a0 : Int × (List (Int × Int × Unit)) × Unit := d.1
 if ((decide (0 ≤ a0.1) && decide (a0.1 ≤ a0.1) && decide (a0.1 ≤ (lim : Int)))) = true then
 let x1 : List Int := List.replicate a0.1.toNat (0 : Int)
 (impl_netOf_l0 N N (((([] : List Int), ()), ((x1, ()), (a0.2.1, ((List.length a0.2.1 : Int), ((0 : Int), ()))))))).bind fun o7 => match o7 with
 | .inl d8 =>
  some (d8.2.1, ())
 else none
theorem F_impl_netOf_ok (N : Nat) (d) : fnR Γ_impl_netOf (assoc [(0, ⟨impl_netOf_l0_h, impl_netOf_l0_o, impl_netOf_l0 N N⟩)]) true [(K_PiSPiiqq, false)] [K_PSiq] Tryz.f50.results.toList (bodyOf Tryz.f50) d = F_impl_netOf N d := by kernel_rfl
noncomputable def S_impl_netOf : FSig := ⟨[(K_PiSPiiqq, false)], [K_PSiq], true, (G_netOf)⟩
noncomputable def Γ_impl_net_size : Ctx := { tk := assoc tks, ar := assoc ars, fs := assoc [] }
noncomputable def F_impl_net_size (N : Nat) (d : (List Int × Unit) × Unit) : Option (Int × Unit) :=
 let a0 : List Int × Unit := d.1
 some ((List.length a0.1 : Int), ())
theorem F_impl_net_size_ok (N : Nat) (d) : fnR Γ_impl_net_size (assoc []) true [(K_PSiq, false)] [I] Tryz.f105.results.toList (bodyOf Tryz.f105) d = F_impl_net_size N d := by kernel_rfl
noncomputable def g_impl_net_size (d : (List Int × Unit) × Unit) : Int × Unit :=
 let a0 : List Int × Unit := d.1
 ((List.length a0.1 : Int), ())
theorem F_impl_net_size_tot (N : Nat) (d) : F_impl_net_size N d = some (g_impl_net_size d) := by
 unfold F_impl_net_size g_impl_net_size
 first
  | rfl
  | (dsimp only; (repeat' split) <;> rfl)
noncomputable def S_impl_net_size : FSig := ⟨[(K_PSiq, false)], [I], true, (fun d => some (g_impl_net_size d))⟩
noncomputable def Γ_slices_Clone_Sint_int : Ctx := { tk := assoc tks, ar := assoc ars, fs := assoc [] }
noncomputable def F_slices_Clone_Sint_int (N : Nat) (d : List Int × Unit) : Option (List Int × Unit) :=
 let a0 : List Int := d.1
 if (decide (List.length a0 = 0)) = true then
  both (
    some (([] : List Int), ())) (
    if (decide (List.length ([] : List Int) + List.length a0 ≤ lim)) = true then
    some (([] : List Int) ++ a0, ())
    else none)
 else
  if (decide (List.length ([] : List Int) + List.length a0 ≤ lim)) = true then
  some (([] : List Int) ++ a0, ())
  else none
theorem F_slices_Clone_Sint_int_ok (N : Nat) (d) : fnR Γ_slices_Clone_Sint_int (assoc []) true [(K_Si, false)] [K_Si] Tryz.f80.results.toList (bodyOf Tryz.f80) d = F_slices_Clone_Sint_int N d := by kernel_rfl
noncomputable def S_slices_Clone_Sint_int : FSig := ⟨[(K_Si, false)], [K_Si], true, (G_toIntS)⟩
noncomputable def Γ_impl_copLists : Ctx := { tk := assoc tks, ar := assoc ars, fs := assoc [(80, S_slices_Clone_Sint_int)], dm := fun t => Nat.beq t 8 || Nat.beq t 15, cs := assoc [] }
abbrev impl_copLists_l4_H := Int × List (List Int) × List Int × Int × Int × Int × List (List Int) × Int × Int × Unit
abbrev impl_copLists_l4_O := (Int × List (List Int) × Int × Int × List (List Int) × Int × Int × Unit) ⊕ Empty
def impl_copLists_l4_h : Form := [(0, .v I), (6, .own K_SSi 99), (8, .v K_Si), (10, .v I), (12, .v I), (13, .v I), (15, .v K_SSi), (16, .v I), (17, .v I)]
def impl_copLists_l4_o : Outs := [(.normal, [(0, .v I), (6, .own K_SSi 99), (12, .v I), (13, .v I), (15, .v K_SSi), (16, .v I), (17, .v I)])]
noncomputable def impl_copLists_l4_r (N : Nat) (back : impl_copLists_l4_H → Option impl_copLists_l4_O) (d : impl_copLists_l4_H) : Option impl_copLists_l4_O :=
 let s0 : Int := d.1
 let s6 : List (List Int) := d.2.1
 let s8 : List Int := d.2.2.1
 let s10 : Int := d.2.2.2.1
 let s12 : Int := d.2.2.2.2.1
 let s13 : Int := d.2.2.2.2.2.1
 let s15 : List (List Int) := d.2.2.2.2.2.2.1
 let s16 : Int := d.2.2.2.2.2.2.2.1
 let s17 : Int := d.2.2.2.2.2.2.2.2.1
 if (decide (s10 < s0)) = true then
  (G_toIntS (s8, ())).bind fun r48 =>
  if (decide (List.length r48.1 + List.length ([s10]) ≤ lim)) = true then
  if (decide (List.length s6 + List.length ([r48.1 ++ ([s10])]) ≤ lim)) = true then
  let x49 : Int := IntKind.wrap .i64 (s10 + (1 : Int))
  back ((s0, (s6 ++ ([r48.1 ++ ([s10])]), (s8, (x49, (s12, (s13, (s15, (s16, (s17, ()))))))))))
  else none
  else none
 else
  some (.inl ((s0, (s6, (s12, (s13, (s15, (s16, (s17, ())))))))))
noncomputable def impl_copLists_l4 (N : Nat) : Nat → impl_copLists_l4_H → Option impl_copLists_l4_O
 | 0, _ => none
 | k + 1, d => impl_copLists_l4_r N (impl_copLists_l4 N k) d
theorem impl_copLists_l4_ok (N : Nat) (back) (d) : roundR Γ_impl_copLists (assoc []) 4 impl_copLists_l4_h impl_copLists_l4_o (loopOf Tryz.f125 4) back d = impl_copLists_l4_r N back d := by kernel_rfl
abbrev impl_copLists_l2_H := Int × List (List Int) × Int × Int × List (List Int) × Int × Int × Unit
abbrev impl_copLists_l2_O := (Int × List (List Int) × Int × Int × Unit) ⊕ Empty
def impl_copLists_l2_h : Form := [(0, .v I), (6, .own K_SSi 99), (12, .v I), (13, .v I), (15, .v K_SSi), (16, .v I), (17, .v I)]
def impl_copLists_l2_o : Outs := [(.normal, [(0, .v I), (6, .own K_SSi 99), (12, .v I), (13, .v I)])]
noncomputable def impl_copLists_l2_r (N : Nat) (back : impl_copLists_l2_H → Option impl_copLists_l2_O) (d : impl_copLists_l2_H) : Option impl_copLists_l2_O :=
 let s0 : Int := d.1
 let s6 : List (List Int) := d.2.1
 let s12 : Int := d.2.2.1
 let s13 : Int := d.2.2.2.1
 let s15 : List (List Int) := d.2.2.2.2.1
 let s16 : Int := d.2.2.2.2.2.1
 let s17 : Int := d.2.2.2.2.2.2.1
 if (decide (s17 < s16)) = true then
  if (idxIn s17 (List.length s15)) = true then
  if (decide ((List.length (at_ K_Si s15 s17.toNat) : Int) > (0 : Int))) = true then
   let x39 : Int := IntKind.wrap .i64 ((List.length (at_ K_Si s15 s17.toNat) : Int) - (1 : Int))
   if (idxIn x39 (List.length (at_ K_Si s15 s17.toNat))) = true then
   (impl_copLists_l4 N N ((s0, (s6, (at_ K_Si s15 s17.toNat, (at_ I (at_ K_Si s15 s17.toNat) x39.toNat, (s12, (s13, (s15, (s16, (s17, ()))))))))))).bind fun o42 => match o42 with
   | .inl d43 =>
    let x44 : Int := IntKind.wrap .i64 (d43.2.2.2.2.2.2.1 + (1 : Int))
    back ((d43.1, (d43.2.1, (d43.2.2.1, (d43.2.2.2.1, (d43.2.2.2.2.1, (d43.2.2.2.2.2.1, (x44, ()))))))))
   else none
  else
   (impl_copLists_l4 N N ((s0, (s6, (at_ K_Si s15 s17.toNat, ((0 : Int), (s12, (s13, (s15, (s16, (s17, ()))))))))))).bind fun o45 => match o45 with
   | .inl d46 =>
    let x47 : Int := IntKind.wrap .i64 (d46.2.2.2.2.2.2.1 + (1 : Int))
    back ((d46.1, (d46.2.1, (d46.2.2.1, (d46.2.2.2.1, (d46.2.2.2.2.1, (d46.2.2.2.2.2.1, (x47, ()))))))))
  else none
 else
  some (.inl ((s0, (s6, (s12, (s13, ()))))))
noncomputable def impl_copLists_l2 (N : Nat) : Nat → impl_copLists_l2_H → Option impl_copLists_l2_O
 | 0, _ => none
 | k + 1, d => impl_copLists_l2_r N (impl_copLists_l2 N k) d
theorem impl_copLists_l2_ok (N : Nat) (back) (d) : roundR Γ_impl_copLists (assoc [(4, ⟨impl_copLists_l4_h, impl_copLists_l4_o, impl_copLists_l4 N N⟩)]) 2 impl_copLists_l2_h impl_copLists_l2_o (loopOf Tryz.f125 2) back d = impl_copLists_l2_r N back d := by kernel_rfl
abbrev impl_copLists_l0_H := Int × List (List Int) × Int × Int × Unit
abbrev impl_copLists_l0_O := (List (List Int) × Unit) ⊕ Empty
def impl_copLists_l0_h : Form := [(0, .v I), (5, .own K_SSi 99), (12, .v I), (13, .v I)]
def impl_copLists_l0_o : Outs := [(.normal, [(5, .own K_SSi 99)])]
noncomputable def impl_copLists_l0_r (N : Nat) (back : impl_copLists_l0_H → Option impl_copLists_l0_O) (d : impl_copLists_l0_H) : Option impl_copLists_l0_O :=
 let s0 : Int := d.1
 let s5 : List (List Int) := d.2.1
 let s12 : Int := d.2.2.1
 let s13 : Int := d.2.2.2.1
 if (decide (s13 < s12)) = true then
  (impl_copLists_l2 N N ((s0, (([] : List (List Int)), (s12, (s13, (s5, ((List.length s5 : Int), ((0 : Int), ()))))))))).bind fun o36 => match o36 with
  | .inl d37 =>
   let x38 : Int := IntKind.wrap .i64 (d37.2.2.2.1 + (1 : Int))
   back ((d37.1, (d37.2.1, (d37.2.2.1, (x38, ())))))
 else
  some (.inl (s5, ()))
noncomputable def impl_copLists_l0 (N : Nat) : Nat → impl_copLists_l0_H → Option impl_copLists_l0_O
 | 0, _ => none
 | k + 1, d => impl_copLists_l0_r N (impl_copLists_l0 N k) d
theorem impl_copLists_l0_ok (N : Nat) (back) (d) : roundR Γ_impl_copLists (assoc [(2, ⟨impl_copLists_l2_h, impl_copLists_l2_o, impl_copLists_l2 N N⟩)]) 0 impl_copLists_l0_h impl_copLists_l0_o (loopOf Tryz.f125 0) back d = impl_copLists_l0_r N back d := by kernel_rfl
noncomputable def F_impl_copLists (N : Nat) (d : Int × Int × Unit) : Option (List (List Int) × Unit) :=
 let a0 : Int := d.1
 let a1 : Int := d.2.1
 (impl_copLists_l0 N N ((a0, ([([] : List Int)], (a1, ((0 : Int), ())))))).bind fun o25 => match o25 with
 | .inl d26 =>
  some (d26.1, ())
theorem F_impl_copLists_ok (N : Nat) (d) : fnR Γ_impl_copLists (assoc [(0, ⟨impl_copLists_l0_h, impl_copLists_l0_o, impl_copLists_l0 N N⟩)]) true [(I, false), (I, false)] [K_SSi] Tryz.f125.results.toList (bodyOf Tryz.f125) d = F_impl_copLists N d := by kernel_rfl
noncomputable def S_impl_copLists : FSig := ⟨[(I, false), (I, false)], [K_SSi], true, (G_configs)⟩
noncomputable def Γ_impl_net_closed : Ctx := { tk := assoc tks, ar := assoc ars, fs := assoc [] }
noncomputable def F_impl_net_closed (N : Nat) (d : (List Int × Unit) × Int × Unit) : Option (Int × Unit) :=
 let a0 : List Int × Unit := d.1
 let a1 : Int := d.2.1
 if (idxIn a1 (List.length a0.1)) = true then
 if (decide (0 ≤ a1)) = true then
 let x1 : Int := bits .or .i64 (at_ I a0.1 a1.toNat) (shl .i64 (1 : Int) a1)
 some (x1, ())
 else none
 else none
theorem F_impl_net_closed_ok (N : Nat) (d) : fnR Γ_impl_net_closed (assoc []) true [(K_PSiq, false), (I, false)] [I] Tryz.f100.results.toList (bodyOf Tryz.f100) d = F_impl_net_closed N d := by kernel_rfl
noncomputable def S_impl_net_closed : FSig := ⟨[(K_PSiq, false), (I, false)], [I], true, (F_impl_net_closed 0)⟩
noncomputable def Γ_impl_setOf : Ctx := { tk := assoc tks, ar := assoc ars, fs := assoc [] }
abbrev impl_setOf_l0_H := Int × List Int × Int × Unit
abbrev impl_setOf_l0_O := (List Int × Unit) ⊕ Empty
def impl_setOf_l0_h : Form := [(0, .v I), (3, .own K_Si 99), (4, .v I)]
def impl_setOf_l0_o : Outs := [(.normal, [(3, .own K_Si 99)])]
noncomputable def impl_setOf_l0_r (N : Nat) (back : impl_setOf_l0_H → Option impl_setOf_l0_O) (d : impl_setOf_l0_H) : Option impl_setOf_l0_O :=
 let s0 : Int := d.1
 let s3 : List Int := d.2.1
 let s4 : Int := d.2.2.1
 if (decide (0 ≤ s4)) = true then
 if (shr .i64 s0 s4 != (0 : Int)) = true then
  if (decide (0 ≤ s4)) = true then
  let x6 : Int := bits .and .i64 (shr .i64 s0 s4) (1 : Int)
  if (x6 == (1 : Int)) = true then
   if (decide (List.length s3 + List.length ([s4]) ≤ lim)) = true then
   let x7 : Int := IntKind.wrap .i64 (s4 + (1 : Int))
   back ((s0, (s3 ++ ([s4]), (x7, ()))))
   else none
  else
   let x8 : Int := IntKind.wrap .i64 (s4 + (1 : Int))
   back ((s0, (s3, (x8, ()))))
  else none
 else
  some (.inl (s3, ()))
 else none
noncomputable def impl_setOf_l0 (N : Nat) : Nat → impl_setOf_l0_H → Option impl_setOf_l0_O
 | 0, _ => none
 | k + 1, d => impl_setOf_l0_r N (impl_setOf_l0 N k) d
theorem impl_setOf_l0_ok (N : Nat) (back) (d) : roundR Γ_impl_setOf (assoc []) 0 impl_setOf_l0_h impl_setOf_l0_o (loopOf Tryz.f52 0) back d = impl_setOf_l0_r N back d := by kernel_rfl
noncomputable def F_impl_setOf (N : Nat) (d : Int × Unit) : Option (List Int × Unit) :=
 let a0 : Int := d.1
 (impl_setOf_l0 N N ((a0, (([] : List Int), ((0 : Int), ()))))).bind fun o4 => match o4 with
 | .inl d5 =>
  some (d5.1, ())
theorem F_impl_setOf_ok (N : Nat) (d) : fnR Γ_impl_setOf (assoc [(0, ⟨impl_setOf_l0_h, impl_setOf_l0_o, impl_setOf_l0 N N⟩)]) true [(I, false)] [K_Si] Tryz.f52.results.toList (bodyOf Tryz.f52) d = F_impl_setOf N d := by kernel_rfl
noncomputable def S_impl_setOf : FSig := ⟨[(I, false)], [K_Si], true, (G_setOf)⟩
def S_slices_Sort_Sint_int : FSig := ⟨[(K_Si, true)], [], true, G_sortI⟩
def S_slices_SortFunc_SSint_Sint_by_slices_Compare_Sint_int : FSig := ⟨[(K_SSi, true), (K_F_slices_Compare_Sint_int_qq, false)], [], true, G_sortF⟩
def S_slices_CompactFunc_SSint_Sint_by_slices_Equal_Sint_int : FSig := ⟨[(K_SSi, true), (K_F_slices_Equal_Sint_int_qq, false)], [K_SSi], true, G_compactF⟩
noncomputable def Γ_impl_net_copMoves : Ctx := { tk := assoc tks, ar := assoc ars, fs := assoc [(52, S_impl_setOf), (80, S_slices_Clone_Sint_int), (100, S_impl_net_closed), (121, S_slices_Sort_Sint_int), (122, S_slices_SortFunc_SSint_Sint_by_slices_Compare_Sint_int)], dm := fun t => Nat.beq t 10 || Nat.beq t 22, cs := assoc [], gs := assoc [(123, (S_slices_CompactFunc_SSint_Sint_by_slices_Equal_Sint_int, { gone := [0], deep := [] }))], eqt := inL [], md := md0 }
abbrev impl_net_copMoves_l4_H := (List Int × Unit) × Int × List (List Int) × List Int × List Int × Int × Int × List (List Int) × Int × Int × List Int × Int × Int × Unit
abbrev impl_net_copMoves_l4_O := ((List Int × Unit) × Int × List (List Int) × List Int × Int × Int × List (List Int) × Int × Int × Unit) ⊕ Empty
def impl_net_copMoves_l4_h : Form := [(2, .box K_PSiq 0), (7, .v I), (8, .own K_SSi 99), (10, .v K_Si), (16, .v K_Si), (17, .v I), (18, .v I), (22, .v K_SSi), (23, .v I), (24, .v I), (31, .own K_Si 99), (32, .v I), (33, .v I)]
def impl_net_copMoves_l4_o : Outs := [(.normal, [(2, .box K_PSiq 0), (7, .v I), (8, .own K_SSi 99), (16, .v K_Si), (17, .v I), (18, .v I), (22, .v K_SSi), (23, .v I), (24, .v I)])]
noncomputable def impl_net_copMoves_l4_r (N : Nat) (back : impl_net_copMoves_l4_H → Option impl_net_copMoves_l4_O) (d : impl_net_copMoves_l4_H) : Option impl_net_copMoves_l4_O :=
 let s2 : List Int × Unit := d.1
 let s7 : Int := d.2.1
 let s8 : List (List Int) := d.2.2.1
 let s10 : List Int := d.2.2.2.1
 let s16 : List Int := d.2.2.2.2.1
 let s17 : Int := d.2.2.2.2.2.1
 let s18 : Int := d.2.2.2.2.2.2.1
 let s22 : List (List Int) := d.2.2.2.2.2.2.2.1
 let s23 : Int := d.2.2.2.2.2.2.2.2.1
 let s24 : Int := d.2.2.2.2.2.2.2.2.2.1
 let s31 : List Int := d.2.2.2.2.2.2.2.2.2.2.1
 let s32 : Int := d.2.2.2.2.2.2.2.2.2.2.2.1
 let s33 : Int := d.2.2.2.2.2.2.2.2.2.2.2.2.1
 if (decide (s33 < s32)) = true then
  if (idxIn s33 (List.length s31)) = true then
  (G_toIntS (s10, ())).bind fun r50 =>
  if (decide (List.length r50.1 + List.length ([at_ I s31 s33.toNat]) ≤ lim)) = true then
  let x51 : List Int := r50.1 ++ ([at_ I s31 s33.toNat])
  if (decide (List.length s8 + List.length ([x51]) ≤ lim)) = true then
  let x52 : Int := IntKind.wrap .i64 (s33 + (1 : Int))
  back ((s2, (s7, (s8 ++ ([x51]), (s10, (s16, (s17, (s18, (s22, (s23, (s24, (s31, (s32, (x52, ()))))))))))))))
  else none
  else none
  else none
 else
  some (.inl ((s2, (s7, (s8, (s16, (s17, (s18, (s22, (s23, (s24, ())))))))))))
noncomputable def impl_net_copMoves_l4 (N : Nat) : Nat → impl_net_copMoves_l4_H → Option impl_net_copMoves_l4_O
 | 0, _ => none
 | k + 1, d => impl_net_copMoves_l4_r N (impl_net_copMoves_l4 N k) d
theorem impl_net_copMoves_l4_ok (N : Nat) (back) (d) : roundR Γ_impl_net_copMoves (assoc []) 4 impl_net_copMoves_l4_h impl_net_copMoves_l4_o (loopOf Tryz.f90 4) back d = impl_net_copMoves_l4_r N back d := by kernel_rfl
abbrev impl_net_copMoves_l2_H := (List Int × Unit) × Int × List (List Int) × List Int × Int × Int × List (List Int) × Int × Int × Unit
abbrev impl_net_copMoves_l2_O := ((List Int × Unit) × List (List Int) × List Int × Int × Int × Unit) ⊕ Empty
def impl_net_copMoves_l2_h : Form := [(2, .box K_PSiq 0), (7, .v I), (8, .own K_SSi 99), (16, .v K_Si), (17, .v I), (18, .v I), (22, .v K_SSi), (23, .v I), (24, .v I)]
def impl_net_copMoves_l2_o : Outs := [(.normal, [(2, .box K_PSiq 0), (8, .own K_SSi 99), (16, .v K_Si), (17, .v I), (18, .v I)])]
noncomputable def impl_net_copMoves_l2_r (N : Nat) (back : impl_net_copMoves_l2_H → Option impl_net_copMoves_l2_O) (d : impl_net_copMoves_l2_H) : Option impl_net_copMoves_l2_O :=
 let s2 : List Int × Unit := d.1
 let s7 : Int := d.2.1
 let s8 : List (List Int) := d.2.2.1
 let s16 : List Int := d.2.2.2.1
 let s17 : Int := d.2.2.2.2.1
 let s18 : Int := d.2.2.2.2.2.1
 let s22 : List (List Int) := d.2.2.2.2.2.2.1
 let s23 : Int := d.2.2.2.2.2.2.2.1
 let s24 : Int := d.2.2.2.2.2.2.2.2.1
 if (decide (s24 < s23)) = true then
  if (idxIn s24 (List.length s22)) = true then
  ((F_impl_net_closed 0) ((s2, (s7, ())))).bind fun r42 =>
  (G_setOf (r42.1, ())).bind fun r43 =>
  (impl_net_copMoves_l4 N N ((s2, (s7, (s8, (at_ K_Si s22 s24.toNat, (s16, (s17, (s18, (s22, (s23, (s24, (r43.1, ((List.length r43.1 : Int), ((0 : Int), ()))))))))))))))).bind fun o47 => match o47 with
  | .inl d48 =>
   let x49 : Int := IntKind.wrap .i64 (d48.2.2.2.2.2.2.2.2.1 + (1 : Int))
   back ((d48.1, (d48.2.1, (d48.2.2.1, (d48.2.2.2.1, (d48.2.2.2.2.1, (d48.2.2.2.2.2.1, (d48.2.2.2.2.2.2.1, (d48.2.2.2.2.2.2.2.1, (x49, ()))))))))))
  else none
 else
  some (.inl ((s2, (s8, (s16, (s17, (s18, ())))))))
noncomputable def impl_net_copMoves_l2 (N : Nat) : Nat → impl_net_copMoves_l2_H → Option impl_net_copMoves_l2_O
 | 0, _ => none
 | k + 1, d => impl_net_copMoves_l2_r N (impl_net_copMoves_l2 N k) d
theorem impl_net_copMoves_l2_ok (N : Nat) (back) (d) : roundR Γ_impl_net_copMoves (assoc [(4, ⟨impl_net_copMoves_l4_h, impl_net_copMoves_l4_o, impl_net_copMoves_l4 N N⟩)]) 2 impl_net_copMoves_l2_h impl_net_copMoves_l2_o (loopOf Tryz.f90 2) back d = impl_net_copMoves_l2_r N back d := by kernel_rfl
abbrev impl_net_copMoves_l0_H := (List Int × Unit) × List (List Int) × List Int × Int × Int × Unit
abbrev impl_net_copMoves_l0_O := (List (List Int) × Unit) ⊕ Empty
def impl_net_copMoves_l0_h : Form := [(2, .box K_PSiq 0), (5, .own K_SSi 99), (16, .v K_Si), (17, .v I), (18, .v I)]
def impl_net_copMoves_l0_o : Outs := [(.normal, [(5, .own K_SSi 99)])]
noncomputable def impl_net_copMoves_l0_r (N : Nat) (back : impl_net_copMoves_l0_H → Option impl_net_copMoves_l0_O) (d : impl_net_copMoves_l0_H) : Option impl_net_copMoves_l0_O :=
 let s2 : List Int × Unit := d.1
 let s5 : List (List Int) := d.2.1
 let s16 : List Int := d.2.2.1
 let s17 : Int := d.2.2.2.1
 let s18 : Int := d.2.2.2.2.1
 if (decide (s18 < s17)) = true then
  if (idxIn s18 (List.length s16)) = true then
  (impl_net_copMoves_l2 N N ((s2, (at_ I s16 s18.toNat, (([] : List (List Int)), (s16, (s17, (s18, (s5, ((List.length s5 : Int), ((0 : Int), ()))))))))))).bind fun o39 => match o39 with
  | .inl d40 =>
   let x41 : Int := IntKind.wrap .i64 (d40.2.2.2.2.1 + (1 : Int))
   back ((d40.1, (d40.2.1, (d40.2.2.1, (d40.2.2.2.1, (x41, ()))))))
  else none
 else
  some (.inl (s5, ()))
noncomputable def impl_net_copMoves_l0 (N : Nat) : Nat → impl_net_copMoves_l0_H → Option impl_net_copMoves_l0_O
 | 0, _ => none
 | k + 1, d => impl_net_copMoves_l0_r N (impl_net_copMoves_l0 N k) d
theorem impl_net_copMoves_l0_ok (N : Nat) (back) (d) : roundR Γ_impl_net_copMoves (assoc [(2, ⟨impl_net_copMoves_l2_h, impl_net_copMoves_l2_o, impl_net_copMoves_l2 N N⟩)]) 0 impl_net_copMoves_l0_h impl_net_copMoves_l0_o (loopOf Tryz.f90 0) back d = impl_net_copMoves_l0_r N back d := by kernel_rfl
abbrev impl_net_copMoves_l6_H := List (List Int) × Unit × Int × Int × Unit
abbrev impl_net_copMoves_l6_O := (List (List Int) × Unit) ⊕ Empty
def impl_net_copMoves_l6_h : Form := [(5, .own K_SSi 99), (49, .same 5 []), (50, .v I), (51, .v I)]
def impl_net_copMoves_l6_o : Outs := [(.normal, [(5, .own K_SSi 99)])]
noncomputable def impl_net_copMoves_l6_r (N : Nat) (back : impl_net_copMoves_l6_H → Option impl_net_copMoves_l6_O) (d : impl_net_copMoves_l6_H) : Option impl_net_copMoves_l6_O :=
 let s5 : List (List Int) := d.1
 let s49 : Unit := d.2.1
 let s50 : Int := d.2.2.1
 let s51 : Int := d.2.2.2.1
 if (decide (s51 < s50)) = true then
  if (idxIn s51 (List.length s5)) = true then
  (G_sortI (at_ K_Si s5 s51.toNat, ())).bind fun r53 =>
  let x54 : Int := IntKind.wrap .i64 (s51 + (1 : Int))
  back ((List.set s5 s51.toNat r53.1, ((), (s50, (x54, ())))))
  else none
 else
  some (.inl (s5, ()))
noncomputable def impl_net_copMoves_l6 (N : Nat) : Nat → impl_net_copMoves_l6_H → Option impl_net_copMoves_l6_O
 | 0, _ => none
 | k + 1, d => impl_net_copMoves_l6_r N (impl_net_copMoves_l6 N k) d
theorem impl_net_copMoves_l6_ok (N : Nat) (back) (d) : roundR Γ_impl_net_copMoves (assoc []) 6 impl_net_copMoves_l6_h impl_net_copMoves_l6_o (loopOf Tryz.f90 6) back d = impl_net_copMoves_l6_r N back d := by kernel_rfl
noncomputable def F_impl_net_copMoves (N : Nat) (d : (List Int × Unit) × List Int × Unit) : Option (List (List Int) × Unit) :=
 let a0 : List Int × Unit := d.1
 let a1 : List Int := d.2.1
 (impl_net_copMoves_l0 N N ((a0, ([([] : List Int)], (a1, ((List.length a1 : Int), ((0 : Int), ()))))))).bind fun o23 => match o23 with
 | .inl d24 =>
  (impl_net_copMoves_l6 N N ((d24.1, ((), ((List.length d24.1 : Int), ((0 : Int), ())))))).bind fun o27 => match o27 with
  | .inl d28 =>
   (G_sortF ((d28.1, (((), ()), ())))).bind fun r29 =>
   (G_compactF ((r29.1, (((), ()), ())))).bind fun r30 =>
   some (r30.1, ())
theorem F_impl_net_copMoves_ok (N : Nat) (d) : fnR Γ_impl_net_copMoves (assoc [(0, ⟨impl_net_copMoves_l0_h, impl_net_copMoves_l0_o, impl_net_copMoves_l0 N N⟩), (6, ⟨impl_net_copMoves_l6_h, impl_net_copMoves_l6_o, impl_net_copMoves_l6 N N⟩)]) true [(K_PSiq, false), (K_Si, false)] [K_SSi] Tryz.f90.results.toList (bodyOf Tryz.f90) d = F_impl_net_copMoves N d := by kernel_rfl
noncomputable def S_impl_net_copMoves : FSig := ⟨[(K_PSiq, false), (K_Si, false)], [K_SSi], true, (G_copMoves)⟩
noncomputable def FV_slices_Compare_Sint_int (d : List Int × List Int × (Unit × Unit) × Unit) : Option (Int × Unit) := G_compare (d.1, d.2.1, d.2.2.1.2)
noncomputable def SV_slices_Compare_Sint_int : FSig := ⟨[(K_Si, false), (K_Si, false), (K_F_slices_Compare_Sint_int_qq, false)], [I], true, FV_slices_Compare_Sint_int⟩
noncomputable def Γ_slices_BinarySearchFunc_SSint_Sint_Sint_by_slices_Compare_Sint_int : Ctx := { tk := assoc tks, ar := assoc ars, fs := assoc [], cs := assoc [(113, SV_slices_Compare_Sint_int)] }
abbrev slices_BinarySearchFunc_SSint_Sint_Sint_by_slices_Compare_Sint_int_l0_H := List (List Int) × List Int × (Unit × Unit) × Int × Int × Int × Unit
abbrev slices_BinarySearchFunc_SSint_Sint_Sint_by_slices_Compare_Sint_int_l0_O := (List (List Int) × List Int × (Unit × Unit) × Int × Int × Unit) ⊕ Empty
def slices_BinarySearchFunc_SSint_Sint_Sint_by_slices_Compare_Sint_int_l0_h : Form := [(0, .v K_SSi), (1, .v K_Si), (2, .v K_F_slices_Compare_Sint_int_qq), (8, .v I), (9, .v I), (10, .v I)]
def slices_BinarySearchFunc_SSint_Sint_Sint_by_slices_Compare_Sint_int_l0_o : Outs := [(.normal, [(0, .v K_SSi), (1, .v K_Si), (2, .v K_F_slices_Compare_Sint_int_qq), (8, .v I), (9, .v I)])]
noncomputable def slices_BinarySearchFunc_SSint_Sint_Sint_by_slices_Compare_Sint_int_l0_r (N : Nat) (back : slices_BinarySearchFunc_SSint_Sint_Sint_by_slices_Compare_Sint_int_l0_H → Option slices_BinarySearchFunc_SSint_Sint_Sint_by_slices_Compare_Sint_int_l0_O) (d : slices_BinarySearchFunc_SSint_Sint_Sint_by_slices_Compare_Sint_int_l0_H) : Option slices_BinarySearchFunc_SSint_Sint_Sint_by_slices_Compare_Sint_int_l0_O :=
 let s0 : List (List Int) := d.1
 let s1 : List Int := d.2.1
 let s2 : Unit × Unit := d.2.2.1
 let s8 : Int := d.2.2.2.1
 let s9 : Int := d.2.2.2.2.1
 let s10 : Int := d.2.2.2.2.2.1
 if (decide (s9 < s10)) = true then
  let x8 : Int := IntKind.wrap .u64 (IntKind.wrap .i64 (s9 + s10))
  if (decide (0 ≤ (1 : Int))) = true then
  let x9 : Int := IntKind.wrap .i64 (shr .u64 x8 (1 : Int))
  if (idxIn x9 (List.length s0)) = true then
  (FV_slices_Compare_Sint_int ((at_ K_Si s0 x9.toNat, (s1, (s2, ()))))).bind fun r10 =>
  if (decide (r10.1 < (0 : Int))) = true then
   let x11 : Int := IntKind.wrap .i64 (x9 + (1 : Int))
   back ((s0, (s1, (s2, (s8, (x11, (s10, ())))))))
  else
   back ((s0, (s1, (s2, (s8, (s9, (x9, ())))))))
  else none
  else none
 else
  some (.inl ((s0, (s1, (s2, (s8, (s9, ())))))))
noncomputable def slices_BinarySearchFunc_SSint_Sint_Sint_by_slices_Compare_Sint_int_l0 (N : Nat) : Nat → slices_BinarySearchFunc_SSint_Sint_Sint_by_slices_Compare_Sint_int_l0_H → Option slices_BinarySearchFunc_SSint_Sint_Sint_by_slices_Compare_Sint_int_l0_O
 | 0, _ => none
 | k + 1, d => slices_BinarySearchFunc_SSint_Sint_Sint_by_slices_Compare_Sint_int_l0_r N (slices_BinarySearchFunc_SSint_Sint_Sint_by_slices_Compare_Sint_int_l0 N k) d
theorem slices_BinarySearchFunc_SSint_Sint_Sint_by_slices_Compare_Sint_int_l0_ok (N : Nat) (back) (d) : roundR Γ_slices_BinarySearchFunc_SSint_Sint_Sint_by_slices_Compare_Sint_int (assoc []) 0 slices_BinarySearchFunc_SSint_Sint_Sint_by_slices_Compare_Sint_int_l0_h slices_BinarySearchFunc_SSint_Sint_Sint_by_slices_Compare_Sint_int_l0_o (loopOf Tryz.f112 0) back d = slices_BinarySearchFunc_SSint_Sint_Sint_by_slices_Compare_Sint_int_l0_r N back d := by kernel_rfl
noncomputable def F_slices_BinarySearchFunc_SSint_Sint_Sint_by_slices_Compare_Sint_int (N : Nat) (d : List (List Int) × List Int × (Unit × Unit) × Unit) : Option (Int × Bool × Unit) :=
 let a0 : List (List Int) := d.1
 let a1 : List Int := d.2.1
 let a2 : Unit × Unit := d.2.2.1
 (slices_BinarySearchFunc_SSint_Sint_Sint_by_slices_Compare_Sint_int_l0 N N ((a0, (a1, (a2, ((List.length a0 : Int), ((0 : Int), ((List.length a0 : Int), ())))))))).bind fun o5 => match o5 with
 | .inl d6 =>
  if (decide (d6.2.2.2.2.1 < d6.2.2.2.1)) = true then
   if (idxIn d6.2.2.2.2.1 (List.length d6.1)) = true then
   (FV_slices_Compare_Sint_int ((at_ K_Si d6.1 d6.2.2.2.2.1.toNat, (d6.2.1, (d6.2.2.1, ()))))).bind fun r7 =>
   some ((d6.2.2.2.2.1, (r7.1 == (0 : Int), ())))
   else none
  else
   some ((d6.2.2.2.2.1, (false, ())))
theorem F_slices_BinarySearchFunc_SSint_Sint_Sint_by_slices_Compare_Sint_int_ok (N : Nat) (d) : fnR Γ_slices_BinarySearchFunc_SSint_Sint_Sint_by_slices_Compare_Sint_int (assoc [(0, ⟨slices_BinarySearchFunc_SSint_Sint_Sint_by_slices_Compare_Sint_int_l0_h, slices_BinarySearchFunc_SSint_Sint_Sint_by_slices_Compare_Sint_int_l0_o, slices_BinarySearchFunc_SSint_Sint_Sint_by_slices_Compare_Sint_int_l0 N N⟩)]) true [(K_SSi, false), (K_Si, false), (K_F_slices_Compare_Sint_int_qq, false)] [I, .bool] Tryz.f112.results.toList (bodyOf Tryz.f112) d = F_slices_BinarySearchFunc_SSint_Sint_Sint_by_slices_Compare_Sint_int N d := by kernel_rfl
noncomputable def S_slices_BinarySearchFunc_SSint_Sint_Sint_by_slices_Compare_Sint_int : FSig := ⟨[(K_SSi, false), (K_Si, false), (K_F_slices_Compare_Sint_int_qq, false)], [I, .bool], true, (G_bin)⟩
noncomputable def Γ_impl_copGame_place : Ctx := { tk := assoc tks, ar := assoc ars, fs := assoc [(112, S_slices_BinarySearchFunc_SSint_Sint_Sint_by_slices_Compare_Sint_int)] }
noncomputable def F_impl_copGame_place (N : Nat) (d : ((List Int × Unit) × List (List Int) × List (List Int) × List (List Int) × Unit) × List Int × Unit) : Option (Int × Unit) :=
 let a0 : (List Int × Unit) × List (List Int) × List (List Int) × List (List Int) × Unit := d.1
 let a1 : List Int := d.2.1
 (G_bin ((a0.2.1, (a1, (((), ()), ()))))).bind fun r1 =>
 some (r1.1, ())
theorem F_impl_copGame_place_ok (N : Nat) (d) : fnR Γ_impl_copGame_place (assoc []) true [(K_BPPZiqZSiSSiSSiq, false), (K_Si, false)] [I] Tryz.f71.results.toList (bodyOf Tryz.f71) d = F_impl_copGame_place N d := by kernel_rfl
noncomputable def S_impl_copGame_place : FSig := ⟨[(K_BPPZiqZSiSSiSSiq, false), (K_Si, false)], [I], true, (F_impl_copGame_place 0)⟩
noncomputable def Γ_impl_net_copBoard : Ctx := { tk := assoc tks, ar := assoc ars, fs := assoc [(71, S_impl_copGame_place), (90, S_impl_net_copMoves), (105, S_impl_net_size), (125, S_impl_copLists)] }
abbrev impl_net_copBoard_l2_H := (List Int × Unit) × ((List Int × Unit) × List (List Int) × List (List Int) × List (List Int) × Unit) × List Int × List (List Int) × Int × Int × List (List Int) × Int × Int × Unit
abbrev impl_net_copBoard_l2_O := ((List Int × Unit) × ((List Int × Unit) × List (List Int) × List (List Int) × List (List Int) × Unit) × List Int × List (List Int) × Int × Int × Unit) ⊕ Empty
def impl_net_copBoard_l2_h : Form := [(2, .box K_PSiq 0), (5, .box K_PPZiqZSiSSiSSiq 99), (8, .own K_Si 99), (21, .v K_SSi), (22, .v I), (23, .v I), (29, .own K_SSi 99), (30, .v I), (31, .v I)]
def impl_net_copBoard_l2_o : Outs := [(.normal, [(2, .box K_PSiq 0), (5, .box K_PPZiqZSiSSiSSiq 99), (8, .own K_Si 99), (21, .v K_SSi), (22, .v I), (23, .v I)])]
noncomputable def impl_net_copBoard_l2_r (N : Nat) (back : impl_net_copBoard_l2_H → Option impl_net_copBoard_l2_O) (d : impl_net_copBoard_l2_H) : Option impl_net_copBoard_l2_O :=
 let s2 : List Int × Unit := d.1
 let s5 : (List Int × Unit) × List (List Int) × List (List Int) × List (List Int) × Unit := d.2.1
 let s8 : List Int := d.2.2.1
 let s21 : List (List Int) := d.2.2.2.1
 let s22 : Int := d.2.2.2.2.1
 let s23 : Int := d.2.2.2.2.2.1
 let s29 : List (List Int) := d.2.2.2.2.2.2.1
 let s30 : Int := d.2.2.2.2.2.2.2.1
 let s31 : Int := d.2.2.2.2.2.2.2.2.1
 if (decide (s31 < s30)) = true then
  if (idxIn s31 (List.length s29)) = true then
  ((F_impl_copGame_place 0) ((s5, (at_ K_Si s29 s31.toNat, ())))).bind fun r18 =>
  if (decide (List.length s8 + List.length ([r18.1]) ≤ lim)) = true then
  let x19 : Int := IntKind.wrap .i64 (s31 + (1 : Int))
  back ((s2, (s5, (s8 ++ ([r18.1]), (s21, (s22, (s23, (s29, (s30, (x19, ()))))))))))
  else none
  else none
 else
  some (.inl ((s2, (s5, (s8, (s21, (s22, (s23, ()))))))))
noncomputable def impl_net_copBoard_l2 (N : Nat) : Nat → impl_net_copBoard_l2_H → Option impl_net_copBoard_l2_O
 | 0, _ => none
 | k + 1, d => impl_net_copBoard_l2_r N (impl_net_copBoard_l2 N k) d
theorem impl_net_copBoard_l2_ok (N : Nat) (back) (d) : roundR Γ_impl_net_copBoard (assoc []) 2 impl_net_copBoard_l2_h impl_net_copBoard_l2_o (loopOf Tryz.f103 2) back d = impl_net_copBoard_l2_r N back d := by kernel_rfl
abbrev impl_net_copBoard_l0_H := (List Int × Unit) × ((List Int × Unit) × List (List Int) × List (List Int) × List (List Int) × Unit) × List (List Int) × Int × Int × Unit
abbrev impl_net_copBoard_l0_O := (((List Int × Unit) × List (List Int) × List (List Int) × List (List Int) × Unit) × Unit) ⊕ Empty
def impl_net_copBoard_l0_h : Form := [(2, .box K_PSiq 0), (5, .box K_PPZiqZSiSSiSSiq 99), (21, .v K_SSi), (22, .v I), (23, .v I)]
def impl_net_copBoard_l0_o : Outs := [(.normal, [(5, .box K_PPZiqZSiSSiSSiq 99)])]
noncomputable def impl_net_copBoard_l0_r (N : Nat) (back : impl_net_copBoard_l0_H → Option impl_net_copBoard_l0_O) (d : impl_net_copBoard_l0_H) : Option impl_net_copBoard_l0_O :=
 let s2 : List Int × Unit := d.1
 let s5 : (List Int × Unit) × List (List Int) × List (List Int) × List (List Int) × Unit := d.2.1
 let s21 : List (List Int) := d.2.2.1
 let s22 : Int := d.2.2.2.1
 let s23 : Int := d.2.2.2.2.1
 if (decide (s23 < s22)) = true then
  if (idxIn s23 (List.length s21)) = true then
  (G_copMoves ((s2, (at_ K_Si s21 s23.toNat, ())))).bind fun r11 =>
  (impl_net_copBoard_l2 N N ((s2, (s5, (([] : List Int), (s21, (s22, (s23, (r11.1, ((List.length r11.1 : Int), ((0 : Int), ()))))))))))).bind fun o14 => match o14 with
  | .inl d15 =>
   if (decide (List.length d15.2.1.2.2.1 + List.length ([d15.2.2.1]) ≤ lim)) = true then
   let x16 : List (List Int) := d15.2.1.2.2.1 ++ ([d15.2.2.1])
   let x17 : Int := IntKind.wrap .i64 (d15.2.2.2.2.2.1 + (1 : Int))
   back ((d15.1, ((d15.2.1.1, (d15.2.1.2.1, (x16, d15.2.1.2.2.2))), (d15.2.2.2.1, (d15.2.2.2.2.1, (x17, ()))))))
   else none
  else none
 else
  some (.inl (s5, ()))
noncomputable def impl_net_copBoard_l0 (N : Nat) : Nat → impl_net_copBoard_l0_H → Option impl_net_copBoard_l0_O
 | 0, _ => none
 | k + 1, d => impl_net_copBoard_l0_r N (impl_net_copBoard_l0 N k) d
theorem impl_net_copBoard_l0_ok (N : Nat) (back) (d) : roundR Γ_impl_net_copBoard (assoc [(2, ⟨impl_net_copBoard_l2_h, impl_net_copBoard_l2_o, impl_net_copBoard_l2 N N⟩)]) 0 impl_net_copBoard_l0_h impl_net_copBoard_l0_o (loopOf Tryz.f103 0) back d = impl_net_copBoard_l0_r N back d := by kernel_rfl
noncomputable def F_impl_net_copBoard (N : Nat) (d : (List Int × Unit) × Int × Unit) : Option (((List Int × Unit) × List (List Int) × List (List Int) × List (List Int) × Unit) × Unit) :=
 let a0 : List Int × Unit := d.1
 let a1 : Int := d.2.1
 let r1 : Int × Unit := g_impl_net_size (a0, ())
 (G_configs ((r1.1, (a1, ())))).bind fun r2 =>
 (impl_net_copBoard_l0 N N ((a0, ((a0, (r2.1, (([] : List (List Int)), (([] : List (List Int)), ())))), (r2.1, ((List.length r2.1 : Int), ((0 : Int), ()))))))).bind fun o9 => match o9 with
 | .inl d10 =>
  some (d10.1, ())
theorem F_impl_net_copBoard_ok (N : Nat) (d) : fnR Γ_impl_net_copBoard (assoc [(0, ⟨impl_net_copBoard_l0_h, impl_net_copBoard_l0_o, impl_net_copBoard_l0 N N⟩)]) true [(K_PSiq, false), (I, false)] [K_BPPZiqZSiSSiSSiq] Tryz.f103.results.toList (bodyOf Tryz.f103) d = F_impl_net_copBoard N d := by kernel_rfl
noncomputable def S_impl_net_copBoard : FSig := ⟨[(K_PSiq, false), (I, false)], [K_BPPZiqZSiSSiSSiq], true, (G_copBoard)⟩
def S_slices_Repeat_Sint_int : FSig := ⟨[(K_Si, false), (I, false)], [K_Si], true, G_repeat⟩
noncomputable def Γ_slices_Index_Sint_int : Ctx := { tk := assoc tks, ar := assoc ars, fs := assoc [] }
abbrev slices_Index_Sint_int_l0_H := List Int × Int × Int × Int × Unit
abbrev slices_Index_Sint_int_l0_O := (Int × Unit) ⊕ Unit ⊕ Empty
def slices_Index_Sint_int_l0_h : Form := [(0, .v K_Si), (1, .v I), (7, .v I), (8, .v I)]
def slices_Index_Sint_int_l0_o : Outs := [(.ret, [(4, .v I)]), (.normal, [])]
noncomputable def slices_Index_Sint_int_l0_r (N : Nat) (back : slices_Index_Sint_int_l0_H → Option slices_Index_Sint_int_l0_O) (d : slices_Index_Sint_int_l0_H) : Option slices_Index_Sint_int_l0_O :=
 let s0 : List Int := d.1
 let s1 : Int := d.2.1
 let s7 : Int := d.2.2.1
 let s8 : Int := d.2.2.2.1
 if (decide (s8 < s7)) = true then
  if (idxIn s8 (List.length s0)) = true then
  if (s1 == at_ I s0 s8.toNat) = true then
   some (.inl (s8, ()))
  else
   let x5 : Int := IntKind.wrap .i64 (s8 + (1 : Int))
   back ((s0, (s1, (s7, (x5, ())))))
  else none
 else
  some (.inr (.inl ()))
noncomputable def slices_Index_Sint_int_l0 (N : Nat) : Nat → slices_Index_Sint_int_l0_H → Option slices_Index_Sint_int_l0_O
 | 0, _ => none
 | k + 1, d => slices_Index_Sint_int_l0_r N (slices_Index_Sint_int_l0 N k) d
theorem slices_Index_Sint_int_l0_ok (N : Nat) (back) (d) : roundR Γ_slices_Index_Sint_int (assoc []) 0 slices_Index_Sint_int_l0_h slices_Index_Sint_int_l0_o (loopOf Tryz.f111 0) back d = slices_Index_Sint_int_l0_r N back d := by kernel_rfl
noncomputable def F_slices_Index_Sint_int (N : Nat) (d : List Int × Int × Unit) : Option (Int × Unit) :=
 let a0 : List Int := d.1
 let a1 : Int := d.2.1
 (slices_Index_Sint_int_l0 N N ((a0, (a1, ((List.length a0 : Int), ((0 : Int), ())))))).bind fun o2 => match o2 with
 | .inl d3 =>
  some (d3.1, ())
 | .inr (.inl d4) =>
  some ((-1 : Int), ())
theorem F_slices_Index_Sint_int_ok (N : Nat) (d) : fnR Γ_slices_Index_Sint_int (assoc [(0, ⟨slices_Index_Sint_int_l0_h, slices_Index_Sint_int_l0_o, slices_Index_Sint_int_l0 N N⟩)]) true [(K_Si, false), (I, false)] [I] Tryz.f111.results.toList (bodyOf Tryz.f111) d = F_slices_Index_Sint_int N d := by kernel_rfl
noncomputable def S_slices_Index_Sint_int : FSig := ⟨[(K_Si, false), (I, false)], [I], true, (G_index)⟩
noncomputable def Γ_slices_Contains_Sint_int : Ctx := { tk := assoc tks, ar := assoc ars, fs := assoc [(111, S_slices_Index_Sint_int)] }
noncomputable def F_slices_Contains_Sint_int (N : Nat) (d : List Int × Int × Unit) : Option (Bool × Unit) :=
 let a0 : List Int := d.1
 let a1 : Int := d.2.1
 (G_index ((a0, (a1, ())))).bind fun r1 =>
 some ((decide (r1.1 ≥ (0 : Int)), ()))
theorem F_slices_Contains_Sint_int_ok (N : Nat) (d) : fnR Γ_slices_Contains_Sint_int (assoc []) true [(K_Si, false), (I, false)] [.bool] Tryz.f69.results.toList (bodyOf Tryz.f69) d = F_slices_Contains_Sint_int N d := by kernel_rfl
noncomputable def S_slices_Contains_Sint_int : FSig := ⟨[(K_Si, false), (I, false)], [.bool], true, (F_slices_Contains_Sint_int 0)⟩
noncomputable def Γ_impl_net_timeAfter : Ctx := { tk := assoc tks, ar := assoc ars, fs := assoc [(52, S_impl_setOf), (100, S_impl_net_closed)] }
abbrev impl_net_timeAfter_l0_H := List Int × Int × List Int × Int × Int × Unit
abbrev impl_net_timeAfter_l0_O := (Int × Unit) ⊕ (Int × Unit) ⊕ Empty
def impl_net_timeAfter_l0_h : Form := [(1, .v K_Si), (7, .v I), (13, .own K_Si 99), (14, .v I), (15, .v I)]
def impl_net_timeAfter_l0_o : Outs := [(.ret, [(6, .v I)]), (.normal, [(7, .v I)])]
noncomputable def impl_net_timeAfter_l0_r (N : Nat) (back : impl_net_timeAfter_l0_H → Option impl_net_timeAfter_l0_O) (d : impl_net_timeAfter_l0_H) : Option impl_net_timeAfter_l0_O :=
 let s1 : List Int := d.1
 let s7 : Int := d.2.1
 let s13 : List Int := d.2.2.1
 let s14 : Int := d.2.2.2.1
 let s15 : Int := d.2.2.2.2.1
 if (decide (s15 < s14)) = true then
  if (idxIn s15 (List.length s13)) = true then
  if (idxIn (at_ I s13 s15.toNat) (List.length s1)) = true then
  if (decide (at_ I s1 (at_ I s13 s15.toNat).toNat < (0 : Int))) = true then
   some (.inl ((-1 : Int), ()))
  else
   if (idxIn (at_ I s13 s15.toNat) (List.length s1)) = true then
   let x8 : Int := if s7 < at_ I s1 (at_ I s13 s15.toNat).toNat then at_ I s1 (at_ I s13 s15.toNat).toNat else s7
   let x9 : Int := IntKind.wrap .i64 (s15 + (1 : Int))
   back ((s1, (x8, (s13, (s14, (x9, ()))))))
   else none
  else none
  else none
 else
  some (.inr (.inl (s7, ())))
noncomputable def impl_net_timeAfter_l0 (N : Nat) : Nat → impl_net_timeAfter_l0_H → Option impl_net_timeAfter_l0_O
 | 0, _ => none
 | k + 1, d => impl_net_timeAfter_l0_r N (impl_net_timeAfter_l0 N k) d
theorem impl_net_timeAfter_l0_ok (N : Nat) (back) (d) : roundR Γ_impl_net_timeAfter (assoc []) 0 impl_net_timeAfter_l0_h impl_net_timeAfter_l0_o (loopOf Tryz.f116 0) back d = impl_net_timeAfter_l0_r N back d := by kernel_rfl
noncomputable def F_impl_net_timeAfter (N : Nat) (d : (List Int × Unit) × List Int × Int × Unit) : Option (Int × Unit) :=
 let a0 : List Int × Unit := d.1
 let a1 : List Int := d.2.1
 let a2 : Int := d.2.2.1
 ((F_impl_net_closed 0) ((a0, (a2, ())))).bind fun r1 =>
 (G_setOf (r1.1, ())).bind fun r2 =>
 (impl_net_timeAfter_l0 N N ((a1, ((0 : Int), (r2.1, ((List.length r2.1 : Int), ((0 : Int), ()))))))).bind fun o5 => match o5 with
 | .inl d6 =>
  some (d6.1, ())
 | .inr (.inl d7) =>
  some (d7.1, ())
theorem F_impl_net_timeAfter_ok (N : Nat) (d) : fnR Γ_impl_net_timeAfter (assoc [(0, ⟨impl_net_timeAfter_l0_h, impl_net_timeAfter_l0_o, impl_net_timeAfter_l0 N N⟩)]) true [(K_PSiq, false), (K_Si, false), (I, false)] [I] Tryz.f116.results.toList (bodyOf Tryz.f116) d = F_impl_net_timeAfter N d := by kernel_rfl
noncomputable def S_impl_net_timeAfter : FSig := ⟨[(K_PSiq, false), (K_Si, false), (I, false)], [I], true, (G_timeAfter)⟩
noncomputable def Γ_impl_copGame_can_1 : Ctx := { tk := assoc tks, ar := assoc ars, fs := assoc [(69, S_slices_Contains_Sint_int), (116, S_impl_net_timeAfter)], cs := assoc [], w1 := inL [77] }
noncomputable def F_impl_copGame_can_1 (N : Nat) (d : Int × ((List Int × Unit) × List (List Int) × List (List Int) × List (List Int) × Unit) × Int × Unit) : Option (Bool × Unit) :=
 let a0 : Int := d.1
 let a1 : (List Int × Unit) × List (List Int) × List (List Int) × List (List Int) × Unit := d.2.1
 let a2 : Int := d.2.2.1
 if (idxIn a0 (List.length a1.2.1)) = true then
 ((F_slices_Contains_Sint_int 0) ((at_ K_Si a1.2.1 a0.toNat, (a2, ())))).bind fun r1 =>
 if (r1.1) = true then
  some (true, ())
 else
  if (idxIn a0 (List.length a1.2.2.2.1)) = true then
  (G_timeAfter ((a1.1, (at_ K_Si a1.2.2.2.1 a0.toNat, (a2, ()))))).bind fun r2 =>
  some ((decide (r2.1 ≥ (0 : Int)), ()))
  else none
 else none
theorem F_impl_copGame_can_1_ok (N : Nat) (d) : fnR Γ_impl_copGame_can_1 (assoc []) true [(I, false), (K_BBPPZiqZSiSSiSSiq, false), (K_Bi, false)] [.bool] Tryz.f128.results.toList (bodyOf Tryz.f128) d = F_impl_copGame_can_1 N d := by kernel_rfl
noncomputable def S_impl_copGame_can_1 : FSig := ⟨[(I, false), (K_BBPPZiqZSiSSiSSiq, false), (K_Bi, false)], [.bool], true, (F_impl_copGame_can_1 0)⟩
noncomputable def FV_impl_copGame_can_1 (d : Int × (Unit × ((List Int × Unit) × List (List Int) × List (List Int) × List (List Int) × Unit) × Int × Unit) × Unit) : Option (Bool × Unit) := (F_impl_copGame_can_1 0) (d.1, d.2.1.2)
noncomputable def SV_impl_copGame_can_1 : FSig := ⟨[(I, false), (K_F_impl_copGame_can_1_qPBBPPZiqZSiSSiSSiqBiq, false)], [.bool], true, FV_impl_copGame_can_1⟩
noncomputable def Γ_slices_IndexFunc_Sint_int_by_impl_copGame_can_1 : Ctx := { tk := assoc tks, ar := assoc ars, fs := assoc [], cs := assoc [(128, SV_impl_copGame_can_1)] }
abbrev slices_IndexFunc_Sint_int_by_impl_copGame_can_1_l0_H := List Int × (Unit × ((List Int × Unit) × List (List Int) × List (List Int) × List (List Int) × Unit) × Int × Unit) × Int × Int × Unit
abbrev slices_IndexFunc_Sint_int_by_impl_copGame_can_1_l0_O := (Int × Unit) ⊕ Unit ⊕ Empty
def slices_IndexFunc_Sint_int_by_impl_copGame_can_1_l0_h : Form := [(0, .v K_Si), (1, .v K_F_impl_copGame_can_1_qPBBPPZiqZSiSSiSSiqBiq), (7, .v I), (8, .v I)]
def slices_IndexFunc_Sint_int_by_impl_copGame_can_1_l0_o : Outs := [(.ret, [(4, .v I)]), (.normal, [])]
noncomputable def slices_IndexFunc_Sint_int_by_impl_copGame_can_1_l0_r (N : Nat) (back : slices_IndexFunc_Sint_int_by_impl_copGame_can_1_l0_H → Option slices_IndexFunc_Sint_int_by_impl_copGame_can_1_l0_O) (d : slices_IndexFunc_Sint_int_by_impl_copGame_can_1_l0_H) : Option slices_IndexFunc_Sint_int_by_impl_copGame_can_1_l0_O :=
 let s0 : List Int := d.1
 let s1 : Unit × ((List Int × Unit) × List (List Int) × List (List Int) × List (List Int) × Unit) × Int × Unit := d.2.1
 let s7 : Int := d.2.2.1
 let s8 : Int := d.2.2.2.1
 if (decide (s8 < s7)) = true then
  if (idxIn s8 (List.length s0)) = true then
  (FV_impl_copGame_can_1 ((at_ I s0 s8.toNat, (s1, ())))).bind fun r6 =>
  if (r6.1) = true then
   some (.inl (s8, ()))
  else
   let x7 : Int := IntKind.wrap .i64 (s8 + (1 : Int))
   back ((s0, (s1, (s7, (x7, ())))))
  else none
 else
  some (.inr (.inl ()))
noncomputable def slices_IndexFunc_Sint_int_by_impl_copGame_can_1_l0 (N : Nat) : Nat → slices_IndexFunc_Sint_int_by_impl_copGame_can_1_l0_H → Option slices_IndexFunc_Sint_int_by_impl_copGame_can_1_l0_O
 | 0, _ => none
 | k + 1, d => slices_IndexFunc_Sint_int_by_impl_copGame_can_1_l0_r N (slices_IndexFunc_Sint_int_by_impl_copGame_can_1_l0 N k) d
theorem slices_IndexFunc_Sint_int_by_impl_copGame_can_1_l0_ok (N : Nat) (back) (d) : roundR Γ_slices_IndexFunc_Sint_int_by_impl_copGame_can_1 (assoc []) 0 slices_IndexFunc_Sint_int_by_impl_copGame_can_1_l0_h slices_IndexFunc_Sint_int_by_impl_copGame_can_1_l0_o (loopOf Tryz.f137 0) back d = slices_IndexFunc_Sint_int_by_impl_copGame_can_1_l0_r N back d := by kernel_rfl
noncomputable def F_slices_IndexFunc_Sint_int_by_impl_copGame_can_1 (N : Nat) (d : List Int × (Unit × ((List Int × Unit) × List (List Int) × List (List Int) × List (List Int) × Unit) × Int × Unit) × Unit) : Option (Int × Unit) :=
 let a0 : List Int := d.1
 let a1 : Unit × ((List Int × Unit) × List (List Int) × List (List Int) × List (List Int) × Unit) × Int × Unit := d.2.1
 (slices_IndexFunc_Sint_int_by_impl_copGame_can_1_l0 N N ((a0, (a1, ((List.length a0 : Int), ((0 : Int), ())))))).bind fun o3 => match o3 with
 | .inl d4 =>
  some (d4.1, ())
 | .inr (.inl d5) =>
  some ((-1 : Int), ())
theorem F_slices_IndexFunc_Sint_int_by_impl_copGame_can_1_ok (N : Nat) (d) : fnR Γ_slices_IndexFunc_Sint_int_by_impl_copGame_can_1 (assoc [(0, ⟨slices_IndexFunc_Sint_int_by_impl_copGame_can_1_l0_h, slices_IndexFunc_Sint_int_by_impl_copGame_can_1_l0_o, slices_IndexFunc_Sint_int_by_impl_copGame_can_1_l0 N N⟩)]) true [(K_Si, false), (K_F_impl_copGame_can_1_qPBBPPZiqZSiSSiSSiqBiq, false)] [I] Tryz.f137.results.toList (bodyOf Tryz.f137) d = F_slices_IndexFunc_Sint_int_by_impl_copGame_can_1 N d := by kernel_rfl
noncomputable def S_slices_IndexFunc_Sint_int_by_impl_copGame_can_1 : FSig := ⟨[(K_Si, false), (K_F_impl_copGame_can_1_qPBBPPZiqZSiSSiSSiqBiq, false)], [I], true, (G_gameCan)⟩
noncomputable def Γ_slices_ContainsFunc_Sint_int_by_impl_copGame_can_1 : Ctx := { tk := assoc tks, ar := assoc ars, fs := assoc [(137, S_slices_IndexFunc_Sint_int_by_impl_copGame_can_1)] }
noncomputable def F_slices_ContainsFunc_Sint_int_by_impl_copGame_can_1 (N : Nat) (d : List Int × (Unit × ((List Int × Unit) × List (List Int) × List (List Int) × List (List Int) × Unit) × Int × Unit) × Unit) : Option (Bool × Unit) :=
 let a0 : List Int := d.1
 let a1 : Unit × ((List Int × Unit) × List (List Int) × List (List Int) × List (List Int) × Unit) × Int × Unit := d.2.1
 (G_gameCan ((a0, (a1, ())))).bind fun r1 =>
 some ((decide (r1.1 ≥ (0 : Int)), ()))
theorem F_slices_ContainsFunc_Sint_int_by_impl_copGame_can_1_ok (N : Nat) (d) : fnR Γ_slices_ContainsFunc_Sint_int_by_impl_copGame_can_1 (assoc []) true [(K_Si, false), (K_F_impl_copGame_can_1_qPBBPPZiqZSiSSiSSiqBiq, false)] [.bool] Tryz.f127.results.toList (bodyOf Tryz.f127) d = F_slices_ContainsFunc_Sint_int_by_impl_copGame_can_1 N d := by kernel_rfl
noncomputable def S_slices_ContainsFunc_Sint_int_by_impl_copGame_can_1 : FSig := ⟨[(K_Si, false), (K_F_impl_copGame_can_1_qPBBPPZiqZSiSSiSSiqBiq, false)], [.bool], true, (F_slices_ContainsFunc_Sint_int_by_impl_copGame_can_1 0)⟩
noncomputable def Γ_impl_copGame_can : Ctx := { tk := assoc tks, ar := assoc ars, fs := assoc [(127, S_slices_ContainsFunc_Sint_int_by_impl_copGame_can_1)], cs := assoc [], w1 := inL [77], fz := fun t => Nat.beq t 3 || Nat.beq t 5 }
noncomputable def F_impl_copGame_can (N : Nat) (d : ((List Int × Unit) × List (List Int) × List (List Int) × List (List Int) × Unit) × Int × Int × Unit) : Option (Bool × Unit) :=
 let a0 : (List Int × Unit) × List (List Int) × List (List Int) × List (List Int) × Unit := d.1
 let a1 : Int := d.2.1
 let a2 : Int := d.2.2.1
 if (idxIn a1 (List.length a0.2.2.1)) = true then
 ((F_slices_ContainsFunc_Sint_int_by_impl_copGame_can_1 0) ((at_ K_Si a0.2.2.1 a1.toNat, (((), (a0, (a2, ()))), ())))).bind fun r1 =>
 some (r1.1, ())
 else none
theorem F_impl_copGame_can_ok (N : Nat) (d) : fnR Γ_impl_copGame_can (assoc []) true [(K_BPPZiqZSiSSiSSiq, false), (I, false), (I, false)] [.bool] Tryz.f106.results.toList (bodyOf Tryz.f106) d = F_impl_copGame_can N d := by kernel_rfl
noncomputable def S_impl_copGame_can : FSig := ⟨[(K_BPPZiqZSiSSiSSiq, false), (I, false), (I, false)], [.bool], true, (F_impl_copGame_can 0)⟩
noncomputable def Γ_impl_net_copGame : Ctx := { tk := assoc tks, ar := assoc ars, fs := assoc [(104, S_slices_Repeat_Sint_int), (105, S_impl_net_size), (106, S_impl_copGame_can)], cs := assoc [], gs := assoc [(103, (S_impl_net_copBoard, md0))], eqt := inL [], md := md0 }
abbrev impl_net_copGame_l2_H := (List Int × Unit) × ((List Int × Unit) × List (List Int) × List (List Int) × List (List Int) × Unit) × List Int × List (List Int) × Int × Int × List Int × Int × Int × Unit
abbrev impl_net_copGame_l2_O := ((List Int × Unit) × ((List Int × Unit) × List (List Int) × List (List Int) × List (List Int) × Unit) × List Int × List (List Int) × Int × Int × Unit) ⊕ Empty
def impl_net_copGame_l2_h : Form := [(2, .box K_PSiq 0), (5, .box K_PPZiqZSiSSiSSiq 99), (8, .own K_Si 99), (26, .v K_SSi), (27, .v I), (28, .v I), (36, .v K_Si), (37, .v I), (38, .v I)]
def impl_net_copGame_l2_o : Outs := [(.normal, [(2, .box K_PSiq 0), (5, .box K_PPZiqZSiSSiSSiq 99), (8, .own K_Si 99), (26, .v K_SSi), (27, .v I), (28, .v I)])]
noncomputable def impl_net_copGame_l2_r (N : Nat) (back : impl_net_copGame_l2_H → Option impl_net_copGame_l2_O) (d : impl_net_copGame_l2_H) : Option impl_net_copGame_l2_O :=
 let s2 : List Int × Unit := d.1
 let s5 : (List Int × Unit) × List (List Int) × List (List Int) × List (List Int) × Unit := d.2.1
 let s8 : List Int := d.2.2.1
 let s26 : List (List Int) := d.2.2.2.1
 let s27 : Int := d.2.2.2.2.1
 let s28 : Int := d.2.2.2.2.2.1
 let s36 : List Int := d.2.2.2.2.2.2.1
 let s37 : Int := d.2.2.2.2.2.2.2.1
 let s38 : Int := d.2.2.2.2.2.2.2.2.1
 if (decide (s38 < s37)) = true then
  if (idxIn s38 (List.length s36)) = true then
  if (idxIn (at_ I s36 s38.toNat) (List.length s8)) = true then
  let x35 : List Int := List.set s8 (at_ I s36 s38.toNat).toNat (0 : Int)
  let x36 : Int := IntKind.wrap .i64 (s38 + (1 : Int))
  back ((s2, (s5, (x35, (s26, (s27, (s28, (s36, (s37, (x36, ()))))))))))
  else none
  else none
 else
  some (.inl ((s2, (s5, (s8, (s26, (s27, (s28, ()))))))))
noncomputable def impl_net_copGame_l2 (N : Nat) : Nat → impl_net_copGame_l2_H → Option impl_net_copGame_l2_O
 | 0, _ => none
 | k + 1, d => impl_net_copGame_l2_r N (impl_net_copGame_l2 N k) d
theorem impl_net_copGame_l2_ok (N : Nat) (back) (d) : roundR Γ_impl_net_copGame (assoc []) 2 impl_net_copGame_l2_h impl_net_copGame_l2_o (loopOf Tryz.f63 2) back d = impl_net_copGame_l2_r N back d := by kernel_rfl
abbrev impl_net_copGame_l0_H := (List Int × Unit) × ((List Int × Unit) × List (List Int) × List (List Int) × List (List Int) × Unit) × List (List Int) × Int × Int × Unit
abbrev impl_net_copGame_l0_O := (((List Int × Unit) × List (List Int) × List (List Int) × List (List Int) × Unit) × Unit) ⊕ Empty
def impl_net_copGame_l0_h : Form := [(2, .box K_PSiq 0), (5, .box K_PPZiqZSiSSiSSiq 99), (26, .v K_SSi), (27, .v I), (28, .v I)]
def impl_net_copGame_l0_o : Outs := [(.normal, [(5, .box K_PPZiqZSiSSiSSiq 99)])]
noncomputable def impl_net_copGame_l0_r (N : Nat) (back : impl_net_copGame_l0_H → Option impl_net_copGame_l0_O) (d : impl_net_copGame_l0_H) : Option impl_net_copGame_l0_O :=
 let s2 : List Int × Unit := d.1
 let s5 : (List Int × Unit) × List (List Int) × List (List Int) × List (List Int) × Unit := d.2.1
 let s26 : List (List Int) := d.2.2.1
 let s27 : Int := d.2.2.2.1
 let s28 : Int := d.2.2.2.2.1
 if (decide (s28 < s27)) = true then
  if (idxIn s28 (List.length s26)) = true then
  let r27 : Int × Unit := g_impl_net_size (s2, ())
  (G_repeat (([(-1 : Int)], (r27.1, ())))).bind fun r28 =>
  (impl_net_copGame_l2 N N ((s2, (s5, (r28.1, (s26, (s27, (s28, (at_ K_Si s26 s28.toNat, ((List.length (at_ K_Si s26 s28.toNat) : Int), ((0 : Int), ()))))))))))).bind fun o31 => match o31 with
  | .inl d32 =>
   if (decide (List.length d32.2.1.2.2.2.1 + List.length ([d32.2.2.1]) ≤ lim)) = true then
   let x33 : List (List Int) := d32.2.1.2.2.2.1 ++ ([d32.2.2.1])
   let x34 : Int := IntKind.wrap .i64 (d32.2.2.2.2.2.1 + (1 : Int))
   back ((d32.1, ((d32.2.1.1, (d32.2.1.2.1, (d32.2.1.2.2.1, (x33, d32.2.1.2.2.2.2)))), (d32.2.2.2.1, (d32.2.2.2.2.1, (x34, ()))))))
   else none
  else none
 else
  some (.inl (s5, ()))
noncomputable def impl_net_copGame_l0 (N : Nat) : Nat → impl_net_copGame_l0_H → Option impl_net_copGame_l0_O
 | 0, _ => none
 | k + 1, d => impl_net_copGame_l0_r N (impl_net_copGame_l0 N k) d
theorem impl_net_copGame_l0_ok (N : Nat) (back) (d) : roundR Γ_impl_net_copGame (assoc [(2, ⟨impl_net_copGame_l2_h, impl_net_copGame_l2_o, impl_net_copGame_l2 N N⟩)]) 0 impl_net_copGame_l0_h impl_net_copGame_l0_o (loopOf Tryz.f63 0) back d = impl_net_copGame_l0_r N back d := by kernel_rfl
abbrev impl_net_copGame_l8_H := ((List Int × Unit) × List (List Int) × List (List Int) × List (List Int) × Unit) × Int × Bool × (List (Int × Int × Unit)) × Int × Int × Int × Int × Int × Unit × Int × Unit
abbrev impl_net_copGame_l8_O := (((List Int × Unit) × List (List Int) × List (List Int) × List (List Int) × Unit) × Int × Bool × (List (Int × Int × Unit)) × Int × Int × Unit × Unit) ⊕ Empty
def impl_net_copGame_l8_h : Form := [(5, .box K_PPZiqZSiSSiSSiq 99), (11, .v I), (12, .v .bool), (13, .own K_SPiiq 99), (14, .v I), (64, .v I), (65, .v I), (71, .v I), (72, .v I), (63, .same 5 [.r, .r, .r, .l]), (70, .hole 5 [.r, .r, .r, .l] [])]
def impl_net_copGame_l8_o : Outs := [(.normal, [(5, .box K_PPZiqZSiSSiSSiq 99), (11, .v I), (12, .v .bool), (13, .own K_SPiiq 99), (64, .v I), (65, .v I), (63, .same 5 [.r, .r, .r, .l])])]
noncomputable def impl_net_copGame_l8_r (N : Nat) (back : impl_net_copGame_l8_H → Option impl_net_copGame_l8_O) (d : impl_net_copGame_l8_H) : Option impl_net_copGame_l8_O :=
 let s5 : (List Int × Unit) × List (List Int) × List (List Int) × List (List Int) × Unit := d.1
 let s11 : Int := d.2.1
 let s12 : Bool := d.2.2.1
 let s13 : List (Int × Int × Unit) := d.2.2.2.1
 let s14 : Int := d.2.2.2.2.1
 let s64 : Int := d.2.2.2.2.2.1
 let s65 : Int := d.2.2.2.2.2.2.1
 let s71 : Int := d.2.2.2.2.2.2.2.1
 let s72 : Int := d.2.2.2.2.2.2.2.2.1
 let s63 : Unit := d.2.2.2.2.2.2.2.2.2.1
 let s70 : Int := d.2.2.2.2.2.2.2.2.2.2.1
 if (decide (s72 < s71)) = true then
  if (idxIn s72 (List.length (at_ K_Si s5.2.2.2.1 (Int.toNat s70)))) = true then
  if (decide (at_ I (at_ K_Si s5.2.2.2.1 (Int.toNat s70)) s72.toNat < (0 : Int))) = true then
   ((F_impl_copGame_can 0) ((s5, (s14, (s72, ()))))).bind fun r57 =>
   if (r57.1) = true then
    if (decide (List.length s13 + List.length ([(s14, (s72, ()))]) ≤ lim)) = true then
    let x58 : Int := IntKind.wrap .i64 (s72 + (1 : Int))
    back ((s5, (s11, (s12, (s13 ++ ([(s14, (s72, ()))]), (s14, (s64, (s65, (s71, (x58, ((), ((((Int.toNat s70) : Nat) : Int), ()))))))))))))
    else none
   else
    let x59 : Int := IntKind.wrap .i64 (s72 + (1 : Int))
    back ((s5, (s11, (s12, (s13, (s14, (s64, (s65, (s71, (x59, ((), ((((Int.toNat s70) : Nat) : Int), ()))))))))))))
  else
   let x60 : Int := IntKind.wrap .i64 (s72 + (1 : Int))
   back ((s5, (s11, (s12, (s13, (s14, (s64, (s65, (s71, (x60, ((), ((((Int.toNat s70) : Nat) : Int), ()))))))))))))
  else none
 else
  some (.inl ((s5, (s11, (s12, (s13, (s64, (s65, ((), ())))))))))
noncomputable def impl_net_copGame_l8 (N : Nat) : Nat → impl_net_copGame_l8_H → Option impl_net_copGame_l8_O
 | 0, _ => none
 | k + 1, d => impl_net_copGame_l8_r N (impl_net_copGame_l8 N k) d
theorem impl_net_copGame_l8_ok (N : Nat) (back) (d) : roundR Γ_impl_net_copGame (assoc []) 8 impl_net_copGame_l8_h impl_net_copGame_l8_o (loopOf Tryz.f63 8) back d = impl_net_copGame_l8_r N back d := by kernel_rfl
abbrev impl_net_copGame_l6_H := ((List Int × Unit) × List (List Int) × List (List Int) × List (List Int) × Unit) × Int × Bool × (List (Int × Int × Unit)) × Int × Int × Unit × Unit
abbrev impl_net_copGame_l6_O := (((List Int × Unit) × List (List Int) × List (List Int) × List (List Int) × Unit) × Int × Bool × (List (Int × Int × Unit)) × Unit) ⊕ Empty
def impl_net_copGame_l6_h : Form := [(5, .box K_PPZiqZSiSSiSSiq 99), (11, .v I), (12, .v .bool), (13, .own K_SPiiq 99), (64, .v I), (65, .v I), (63, .same 5 [.r, .r, .r, .l])]
def impl_net_copGame_l6_o : Outs := [(.normal, [(5, .box K_PPZiqZSiSSiSSiq 99), (11, .v I), (12, .v .bool), (13, .own K_SPiiq 99)])]
noncomputable def impl_net_copGame_l6_r (N : Nat) (back : impl_net_copGame_l6_H → Option impl_net_copGame_l6_O) (d : impl_net_copGame_l6_H) : Option impl_net_copGame_l6_O :=
 let s5 : (List Int × Unit) × List (List Int) × List (List Int) × List (List Int) × Unit := d.1
 let s11 : Int := d.2.1
 let s12 : Bool := d.2.2.1
 let s13 : List (Int × Int × Unit) := d.2.2.2.1
 let s64 : Int := d.2.2.2.2.1
 let s65 : Int := d.2.2.2.2.2.1
 let s63 : Unit := d.2.2.2.2.2.2.1
 if (decide (s65 < s64)) = true then
  if (idxIn s65 (List.length s5.2.2.2.1)) = true then
  (impl_net_copGame_l8 N N ((s5, (s11, (s12, (s13, (s65, (s64, (s65, ((List.length (at_ K_Si s5.2.2.2.1 s65.toNat) : Int), ((0 : Int), ((), (((s65.toNat : Nat) : Int), ()))))))))))))).bind fun o54 => match o54 with
  | .inl d55 =>
   let x56 : Int := IntKind.wrap .i64 (d55.2.2.2.2.2.1 + (1 : Int))
   back ((d55.1, (d55.2.1, (d55.2.2.1, (d55.2.2.2.1, (d55.2.2.2.2.1, (x56, ((), ()))))))))
  else none
 else
  some (.inl ((s5, (s11, (s12, (s13, ()))))))
noncomputable def impl_net_copGame_l6 (N : Nat) : Nat → impl_net_copGame_l6_H → Option impl_net_copGame_l6_O
 | 0, _ => none
 | k + 1, d => impl_net_copGame_l6_r N (impl_net_copGame_l6 N k) d
theorem impl_net_copGame_l6_ok (N : Nat) (back) (d) : roundR Γ_impl_net_copGame (assoc [(8, ⟨impl_net_copGame_l8_h, impl_net_copGame_l8_o, impl_net_copGame_l8 N N⟩)]) 6 impl_net_copGame_l6_h impl_net_copGame_l6_o (loopOf Tryz.f63 6) back d = impl_net_copGame_l6_r N back d := by kernel_rfl
abbrev impl_net_copGame_l10_H := ((List Int × Unit) × List (List Int) × List (List Int) × List (List Int) × Unit) × Int × Bool × (List (Int × Int × Unit)) × Int × Int × Unit
abbrev impl_net_copGame_l10_O := (((List Int × Unit) × List (List Int) × List (List Int) × List (List Int) × Unit) × Int × Bool × Unit) ⊕ Empty
def impl_net_copGame_l10_h : Form := [(5, .box K_PPZiqZSiSSiSSiq 99), (11, .v I), (12, .v .bool), (93, .own K_SPiiq 99), (94, .v I), (95, .v I)]
def impl_net_copGame_l10_o : Outs := [(.normal, [(5, .box K_PPZiqZSiSSiSSiq 99), (11, .v I), (12, .v .bool)])]
noncomputable def impl_net_copGame_l10_r (N : Nat) (back : impl_net_copGame_l10_H → Option impl_net_copGame_l10_O) (d : impl_net_copGame_l10_H) : Option impl_net_copGame_l10_O :=
 let s5 : (List Int × Unit) × List (List Int) × List (List Int) × List (List Int) × Unit := d.1
 let s11 : Int := d.2.1
 let s12 : Bool := d.2.2.1
 let s93 : List (Int × Int × Unit) := d.2.2.2.1
 let s94 : Int := d.2.2.2.2.1
 let s95 : Int := d.2.2.2.2.2.1
 if (decide (s95 < s94)) = true then
  if (idxIn s95 (List.length s93)) = true then
  if (idxIn (at_ K_Piiq s93 s95.toNat).1 (List.length s5.2.2.2.1)) = true then
  if (idxIn (at_ K_Piiq s93 s95.toNat).2.1 (List.length (at_ K_Si s5.2.2.2.1 (at_ K_Piiq s93 s95.toNat).1.toNat))) = true then
  let x61 : Int := IntKind.wrap .i64 (s95 + (1 : Int))
  back (((s5.1, (s5.2.1, (s5.2.2.1, (List.set s5.2.2.2.1 (at_ K_Piiq s93 s95.toNat).1.toNat (List.set (at_ K_Si s5.2.2.2.1 (at_ K_Piiq s93 s95.toNat).1.toNat) (at_ K_Piiq s93 s95.toNat).2.1.toNat s11), s5.2.2.2.2)))), (s11, (true, (s93, (s94, (x61, ())))))))
  else none
  else none
  else none
 else
  some (.inl ((s5, (s11, (s12, ())))))
noncomputable def impl_net_copGame_l10 (N : Nat) : Nat → impl_net_copGame_l10_H → Option impl_net_copGame_l10_O
 | 0, _ => none
 | k + 1, d => impl_net_copGame_l10_r N (impl_net_copGame_l10 N k) d
theorem impl_net_copGame_l10_ok (N : Nat) (back) (d) : roundR Γ_impl_net_copGame (assoc []) 10 impl_net_copGame_l10_h impl_net_copGame_l10_o (loopOf Tryz.f63 10) back d = impl_net_copGame_l10_r N back d := by kernel_rfl
abbrev impl_net_copGame_l4_H := ((List Int × Unit) × List (List Int) × List (List Int) × List (List Int) × Unit) × Int × Bool × Unit
abbrev impl_net_copGame_l4_O := (((List Int × Unit) × List (List Int) × List (List Int) × List (List Int) × Unit) × Unit) ⊕ Empty
def impl_net_copGame_l4_h : Form := [(5, .box K_PPZiqZSiSSiSSiq 99), (11, .v I), (12, .v .bool)]
def impl_net_copGame_l4_o : Outs := [(.normal, [(5, .box K_PPZiqZSiSSiSSiq 99)])]
noncomputable def impl_net_copGame_l4_r (N : Nat) (back : impl_net_copGame_l4_H → Option impl_net_copGame_l4_O) (d : impl_net_copGame_l4_H) : Option impl_net_copGame_l4_O :=
 let s5 : (List Int × Unit) × List (List Int) × List (List Int) × List (List Int) × Unit := d.1
 let s11 : Int := d.2.1
 let s12 : Bool := d.2.2.1
 if (s12) = true then
  (impl_net_copGame_l6 N N ((s5, (s11, (false, (([] : List (Int × Int × Unit)), ((List.length s5.2.2.2.1 : Int), ((0 : Int), ((), ()))))))))).bind fun o44 => match o44 with
  | .inl d45 =>
   (impl_net_copGame_l10 N N ((d45.1, (d45.2.1, (d45.2.2.1, (d45.2.2.2.1, ((List.length d45.2.2.2.1 : Int), ((0 : Int), ())))))))).bind fun o47 => match o47 with
   | .inl d48 =>
    let x49 : Int := IntKind.wrap .i64 (d48.2.1 + (1 : Int))
    back ((d48.1, (x49, (d48.2.2.1, ()))))
 else
  some (.inl (s5, ()))
noncomputable def impl_net_copGame_l4 (N : Nat) : Nat → impl_net_copGame_l4_H → Option impl_net_copGame_l4_O
 | 0, _ => none
 | k + 1, d => impl_net_copGame_l4_r N (impl_net_copGame_l4 N k) d
theorem impl_net_copGame_l4_ok (N : Nat) (back) (d) : roundR Γ_impl_net_copGame (assoc [(6, ⟨impl_net_copGame_l6_h, impl_net_copGame_l6_o, impl_net_copGame_l6 N N⟩), (10, ⟨impl_net_copGame_l10_h, impl_net_copGame_l10_o, impl_net_copGame_l10 N N⟩)]) 4 impl_net_copGame_l4_h impl_net_copGame_l4_o (loopOf Tryz.f63 4) back d = impl_net_copGame_l4_r N back d := by kernel_rfl
noncomputable def F_impl_net_copGame (N : Nat) (d : (List Int × Unit) × Int × Unit) : Option (((List Int × Unit) × List (List Int) × List (List Int) × List (List Int) × Unit) × Unit) :=
 let a0 : List Int × Unit := d.1
 let a1 : Int := d.2.1
 (G_copBoard ((a0, (a1, ())))).bind fun r1 =>
 (impl_net_copGame_l0 N N ((a0, (r1.1, (r1.1.2.1, ((List.length r1.1.2.1 : Int), ((0 : Int), ()))))))).bind fun o10 => match o10 with
 | .inl d11 =>
  (impl_net_copGame_l4 N N ((d11.1, ((1 : Int), (true, ()))))).bind fun o25 => match o25 with
  | .inl d26 =>
   some (d26.1, ())
theorem F_impl_net_copGame_ok (N : Nat) (d) : fnR Γ_impl_net_copGame (assoc [(0, ⟨impl_net_copGame_l0_h, impl_net_copGame_l0_o, impl_net_copGame_l0 N N⟩), (4, ⟨impl_net_copGame_l4_h, impl_net_copGame_l4_o, impl_net_copGame_l4 N N⟩)]) true [(K_PSiq, false), (I, false)] [K_BPPZiqZSiSSiSSiq] Tryz.f63.results.toList (bodyOf Tryz.f63) d = F_impl_net_copGame N d := by kernel_rfl
noncomputable def S_impl_net_copGame : FSig := ⟨[(K_PSiq, false), (I, false)], [K_BPPZiqZSiSSiSSiq], true, (G_copGame)⟩
noncomputable def Γ_impl_copGame_reply : Ctx := { tk := assoc tks, ar := assoc ars, fs := assoc [(69, S_slices_Contains_Sint_int), (71, S_impl_copGame_place), (116, S_impl_net_timeAfter)] }
abbrev impl_copGame_reply_l0_H := ((List Int × Unit) × List (List Int) × List (List Int) × List (List Int) × Unit) × Int × Int × Int × List Int × Int × Int × Unit
abbrev impl_copGame_reply_l0_O := (((List Int × Unit) × List (List Int) × List (List Int) × List (List Int) × Unit) × Int × Unit) ⊕ Empty
def impl_copGame_reply_l0_h : Form := [(0, .v K_BPPZiqZSiSSiSSiq), (2, .v I), (7, .v I), (8, .v I), (20, .v K_Si), (21, .v I), (22, .v I)]
def impl_copGame_reply_l0_o : Outs := [(.normal, [(0, .v K_BPPZiqZSiSSiSSiq), (7, .v I)])]
noncomputable def impl_copGame_reply_l0_r (N : Nat) (back : impl_copGame_reply_l0_H → Option impl_copGame_reply_l0_O) (d : impl_copGame_reply_l0_H) : Option impl_copGame_reply_l0_O :=
 let s0 : (List Int × Unit) × List (List Int) × List (List Int) × List (List Int) × Unit := d.1
 let s2 : Int := d.2.1
 let s7 : Int := d.2.2.1
 let s8 : Int := d.2.2.2.1
 let s20 : List Int := d.2.2.2.2.1
 let s21 : Int := d.2.2.2.2.2.1
 let s22 : Int := d.2.2.2.2.2.2.1
 if (decide (s22 < s21)) = true then
  if (idxIn s22 (List.length s20)) = true then
  if (idxIn (at_ I s20 s22.toNat) (List.length s0.2.1)) = true then
  ((F_slices_Contains_Sint_int 0) ((at_ K_Si s0.2.1 (at_ I s20 s22.toNat).toNat, (s2, ())))).bind fun r27 =>
  if (!r27.1) = true then
   if (idxIn (at_ I s20 s22.toNat) (List.length s0.2.2.2.1)) = true then
   (G_timeAfter ((s0.1, (at_ K_Si s0.2.2.2.1 (at_ I s20 s22.toNat).toNat, (s2, ()))))).bind fun r28 =>
   if (decide (r28.1 ≥ (0 : Int))) = true then
    if (decide (s7 < (0 : Int))) = true then
     let x29 : Int := IntKind.wrap .i64 (s22 + (1 : Int))
     back ((s0, (s2, (at_ I s20 s22.toNat, (r28.1, (s20, (s21, (x29, ()))))))))
    else
     if (decide (r28.1 < s8)) = true then
      let x30 : Int := IntKind.wrap .i64 (s22 + (1 : Int))
      back ((s0, (s2, (at_ I s20 s22.toNat, (r28.1, (s20, (s21, (x30, ()))))))))
     else
      let x31 : Int := IntKind.wrap .i64 (s22 + (1 : Int))
      back ((s0, (s2, (s7, (s8, (s20, (s21, (x31, ()))))))))
   else
    let x32 : Int := IntKind.wrap .i64 (s22 + (1 : Int))
    back ((s0, (s2, (s7, (s8, (s20, (s21, (x32, ()))))))))
   else none
  else
   if (decide ((0 : Int) ≥ (0 : Int))) = true then
    if (decide (s7 < (0 : Int))) = true then
     let x33 : Int := IntKind.wrap .i64 (s22 + (1 : Int))
     back ((s0, (s2, (at_ I s20 s22.toNat, ((0 : Int), (s20, (s21, (x33, ()))))))))
    else
     if (decide ((0 : Int) < s8)) = true then
      let x34 : Int := IntKind.wrap .i64 (s22 + (1 : Int))
      back ((s0, (s2, (at_ I s20 s22.toNat, ((0 : Int), (s20, (s21, (x34, ()))))))))
     else
      let x35 : Int := IntKind.wrap .i64 (s22 + (1 : Int))
      back ((s0, (s2, (s7, (s8, (s20, (s21, (x35, ()))))))))
   else
    let x36 : Int := IntKind.wrap .i64 (s22 + (1 : Int))
    back ((s0, (s2, (s7, (s8, (s20, (s21, (x36, ()))))))))
  else none
  else none
 else
  some (.inl ((s0, (s7, ()))))
noncomputable def impl_copGame_reply_l0 (N : Nat) : Nat → impl_copGame_reply_l0_H → Option impl_copGame_reply_l0_O
 | 0, _ => none
 | k + 1, d => impl_copGame_reply_l0_r N (impl_copGame_reply_l0 N k) d
theorem impl_copGame_reply_l0_ok (N : Nat) (back) (d) : roundR Γ_impl_copGame_reply (assoc []) 0 impl_copGame_reply_l0_h impl_copGame_reply_l0_o (loopOf Tryz.f81 0) back d = impl_copGame_reply_l0_r N back d := by kernel_rfl
noncomputable def F_impl_copGame_reply (N : Nat) (d : ((List Int × Unit) × List (List Int) × List (List Int) × List (List Int) × Unit) × List Int × Int × Unit) : Option (List Int × Unit) :=
 let a0 : (List Int × Unit) × List (List Int) × List (List Int) × List (List Int) × Unit := d.1
 let a1 : List Int := d.2.1
 let a2 : Int := d.2.2.1
 ((F_impl_copGame_place 0) ((a0, (a1, ())))).bind fun r14 =>
 if (idxIn r14.1 (List.length a0.2.2.1)) = true then
 (impl_copGame_reply_l0 N N ((a0, (a2, ((-1 : Int), ((0 : Int), (at_ K_Si a0.2.2.1 r14.1.toNat, ((List.length (at_ K_Si a0.2.2.1 r14.1.toNat) : Int), ((0 : Int), ()))))))))).bind fun o25 => match o25 with
 | .inl d26 =>
  if (idxIn d26.2.1 (List.length d26.1.2.1)) = true then
  some (at_ K_Si d26.1.2.1 d26.2.1.toNat, ())
  else none
 else none
theorem F_impl_copGame_reply_ok (N : Nat) (d) : fnR Γ_impl_copGame_reply (assoc [(0, ⟨impl_copGame_reply_l0_h, impl_copGame_reply_l0_o, impl_copGame_reply_l0 N N⟩)]) false [(K_BPPZiqZSiSSiSSiq, false), (K_Si, false), (I, false)] [K_Si] Tryz.f81.results.toList (bodyOf Tryz.f81) d = F_impl_copGame_reply N d := by kernel_rfl
noncomputable def S_impl_copGame_reply : FSig := ⟨[(K_BPPZiqZSiSSiSSiq, false), (K_Si, false), (I, false)], [K_Si], false, (G_reply)⟩
noncomputable def Γ_impl_CopReply : Ctx := { tk := assoc tks, ar := assoc ars, fs := assoc [(50, S_impl_netOf), (67, S_impl_areCops), (68, S_impl_hasNodes), (71, S_impl_copGame_place), (80, S_slices_Clone_Sint_int), (81, S_impl_copGame_reply)], cs := assoc [], gs := assoc [(63, (S_impl_net_copGame, md0))], eqt := inL [], md := md0 }
noncomputable def F_impl_CopReply (N : Nat) (d : (Int × (List (Int × Int × Unit)) × Unit) × List Int × Int × Unit) : Option (List Int × Bool × Unit) :=
 let a0 : Int × (List (Int × Int × Unit)) × Unit := d.1
 let a1 : List Int := d.2.1
 let a2 : Int := d.2.2.1
 ((F_impl_areCops 0) ((a0, (a1, ())))).bind fun r1 =>
 if (!r1.1) = true then
  some ((([] : List Int), (false, ())))
 else
  ((F_impl_hasNodes 0) ((a0, ([a2], ())))).bind fun r2 =>
  if (!r2.1) = true then
   some ((([] : List Int), (false, ())))
  else
   (G_netOf (a0, ())).bind fun r3 =>
   (G_copGame ((r3.1, ((List.length a1 : Int), ())))).bind fun r4 =>
   ((F_impl_copGame_place 0) ((r4.1, (a1, ())))).bind fun r5 =>
   if (idxIn r5.1 (List.length r4.1.2.2.2.1)) = true then
   if (idxIn a2 (List.length (at_ K_Si r4.1.2.2.2.1 r5.1.toNat))) = true then
   if (decide (at_ I (at_ K_Si r4.1.2.2.2.1 r5.1.toNat) a2.toNat < (1 : Int))) = true then
    some ((([] : List Int), (false, ())))
   else
    (G_reply ((r4.1, (a1, (a2, ()))))).bind fun r6 =>
    (G_toIntS (r6.1, ())).bind fun r7 =>
    some ((r7.1, (true, ())))
   else none
   else none
theorem F_impl_CopReply_ok (N : Nat) (d) : fnR Γ_impl_CopReply (assoc []) true [(K_PiSPiiqq, false), (K_Si, false), (I, false)] [K_Si, .bool] Tryz.f40.results.toList (bodyOf Tryz.f40) d = F_impl_CopReply N d := by kernel_rfl
noncomputable def S_impl_CopReply : FSig := ⟨[(K_PiSPiiqq, false), (K_Si, false), (I, false)], [K_Si, .bool], true, (F_impl_CopReply 0)⟩
noncomputable def Γ_laws_eqIntS : Ctx := { tk := assoc tks, ar := assoc ars, fs := assoc [] }
abbrev laws_eqIntS_l0_H := List Int × List Int × Int × Unit
abbrev laws_eqIntS_l0_O := (Bool × Unit) ⊕ Unit ⊕ Empty
def laws_eqIntS_l0_h : Form := [(0, .v K_Si), (1, .v K_Si), (5, .v I)]
def laws_eqIntS_l0_o : Outs := [(.ret, [(4, .v .bool)]), (.normal, [])]
noncomputable def laws_eqIntS_l0_r (N : Nat) (back : laws_eqIntS_l0_H → Option laws_eqIntS_l0_O) (d : laws_eqIntS_l0_H) : Option laws_eqIntS_l0_O :=
 let s0 : List Int := d.1
 let s1 : List Int := d.2.1
 let s5 : Int := d.2.2.1
 if (decide (s5 < (List.length s0 : Int))) = true then
  if (idxIn s5 (List.length s0)) = true then
  if (idxIn s5 (List.length s1)) = true then
  if (at_ I s0 s5.toNat != at_ I s1 s5.toNat) = true then
   some (.inl (false, ()))
  else
   let x5 : Int := IntKind.wrap .i64 (s5 + (1 : Int))
   back ((s0, (s1, (x5, ()))))
  else none
  else none
 else
  some (.inr (.inl ()))
noncomputable def laws_eqIntS_l0 (N : Nat) : Nat → laws_eqIntS_l0_H → Option laws_eqIntS_l0_O
 | 0, _ => none
 | k + 1, d => laws_eqIntS_l0_r N (laws_eqIntS_l0 N k) d
theorem laws_eqIntS_l0_ok (N : Nat) (back) (d) : roundR Γ_laws_eqIntS (assoc []) 0 laws_eqIntS_l0_h laws_eqIntS_l0_o (loopOf Tryz.f25 0) back d = laws_eqIntS_l0_r N back d := by kernel_rfl
noncomputable def F_laws_eqIntS (N : Nat) (d : List Int × List Int × Unit) : Option (Bool × Unit) :=
 let a0 : List Int := d.1
 let a1 : List Int := d.2.1
 if ((List.length a0 : Int) != (List.length a1 : Int)) = true then
  some (false, ())
 else
  (laws_eqIntS_l0 N N ((a0, (a1, ((0 : Int), ()))))).bind fun o2 => match o2 with
  | .inl d3 =>
   some (d3.1, ())
  | .inr (.inl d4) =>
   some (true, ())
theorem F_laws_eqIntS_ok (N : Nat) (d) : fnR Γ_laws_eqIntS (assoc [(0, ⟨laws_eqIntS_l0_h, laws_eqIntS_l0_o, laws_eqIntS_l0 N N⟩)]) true [(K_Si, false), (K_Si, false)] [.bool] Tryz.f25.results.toList (bodyOf Tryz.f25) d = F_laws_eqIntS N d := by kernel_rfl
noncomputable def S_laws_eqIntS : FSig := ⟨[(K_Si, false), (K_Si, false)], [.bool], true, (G_eqIntS)⟩
noncomputable def Γ_laws_eqIntA2 : Ctx := { tk := assoc tks, ar := assoc ars, fs := assoc [] }
abbrev laws_eqIntA2_l0_H := (Int × Int × Unit) × (Int × Int × Unit) × Int × Unit
abbrev laws_eqIntA2_l0_O := (Bool × Unit) ⊕ Unit ⊕ Empty
def laws_eqIntA2_l0_h : Form := [(2, .box K_Piiq 99), (3, .box K_Piiq 99), (5, .v I)]
def laws_eqIntA2_l0_o : Outs := [(.ret, [(4, .v .bool)]), (.normal, [])]
noncomputable def laws_eqIntA2_l0_r (N : Nat) (back : laws_eqIntA2_l0_H → Option laws_eqIntA2_l0_O) (d : laws_eqIntA2_l0_H) : Option laws_eqIntA2_l0_O :=
 let s2 : Int × Int × Unit := d.1
 let s3 : Int × Int × Unit := d.2.1
 let s5 : Int := d.2.2.1
 if (decide (s5 < (2 : Int))) = true then
  if (s5 == (0 : Int)) = true then
   if (s5 == (0 : Int)) = true then
    if (s2.1 != s3.1) = true then
     some (.inl (false, ()))
    else
     let x11 : Int := IntKind.wrap .i64 (s5 + (1 : Int))
     back ((s2, (s3, (x11, ()))))
   else
    if (s5 == (1 : Int)) = true then
    if (s2.1 != s3.2.1) = true then
     some (.inl (false, ()))
    else
     let x10 : Int := IntKind.wrap .i64 (s5 + (1 : Int))
     back ((s2, (s3, (x10, ()))))
    else none
  else
   if (s5 == (1 : Int)) = true then
   if (s5 == (0 : Int)) = true then
    if (s2.2.1 != s3.1) = true then
     some (.inl (false, ()))
    else
     let x9 : Int := IntKind.wrap .i64 (s5 + (1 : Int))
     back ((s2, (s3, (x9, ()))))
   else
    if (s5 == (1 : Int)) = true then
    if (s2.2.1 != s3.2.1) = true then
     some (.inl (false, ()))
    else
     let x8 : Int := IntKind.wrap .i64 (s5 + (1 : Int))
     back ((s2, (s3, (x8, ()))))
    else none
   else none
 else
  some (.inr (.inl ()))
noncomputable def laws_eqIntA2_l0 (N : Nat) : Nat → laws_eqIntA2_l0_H → Option laws_eqIntA2_l0_O
 | 0, _ => none
 | k + 1, d => laws_eqIntA2_l0_r N (laws_eqIntA2_l0 N k) d
theorem laws_eqIntA2_l0_ok (N : Nat) (back) (d) : roundR Γ_laws_eqIntA2 (assoc []) 0 laws_eqIntA2_l0_h laws_eqIntA2_l0_o (loopOf Tryz.f96 0) back d = laws_eqIntA2_l0_r N back d := by kernel_rfl
noncomputable def F_laws_eqIntA2 (N : Nat) (d : (Int × Int × Unit) × (Int × Int × Unit) × Unit) : Option (Bool × Unit) :=
 let a0 : Int × Int × Unit := d.1
 let a1 : Int × Int × Unit := d.2.1
 (laws_eqIntA2_l0 N N ((a0, (a1, ((0 : Int), ()))))).bind fun o5 => match o5 with
 | .inl d6 =>
  some (d6.1, ())
 | .inr (.inl d7) =>
  some (true, ())
theorem F_laws_eqIntA2_ok (N : Nat) (d) : fnR Γ_laws_eqIntA2 (assoc [(0, ⟨laws_eqIntA2_l0_h, laws_eqIntA2_l0_o, laws_eqIntA2_l0 N N⟩)]) true [(K_Piiq, false), (K_Piiq, false)] [.bool] Tryz.f96.results.toList (bodyOf Tryz.f96) d = F_laws_eqIntA2 N d := by kernel_rfl
noncomputable def S_laws_eqIntA2 : FSig := ⟨[(K_Piiq, false), (K_Piiq, false)], [.bool], true, (G_eqIntA2)⟩
noncomputable def Γ_laws_eqIntA2S : Ctx := { tk := assoc tks, ar := assoc ars, fs := assoc [(96, S_laws_eqIntA2)] }
abbrev laws_eqIntA2S_l0_H := (List (Int × Int × Unit)) × (List (Int × Int × Unit)) × Int × Unit
abbrev laws_eqIntA2S_l0_O := (Bool × Unit) ⊕ Unit ⊕ Empty
def laws_eqIntA2S_l0_h : Form := [(0, .v K_SPiiq), (1, .v K_SPiiq), (5, .v I)]
def laws_eqIntA2S_l0_o : Outs := [(.ret, [(4, .v .bool)]), (.normal, [])]
noncomputable def laws_eqIntA2S_l0_r (N : Nat) (back : laws_eqIntA2S_l0_H → Option laws_eqIntA2S_l0_O) (d : laws_eqIntA2S_l0_H) : Option laws_eqIntA2S_l0_O :=
 let s0 : List (Int × Int × Unit) := d.1
 let s1 : List (Int × Int × Unit) := d.2.1
 let s5 : Int := d.2.2.1
 if (decide (s5 < (List.length s0 : Int))) = true then
  if (idxIn s5 (List.length s0)) = true then
  if (idxIn s5 (List.length s1)) = true then
  (G_eqIntA2 ((at_ K_Piiq s0 s5.toNat, (at_ K_Piiq s1 s5.toNat, ())))).bind fun r6 =>
  if (!r6.1) = true then
   some (.inl (false, ()))
  else
   let x7 : Int := IntKind.wrap .i64 (s5 + (1 : Int))
   back ((s0, (s1, (x7, ()))))
  else none
  else none
 else
  some (.inr (.inl ()))
noncomputable def laws_eqIntA2S_l0 (N : Nat) : Nat → laws_eqIntA2S_l0_H → Option laws_eqIntA2S_l0_O
 | 0, _ => none
 | k + 1, d => laws_eqIntA2S_l0_r N (laws_eqIntA2S_l0 N k) d
theorem laws_eqIntA2S_l0_ok (N : Nat) (back) (d) : roundR Γ_laws_eqIntA2S (assoc []) 0 laws_eqIntA2S_l0_h laws_eqIntA2S_l0_o (loopOf Tryz.f53 0) back d = laws_eqIntA2S_l0_r N back d := by kernel_rfl
noncomputable def F_laws_eqIntA2S (N : Nat) (d : (List (Int × Int × Unit)) × (List (Int × Int × Unit)) × Unit) : Option (Bool × Unit) :=
 let a0 : List (Int × Int × Unit) := d.1
 let a1 : List (Int × Int × Unit) := d.2.1
 if ((List.length a0 : Int) != (List.length a1 : Int)) = true then
  some (false, ())
 else
  (laws_eqIntA2S_l0 N N ((a0, (a1, ((0 : Int), ()))))).bind fun o3 => match o3 with
  | .inl d4 =>
   some (d4.1, ())
  | .inr (.inl d5) =>
   some (true, ())
theorem F_laws_eqIntA2S_ok (N : Nat) (d) : fnR Γ_laws_eqIntA2S (assoc [(0, ⟨laws_eqIntA2S_l0_h, laws_eqIntA2S_l0_o, laws_eqIntA2S_l0 N N⟩)]) true [(K_SPiiq, false), (K_SPiiq, false)] [.bool] Tryz.f53.results.toList (bodyOf Tryz.f53) d = F_laws_eqIntA2S N d := by kernel_rfl
noncomputable def S_laws_eqIntA2S : FSig := ⟨[(K_SPiiq, false), (K_SPiiq, false)], [.bool], true, (G_eqIntA2S)⟩
noncomputable def Γ_laws_eqGraph : Ctx := { tk := assoc tks, ar := assoc ars, fs := assoc [(53, S_laws_eqIntA2S)] }
noncomputable def F_laws_eqGraph (N : Nat) (d : (Int × (List (Int × Int × Unit)) × Unit) × (Int × (List (Int × Int × Unit)) × Unit) × Unit) : Option (Bool × Unit) :=
 let a0 : Int × (List (Int × Int × Unit)) × Unit := d.1
 let a1 : Int × (List (Int × Int × Unit)) × Unit := d.2.1
 if (a0.1 != a1.1) = true then
  some (false, ())
 else
  (G_eqIntA2S ((a0.2.1, (a1.2.1, ())))).bind fun r1 =>
  if (!r1.1) = true then
   some (false, ())
  else
   some (true, ())
theorem F_laws_eqGraph_ok (N : Nat) (d) : fnR Γ_laws_eqGraph (assoc []) true [(K_PiSPiiqq, false), (K_PiSPiiqq, false)] [.bool] Tryz.f19.results.toList (bodyOf Tryz.f19) d = F_laws_eqGraph N d := by kernel_rfl
noncomputable def S_laws_eqGraph : FSig := ⟨[(K_PiSPiiqq, false), (K_PiSPiiqq, false)], [.bool], true, (F_laws_eqGraph 0)⟩
noncomputable def Γ_laws_markIntA2S : Ctx := { tk := assoc tks, ar := assoc ars, fs := assoc [], lent := fun t => Nat.beq t 0 }
abbrev laws_markIntA2S_l2_H := (List (Int × Int × Unit)) × Int × Int × Int × Unit
abbrev laws_markIntA2S_l2_O := ((List (Int × Int × Unit)) × Int × Int × Unit) ⊕ Empty
def laws_markIntA2S_l2_h : Form := [(0, .own K_SPiiq 1), (1, .v I), (5, .v I), (6, .v I)]
def laws_markIntA2S_l2_o : Outs := [(.normal, [(0, .own K_SPiiq 1), (1, .v I), (5, .v I)])]
noncomputable def laws_markIntA2S_l2_r (N : Nat) (back : laws_markIntA2S_l2_H → Option laws_markIntA2S_l2_O) (d : laws_markIntA2S_l2_H) : Option laws_markIntA2S_l2_O :=
 let s0 : List (Int × Int × Unit) := d.1
 let s1 : Int := d.2.1
 let s5 : Int := d.2.2.1
 let s6 : Int := d.2.2.2.1
 if (decide (s6 < (2 : Int))) = true then
  if (idxIn s5 (List.length s0)) = true then
  if (s6 == (0 : Int)) = true then
   let x24 : List (Int × Int × Unit) := List.set s0 s5.toNat (s1, (at_ K_Piiq s0 s5.toNat).2)
   let x25 : Int := IntKind.wrap .i64 (s1 + (1 : Int))
   let x26 : Int := IntKind.wrap .i64 (s6 + (1 : Int))
   back ((x24, (x25, (s5, (x26, ())))))
  else
   if (s6 == (1 : Int)) = true then
   let x21 : List (Int × Int × Unit) := List.set s0 s5.toNat (((at_ K_Piiq s0 s5.toNat).1, (s1, (at_ K_Piiq s0 s5.toNat).2.2)))
   let x22 : Int := IntKind.wrap .i64 (s1 + (1 : Int))
   let x23 : Int := IntKind.wrap .i64 (s6 + (1 : Int))
   back ((x21, (x22, (s5, (x23, ())))))
   else none
  else none
 else
  some (.inl ((s0, (s1, (s5, ())))))
noncomputable def laws_markIntA2S_l2 (N : Nat) : Nat → laws_markIntA2S_l2_H → Option laws_markIntA2S_l2_O
 | 0, _ => none
 | k + 1, d => laws_markIntA2S_l2_r N (laws_markIntA2S_l2 N k) d
theorem laws_markIntA2S_l2_ok (N : Nat) (back) (d) : roundR Γ_laws_markIntA2S (assoc []) 2 laws_markIntA2S_l2_h laws_markIntA2S_l2_o (loopOf Tryz.f54 2) back d = laws_markIntA2S_l2_r N back d := by kernel_rfl
abbrev laws_markIntA2S_l0_H := (List (Int × Int × Unit)) × Int × Int × Unit
abbrev laws_markIntA2S_l0_O := ((List (Int × Int × Unit)) × Int × Unit) ⊕ Empty
def laws_markIntA2S_l0_h : Form := [(0, .own K_SPiiq 1), (1, .v I), (5, .v I)]
def laws_markIntA2S_l0_o : Outs := [(.normal, [(0, .own K_SPiiq 1), (1, .v I)])]
noncomputable def laws_markIntA2S_l0_r (N : Nat) (back : laws_markIntA2S_l0_H → Option laws_markIntA2S_l0_O) (d : laws_markIntA2S_l0_H) : Option laws_markIntA2S_l0_O :=
 let s0 : List (Int × Int × Unit) := d.1
 let s1 : Int := d.2.1
 let s5 : Int := d.2.2.1
 if (decide (s5 < (List.length s0 : Int))) = true then
  (laws_markIntA2S_l2 N N ((s0, (s1, (s5, ((0 : Int), ())))))).bind fun o18 => match o18 with
  | .inl d19 =>
   let x20 : Int := IntKind.wrap .i64 (d19.2.2.1 + (1 : Int))
   back ((d19.1, (d19.2.1, (x20, ()))))
 else
  some (.inl ((s0, (s1, ()))))
noncomputable def laws_markIntA2S_l0 (N : Nat) : Nat → laws_markIntA2S_l0_H → Option laws_markIntA2S_l0_O
 | 0, _ => none
 | k + 1, d => laws_markIntA2S_l0_r N (laws_markIntA2S_l0 N k) d
theorem laws_markIntA2S_l0_ok (N : Nat) (back) (d) : roundR Γ_laws_markIntA2S (assoc [(2, ⟨laws_markIntA2S_l2_h, laws_markIntA2S_l2_o, laws_markIntA2S_l2 N N⟩)]) 0 laws_markIntA2S_l0_h laws_markIntA2S_l0_o (loopOf Tryz.f54 0) back d = laws_markIntA2S_l0_r N back d := by kernel_rfl
noncomputable def F_laws_markIntA2S (N : Nat) (d : (List (Int × Int × Unit)) × Int × Unit) : Option (Int × (List (Int × Int × Unit)) × Unit) :=
 let a0 : List (Int × Int × Unit) := d.1
 let a1 : Int := d.2.1
 (laws_markIntA2S_l0 N N ((a0, (a1, ((0 : Int), ()))))).bind fun o10 => match o10 with
 | .inl d11 =>
  some ((d11.2.1, (d11.1, ())))
theorem F_laws_markIntA2S_ok (N : Nat) (d) : fnR Γ_laws_markIntA2S (assoc [(0, ⟨laws_markIntA2S_l0_h, laws_markIntA2S_l0_o, laws_markIntA2S_l0 N N⟩)]) true [(K_SPiiq, true), (I, false)] [I] Tryz.f54.results.toList (bodyOf Tryz.f54) d = F_laws_markIntA2S N d := by kernel_rfl
noncomputable def S_laws_markIntA2S : FSig := ⟨[(K_SPiiq, true), (I, false)], [I], true, (G_markIntA2S)⟩
noncomputable def Γ_laws_markGraph : Ctx := { tk := assoc tks, ar := assoc ars, fs := assoc [(54, S_laws_markIntA2S)], lent := fun t => Nat.beq t 0 }
noncomputable def F_laws_markGraph (N : Nat) (d : (Int × (List (Int × Int × Unit)) × Unit) × Int × Unit) : Option (Int × (Int × (List (Int × Int × Unit)) × Unit) × Unit) :=
 let a0 : Int × (List (Int × Int × Unit)) × Unit := d.1
 let a1 : Int := d.2.1
 (G_markIntA2S ((a0.2.1, (a1, ())))).bind fun r1 =>
 some ((r1.1, ((a0.1, (r1.2.1, a0.2.2)), ())))
theorem F_laws_markGraph_ok (N : Nat) (d) : fnR Γ_laws_markGraph (assoc []) true [(K_PiSPiiqq, true), (I, false)] [I] Tryz.f20.results.toList (bodyOf Tryz.f20) d = F_laws_markGraph N d := by kernel_rfl
noncomputable def S_laws_markGraph : FSig := ⟨[(K_PiSPiiqq, true), (I, false)], [I], true, (F_laws_markGraph 0)⟩
noncomputable def Γ_laws_markIntS : Ctx := { tk := assoc tks, ar := assoc ars, fs := assoc [], lent := fun t => Nat.beq t 0 }
abbrev laws_markIntS_l0_H := List Int × Int × Int × Unit
abbrev laws_markIntS_l0_O := (List Int × Int × Unit) ⊕ Empty
def laws_markIntS_l0_h : Form := [(0, .own K_Si 1), (1, .v I), (5, .v I)]
def laws_markIntS_l0_o : Outs := [(.normal, [(0, .own K_Si 1), (1, .v I)])]
noncomputable def laws_markIntS_l0_r (N : Nat) (back : laws_markIntS_l0_H → Option laws_markIntS_l0_O) (d : laws_markIntS_l0_H) : Option laws_markIntS_l0_O :=
 let s0 : List Int := d.1
 let s1 : Int := d.2.1
 let s5 : Int := d.2.2.1
 if (decide (s5 < (List.length s0 : Int))) = true then
  if (idxIn s5 (List.length s0)) = true then
  let x5 : Int := IntKind.wrap .i64 (s1 + (1 : Int))
  let x6 : Int := IntKind.wrap .i64 (s5 + (1 : Int))
  back ((List.set s0 s5.toNat s1, (x5, (x6, ()))))
  else none
 else
  some (.inl ((s0, (s1, ()))))
noncomputable def laws_markIntS_l0 (N : Nat) : Nat → laws_markIntS_l0_H → Option laws_markIntS_l0_O
 | 0, _ => none
 | k + 1, d => laws_markIntS_l0_r N (laws_markIntS_l0 N k) d
theorem laws_markIntS_l0_ok (N : Nat) (back) (d) : roundR Γ_laws_markIntS (assoc []) 0 laws_markIntS_l0_h laws_markIntS_l0_o (loopOf Tryz.f26 0) back d = laws_markIntS_l0_r N back d := by kernel_rfl
noncomputable def F_laws_markIntS (N : Nat) (d : List Int × Int × Unit) : Option (Int × List Int × Unit) :=
 let a0 : List Int := d.1
 let a1 : Int := d.2.1
 (laws_markIntS_l0 N N ((a0, (a1, ((0 : Int), ()))))).bind fun o3 => match o3 with
 | .inl d4 =>
  some ((d4.2.1, (d4.1, ())))
theorem F_laws_markIntS_ok (N : Nat) (d) : fnR Γ_laws_markIntS (assoc [(0, ⟨laws_markIntS_l0_h, laws_markIntS_l0_o, laws_markIntS_l0 N N⟩)]) true [(K_Si, true), (I, false)] [I] Tryz.f26.results.toList (bodyOf Tryz.f26) d = F_laws_markIntS N d := by kernel_rfl
noncomputable def S_laws_markIntS : FSig := ⟨[(K_Si, true), (I, false)], [I], true, (G_markIntS)⟩
noncomputable def Γ_laws_heldIntS : Ctx := { tk := assoc tks, ar := assoc ars, fs := assoc [] }
abbrev laws_heldIntS_l0_H := List Int × Int × Int × Unit
abbrev laws_heldIntS_l0_O := (Int × Unit) ⊕ (Int × Unit) ⊕ Empty
def laws_heldIntS_l0_h : Form := [(0, .v K_Si), (1, .v I), (5, .v I)]
def laws_heldIntS_l0_o : Outs := [(.ret, [(4, .v I)]), (.normal, [(1, .v I)])]
noncomputable def laws_heldIntS_l0_r (N : Nat) (back : laws_heldIntS_l0_H → Option laws_heldIntS_l0_O) (d : laws_heldIntS_l0_H) : Option laws_heldIntS_l0_O :=
 let s0 : List Int := d.1
 let s1 : Int := d.2.1
 let s5 : Int := d.2.2.1
 if (decide (s5 < (List.length s0 : Int))) = true then
  if (idxIn s5 (List.length s0)) = true then
  if (at_ I s0 s5.toNat != s1) = true then
   some (.inl ((-1 : Int), ()))
  else
   let x6 : Int := IntKind.wrap .i64 (s1 + (1 : Int))
   let x7 : Int := IntKind.wrap .i64 (s5 + (1 : Int))
   back ((s0, (x6, (x7, ()))))
  else none
 else
  some (.inr (.inl (s1, ())))
noncomputable def laws_heldIntS_l0 (N : Nat) : Nat → laws_heldIntS_l0_H → Option laws_heldIntS_l0_O
 | 0, _ => none
 | k + 1, d => laws_heldIntS_l0_r N (laws_heldIntS_l0 N k) d
theorem laws_heldIntS_l0_ok (N : Nat) (back) (d) : roundR Γ_laws_heldIntS (assoc []) 0 laws_heldIntS_l0_h laws_heldIntS_l0_o (loopOf Tryz.f27 0) back d = laws_heldIntS_l0_r N back d := by kernel_rfl
noncomputable def F_laws_heldIntS (N : Nat) (d : List Int × Int × Unit) : Option (Int × Unit) :=
 let a0 : List Int := d.1
 let a1 : Int := d.2.1
 (laws_heldIntS_l0 N N ((a0, (a1, ((0 : Int), ()))))).bind fun o3 => match o3 with
 | .inl d4 =>
  some (d4.1, ())
 | .inr (.inl d5) =>
  some (d5.1, ())
theorem F_laws_heldIntS_ok (N : Nat) (d) : fnR Γ_laws_heldIntS (assoc [(0, ⟨laws_heldIntS_l0_h, laws_heldIntS_l0_o, laws_heldIntS_l0 N N⟩)]) true [(K_Si, false), (I, false)] [I] Tryz.f27.results.toList (bodyOf Tryz.f27) d = F_laws_heldIntS N d := by kernel_rfl
noncomputable def S_laws_heldIntS : FSig := ⟨[(K_Si, false), (I, false)], [I], true, (G_heldIntS)⟩
noncomputable def Γ_laws_FnExactCopReply : Ctx := { tk := assoc tks, ar := assoc ars, fs := assoc [(12, S_laws_szGraph), (15, S_laws_toGraph), (19, S_laws_eqGraph), (20, S_laws_markGraph), (25, S_laws_eqIntS), (26, S_laws_markIntS), (27, S_laws_heldIntS), (31, S_laws_toIntS), (39, S_spec_CopReply), (40, S_impl_CopReply)] }
noncomputable def F_laws_FnExactCopReply (N : Nat) (d : (Int × (List (Int × Int × Unit)) × Unit) × List Int × Int × Unit) : Option (Bool × Unit) :=
 let a0 : Int × (List (Int × Int × Unit)) × Unit := d.1
 let a1 : List Int := d.2.1
 let a2 : Int := d.2.2.1
 if (decide ((List.length a1 : Int) > (1048576 : Int))) = true then
  some (true, ())
 else
  let r1 : Int × Unit := g_laws_szGraph ((a0, ((1048576 : Int), ())))
  if (decide (r1.1 < (0 : Int))) = true then
   some (true, ())
  else
   ((F_laws_toGraph 0) (a0, ())).bind fun r2 =>
   (G_toIntS (a1, ())).bind fun r3 =>
   ((F_spec_CopReply 0) ((r2.1, (r3.1, (a2, ()))))).bind fun r4 =>
   ((F_laws_toGraph 0) (a0, ())).bind fun r5 =>
   (G_toIntS (a1, ())).bind fun r6 =>
   ((F_impl_CopReply 0) ((r5.1, (r6.1, (a2, ()))))).bind fun r7 =>
   (G_eqIntS ((r7.1, (r4.1, ())))).bind fun r8 =>
   if (!r8.1) = true then
    some (false, ())
   else
    if (!(r7.2.1 == r4.2.1)) = true then
     some (false, ())
    else
     ((F_laws_toGraph 0) (a0, ())).bind fun r9 =>
     ((F_laws_eqGraph 0) ((r5.1, (r9.1, ())))).bind fun r10 =>
     if (!r10.1) = true then
      some (false, ())
     else
      (G_toIntS (a1, ())).bind fun r11 =>
      (G_eqIntS ((r6.1, (r11.1, ())))).bind fun r12 =>
      if (!r12.1) = true then
       some (false, ())
      else
       ((F_laws_markGraph 0) ((r5.1, ((1 : Int), ())))).bind fun r13 =>
       (G_markIntS ((r6.1, (r13.1, ())))).bind fun r14 =>
       if (decide (r14.1 < (0 : Int))) = true then
        some (false, ())
       else
        (G_eqIntS ((r7.1, (r4.1, ())))).bind fun r15 =>
        if (!r15.1) = true then
         some (false, ())
        else
         if (!(r7.2.1 == r4.2.1)) = true then
          some (false, ())
         else
          (G_markIntS ((r7.1, ((1 : Int), ())))).bind fun r16 =>
          (G_heldIntS ((r16.2.1, ((1 : Int), ())))).bind fun r17 =>
          if (decide (r17.1 < (0 : Int))) = true then
           some (false, ())
          else
           if (r17.1 != r16.1) = true then
            some (false, ())
           else
            ((F_laws_toGraph 0) (a0, ())).bind fun r18 =>
            (G_toIntS (a1, ())).bind fun r19 =>
            ((F_impl_CopReply 0) ((r18.1, (r19.1, (a2, ()))))).bind fun r20 =>
            (G_eqIntS ((r20.1, (r4.1, ())))).bind fun r21 =>
            if (!r21.1) = true then
             some (false, ())
            else
             if (!(r20.2.1 == r4.2.1)) = true then
              some (false, ())
             else
              (G_heldIntS ((r16.2.1, ((1 : Int), ())))).bind fun r22 =>
              if (decide (r22.1 < (0 : Int))) = true then
               some (false, ())
              else
               if (r22.1 != r16.1) = true then
                some (false, ())
               else
                some (true, ())
theorem F_laws_FnExactCopReply_ok (N : Nat) (d) : fnR Γ_laws_FnExactCopReply (assoc []) true [(K_PiSPiiqq, false), (K_Si, false), (I, false)] [.bool] Tryz.f10.results.toList (bodyOf Tryz.f10) d = F_laws_FnExactCopReply N d := by kernel_rfl
noncomputable def S_laws_FnExactCopReply : FSig := ⟨[(K_PiSPiiqq, false), (K_Si, false), (I, false)], [.bool], true, (F_laws_FnExactCopReply 0)⟩
end Go.V.W
set_option linter.unusedVariables false
set_option linter.unusedSimpArgs false
namespace Go.V.W
theorem wrap_nat {m : Nat} (h : m < 9223372036854775808) : IntKind.wrap .i64 (m : Int) = (m : Int) := Go.IntWalk.i64_in _ (by omega)
theorem ofInt_nat (m : Nat) : BitVec.ofInt 64 (m : Int) = BitVec.ofNat 64 m := by simp
theorem bits_or {a b : Nat} (ha : a < 256) (hb : b < 256) : bits .or .i64 (a : Int) (b : Int) = ((a ||| b : Nat) : Int) := by
 have hab : a ||| b < 256 := Nat.or_lt_two_pow (n := 8) ha hb
 have e : (BitVec.ofInt IntKind.i64.bits (a : Int) ||| BitVec.ofInt IntKind.i64.bits (b : Int)).toNat = a ||| b := by
  show (BitVec.ofInt 64 (a : Int) ||| BitVec.ofInt 64 (b : Int)).toNat = a ||| b
  rw [ofInt_nat, ofInt_nat, BitVec.toNat_or, BitVec.toNat_ofNat, BitVec.toNat_ofNat, Nat.mod_eq_of_lt (by omega), Nat.mod_eq_of_lt (by omega)]
 unfold bits bitI
 simp only [Option.getD_some]
 rw [e]
 exact wrap_nat (by omega)
theorem bits_and {a b : Nat} (ha : a < 256) (hb : b < 256) : bits .and .i64 (a : Int) (b : Int) = ((a &&& b : Nat) : Int) := by
 have hab : a &&& b ≤ a := Nat.and_le_left
 have e : (BitVec.ofInt IntKind.i64.bits (a : Int) &&& BitVec.ofInt IntKind.i64.bits (b : Int)).toNat = a &&& b := by
  show (BitVec.ofInt 64 (a : Int) &&& BitVec.ofInt 64 (b : Int)).toNat = a &&& b
  rw [ofInt_nat, ofInt_nat, BitVec.toNat_and, BitVec.toNat_ofNat, BitVec.toNat_ofNat, Nat.mod_eq_of_lt (by omega), Nat.mod_eq_of_lt (by omega)]
 unfold bits bitI
 simp only [Option.getD_some]
 rw [e]
 exact wrap_nat (by omega)
theorem shl_one {y : Nat} (h : y < 8) : shl .i64 1 (y : Int) = ((2 ^ y : Nat) : Int) := by
 have : y = 0 ∨ y = 1 ∨ y = 2 ∨ y = 3 ∨ y = 4 ∨ y = 5 ∨ y = 6 ∨ y = 7 := by omega
 rcases this with rfl | rfl | rfl | rfl | rfl | rfl | rfl | rfl <;> decide
theorem pow_small {y : Nat} (h : y < 8) : 2 ^ y < 256 := by
 have : y = 0 ∨ y = 1 ∨ y = 2 ∨ y = 3 ∨ y = 4 ∨ y = 5 ∨ y = 6 ∨ y = 7 := by omega
 rcases this with rfl | rfl | rfl | rfl | rfl | rfl | rfl | rfl <;> decide
theorem shr_nat {m y : Nat} (h : y < 8) : shr .i64 (m : Int) (y : Int) = ((m >>> y : Nat) : Int) := by
 unfold shr
 have e : min (y : Int).toNat IntKind.i64.bits = y := by
  show min (y : Int).toNat 64 = y
  rw [Int.toNat_natCast]
  omega
 rw [e, Nat.shiftRight_eq_div_pow, Int.fdiv_eq_ediv_of_nonneg _ (by
  have := Nat.two_pow_pos y
  exact_mod_cast Nat.zero_le (2 ^ y))]
 norm_cast
theorem has_bit {m y : Nat} (hm : m < 256) (h : y < 8) : (bits .and .i64 (shr .i64 (m : Int) (y : Int)) 1 == (1 : Int)) = m.testBit y := by
 have h1 : m >>> y < 256 := by
  rw [Nat.shiftRight_eq_div_pow]
  exact Nat.lt_of_le_of_lt (Nat.div_le_self _ _) hm
 rw [shr_nat h]
 have := bits_and h1 (show 1 < 256 by omega)
 rw [show ((1 : Nat) : Int) = 1 from rfl] at this
 rw [this, Nat.testBit_eq_decide_div_mod_eq, Nat.shiftRight_eq_div_pow, Nat.and_one_is_mod]
 have : m / 2 ^ y % 2 = 0 ∨ m / 2 ^ y % 2 = 1 := by omega
 rcases this with h | h <;> simp [h]
def okN (n : Nat) (ms : List Nat) : Prop := ms.length = n ∧ ∀ x, ms.getD x 0 < 256
theorem okN_zero (n : Nat) : okN n (List.replicate n 0) := by
 refine ⟨by simp, fun x => ?_⟩
 simp only [List.getD_eq_getElem?_getD, List.getElem?_replicate]
 split <;> simp
theorem getD_set (ms : List Nat) (a x v : Nat) (h : a < ms.length) : (ms.set a v).getD x 0 = if x = a then v else ms.getD x 0 := by
 simp only [List.getD_eq_getElem?_getD, List.getElem?_set]
 by_cases e : x = a
 ·subst e; simp [h]
 ·simp [e, Ne.symm e]
theorem orN_ok {n : Nat} {ms : List Nat} (h : okN n ms) {a b : Nat} (ha : a < n) (hb : b < 8) : okN n (orN ms a b) := by
 refine ⟨by simp [orN, h.1], fun x => ?_⟩
 unfold orN
 rw [getD_set _ _ _ _ (by rw [h.1]; exact ha)]
 split
 ·exact Nat.or_lt_two_pow (n := 8) (h.2 a) (pow_small hb)
 ·exact h.2 x
theorem orN_bit {n : Nat} {ms : List Nat} (h : okN n ms) {a b : Nat} (ha : a < n) (x y : Nat) : ((orN ms a b).getD x 0).testBit y = ((ms.getD x 0).testBit y || (decide (x = a) && decide (y = b))) := by
 unfold orN
 rw [getD_set _ _ _ _ (by rw [h.1]; exact ha)]
 by_cases e : x = a
 ·subst e
  simp only [if_true, Nat.testBit_or, Nat.testBit_two_pow, decide_true, Bool.true_and]
  congr 1
  by_cases e : y = b
  ·simp [e]
  ·simp [e, Ne.symm e]
 ·simp [e]
theorem edgeB_nat {n : Nat} {e : E} (h : edgeB (n : Int) e = true) : e.1.toNat < e.2.1.toNat ∧ e.2.1.toNat < n ∧ e.1 = (e.1.toNat : Int) ∧ e.2.1 = (e.2.1.toNat : Int) := by
 unfold edgeB at h
 simp only [Bool.and_eq_true, decide_eq_true_eq] at h
 omega
theorem addN_ok {n : Nat} {ms : List Nat} (hn : n ≤ 8) (h : okN n ms) {e : E} (he : edgeB (n : Int) e = true) : okN n (addN ms e) := by
 obtain ⟨h1, h2, _, _⟩ := edgeB_nat he
 exact orN_ok (orN_ok h (by omega) (by omega)) h2 (by omega)
def isE (e : E) (x y : Nat) : Bool := (decide (x = e.1.toNat) && decide (y = e.2.1.toNat)) || (decide (x = e.2.1.toNat) && decide (y = e.1.toNat))
theorem foldN_ok {n : Nat} (hn : n ≤ 8) : ∀ (es : List E) (ms : List Nat), okN n ms → es.all (edgeB (n : Int)) = true → okN n (es.foldl addN ms) ∧ ∀ x y, ((es.foldl addN ms).getD x 0).testBit y = ((ms.getD x 0).testBit y || es.any (fun e => isE e x y)) := by
 intro es
 induction es with
 | nil => intro ms h _; exact ⟨h, fun x y => by simp⟩
 | cons e es ih =>
  intro ms h he
  simp only [List.all_cons, Bool.and_eq_true] at he
  obtain ⟨h1, h2, _, _⟩ := edgeB_nat he.1
  obtain ⟨k1, k2⟩ := ih (addN ms e) (addN_ok hn h he.1) he.2
  refine ⟨k1, fun x y => ?_⟩
  rw [List.foldl_cons, k2 x y]
  unfold addN
  rw [orN_bit (orN_ok h (show e.1.toNat < n by omega) (by omega)) h2, orN_bit h (show e.1.toNat < n by omega)]
  simp only [List.any_cons, isE, Bool.or_assoc]
theorem netN_ok {n : Nat} (hn : n ≤ 8) {es : List E} (h : es.all (edgeB (n : Int)) = true) : okN n (netN n es) := (foldN_ok hn es _ (okN_zero n) h).1
theorem netN_bit {n : Nat} (hn : n ≤ 8) {es : List E} (h : es.all (edgeB (n : Int)) = true) (x y : Nat) : hasN (netN n es) x y = es.any (fun e => isE e x y) := by
 unfold hasN netN
 rw [(foldN_ok hn es _ (okN_zero n) h).2 x y]
 have : ((List.replicate n 0).getD x 0).testBit y = false := by
  simp only [List.getD_eq_getElem?_getD, List.getElem?_replicate]
  split <;> simp
 rw [this, Bool.false_or]
theorem toI_from (ms : List Nat) : fromI (toI ms) = ms := by
 unfold fromI toI
 rw [List.map_map]
 exact List.map_id' _
theorem at_toI (ms : List Nat) (x : Nat) : at_ (.int .i64) (toI ms) x = ((ms.getD x 0 : Nat) : Int) := by
 unfold at_ toI
 simp only [List.getD_eq_getElem?_getD, List.getElem?_map]
 cases ms[x]? <;> rfl
theorem toI_set (ms : List Nat) (x v : Nat) : List.set (toI ms) x (v : Int) = toI (ms.set x v) := by
 simp [toI, List.map_set]
theorem toI_len (ms : List Nat) : (toI ms).length = ms.length := by simp [toI]
end Go.V.W
set_option linter.unusedVariables false
set_option linter.unusedSimpArgs false
namespace Go.V
/-- Every order is good if each operation, when it may come up, keeps what is held of the listed ones. -/
theorem wpAny_inv {P : Program} {Q : Exit → Act → World → Prop} {ops : Array Oper} {Φ : (Nat → Bool) → Act → World → Prop} (back : ∀ (i : Nat) o, ops[i]? = some o → ∀ e ∈ o.after, Region.binds .any e = true → e.on < i)
    (hdone : ∀ L a w, (∀ i, i < ops.size → L i = true) → Φ L a w → Q .normal a w)
    (hstep : ∀ L a w j o, ops[j]? = some o → L j = false → Closed ops L → (∀ e ∈ o.after, Region.binds .any e = true → L e.on = true) → Φ L a w → o.guard = none ∧ ∀ K : Act → World → Prop, (∀ a' w', Φ (fun i => L i || decide (i = j)) a' w' → K a' w') → o.wp P a w K Q) :
    ∀ (fuel : Nat) (listed : Array Bool) (a : Act) (w : World), listed.size = ops.size → listed.toList.count false = fuel → Closed ops (fun i => listed.getD i false) → Φ (fun i => listed.getD i false) a w → wpAny P .any ops Q fuel listed a w := by
  have hready : ∀ (listed : Array Bool), listed.size = ops.size → Region.ready .any ops listed = [] → ∀ i, i < ops.size → listed.getD i false = true := by
    intro listed hsz hr
    have key : ∀ m i, i < m → i < ops.size → listed.getD i false = true := by
      intro m
      induction m with
      | zero => intro i hi; omega
      | succ m ih =>
        intro i hi hlt
        by_cases him : i < m
        · exact ih i him hlt
        · cases hl : listed.getD i false with
          | true => rfl
          | false =>
            exfalso
            have ho' : ops[i]? = some ops[i] := by simp [hlt]
            have : i ∈ Region.ready .any ops listed := by
              rw [mem_ready]
              have hl2 : i < listed.size := by omega
              refine ⟨?_, _, ho', fun e he hb => ih e.on ?_ ?_⟩
              · simp only [Array.getD, hl2, dif_pos] at hl ⊢; exact hl
              · have := back i _ ho' e he hb; omega
              · have := back i _ ho' e he hb; omega
            rw [hr] at this
            simp at this
    exact fun i hi => key (i + 1) i (by omega) hi
  intro fuel
  induction fuel with
  | zero =>
    intro listed a w hsz hc hL hi
    have hall : ∀ i, i < ops.size → listed.getD i false = true := by
      intro i hlt
      have hlt' : i < listed.size := by omega
      rw [List.count_eq_zero] at hc
      cases hb : listed.getD i false with
      | true => rfl
      | false =>
        exfalso
        apply hc
        simp only [Array.getD, hlt', dif_pos] at hb
        rw [← hb]
        exact Array.getElem_mem_toList hlt'
    refine ⟨?_, hdone _ a w hall hi⟩
    apply List.eq_nil_iff_forall_not_mem.2
    intro i hm
    rw [mem_ready] at hm
    obtain ⟨h1, o, h2, _⟩ := hm
    have hlt := (Array.getElem?_eq_some_iff.1 h2).1
    have := hall i hlt
    have hlt' : i < listed.size := by omega
    simp only [Array.getD, hlt', dif_pos] at h1 this
    rw [this] at h1
    cases h1
  | succ fuel ih =>
    intro listed a w hsz hc hL hi
    refine ⟨fun hr => hdone _ a w (hready listed hsz hr) hi, fun j hj => ?_⟩
    rw [mem_ready] at hj
    obtain ⟨h1, o, ho, hr⟩ := hj
    have hlt := (Array.getElem?_eq_some_iff.1 ho).1
    have hlt' : j < listed.size := by omega
    have hjf : listed.getD j false = false := by simp only [Array.getD, hlt', dif_pos] at h1 ⊢; exact h1
    obtain ⟨hg, hs⟩ := hstep _ a w j o ho hjf hL hr hi
    unfold wpOp
    rw [ho]
    simp only [Region.wanted, hg, if_true]
    refine .inl (hs _ fun a' w' hi' => ih (listed.setIfInBounds j true) a' w' (by simpa using hsz) ?_ ?_ ?_)
    · have hlj : listed[j] = false := by simp only [Array.getD, hlt', dif_pos] at hjf; exact hjf
      rw [Array.toList_setIfInBounds, List.count_set (by simpa using hlt')]
      simp [hlj, hc]
    · intro i o' ho' hli e he hb
      simp only [getD_set hlt', Bool.or_eq_true, decide_eq_true_eq] at hli ⊢
      rcases hli with hli | hli
      · exact .inl (hL i o' ho' hli e he hb)
      · subst hli
        rw [ho] at ho'
        injection ho' with ho'
        subst ho'
        exact .inl (hr e he hb)
    · have e : (fun i => (listed.setIfInBounds j true).getD i false) = fun i => listed.getD i false || decide (i = j) := by
        funext i
        exact getD_set hlt'
      rw [e]
      exact hi'
theorem wp_draw_inv {P : Program} {Q : Exit → Act → World → Prop} {ops : Array Oper} {rid : Nat} {a : Act} {w : World} (Φ : (Nat → Bool) → Act → World → Prop) (hm : P.follows .mixedOrders = true) (back : ∀ (i : Nat) o, ops[i]? = some o → ∀ e ∈ o.after, Region.binds .any e = true → e.on < i)
    (hdone : ∀ L a w, (∀ i, i < ops.size → L i = true) → Φ L a w → Q .normal a w)
    (hstep : ∀ L a w j o, ops[j]? = some o → L j = false → Closed ops L → (∀ e ∈ o.after, Region.binds .any e = true → L e.on = true) → Φ L a w → o.guard = none ∧ ∀ K : Act → World → Prop, (∀ a' w', Φ (fun i => L i || decide (i = j)) a' w' → K a' w') → o.wp P a w K Q)
    (h0 : Φ (fun _ => false) a { w with drawn := w.drawn + 1 }) : (Code.region rid ops true).wp P Q a w := by
  refine wp_region_any hm ?_
  have e2 : (fun i => (Array.replicate ops.size false).getD i false) = fun _ => false := by
    funext i
    simp only [Array.getD_eq_getD_getElem?]
    by_cases hj : i < ops.size
    · simp [hj]
    · simp [hj]
  refine wpAny_inv back hdone hstep ops.size _ a _ (by simp) (by simp) (fun j o ho hl => ?_) (by rw [e2]; exact h0)
  rw [e2] at hl
  cases hl
end Go.V
namespace Go.V.W
open Go.Proofs Go.RowKit
def regOf (id : Nat) : Code → Option (Array Oper)
  | .region i ops _ => if i = id then some ops else none
  | .seq a b => (regOf id a).or (regOf id b)
  | .cond _ a b => (regOf id a).or (regOf id b)
  | .block _ c => regOf id c
  | .loop c => regOf id c
  | .scope c => regOf id c
  | _ => none
noncomputable def ops9 : Array Oper := (regOf 9 (bodyOf Tryz.f104)).getD #[]
noncomputable def dof (j : Nat) : Option (Option Tmp × Op × Option (Nat × Bool)) := (ops9[j]?).map fun o => (o.dst, o.op, o.guard)
theorem o9_0 : dof 0 = some (some 38, .move (.tmp 8), none) := by kernel_rfl
theorem o9_1 : dof 1 = some (some 39, .move (.tmp 7), none) := by kernel_rfl
theorem o9_2 : dof 2 = some (some 40, .move (.tmp 8), none) := by kernel_rfl
theorem o9_3 : dof 3 = some (some 41, .slice 37 (.tmp 39) (some (.tmp 40)) none none, none) := by kernel_rfl
theorem o9_4 : dof 4 = some (some 42, .move (.tmp 7), none) := by kernel_rfl
theorem o9_5 : dof 5 = some (some 43, .move (.tmp 8), none) := by kernel_rfl
theorem o9_6 : dof 6 = some (some 44, .slice 37 (.tmp 42) none (some (.tmp 43)) none, none) := by kernel_rfl
theorem o9_7 : dof 7 = some (some 45, .call { callee := .builtin .copy, args := #[.tmp 41, .tmp 44], argTypes := #[37, 37] }, none) := by kernel_rfl
theorem o9_8 : dof 8 = some (some 46, .binOp .add 3 (.tmp 38) (.tmp 45) 3, none) := by kernel_rfl
theorem o9_9 : dof 9 = some (some 8, .assign (.tmp 46), none) := by kernel_rfl
theorem size9 : ops9.size = 10 := by kernel_rfl
def backB (ops : Array Oper) : Bool := (List.range ops.size).all fun i => ((ops[i]?).map fun o => o.after.toList.all fun e => !Region.binds .any e || decide (e.on < i)).getD true
theorem back9B : backB ops9 = true := by kernel_rfl
theorem back9 : ∀ (i : Nat) o, ops9[i]? = some o → ∀ e ∈ o.after, Region.binds .any e = true → e.on < i := by
  intro i o ho e he hb
  have h := back9B
  unfold backB at h
  rw [List.all_eq_true] at h
  have hi := (Array.getElem?_eq_some_iff.1 ho).1
  have h1 := h i (List.mem_range.2 hi)
  rw [ho] at h1
  simp only [Option.map_some, Option.getD_some, List.all_eq_true] at h1
  have h2 := h1 e (Array.mem_toList_iff.2 he)
  rw [hb] at h2
  simpa using h2
noncomputable def hasE (i j : Nat) : Bool := ((ops9[i]?).map fun o => o.after.toList.any fun e => Region.binds .any e && e.on == j).getD false
theorem hasE_of {i j : Nat} (h : hasE i j = true) {o : Oper} (ho : ops9[i]? = some o) : ∃ e ∈ o.after, Region.binds .any e = true ∧ e.on = j := by
  unfold hasE at h
  rw [ho] at h
  simp only [Option.map_some, Option.getD_some, List.any_eq_true, Bool.and_eq_true, beq_iff_eq] at h
  obtain ⟨e, he, h1, h2⟩ := h
  exact ⟨e, Array.mem_toList_iff.1 he, h1, h2⟩
theorem clos {L : Nat → Bool} (hL : Closed ops9 L) {i j : Nat} (h : hasE i j = true) (hi : i < 10) (h1 : L i = true) : L j = true := by
  have hs := size9
  have hlt : i < ops9.size := by omega
  have ho : ops9[i]? = some ops9[i] := Array.getElem?_eq_getElem hlt
  obtain ⟨e, he, hb, rfl⟩ := hasE_of h ho
  exact hL i _ ho h1 e he hb
theorem rdy {L : Nat → Bool} {i j : Nat} {o : Oper} (h : hasE i j = true) (ho : ops9[i]? = some o) (hr : ∀ e ∈ o.after, Region.binds .any e = true → L e.on = true) : L j = true := by
  obtain ⟨e, he, hb, rfl⟩ := hasE_of h ho
  exact hr e he hb
def val (a0 F : Nat → Value) (L : Nat → Bool) (t : Nat) : Value := if t = 8 then (if L 9 = true then F 9 else a0 8) else if 38 ≤ t ∧ t ≤ 46 then (if L (t - 38) = true then F (t - 38) else a0 t) else a0 t
def dstv (j : Nat) : Nat := if j = 9 then 8 else 38 + j
theorem val_step (a0 F : Nat → Value) (L : Nat → Bool) {j : Nat} (hj : j ≤ 9) (t : Nat) : (if t = dstv j then F j else val a0 F L t) = val a0 F (fun i => L i || decide (i = j)) t := by
  unfold val dstv
  by_cases e9 : j = 9
  · subst e9
    simp only [if_true]
    by_cases et : t = 8
    · simp [et]
    · simp only [et, if_false]
      by_cases er : 38 ≤ t ∧ t ≤ 46
      · have : ¬ t - 38 = 9 := by omega
        simp [er, this]
      · simp [er]
  · simp only [e9, if_false]
    by_cases et : t = 8
    · subst et
      have h1 : ¬ 8 = 38 + j := by omega
      have h2 : ¬ (9 = j) := fun h => e9 h.symm
      simp [h1, h2]
    · simp only [et, if_false]
      by_cases er : 38 ≤ t ∧ t ≤ 46
      · simp only [er, and_self, if_true]
        by_cases ej : t = 38 + j
        · subst ej
          simp
        · have : ¬ t - 38 = j := by omega
          simp [ej, this]
      · have : ¬ t = 38 + j := by omega
        simp [er, this]
def rowL (n m : Nat) (x z : Value) : List Value := List.replicate m x ++ List.replicate (n - m) z
theorem rowL_splice {n m c : Nat} {x z : Value} (h : m + c ≤ n) : (rowL n m x z).take m ++ List.replicate c x ++ (rowL n m x z).drop (m + c) = rowL n (m + c) x z := by
  unfold rowL
  have e1 : (List.replicate m x ++ List.replicate (n - m) z).take m = List.replicate m x := by simp
  have e2 : (List.replicate m x ++ List.replicate (n - m) z).drop (m + c) = List.replicate (n - (m + c)) z := by
    rw [List.drop_append]
    simp
    omega
  rw [e1, e2, ← List.replicate_append_replicate]
theorem row_src {w : World} {g : Nat} {L : List Value} {T : TypeId} (h : w.heap[g]? = some (.cells L.toArray T (0, 0))) : ∀ j v, L[j]? = some v → w.cell? ((⟨g, 0, none⟩ : Addr).add j) = some v := by
  intro j v hj
  by_cases e : j = 0
  · subst e
    simp [World.cell?, Addr.add, h, hj]
  · simp [World.cell?, Addr.add, h, hj, e]
theorem eval_tmp (a : Act) (t : Nat) : a.eval (.tmp t) = a.tmps.getD t undef := rfl
theorem put_getD {a : Act} {d t : Nat} {v : Value} (hd : d < a.tmps.size) : (a.put (some d) v).tmps.getD t undef = if t = d then v else a.tmps.getD t undef := by
  unfold Act.put
  by_cases e : t = d
  · subst e
    simp [Array.getD_eq_getD_getElem?, hd]
  · have e' : d ≠ t := fun h => e h.symm
    simp [Array.getD_eq_getD_getElem?, Array.getElem?_setIfInBounds_ne e', e]
/-- What is held of the listed operations. -/
structure Phi (a0 F : Nat → Value) (df : List Deferred) (sz g n m c B : Nat) (x z : Value) (T : TypeId) (w0 : World) (L : Nat → Bool) (a : Act) (w : World) : Prop where
  size : a.tmps.size = sz
  defers : a.defers = df
  tmps : ∀ t, a.tmps.getD t undef = val a0 F L t
  row : w.heap[g]? = some (.cells (rowL n (if L 7 = true then m + c else m) x z).toArray T (0, 0))
  below : Below B w0 w
theorem dof_of {j : Nat} {d : Option Tmp} {p : Op} {gd : Option (Nat × Bool)} (h : dof j = some (d, p, gd)) {o : Oper} (ho : ops9[j]? = some o) : o.dst = d ∧ o.op = p ∧ o.guard = gd := by
  unfold dof at h
  rw [ho] at h
  simp only [Option.map_some, Option.some.injEq, Prod.mk.injEq] at h
  exact h
theorem Phi.fin {P : Program} {Q : Exit → Act → World → Prop} {a0 F : Nat → Value} {df : List Deferred} {g n m c B : Nat} {x z : Value} {T : TypeId} {w0 w w' : World} {L : Nat → Bool} {a : Act} (h : Phi a0 F df 48 g n m c B x z T w0 L a w) {j : Nat} (hj : j ≤ 9) {o : Oper} (hd : o.dst = some (dstv j))
    (hrun : (execOp a.eval o).run P w = .ok (.value (F j)) w') (hrow : w'.heap[g]? = some (.cells (rowL n (if (L 7 || decide (7 = j)) = true then m + c else m) x z).toArray T (0, 0))) (hB : Below B w0 w')
    (K : Act → World → Prop) (hK : ∀ a' w', Phi a0 F df 48 g n m c B x z T w0 (fun i => L i || decide (i = j)) a' w' → K a' w') : o.wp P a w K Q := by
  refine wp_value hrun (hK _ _ ⟨?_, ?_, fun t => ?_, hrow, hB⟩)
  · rw [hd]
    simp [Act.put, h.size]
  · rw [hd]
    exact h.defers
  · rw [hd, put_getD (by rw [h.size]; unfold dstv; split <;> omega), h.tmps t]
    exact val_step a0 F L hj t
theorem Phi.fin0 {P : Program} {Q : Exit → Act → World → Prop} {a0 F : Nat → Value} {df : List Deferred} {g n m c B : Nat} {x z : Value} {T : TypeId} {w0 w : World} {L : Nat → Bool} {a : Act} (h : Phi a0 F df 48 g n m c B x z T w0 L a w) {j : Nat} (hj : j ≤ 9) (hj7 : 7 ≠ j) {o : Oper} (hd : o.dst = some (dstv j))
    (hrun : (execOp a.eval o).run P w = .ok (.value (F j)) w)
    (K : Act → World → Prop) (hK : ∀ a' w', Phi a0 F df 48 g n m c B x z T w0 (fun i => L i || decide (i = j)) a' w' → K a' w') : o.wp P a w K Q := by
  refine h.fin hj hd hrun ?_ h.below K hK
  have : (L 7 || decide (7 = j)) = L 7 := by simp [hj7]
  rw [this]
  exact h.row
def Fv (g n m c : Nat) : Nat → Value
  | 0 => .int .i64 (m : Int)
  | 1 => .slice (some ⟨g, 0, none⟩) n n
  | 2 => .int .i64 (m : Int)
  | 3 => .slice (some ⟨g, m, none⟩) (n - m) (n - m)
  | 4 => .slice (some ⟨g, 0, none⟩) n n
  | 5 => .int .i64 (m : Int)
  | 6 => .slice (some ⟨g, 0, none⟩) m n
  | 7 => .int .i64 (c : Int)
  | 8 => .int .i64 ((m + c : Nat) : Int)
  | _ => .int .i64 ((m + c : Nat) : Int)
theorem val8 {a0 F : Nat → Value} {L : Nat → Bool} (h : L 9 = false) : val a0 F L 8 = a0 8 := by simp [val, h]
theorem val7 {a0 F : Nat → Value} {L : Nat → Bool} : val a0 F L 7 = a0 7 := by simp [val]
theorem valD {a0 F : Nat → Value} {L : Nat → Bool} {j : Nat} (hj : j ≤ 8) (h : L j = true) : val a0 F L (38 + j) = F j := by
  unfold val
  have h1 : ¬ 38 + j = 8 := by omega
  have h2 : 38 ≤ 38 + j ∧ 38 + j ≤ 46 := by omega
  have h3 : 38 + j - 38 = j := by omega
  simp only [h1, if_false, h2, and_self, if_true, h3, h]
theorem sz3 : (Tryz.prog.info? 3).map (·.size) = some 1 := by kernel_rfl
theorem elem32 : Tryz.prog.elem 37 = 3 := by kernel_rfl
theorem und32 : Tryz.prog.underlying 37 = some (.slice (Tryz.prog.elem 37)) := by kernel_rfl
theorem sliced_l {n m g : Nat} (w : World) (hmn : m < n) : (Instr.sliceAt 37 (.slice (some ⟨g, 0, none⟩) n n) (some (.int .i64 (m : Int))) none none).run Tryz.prog w = .ok (.slice (some ⟨g, m, none⟩) (n - m) (n - m)) w := by
  have hs := Tryz.sizeOf3 w
  have hne : ¬ n = m := by omega
  rw [run_sliceAt_slice w 37 _ _ _ _ und32, run_slice_l w 37 _ n n und32 .i64 (m : Int) (by omega) (by omega), elem32, hs]
  simp only [Result.andThen, sliced, Int.toNat_natCast, hne, if_false, Option.map_some, Addr.add, Nat.mul_one, Nat.zero_add]
  by_cases h0 : m = 0
  · subst h0
    simp
  · simp [h0]
theorem sliced_h {n m g : Nat} (w : World) (hmn : m < n) : (Instr.sliceAt 37 (.slice (some ⟨g, 0, none⟩) n n) none (some (.int .i64 (m : Int))) none).run Tryz.prog w = .ok (.slice (some ⟨g, 0, none⟩) m n) w := by
  have hs := Tryz.sizeOf3 w
  have hne : ¬ n = 0 := by omega
  rw [run_sliceAt_slice w 37 _ _ _ _ und32, run_slice_h w 37 _ n n und32 .i64 (m : Int) (by omega) (by omega), elem32, hs]
  simp [Result.andThen, sliced, Addr.add]
theorem reg9 {Q : Exit → Act → World → Prop} {rid : Nat} {a : Act} {w w0 : World} {g n m c B : Nat} {xi zi : Int} {T : TypeId} {a0 : Nat → Value} (hsz : a.tmps.size = 48) (ha0 : ∀ t, a.tmps.getD t undef = a0 t) (h7 : a0 7 = .slice (some ⟨g, 0, none⟩) n n) (h8 : a0 8 = .int .i64 (m : Int))
    (hm : 1 ≤ m) (hmn : m < n) (hn : n ≤ 8) (hc : c = min m (n - m)) (hg : w.heap[g]? = some (.cells (rowL n m (.int .i64 xi) (.int .i64 zi)).toArray T (0, 0))) (hB : Below B w0 w) (hBg : B ≤ g)
    (hQ : ∀ a' w', Phi a0 (Fv g n m c) a.defers 48 g n m c B (.int .i64 xi) (.int .i64 zi) T w0 (fun _ => true) a' w' → Q .normal a' w') : (Code.region rid ops9 true).wp Tryz.prog Q a w := by
  have h0 : Phi a0 (Fv g n m c) a.defers 48 g n m c B (.int .i64 xi) (.int .i64 zi) T w0 (fun _ => false) a { w with drawn := w.drawn + 1 } :=
    ⟨hsz, rfl, fun t => by rw [ha0 t]; unfold val; by_cases e : t = 8 <;> simp [e], hg, ⟨hB.os, hB.tape, hB.output, hB.size, hB.block⟩⟩
  refine wp_draw_inv (Phi a0 (Fv g n m c) a.defers 48 g n m c B (.int .i64 xi) (.int .i64 zi) T w0) (by kernel_rfl) back9 (fun L a' w' hL h => ?_) (fun L a1 w1 j o ho hj hL hr h => ?_) h0
  · refine hQ a' w' ⟨h.size, h.defers, fun t => ?_, ?_, h.below⟩
    · rw [h.tmps t]
      unfold val
      have := size9
      have e9 : L 9 = true := hL 9 (by omega)
      by_cases et : t = 8
      · simp [et, e9]
      · by_cases er : 38 ≤ t ∧ t ≤ 46
        · have : L (t - 38) = true := hL _ (by omega)
          simp [et, er, this]
        · simp [et, er]
    · have e7 : L 7 = true := hL 7 (by have := size9; omega)
      have := h.row
      rw [e7] at this
      exact this
  · have hj10 : j < 10 := by
      have := (Array.getElem?_eq_some_iff.1 ho).1
      have := size9
      omega
    have l98 : L 9 = true → L 8 = true := clos hL (by kernel_rfl) (by omega)
    have l80 : L 8 = true → L 0 = true := clos hL (by kernel_rfl) (by omega)
    have l87 : L 8 = true → L 7 = true := clos hL (by kernel_rfl) (by omega)
    have l73 : L 7 = true → L 3 = true := clos hL (by kernel_rfl) (by omega)
    have l76 : L 7 = true → L 6 = true := clos hL (by kernel_rfl) (by omega)
    have l32 : L 3 = true → L 2 = true := clos hL (by kernel_rfl) (by omega)
    have l65 : L 6 = true → L 5 = true := clos hL (by kernel_rfl) (by omega)
    have no9 : (j = 0 ∨ j = 2 ∨ j = 5) → L 9 = false := by
      intro hh
      cases h9 : L 9 with
      | false => rfl
      | true =>
        have e8 := l98 h9
        have e7 := l87 e8
        rcases hh with rfl | rfl | rfl
        · rw [l80 e8] at hj; cases hj
        · rw [l32 (l73 e7)] at hj; cases hj
        · rw [l65 (l76 e7)] at hj; cases hj
    have hcases : j = 0 ∨ j = 1 ∨ j = 2 ∨ j = 3 ∨ j = 4 ∨ j = 5 ∨ j = 6 ∨ j = 7 ∨ j = 8 ∨ j = 9 := by omega
    rcases hcases with rfl | rfl | rfl | rfl | rfl | rfl | rfl | rfl | rfl | rfl
    · obtain ⟨d1, d2, d3⟩ := dof_of o9_0 ho
      refine ⟨d3, h.fin0 (by omega) (by omega) d1 ?_⟩
      unfold execOp
      rw [d2]
      simp [eval_tmp, h.tmps, val8 (no9 (by omega)), h8, Fv]
    · obtain ⟨d1, d2, d3⟩ := dof_of o9_1 ho
      refine ⟨d3, h.fin0 (by omega) (by omega) d1 ?_⟩
      unfold execOp
      rw [d2]
      simp [eval_tmp, h.tmps, val7, h7, Fv]
    · obtain ⟨d1, d2, d3⟩ := dof_of o9_2 ho
      refine ⟨d3, h.fin0 (by omega) (by omega) d1 ?_⟩
      unfold execOp
      rw [d2]
      simp [eval_tmp, h.tmps, val8 (no9 (by omega)), h8, Fv]
    · obtain ⟨d1, d2, d3⟩ := dof_of o9_3 ho
      refine ⟨d3, h.fin0 (by omega) (by omega) d1 ?_⟩
      have r1 : L 1 = true := rdy (by kernel_rfl) ho hr
      have r2 : L 2 = true := rdy (by kernel_rfl) ho hr
      have e1 := valD (a0 := a0) (F := Fv g n m c) (show 1 ≤ 8 by omega) r1
      have e2 := valD (a0 := a0) (F := Fv g n m c) (show 2 ≤ 8 by omega) r2
      unfold execOp
      rw [d2]
      simp [eval_tmp, h.tmps, e1, e2, Fv, sliced_l w1 hmn]
    · obtain ⟨d1, d2, d3⟩ := dof_of o9_4 ho
      refine ⟨d3, h.fin0 (by omega) (by omega) d1 ?_⟩
      unfold execOp
      rw [d2]
      simp [eval_tmp, h.tmps, val7, h7, Fv]
    · obtain ⟨d1, d2, d3⟩ := dof_of o9_5 ho
      refine ⟨d3, h.fin0 (by omega) (by omega) d1 ?_⟩
      unfold execOp
      rw [d2]
      simp [eval_tmp, h.tmps, val8 (no9 (by omega)), h8, Fv]
    · obtain ⟨d1, d2, d3⟩ := dof_of o9_6 ho
      refine ⟨d3, h.fin0 (by omega) (by omega) d1 ?_⟩
      have r1 : L 4 = true := rdy (by kernel_rfl) ho hr
      have r2 : L 5 = true := rdy (by kernel_rfl) ho hr
      have e1 := valD (a0 := a0) (F := Fv g n m c) (show 4 ≤ 8 by omega) r1
      have e2 := valD (a0 := a0) (F := Fv g n m c) (show 5 ≤ 8 by omega) r2
      unfold execOp
      rw [d2]
      simp [eval_tmp, h.tmps, e1, e2, Fv, sliced_h w1 hmn]
    · obtain ⟨d1, d2, d3⟩ := dof_of o9_7 ho
      refine ⟨d3, ?_⟩
      have r1 : L 3 = true := rdy (by kernel_rfl) ho hr
      have r2 : L 6 = true := rdy (by kernel_rfl) ho hr
      have e1 := valD (a0 := a0) (F := Fv g n m c) (show 3 ≤ 8 by omega) r1
      have e2 := valD (a0 := a0) (F := Fv g n m c) (show 6 ≤ 8 by omega) r2
      have hrw := h.row
      rw [hj] at hrw
      simp only [Bool.false_eq_true, if_false] at hrw
      have hlen : (rowL n m (.int .i64 xi) (.int .i64 zi)).length = n := by unfold rowL; simp; omega
      have hrun := run_copy_row (P := Tryz.prog) w1 37 37 o.type 3 g m (n - m) (n - m) ⟨g, 0, none⟩ m n (rowL n m (.int .i64 xi) (.int .i64 zi)).toArray T (List.replicate c (.int .i64 xi)) Tryz.underlying37 sz3 hrw (by simp only [List.length_replicate]; exact hc) (fun j v hv => by
        refine row_src hrw j v ?_
        have hjc : j < c := by
          rcases Nat.lt_or_ge j c with h' | h'
          · exact h'
          · rw [List.getElem?_eq_none (by simpa using h')] at hv; cases hv
        unfold rowL
        rw [List.getElem?_append_left (by simp; omega)]
        rw [List.getElem?_replicate] at hv ⊢
        rw [if_pos hjc] at hv
        rw [if_pos (by omega)]
        exact hv) (by simp [hlen]; omega) (by intro v hv; rw [List.eq_of_mem_replicate hv]; rfl)
      simp only [List.length_replicate, rowL_splice (show m + c ≤ n by omega)] at hrun
      refine h.fin (by omega) d1 (w' := w1.setRow g (rowL n (m + c) (.int .i64 xi) (.int .i64 zi)).toArray) ?_ ?_ (below_setRow h.below hBg _)
      · unfold execOp
        rw [d2]
        simp only [resolve, invoke, builtin, Sem.run_bind, Sem.run_pure, Result.andThen_ok, List.map_toArray, List.map_cons, List.map_nil, eval_tmp, h.tmps, e1, e2]
        show (Result.andThen (Sem.run Tryz.prog (Builtin.copy_ #[37, 37] o.type #[.slice (some ⟨g, m, none⟩) (n - m) (n - m), .slice (some ⟨g, 0, none⟩) m n]) w1) _) = _
        rw [hrun]
        rfl
      · simp only [decide_true, Bool.or_true, if_true]
        exact setRow_heap w1 g _ _ T _ hrw
    · obtain ⟨d1, d2, d3⟩ := dof_of o9_8 ho
      refine ⟨d3, h.fin0 (by omega) (by omega) d1 ?_⟩
      have r1 : L 0 = true := rdy (by kernel_rfl) ho hr
      have r2 : L 7 = true := rdy (by kernel_rfl) ho hr
      have e1 := valD (a0 := a0) (F := Fv g n m c) (show 0 ≤ 8 by omega) r1
      have e2 := valD (a0 := a0) (F := Fv g n m c) (show 7 ≤ 8 by omega) r2
      unfold execOp
      rw [d2]
      have hw : IntKind.wrap .i64 ((m : Int) + (c : Int)) = ((m + c : Nat) : Int) := by
        rw [Go.IntWalk.i64_in _ (by omega)]
        omega
      have hw' : IntKind.wrap .i64 ((m : Int) + (c : Int)) = (m : Int) + (c : Int) := by
        rw [hw]
        omega
      simp [eval_tmp, h.tmps, e1, e2, Fv, binOp, Op.intArith, run_eqGuard_int, hw']
    · obtain ⟨d1, d2, d3⟩ := dof_of o9_9 ho
      refine ⟨d3, h.fin0 (by omega) (by omega) d1 ?_⟩
      have r1 : L 8 = true := rdy (by kernel_rfl) ho hr
      have e1 := valD (a0 := a0) (F := Fv g n m c) (show 8 ≤ 8 by omega) r1
      unfold execOp
      rw [d2]
      simp [eval_tmp, h.tmps, e1, Fv]
theorem arr48 {A : Array Value} (h : A.size = 48) {f : Nat → Value} (hf : ∀ t, A.getD t undef = f t) : A = #[f 0, f 1, f 2, f 3, f 4, f 5, f 6, f 7, f 8, f 9, f 10, f 11, f 12, f 13, f 14, f 15, f 16, f 17, f 18, f 19, f 20, f 21, f 22, f 23, f 24, f 25, f 26, f 27, f 28, f 29, f 30, f 31, f 32, f 33, f 34, f 35, f 36, f 37, f 38, f 39, f 40, f 41, f 42, f 43, f 44, f 45, f 46, f 47] := by
  apply Array.ext
  · simp [h]
  · intro i h1 h2
    have e := hf i
    rw [Array.getD_eq_getD_getElem?, Array.getElem?_eq_getElem h1] at e
    simp only [Option.getD_some] at e
    rw [e]
    simp only [List.size_toArray, List.length_cons, List.length_nil] at h2
    match i, h2 with
    | 0, _ => rfl
    | 1, _ => rfl
    | 2, _ => rfl
    | 3, _ => rfl
    | 4, _ => rfl
    | 5, _ => rfl
    | 6, _ => rfl
    | 7, _ => rfl
    | 8, _ => rfl
    | 9, _ => rfl
    | 10, _ => rfl
    | 11, _ => rfl
    | 12, _ => rfl
    | 13, _ => rfl
    | 14, _ => rfl
    | 15, _ => rfl
    | 16, _ => rfl
    | 17, _ => rfl
    | 18, _ => rfl
    | 19, _ => rfl
    | 20, _ => rfl
    | 21, _ => rfl
    | 22, _ => rfl
    | 23, _ => rfl
    | 24, _ => rfl
    | 25, _ => rfl
    | 26, _ => rfl
    | 27, _ => rfl
    | 28, _ => rfl
    | 29, _ => rfl
    | 30, _ => rfl
    | 31, _ => rfl
    | 32, _ => rfl
    | 33, _ => rfl
    | 34, _ => rfl
    | 35, _ => rfl
    | 36, _ => rfl
    | 37, _ => rfl
    | 38, _ => rfl
    | 39, _ => rfl
    | 40, _ => rfl
    | 41, _ => rfl
    | 42, _ => rfl
    | 43, _ => rfl
    | 44, _ => rfl
    | 45, _ => rfl
    | 46, _ => rfl
    | 47, _ => rfl
    | k + 48, h2 => exact absurd h2 (by simp)
theorem reg9x {Q : Exit → Act → World → Prop} {rid : Nat} {ops : Array Oper} (hops : ops = ops9) {A : Array Value} {df : List Deferred} {w w0 : World} {g n m c B : Nat} {xi zi : Int} {T : TypeId} {L L' : List Value} (a0 : Nat → Value) (hsz : A.size = 48) (ha0 : ∀ t, A.getD t undef = a0 t) (h7 : a0 7 = .slice (some ⟨g, 0, none⟩) n n) (h8 : a0 8 = .int .i64 (m : Int))
    (hm : 1 ≤ m) (hmn : m < n) (hn : n ≤ 8) (hc : c = min m (n - m)) (hL : L = rowL n m (.int .i64 xi) (.int .i64 zi)) (hL' : L' = rowL n (m + c) (.int .i64 xi) (.int .i64 zi)) (hg : w.heap[g]? = some (.cells L.toArray T (0, 0))) (hB : Below B w0 w) (hBg : B ≤ g) {A' : Array Value} (hA' : A' = #[val a0 (Fv g n m c) (fun _ => true) 0, val a0 (Fv g n m c) (fun _ => true) 1, val a0 (Fv g n m c) (fun _ => true) 2, val a0 (Fv g n m c) (fun _ => true) 3, val a0 (Fv g n m c) (fun _ => true) 4, val a0 (Fv g n m c) (fun _ => true) 5, val a0 (Fv g n m c) (fun _ => true) 6, val a0 (Fv g n m c) (fun _ => true) 7, val a0 (Fv g n m c) (fun _ => true) 8, val a0 (Fv g n m c) (fun _ => true) 9, val a0 (Fv g n m c) (fun _ => true) 10, val a0 (Fv g n m c) (fun _ => true) 11, val a0 (Fv g n m c) (fun _ => true) 12, val a0 (Fv g n m c) (fun _ => true) 13, val a0 (Fv g n m c) (fun _ => true) 14, val a0 (Fv g n m c) (fun _ => true) 15, val a0 (Fv g n m c) (fun _ => true) 16, val a0 (Fv g n m c) (fun _ => true) 17, val a0 (Fv g n m c) (fun _ => true) 18, val a0 (Fv g n m c) (fun _ => true) 19, val a0 (Fv g n m c) (fun _ => true) 20, val a0 (Fv g n m c) (fun _ => true) 21, val a0 (Fv g n m c) (fun _ => true) 22, val a0 (Fv g n m c) (fun _ => true) 23, val a0 (Fv g n m c) (fun _ => true) 24, val a0 (Fv g n m c) (fun _ => true) 25, val a0 (Fv g n m c) (fun _ => true) 26, val a0 (Fv g n m c) (fun _ => true) 27, val a0 (Fv g n m c) (fun _ => true) 28, val a0 (Fv g n m c) (fun _ => true) 29, val a0 (Fv g n m c) (fun _ => true) 30, val a0 (Fv g n m c) (fun _ => true) 31, val a0 (Fv g n m c) (fun _ => true) 32, val a0 (Fv g n m c) (fun _ => true) 33, val a0 (Fv g n m c) (fun _ => true) 34, val a0 (Fv g n m c) (fun _ => true) 35, val a0 (Fv g n m c) (fun _ => true) 36, val a0 (Fv g n m c) (fun _ => true) 37, val a0 (Fv g n m c) (fun _ => true) 38, val a0 (Fv g n m c) (fun _ => true) 39, val a0 (Fv g n m c) (fun _ => true) 40, val a0 (Fv g n m c) (fun _ => true) 41, val a0 (Fv g n m c) (fun _ => true) 42, val a0 (Fv g n m c) (fun _ => true) 43, val a0 (Fv g n m c) (fun _ => true) 44, val a0 (Fv g n m c) (fun _ => true) 45, val a0 (Fv g n m c) (fun _ => true) 46, val a0 (Fv g n m c) (fun _ => true) 47])
    (hQ : ∀ w', Hid (w'.heap[g]? = some (.cells L'.toArray T (0, 0))) → Below B w0 w' → Q .normal ⟨A', df⟩ w') : (Code.region rid ops true).wp Tryz.prog Q ⟨A, df⟩ w := by
  subst hops hL hL' hA'
  refine reg9 (a := ⟨A, df⟩) hsz ha0 h7 h8 hm hmn hn hc hg hB hBg fun a' w' h => ?_
  have e := arr48 h.size h.tmps
  have e2 : a' = ⟨a'.tmps, a'.defers⟩ := rfl
  rw [e2, e, h.defers]
  refine hQ w' ?_ h.below
  have := h.row
  exact this
end Go.V.W
set_option linter.unusedVariables false
set_option linter.unusedSimpArgs false
namespace Go.V.W
open Go.Proofs Go.RowKit
set_option maxRecDepth 1000000 in
theorem mul64 (n : Nat) (hn : n ≤ 8) (w : World) : Calls Tryz.prog 136 #[.int .u64 1, .int .u64 n] w fun e w' => e = .returned (.tuple #[.int .u64 0, .int .u64 n]) ∧ w' = w := by
  have : n = 0 ∨ n = 1 ∨ n = 2 ∨ n = 3 ∨ n = 4 ∨ n = 5 ∨ n = 6 ∨ n = 7 ∨ n = 8 := by omega
  rcases this with rfl | rfl | rfl | rfl | rfl | rfl | rfl | rfl | rfl <;>
  (go_enter Tryz.func136, Tryz.ntmps136
   go_wp2
   go_ret2
   exact ⟨rfl, rfl⟩)
set_option maxRecDepth 1000000 in
theorem mul153 (n : Nat) (hn : n ≤ 8) (w : World) : Calls Tryz.prog 126 #[.int .u64 1, .int .u64 n] w fun e w' => e = .returned (.tuple #[.int .u64 0, .int .u64 n]) ∧ w' = w := by
  have hm := mul64 n hn w
  go_enter Tryz.func126, Tryz.ntmps126
  go_wp2_with (go_at_call 136; go_fit hm; rintro e w' ⟨rfl, hw⟩; rw [hw])
  go_ret2
  exact ⟨rfl, rfl⟩
theorem made1 (z : Value) (n : Nat) : madeCells #[z] n = (List.replicate n z).toArray := by
  apply Array.ext
  · simp [madeCells]
  · intro i h1 h2
    simp [madeCells, Nat.mod_one]
theorem info3 : (Tryz.prog.info? 3).map (fun i => (i.zero, i.size, i.bytes)) = some (some (.int .i64 0), 1, 8) := by kernel_rfl
theorem mk3 (n : Nat) (hn : n ≤ 8) (w : World) : (Instr.makeSlice 37 (.int .i64 (n : Int)) (.int .i64 (n : Int))).run Tryz.prog w = .ok (.slice (some ⟨w.heap.size, 0, none⟩) n n) (w.alloc (.cells (List.replicate n (.int .i64 0)).toArray 3)) := by
  rw [← made1]
  exact run_make_row' 37 3 (.int .i64 0) 8 Tryz.underlying37 info3 rfl .i64 .i64 n (by omega) (by omega) w
theorem src1 {w : World} {a : Addr} {v : Value} (h : w.cell? a = some v) : ∀ j u, [v][j]? = some u → w.cell? (a.add j) = some u := by
  intro j u hj
  match j with
  | 0 =>
    simp only [List.length_cons, List.length_nil, Nat.zero_add, Nat.lt_add_one, List.getElem?_eq_getElem, List.getElem_cons_zero, Option.some.injEq] at hj
    subst hj
    exact h
  | j + 1 => simp at hj
theorem cell_alloc {w : World} {a : Addr} {v : Value} (h : w.cell? a = some v) (o : Obj) : (w.alloc o).cell? a = some v := by
  have hlt : a.block < w.heap.size := by
    unfold World.cell? at h
    cases hb : w.heap[a.block]? with
    | none => rw [hb] at h; cases h
    | some x => exact (Array.getElem?_eq_some_iff.1 hb).1
  unfold World.cell? at h ⊢
  rw [Below.heap_alloc w o a.block hlt]
  exact h
set_option maxRecDepth 1000000 in
set_option maxHeartbeats 4000000 in
theorem rep1 (x : Int) (w : World) (b off cap : Nat) (hx : w.cell? ⟨b, off, none⟩ = some (.int .i64 x)) : Calls Tryz.prog 104 #[.slice (some ⟨b, off, none⟩) 1 cap, .int .i64 1] w fun e w' => ∃ g T, e = .returned (.slice (some ⟨g, 0, none⟩) 1 1) ∧ w.heap.size ≤ g ∧ w'.heap[g]? = some (.cells (List.replicate 1 (.int .i64 x)).toArray T (0, 0)) ∧ Below w.heap.size w w' := by
  have hm := mul153 1 (by omega) w
  obtain ⟨W1, hW1⟩ : ∃ W1, W1 = w.alloc (.cells (List.replicate 1 (.int .i64 0)).toArray 3) := ⟨_, rfl⟩
  have hk : (Instr.makeSlice 37 (.int .i64 1) (.int .i64 1)).run Tryz.prog w = .ok (.slice (some ⟨w.heap.size, 0, none⟩) 1 1) W1 := by
    rw [hW1]
    exact mk3 1 (by omega) w
  have hB0 : Hid (Below w.heap.size w W1) := hW1 ▸ (Below.refl _ w).alloc (Nat.le_refl _) _
  have hG0 : Hid (W1.heap[w.heap.size]? = some (.cells ([.int .i64 0] : List Value).toArray 3 (0, 0))) := by
    subst hW1
    show _ = _
    exact heap_alloc_new w _
  have hs0 : Hid (∀ j v, [Value.int .i64 x][j]? = some v → W1.cell? ((⟨b, off, none⟩ : Addr).add j) = some v) := src1 (hW1 ▸ cell_alloc hx _)
  clear hW1
  go_enter Tryz.func104, Tryz.ntmps104
  go_wp2_with (first
    | (go_at_call 126; go_fit hm; rintro e w' ⟨rfl, hw⟩; rw [hw])
    | (refine wpList_copy_splice (o := ⟨some 33, _, _, _, _, _⟩) rfl (.tmp 31) (.tmp 32) 37 37 rfl 3 Tryz.underlying37 sz3 (some ⟨w.heap.size, 0, none⟩) (some ⟨b, off, none⟩) 1 1 1 cap rfl rfl w.heap.size 0 [.int .i64 0] 3 hG0.out [.int .i64 x] rfl (fun _ => ⟨rfl, _, rfl, hs0.out⟩) (by simp) (by simp [Value.oneCell']) w.heap.size w hB0.out (Nat.le_refl _) ?_; intro w2 HG2 hB2))
  have hG : Hid (w2.heap[w.heap.size]? = some (.cells ([.int .i64 x] : List Value).toArray 3 (0, 0))) := HG2.out
  clear HG2 hk hs0 hG0 hB0 hm
  refine wp_loop_rounds 1 ?_
  rw [rounds_succ]
  go_wp2_with (fail)
  go_ret
  first
    | exact ⟨_, _, rfl, Nat.le_refl _, hG.out, hB2⟩
    | exact ⟨_, rfl, Nat.le_refl _, ⟨_, hG.out⟩, hB2⟩
set_option maxRecDepth 1000000 in
set_option maxHeartbeats 4000000 in
theorem rep2 (x : Int) (w : World) (b off cap : Nat) (hx : w.cell? ⟨b, off, none⟩ = some (.int .i64 x)) : Calls Tryz.prog 104 #[.slice (some ⟨b, off, none⟩) 1 cap, .int .i64 2] w fun e w' => ∃ g T, e = .returned (.slice (some ⟨g, 0, none⟩) 2 2) ∧ w.heap.size ≤ g ∧ w'.heap[g]? = some (.cells (List.replicate 2 (.int .i64 x)).toArray T (0, 0)) ∧ Below w.heap.size w w' := by
  have hm := mul153 2 (by omega) w
  obtain ⟨W1, hW1⟩ : ∃ W1, W1 = w.alloc (.cells (List.replicate 2 (.int .i64 0)).toArray 3) := ⟨_, rfl⟩
  have hk : (Instr.makeSlice 37 (.int .i64 2) (.int .i64 2)).run Tryz.prog w = .ok (.slice (some ⟨w.heap.size, 0, none⟩) 2 2) W1 := by
    rw [hW1]
    exact mk3 2 (by omega) w
  have hB0 : Hid (Below w.heap.size w W1) := hW1 ▸ (Below.refl _ w).alloc (Nat.le_refl _) _
  have hG0 : Hid (W1.heap[w.heap.size]? = some (.cells ([.int .i64 0, .int .i64 0] : List Value).toArray 3 (0, 0))) := by
    subst hW1
    show _ = _
    exact heap_alloc_new w _
  have hs0 : Hid (∀ j v, [Value.int .i64 x][j]? = some v → W1.cell? ((⟨b, off, none⟩ : Addr).add j) = some v) := src1 (hW1 ▸ cell_alloc hx _)
  clear hW1
  go_enter Tryz.func104, Tryz.ntmps104
  go_wp2_with (first
    | (go_at_call 126; go_fit hm; rintro e w' ⟨rfl, hw⟩; rw [hw])
    | (refine wpList_copy_splice (o := ⟨some 33, _, _, _, _, _⟩) rfl (.tmp 31) (.tmp 32) 37 37 rfl 3 Tryz.underlying37 sz3 (some ⟨w.heap.size, 0, none⟩) (some ⟨b, off, none⟩) 2 2 1 cap rfl rfl w.heap.size 0 [.int .i64 0, .int .i64 0] 3 hG0.out [.int .i64 x] rfl (fun _ => ⟨rfl, _, rfl, hs0.out⟩) (by simp) (by simp [Value.oneCell']) w.heap.size w hB0.out (Nat.le_refl _) ?_; intro w2 HG2 hB2))
  have hG : Hid (w2.heap[w.heap.size]? = some (.cells ([.int .i64 x, .int .i64 0] : List Value).toArray 3 (0, 0))) := HG2.out
  clear HG2 hk hs0 hG0 hB0 hm
  refine wp_loop_rounds 2 ?_
  rw [rounds_succ]
  go_wp2_with (fail)
  refine reg9x (by kernel_rfl) (g := w.heap.size) (n := 2) (m := 1) (c := 1) (xi := x) (zi := 0) (T := 3) (L := [.int .i64 x, .int .i64 0]) (L' := [.int .i64 x, .int .i64 x]) _ rfl (fun _ => rfl) rfl rfl (by omega) (by omega) (by omega) rfl rfl rfl hG.out hB2 (Nat.le_refl _) rfl ?_
  intro w3 hG3 hB3
  clear hG hB2
  have hG := hG3
  have hB2 := hB3
  clear hG3 hB3
  simp only [Exit.inBlock, Exit.then, rounds_succ, val, Fv]
  go_wp2_with (fail)
  go_ret
  first
    | exact ⟨_, _, rfl, Nat.le_refl _, hG.out, hB2⟩
    | exact ⟨_, rfl, Nat.le_refl _, ⟨_, hG.out⟩, hB2⟩
set_option maxRecDepth 1000000 in
set_option maxHeartbeats 4000000 in
theorem rep3 (x : Int) (w : World) (b off cap : Nat) (hx : w.cell? ⟨b, off, none⟩ = some (.int .i64 x)) : Calls Tryz.prog 104 #[.slice (some ⟨b, off, none⟩) 1 cap, .int .i64 3] w fun e w' => ∃ g T, e = .returned (.slice (some ⟨g, 0, none⟩) 3 3) ∧ w.heap.size ≤ g ∧ w'.heap[g]? = some (.cells (List.replicate 3 (.int .i64 x)).toArray T (0, 0)) ∧ Below w.heap.size w w' := by
  have hm := mul153 3 (by omega) w
  obtain ⟨W1, hW1⟩ : ∃ W1, W1 = w.alloc (.cells (List.replicate 3 (.int .i64 0)).toArray 3) := ⟨_, rfl⟩
  have hk : (Instr.makeSlice 37 (.int .i64 3) (.int .i64 3)).run Tryz.prog w = .ok (.slice (some ⟨w.heap.size, 0, none⟩) 3 3) W1 := by
    rw [hW1]
    exact mk3 3 (by omega) w
  have hB0 : Hid (Below w.heap.size w W1) := hW1 ▸ (Below.refl _ w).alloc (Nat.le_refl _) _
  have hG0 : Hid (W1.heap[w.heap.size]? = some (.cells ([.int .i64 0, .int .i64 0, .int .i64 0] : List Value).toArray 3 (0, 0))) := by
    subst hW1
    show _ = _
    exact heap_alloc_new w _
  have hs0 : Hid (∀ j v, [Value.int .i64 x][j]? = some v → W1.cell? ((⟨b, off, none⟩ : Addr).add j) = some v) := src1 (hW1 ▸ cell_alloc hx _)
  clear hW1
  go_enter Tryz.func104, Tryz.ntmps104
  go_wp2_with (first
    | (go_at_call 126; go_fit hm; rintro e w' ⟨rfl, hw⟩; rw [hw])
    | (refine wpList_copy_splice (o := ⟨some 33, _, _, _, _, _⟩) rfl (.tmp 31) (.tmp 32) 37 37 rfl 3 Tryz.underlying37 sz3 (some ⟨w.heap.size, 0, none⟩) (some ⟨b, off, none⟩) 3 3 1 cap rfl rfl w.heap.size 0 [.int .i64 0, .int .i64 0, .int .i64 0] 3 hG0.out [.int .i64 x] rfl (fun _ => ⟨rfl, _, rfl, hs0.out⟩) (by simp) (by simp [Value.oneCell']) w.heap.size w hB0.out (Nat.le_refl _) ?_; intro w2 HG2 hB2))
  have hG : Hid (w2.heap[w.heap.size]? = some (.cells ([.int .i64 x, .int .i64 0, .int .i64 0] : List Value).toArray 3 (0, 0))) := HG2.out
  clear HG2 hk hs0 hG0 hB0 hm
  refine wp_loop_rounds 3 ?_
  rw [rounds_succ]
  go_wp2_with (fail)
  refine reg9x (by kernel_rfl) (g := w.heap.size) (n := 3) (m := 1) (c := 1) (xi := x) (zi := 0) (T := 3) (L := [.int .i64 x, .int .i64 0, .int .i64 0]) (L' := [.int .i64 x, .int .i64 x, .int .i64 0]) _ rfl (fun _ => rfl) rfl rfl (by omega) (by omega) (by omega) rfl rfl rfl hG.out hB2 (Nat.le_refl _) rfl ?_
  intro w3 hG3 hB3
  clear hG hB2
  have hG := hG3
  have hB2 := hB3
  clear hG3 hB3
  simp only [Exit.inBlock, Exit.then, rounds_succ, val, Fv]
  go_wp2_with (fail)
  refine reg9x (by kernel_rfl) (g := w.heap.size) (n := 3) (m := 2) (c := 1) (xi := x) (zi := 0) (T := 3) (L := [.int .i64 x, .int .i64 x, .int .i64 0]) (L' := [.int .i64 x, .int .i64 x, .int .i64 x]) _ rfl (fun _ => rfl) rfl rfl (by omega) (by omega) (by omega) rfl rfl rfl hG.out hB2 (Nat.le_refl _) rfl ?_
  intro w3 hG3 hB3
  clear hG hB2
  have hG := hG3
  have hB2 := hB3
  clear hG3 hB3
  simp only [Exit.inBlock, Exit.then, rounds_succ, val, Fv]
  go_wp2_with (fail)
  go_ret
  first
    | exact ⟨_, _, rfl, Nat.le_refl _, hG.out, hB2⟩
    | exact ⟨_, rfl, Nat.le_refl _, ⟨_, hG.out⟩, hB2⟩
set_option maxRecDepth 1000000 in
set_option maxHeartbeats 4000000 in
theorem rep4 (x : Int) (w : World) (b off cap : Nat) (hx : w.cell? ⟨b, off, none⟩ = some (.int .i64 x)) : Calls Tryz.prog 104 #[.slice (some ⟨b, off, none⟩) 1 cap, .int .i64 4] w fun e w' => ∃ g T, e = .returned (.slice (some ⟨g, 0, none⟩) 4 4) ∧ w.heap.size ≤ g ∧ w'.heap[g]? = some (.cells (List.replicate 4 (.int .i64 x)).toArray T (0, 0)) ∧ Below w.heap.size w w' := by
  have hm := mul153 4 (by omega) w
  obtain ⟨W1, hW1⟩ : ∃ W1, W1 = w.alloc (.cells (List.replicate 4 (.int .i64 0)).toArray 3) := ⟨_, rfl⟩
  have hk : (Instr.makeSlice 37 (.int .i64 4) (.int .i64 4)).run Tryz.prog w = .ok (.slice (some ⟨w.heap.size, 0, none⟩) 4 4) W1 := by
    rw [hW1]
    exact mk3 4 (by omega) w
  have hB0 : Hid (Below w.heap.size w W1) := hW1 ▸ (Below.refl _ w).alloc (Nat.le_refl _) _
  have hG0 : Hid (W1.heap[w.heap.size]? = some (.cells ([.int .i64 0, .int .i64 0, .int .i64 0, .int .i64 0] : List Value).toArray 3 (0, 0))) := by
    subst hW1
    show _ = _
    exact heap_alloc_new w _
  have hs0 : Hid (∀ j v, [Value.int .i64 x][j]? = some v → W1.cell? ((⟨b, off, none⟩ : Addr).add j) = some v) := src1 (hW1 ▸ cell_alloc hx _)
  clear hW1
  go_enter Tryz.func104, Tryz.ntmps104
  go_wp2_with (first
    | (go_at_call 126; go_fit hm; rintro e w' ⟨rfl, hw⟩; rw [hw])
    | (refine wpList_copy_splice (o := ⟨some 33, _, _, _, _, _⟩) rfl (.tmp 31) (.tmp 32) 37 37 rfl 3 Tryz.underlying37 sz3 (some ⟨w.heap.size, 0, none⟩) (some ⟨b, off, none⟩) 4 4 1 cap rfl rfl w.heap.size 0 [.int .i64 0, .int .i64 0, .int .i64 0, .int .i64 0] 3 hG0.out [.int .i64 x] rfl (fun _ => ⟨rfl, _, rfl, hs0.out⟩) (by simp) (by simp [Value.oneCell']) w.heap.size w hB0.out (Nat.le_refl _) ?_; intro w2 HG2 hB2))
  have hG : Hid (w2.heap[w.heap.size]? = some (.cells ([.int .i64 x, .int .i64 0, .int .i64 0, .int .i64 0] : List Value).toArray 3 (0, 0))) := HG2.out
  clear HG2 hk hs0 hG0 hB0 hm
  refine wp_loop_rounds 3 ?_
  rw [rounds_succ]
  go_wp2_with (fail)
  refine reg9x (by kernel_rfl) (g := w.heap.size) (n := 4) (m := 1) (c := 1) (xi := x) (zi := 0) (T := 3) (L := [.int .i64 x, .int .i64 0, .int .i64 0, .int .i64 0]) (L' := [.int .i64 x, .int .i64 x, .int .i64 0, .int .i64 0]) _ rfl (fun _ => rfl) rfl rfl (by omega) (by omega) (by omega) rfl rfl rfl hG.out hB2 (Nat.le_refl _) rfl ?_
  intro w3 hG3 hB3
  clear hG hB2
  have hG := hG3
  have hB2 := hB3
  clear hG3 hB3
  simp only [Exit.inBlock, Exit.then, rounds_succ, val, Fv]
  go_wp2_with (fail)
  refine reg9x (by kernel_rfl) (g := w.heap.size) (n := 4) (m := 2) (c := 2) (xi := x) (zi := 0) (T := 3) (L := [.int .i64 x, .int .i64 x, .int .i64 0, .int .i64 0]) (L' := [.int .i64 x, .int .i64 x, .int .i64 x, .int .i64 x]) _ rfl (fun _ => rfl) rfl rfl (by omega) (by omega) (by omega) rfl rfl rfl hG.out hB2 (Nat.le_refl _) rfl ?_
  intro w3 hG3 hB3
  clear hG hB2
  have hG := hG3
  have hB2 := hB3
  clear hG3 hB3
  simp only [Exit.inBlock, Exit.then, rounds_succ, val, Fv]
  go_wp2_with (fail)
  go_ret
  first
    | exact ⟨_, _, rfl, Nat.le_refl _, hG.out, hB2⟩
    | exact ⟨_, rfl, Nat.le_refl _, ⟨_, hG.out⟩, hB2⟩
set_option maxRecDepth 1000000 in
set_option maxHeartbeats 4000000 in
theorem rep5 (x : Int) (w : World) (b off cap : Nat) (hx : w.cell? ⟨b, off, none⟩ = some (.int .i64 x)) : Calls Tryz.prog 104 #[.slice (some ⟨b, off, none⟩) 1 cap, .int .i64 5] w fun e w' => ∃ g T, e = .returned (.slice (some ⟨g, 0, none⟩) 5 5) ∧ w.heap.size ≤ g ∧ w'.heap[g]? = some (.cells (List.replicate 5 (.int .i64 x)).toArray T (0, 0)) ∧ Below w.heap.size w w' := by
  have hm := mul153 5 (by omega) w
  obtain ⟨W1, hW1⟩ : ∃ W1, W1 = w.alloc (.cells (List.replicate 5 (.int .i64 0)).toArray 3) := ⟨_, rfl⟩
  have hk : (Instr.makeSlice 37 (.int .i64 5) (.int .i64 5)).run Tryz.prog w = .ok (.slice (some ⟨w.heap.size, 0, none⟩) 5 5) W1 := by
    rw [hW1]
    exact mk3 5 (by omega) w
  have hB0 : Hid (Below w.heap.size w W1) := hW1 ▸ (Below.refl _ w).alloc (Nat.le_refl _) _
  have hG0 : Hid (W1.heap[w.heap.size]? = some (.cells ([.int .i64 0, .int .i64 0, .int .i64 0, .int .i64 0, .int .i64 0] : List Value).toArray 3 (0, 0))) := by
    subst hW1
    show _ = _
    exact heap_alloc_new w _
  have hs0 : Hid (∀ j v, [Value.int .i64 x][j]? = some v → W1.cell? ((⟨b, off, none⟩ : Addr).add j) = some v) := src1 (hW1 ▸ cell_alloc hx _)
  clear hW1
  go_enter Tryz.func104, Tryz.ntmps104
  go_wp2_with (first
    | (go_at_call 126; go_fit hm; rintro e w' ⟨rfl, hw⟩; rw [hw])
    | (refine wpList_copy_splice (o := ⟨some 33, _, _, _, _, _⟩) rfl (.tmp 31) (.tmp 32) 37 37 rfl 3 Tryz.underlying37 sz3 (some ⟨w.heap.size, 0, none⟩) (some ⟨b, off, none⟩) 5 5 1 cap rfl rfl w.heap.size 0 [.int .i64 0, .int .i64 0, .int .i64 0, .int .i64 0, .int .i64 0] 3 hG0.out [.int .i64 x] rfl (fun _ => ⟨rfl, _, rfl, hs0.out⟩) (by simp) (by simp [Value.oneCell']) w.heap.size w hB0.out (Nat.le_refl _) ?_; intro w2 HG2 hB2))
  have hG : Hid (w2.heap[w.heap.size]? = some (.cells ([.int .i64 x, .int .i64 0, .int .i64 0, .int .i64 0, .int .i64 0] : List Value).toArray 3 (0, 0))) := HG2.out
  clear HG2 hk hs0 hG0 hB0 hm
  refine wp_loop_rounds 4 ?_
  rw [rounds_succ]
  go_wp2_with (fail)
  refine reg9x (by kernel_rfl) (g := w.heap.size) (n := 5) (m := 1) (c := 1) (xi := x) (zi := 0) (T := 3) (L := [.int .i64 x, .int .i64 0, .int .i64 0, .int .i64 0, .int .i64 0]) (L' := [.int .i64 x, .int .i64 x, .int .i64 0, .int .i64 0, .int .i64 0]) _ rfl (fun _ => rfl) rfl rfl (by omega) (by omega) (by omega) rfl rfl rfl hG.out hB2 (Nat.le_refl _) rfl ?_
  intro w3 hG3 hB3
  clear hG hB2
  have hG := hG3
  have hB2 := hB3
  clear hG3 hB3
  simp only [Exit.inBlock, Exit.then, rounds_succ, val, Fv]
  go_wp2_with (fail)
  refine reg9x (by kernel_rfl) (g := w.heap.size) (n := 5) (m := 2) (c := 2) (xi := x) (zi := 0) (T := 3) (L := [.int .i64 x, .int .i64 x, .int .i64 0, .int .i64 0, .int .i64 0]) (L' := [.int .i64 x, .int .i64 x, .int .i64 x, .int .i64 x, .int .i64 0]) _ rfl (fun _ => rfl) rfl rfl (by omega) (by omega) (by omega) rfl rfl rfl hG.out hB2 (Nat.le_refl _) rfl ?_
  intro w3 hG3 hB3
  clear hG hB2
  have hG := hG3
  have hB2 := hB3
  clear hG3 hB3
  simp only [Exit.inBlock, Exit.then, rounds_succ, val, Fv]
  go_wp2_with (fail)
  refine reg9x (by kernel_rfl) (g := w.heap.size) (n := 5) (m := 4) (c := 1) (xi := x) (zi := 0) (T := 3) (L := [.int .i64 x, .int .i64 x, .int .i64 x, .int .i64 x, .int .i64 0]) (L' := [.int .i64 x, .int .i64 x, .int .i64 x, .int .i64 x, .int .i64 x]) _ rfl (fun _ => rfl) rfl rfl (by omega) (by omega) (by omega) rfl rfl rfl hG.out hB2 (Nat.le_refl _) rfl ?_
  intro w3 hG3 hB3
  clear hG hB2
  have hG := hG3
  have hB2 := hB3
  clear hG3 hB3
  simp only [Exit.inBlock, Exit.then, rounds_succ, val, Fv]
  go_wp2_with (fail)
  go_ret
  first
    | exact ⟨_, _, rfl, Nat.le_refl _, hG.out, hB2⟩
    | exact ⟨_, rfl, Nat.le_refl _, ⟨_, hG.out⟩, hB2⟩
set_option maxRecDepth 1000000 in
set_option maxHeartbeats 4000000 in
theorem rep6 (x : Int) (w : World) (b off cap : Nat) (hx : w.cell? ⟨b, off, none⟩ = some (.int .i64 x)) : Calls Tryz.prog 104 #[.slice (some ⟨b, off, none⟩) 1 cap, .int .i64 6] w fun e w' => ∃ g T, e = .returned (.slice (some ⟨g, 0, none⟩) 6 6) ∧ w.heap.size ≤ g ∧ w'.heap[g]? = some (.cells (List.replicate 6 (.int .i64 x)).toArray T (0, 0)) ∧ Below w.heap.size w w' := by
  have hm := mul153 6 (by omega) w
  obtain ⟨W1, hW1⟩ : ∃ W1, W1 = w.alloc (.cells (List.replicate 6 (.int .i64 0)).toArray 3) := ⟨_, rfl⟩
  have hk : (Instr.makeSlice 37 (.int .i64 6) (.int .i64 6)).run Tryz.prog w = .ok (.slice (some ⟨w.heap.size, 0, none⟩) 6 6) W1 := by
    rw [hW1]
    exact mk3 6 (by omega) w
  have hB0 : Hid (Below w.heap.size w W1) := hW1 ▸ (Below.refl _ w).alloc (Nat.le_refl _) _
  have hG0 : Hid (W1.heap[w.heap.size]? = some (.cells ([.int .i64 0, .int .i64 0, .int .i64 0, .int .i64 0, .int .i64 0, .int .i64 0] : List Value).toArray 3 (0, 0))) := by
    subst hW1
    show _ = _
    exact heap_alloc_new w _
  have hs0 : Hid (∀ j v, [Value.int .i64 x][j]? = some v → W1.cell? ((⟨b, off, none⟩ : Addr).add j) = some v) := src1 (hW1 ▸ cell_alloc hx _)
  clear hW1
  go_enter Tryz.func104, Tryz.ntmps104
  go_wp2_with (first
    | (go_at_call 126; go_fit hm; rintro e w' ⟨rfl, hw⟩; rw [hw])
    | (refine wpList_copy_splice (o := ⟨some 33, _, _, _, _, _⟩) rfl (.tmp 31) (.tmp 32) 37 37 rfl 3 Tryz.underlying37 sz3 (some ⟨w.heap.size, 0, none⟩) (some ⟨b, off, none⟩) 6 6 1 cap rfl rfl w.heap.size 0 [.int .i64 0, .int .i64 0, .int .i64 0, .int .i64 0, .int .i64 0, .int .i64 0] 3 hG0.out [.int .i64 x] rfl (fun _ => ⟨rfl, _, rfl, hs0.out⟩) (by simp) (by simp [Value.oneCell']) w.heap.size w hB0.out (Nat.le_refl _) ?_; intro w2 HG2 hB2))
  have hG : Hid (w2.heap[w.heap.size]? = some (.cells ([.int .i64 x, .int .i64 0, .int .i64 0, .int .i64 0, .int .i64 0, .int .i64 0] : List Value).toArray 3 (0, 0))) := HG2.out
  clear HG2 hk hs0 hG0 hB0 hm
  refine wp_loop_rounds 4 ?_
  rw [rounds_succ]
  go_wp2_with (fail)
  refine reg9x (by kernel_rfl) (g := w.heap.size) (n := 6) (m := 1) (c := 1) (xi := x) (zi := 0) (T := 3) (L := [.int .i64 x, .int .i64 0, .int .i64 0, .int .i64 0, .int .i64 0, .int .i64 0]) (L' := [.int .i64 x, .int .i64 x, .int .i64 0, .int .i64 0, .int .i64 0, .int .i64 0]) _ rfl (fun _ => rfl) rfl rfl (by omega) (by omega) (by omega) rfl rfl rfl hG.out hB2 (Nat.le_refl _) rfl ?_
  intro w3 hG3 hB3
  clear hG hB2
  have hG := hG3
  have hB2 := hB3
  clear hG3 hB3
  simp only [Exit.inBlock, Exit.then, rounds_succ, val, Fv]
  go_wp2_with (fail)
  refine reg9x (by kernel_rfl) (g := w.heap.size) (n := 6) (m := 2) (c := 2) (xi := x) (zi := 0) (T := 3) (L := [.int .i64 x, .int .i64 x, .int .i64 0, .int .i64 0, .int .i64 0, .int .i64 0]) (L' := [.int .i64 x, .int .i64 x, .int .i64 x, .int .i64 x, .int .i64 0, .int .i64 0]) _ rfl (fun _ => rfl) rfl rfl (by omega) (by omega) (by omega) rfl rfl rfl hG.out hB2 (Nat.le_refl _) rfl ?_
  intro w3 hG3 hB3
  clear hG hB2
  have hG := hG3
  have hB2 := hB3
  clear hG3 hB3
  simp only [Exit.inBlock, Exit.then, rounds_succ, val, Fv]
  go_wp2_with (fail)
  refine reg9x (by kernel_rfl) (g := w.heap.size) (n := 6) (m := 4) (c := 2) (xi := x) (zi := 0) (T := 3) (L := [.int .i64 x, .int .i64 x, .int .i64 x, .int .i64 x, .int .i64 0, .int .i64 0]) (L' := [.int .i64 x, .int .i64 x, .int .i64 x, .int .i64 x, .int .i64 x, .int .i64 x]) _ rfl (fun _ => rfl) rfl rfl (by omega) (by omega) (by omega) rfl rfl rfl hG.out hB2 (Nat.le_refl _) rfl ?_
  intro w3 hG3 hB3
  clear hG hB2
  have hG := hG3
  have hB2 := hB3
  clear hG3 hB3
  simp only [Exit.inBlock, Exit.then, rounds_succ, val, Fv]
  go_wp2_with (fail)
  go_ret
  first
    | exact ⟨_, _, rfl, Nat.le_refl _, hG.out, hB2⟩
    | exact ⟨_, rfl, Nat.le_refl _, ⟨_, hG.out⟩, hB2⟩
set_option maxRecDepth 1000000 in
set_option maxHeartbeats 4000000 in
theorem rep7 (x : Int) (w : World) (b off cap : Nat) (hx : w.cell? ⟨b, off, none⟩ = some (.int .i64 x)) : Calls Tryz.prog 104 #[.slice (some ⟨b, off, none⟩) 1 cap, .int .i64 7] w fun e w' => ∃ g T, e = .returned (.slice (some ⟨g, 0, none⟩) 7 7) ∧ w.heap.size ≤ g ∧ w'.heap[g]? = some (.cells (List.replicate 7 (.int .i64 x)).toArray T (0, 0)) ∧ Below w.heap.size w w' := by
  have hm := mul153 7 (by omega) w
  obtain ⟨W1, hW1⟩ : ∃ W1, W1 = w.alloc (.cells (List.replicate 7 (.int .i64 0)).toArray 3) := ⟨_, rfl⟩
  have hk : (Instr.makeSlice 37 (.int .i64 7) (.int .i64 7)).run Tryz.prog w = .ok (.slice (some ⟨w.heap.size, 0, none⟩) 7 7) W1 := by
    rw [hW1]
    exact mk3 7 (by omega) w
  have hB0 : Hid (Below w.heap.size w W1) := hW1 ▸ (Below.refl _ w).alloc (Nat.le_refl _) _
  have hG0 : Hid (W1.heap[w.heap.size]? = some (.cells ([.int .i64 0, .int .i64 0, .int .i64 0, .int .i64 0, .int .i64 0, .int .i64 0, .int .i64 0] : List Value).toArray 3 (0, 0))) := by
    subst hW1
    show _ = _
    exact heap_alloc_new w _
  have hs0 : Hid (∀ j v, [Value.int .i64 x][j]? = some v → W1.cell? ((⟨b, off, none⟩ : Addr).add j) = some v) := src1 (hW1 ▸ cell_alloc hx _)
  clear hW1
  go_enter Tryz.func104, Tryz.ntmps104
  go_wp2_with (first
    | (go_at_call 126; go_fit hm; rintro e w' ⟨rfl, hw⟩; rw [hw])
    | (refine wpList_copy_splice (o := ⟨some 33, _, _, _, _, _⟩) rfl (.tmp 31) (.tmp 32) 37 37 rfl 3 Tryz.underlying37 sz3 (some ⟨w.heap.size, 0, none⟩) (some ⟨b, off, none⟩) 7 7 1 cap rfl rfl w.heap.size 0 [.int .i64 0, .int .i64 0, .int .i64 0, .int .i64 0, .int .i64 0, .int .i64 0, .int .i64 0] 3 hG0.out [.int .i64 x] rfl (fun _ => ⟨rfl, _, rfl, hs0.out⟩) (by simp) (by simp [Value.oneCell']) w.heap.size w hB0.out (Nat.le_refl _) ?_; intro w2 HG2 hB2))
  have hG : Hid (w2.heap[w.heap.size]? = some (.cells ([.int .i64 x, .int .i64 0, .int .i64 0, .int .i64 0, .int .i64 0, .int .i64 0, .int .i64 0] : List Value).toArray 3 (0, 0))) := HG2.out
  clear HG2 hk hs0 hG0 hB0 hm
  refine wp_loop_rounds 4 ?_
  rw [rounds_succ]
  go_wp2_with (fail)
  refine reg9x (by kernel_rfl) (g := w.heap.size) (n := 7) (m := 1) (c := 1) (xi := x) (zi := 0) (T := 3) (L := [.int .i64 x, .int .i64 0, .int .i64 0, .int .i64 0, .int .i64 0, .int .i64 0, .int .i64 0]) (L' := [.int .i64 x, .int .i64 x, .int .i64 0, .int .i64 0, .int .i64 0, .int .i64 0, .int .i64 0]) _ rfl (fun _ => rfl) rfl rfl (by omega) (by omega) (by omega) rfl rfl rfl hG.out hB2 (Nat.le_refl _) rfl ?_
  intro w3 hG3 hB3
  clear hG hB2
  have hG := hG3
  have hB2 := hB3
  clear hG3 hB3
  simp only [Exit.inBlock, Exit.then, rounds_succ, val, Fv]
  go_wp2_with (fail)
  refine reg9x (by kernel_rfl) (g := w.heap.size) (n := 7) (m := 2) (c := 2) (xi := x) (zi := 0) (T := 3) (L := [.int .i64 x, .int .i64 x, .int .i64 0, .int .i64 0, .int .i64 0, .int .i64 0, .int .i64 0]) (L' := [.int .i64 x, .int .i64 x, .int .i64 x, .int .i64 x, .int .i64 0, .int .i64 0, .int .i64 0]) _ rfl (fun _ => rfl) rfl rfl (by omega) (by omega) (by omega) rfl rfl rfl hG.out hB2 (Nat.le_refl _) rfl ?_
  intro w3 hG3 hB3
  clear hG hB2
  have hG := hG3
  have hB2 := hB3
  clear hG3 hB3
  simp only [Exit.inBlock, Exit.then, rounds_succ, val, Fv]
  go_wp2_with (fail)
  refine reg9x (by kernel_rfl) (g := w.heap.size) (n := 7) (m := 4) (c := 3) (xi := x) (zi := 0) (T := 3) (L := [.int .i64 x, .int .i64 x, .int .i64 x, .int .i64 x, .int .i64 0, .int .i64 0, .int .i64 0]) (L' := [.int .i64 x, .int .i64 x, .int .i64 x, .int .i64 x, .int .i64 x, .int .i64 x, .int .i64 x]) _ rfl (fun _ => rfl) rfl rfl (by omega) (by omega) (by omega) rfl rfl rfl hG.out hB2 (Nat.le_refl _) rfl ?_
  intro w3 hG3 hB3
  clear hG hB2
  have hG := hG3
  have hB2 := hB3
  clear hG3 hB3
  simp only [Exit.inBlock, Exit.then, rounds_succ, val, Fv]
  go_wp2_with (fail)
  go_ret
  first
    | exact ⟨_, _, rfl, Nat.le_refl _, hG.out, hB2⟩
    | exact ⟨_, rfl, Nat.le_refl _, ⟨_, hG.out⟩, hB2⟩
set_option maxRecDepth 1000000 in
set_option maxHeartbeats 4000000 in
theorem rep8 (x : Int) (w : World) (b off cap : Nat) (hx : w.cell? ⟨b, off, none⟩ = some (.int .i64 x)) : Calls Tryz.prog 104 #[.slice (some ⟨b, off, none⟩) 1 cap, .int .i64 8] w fun e w' => ∃ g T, e = .returned (.slice (some ⟨g, 0, none⟩) 8 8) ∧ w.heap.size ≤ g ∧ w'.heap[g]? = some (.cells (List.replicate 8 (.int .i64 x)).toArray T (0, 0)) ∧ Below w.heap.size w w' := by
  have hm := mul153 8 (by omega) w
  obtain ⟨W1, hW1⟩ : ∃ W1, W1 = w.alloc (.cells (List.replicate 8 (.int .i64 0)).toArray 3) := ⟨_, rfl⟩
  have hk : (Instr.makeSlice 37 (.int .i64 8) (.int .i64 8)).run Tryz.prog w = .ok (.slice (some ⟨w.heap.size, 0, none⟩) 8 8) W1 := by
    rw [hW1]
    exact mk3 8 (by omega) w
  have hB0 : Hid (Below w.heap.size w W1) := hW1 ▸ (Below.refl _ w).alloc (Nat.le_refl _) _
  have hG0 : Hid (W1.heap[w.heap.size]? = some (.cells ([.int .i64 0, .int .i64 0, .int .i64 0, .int .i64 0, .int .i64 0, .int .i64 0, .int .i64 0, .int .i64 0] : List Value).toArray 3 (0, 0))) := by
    subst hW1
    show _ = _
    exact heap_alloc_new w _
  have hs0 : Hid (∀ j v, [Value.int .i64 x][j]? = some v → W1.cell? ((⟨b, off, none⟩ : Addr).add j) = some v) := src1 (hW1 ▸ cell_alloc hx _)
  clear hW1
  go_enter Tryz.func104, Tryz.ntmps104
  go_wp2_with (first
    | (go_at_call 126; go_fit hm; rintro e w' ⟨rfl, hw⟩; rw [hw])
    | (refine wpList_copy_splice (o := ⟨some 33, _, _, _, _, _⟩) rfl (.tmp 31) (.tmp 32) 37 37 rfl 3 Tryz.underlying37 sz3 (some ⟨w.heap.size, 0, none⟩) (some ⟨b, off, none⟩) 8 8 1 cap rfl rfl w.heap.size 0 [.int .i64 0, .int .i64 0, .int .i64 0, .int .i64 0, .int .i64 0, .int .i64 0, .int .i64 0, .int .i64 0] 3 hG0.out [.int .i64 x] rfl (fun _ => ⟨rfl, _, rfl, hs0.out⟩) (by simp) (by simp [Value.oneCell']) w.heap.size w hB0.out (Nat.le_refl _) ?_; intro w2 HG2 hB2))
  have hG : Hid (w2.heap[w.heap.size]? = some (.cells ([.int .i64 x, .int .i64 0, .int .i64 0, .int .i64 0, .int .i64 0, .int .i64 0, .int .i64 0, .int .i64 0] : List Value).toArray 3 (0, 0))) := HG2.out
  clear HG2 hk hs0 hG0 hB0 hm
  refine wp_loop_rounds 4 ?_
  rw [rounds_succ]
  go_wp2_with (fail)
  refine reg9x (by kernel_rfl) (g := w.heap.size) (n := 8) (m := 1) (c := 1) (xi := x) (zi := 0) (T := 3) (L := [.int .i64 x, .int .i64 0, .int .i64 0, .int .i64 0, .int .i64 0, .int .i64 0, .int .i64 0, .int .i64 0]) (L' := [.int .i64 x, .int .i64 x, .int .i64 0, .int .i64 0, .int .i64 0, .int .i64 0, .int .i64 0, .int .i64 0]) _ rfl (fun _ => rfl) rfl rfl (by omega) (by omega) (by omega) rfl rfl rfl hG.out hB2 (Nat.le_refl _) rfl ?_
  intro w3 hG3 hB3
  clear hG hB2
  have hG := hG3
  have hB2 := hB3
  clear hG3 hB3
  simp only [Exit.inBlock, Exit.then, rounds_succ, val, Fv]
  go_wp2_with (fail)
  refine reg9x (by kernel_rfl) (g := w.heap.size) (n := 8) (m := 2) (c := 2) (xi := x) (zi := 0) (T := 3) (L := [.int .i64 x, .int .i64 x, .int .i64 0, .int .i64 0, .int .i64 0, .int .i64 0, .int .i64 0, .int .i64 0]) (L' := [.int .i64 x, .int .i64 x, .int .i64 x, .int .i64 x, .int .i64 0, .int .i64 0, .int .i64 0, .int .i64 0]) _ rfl (fun _ => rfl) rfl rfl (by omega) (by omega) (by omega) rfl rfl rfl hG.out hB2 (Nat.le_refl _) rfl ?_
  intro w3 hG3 hB3
  clear hG hB2
  have hG := hG3
  have hB2 := hB3
  clear hG3 hB3
  simp only [Exit.inBlock, Exit.then, rounds_succ, val, Fv]
  go_wp2_with (fail)
  refine reg9x (by kernel_rfl) (g := w.heap.size) (n := 8) (m := 4) (c := 4) (xi := x) (zi := 0) (T := 3) (L := [.int .i64 x, .int .i64 x, .int .i64 x, .int .i64 x, .int .i64 0, .int .i64 0, .int .i64 0, .int .i64 0]) (L' := [.int .i64 x, .int .i64 x, .int .i64 x, .int .i64 x, .int .i64 x, .int .i64 x, .int .i64 x, .int .i64 x]) _ rfl (fun _ => rfl) rfl rfl (by omega) (by omega) (by omega) rfl rfl rfl hG.out hB2 (Nat.le_refl _) rfl ?_
  intro w3 hG3 hB3
  clear hG hB2
  have hG := hG3
  have hB2 := hB3
  clear hG3 hB3
  simp only [Exit.inBlock, Exit.then, rounds_succ, val, Fv]
  go_wp2_with (fail)
  go_ret
  first
    | exact ⟨_, _, rfl, Nat.le_refl _, hG.out, hB2⟩
    | exact ⟨_, rfl, Nat.le_refl _, ⟨_, hG.out⟩, hB2⟩
end Go.V.W
