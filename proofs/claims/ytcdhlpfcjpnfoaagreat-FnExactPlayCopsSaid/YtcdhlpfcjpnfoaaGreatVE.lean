/- What the law FnExactPlayCops leans on, part 5: an interpreter of the model as plain data, its soundness, the functions as it tells them, and their laws. -/
import Derived.Test.YtcdhlpfcjpnfoaaGreatProg
import Derived.Laws.CopyOwn
import Derived.Deep.OwnRows
import Derived.Test.YtcdhlpfcjpnfoaaGreatVD
set_option linter.unusedVariables false
set_option linter.unusedSimpArgs false
set_option maxRecDepth 100000
set_option linter.unusedVariables false
set_option maxRecDepth 100000
namespace Go.V.W
open Go.Proofs
abbrev I : Kd := .int .i64
abbrev K_Piq : Kd := .pair I .unit
abbrev K_Piiq : Kd := .pair I K_Piq
abbrev K_SPiiq : Kd := .slice K_Piiq
abbrev K_PSPiiqq : Kd := .pair K_SPiiq .unit
abbrev K_PiSPiiqq : Kd := .pair I K_PSPiiqq
abbrev K_Si : Kd := .slice I
abbrev K_SSi : Kd := .slice K_Si
abbrev K_ZSi : Kd := .ssl K_Si
abbrev K_PSSiq : Kd := .pair K_SSi .unit
abbrev K_PSSiSSiq : Kd := .pair K_SSi K_PSSiq
abbrev K_PZSiSSiSSiq : Kd := .pair K_ZSi K_PSSiSSiq
abbrev K_PSiq : Kd := .pair K_Si .unit
abbrev K_F_q7q_qq : Kd := .clo 113 .unit .unit
abbrev K_F_slices_Equal_Sint_int_qq : Kd := .clo 92 .unit .unit
abbrev K_Zi : Kd := .ssl I
abbrev K_PZiq : Kd := .pair K_Zi .unit
abbrev K_PPZiqZSiSSiSSiq : Kd := .pair K_PZiq K_PZSiSSiSSiq
abbrev K_BPPZiqZSiSSiSSiq : Kd := .bx K_PPZiqZSiSSiSSiq
abbrev K_BBPPZiqZSiSSiSSiq : Kd := .bx K_BPPZiqZSiSSiSSiq
abbrev K_Bi : Kd := .bx I
abbrev K_PBiq : Kd := .pair K_Bi .unit
abbrev K_PBBPPZiqZSiSSiSSiqBiq : Kd := .pair K_BBPPZiqZSiSSiSSiq K_PBiq
abbrev K_F_q15q_qPBBPPZiqZSiSSiSSiqBiq : Kd := .clo 128 .unit K_PBBPPZiqZSiSSiSSiqBiq
def tks : List (Nat × Kd) := [(3, I), (4, .bool), (22, K_SPiiq), (24, K_PiSPiiqq), (25, K_SSi), (30, K_PiSPiiqq), (37, K_Si), (62, K_PSiq), (73, K_PZSiSSiSSiq), (76, K_PPZiqZSiSSiSSiq), (88, K_Piiq), (114, (.int .u64))]
def ars : List (Nat × Nat) := [(88, 3)]
noncomputable def Γ_q34q : Ctx := { tk := assoc tks, ar := assoc ars, fs := assoc [] }
noncomputable def F_q34q (N : Nat) (d : (List (Int × Int × Unit)) × Int × Unit) : Option (Int × Unit) :=
 let a0 : List (Int × Int × Unit) := d.1
 let a1 : Int := d.2.1
 let x1 : Int := IntKind.wrap .i64 (a1 - (List.length a0 : Int))
 if (decide (x1 < (0 : Int))) = true then
  some ((-1 : Int), ())
 else
  some (x1, ())
theorem F_q34q_ok (N : Nat) (d) : fnR Γ_q34q (assoc []) true [(K_SPiiq, false), (I, false)] [I] Tryz.f43.results.toList (bodyOf Tryz.f43) d = F_q34q N d := by kernel_rfl
noncomputable def g_q34q (d : (List (Int × Int × Unit)) × Int × Unit) : Int × Unit :=
 let a0 : List (Int × Int × Unit) := d.1
 let a1 : Int := d.2.1
 let x1 : Int := IntKind.wrap .i64 (a1 - (List.length a0 : Int))
 if (decide (x1 < (0 : Int))) = true then
  ((-1 : Int), ())
 else
  (x1, ())
theorem F_q34q_tot (N : Nat) (d) : F_q34q N d = some (g_q34q d) := by
 unfold F_q34q g_q34q
 first
  | rfl
  | (dsimp only; (repeat' split) <;> rfl)
noncomputable def S_q34q : FSig := ⟨[(K_SPiiq, false), (I, false)], [I], true, (fun d => some (g_q34q d))⟩
noncomputable def Γ_q51q : Ctx := { tk := assoc tks, ar := assoc ars, fs := assoc [(43, S_q34q)] }
noncomputable def F_q51q (N : Nat) (d : (Int × (List (Int × Int × Unit)) × Unit) × Int × Unit) : Option (Int × Unit) :=
 let a0 : Int × (List (Int × Int × Unit)) × Unit := d.1
 let a1 : Int := d.2.1
 let r1 : Int × Unit := g_q34q ((a0.2.1, (a1, ())))
 if (decide (r1.1 < (0 : Int))) = true then
  some ((-1 : Int), ())
 else
  some (r1.1, ())
theorem F_q51q_ok (N : Nat) (d) : fnR Γ_q51q (assoc []) true [(K_PiSPiiqq, false), (I, false)] [I] Tryz.f12.results.toList (bodyOf Tryz.f12) d = F_q51q N d := by kernel_rfl
noncomputable def g_q51q (d : (Int × (List (Int × Int × Unit)) × Unit) × Int × Unit) : Int × Unit :=
 let a0 : Int × (List (Int × Int × Unit)) × Unit := d.1
 let a1 : Int := d.2.1
 let r1 : Int × Unit := g_q34q ((a0.2.1, (a1, ())))
 if (decide (r1.1 < (0 : Int))) = true then
  ((-1 : Int), ())
 else
  (r1.1, ())
theorem F_q51q_tot (N : Nat) (d) : F_q51q N d = some (g_q51q d) := by
 unfold F_q51q g_q51q
 first
  | rfl
  | (dsimp only; (repeat' split) <;> rfl)
noncomputable def S_q51q : FSig := ⟨[(K_PiSPiiqq, false), (I, false)], [I], true, (fun d => some (g_q51q d))⟩
noncomputable def Γ_q54q : Ctx := { tk := assoc tks, ar := assoc ars, fs := assoc [] }
abbrev q54q_l0_H := (Int × Int × Unit) × (Int × Int × Unit) × (Int × Int × Unit) × Int × Unit
abbrev q54q_l0_O := ((Int × Int × Unit) × (Int × Int × Unit) × Unit) ⊕ Empty
def q54q_l0_h : Form := [(1, .box K_Piiq 99), (2, .box K_Piiq 99), (3, .box K_Piiq 99), (4, .v I)]
def q54q_l0_o : Outs := [(.normal, [(2, .box K_Piiq 99), (3, .box K_Piiq 99)])]
noncomputable def q54q_l0_r (N : Nat) (back : q54q_l0_H -> Option q54q_l0_O) (d : q54q_l0_H) : Option q54q_l0_O :=
 let s1 : Int × Int × Unit := d.1
 let s2 : Int × Int × Unit := d.2.1
 let s3 : Int × Int × Unit := d.2.2.1
 let s4 : Int := d.2.2.2.1
 if (decide (s4 < (2 : Int))) = true then
  if (s4 == (0 : Int)) = true then
   if (s4 == (0 : Int)) = true then
    let x10 : Int := IntKind.wrap .i64 (s4 + (1 : Int))
    back ((s1, (s2, ((s1.1, s3.2), (x10, ())))))
   else
    if (s4 == (1 : Int)) = true then
    let x9 : Int := IntKind.wrap .i64 (s4 + (1 : Int))
    back ((s1, (s2, ((s3.1, (s1.1, s3.2.2)), (x9, ())))))
    else none
  else
   if (s4 == (1 : Int)) = true then
   if (s4 == (0 : Int)) = true then
    let x8 : Int := IntKind.wrap .i64 (s4 + (1 : Int))
    back ((s1, (s2, ((s1.2.1, s3.2), (x8, ())))))
   else
    if (s4 == (1 : Int)) = true then
    let x7 : Int := IntKind.wrap .i64 (s4 + (1 : Int))
    back ((s1, (s2, ((s3.1, (s1.2.1, s3.2.2)), (x7, ())))))
    else none
   else none
 else
  some (.inl ((s2, (s3, ()))))
noncomputable def q54q_l0 (N : Nat) : Nat -> q54q_l0_H -> Option q54q_l0_O
 | 0, _ => none
 | k + 1, d => q54q_l0_r N (q54q_l0 N k) d
theorem q54q_l0_ok (N : Nat) (back) (d) : roundR Γ_q54q (assoc []) 0 q54q_l0_h q54q_l0_o (loopOf Tryz.f87 0) back d = q54q_l0_r N back d := by kernel_rfl
noncomputable def F_q54q (N : Nat) (d : (Int × Int × Unit) × Unit) : Option ((Int × Int × Unit) × Unit) :=
 let a0 : Int × Int × Unit := d.1
 (q54q_l0 N N ((a0, (((0 : Int), ((0 : Int), ())), (((0 : Int), ((0 : Int), ())), ((0 : Int), ())))))).bind fun o5 => match o5 with
 | .inl d6 =>
  some (d6.2.1, ())
theorem F_q54q_ok (N : Nat) (d) : fnR Γ_q54q (assoc [(0, ⟨q54q_l0_h, q54q_l0_o, q54q_l0 N N⟩)]) true [(K_Piiq, false)] [K_Piiq] Tryz.f87.results.toList (bodyOf Tryz.f87) d = F_q54q N d := by kernel_rfl
noncomputable def S_q54q : FSig := ⟨[(K_Piiq, false)], [K_Piiq], true, (G_toIntA2)⟩
noncomputable def Γ_q38q : Ctx := { tk := assoc tks, ar := assoc ars, fs := assoc [(87, S_q54q)] }
abbrev q38q_l0_H := (List (Int × Int × Unit)) × (List (Int × Int × Unit)) × Int × Unit
abbrev q38q_l0_O := ((List (Int × Int × Unit)) × Unit) ⊕ Empty
def q38q_l0_h : Form := [(0, .v K_SPiiq), (3, .own K_SPiiq 99), (4, .v I)]
def q38q_l0_o : Outs := [(.normal, [(3, .own K_SPiiq 99)])]
noncomputable def q38q_l0_r (N : Nat) (back : q38q_l0_H -> Option q38q_l0_O) (d : q38q_l0_H) : Option q38q_l0_O :=
 let s0 : List (Int × Int × Unit) := d.1
 let s3 : List (Int × Int × Unit) := d.2.1
 let s4 : Int := d.2.2.1
 if (decide (s4 < (List.length s0 : Int))) = true then
  if (idxIn s4 (List.length s0)) = true then
  (G_toIntA2 (at_ K_Piiq s0 s4.toNat, ())).bind fun r6 =>
  if (idxIn s4 (List.length s3)) = true then
  let x7 : Int := IntKind.wrap .i64 (s4 + (1 : Int))
  back ((s0, (List.set s3 s4.toNat r6.1, (x7, ()))))
  else none
  else none
 else
  some (.inl (s3, ()))
noncomputable def q38q_l0 (N : Nat) : Nat -> q38q_l0_H -> Option q38q_l0_O
 | 0, _ => none
 | k + 1, d => q38q_l0_r N (q38q_l0 N k) d
theorem q38q_l0_ok (N : Nat) (back) (d) : roundR Γ_q38q (assoc []) 0 q38q_l0_h q38q_l0_o (loopOf Tryz.f48 0) back d = q38q_l0_r N back d := by kernel_rfl
noncomputable def F_q38q (N : Nat) (d : (List (Int × Int × Unit)) × Unit) : Option ((List (Int × Int × Unit)) × Unit) :=
 let a0 : List (Int × Int × Unit) := d.1
 if ((decide (0 <= (List.length a0 : Int)) && decide ((List.length a0 : Int) <= (List.length a0 : Int)) && decide ((List.length a0 : Int) <= (lim : Int)))) = true then
 let x1 : List (Int × Int × Unit) := List.replicate (List.length a0 : Int).toNat (((0 : Int), ((0 : Int), ())))
 (q38q_l0 N N ((a0, (x1, ((0 : Int), ()))))).bind fun o4 => match o4 with
 | .inl d5 =>
  some (d5.1, ())
 else none
theorem F_q38q_ok (N : Nat) (d) : fnR Γ_q38q (assoc [(0, ⟨q38q_l0_h, q38q_l0_o, q38q_l0 N N⟩)]) true [(K_SPiiq, false)] [K_SPiiq] Tryz.f48.results.toList (bodyOf Tryz.f48) d = F_q38q N d := by kernel_rfl
noncomputable def S_q38q : FSig := ⟨[(K_SPiiq, false)], [K_SPiiq], true, (G_toIntA2S)⟩
noncomputable def Γ_q48q : Ctx := { tk := assoc tks, ar := assoc ars, fs := assoc [(48, S_q38q)] }
noncomputable def F_q48q (N : Nat) (d : (Int × (List (Int × Int × Unit)) × Unit) × Unit) : Option ((Int × (List (Int × Int × Unit)) × Unit) × Unit) :=
 let a0 : Int × (List (Int × Int × Unit)) × Unit := d.1
 (G_toIntA2S (a0.2.1, ())).bind fun r1 =>
 some (((a0.1, (r1.1, ())), ()))
theorem F_q48q_ok (N : Nat) (d) : fnR Γ_q48q (assoc []) true [(K_PiSPiiqq, false)] [K_PiSPiiqq] Tryz.f15.results.toList (bodyOf Tryz.f15) d = F_q48q N d := by kernel_rfl
noncomputable def S_q48q : FSig := ⟨[(K_PiSPiiqq, false)], [K_PiSPiiqq], true, (F_q48q 0)⟩
noncomputable def Γ_q60q : Ctx := { tk := assoc tks, ar := assoc ars, fs := assoc [] }
abbrev q60q_l0_H := List Int × List Int × Int × Unit
abbrev q60q_l0_O := (List Int × Unit) ⊕ Empty
def q60q_l0_h : Form := [(0, .v K_Si), (3, .own K_Si 99), (4, .v I)]
def q60q_l0_o : Outs := [(.normal, [(3, .own K_Si 99)])]
noncomputable def q60q_l0_r (N : Nat) (back : q60q_l0_H -> Option q60q_l0_O) (d : q60q_l0_H) : Option q60q_l0_O :=
 let s0 : List Int := d.1
 let s3 : List Int := d.2.1
 let s4 : Int := d.2.2.1
 if (decide (s4 < (List.length s0 : Int))) = true then
  if (idxIn s4 (List.length s0)) = true then
  if (idxIn s4 (List.length s3)) = true then
  let x6 : List Int := List.set s3 s4.toNat (at_ I s0 s4.toNat)
  let x7 : Int := IntKind.wrap .i64 (s4 + (1 : Int))
  back ((s0, (x6, (x7, ()))))
  else none
  else none
 else
  some (.inl (s3, ()))
noncomputable def q60q_l0 (N : Nat) : Nat -> q60q_l0_H -> Option q60q_l0_O
 | 0, _ => none
 | k + 1, d => q60q_l0_r N (q60q_l0 N k) d
theorem q60q_l0_ok (N : Nat) (back) (d) : roundR Γ_q60q (assoc []) 0 q60q_l0_h q60q_l0_o (loopOf Tryz.f31 0) back d = q60q_l0_r N back d := by kernel_rfl
noncomputable def F_q60q (N : Nat) (d : List Int × Unit) : Option (List Int × Unit) :=
 let a0 : List Int := d.1
 if ((decide (0 <= (List.length a0 : Int)) && decide ((List.length a0 : Int) <= (List.length a0 : Int)) && decide ((List.length a0 : Int) <= (lim : Int)))) = true then
 let x1 : List Int := List.replicate (List.length a0 : Int).toNat (0 : Int)
 (q60q_l0 N N ((a0, (x1, ((0 : Int), ()))))).bind fun o4 => match o4 with
 | .inl d5 =>
  some (d5.1, ())
 else none
theorem F_q60q_ok (N : Nat) (d) : fnR Γ_q60q (assoc [(0, ⟨q60q_l0_h, q60q_l0_o, q60q_l0 N N⟩)]) true [(K_Si, false)] [K_Si] Tryz.f31.results.toList (bodyOf Tryz.f31) d = F_q60q N d := by kernel_rfl
noncomputable def S_q60q : FSig := ⟨[(K_Si, false)], [K_Si], true, (G_toIntS)⟩
noncomputable def Γ_spec_l1In : Ctx := { tk := assoc tks, ar := assoc ars, fs := assoc [] }
noncomputable def F_spec_l1In (N : Nat) (d : Int × Int × Int × Unit) : Option (Bool × Unit) :=
 let a0 : Int := d.1
 let a1 : Int := d.2.1
 let a2 : Int := d.2.2.1
 if (decide (a0 >= a1)) = true then
  some (decide (a0 <= a2), ())
 else
  some (false, ())
theorem F_spec_l1In_ok (N : Nat) (d) : fnR Γ_spec_l1In (assoc []) true [(I, false), (I, false), (I, false)] [.bool] Tryz.f77.results.toList (bodyOf Tryz.f77) d = F_spec_l1In N d := by kernel_rfl
noncomputable def g_spec_l1In (d : Int × Int × Int × Unit) : Bool × Unit :=
 let a0 : Int := d.1
 let a1 : Int := d.2.1
 let a2 : Int := d.2.2.1
 if (decide (a0 >= a1)) = true then
  (decide (a0 <= a2), ())
 else
  (false, ())
theorem F_spec_l1In_tot (N : Nat) (d) : F_spec_l1In N d = some (g_spec_l1In d) := by
 unfold F_spec_l1In g_spec_l1In
 first
  | rfl
  | (dsimp only; (repeat' split) <;> rfl)
noncomputable def S_spec_l1In : FSig := ⟨[(I, false), (I, false), (I, false)], [.bool], true, (fun d => some (g_spec_l1In d))⟩
noncomputable def Γ_q35q : Ctx := { tk := assoc tks, ar := assoc ars, fs := assoc [] }
noncomputable def F_q35q (N : Nat) (d : (Int × Int × Unit) × (Int × Int × Unit) × Unit) : Option (Bool × Unit) :=
 let a0 : Int × Int × Unit := d.1
 let a1 : Int × Int × Unit := d.2.1
 if (decide (a0.1 < a1.1)) = true then
  some (true, ())
 else
  if (a0.1 == a1.1) = true then
   some (decide (a0.2.1 < a1.2.1), ())
  else
   some (false, ())
theorem F_q35q_ok (N : Nat) (d) : fnR Γ_q35q (assoc []) true [(K_Piiq, false), (K_Piiq, false)] [.bool] Tryz.f82.results.toList (bodyOf Tryz.f82) d = F_q35q N d := by kernel_rfl
noncomputable def g_q35q (d : (Int × Int × Unit) × (Int × Int × Unit) × Unit) : Bool × Unit :=
 let a0 : Int × Int × Unit := d.1
 let a1 : Int × Int × Unit := d.2.1
 if (decide (a0.1 < a1.1)) = true then
  (true, ())
 else
  if (a0.1 == a1.1) = true then
   (decide (a0.2.1 < a1.2.1), ())
  else
   (false, ())
theorem F_q35q_tot (N : Nat) (d) : F_q35q N d = some (g_q35q d) := by
 unfold F_q35q g_q35q
 first
  | rfl
  | (dsimp only; (repeat' split) <;> rfl)
noncomputable def S_q35q : FSig := ⟨[(K_Piiq, false), (K_Piiq, false)], [.bool], true, (fun d => some (g_q35q d))⟩
noncomputable def Γ_q63q : Ctx := { tk := assoc tks, ar := assoc ars, fs := assoc [(77, S_spec_l1In), (82, S_q35q)] }
abbrev q63q_l0_H := (Int × (List (Int × Int × Unit)) × Unit) × Int × Unit
abbrev q63q_l0_O := (Bool × Unit) ⊕ ((Int × (List (Int × Int × Unit)) × Unit) × Unit) ⊕ Empty
def q63q_l0_h : Form := [(1, .box K_PiSPiiqq 0), (3, .v I)]
def q63q_l0_o : Outs := [(.ret, [(2, .v .bool)]), (.normal, [(1, .box K_PiSPiiqq 0)])]
noncomputable def q63q_l0_r (N : Nat) (back : q63q_l0_H -> Option q63q_l0_O) (d : q63q_l0_H) : Option q63q_l0_O :=
 let s1 : Int × (List (Int × Int × Unit)) × Unit := d.1
 let s3 : Int := d.2.1
 if (decide (s3 < (List.length s1.2.1 : Int))) = true then
  if (idxIn s3 (List.length s1.2.1)) = true then
  let x13 : Int := IntKind.wrap .i64 (s1.1 - (1 : Int))
  let r14 : Bool × Unit := g_spec_l1In (((at_ K_Piiq s1.2.1 s3.toNat).1, ((0 : Int), (x13, ()))))
  if (!r14.1) = true then
   some (.inl (false, ()))
  else
   let x15 : Int := IntKind.wrap .i64 (s1.1 - (1 : Int))
   let r16 : Bool × Unit := g_spec_l1In (((at_ K_Piiq s1.2.1 s3.toNat).2.1, ((0 : Int), (x15, ()))))
   if (!r16.1) = true then
    some (.inl (false, ()))
   else
    if (decide ((at_ K_Piiq s1.2.1 s3.toNat).1 >= (at_ K_Piiq s1.2.1 s3.toNat).2.1)) = true then
     some (.inl (false, ()))
    else
     if (decide (s3 > (0 : Int))) = true then
      let x17 : Int := IntKind.wrap .i64 (s3 - (1 : Int))
      if (idxIn x17 (List.length s1.2.1)) = true then
      let r18 : Bool × Unit := g_q35q ((at_ K_Piiq s1.2.1 x17.toNat, (at_ K_Piiq s1.2.1 s3.toNat, ())))
      if (!r18.1) = true then
       some (.inl (false, ()))
      else
       let x19 : Int := IntKind.wrap .i64 (s3 + (1 : Int))
       back ((s1, (x19, ())))
      else none
     else
      let x20 : Int := IntKind.wrap .i64 (s3 + (1 : Int))
      back ((s1, (x20, ())))
  else none
 else
  some (.inr (.inl (s1, ())))
noncomputable def q63q_l0 (N : Nat) : Nat -> q63q_l0_H -> Option q63q_l0_O
 | 0, _ => none
 | k + 1, d => q63q_l0_r N (q63q_l0 N k) d
theorem q63q_l0_ok (N : Nat) (back) (d) : roundR Γ_q63q (assoc []) 0 q63q_l0_h q63q_l0_o (loopOf Tryz.f45 0) back d = q63q_l0_r N back d := by kernel_rfl
noncomputable def F_q63q (N : Nat) (d : (Int × (List (Int × Int × Unit)) × Unit) × Unit) : Option (Bool × Unit) :=
 let a0 : Int × (List (Int × Int × Unit)) × Unit := d.1
 (q63q_l0 N N ((a0, ((0 : Int), ())))).bind fun o9 => match o9 with
 | .inl d10 =>
  some (d10.1, ())
 | .inr (.inl d11) =>
  let r12 : Bool × Unit := g_spec_l1In ((d11.1.1, ((0 : Int), ((8 : Int), ()))))
  some (r12.1, ())
theorem F_q63q_ok (N : Nat) (d) : fnR Γ_q63q (assoc [(0, ⟨q63q_l0_h, q63q_l0_o, q63q_l0 N N⟩)]) true [(K_PiSPiiqq, false)] [.bool] Tryz.f45.results.toList (bodyOf Tryz.f45) d = F_q63q N d := by kernel_rfl
noncomputable def S_q63q : FSig := ⟨[(K_PiSPiiqq, false)], [.bool], true, (G_graph)⟩
noncomputable def Γ_q47q : Ctx := { tk := assoc tks, ar := assoc ars, fs := assoc [(45, S_q63q), (77, S_spec_l1In)] }
noncomputable def F_q47q (N : Nat) (d : (Int × (List (Int × Int × Unit)) × Unit) × Int × Unit) : Option (Bool × Unit) :=
 let a0 : Int × (List (Int × Int × Unit)) × Unit := d.1
 let a1 : Int := d.2.1
 (G_graph (a0, ())).bind fun r1 =>
 if (r1.1) = true then
  if (decide (a0.1 > (0 : Int))) = true then
   let r2 : Bool × Unit := g_spec_l1In ((a1, ((1 : Int), ((3 : Int), ()))))
   some (r2.1, ())
  else
   some (false, ())
 else
  some (false, ())
theorem F_q47q_ok (N : Nat) (d) : fnR Γ_q47q (assoc []) true [(K_PiSPiiqq, false), (I, false)] [.bool] Tryz.f59.results.toList (bodyOf Tryz.f59) d = F_q47q N d := by kernel_rfl
noncomputable def S_q47q : FSig := ⟨[(K_PiSPiiqq, false), (I, false)], [.bool], true, (F_q47q 0)⟩
noncomputable def Γ_q65q : Ctx := { tk := assoc tks, ar := assoc ars, fs := assoc [(77, S_spec_l1In)] }
noncomputable def F_q65q (N : Nat) (d : (Int × (List (Int × Int × Unit)) × Unit) × Int × Unit) : Option (Bool × Unit) :=
 let a0 : Int × (List (Int × Int × Unit)) × Unit := d.1
 let a1 : Int := d.2.1
 let x1 : Int := IntKind.wrap .i64 (a0.1 - (1 : Int))
 let r2 : Bool × Unit := g_spec_l1In ((a1, ((0 : Int), (x1, ()))))
 some (r2.1, ())
theorem F_q65q_ok (N : Nat) (d) : fnR Γ_q65q (assoc []) true [(K_PiSPiiqq, false), (I, false)] [.bool] Tryz.f107.results.toList (bodyOf Tryz.f107) d = F_q65q N d := by kernel_rfl
noncomputable def g_q65q (d : (Int × (List (Int × Int × Unit)) × Unit) × Int × Unit) : Bool × Unit :=
 let a0 : Int × (List (Int × Int × Unit)) × Unit := d.1
 let a1 : Int := d.2.1
 let x1 : Int := IntKind.wrap .i64 (a0.1 - (1 : Int))
 let r2 : Bool × Unit := g_spec_l1In ((a1, ((0 : Int), (x1, ()))))
 (r2.1, ())
theorem F_q65q_tot (N : Nat) (d) : F_q65q N d = some (g_q65q d) := by
 unfold F_q65q g_q65q
 first
  | rfl
  | (dsimp only; (repeat' split) <;> rfl)
noncomputable def S_q65q : FSig := ⟨[(K_PiSPiiqq, false), (I, false)], [.bool], true, (fun d => some (g_q65q d))⟩
noncomputable def Γ_q66q : Ctx := { tk := assoc tks, ar := assoc ars, fs := assoc [(107, S_q65q)] }
abbrev q66q_l0_H := List Int × (Int × (List (Int × Int × Unit)) × Unit) × Int × Unit
abbrev q66q_l0_O := (Bool × Unit) ⊕ Unit ⊕ Empty
def q66q_l0_h : Form := [(1, .v K_Si), (2, .box K_PiSPiiqq 0), (5, .v I)]
def q66q_l0_o : Outs := [(.ret, [(4, .v .bool)]), (.normal, [])]
noncomputable def q66q_l0_r (N : Nat) (back : q66q_l0_H -> Option q66q_l0_O) (d : q66q_l0_H) : Option q66q_l0_O :=
 let s1 : List Int := d.1
 let s2 : Int × (List (Int × Int × Unit)) × Unit := d.2.1
 let s5 : Int := d.2.2.1
 if (decide (s5 < (List.length s1 : Int))) = true then
  if (idxIn s5 (List.length s1)) = true then
  let r8 : Bool × Unit := g_q65q ((s2, (at_ I s1 s5.toNat, ())))
  if (!r8.1) = true then
   some (.inl (false, ()))
  else
   if (decide (s5 > (0 : Int))) = true then
    let x9 : Int := IntKind.wrap .i64 (s5 - (1 : Int))
    if (idxIn x9 (List.length s1)) = true then
    if (idxIn s5 (List.length s1)) = true then
    if (decide (at_ I s1 x9.toNat > at_ I s1 s5.toNat)) = true then
     some (.inl (false, ()))
    else
     let x10 : Int := IntKind.wrap .i64 (s5 + (1 : Int))
     back ((s1, (s2, (x10, ()))))
    else none
    else none
   else
    let x11 : Int := IntKind.wrap .i64 (s5 + (1 : Int))
    back ((s1, (s2, (x11, ()))))
  else none
 else
  some (.inr (.inl ()))
noncomputable def q66q_l0 (N : Nat) : Nat -> q66q_l0_H -> Option q66q_l0_O
 | 0, _ => none
 | k + 1, d => q66q_l0_r N (q66q_l0 N k) d
theorem q66q_l0_ok (N : Nat) (back) (d) : roundR Γ_q66q (assoc []) 0 q66q_l0_h q66q_l0_o (loopOf Tryz.f76 0) back d = q66q_l0_r N back d := by kernel_rfl
noncomputable def F_q66q (N : Nat) (d : (Int × (List (Int × Int × Unit)) × Unit) × List Int × Unit) : Option (Bool × Unit) :=
 let a0 : Int × (List (Int × Int × Unit)) × Unit := d.1
 let a1 : List Int := d.2.1
 (q66q_l0 N N ((a1, (a0, ((0 : Int), ()))))).bind fun o5 => match o5 with
 | .inl d6 =>
  some (d6.1, ())
 | .inr (.inl d7) =>
  some (true, ())
theorem F_q66q_ok (N : Nat) (d) : fnR Γ_q66q (assoc [(0, ⟨q66q_l0_h, q66q_l0_o, q66q_l0 N N⟩)]) true [(K_PiSPiiqq, false), (K_Si, false)] [.bool] Tryz.f76.results.toList (bodyOf Tryz.f76) d = F_q66q N d := by kernel_rfl
noncomputable def S_q66q : FSig := ⟨[(K_PiSPiiqq, false), (K_Si, false)], [.bool], true, (G_l4Cops)⟩
noncomputable def Γ_spec_l1Has : Ctx := { tk := assoc tks, ar := assoc ars, fs := assoc [] }
abbrev spec_l1Has_l0_H := List Int × Int × Int × Unit
abbrev spec_l1Has_l0_O := (Bool × Unit) ⊕ Unit ⊕ Empty
def spec_l1Has_l0_h : Form := [(0, .v K_Si), (1, .v I), (5, .v I)]
def spec_l1Has_l0_o : Outs := [(.ret, [(4, .v .bool)]), (.normal, [])]
noncomputable def spec_l1Has_l0_r (N : Nat) (back : spec_l1Has_l0_H -> Option spec_l1Has_l0_O) (d : spec_l1Has_l0_H) : Option spec_l1Has_l0_O :=
 let s0 : List Int := d.1
 let s1 : Int := d.2.1
 let s5 : Int := d.2.2.1
 if (decide (s5 < (List.length s0 : Int))) = true then
  if (idxIn s5 (List.length s0)) = true then
  if (at_ I s0 s5.toNat == s1) = true then
   some (.inl (true, ()))
  else
   let x5 : Int := IntKind.wrap .i64 (s5 + (1 : Int))
   back ((s0, (s1, (x5, ()))))
  else none
 else
  some (.inr (.inl ()))
noncomputable def spec_l1Has_l0 (N : Nat) : Nat -> spec_l1Has_l0_H -> Option spec_l1Has_l0_O
 | 0, _ => none
 | k + 1, d => spec_l1Has_l0_r N (spec_l1Has_l0 N k) d
theorem spec_l1Has_l0_ok (N : Nat) (back) (d) : roundR Γ_spec_l1Has (assoc []) 0 spec_l1Has_l0_h spec_l1Has_l0_o (loopOf Tryz.f57 0) back d = spec_l1Has_l0_r N back d := by kernel_rfl
noncomputable def F_spec_l1Has (N : Nat) (d : List Int × Int × Unit) : Option (Bool × Unit) :=
 let a0 : List Int := d.1
 let a1 : Int := d.2.1
 (spec_l1Has_l0 N N ((a0, (a1, ((0 : Int), ()))))).bind fun o2 => match o2 with
 | .inl d3 =>
  some (d3.1, ())
 | .inr (.inl d4) =>
  some (false, ())
theorem F_spec_l1Has_ok (N : Nat) (d) : fnR Γ_spec_l1Has (assoc [(0, ⟨spec_l1Has_l0_h, spec_l1Has_l0_o, spec_l1Has_l0 N N⟩)]) true [(K_Si, false), (I, false)] [.bool] Tryz.f57.results.toList (bodyOf Tryz.f57) d = F_spec_l1Has N d := by kernel_rfl
noncomputable def S_spec_l1Has : FSig := ⟨[(K_Si, false), (I, false)], [.bool], true, (G_l1Has)⟩
noncomputable def Γ_q57q : Ctx := { tk := assoc tks, ar := assoc ars, fs := assoc [(57, S_spec_l1Has), (59, S_q47q), (76, S_q66q), (107, S_q65q)] }
noncomputable def F_q57q (N : Nat) (d : (Int × (List (Int × Int × Unit)) × Unit) × List Int × Int × Unit) : Option (Bool × Unit) :=
 let a0 : Int × (List (Int × Int × Unit)) × Unit := d.1
 let a1 : List Int := d.2.1
 let a2 : Int := d.2.2.1
 ((F_q47q 0) ((a0, ((List.length a1 : Int), ())))).bind fun r1 =>
 if (r1.1) = true then
  (G_l4Cops ((a0, (a1, ())))).bind fun r2 =>
  if (r2.1) = true then
   let r3 : Bool × Unit := g_q65q ((a0, (a2, ())))
   if (r3.1) = true then
    (G_l1Has ((a1, (a2, ())))).bind fun r4 =>
    some (!r4.1, ())
   else
    some (false, ())
  else
   some (false, ())
 else
  some (false, ())
theorem F_q57q_ok (N : Nat) (d) : fnR Γ_q57q (assoc []) true [(K_PiSPiiqq, false), (K_Si, false), (I, false)] [.bool] Tryz.f64.results.toList (bodyOf Tryz.f64) d = F_q57q N d := by kernel_rfl
noncomputable def S_q57q : FSig := ⟨[(K_PiSPiiqq, false), (K_Si, false), (I, false)], [.bool], true, (F_q57q 0)⟩
noncomputable def Γ_spec_l1Own : Ctx := { tk := assoc tks, ar := assoc ars, fs := assoc [] }
noncomputable def F_spec_l1Own (N : Nat) (d : List Int × Unit) : Option (List Int × Unit) :=
 let a0 : List Int := d.1
 if (decide (List.length ([] : List Int) + List.length a0 <= lim)) = true then
 some (([] : List Int) ++ a0, ())
 else none
theorem F_spec_l1Own_ok (N : Nat) (d) : fnR Γ_spec_l1Own (assoc []) true [(K_Si, false)] [K_Si] Tryz.f73.results.toList (bodyOf Tryz.f73) d = F_spec_l1Own N d := by kernel_rfl
noncomputable def S_spec_l1Own : FSig := ⟨[(K_Si, false)], [K_Si], true, (F_spec_l1Own 0)⟩
noncomputable def Γ_q25q : Ctx := { tk := assoc tks, ar := assoc ars, fs := assoc [(73, S_spec_l1Own)] }
abbrev q25q_l4_H := Int × Int × List (List Int) × Int × List (List Int) × Int × Int × Unit
abbrev q25q_l4_O := (Int × Int × List (List Int) × Int × List (List Int) × Int × Unit) ⊕ Empty
def q25q_l4_h : Form := [(0, .v I), (1, .v I), (5, .own K_SSi 100), (6, .v I), (7, .own K_SSi 100), (8, .v I), (10, .v I)]
def q25q_l4_o : Outs := [(.normal, [(0, .v I), (1, .v I), (5, .own K_SSi 100), (6, .v I), (7, .own K_SSi 100), (8, .v I)])]
noncomputable def q25q_l4_r (N : Nat) (back : q25q_l4_H -> Option q25q_l4_O) (d : q25q_l4_H) : Option q25q_l4_O :=
 let s0 : Int := d.1
 let s1 : Int := d.2.1
 let s5 : List (List Int) := d.2.2.1
 let s6 : Int := d.2.2.2.1
 let s7 : List (List Int) := d.2.2.2.2.1
 let s8 : Int := d.2.2.2.2.2.1
 let s10 : Int := d.2.2.2.2.2.2.1
 if (decide (s10 < s0)) = true then
  if (idxIn s8 (List.length s5)) = true then
  ((F_spec_l1Own 0) (at_ K_Si s5 s8.toNat, ())).bind fun r36 =>
  if (decide (List.length r36.1 + List.length ([s10]) <= lim)) = true then
  if (decide (List.length s7 + List.length ([r36.1 ++ ([s10])]) <= lim)) = true then
  let x37 : Int := IntKind.wrap .i64 (s10 + (1 : Int))
  back ((s0, (s1, (s5, (s6, (s7 ++ ([r36.1 ++ ([s10])]), (s8, (x37, ()))))))))
  else none
  else none
  else none
 else
  some (.inl ((s0, (s1, (s5, (s6, (s7, (s8, ()))))))))
noncomputable def q25q_l4 (N : Nat) : Nat -> q25q_l4_H -> Option q25q_l4_O
 | 0, _ => none
 | k + 1, d => q25q_l4_r N (q25q_l4 N k) d
theorem q25q_l4_ok (N : Nat) (back) (d) : roundR Γ_q25q (assoc []) 4 q25q_l4_h q25q_l4_o (loopOf Tryz.f102 4) back d = q25q_l4_r N back d := by kernel_rfl
abbrev q25q_l2_H := Int × Int × List (List Int) × Int × List (List Int) × Int × Unit
abbrev q25q_l2_O := (Int × Int × Int × List (List Int) × Unit) ⊕ Empty
def q25q_l2_h : Form := [(0, .v I), (1, .v I), (5, .own K_SSi 100), (6, .v I), (7, .own K_SSi 100), (8, .v I)]
def q25q_l2_o : Outs := [(.normal, [(0, .v I), (1, .v I), (6, .v I), (7, .own K_SSi 100)])]
noncomputable def q25q_l2_r (N : Nat) (back : q25q_l2_H -> Option q25q_l2_O) (d : q25q_l2_H) : Option q25q_l2_O :=
 let s0 : Int := d.1
 let s1 : Int := d.2.1
 let s5 : List (List Int) := d.2.2.1
 let s6 : Int := d.2.2.2.1
 let s7 : List (List Int) := d.2.2.2.2.1
 let s8 : Int := d.2.2.2.2.2.1
 if (decide (s8 < (List.length s5 : Int))) = true then
  if (decide (s6 > (0 : Int))) = true then
   if (idxIn s8 (List.length s5)) = true then
   let x27 : Int := IntKind.wrap .i64 (s6 - (1 : Int))
   if (idxIn x27 (List.length (at_ K_Si s5 s8.toNat))) = true then
   (q25q_l4 N N ((s0, (s1, (s5, (s6, (s7, (s8, (at_ I (at_ K_Si s5 s8.toNat) x27.toNat, ()))))))))).bind fun o30 => match o30 with
   | .inl d31 =>
    let x32 : Int := IntKind.wrap .i64 (d31.2.2.2.2.2.1 + (1 : Int))
    back ((d31.1, (d31.2.1, (d31.2.2.1, (d31.2.2.2.1, (d31.2.2.2.2.1, (x32, ())))))))
   else none
   else none
  else
   (q25q_l4 N N ((s0, (s1, (s5, (s6, (s7, (s8, ((0 : Int), ()))))))))).bind fun o33 => match o33 with
   | .inl d34 =>
    let x35 : Int := IntKind.wrap .i64 (d34.2.2.2.2.2.1 + (1 : Int))
    back ((d34.1, (d34.2.1, (d34.2.2.1, (d34.2.2.2.1, (d34.2.2.2.2.1, (x35, ())))))))
 else
  some (.inl ((s0, (s1, (s6, (s7, ()))))))
noncomputable def q25q_l2 (N : Nat) : Nat -> q25q_l2_H -> Option q25q_l2_O
 | 0, _ => none
 | k + 1, d => q25q_l2_r N (q25q_l2 N k) d
theorem q25q_l2_ok (N : Nat) (back) (d) : roundR Γ_q25q (assoc [(4, ⟨q25q_l4_h, q25q_l4_o, q25q_l4 N N⟩)]) 2 q25q_l2_h q25q_l2_o (loopOf Tryz.f102 2) back d = q25q_l2_r N back d := by kernel_rfl
abbrev q25q_l0_H := Int × Int × List (List Int) × Int × Unit
abbrev q25q_l0_O := (List (List Int) × Unit) ⊕ Empty
def q25q_l0_h : Form := [(0, .v I), (1, .v I), (5, .own K_SSi 100), (6, .v I)]
def q25q_l0_o : Outs := [(.normal, [(5, .own K_SSi 100)])]
noncomputable def q25q_l0_r (N : Nat) (back : q25q_l0_H -> Option q25q_l0_O) (d : q25q_l0_H) : Option q25q_l0_O :=
 let s0 : Int := d.1
 let s1 : Int := d.2.1
 let s5 : List (List Int) := d.2.2.1
 let s6 : Int := d.2.2.2.1
 if (decide (s6 < s1)) = true then
  (q25q_l2 N N ((s0, (s1, (s5, (s6, (([] : List (List Int)), ((0 : Int), ())))))))).bind fun o24 => match o24 with
  | .inl d25 =>
   let x26 : Int := IntKind.wrap .i64 (d25.2.2.1 + (1 : Int))
   back ((d25.1, (d25.2.1, (d25.2.2.2.1, (x26, ())))))
 else
  some (.inl (s5, ()))
noncomputable def q25q_l0 (N : Nat) : Nat -> q25q_l0_H -> Option q25q_l0_O
 | 0, _ => none
 | k + 1, d => q25q_l0_r N (q25q_l0 N k) d
theorem q25q_l0_ok (N : Nat) (back) (d) : roundR Γ_q25q (assoc [(2, ⟨q25q_l2_h, q25q_l2_o, q25q_l2 N N⟩)]) 0 q25q_l0_h q25q_l0_o (loopOf Tryz.f102 0) back d = q25q_l0_r N back d := by kernel_rfl
noncomputable def F_q25q (N : Nat) (d : Int × Int × Unit) : Option (List (List Int) × Unit) :=
 let a0 : Int := d.1
 let a1 : Int := d.2.1
 (q25q_l0 N N ((a0, (a1, ([([] : List Int)], ((0 : Int), ())))))).bind fun o13 => match o13 with
 | .inl d14 =>
  some (d14.1, ())
theorem F_q25q_ok (N : Nat) (d) : fnR Γ_q25q (assoc [(0, ⟨q25q_l0_h, q25q_l0_o, q25q_l0 N N⟩)]) true [(I, false), (I, false)] [K_SSi] Tryz.f102.results.toList (bodyOf Tryz.f102) d = F_q25q N d := by kernel_rfl
noncomputable def S_q25q : FSig := ⟨[(I, false), (I, false)], [K_SSi], true, (G_configs)⟩
noncomputable def Γ_q64q : Ctx := { tk := assoc tks, ar := assoc ars, fs := assoc [] }
abbrev q64q_l0_H := Int × Int × (Int × (List (Int × Int × Unit)) × Unit) × Int × Unit
abbrev q64q_l0_O := (Bool × Unit) ⊕ Unit ⊕ Empty
def q64q_l0_h : Form := [(1, .v I), (2, .v I), (3, .box K_PiSPiiqq 0), (7, .v I)]
def q64q_l0_o : Outs := [(.ret, [(6, .v .bool)]), (.normal, [])]
noncomputable def q64q_l0_r (N : Nat) (back : q64q_l0_H -> Option q64q_l0_O) (d : q64q_l0_H) : Option q64q_l0_O :=
 let s1 : Int := d.1
 let s2 : Int := d.2.1
 let s3 : Int × (List (Int × Int × Unit)) × Unit := d.2.2.1
 let s7 : Int := d.2.2.2.1
 if (decide (s7 < (List.length s3.2.1 : Int))) = true then
  if (idxIn s7 (List.length s3.2.1)) = true then
  if ((at_ K_Piiq s3.2.1 s7.toNat).1 == s1) = true then
   if ((at_ K_Piiq s3.2.1 s7.toNat).2.1 == s2) = true then
    some (.inl (true, ()))
   else
    if ((at_ K_Piiq s3.2.1 s7.toNat).1 == s2) = true then
     if ((at_ K_Piiq s3.2.1 s7.toNat).2.1 == s1) = true then
      some (.inl (true, ()))
     else
      let x8 : Int := IntKind.wrap .i64 (s7 + (1 : Int))
      back ((s1, (s2, (s3, (x8, ())))))
    else
     let x9 : Int := IntKind.wrap .i64 (s7 + (1 : Int))
     back ((s1, (s2, (s3, (x9, ())))))
  else
   if ((at_ K_Piiq s3.2.1 s7.toNat).1 == s2) = true then
    if ((at_ K_Piiq s3.2.1 s7.toNat).2.1 == s1) = true then
     some (.inl (true, ()))
    else
     let x10 : Int := IntKind.wrap .i64 (s7 + (1 : Int))
     back ((s1, (s2, (s3, (x10, ())))))
   else
    let x11 : Int := IntKind.wrap .i64 (s7 + (1 : Int))
    back ((s1, (s2, (s3, (x11, ())))))
  else none
 else
  some (.inr (.inl ()))
noncomputable def q64q_l0 (N : Nat) : Nat -> q64q_l0_H -> Option q64q_l0_O
 | 0, _ => none
 | k + 1, d => q64q_l0_r N (q64q_l0 N k) d
theorem q64q_l0_ok (N : Nat) (back) (d) : roundR Γ_q64q (assoc []) 0 q64q_l0_h q64q_l0_o (loopOf Tryz.f124 0) back d = q64q_l0_r N back d := by kernel_rfl
noncomputable def F_q64q (N : Nat) (d : (Int × (List (Int × Int × Unit)) × Unit) × Int × Int × Unit) : Option (Bool × Unit) :=
 let a0 : Int × (List (Int × Int × Unit)) × Unit := d.1
 let a1 : Int := d.2.1
 let a2 : Int := d.2.2.1
 (q64q_l0 N N ((a1, (a2, (a0, ((0 : Int), ())))))).bind fun o5 => match o5 with
 | .inl d6 =>
  some (d6.1, ())
 | .inr (.inl d7) =>
  some (false, ())
theorem F_q64q_ok (N : Nat) (d) : fnR Γ_q64q (assoc [(0, ⟨q64q_l0_h, q64q_l0_o, q64q_l0 N N⟩)]) true [(K_PiSPiiqq, false), (I, false), (I, false)] [.bool] Tryz.f124.results.toList (bodyOf Tryz.f124) d = F_q64q N d := by kernel_rfl
noncomputable def S_q64q : FSig := ⟨[(K_PiSPiiqq, false), (I, false), (I, false)], [.bool], true, (G_l2Near)⟩
noncomputable def Γ_q20q : Ctx := { tk := assoc tks, ar := assoc ars, fs := assoc [(124, S_q64q)] }
abbrev q20q_l0_H := Int × (Int × (List (Int × Int × Unit)) × Unit) × List Int × Int × Unit
abbrev q20q_l0_O := (List Int × Unit) ⊕ Empty
def q20q_l0_h : Form := [(1, .v I), (2, .box K_PiSPiiqq 0), (5, .own K_Si 99), (6, .v I)]
def q20q_l0_o : Outs := [(.normal, [(5, .own K_Si 99)])]
noncomputable def q20q_l0_r (N : Nat) (back : q20q_l0_H -> Option q20q_l0_O) (d : q20q_l0_H) : Option q20q_l0_O :=
 let s1 : Int := d.1
 let s2 : Int × (List (Int × Int × Unit)) × Unit := d.2.1
 let s5 : List Int := d.2.2.1
 let s6 : Int := d.2.2.2.1
 if (decide (s6 < s2.1)) = true then
  (G_l2Near ((s2, (s1, (s6, ()))))).bind fun r6 =>
  if (r6.1) = true then
   if (decide (List.length s5 + List.length ([s6]) <= lim)) = true then
   let x7 : Int := IntKind.wrap .i64 (s6 + (1 : Int))
   back ((s1, (s2, (s5 ++ ([s6]), (x7, ())))))
   else none
  else
   let x8 : Int := IntKind.wrap .i64 (s6 + (1 : Int))
   back ((s1, (s2, (s5, (x8, ())))))
 else
  some (.inl (s5, ()))
noncomputable def q20q_l0 (N : Nat) : Nat -> q20q_l0_H -> Option q20q_l0_O
 | 0, _ => none
 | k + 1, d => q20q_l0_r N (q20q_l0 N k) d
theorem q20q_l0_ok (N : Nat) (back) (d) : roundR Γ_q20q (assoc []) 0 q20q_l0_h q20q_l0_o (loopOf Tryz.f98 0) back d = q20q_l0_r N back d := by kernel_rfl
noncomputable def F_q20q (N : Nat) (d : (Int × (List (Int × Int × Unit)) × Unit) × Int × Unit) : Option (List Int × Unit) :=
 let a0 : Int × (List (Int × Int × Unit)) × Unit := d.1
 let a1 : Int := d.2.1
 (q20q_l0 N N ((a1, (a0, (([] : List Int), ((0 : Int), ())))))).bind fun o4 => match o4 with
 | .inl d5 =>
  some (d5.1, ())
theorem F_q20q_ok (N : Nat) (d) : fnR Γ_q20q (assoc [(0, ⟨q20q_l0_h, q20q_l0_o, q20q_l0 N N⟩)]) true [(K_PiSPiiqq, false), (I, false)] [K_Si] Tryz.f98.results.toList (bodyOf Tryz.f98) d = F_q20q N d := by kernel_rfl
noncomputable def S_q20q : FSig := ⟨[(K_PiSPiiqq, false), (I, false)], [K_Si], true, (G_l2Neighbors)⟩
noncomputable def Γ_spec_l1Put : Ctx := { tk := assoc tks, ar := assoc ars, fs := assoc [] }
abbrev spec_l1Put_l0_H := List Int × Int × Int × Unit
abbrev spec_l1Put_l0_O := (List Int × Int × Int × Unit) ⊕ Empty
def spec_l1Put_l0_h : Form := [(0, .v K_Si), (1, .v I), (5, .v I)]
def spec_l1Put_l0_o : Outs := [(.normal, [(0, .v K_Si), (1, .v I), (5, .v I)])]
noncomputable def spec_l1Put_l0_r (N : Nat) (back : spec_l1Put_l0_H -> Option spec_l1Put_l0_O) (d : spec_l1Put_l0_H) : Option spec_l1Put_l0_O :=
 let s0 : List Int := d.1
 let s1 : Int := d.2.1
 let s5 : Int := d.2.2.1
 if (decide (s5 < (List.length s0 : Int))) = true then
  if (idxIn s5 (List.length s0)) = true then
  if (decide (at_ I s0 s5.toNat < s1)) = true then
   let x11 : Int := IntKind.wrap .i64 (s5 + (1 : Int))
   back ((s0, (s1, (x11, ()))))
  else
   some (.inl ((s0, (s1, (s5, ())))))
  else none
 else
  some (.inl ((s0, (s1, (s5, ())))))
noncomputable def spec_l1Put_l0 (N : Nat) : Nat -> spec_l1Put_l0_H -> Option spec_l1Put_l0_O
 | 0, _ => none
 | k + 1, d => spec_l1Put_l0_r N (spec_l1Put_l0 N k) d
theorem spec_l1Put_l0_ok (N : Nat) (back) (d) : roundR Γ_spec_l1Put (assoc []) 0 spec_l1Put_l0_h spec_l1Put_l0_o (loopOf Tryz.f97 0) back d = spec_l1Put_l0_r N back d := by kernel_rfl
noncomputable def F_spec_l1Put (N : Nat) (d : List Int × Int × Unit) : Option (List Int × Unit) :=
 let a0 : List Int := d.1
 let a1 : Int := d.2.1
 (spec_l1Put_l0 N N ((a0, (a1, ((0 : Int), ()))))).bind fun o5 => match o5 with
 | .inl d6 =>
  if (decide (d6.2.2.1 < (List.length d6.1 : Int))) = true then
   if (idxIn d6.2.2.1 (List.length d6.1)) = true then
   if (at_ I d6.1 d6.2.2.1.toNat == d6.2.1) = true then
    some (d6.1, ())
   else
    if ((decide (0 <= (0 : Int)) && decide ((0 : Int) <= d6.2.2.1) && decide (d6.2.2.1 <= (List.length d6.1 : Int)))) = true then
    if (decide (List.length ([] : List Int) + List.length (sub_ d6.1 (0 : Int) d6.2.2.1) <= lim)) = true then
    let x7 : List Int := ([] : List Int) ++ (sub_ d6.1 (0 : Int) d6.2.2.1)
    if (decide (List.length x7 + List.length ([d6.2.1]) <= lim)) = true then
    if ((decide (0 <= d6.2.2.1) && decide (d6.2.2.1 <= (List.length d6.1 : Int)) && decide ((List.length d6.1 : Int) <= (List.length d6.1 : Int)))) = true then
    let x8 : List Int := sub_ d6.1 d6.2.2.1 (List.length d6.1 : Int)
    if (decide (List.length (x7 ++ ([d6.2.1])) + List.length x8 <= lim)) = true then
    some (((x7 ++ ([d6.2.1])) ++ x8, ()))
    else none
    else none
    else none
    else none
    else none
   else none
  else
   if ((decide (0 <= (0 : Int)) && decide ((0 : Int) <= d6.2.2.1) && decide (d6.2.2.1 <= (List.length d6.1 : Int)))) = true then
   if (decide (List.length ([] : List Int) + List.length (sub_ d6.1 (0 : Int) d6.2.2.1) <= lim)) = true then
   let x9 : List Int := ([] : List Int) ++ (sub_ d6.1 (0 : Int) d6.2.2.1)
   if (decide (List.length x9 + List.length ([d6.2.1]) <= lim)) = true then
   if ((decide (0 <= d6.2.2.1) && decide (d6.2.2.1 <= (List.length d6.1 : Int)) && decide ((List.length d6.1 : Int) <= (List.length d6.1 : Int)))) = true then
   let x10 : List Int := sub_ d6.1 d6.2.2.1 (List.length d6.1 : Int)
   if (decide (List.length (x9 ++ ([d6.2.1])) + List.length x10 <= lim)) = true then
   some (((x9 ++ ([d6.2.1])) ++ x10, ()))
   else none
   else none
   else none
   else none
   else none
theorem F_spec_l1Put_ok (N : Nat) (d) : fnR Γ_spec_l1Put (assoc [(0, ⟨spec_l1Put_l0_h, spec_l1Put_l0_o, spec_l1Put_l0 N N⟩)]) false [(K_Si, false), (I, false)] [K_Si] Tryz.f97.results.toList (bodyOf Tryz.f97) d = F_spec_l1Put N d := by kernel_rfl
noncomputable def S_spec_l1Put : FSig := ⟨[(K_Si, false), (I, false)], [K_Si], false, (G_l1Put)⟩
noncomputable def Γ_q62q : Ctx := { tk := assoc tks, ar := assoc ars, fs := assoc [(97, S_spec_l1Put), (98, S_q20q)] }
noncomputable def F_q62q (N : Nat) (d : (Int × (List (Int × Int × Unit)) × Unit) × Int × Unit) : Option (List Int × Unit) :=
 let a0 : Int × (List (Int × Int × Unit)) × Unit := d.1
 let a1 : Int := d.2.1
 (G_l2Neighbors ((a0, (a1, ())))).bind fun r3 =>
 (G_l1Put ((r3.1, (a1, ())))).bind fun r4 =>
 some (r4.1, ())
theorem F_q62q_ok (N : Nat) (d) : fnR Γ_q62q (assoc []) false [(K_PiSPiiqq, false), (I, false)] [K_Si] Tryz.f56.results.toList (bodyOf Tryz.f56) d = F_q62q N d := by kernel_rfl
noncomputable def S_q62q : FSig := ⟨[(K_PiSPiiqq, false), (I, false)], [K_Si], false, (F_q62q 0)⟩
noncomputable def Γ_q33q : Ctx := { tk := assoc tks, ar := assoc ars, fs := assoc [], dm := fun t => Nat.beq t 3, cs := assoc [] }
abbrev q33q_l2_H := List Int × List Int × Int × Int × Unit
abbrev q33q_l2_O := (List Int × List Int × Int × Int × Unit) ⊕ Empty
def q33q_l2_h : Form := [(0, .v K_Si), (3, .v K_Si), (4, .v I), (5, .v I)]
def q33q_l2_o : Outs := [(.normal, [(0, .v K_Si), (3, .v K_Si), (4, .v I), (5, .v I)])]
noncomputable def q33q_l2_r (N : Nat) (back : q33q_l2_H -> Option q33q_l2_O) (d : q33q_l2_H) : Option q33q_l2_O :=
 let s0 : List Int := d.1
 let s3 : List Int := d.2.1
 let s4 : Int := d.2.2.1
 let s5 : Int := d.2.2.2.1
 if (decide (s5 < (List.length s3 : Int))) = true then
  if (idxIn s5 (List.length s3)) = true then
  if (idxIn s4 (List.length s0)) = true then
  if (decide (at_ I s3 s5.toNat <= at_ I s0 s4.toNat)) = true then
   let x26 : Int := IntKind.wrap .i64 (s5 + (1 : Int))
   back ((s0, (s3, (s4, (x26, ())))))
  else
   some (.inl ((s0, (s3, (s4, (s5, ()))))))
  else none
  else none
 else
  some (.inl ((s0, (s3, (s4, (s5, ()))))))
noncomputable def q33q_l2 (N : Nat) : Nat -> q33q_l2_H -> Option q33q_l2_O
 | 0, _ => none
 | k + 1, d => q33q_l2_r N (q33q_l2 N k) d
theorem q33q_l2_ok (N : Nat) (back) (d) : roundR Γ_q33q (assoc []) 2 q33q_l2_h q33q_l2_o (loopOf Tryz.f118 2) back d = q33q_l2_r N back d := by kernel_rfl
abbrev q33q_l0_H := List Int × List Int × Int × Unit
abbrev q33q_l0_O := (List Int × Unit) ⊕ Empty
def q33q_l0_h : Form := [(0, .v K_Si), (3, .v K_Si), (4, .v I)]
def q33q_l0_o : Outs := [(.normal, [(3, .v K_Si)])]
noncomputable def q33q_l0_r (N : Nat) (back : q33q_l0_H -> Option q33q_l0_O) (d : q33q_l0_H) : Option q33q_l0_O :=
 let s0 : List Int := d.1
 let s3 : List Int := d.2.1
 let s4 : Int := d.2.2.1
 if (decide (s4 < (List.length s0 : Int))) = true then
  (q33q_l2 N N ((s0, (s3, (s4, ((0 : Int), ())))))).bind fun o20 => match o20 with
  | .inl d21 =>
   if ((decide (0 <= (0 : Int)) && decide ((0 : Int) <= d21.2.2.2.1) && decide (d21.2.2.2.1 <= (List.length d21.2.1 : Int)))) = true then
   let x22 : List Int := sub_ d21.2.1 (0 : Int) d21.2.2.2.1
   if (decide (List.length ([] : List Int) + List.length x22 <= lim)) = true then
   if (idxIn d21.2.2.1 (List.length d21.1)) = true then
   if (decide (List.length (([] : List Int) ++ x22) + List.length ([at_ I d21.1 d21.2.2.1.toNat]) <= lim)) = true then
   let x23 : List Int := (([] : List Int) ++ x22) ++ ([at_ I d21.1 d21.2.2.1.toNat])
   if ((decide (0 <= d21.2.2.2.1) && decide (d21.2.2.2.1 <= (List.length d21.2.1 : Int)) && decide ((List.length d21.2.1 : Int) <= (List.length d21.2.1 : Int)))) = true then
   let x24 : List Int := sub_ d21.2.1 d21.2.2.2.1 (List.length d21.2.1 : Int)
   if (decide (List.length x23 + List.length x24 <= lim)) = true then
   let x25 : Int := IntKind.wrap .i64 (d21.2.2.1 + (1 : Int))
   back ((d21.1, (x23 ++ x24, (x25, ()))))
   else none
   else none
   else none
   else none
   else none
   else none
 else
  some (.inl (s3, ()))
noncomputable def q33q_l0 (N : Nat) : Nat -> q33q_l0_H -> Option q33q_l0_O
 | 0, _ => none
 | k + 1, d => q33q_l0_r N (q33q_l0 N k) d
theorem q33q_l0_ok (N : Nat) (back) (d) : roundR Γ_q33q (assoc [(2, ⟨q33q_l2_h, q33q_l2_o, q33q_l2 N N⟩)]) 0 q33q_l0_h q33q_l0_o (loopOf Tryz.f118 0) back d = q33q_l0_r N back d := by kernel_rfl
noncomputable def F_q33q (N : Nat) (d : List Int × Unit) : Option (List Int × Unit) :=
 let a0 : List Int := d.1
 (q33q_l0 N N ((a0, (([] : List Int), ((0 : Int), ()))))).bind fun o17 => match o17 with
 | .inl d18 =>
  some (d18.1, ())
theorem F_q33q_ok (N : Nat) (d) : fnR Γ_q33q (assoc [(0, ⟨q33q_l0_h, q33q_l0_o, q33q_l0 N N⟩)]) false [(K_Si, false)] [K_Si] Tryz.f118.results.toList (bodyOf Tryz.f118) d = F_q33q N d := by kernel_rfl
noncomputable def S_q33q : FSig := ⟨[(K_Si, false)], [K_Si], false, (G_l4Sorted)⟩
noncomputable def Γ_q61q : Ctx := { tk := assoc tks, ar := assoc ars, fs := assoc [] }
abbrev q61q_l0_H := List Int × List Int × Int × Unit
abbrev q61q_l0_O := (Bool × Unit) ⊕ Unit ⊕ Empty
def q61q_l0_h : Form := [(0, .v K_Si), (1, .v K_Si), (5, .v I)]
def q61q_l0_o : Outs := [(.ret, [(4, .v .bool)]), (.normal, [])]
noncomputable def q61q_l0_r (N : Nat) (back : q61q_l0_H -> Option q61q_l0_O) (d : q61q_l0_H) : Option q61q_l0_O :=
 let s0 : List Int := d.1
 let s1 : List Int := d.2.1
 let s5 : Int := d.2.2.1
 if (decide (s5 < (List.length s0 : Int))) = true then
  if (idxIn s5 (List.length s0)) = true then
  if (idxIn s5 (List.length s1)) = true then
  if (at_ I s0 s5.toNat != at_ I s1 s5.toNat) = true then
   if (idxIn s5 (List.length s0)) = true then
   if (idxIn s5 (List.length s1)) = true then
   some (.inl (decide (at_ I s0 s5.toNat < at_ I s1 s5.toNat), ()))
   else none
   else none
  else
   let x5 : Int := IntKind.wrap .i64 (s5 + (1 : Int))
   back ((s0, (s1, (x5, ()))))
  else none
  else none
 else
  some (.inr (.inl ()))
noncomputable def q61q_l0 (N : Nat) : Nat -> q61q_l0_H -> Option q61q_l0_O
 | 0, _ => none
 | k + 1, d => q61q_l0_r N (q61q_l0 N k) d
theorem q61q_l0_ok (N : Nat) (back) (d) : roundR Γ_q61q (assoc []) 0 q61q_l0_h q61q_l0_o (loopOf Tryz.f131 0) back d = q61q_l0_r N back d := by kernel_rfl
noncomputable def F_q61q (N : Nat) (d : List Int × List Int × Unit) : Option (Bool × Unit) :=
 let a0 : List Int := d.1
 let a1 : List Int := d.2.1
 (q61q_l0 N N ((a0, (a1, ((0 : Int), ()))))).bind fun o2 => match o2 with
 | .inl d3 =>
  some (d3.1, ())
 | .inr (.inl d4) =>
  some (false, ())
theorem F_q61q_ok (N : Nat) (d) : fnR Γ_q61q (assoc [(0, ⟨q61q_l0_h, q61q_l0_o, q61q_l0 N N⟩)]) true [(K_Si, false), (K_Si, false)] [.bool] Tryz.f131.results.toList (bodyOf Tryz.f131) d = F_q61q N d := by kernel_rfl
noncomputable def S_q61q : FSig := ⟨[(K_Si, false), (K_Si, false)], [.bool], true, (G_l4Less)⟩
noncomputable def Γ_q70q : Ctx := { tk := assoc tks, ar := assoc ars, fs := assoc [] }
abbrev q70q_l0_H := List Int × List Int × Int × Unit
abbrev q70q_l0_O := (Bool × Unit) ⊕ Unit ⊕ Empty
def q70q_l0_h : Form := [(0, .v K_Si), (1, .v K_Si), (5, .v I)]
def q70q_l0_o : Outs := [(.ret, [(4, .v .bool)]), (.normal, [])]
noncomputable def q70q_l0_r (N : Nat) (back : q70q_l0_H -> Option q70q_l0_O) (d : q70q_l0_H) : Option q70q_l0_O :=
 let s0 : List Int := d.1
 let s1 : List Int := d.2.1
 let s5 : Int := d.2.2.1
 if (decide (s5 < (List.length s0 : Int))) = true then
  if (idxIn s5 (List.length s0)) = true then
  if (idxIn s5 (List.length s1)) = true then
  if (at_ I s0 s5.toNat != at_ I s1 s5.toNat) = true then
   some (.inl (false, ()))
  else
   let x5 : Int := IntKind.wrap .i64 (s5 + (1 : Int))
   back ((s0, (s1, (x5, ()))))
  else none
  else none
 else
  some (.inr (.inl ()))
noncomputable def q70q_l0 (N : Nat) : Nat -> q70q_l0_H -> Option q70q_l0_O
 | 0, _ => none
 | k + 1, d => q70q_l0_r N (q70q_l0 N k) d
theorem q70q_l0_ok (N : Nat) (back) (d) : roundR Γ_q70q (assoc []) 0 q70q_l0_h q70q_l0_o (loopOf Tryz.f108 0) back d = q70q_l0_r N back d := by kernel_rfl
noncomputable def F_q70q (N : Nat) (d : List Int × List Int × Unit) : Option (Bool × Unit) :=
 let a0 : List Int := d.1
 let a1 : List Int := d.2.1
 if ((List.length a0 : Int) != (List.length a1 : Int)) = true then
  some (false, ())
 else
  (q70q_l0 N N ((a0, (a1, ((0 : Int), ()))))).bind fun o2 => match o2 with
  | .inl d3 =>
   some (d3.1, ())
  | .inr (.inl d4) =>
   some (true, ())
theorem F_q70q_ok (N : Nat) (d) : fnR Γ_q70q (assoc [(0, ⟨q70q_l0_h, q70q_l0_o, q70q_l0 N N⟩)]) true [(K_Si, false), (K_Si, false)] [.bool] Tryz.f108.results.toList (bodyOf Tryz.f108) d = F_q70q N d := by kernel_rfl
noncomputable def S_q70q : FSig := ⟨[(K_Si, false), (K_Si, false)], [.bool], true, (G_l1Same)⟩
noncomputable def Γ_spec_l4Put : Ctx := { tk := assoc tks, ar := assoc ars, fs := assoc [(108, S_q70q), (131, S_q61q)] }
abbrev spec_l4Put_l0_H := List (List Int) × List Int × Int × Unit
abbrev spec_l4Put_l0_O := (List (List Int) × List Int × Int × Unit) ⊕ Empty
def spec_l4Put_l0_h : Form := [(0, .v K_SSi), (1, .v K_Si), (5, .v I)]
def spec_l4Put_l0_o : Outs := [(.normal, [(0, .v K_SSi), (1, .v K_Si), (5, .v I)])]
noncomputable def spec_l4Put_l0_r (N : Nat) (back : spec_l4Put_l0_H -> Option spec_l4Put_l0_O) (d : spec_l4Put_l0_H) : Option spec_l4Put_l0_O :=
 let s0 : List (List Int) := d.1
 let s1 : List Int := d.2.1
 let s5 : Int := d.2.2.1
 if (decide (s5 < (List.length s0 : Int))) = true then
  if (idxIn s5 (List.length s0)) = true then
  (G_l4Less ((at_ K_Si s0 s5.toNat, (s1, ())))).bind fun r15 =>
  if (r15.1) = true then
   let x16 : Int := IntKind.wrap .i64 (s5 + (1 : Int))
   back ((s0, (s1, (x16, ()))))
  else
   some (.inl ((s0, (s1, (s5, ())))))
  else none
 else
  some (.inl ((s0, (s1, (s5, ())))))
noncomputable def spec_l4Put_l0 (N : Nat) : Nat -> spec_l4Put_l0_H -> Option spec_l4Put_l0_O
 | 0, _ => none
 | k + 1, d => spec_l4Put_l0_r N (spec_l4Put_l0 N k) d
theorem spec_l4Put_l0_ok (N : Nat) (back) (d) : roundR Γ_spec_l4Put (assoc []) 0 spec_l4Put_l0_h spec_l4Put_l0_o (loopOf Tryz.f117 0) back d = spec_l4Put_l0_r N back d := by kernel_rfl
noncomputable def F_spec_l4Put (N : Nat) (d : List (List Int) × List Int × Unit) : Option (List (List Int) × Unit) :=
 let a0 : List (List Int) := d.1
 let a1 : List Int := d.2.1
 (spec_l4Put_l0 N N ((a0, (a1, ((0 : Int), ()))))).bind fun o8 => match o8 with
 | .inl d9 =>
  if (decide (d9.2.2.1 < (List.length d9.1 : Int))) = true then
   if (idxIn d9.2.2.1 (List.length d9.1)) = true then
   (G_l1Same ((at_ K_Si d9.1 d9.2.2.1.toNat, (d9.2.1, ())))).bind fun r10 =>
   if (r10.1) = true then
    some (d9.1, ())
   else
    if ((decide (0 <= (0 : Int)) && decide ((0 : Int) <= d9.2.2.1) && decide (d9.2.2.1 <= (List.length d9.1 : Int)))) = true then
    if (decide (List.length ([] : List (List Int)) + List.length (sub_ d9.1 (0 : Int) d9.2.2.1) <= lim)) = true then
    let x11 : List (List Int) := ([] : List (List Int)) ++ (sub_ d9.1 (0 : Int) d9.2.2.1)
    if (decide (List.length x11 + List.length ([d9.2.1]) <= lim)) = true then
    if ((decide (0 <= d9.2.2.1) && decide (d9.2.2.1 <= (List.length d9.1 : Int)) && decide ((List.length d9.1 : Int) <= (List.length d9.1 : Int)))) = true then
    let x12 : List (List Int) := sub_ d9.1 d9.2.2.1 (List.length d9.1 : Int)
    if (decide (List.length (x11 ++ ([d9.2.1])) + List.length x12 <= lim)) = true then
    some (((x11 ++ ([d9.2.1])) ++ x12, ()))
    else none
    else none
    else none
    else none
    else none
   else none
  else
   if ((decide (0 <= (0 : Int)) && decide ((0 : Int) <= d9.2.2.1) && decide (d9.2.2.1 <= (List.length d9.1 : Int)))) = true then
   if (decide (List.length ([] : List (List Int)) + List.length (sub_ d9.1 (0 : Int) d9.2.2.1) <= lim)) = true then
   let x13 : List (List Int) := ([] : List (List Int)) ++ (sub_ d9.1 (0 : Int) d9.2.2.1)
   if (decide (List.length x13 + List.length ([d9.2.1]) <= lim)) = true then
   if ((decide (0 <= d9.2.2.1) && decide (d9.2.2.1 <= (List.length d9.1 : Int)) && decide ((List.length d9.1 : Int) <= (List.length d9.1 : Int)))) = true then
   let x14 : List (List Int) := sub_ d9.1 d9.2.2.1 (List.length d9.1 : Int)
   if (decide (List.length (x13 ++ ([d9.2.1])) + List.length x14 <= lim)) = true then
   some (((x13 ++ ([d9.2.1])) ++ x14, ()))
   else none
   else none
   else none
   else none
   else none
theorem F_spec_l4Put_ok (N : Nat) (d) : fnR Γ_spec_l4Put (assoc [(0, ⟨spec_l4Put_l0_h, spec_l4Put_l0_o, spec_l4Put_l0 N N⟩)]) false [(K_SSi, false), (K_Si, false)] [K_SSi] Tryz.f117.results.toList (bodyOf Tryz.f117) d = F_spec_l4Put N d := by kernel_rfl
noncomputable def S_spec_l4Put : FSig := ⟨[(K_SSi, false), (K_Si, false)], [K_SSi], false, (G_l4Put)⟩
noncomputable def Γ_q50q : Ctx := { tk := assoc tks, ar := assoc ars, fs := assoc [(56, S_q62q), (73, S_spec_l1Own), (117, S_spec_l4Put), (118, S_q33q)], dm := fun t => Nat.beq t 5 || Nat.beq t 11, cs := assoc [] }
abbrev q50q_l4_H := List Int × (Int × (List (Int × Int × Unit)) × Unit) × List (List Int) × Int × List (List Int) × List Int × Int × Int × Unit
abbrev q50q_l4_O := (List Int × (Int × (List (Int × Int × Unit)) × Unit) × List (List Int) × Int × List (List Int) × List Int × Int × Unit) ⊕ Empty
def q50q_l4_h : Form := [(1, .v K_Si), (2, .box K_PiSPiiqq 0), (5, .v K_SSi), (6, .v I), (7, .own K_SSi 100), (8, .v K_Si), (9, .v I), (10, .v I)]
def q50q_l4_o : Outs := [(.normal, [(1, .v K_Si), (2, .box K_PiSPiiqq 0), (5, .v K_SSi), (6, .v I), (7, .own K_SSi 100), (8, .v K_Si), (9, .v I)])]
noncomputable def q50q_l4_r (N : Nat) (back : q50q_l4_H -> Option q50q_l4_O) (d : q50q_l4_H) : Option q50q_l4_O :=
 let s1 : List Int := d.1
 let s2 : Int × (List (Int × Int × Unit)) × Unit := d.2.1
 let s5 : List (List Int) := d.2.2.1
 let s6 : Int := d.2.2.2.1
 let s7 : List (List Int) := d.2.2.2.2.1
 let s8 : List Int := d.2.2.2.2.2.1
 let s9 : Int := d.2.2.2.2.2.2.1
 let s10 : Int := d.2.2.2.2.2.2.2.1
 if (decide (s10 < (List.length s8 : Int))) = true then
  if (idxIn s9 (List.length s5)) = true then
  ((F_spec_l1Own 0) (at_ K_Si s5 s9.toNat, ())).bind fun r51 =>
  if (idxIn s10 (List.length s8)) = true then
  if (decide (List.length r51.1 + List.length ([at_ I s8 s10.toNat]) <= lim)) = true then
  let x52 : List Int := r51.1 ++ ([at_ I s8 s10.toNat])
  if (decide (List.length s7 + List.length ([x52]) <= lim)) = true then
  let x53 : Int := IntKind.wrap .i64 (s10 + (1 : Int))
  back ((s1, (s2, (s5, (s6, (s7 ++ ([x52]), (s8, (s9, (x53, ())))))))))
  else none
  else none
  else none
  else none
 else
  some (.inl ((s1, (s2, (s5, (s6, (s7, (s8, (s9, ())))))))))
noncomputable def q50q_l4 (N : Nat) : Nat -> q50q_l4_H -> Option q50q_l4_O
 | 0, _ => none
 | k + 1, d => q50q_l4_r N (q50q_l4 N k) d
theorem q50q_l4_ok (N : Nat) (back) (d) : roundR Γ_q50q (assoc []) 4 q50q_l4_h q50q_l4_o (loopOf Tryz.f83 4) back d = q50q_l4_r N back d := by kernel_rfl
abbrev q50q_l2_H := List Int × (Int × (List (Int × Int × Unit)) × Unit) × List (List Int) × Int × List (List Int) × List Int × Int × Unit
abbrev q50q_l2_O := (List Int × (Int × (List (Int × Int × Unit)) × Unit) × Int × List (List Int) × Unit) ⊕ Empty
def q50q_l2_h : Form := [(1, .v K_Si), (2, .box K_PiSPiiqq 0), (5, .v K_SSi), (6, .v I), (7, .own K_SSi 100), (8, .v K_Si), (9, .v I)]
def q50q_l2_o : Outs := [(.normal, [(1, .v K_Si), (2, .box K_PiSPiiqq 0), (6, .v I), (7, .own K_SSi 100)])]
noncomputable def q50q_l2_r (N : Nat) (back : q50q_l2_H -> Option q50q_l2_O) (d : q50q_l2_H) : Option q50q_l2_O :=
 let s1 : List Int := d.1
 let s2 : Int × (List (Int × Int × Unit)) × Unit := d.2.1
 let s5 : List (List Int) := d.2.2.1
 let s6 : Int := d.2.2.2.1
 let s7 : List (List Int) := d.2.2.2.2.1
 let s8 : List Int := d.2.2.2.2.2.1
 let s9 : Int := d.2.2.2.2.2.2.1
 if (decide (s9 < (List.length s5 : Int))) = true then
  (q50q_l4 N N ((s1, (s2, (s5, (s6, (s7, (s8, (s9, ((0 : Int), ())))))))))).bind fun o48 => match o48 with
  | .inl d49 =>
   let x50 : Int := IntKind.wrap .i64 (d49.2.2.2.2.2.2.1 + (1 : Int))
   back ((d49.1, (d49.2.1, (d49.2.2.1, (d49.2.2.2.1, (d49.2.2.2.2.1, (d49.2.2.2.2.2.1, (x50, ()))))))))
 else
  some (.inl ((s1, (s2, (s6, (s7, ()))))))
noncomputable def q50q_l2 (N : Nat) : Nat -> q50q_l2_H -> Option q50q_l2_O
 | 0, _ => none
 | k + 1, d => q50q_l2_r N (q50q_l2 N k) d
theorem q50q_l2_ok (N : Nat) (back) (d) : roundR Γ_q50q (assoc [(4, ⟨q50q_l4_h, q50q_l4_o, q50q_l4 N N⟩)]) 2 q50q_l2_h q50q_l2_o (loopOf Tryz.f83 2) back d = q50q_l2_r N back d := by kernel_rfl
abbrev q50q_l0_H := List Int × (Int × (List (Int × Int × Unit)) × Unit) × List (List Int) × Int × Unit
abbrev q50q_l0_O := (List (List Int) × Unit) ⊕ Empty
def q50q_l0_h : Form := [(1, .v K_Si), (2, .box K_PiSPiiqq 0), (5, .v K_SSi), (6, .v I)]
def q50q_l0_o : Outs := [(.normal, [(5, .v K_SSi)])]
noncomputable def q50q_l0_r (N : Nat) (back : q50q_l0_H -> Option q50q_l0_O) (d : q50q_l0_H) : Option q50q_l0_O :=
 let s1 : List Int := d.1
 let s2 : Int × (List (Int × Int × Unit)) × Unit := d.2.1
 let s5 : List (List Int) := d.2.2.1
 let s6 : Int := d.2.2.2.1
 if (decide (s6 < (List.length s1 : Int))) = true then
  if (idxIn s6 (List.length s1)) = true then
  ((F_q62q 0) ((s2, (at_ I s1 s6.toNat, ())))).bind fun r35 =>
  (q50q_l2 N N ((s1, (s2, (s5, (s6, (([] : List (List Int)), (r35.1, ((0 : Int), ()))))))))).bind fun o42 => match o42 with
  | .inl d43 =>
   let x44 : Int := IntKind.wrap .i64 (d43.2.2.1 + (1 : Int))
   back ((d43.1, (d43.2.1, (d43.2.2.2.1, (x44, ())))))
  else none
 else
  some (.inl (s5, ()))
noncomputable def q50q_l0 (N : Nat) : Nat -> q50q_l0_H -> Option q50q_l0_O
 | 0, _ => none
 | k + 1, d => q50q_l0_r N (q50q_l0 N k) d
theorem q50q_l0_ok (N : Nat) (back) (d) : roundR Γ_q50q (assoc [(2, ⟨q50q_l2_h, q50q_l2_o, q50q_l2 N N⟩)]) 0 q50q_l0_h q50q_l0_o (loopOf Tryz.f83 0) back d = q50q_l0_r N back d := by kernel_rfl
abbrev q50q_l6_H := List (List Int) × List (List Int) × Int × Unit
abbrev q50q_l6_O := (List (List Int) × Unit) ⊕ Empty
def q50q_l6_h : Form := [(5, .v K_SSi), (11, .v K_SSi), (12, .v I)]
def q50q_l6_o : Outs := [(.normal, [(11, .v K_SSi)])]
noncomputable def q50q_l6_r (N : Nat) (back : q50q_l6_H -> Option q50q_l6_O) (d : q50q_l6_H) : Option q50q_l6_O :=
 let s5 : List (List Int) := d.1
 let s11 : List (List Int) := d.2.1
 let s12 : Int := d.2.2.1
 if (decide (s12 < (List.length s5 : Int))) = true then
  if (idxIn s12 (List.length s5)) = true then
  (G_l4Sorted (at_ K_Si s5 s12.toNat, ())).bind fun r54 =>
  (G_l4Put ((s11, (r54.1, ())))).bind fun r55 =>
  let x56 : Int := IntKind.wrap .i64 (s12 + (1 : Int))
  back ((s5, (r55.1, (x56, ()))))
  else none
 else
  some (.inl (s11, ()))
noncomputable def q50q_l6 (N : Nat) : Nat -> q50q_l6_H -> Option q50q_l6_O
 | 0, _ => none
 | k + 1, d => q50q_l6_r N (q50q_l6 N k) d
theorem q50q_l6_ok (N : Nat) (back) (d) : roundR Γ_q50q (assoc []) 6 q50q_l6_h q50q_l6_o (loopOf Tryz.f83 6) back d = q50q_l6_r N back d := by kernel_rfl
noncomputable def F_q50q (N : Nat) (d : (Int × (List (Int × Int × Unit)) × Unit) × List Int × Unit) : Option (List (List Int) × Unit) :=
 let a0 : Int × (List (Int × Int × Unit)) × Unit := d.1
 let a1 : List Int := d.2.1
 (q50q_l0 N N ((a1, (a0, ([([] : List Int)], ((0 : Int), ())))))).bind fun o28 => match o28 with
 | .inl d29 =>
  (q50q_l6 N N ((d29.1, (([] : List (List Int)), ((0 : Int), ()))))).bind fun o33 => match o33 with
  | .inl d34 =>
   some (d34.1, ())
theorem F_q50q_ok (N : Nat) (d) : fnR Γ_q50q (assoc [(0, ⟨q50q_l0_h, q50q_l0_o, q50q_l0 N N⟩), (6, ⟨q50q_l6_h, q50q_l6_o, q50q_l6 N N⟩)]) false [(K_PiSPiiqq, false), (K_Si, false)] [K_SSi] Tryz.f83.results.toList (bodyOf Tryz.f83) d = F_q50q N d := by kernel_rfl
noncomputable def S_q50q : FSig := ⟨[(K_PiSPiiqq, false), (K_Si, false)], [K_SSi], false, (G_l4Moves)⟩
noncomputable def Γ_spec_l4At : Ctx := { tk := assoc tks, ar := assoc ars, fs := assoc [(108, S_q70q)] }
abbrev spec_l4At_l0_H := List (List Int) × List Int × Int × Unit
abbrev spec_l4At_l0_O := (Int × Unit) ⊕ Unit ⊕ Empty
def spec_l4At_l0_h : Form := [(0, .v K_SSi), (1, .v K_Si), (5, .v I)]
def spec_l4At_l0_o : Outs := [(.ret, [(4, .v I)]), (.normal, [])]
noncomputable def spec_l4At_l0_r (N : Nat) (back : spec_l4At_l0_H -> Option spec_l4At_l0_O) (d : spec_l4At_l0_H) : Option spec_l4At_l0_O :=
 let s0 : List (List Int) := d.1
 let s1 : List Int := d.2.1
 let s5 : Int := d.2.2.1
 if (decide (s5 < (List.length s0 : Int))) = true then
  if (idxIn s5 (List.length s0)) = true then
  (G_l1Same ((at_ K_Si s0 s5.toNat, (s1, ())))).bind fun r6 =>
  if (r6.1) = true then
   some (.inl (s5, ()))
  else
   let x7 : Int := IntKind.wrap .i64 (s5 + (1 : Int))
   back ((s0, (s1, (x7, ()))))
  else none
 else
  some (.inr (.inl ()))
noncomputable def spec_l4At_l0 (N : Nat) : Nat -> spec_l4At_l0_H -> Option spec_l4At_l0_O
 | 0, _ => none
 | k + 1, d => spec_l4At_l0_r N (spec_l4At_l0 N k) d
theorem spec_l4At_l0_ok (N : Nat) (back) (d) : roundR Γ_spec_l4At (assoc []) 0 spec_l4At_l0_h spec_l4At_l0_o (loopOf Tryz.f66 0) back d = spec_l4At_l0_r N back d := by kernel_rfl
noncomputable def F_spec_l4At (N : Nat) (d : List (List Int) × List Int × Unit) : Option (Int × Unit) :=
 let a0 : List (List Int) := d.1
 let a1 : List Int := d.2.1
 (spec_l4At_l0 N N ((a0, (a1, ((0 : Int), ()))))).bind fun o3 => match o3 with
 | .inl d4 =>
  some (d4.1, ())
 | .inr (.inl d5) =>
  some ((-1 : Int), ())
theorem F_spec_l4At_ok (N : Nat) (d) : fnR Γ_spec_l4At (assoc [(0, ⟨spec_l4At_l0_h, spec_l4At_l0_o, spec_l4At_l0 N N⟩)]) true [(K_SSi, false), (K_Si, false)] [I] Tryz.f66.results.toList (bodyOf Tryz.f66) d = F_spec_l4At N d := by kernel_rfl
noncomputable def S_spec_l4At : FSig := ⟨[(K_SSi, false), (K_Si, false)], [I], true, (G_l4At)⟩
noncomputable def Γ_q67q : Ctx := { tk := assoc tks, ar := assoc ars, fs := assoc [(56, S_q62q), (66, S_spec_l4At), (83, S_q50q), (102, S_q25q)], cs := assoc [], gs := assoc [], eqt := inL [], md := md0, ad := fun t => bif Nat.beq t 5 then 1 else 99 }
abbrev q67q_l2_H := (Int × (List (Int × Int × Unit)) × Unit) × (List (List Int) × List (List Int) × List (List Int) × Unit) × (List (List Int) × List (List Int) × List (List Int) × Unit) × Int × List (List Int) × List Int × Int × Unit
abbrev q67q_l2_O := ((Int × (List (Int × Int × Unit)) × Unit) × (List (List Int) × List (List Int) × List (List Int) × Unit) × (List (List Int) × List (List Int) × List (List Int) × Unit) × Int × List Int × Unit) ⊕ Empty
def q67q_l2_h : Form := [(2, .box K_PiSPiiqq 0), (4, .box K_PZSiSSiSSiq 99), (5, .box K_PZSiSSiSSiq 1), (6, .v I), (7, .v K_SSi), (8, .own K_Si 99), (9, .v I)]
def q67q_l2_o : Outs := [(.normal, [(2, .box K_PiSPiiqq 0), (4, .box K_PZSiSSiSSiq 99), (5, .box K_PZSiSSiSSiq 1), (6, .v I), (8, .own K_Si 99)])]
noncomputable def q67q_l2_r (N : Nat) (back : q67q_l2_H -> Option q67q_l2_O) (d : q67q_l2_H) : Option q67q_l2_O :=
 let s2 : Int × (List (Int × Int × Unit)) × Unit := d.1
 let s4 : List (List Int) × List (List Int) × List (List Int) × Unit := d.2.1
 let s5 : List (List Int) × List (List Int) × List (List Int) × Unit := d.2.2.1
 let s6 : Int := d.2.2.2.1
 let s7 : List (List Int) := d.2.2.2.2.1
 let s8 : List Int := d.2.2.2.2.2.1
 let s9 : Int := d.2.2.2.2.2.2.1
 if (decide (s9 < (List.length s7 : Int))) = true then
  if (idxIn s9 (List.length s7)) = true then
  (G_l4At ((s5.1, (at_ K_Si s7 s9.toNat, ())))).bind fun r36 =>
  if (decide (List.length s8 + List.length ([r36.1]) <= lim)) = true then
  let x37 : Int := IntKind.wrap .i64 (s9 + (1 : Int))
  back ((s2, (s4, (s5, (s6, (s7, (s8 ++ ([r36.1]), (x37, ()))))))))
  else none
  else none
 else
  some (.inl ((s2, (s4, (s5, (s6, (s8, ())))))))
noncomputable def q67q_l2 (N : Nat) : Nat -> q67q_l2_H -> Option q67q_l2_O
 | 0, _ => none
 | k + 1, d => q67q_l2_r N (q67q_l2 N k) d
theorem q67q_l2_ok (N : Nat) (back) (d) : roundR Γ_q67q (assoc []) 2 q67q_l2_h q67q_l2_o (loopOf Tryz.f61 2) back d = q67q_l2_r N back d := by kernel_rfl
abbrev q67q_l0_H := (Int × (List (Int × Int × Unit)) × Unit) × (List (List Int) × List (List Int) × List (List Int) × Unit) × (List (List Int) × List (List Int) × List (List Int) × Unit) × Int × Unit
abbrev q67q_l0_O := ((Int × (List (Int × Int × Unit)) × Unit) × (List (List Int) × List (List Int) × List (List Int) × Unit) × (List (List Int) × List (List Int) × List (List Int) × Unit) × Unit) ⊕ Empty
def q67q_l0_h : Form := [(2, .box K_PiSPiiqq 0), (4, .box K_PZSiSSiSSiq 99), (5, .box K_PZSiSSiSSiq 1), (6, .v I)]
def q67q_l0_o : Outs := [(.normal, [(2, .box K_PiSPiiqq 0), (4, .box K_PZSiSSiSSiq 99), (5, .box K_PZSiSSiSSiq 1)])]
noncomputable def q67q_l0_r (N : Nat) (back : q67q_l0_H -> Option q67q_l0_O) (d : q67q_l0_H) : Option q67q_l0_O :=
 let s2 : Int × (List (Int × Int × Unit)) × Unit := d.1
 let s4 : List (List Int) × List (List Int) × List (List Int) × Unit := d.2.1
 let s5 : List (List Int) × List (List Int) × List (List Int) × Unit := d.2.2.1
 let s6 : Int := d.2.2.2.1
 if (decide (s6 < (List.length s5.1 : Int))) = true then
  if (idxIn s6 (List.length s5.1)) = true then
  (G_l4Moves ((s2, (at_ K_Si s5.1 s6.toNat, ())))).bind fun r29 =>
  (q67q_l2 N N ((s2, (s4, (s5, (s6, (r29.1, (([] : List Int), ((0 : Int), ()))))))))).bind fun o32 => match o32 with
  | .inl d33 =>
   if (decide (List.length d33.2.2.1.2.1 + List.length ([d33.2.2.2.2.1]) <= lim)) = true then
   let x34 : List (List Int) := d33.2.2.1.2.1 ++ ([d33.2.2.2.2.1])
   let x35 : Int := IntKind.wrap .i64 (d33.2.2.2.1 + (1 : Int))
   back ((d33.1, (d33.2.1, ((d33.2.2.1.1, (x34, d33.2.2.1.2.2)), (x35, ())))))
   else none
  else none
 else
  some (.inl ((s2, (s4, (s5, ())))))
noncomputable def q67q_l0 (N : Nat) : Nat -> q67q_l0_H -> Option q67q_l0_O
 | 0, _ => none
 | k + 1, d => q67q_l0_r N (q67q_l0 N k) d
theorem q67q_l0_ok (N : Nat) (back) (d) : roundR Γ_q67q (assoc [(2, ⟨q67q_l2_h, q67q_l2_o, q67q_l2 N N⟩)]) 0 q67q_l0_h q67q_l0_o (loopOf Tryz.f61 0) back d = q67q_l0_r N back d := by kernel_rfl
abbrev q67q_l4_H := (Int × (List (Int × Int × Unit)) × Unit) × (List (List Int) × List (List Int) × List (List Int) × Unit) × (List (List Int) × List (List Int) × List (List Int) × Unit) × Int × Unit
abbrev q67q_l4_O := ((List (List Int) × List (List Int) × List (List Int) × Unit) × (List (List Int) × List (List Int) × List (List Int) × Unit) × Unit) ⊕ Empty
def q67q_l4_h : Form := [(2, .box K_PiSPiiqq 0), (4, .box K_PZSiSSiSSiq 99), (5, .box K_PZSiSSiSSiq 1), (10, .v I)]
def q67q_l4_o : Outs := [(.normal, [(4, .box K_PZSiSSiSSiq 99), (5, .box K_PZSiSSiSSiq 1)])]
noncomputable def q67q_l4_r (N : Nat) (back : q67q_l4_H -> Option q67q_l4_O) (d : q67q_l4_H) : Option q67q_l4_O :=
 let s2 : Int × (List (Int × Int × Unit)) × Unit := d.1
 let s4 : List (List Int) × List (List Int) × List (List Int) × Unit := d.2.1
 let s5 : List (List Int) × List (List Int) × List (List Int) × Unit := d.2.2.1
 let s10 : Int := d.2.2.2.1
 if (decide (s10 < s2.1)) = true then
  ((F_q62q 0) ((s2, (s10, ())))).bind fun r38 =>
  if (decide (List.length s5.2.2.1 + List.length ([r38.1]) <= lim)) = true then
  let x39 : Int := IntKind.wrap .i64 (s10 + (1 : Int))
  back ((s2, (s4, ((s5.1, (s5.2.1, (s5.2.2.1 ++ ([r38.1]), s5.2.2.2))), (x39, ())))))
  else none
 else
  some (.inl ((s4, (s5, ()))))
noncomputable def q67q_l4 (N : Nat) : Nat -> q67q_l4_H -> Option q67q_l4_O
 | 0, _ => none
 | k + 1, d => q67q_l4_r N (q67q_l4 N k) d
theorem q67q_l4_ok (N : Nat) (back) (d) : roundR Γ_q67q (assoc []) 4 q67q_l4_h q67q_l4_o (loopOf Tryz.f61 4) back d = q67q_l4_r N back d := by kernel_rfl
noncomputable def F_q67q (N : Nat) (d : (Int × (List (Int × Int × Unit)) × Unit) × Int × Unit) : Option ((List (List Int) × List (List Int) × List (List Int) × Unit) × Unit) :=
 let a0 : Int × (List (Int × Int × Unit)) × Unit := d.1
 let a1 : Int := d.2.1
 (G_configs ((a0.1, (a1, ())))).bind fun r15 =>
 (q67q_l0 N N ((a0, ((([] : List (List Int)), (([] : List (List Int)), (([] : List (List Int)), ()))), ((r15.1, (([] : List (List Int)), (([] : List (List Int)), ()))), ((0 : Int), ())))))).bind fun o23 => match o23 with
 | .inl d24 =>
  (q67q_l4 N N ((d24.1, (d24.2.1, (d24.2.2.1, ((0 : Int), ())))))).bind fun o27 => match o27 with
  | .inl d28 =>
   some (d28.2.1, ())
theorem F_q67q_ok (N : Nat) (d) : fnR Γ_q67q (assoc [(0, ⟨q67q_l0_h, q67q_l0_o, q67q_l0 N N⟩), (4, ⟨q67q_l4_h, q67q_l4_o, q67q_l4 N N⟩)]) false [(K_PiSPiiqq, false), (I, false)] [K_PZSiSSiSSiq] Tryz.f61.results.toList (bodyOf Tryz.f61) d = F_q67q N d := by kernel_rfl
noncomputable def S_q67q : FSig := ⟨[(K_PiSPiiqq, false), (I, false)], [K_PZSiSSiSSiq], false, (G_l4Make)⟩
noncomputable def Γ_q59q : Ctx := { tk := assoc tks, ar := assoc ars, fs := assoc [] }
noncomputable def F_q59q (N : Nat) (d : Int × Int × Unit) : Option (Int × Unit) :=
 let a0 : Int := d.1
 let a1 : Int := d.2.1
 if (decide (a0 > a1)) = true then
  some (a0, ())
 else
  some (a1, ())
theorem F_q59q_ok (N : Nat) (d) : fnR Γ_q59q (assoc []) true [(I, false), (I, false)] [I] Tryz.f114.results.toList (bodyOf Tryz.f114) d = F_q59q N d := by kernel_rfl
noncomputable def g_q59q (d : Int × Int × Unit) : Int × Unit :=
 let a0 : Int := d.1
 let a1 : Int := d.2.1
 if (decide (a0 > a1)) = true then
  (a0, ())
 else
  (a1, ())
theorem F_q59q_tot (N : Nat) (d) : F_q59q N d = some (g_q59q d) := by
 unfold F_q59q g_q59q
 first
  | rfl
  | (dsimp only; (repeat' split) <;> rfl)
noncomputable def S_q59q : FSig := ⟨[(I, false), (I, false)], [I], true, (fun d => some (g_q59q d))⟩
noncomputable def Γ_q52q : Ctx := { tk := assoc tks, ar := assoc ars, fs := assoc [(57, S_spec_l1Has), (114, S_q59q)] }
abbrev q52q_l0_H := List (List Int) × Int × Int × List Int × Int × Unit
abbrev q52q_l0_O := (Int × Unit) ⊕ (Int × Unit) ⊕ Empty
def q52q_l0_h : Form := [(1, .v K_SSi), (2, .v I), (9, .v I), (10, .v K_Si), (11, .v I)]
def q52q_l0_o : Outs := [(.ret, [(8, .v I)]), (.normal, [(9, .v I)])]
noncomputable def q52q_l0_r (N : Nat) (back : q52q_l0_H -> Option q52q_l0_O) (d : q52q_l0_H) : Option q52q_l0_O :=
 let s1 : List (List Int) := d.1
 let s2 : Int := d.2.1
 let s9 : Int := d.2.2.1
 let s10 : List Int := d.2.2.2.1
 let s11 : Int := d.2.2.2.2.1
 if (decide (s11 < (List.length s10 : Int))) = true then
  if (idxIn s2 (List.length s1)) = true then
  if (idxIn s11 (List.length s10)) = true then
  if (idxIn (at_ I s10 s11.toNat) (List.length (at_ K_Si s1 s2.toNat))) = true then
  if (decide (at_ I (at_ K_Si s1 s2.toNat) (at_ I s10 s11.toNat).toNat < (0 : Int))) = true then
   some (.inl ((-1 : Int), ()))
  else
   if (idxIn s2 (List.length s1)) = true then
   if (idxIn s11 (List.length s10)) = true then
   if (idxIn (at_ I s10 s11.toNat) (List.length (at_ K_Si s1 s2.toNat))) = true then
   let r7 : Int × Unit := g_q59q ((s9, (at_ I (at_ K_Si s1 s2.toNat) (at_ I s10 s11.toNat).toNat, ())))
   let x8 : Int := IntKind.wrap .i64 (s11 + (1 : Int))
   back ((s1, (s2, (r7.1, (s10, (x8, ()))))))
   else none
   else none
   else none
  else none
  else none
  else none
 else
  some (.inr (.inl (s9, ())))
noncomputable def q52q_l0 (N : Nat) : Nat -> q52q_l0_H -> Option q52q_l0_O
 | 0, _ => none
 | k + 1, d => q52q_l0_r N (q52q_l0 N k) d
theorem q52q_l0_ok (N : Nat) (back) (d) : roundR Γ_q52q (assoc []) 0 q52q_l0_h q52q_l0_o (loopOf Tryz.f101 0) back d = q52q_l0_r N back d := by kernel_rfl
noncomputable def F_q52q (N : Nat) (d : (List (List Int) × List (List Int) × List (List Int) × Unit) × List (List Int) × Int × Int × Unit) : Option (Int × Unit) :=
 let a0 : List (List Int) × List (List Int) × List (List Int) × Unit := d.1
 let a1 : List (List Int) := d.2.1
 let a2 : Int := d.2.2.1
 let a3 : Int := d.2.2.2.1
 if (idxIn a2 (List.length a0.1)) = true then
 (G_l1Has ((at_ K_Si a0.1 a2.toNat, (a3, ())))).bind fun r1 =>
 if (r1.1) = true then
  some ((0 : Int), ())
 else
  if (idxIn a3 (List.length a0.2.2.1)) = true then
  (q52q_l0 N N ((a1, (a2, ((0 : Int), (at_ K_Si a0.2.2.1 a3.toNat, ((0 : Int), ()))))))).bind fun o4 => match o4 with
  | .inl d5 =>
   some (d5.1, ())
  | .inr (.inl d6) =>
   some (d6.1, ())
  else none
 else none
theorem F_q52q_ok (N : Nat) (d) : fnR Γ_q52q (assoc [(0, ⟨q52q_l0_h, q52q_l0_o, q52q_l0 N N⟩)]) true [(K_PZSiSSiSSiq, false), (K_SSi, false), (I, false), (I, false)] [I] Tryz.f101.results.toList (bodyOf Tryz.f101) d = F_q52q N d := by kernel_rfl
noncomputable def S_q52q : FSig := ⟨[(K_PZSiSSiSSiq, false), (K_SSi, false), (I, false), (I, false)], [I], true, (G_l4After)⟩
noncomputable def Γ_q53q : Ctx := { tk := assoc tks, ar := assoc ars, fs := assoc [(57, S_spec_l1Has), (73, S_spec_l1Own), (101, S_q52q)] }
abbrev q53q_l2_H := (List (List Int) × List (List Int) × List (List Int) × Unit) × List (List Int) × Int × List Int × Int × Unit
abbrev q53q_l2_O := ((List (List Int) × List (List Int) × List (List Int) × Unit) × List (List Int) × Int × List Int × Unit) ⊕ Empty
def q53q_l2_h : Form := [(1, .box K_PZSiSSiSSiq 0), (3, .own K_SSi 100), (4, .v I), (5, .own K_Si 99), (6, .v I)]
def q53q_l2_o : Outs := [(.normal, [(1, .box K_PZSiSSiSSiq 0), (3, .own K_SSi 100), (4, .v I), (5, .own K_Si 99)])]
noncomputable def q53q_l2_r (N : Nat) (back : q53q_l2_H -> Option q53q_l2_O) (d : q53q_l2_H) : Option q53q_l2_O :=
 let s1 : List (List Int) × List (List Int) × List (List Int) × Unit := d.1
 let s3 : List (List Int) := d.2.1
 let s4 : Int := d.2.2.1
 let s5 : List Int := d.2.2.2.1
 let s6 : Int := d.2.2.2.2.1
 if (decide (s6 < (List.length s1.2.2.1 : Int))) = true then
  if (idxIn s4 (List.length s1.1)) = true then
  (G_l1Has ((at_ K_Si s1.1 s4.toNat, (s6, ())))).bind fun r31 =>
  if (r31.1) = true then
   if (decide (List.length s5 + List.length ([(0 : Int)]) <= lim)) = true then
   let x32 : Int := IntKind.wrap .i64 (s6 + (1 : Int))
   back ((s1, (s3, (s4, (s5 ++ ([(0 : Int)]), (x32, ()))))))
   else none
  else
   if (decide (List.length s5 + List.length ([(-1 : Int)]) <= lim)) = true then
   let x33 : Int := IntKind.wrap .i64 (s6 + (1 : Int))
   back ((s1, (s3, (s4, (s5 ++ ([(-1 : Int)]), (x33, ()))))))
   else none
  else none
 else
  some (.inl ((s1, (s3, (s4, (s5, ()))))))
noncomputable def q53q_l2 (N : Nat) : Nat -> q53q_l2_H -> Option q53q_l2_O
 | 0, _ => none
 | k + 1, d => q53q_l2_r N (q53q_l2 N k) d
theorem q53q_l2_ok (N : Nat) (back) (d) : roundR Γ_q53q (assoc []) 2 q53q_l2_h q53q_l2_o (loopOf Tryz.f60 2) back d = q53q_l2_r N back d := by kernel_rfl
abbrev q53q_l0_H := (List (List Int) × List (List Int) × List (List Int) × Unit) × List (List Int) × Int × Unit
abbrev q53q_l0_O := ((List (List Int) × List (List Int) × List (List Int) × Unit) × List (List Int) × Unit) ⊕ Empty
def q53q_l0_h : Form := [(1, .box K_PZSiSSiSSiq 0), (3, .own K_SSi 100), (4, .v I)]
def q53q_l0_o : Outs := [(.normal, [(1, .box K_PZSiSSiSSiq 0), (3, .own K_SSi 100)])]
noncomputable def q53q_l0_r (N : Nat) (back : q53q_l0_H -> Option q53q_l0_O) (d : q53q_l0_H) : Option q53q_l0_O :=
 let s1 : List (List Int) × List (List Int) × List (List Int) × Unit := d.1
 let s3 : List (List Int) := d.2.1
 let s4 : Int := d.2.2.1
 if (decide (s4 < (List.length s1.1 : Int))) = true then
  (q53q_l2 N N ((s1, (s3, (s4, (([] : List Int), ((0 : Int), ()))))))).bind fun o28 => match o28 with
  | .inl d29 =>
   if (decide (List.length d29.2.1 + List.length ([d29.2.2.2.1]) <= lim)) = true then
   let x30 : Int := IntKind.wrap .i64 (d29.2.2.1 + (1 : Int))
   back ((d29.1, (d29.2.1 ++ ([d29.2.2.2.1]), (x30, ()))))
   else none
 else
  some (.inl ((s1, (s3, ()))))
noncomputable def q53q_l0 (N : Nat) : Nat -> q53q_l0_H -> Option q53q_l0_O
 | 0, _ => none
 | k + 1, d => q53q_l0_r N (q53q_l0 N k) d
theorem q53q_l0_ok (N : Nat) (back) (d) : roundR Γ_q53q (assoc [(2, ⟨q53q_l2_h, q53q_l2_o, q53q_l2 N N⟩)]) 0 q53q_l0_h q53q_l0_o (loopOf Tryz.f60 0) back d = q53q_l0_r N back d := by kernel_rfl
abbrev q53q_l10_H := (List (List Int) × List (List Int) × List (List Int) × Unit) × List (List Int) × Int × List (List Int) × Bool × Int × List Int × Int × Int × Unit
abbrev q53q_l10_O := ((List (List Int) × List (List Int) × List (List Int) × Unit) × List (List Int) × Int × List (List Int) × Bool × Int × List Int × Int × Unit) ⊕ Empty
def q53q_l10_h : Form := [(1, .box K_PZSiSSiSSiq 0), (3, .own K_SSi 100), (7, .v I), (8, .own K_SSi 100), (9, .v .bool), (10, .v I), (11, .own K_Si 99), (12, .v I), (13, .v I)]
def q53q_l10_o : Outs := [(.normal, [(1, .box K_PZSiSSiSSiq 0), (3, .own K_SSi 100), (7, .v I), (8, .own K_SSi 100), (9, .v .bool), (10, .v I), (11, .own K_Si 99), (12, .v I)])]
noncomputable def q53q_l10_r (N : Nat) (back : q53q_l10_H -> Option q53q_l10_O) (d : q53q_l10_H) : Option q53q_l10_O :=
 let s1 : List (List Int) × List (List Int) × List (List Int) × Unit := d.1
 let s3 : List (List Int) := d.2.1
 let s7 : Int := d.2.2.1
 let s8 : List (List Int) := d.2.2.2.1
 let s9 : Bool := d.2.2.2.2.1
 let s10 : Int := d.2.2.2.2.2.1
 let s11 : List Int := d.2.2.2.2.2.2.1
 let s12 : Int := d.2.2.2.2.2.2.2.1
 let s13 : Int := d.2.2.2.2.2.2.2.2.1
 if (idxIn s10 (List.length s1.2.1)) = true then
 if (decide (s13 < (List.length (at_ K_Si s1.2.1 s10.toNat) : Int))) = true then
  if (idxIn s12 (List.length s11)) = true then
  if (decide (at_ I s11 s12.toNat < (0 : Int))) = true then
   if (idxIn s10 (List.length s1.2.1)) = true then
   if (idxIn s13 (List.length (at_ K_Si s1.2.1 s10.toNat))) = true then
   (G_l4After ((s1, (s3, (at_ I (at_ K_Si s1.2.1 s10.toNat) s13.toNat, (s12, ())))))).bind fun r65 =>
   if (decide (r65.1 >= (0 : Int))) = true then
    if (idxIn s12 (List.length s11)) = true then
    let x66 : Int := IntKind.wrap .i64 (s13 + (1 : Int))
    back ((s1, (s3, (s7, (s8, (true, (s10, (List.set s11 s12.toNat s7, (s12, (x66, ()))))))))))
    else none
   else
    let x67 : Int := IntKind.wrap .i64 (s13 + (1 : Int))
    back ((s1, (s3, (s7, (s8, (s9, (s10, (s11, (s12, (x67, ()))))))))))
   else none
   else none
  else
   some (.inl ((s1, (s3, (s7, (s8, (s9, (s10, (s11, (s12, ()))))))))))
  else none
 else
  some (.inl ((s1, (s3, (s7, (s8, (s9, (s10, (s11, (s12, ()))))))))))
 else none
noncomputable def q53q_l10 (N : Nat) : Nat -> q53q_l10_H -> Option q53q_l10_O
 | 0, _ => none
 | k + 1, d => q53q_l10_r N (q53q_l10 N k) d
theorem q53q_l10_ok (N : Nat) (back) (d) : roundR Γ_q53q (assoc []) 10 q53q_l10_h q53q_l10_o (loopOf Tryz.f60 10) back d = q53q_l10_r N back d := by kernel_rfl
abbrev q53q_l8_H := (List (List Int) × List (List Int) × List (List Int) × Unit) × List (List Int) × Int × List (List Int) × Bool × Int × List Int × Int × Unit
abbrev q53q_l8_O := ((List (List Int) × List (List Int) × List (List Int) × Unit) × List (List Int) × Int × List (List Int) × Bool × Int × List Int × Unit) ⊕ Empty
def q53q_l8_h : Form := [(1, .box K_PZSiSSiSSiq 0), (3, .own K_SSi 100), (7, .v I), (8, .own K_SSi 100), (9, .v .bool), (10, .v I), (11, .own K_Si 99), (12, .v I)]
def q53q_l8_o : Outs := [(.normal, [(1, .box K_PZSiSSiSSiq 0), (3, .own K_SSi 100), (7, .v I), (8, .own K_SSi 100), (9, .v .bool), (10, .v I), (11, .own K_Si 99)])]
noncomputable def q53q_l8_r (N : Nat) (back : q53q_l8_H -> Option q53q_l8_O) (d : q53q_l8_H) : Option q53q_l8_O :=
 let s1 : List (List Int) × List (List Int) × List (List Int) × Unit := d.1
 let s3 : List (List Int) := d.2.1
 let s7 : Int := d.2.2.1
 let s8 : List (List Int) := d.2.2.2.1
 let s9 : Bool := d.2.2.2.2.1
 let s10 : Int := d.2.2.2.2.2.1
 let s11 : List Int := d.2.2.2.2.2.2.1
 let s12 : Int := d.2.2.2.2.2.2.2.1
 if (decide (s12 < (List.length s11 : Int))) = true then
  (q53q_l10 N N ((s1, (s3, (s7, (s8, (s9, (s10, (s11, (s12, ((0 : Int), ()))))))))))).bind fun o62 => match o62 with
  | .inl d63 =>
   let x64 : Int := IntKind.wrap .i64 (d63.2.2.2.2.2.2.2.1 + (1 : Int))
   back ((d63.1, (d63.2.1, (d63.2.2.1, (d63.2.2.2.1, (d63.2.2.2.2.1, (d63.2.2.2.2.2.1, (d63.2.2.2.2.2.2.1, (x64, ())))))))))
 else
  some (.inl ((s1, (s3, (s7, (s8, (s9, (s10, (s11, ())))))))))
noncomputable def q53q_l8 (N : Nat) : Nat -> q53q_l8_H -> Option q53q_l8_O
 | 0, _ => none
 | k + 1, d => q53q_l8_r N (q53q_l8 N k) d
theorem q53q_l8_ok (N : Nat) (back) (d) : roundR Γ_q53q (assoc [(10, ⟨q53q_l10_h, q53q_l10_o, q53q_l10 N N⟩)]) 8 q53q_l8_h q53q_l8_o (loopOf Tryz.f60 8) back d = q53q_l8_r N back d := by kernel_rfl
abbrev q53q_l6_H := (List (List Int) × List (List Int) × List (List Int) × Unit) × List (List Int) × Int × List (List Int) × Bool × Int × Unit
abbrev q53q_l6_O := ((List (List Int) × List (List Int) × List (List Int) × Unit) × Int × List (List Int) × Bool × Unit) ⊕ Empty
def q53q_l6_h : Form := [(1, .box K_PZSiSSiSSiq 0), (3, .own K_SSi 100), (7, .v I), (8, .own K_SSi 100), (9, .v .bool), (10, .v I)]
def q53q_l6_o : Outs := [(.normal, [(1, .box K_PZSiSSiSSiq 0), (7, .v I), (8, .own K_SSi 100), (9, .v .bool)])]
noncomputable def q53q_l6_r (N : Nat) (back : q53q_l6_H -> Option q53q_l6_O) (d : q53q_l6_H) : Option q53q_l6_O :=
 let s1 : List (List Int) × List (List Int) × List (List Int) × Unit := d.1
 let s3 : List (List Int) := d.2.1
 let s7 : Int := d.2.2.1
 let s8 : List (List Int) := d.2.2.2.1
 let s9 : Bool := d.2.2.2.2.1
 let s10 : Int := d.2.2.2.2.2.1
 if (decide (s10 < (List.length s3 : Int))) = true then
  if (idxIn s10 (List.length s3)) = true then
  ((F_spec_l1Own 0) (at_ K_Si s3 s10.toNat, ())).bind fun r48 =>
  (q53q_l8 N N ((s1, (s3, (s7, (s8, (s9, (s10, (r48.1, ((0 : Int), ())))))))))).bind fun o55 => match o55 with
  | .inl d56 =>
   if (decide (List.length d56.2.2.2.1 + List.length ([d56.2.2.2.2.2.2.1]) <= lim)) = true then
   let x57 : List (List Int) := d56.2.2.2.1 ++ ([d56.2.2.2.2.2.2.1])
   let x58 : Int := IntKind.wrap .i64 (d56.2.2.2.2.2.1 + (1 : Int))
   back ((d56.1, (d56.2.1, (d56.2.2.1, (x57, (d56.2.2.2.2.1, (x58, ())))))))
   else none
  else none
 else
  some (.inl ((s1, (s7, (s8, (s9, ()))))))
noncomputable def q53q_l6 (N : Nat) : Nat -> q53q_l6_H -> Option q53q_l6_O
 | 0, _ => none
 | k + 1, d => q53q_l6_r N (q53q_l6 N k) d
theorem q53q_l6_ok (N : Nat) (back) (d) : roundR Γ_q53q (assoc [(8, ⟨q53q_l8_h, q53q_l8_o, q53q_l8 N N⟩)]) 6 q53q_l6_h q53q_l6_o (loopOf Tryz.f60 6) back d = q53q_l6_r N back d := by kernel_rfl
abbrev q53q_l4_H := (List (List Int) × List (List Int) × List (List Int) × Unit) × List (List Int) × Int × Unit
abbrev q53q_l4_O := (List (List Int) × Unit) ⊕ Empty
def q53q_l4_h : Form := [(1, .box K_PZSiSSiSSiq 0), (3, .own K_SSi 100), (7, .v I)]
def q53q_l4_o : Outs := [(.ret, [(2, .own K_SSi 100)])]
noncomputable def q53q_l4_r (N : Nat) (back : q53q_l4_H -> Option q53q_l4_O) (d : q53q_l4_H) : Option q53q_l4_O :=
 let s1 : List (List Int) × List (List Int) × List (List Int) × Unit := d.1
 let s3 : List (List Int) := d.2.1
 let s7 : Int := d.2.2.1
 (q53q_l6 N N ((s1, (s3, (s7, (([] : List (List Int)), (false, ((0 : Int), ())))))))).bind fun o45 => match o45 with
 | .inl d46 =>
  if (!d46.2.2.2.1) = true then
   some (.inl (d46.2.2.1, ()))
  else
   let x47 : Int := IntKind.wrap .i64 (d46.2.1 + (1 : Int))
   back ((d46.1, (d46.2.2.1, (x47, ()))))
noncomputable def q53q_l4 (N : Nat) : Nat -> q53q_l4_H -> Option q53q_l4_O
 | 0, _ => none
 | k + 1, d => q53q_l4_r N (q53q_l4 N k) d
theorem q53q_l4_ok (N : Nat) (back) (d) : roundR Γ_q53q (assoc [(6, ⟨q53q_l6_h, q53q_l6_o, q53q_l6 N N⟩)]) 4 q53q_l4_h q53q_l4_o (loopOf Tryz.f60 4) back d = q53q_l4_r N back d := by kernel_rfl
noncomputable def F_q53q (N : Nat) (d : (List (List Int) × List (List Int) × List (List Int) × Unit) × Unit) : Option (List (List Int) × Unit) :=
 let a0 : List (List Int) × List (List Int) × List (List Int) × Unit := d.1
 (q53q_l0 N N ((a0, (([] : List (List Int)), ((0 : Int), ()))))).bind fun o7 => match o7 with
 | .inl d8 =>
  (q53q_l4 N N ((d8.1, (d8.2.1, ((1 : Int), ()))))).bind fun o23 => match o23 with
  | .inl d24 =>
   some (d24.1, ())
theorem F_q53q_ok (N : Nat) (d) : fnR Γ_q53q (assoc [(0, ⟨q53q_l0_h, q53q_l0_o, q53q_l0 N N⟩), (4, ⟨q53q_l4_h, q53q_l4_o, q53q_l4 N N⟩)]) true [(K_PZSiSSiSSiq, false)] [K_SSi] Tryz.f60.results.toList (bodyOf Tryz.f60) d = F_q53q N d := by kernel_rfl
noncomputable def S_q53q : FSig := ⟨[(K_PZSiSSiSSiq, false)], [K_SSi], true, (G_l4Times)⟩
noncomputable def Γ_q68q : Ctx := { tk := assoc tks, ar := assoc ars, fs := assoc [(101, S_q52q)] }
abbrev q68q_l0_H := List (List Int) × Int × Int × (List (List Int) × List (List Int) × List (List Int) × Unit) × Int × Int × Int × Unit
abbrev q68q_l0_O := (Int × Unit) ⊕ Empty
def q68q_l0_h : Form := [(1, .v K_SSi), (2, .v I), (3, .v I), (4, .box K_PZSiSSiSSiq 0), (9, .v I), (10, .v I), (11, .v I)]
def q68q_l0_o : Outs := [(.normal, [(9, .v I)])]
noncomputable def q68q_l0_r (N : Nat) (back : q68q_l0_H -> Option q68q_l0_O) (d : q68q_l0_H) : Option q68q_l0_O :=
 let s1 : List (List Int) := d.1
 let s2 : Int := d.2.1
 let s3 : Int := d.2.2.1
 let s4 : List (List Int) × List (List Int) × List (List Int) × Unit := d.2.2.2.1
 let s9 : Int := d.2.2.2.2.1
 let s10 : Int := d.2.2.2.2.2.1
 let s11 : Int := d.2.2.2.2.2.2.1
 if (idxIn s2 (List.length s4.2.1)) = true then
 if (decide (s11 < (List.length (at_ K_Si s4.2.1 s2.toNat) : Int))) = true then
  if (idxIn s2 (List.length s4.2.1)) = true then
  if (idxIn s11 (List.length (at_ K_Si s4.2.1 s2.toNat))) = true then
  (G_l4After ((s4, (s1, (at_ I (at_ K_Si s4.2.1 s2.toNat) s11.toNat, (s3, ())))))).bind fun r8 =>
  if (decide (r8.1 >= (0 : Int))) = true then
   if (decide (s9 < (0 : Int))) = true then
    if (idxIn s2 (List.length s4.2.1)) = true then
    if (idxIn s11 (List.length (at_ K_Si s4.2.1 s2.toNat))) = true then
    let x9 : Int := IntKind.wrap .i64 (s11 + (1 : Int))
    back ((s1, (s2, (s3, (s4, (at_ I (at_ K_Si s4.2.1 s2.toNat) s11.toNat, (r8.1, (x9, ()))))))))
    else none
    else none
   else
    if (decide (r8.1 < s10)) = true then
     if (idxIn s2 (List.length s4.2.1)) = true then
     if (idxIn s11 (List.length (at_ K_Si s4.2.1 s2.toNat))) = true then
     let x10 : Int := IntKind.wrap .i64 (s11 + (1 : Int))
     back ((s1, (s2, (s3, (s4, (at_ I (at_ K_Si s4.2.1 s2.toNat) s11.toNat, (r8.1, (x10, ()))))))))
     else none
     else none
    else
     let x11 : Int := IntKind.wrap .i64 (s11 + (1 : Int))
     back ((s1, (s2, (s3, (s4, (s9, (s10, (x11, ()))))))))
  else
   let x12 : Int := IntKind.wrap .i64 (s11 + (1 : Int))
   back ((s1, (s2, (s3, (s4, (s9, (s10, (x12, ()))))))))
  else none
  else none
 else
  some (.inl (s9, ()))
 else none
noncomputable def q68q_l0 (N : Nat) : Nat -> q68q_l0_H -> Option q68q_l0_O
 | 0, _ => none
 | k + 1, d => q68q_l0_r N (q68q_l0 N k) d
theorem q68q_l0_ok (N : Nat) (back) (d) : roundR Γ_q68q (assoc []) 0 q68q_l0_h q68q_l0_o (loopOf Tryz.f79 0) back d = q68q_l0_r N back d := by kernel_rfl
noncomputable def F_q68q (N : Nat) (d : (List (List Int) × List (List Int) × List (List Int) × Unit) × List (List Int) × Int × Int × Unit) : Option (Int × Unit) :=
 let a0 : List (List Int) × List (List Int) × List (List Int) × Unit := d.1
 let a1 : List (List Int) := d.2.1
 let a2 : Int := d.2.2.1
 let a3 : Int := d.2.2.2.1
 (q68q_l0 N N ((a1, (a2, (a3, (a0, ((-1 : Int), ((-1 : Int), ((0 : Int), ()))))))))).bind fun o6 => match o6 with
 | .inl d7 =>
  some (d7.1, ())
theorem F_q68q_ok (N : Nat) (d) : fnR Γ_q68q (assoc [(0, ⟨q68q_l0_h, q68q_l0_o, q68q_l0 N N⟩)]) true [(K_PZSiSSiSSiq, false), (K_SSi, false), (I, false), (I, false)] [I] Tryz.f79.results.toList (bodyOf Tryz.f79) d = F_q68q N d := by kernel_rfl
noncomputable def S_q68q : FSig := ⟨[(K_PZSiSSiSSiq, false), (K_SSi, false), (I, false), (I, false)], [I], true, (G_l4Best)⟩
noncomputable def Γ_q71q : Ctx := { tk := assoc tks, ar := assoc ars, fs := assoc [] }
abbrev q71q_l0_H := List (List Int) × Int × List Int × Int × Int × Unit
abbrev q71q_l0_O := (Int × Unit) ⊕ Empty
def q71q_l0_h : Form := [(1, .v K_SSi), (2, .v I), (9, .v K_Si), (10, .v I), (11, .v I)]
def q71q_l0_o : Outs := [(.normal, [(10, .v I)])]
noncomputable def q71q_l0_r (N : Nat) (back : q71q_l0_H -> Option q71q_l0_O) (d : q71q_l0_H) : Option q71q_l0_O :=
 let s1 : List (List Int) := d.1
 let s2 : Int := d.2.1
 let s9 : List Int := d.2.2.1
 let s10 : Int := d.2.2.2.1
 let s11 : Int := d.2.2.2.2.1
 if (decide (s11 < (List.length s9 : Int))) = true then
  if (idxIn s2 (List.length s1)) = true then
  if (idxIn s11 (List.length s9)) = true then
  if (idxIn (at_ I s9 s11.toNat) (List.length (at_ K_Si s1 s2.toNat))) = true then
  if (idxIn s2 (List.length s1)) = true then
  if (idxIn s10 (List.length (at_ K_Si s1 s2.toNat))) = true then
  if (decide (at_ I (at_ K_Si s1 s2.toNat) s10.toNat >= (0 : Int))) = true then
   if (decide (at_ I (at_ K_Si s1 s2.toNat) (at_ I s9 s11.toNat).toNat < (0 : Int))) = true then
    if (idxIn s11 (List.length s9)) = true then
    let x7 : Int := IntKind.wrap .i64 (s11 + (1 : Int))
    back ((s1, (s2, (s9, (at_ I s9 s11.toNat, (x7, ()))))))
    else none
   else
    if (decide (at_ I (at_ K_Si s1 s2.toNat) (at_ I s9 s11.toNat).toNat > at_ I (at_ K_Si s1 s2.toNat) s10.toNat)) = true then
     if (idxIn s11 (List.length s9)) = true then
     let x8 : Int := IntKind.wrap .i64 (s11 + (1 : Int))
     back ((s1, (s2, (s9, (at_ I s9 s11.toNat, (x8, ()))))))
     else none
    else
     let x9 : Int := IntKind.wrap .i64 (s11 + (1 : Int))
     back ((s1, (s2, (s9, (s10, (x9, ()))))))
  else
   let x10 : Int := IntKind.wrap .i64 (s11 + (1 : Int))
   back ((s1, (s2, (s9, (s10, (x10, ()))))))
  else none
  else none
  else none
  else none
  else none
 else
  some (.inl (s10, ()))
noncomputable def q71q_l0 (N : Nat) : Nat -> q71q_l0_H -> Option q71q_l0_O
 | 0, _ => none
 | k + 1, d => q71q_l0_r N (q71q_l0 N k) d
theorem q71q_l0_ok (N : Nat) (back) (d) : roundR Γ_q71q (assoc []) 0 q71q_l0_h q71q_l0_o (loopOf Tryz.f65 0) back d = q71q_l0_r N back d := by kernel_rfl
noncomputable def F_q71q (N : Nat) (d : (List (List Int) × List (List Int) × List (List Int) × Unit) × List (List Int) × Int × Int × Unit) : Option (Int × Unit) :=
 let a0 : List (List Int) × List (List Int) × List (List Int) × Unit := d.1
 let a1 : List (List Int) := d.2.1
 let a2 : Int := d.2.2.1
 let a3 : Int := d.2.2.2.1
 if (idxIn a3 (List.length a0.2.2.1)) = true then
 if (idxIn (0 : Int) (List.length (at_ K_Si a0.2.2.1 a3.toNat))) = true then
 (q71q_l0 N N ((a1, (a2, (at_ K_Si a0.2.2.1 a3.toNat, (at_ I (at_ K_Si a0.2.2.1 a3.toNat) (0 : Int).toNat, ((1 : Int), ()))))))).bind fun o5 => match o5 with
 | .inl d6 =>
  some (d6.1, ())
 else none
 else none
theorem F_q71q_ok (N : Nat) (d) : fnR Γ_q71q (assoc [(0, ⟨q71q_l0_h, q71q_l0_o, q71q_l0 N N⟩)]) true [(K_PZSiSSiSSiq, false), (K_SSi, false), (I, false), (I, false)] [I] Tryz.f65.results.toList (bodyOf Tryz.f65) d = F_q71q N d := by kernel_rfl
noncomputable def S_q71q : FSig := ⟨[(K_PZSiSSiSSiq, false), (K_SSi, false), (I, false), (I, false)], [I], true, (G_l4Flee)⟩
noncomputable def Γ_q41q : Ctx := { tk := assoc tks, ar := assoc ars, fs := assoc [(57, S_spec_l1Has), (60, S_q53q), (61, S_q67q), (64, S_q57q), (65, S_q71q), (66, S_spec_l4At), (73, S_spec_l1Own), (77, S_spec_l1In), (79, S_q68q)] }
abbrev q41q_l0_H := Int × Int × List (List Int) × List Int × (List (List Int) × List (List Int) × List (List Int) × Unit) × List (List Int) × Int × Int × Unit
abbrev q41q_l0_O := (List (List Int) × List Int × Bool × Unit) ⊕ (List (List Int) × List Int × Unit) ⊕ Empty
def q41q_l0_h : Form := [(2, .v I), (3, .v I), (11, .own K_SSi 100), (12, .own K_Si 99), (13, .box K_PZSiSSiSSiq 0), (14, .own K_SSi 99), (15, .v I), (16, .v I)]
def q41q_l0_o : Outs := [(.ret, [(8, .own K_SSi 100), (9, .own K_Si 99), (10, .v .bool)]), (.normal, [(11, .own K_SSi 100), (12, .own K_Si 99)])]
noncomputable def q41q_l0_r (N : Nat) (back : q41q_l0_H -> Option q41q_l0_O) (d : q41q_l0_H) : Option q41q_l0_O :=
 let s2 : Int := d.1
 let s3 : Int := d.2.1
 let s11 : List (List Int) := d.2.2.1
 let s12 : List Int := d.2.2.2.1
 let s13 : List (List Int) × List (List Int) × List (List Int) × Unit := d.2.2.2.2.1
 let s14 : List (List Int) := d.2.2.2.2.2.1
 let s15 : Int := d.2.2.2.2.2.2.1
 let s16 : Int := d.2.2.2.2.2.2.2.1
 if (decide (s16 < s3)) = true then
  (G_l4Best ((s13, (s14, (s15, (s2, ())))))).bind fun r20 =>
  if (decide (r20.1 >= (0 : Int))) = true then
   if (idxIn r20.1 (List.length s13.1)) = true then
   ((F_spec_l1Own 0) (at_ K_Si s13.1 r20.1.toNat, ())).bind fun r21 =>
   if (decide (List.length s11 + List.length ([r21.1]) <= lim)) = true then
   if (idxIn r20.1 (List.length s13.1)) = true then
   (G_l1Has ((at_ K_Si s13.1 r20.1.toNat, (s2, ())))).bind fun r22 =>
   if (r22.1) = true then
    some (.inl ((s11 ++ ([r21.1]), (s12, (true, ())))))
   else
    (G_l4Flee ((s13, (s14, (r20.1, (s2, ())))))).bind fun r23 =>
    if (decide (List.length s12 + List.length ([r23.1]) <= lim)) = true then
    if (idxIn r20.1 (List.length s13.1)) = true then
    (G_l1Has ((at_ K_Si s13.1 r20.1.toNat, (r23.1, ())))).bind fun r24 =>
    if (r24.1) = true then
     some (.inl ((s11 ++ ([r21.1]), (s12 ++ ([r23.1]), (true, ())))))
    else
     let x25 : Int := IntKind.wrap .i64 (s16 + (1 : Int))
     back ((r23.1, (s3, (s11 ++ ([r21.1]), (s12 ++ ([r23.1]), (s13, (s14, (r20.1, (x25, ())))))))))
    else none
    else none
   else none
   else none
   else none
  else
   if (idxIn s15 (List.length s13.1)) = true then
   ((F_spec_l1Own 0) (at_ K_Si s13.1 s15.toNat, ())).bind fun r26 =>
   if (decide (List.length s11 + List.length ([r26.1]) <= lim)) = true then
   if (idxIn s15 (List.length s13.1)) = true then
   (G_l1Has ((at_ K_Si s13.1 s15.toNat, (s2, ())))).bind fun r27 =>
   if (r27.1) = true then
    some (.inl ((s11 ++ ([r26.1]), (s12, (true, ())))))
   else
    (G_l4Flee ((s13, (s14, (s15, (s2, ())))))).bind fun r28 =>
    if (decide (List.length s12 + List.length ([r28.1]) <= lim)) = true then
    if (idxIn s15 (List.length s13.1)) = true then
    (G_l1Has ((at_ K_Si s13.1 s15.toNat, (r28.1, ())))).bind fun r29 =>
    if (r29.1) = true then
     some (.inl ((s11 ++ ([r26.1]), (s12 ++ ([r28.1]), (true, ())))))
    else
     let x30 : Int := IntKind.wrap .i64 (s16 + (1 : Int))
     back ((r28.1, (s3, (s11 ++ ([r26.1]), (s12 ++ ([r28.1]), (s13, (s14, (s15, (x30, ())))))))))
    else none
    else none
   else none
   else none
   else none
 else
  some (.inr (.inl ((s11, (s12, ())))))
noncomputable def q41q_l0 (N : Nat) : Nat -> q41q_l0_H -> Option q41q_l0_O
 | 0, _ => none
 | k + 1, d => q41q_l0_r N (q41q_l0 N k) d
theorem q41q_l0_ok (N : Nat) (back) (d) : roundR Γ_q41q (assoc []) 0 q41q_l0_h q41q_l0_o (loopOf Tryz.f41 0) back d = q41q_l0_r N back d := by kernel_rfl
noncomputable def F_q41q (N : Nat) (d : (Int × (List (Int × Int × Unit)) × Unit) × List Int × Int × Int × Unit) : Option (List (List Int) × List Int × Bool × Unit) :=
 let a0 : Int × (List (Int × Int × Unit)) × Unit := d.1
 let a1 : List Int := d.2.1
 let a2 : Int := d.2.2.1
 let a3 : Int := d.2.2.2.1
 ((F_q57q 0) ((a0, (a1, (a2, ()))))).bind fun r1 =>
 if (!r1.1) = true then
  some ((([] : List (List Int)), (([] : List Int), (false, ()))))
 else
  let r2 : Bool × Unit := g_spec_l1In ((a3, ((0 : Int), ((60 : Int), ()))))
  if (!r2.1) = true then
   some ((([] : List (List Int)), (([] : List Int), (false, ()))))
  else
   (G_l4Make ((a0, ((List.length a1 : Int), ())))).bind fun r3 =>
   (G_l4Times (r3.1, ())).bind fun r4 =>
   (G_l4At ((r3.1.1, (a1, ())))).bind fun r5 =>
   (q41q_l0 N N ((a2, (a3, (([] : List (List Int)), (([] : List Int), (r3.1, (r4.1, (r5.1, ((0 : Int), ())))))))))).bind fun o17 => match o17 with
   | .inl d18 =>
    some ((d18.1, (d18.2.1, (d18.2.2.1, ()))))
   | .inr (.inl d19) =>
    some ((d19.1, (d19.2.1, (true, ()))))
theorem F_q41q_ok (N : Nat) (d) : fnR Γ_q41q (assoc [(0, ⟨q41q_l0_h, q41q_l0_o, q41q_l0 N N⟩)]) true [(K_PiSPiiqq, false), (K_Si, false), (I, false), (I, false)] [K_SSi, K_Si, .bool] Tryz.f41.results.toList (bodyOf Tryz.f41) d = F_q41q N d := by kernel_rfl
noncomputable def S_q41q : FSig := ⟨[(K_PiSPiiqq, false), (K_Si, false), (I, false), (I, false)], [K_SSi, K_Si, .bool], true, (G_play)⟩
noncomputable def Γ_q69q : Ctx := { tk := assoc tks, ar := assoc ars, fs := assoc [] }
noncomputable def F_q69q (N : Nat) (d : Int × Int × Int × Unit) : Option (Bool × Unit) :=
 let a0 : Int := d.1
 let a1 : Int := d.2.1
 let a2 : Int := d.2.2.1
 if (decide (a0 >= a1)) = true then
  some (decide (a0 <= a2), ())
 else
  some (false, ())
theorem F_q69q_ok (N : Nat) (d) : fnR Γ_q69q (assoc []) true [(I, false), (I, false), (I, false)] [.bool] Tryz.f78.results.toList (bodyOf Tryz.f78) d = F_q69q N d := by kernel_rfl
noncomputable def g_q69q (d : Int × Int × Int × Unit) : Bool × Unit :=
 let a0 : Int := d.1
 let a1 : Int := d.2.1
 let a2 : Int := d.2.2.1
 if (decide (a0 >= a1)) = true then
  (decide (a0 <= a2), ())
 else
  (false, ())
theorem F_q69q_tot (N : Nat) (d) : F_q69q N d = some (g_q69q d) := by
 unfold F_q69q g_q69q
 first
  | rfl
  | (dsimp only; (repeat' split) <;> rfl)
noncomputable def S_q69q : FSig := ⟨[(I, false), (I, false), (I, false)], [.bool], true, (fun d => some (g_q69q d))⟩
noncomputable def Γ_q36q : Ctx := { tk := assoc tks, ar := assoc ars, fs := assoc [] }
noncomputable def F_q36q (N : Nat) (d : Int × Unit) : Option (Bool × Unit) :=
 let a0 : Int := d.1
 some (a0 != a0, ())
theorem F_q36q_ok (N : Nat) (d) : fnR Γ_q36q (assoc []) true [(I, false)] [.bool] Tryz.f138.results.toList (bodyOf Tryz.f138) d = F_q36q N d := by kernel_rfl
noncomputable def g_q36q (d : Int × Unit) : Bool × Unit :=
 let a0 : Int := d.1
 (a0 != a0, ())
theorem F_q36q_tot (N : Nat) (d) : F_q36q N d = some (g_q36q d) := by
 unfold F_q36q g_q36q
 first
  | rfl
  | (dsimp only; (repeat' split) <;> rfl)
noncomputable def S_q36q : FSig := ⟨[(I, false)], [.bool], true, (fun d => some (g_q36q d))⟩
noncomputable def Γ_q22q : Ctx := { tk := assoc tks, ar := assoc ars, fs := assoc [(138, S_q36q)] }
noncomputable def F_q22q (N : Nat) (d : Int × Int × Unit) : Option (Int × Unit) :=
 let a0 : Int := d.1
 let a1 : Int := d.2.1
 let r1 : Bool × Unit := g_q36q (a0, ())
 let r2 : Bool × Unit := g_q36q (a1, ())
 if (r1.1) = true then
  if (r2.1) = true then
   some ((0 : Int), ())
  else
   some ((-1 : Int), ())
 else
  if (r2.1) = true then
   some ((1 : Int), ())
  else
   if (decide (a0 < a1)) = true then
    some ((-1 : Int), ())
   else
    if (decide (a0 > a1)) = true then
     some ((1 : Int), ())
    else
     some ((0 : Int), ())
theorem F_q22q_ok (N : Nat) (d) : fnR Γ_q22q (assoc []) true [(I, false), (I, false)] [I] Tryz.f130.results.toList (bodyOf Tryz.f130) d = F_q22q N d := by kernel_rfl
noncomputable def g_q22q (d : Int × Int × Unit) : Int × Unit :=
 let a0 : Int := d.1
 let a1 : Int := d.2.1
 let r1 : Bool × Unit := g_q36q (a0, ())
 let r2 : Bool × Unit := g_q36q (a1, ())
 if (r1.1) = true then
  if (r2.1) = true then
   ((0 : Int), ())
  else
   ((-1 : Int), ())
 else
  if (r2.1) = true then
   ((1 : Int), ())
  else
   if (decide (a0 < a1)) = true then
    ((-1 : Int), ())
   else
    if (decide (a0 > a1)) = true then
     ((1 : Int), ())
    else
     ((0 : Int), ())
theorem F_q22q_tot (N : Nat) (d) : F_q22q N d = some (g_q22q d) := by
 unfold F_q22q g_q22q
 first
  | rfl
  | (dsimp only; (repeat' split) <;> rfl)
noncomputable def S_q22q : FSig := ⟨[(I, false), (I, false)], [I], true, (fun d => some (g_q22q d))⟩
noncomputable def Γ_q7q : Ctx := { tk := assoc tks, ar := assoc ars, fs := assoc [(130, S_q22q)] }
abbrev q7q_l0_H := List Int × List Int × List Int × Int × Int × Unit
abbrev q7q_l0_O := (Int × Unit) ⊕ (List Int × List Int × Unit) ⊕ Empty
def q7q_l0_h : Form := [(0, .v K_Si), (1, .v K_Si), (9, .v K_Si), (10, .v I), (11, .v I)]
def q7q_l0_o : Outs := [(.ret, [(4, .v I)]), (.normal, [(0, .v K_Si), (1, .v K_Si)])]
noncomputable def q7q_l0_r (N : Nat) (back : q7q_l0_H -> Option q7q_l0_O) (d : q7q_l0_H) : Option q7q_l0_O :=
 let s0 : List Int := d.1
 let s1 : List Int := d.2.1
 let s9 : List Int := d.2.2.1
 let s10 : Int := d.2.2.2.1
 let s11 : Int := d.2.2.2.2.1
 if (decide (s11 < s10)) = true then
  if (idxIn s11 (List.length s9)) = true then
  if (decide (s11 >= (List.length s1 : Int))) = true then
   some (.inl ((1 : Int), ()))
  else
   if (idxIn s11 (List.length s1)) = true then
   let r6 : Int × Unit := g_q22q ((at_ I s9 s11.toNat, (at_ I s1 s11.toNat, ())))
   if (r6.1 != (0 : Int)) = true then
    some (.inl (r6.1, ()))
   else
    let x7 : Int := IntKind.wrap .i64 (s11 + (1 : Int))
    back ((s0, (s1, (s9, (s10, (x7, ()))))))
   else none
  else none
 else
  some (.inr (.inl ((s0, (s1, ())))))
noncomputable def q7q_l0 (N : Nat) : Nat -> q7q_l0_H -> Option q7q_l0_O
 | 0, _ => none
 | k + 1, d => q7q_l0_r N (q7q_l0 N k) d
theorem q7q_l0_ok (N : Nat) (back) (d) : roundR Γ_q7q (assoc []) 0 q7q_l0_h q7q_l0_o (loopOf Tryz.f113 0) back d = q7q_l0_r N back d := by kernel_rfl
noncomputable def F_q7q (N : Nat) (d : List Int × List Int × Unit) : Option (Int × Unit) :=
 let a0 : List Int := d.1
 let a1 : List Int := d.2.1
 (q7q_l0 N N ((a0, (a1, (a0, ((List.length a0 : Int), ((0 : Int), ()))))))).bind fun o3 => match o3 with
 | .inl d4 =>
  some (d4.1, ())
 | .inr (.inl d5) =>
  if (decide ((List.length d5.1 : Int) < (List.length d5.2.1 : Int))) = true then
   some ((-1 : Int), ())
  else
   some ((0 : Int), ())
theorem F_q7q_ok (N : Nat) (d) : fnR Γ_q7q (assoc [(0, ⟨q7q_l0_h, q7q_l0_o, q7q_l0 N N⟩)]) true [(K_Si, false), (K_Si, false)] [I] Tryz.f113.results.toList (bodyOf Tryz.f113) d = F_q7q N d := by kernel_rfl
noncomputable def S_q7q : FSig := ⟨[(K_Si, false), (K_Si, false)], [I], true, (G_compare)⟩
noncomputable def Γ_q45q : Ctx := { tk := assoc tks, ar := assoc ars, fs := assoc [(78, S_q69q), (113, S_q7q)] }
abbrev q45q_l0_H := (Int × (List (Int × Int × Unit)) × Unit) × (List (Int × Int × Unit)) × Int × Int × Unit
abbrev q45q_l0_O := (Bool × Unit) ⊕ Unit ⊕ Empty
def q45q_l0_h : Form := [(1, .box K_PiSPiiqq 0), (10, .v K_SPiiq), (11, .v I), (12, .v I)]
def q45q_l0_o : Outs := [(.ret, [(2, .v .bool)]), (.normal, [])]
noncomputable def q45q_l0_r (N : Nat) (back : q45q_l0_H -> Option q45q_l0_O) (d : q45q_l0_H) : Option q45q_l0_O :=
 let s1 : Int × (List (Int × Int × Unit)) × Unit := d.1
 let s10 : List (Int × Int × Unit) := d.2.1
 let s11 : Int := d.2.2.1
 let s12 : Int := d.2.2.2.1
 if (decide (s12 < s11)) = true then
  if (idxIn s12 (List.length s10)) = true then
  if (decide ((at_ K_Piiq s10 s12.toNat).1 < (0 : Int))) = true then
   some (.inl (false, ()))
  else
   if (decide ((at_ K_Piiq s10 s12.toNat).1 >= (at_ K_Piiq s10 s12.toNat).2.1)) = true then
    some (.inl (false, ()))
   else
    if (decide ((at_ K_Piiq s10 s12.toNat).2.1 >= s1.1)) = true then
     some (.inl (false, ()))
    else
     if (decide (s12 > (0 : Int))) = true then
      let x9 : Int := IntKind.wrap .i64 (s12 - (1 : Int))
      if (idxIn x9 (List.length s1.2.1)) = true then
      (G_compare (([(at_ K_Piiq s1.2.1 x9.toNat).1, (at_ K_Piiq s1.2.1 x9.toNat).2.1], ([(at_ K_Piiq s10 s12.toNat).1, (at_ K_Piiq s10 s12.toNat).2.1], ())))).bind fun r10 =>
      if (decide (r10.1 >= (0 : Int))) = true then
       some (.inl (false, ()))
      else
       let x11 : Int := IntKind.wrap .i64 (s12 + (1 : Int))
       back ((s1, (s10, (s11, (x11, ())))))
      else none
     else
      let x12 : Int := IntKind.wrap .i64 (s12 + (1 : Int))
      back ((s1, (s10, (s11, (x12, ())))))
  else none
 else
  some (.inr (.inl ()))
noncomputable def q45q_l0 (N : Nat) : Nat -> q45q_l0_H -> Option q45q_l0_O
 | 0, _ => none
 | k + 1, d => q45q_l0_r N (q45q_l0 N k) d
theorem q45q_l0_ok (N : Nat) (back) (d) : roundR Γ_q45q (assoc []) 0 q45q_l0_h q45q_l0_o (loopOf Tryz.f88 0) back d = q45q_l0_r N back d := by kernel_rfl
noncomputable def F_q45q (N : Nat) (d : (Int × (List (Int × Int × Unit)) × Unit) × Unit) : Option (Bool × Unit) :=
 let a0 : Int × (List (Int × Int × Unit)) × Unit := d.1
 let r1 : Bool × Unit := g_q69q ((a0.1, ((0 : Int), ((8 : Int), ()))))
 if (!r1.1) = true then
  some (false, ())
 else
  (q45q_l0 N N ((a0, (a0.2.1, ((List.length a0.2.1 : Int), ((0 : Int), ())))))).bind fun o6 => match o6 with
  | .inl d7 =>
   some (d7.1, ())
  | .inr (.inl d8) =>
   some (true, ())
theorem F_q45q_ok (N : Nat) (d) : fnR Γ_q45q (assoc [(0, ⟨q45q_l0_h, q45q_l0_o, q45q_l0 N N⟩)]) true [(K_PiSPiiqq, false)] [.bool] Tryz.f88.results.toList (bodyOf Tryz.f88) d = F_q45q N d := by kernel_rfl
noncomputable def S_q45q : FSig := ⟨[(K_PiSPiiqq, false)], [.bool], true, (G_graph)⟩
noncomputable def Γ_q30q : Ctx := { tk := assoc tks, ar := assoc ars, fs := assoc [(78, S_q69q), (88, S_q45q)] }
noncomputable def F_q30q (N : Nat) (d : (Int × (List (Int × Int × Unit)) × Unit) × Int × Unit) : Option (Bool × Unit) :=
 let a0 : Int × (List (Int × Int × Unit)) × Unit := d.1
 let a1 : Int := d.2.1
 (G_graph (a0, ())).bind fun r1 =>
 if (r1.1) = true then
  if (decide (a0.1 > (0 : Int))) = true then
   let r2 : Bool × Unit := g_q69q ((a1, ((1 : Int), ((3 : Int), ()))))
   some (r2.1, ())
  else
   some (false, ())
 else
  some (false, ())
theorem F_q30q_ok (N : Nat) (d) : fnR Γ_q30q (assoc []) true [(K_PiSPiiqq, false), (I, false)] [.bool] Tryz.f62.results.toList (bodyOf Tryz.f62) d = F_q30q N d := by kernel_rfl
noncomputable def S_q30q : FSig := ⟨[(K_PiSPiiqq, false), (I, false)], [.bool], true, (F_q30q 0)⟩
noncomputable def Γ_q26q : Ctx := { tk := assoc tks, ar := assoc ars, fs := assoc [(78, S_q69q)] }
abbrev q26q_l0_H := Int × Int × List Int × Int × Int × Unit
abbrev q26q_l0_O := (Bool × Unit) ⊕ Unit ⊕ Empty
def q26q_l0_h : Form := [(1, .v I), (2, .v I), (9, .v K_Si), (10, .v I), (11, .v I)]
def q26q_l0_o : Outs := [(.ret, [(6, .v .bool)]), (.normal, [])]
noncomputable def q26q_l0_r (N : Nat) (back : q26q_l0_H -> Option q26q_l0_O) (d : q26q_l0_H) : Option q26q_l0_O :=
 let s1 : Int := d.1
 let s2 : Int := d.2.1
 let s9 : List Int := d.2.2.1
 let s10 : Int := d.2.2.2.1
 let s11 : Int := d.2.2.2.2.1
 if (decide (s11 < s10)) = true then
  if (idxIn s11 (List.length s9)) = true then
  let r6 : Bool × Unit := g_q69q ((at_ I s9 s11.toNat, (s1, (s2, ()))))
  if (!r6.1) = true then
   some (.inl (false, ()))
  else
   let x7 : Int := IntKind.wrap .i64 (s11 + (1 : Int))
   back ((s1, (s2, (s9, (s10, (x7, ()))))))
  else none
 else
  some (.inr (.inl ()))
noncomputable def q26q_l0 (N : Nat) : Nat -> q26q_l0_H -> Option q26q_l0_O
 | 0, _ => none
 | k + 1, d => q26q_l0_r N (q26q_l0 N k) d
theorem q26q_l0_ok (N : Nat) (back) (d) : roundR Γ_q26q (assoc []) 0 q26q_l0_h q26q_l0_o (loopOf Tryz.f110 0) back d = q26q_l0_r N back d := by kernel_rfl
noncomputable def F_q26q (N : Nat) (d : List Int × Int × Int × Unit) : Option (Bool × Unit) :=
 let a0 : List Int := d.1
 let a1 : Int := d.2.1
 let a2 : Int := d.2.2.1
 (q26q_l0 N N ((a1, (a2, (a0, ((List.length a0 : Int), ((0 : Int), ()))))))).bind fun o3 => match o3 with
 | .inl d4 =>
  some (d4.1, ())
 | .inr (.inl d5) =>
  some (true, ())
theorem F_q26q_ok (N : Nat) (d) : fnR Γ_q26q (assoc [(0, ⟨q26q_l0_h, q26q_l0_o, q26q_l0 N N⟩)]) true [(K_Si, false), (I, false), (I, false)] [.bool] Tryz.f110.results.toList (bodyOf Tryz.f110) d = F_q26q N d := by kernel_rfl
noncomputable def S_q26q : FSig := ⟨[(K_Si, false), (I, false), (I, false)], [.bool], true, (G_allWithin)⟩
noncomputable def Γ_q39q : Ctx := { tk := assoc tks, ar := assoc ars, fs := assoc [(88, S_q45q), (110, S_q26q)] }
noncomputable def F_q39q (N : Nat) (d : (Int × (List (Int × Int × Unit)) × Unit) × List Int × Unit) : Option (Bool × Unit) :=
 let a0 : Int × (List (Int × Int × Unit)) × Unit := d.1
 let a1 : List Int := d.2.1
 (G_graph (a0, ())).bind fun r1 =>
 if (r1.1) = true then
  let x2 : Int := IntKind.wrap .i64 (a0.1 - (1 : Int))
  (G_allWithin ((a1, ((0 : Int), (x2, ()))))).bind fun r3 =>
  some (r3.1, ())
 else
  some (false, ())
theorem F_q39q_ok (N : Nat) (d) : fnR Γ_q39q (assoc []) true [(K_PiSPiiqq, false), (K_Si, false)] [.bool] Tryz.f68.results.toList (bodyOf Tryz.f68) d = F_q39q N d := by kernel_rfl
noncomputable def S_q39q : FSig := ⟨[(K_PiSPiiqq, false), (K_Si, false)], [.bool], true, (F_q39q 0)⟩
noncomputable def Γ_q56q : Ctx := { tk := assoc tks, ar := assoc ars, fs := assoc [(138, S_q36q)] }
noncomputable def F_q56q (N : Nat) (d : Int × Int × Unit) : Option (Bool × Unit) :=
 let a0 : Int := d.1
 let a1 : Int := d.2.1
 let r1 : Bool × Unit := g_q36q (a0, ())
 if (r1.1) = true then
  let r2 : Bool × Unit := g_q36q (a1, ())
  if (!r2.1) = true then
   some (true, ())
  else
   some (decide (a0 < a1), ())
 else
  some (decide (a0 < a1), ())
theorem F_q56q_ok (N : Nat) (d) : fnR Γ_q56q (assoc []) true [(I, false), (I, false)] [.bool] Tryz.f129.results.toList (bodyOf Tryz.f129) d = F_q56q N d := by kernel_rfl
noncomputable def g_q56q (d : Int × Int × Unit) : Bool × Unit :=
 let a0 : Int := d.1
 let a1 : Int := d.2.1
 let r1 : Bool × Unit := g_q36q (a0, ())
 if (r1.1) = true then
  let r2 : Bool × Unit := g_q36q (a1, ())
  if (!r2.1) = true then
   (true, ())
  else
   (decide (a0 < a1), ())
 else
  (decide (a0 < a1), ())
theorem F_q56q_tot (N : Nat) (d) : F_q56q N d = some (g_q56q d) := by
 unfold F_q56q g_q56q
 first
  | rfl
  | (dsimp only; (repeat' split) <;> rfl)
noncomputable def S_q56q : FSig := ⟨[(I, false), (I, false)], [.bool], true, (fun d => some (g_q56q d))⟩
noncomputable def Γ_q6q : Ctx := { tk := assoc tks, ar := assoc ars, fs := assoc [(129, S_q56q)] }
abbrev q6q_l0_H := List Int × Int × Unit
abbrev q6q_l0_O := (Bool × Unit) ⊕ Unit ⊕ Empty
def q6q_l0_h : Form := [(0, .v K_Si), (3, .v I)]
def q6q_l0_o : Outs := [(.ret, [(2, .v .bool)]), (.normal, [])]
noncomputable def q6q_l0_r (N : Nat) (back : q6q_l0_H -> Option q6q_l0_O) (d : q6q_l0_H) : Option q6q_l0_O :=
 let s0 : List Int := d.1
 let s3 : Int := d.2.1
 if (decide (s3 > (0 : Int))) = true then
  if (idxIn s3 (List.length s0)) = true then
  let x8 : Int := IntKind.wrap .i64 (s3 - (1 : Int))
  if (idxIn x8 (List.length s0)) = true then
  let r9 : Bool × Unit := g_q56q ((at_ I s0 s3.toNat, (at_ I s0 x8.toNat, ())))
  if (r9.1) = true then
   some (.inl (false, ()))
  else
   let x10 : Int := IntKind.wrap .i64 (s3 - (1 : Int))
   back ((s0, (x10, ())))
  else none
  else none
 else
  some (.inr (.inl ()))
noncomputable def q6q_l0 (N : Nat) : Nat -> q6q_l0_H -> Option q6q_l0_O
 | 0, _ => none
 | k + 1, d => q6q_l0_r N (q6q_l0 N k) d
theorem q6q_l0_ok (N : Nat) (back) (d) : roundR Γ_q6q (assoc []) 0 q6q_l0_h q6q_l0_o (loopOf Tryz.f109 0) back d = q6q_l0_r N back d := by kernel_rfl
noncomputable def F_q6q (N : Nat) (d : List Int × Unit) : Option (Bool × Unit) :=
 let a0 : List Int := d.1
 let x1 : Int := IntKind.wrap .i64 ((List.length a0 : Int) - (1 : Int))
 (q6q_l0 N N ((a0, (x1, ())))).bind fun o5 => match o5 with
 | .inl d6 =>
  some (d6.1, ())
 | .inr (.inl d7) =>
  some (true, ())
theorem F_q6q_ok (N : Nat) (d) : fnR Γ_q6q (assoc [(0, ⟨q6q_l0_h, q6q_l0_o, q6q_l0 N N⟩)]) true [(K_Si, false)] [.bool] Tryz.f109.results.toList (bodyOf Tryz.f109) d = F_q6q N d := by kernel_rfl
noncomputable def S_q6q : FSig := ⟨[(K_Si, false)], [.bool], true, (G_isSorted)⟩
noncomputable def Γ_q55q : Ctx := { tk := assoc tks, ar := assoc ars, fs := assoc [(62, S_q30q), (68, S_q39q), (109, S_q6q)] }
noncomputable def F_q55q (N : Nat) (d : (Int × (List (Int × Int × Unit)) × Unit) × List Int × Unit) : Option (Bool × Unit) :=
 let a0 : Int × (List (Int × Int × Unit)) × Unit := d.1
 let a1 : List Int := d.2.1
 ((F_q30q 0) ((a0, ((List.length a1 : Int), ())))).bind fun r1 =>
 if (r1.1) = true then
  ((F_q39q 0) ((a0, (a1, ())))).bind fun r2 =>
  if (r2.1) = true then
   (G_isSorted (a1, ())).bind fun r3 =>
   some (r3.1, ())
  else
   some (false, ())
 else
  some (false, ())
theorem F_q55q_ok (N : Nat) (d) : fnR Γ_q55q (assoc []) true [(K_PiSPiiqq, false), (K_Si, false)] [.bool] Tryz.f67.results.toList (bodyOf Tryz.f67) d = F_q55q N d := by kernel_rfl
noncomputable def S_q55q : FSig := ⟨[(K_PiSPiiqq, false), (K_Si, false)], [.bool], true, (F_q55q 0)⟩
noncomputable def Γ_q9q : Ctx := { tk := assoc tks, ar := assoc ars, fs := assoc [] }
abbrev q9q_l0_H := List Int × Int × Int × Int × Unit
abbrev q9q_l0_O := (Int × Unit) ⊕ Unit ⊕ Empty
def q9q_l0_h : Form := [(0, .v K_Si), (1, .v I), (7, .v I), (8, .v I)]
def q9q_l0_o : Outs := [(.ret, [(4, .v I)]), (.normal, [])]
noncomputable def q9q_l0_r (N : Nat) (back : q9q_l0_H -> Option q9q_l0_O) (d : q9q_l0_H) : Option q9q_l0_O :=
 let s0 : List Int := d.1
 let s1 : Int := d.2.1
 let s7 : Int := d.2.2.1
 let s8 : Int := d.2.2.2.1
 if (decide (s8 < s7)) = true then
  if (idxIn s8 (List.length s0)) = true then
  if (s1 == at_ I s0 s8.toNat) = true then
   some (.inl (s8, ()))
  else
   let x5 : Int := IntKind.wrap .i64 (s8 + (1 : Int))
   back ((s0, (s1, (s7, (x5, ())))))
  else none
 else
  some (.inr (.inl ()))
noncomputable def q9q_l0 (N : Nat) : Nat -> q9q_l0_H -> Option q9q_l0_O
 | 0, _ => none
 | k + 1, d => q9q_l0_r N (q9q_l0 N k) d
theorem q9q_l0_ok (N : Nat) (back) (d) : roundR Γ_q9q (assoc []) 0 q9q_l0_h q9q_l0_o (loopOf Tryz.f111 0) back d = q9q_l0_r N back d := by kernel_rfl
noncomputable def F_q9q (N : Nat) (d : List Int × Int × Unit) : Option (Int × Unit) :=
 let a0 : List Int := d.1
 let a1 : Int := d.2.1
 (q9q_l0 N N ((a0, (a1, ((List.length a0 : Int), ((0 : Int), ())))))).bind fun o2 => match o2 with
 | .inl d3 =>
  some (d3.1, ())
 | .inr (.inl d4) =>
  some ((-1 : Int), ())
theorem F_q9q_ok (N : Nat) (d) : fnR Γ_q9q (assoc [(0, ⟨q9q_l0_h, q9q_l0_o, q9q_l0 N N⟩)]) true [(K_Si, false), (I, false)] [I] Tryz.f111.results.toList (bodyOf Tryz.f111) d = F_q9q N d := by kernel_rfl
noncomputable def S_q9q : FSig := ⟨[(K_Si, false), (I, false)], [I], true, (G_index)⟩
noncomputable def Γ_q5q : Ctx := { tk := assoc tks, ar := assoc ars, fs := assoc [(111, S_q9q)] }
noncomputable def F_q5q (N : Nat) (d : List Int × Int × Unit) : Option (Bool × Unit) :=
 let a0 : List Int := d.1
 let a1 : Int := d.2.1
 (G_index ((a0, (a1, ())))).bind fun r1 =>
 some ((decide (r1.1 >= (0 : Int)), ()))
theorem F_q5q_ok (N : Nat) (d) : fnR Γ_q5q (assoc []) true [(K_Si, false), (I, false)] [.bool] Tryz.f69.results.toList (bodyOf Tryz.f69) d = F_q5q N d := by kernel_rfl
noncomputable def S_q5q : FSig := ⟨[(K_Si, false), (I, false)], [.bool], true, (F_q5q 0)⟩
noncomputable def Γ_impl_netOf : Ctx := { tk := assoc tks, ar := assoc ars, fs := assoc [] }
abbrev impl_netOf_l0_H := (List Int × Unit) × (List Int × Unit) × (List (Int × Int × Unit)) × Int × Int × Unit
abbrev impl_netOf_l0_O := ((List Int × Unit) × (List Int × Unit) × Unit) ⊕ Empty
def impl_netOf_l0_h : Form := [(2, .box K_PSiq 99), (3, .box K_PSiq 99), (11, .v K_SPiiq), (12, .v I), (13, .v I)]
def impl_netOf_l0_o : Outs := [(.normal, [(2, .box K_PSiq 99), (3, .box K_PSiq 99)])]
noncomputable def impl_netOf_l0_r (N : Nat) (back : impl_netOf_l0_H -> Option impl_netOf_l0_O) (d : impl_netOf_l0_H) : Option impl_netOf_l0_O :=
 let s2 : List Int × Unit := d.1
 let s3 : List Int × Unit := d.2.1
 let s11 : List (Int × Int × Unit) := d.2.2.1
 let s12 : Int := d.2.2.2.1
 let s13 : Int := d.2.2.2.2.1
 if (decide (s13 < s12)) = true then
  if (idxIn s13 (List.length s11)) = true then
  if (idxIn (at_ K_Piiq s11 s13.toNat).1 (List.length s3.1)) = true then
  if (decide (0 <= (at_ K_Piiq s11 s13.toNat).2.1)) = true then
  let x9 : Int := shl .i64 (1 : Int) (at_ K_Piiq s11 s13.toNat).2.1
  let x10 : Int := bits .or .i64 (at_ I s3.1 (at_ K_Piiq s11 s13.toNat).1.toNat) x9
  if (idxIn (at_ K_Piiq s11 s13.toNat).1 (List.length s3.1)) = true then
  if (idxIn (at_ K_Piiq s11 s13.toNat).2.1 (List.length (List.set s3.1 (at_ K_Piiq s11 s13.toNat).1.toNat x10))) = true then
  if (decide (0 <= (at_ K_Piiq s11 s13.toNat).1)) = true then
  let x11 : Int := shl .i64 (1 : Int) (at_ K_Piiq s11 s13.toNat).1
  let x12 : Int := bits .or .i64 (at_ I (List.set s3.1 (at_ K_Piiq s11 s13.toNat).1.toNat x10) (at_ K_Piiq s11 s13.toNat).2.1.toNat) x11
  if (idxIn (at_ K_Piiq s11 s13.toNat).2.1 (List.length (List.set s3.1 (at_ K_Piiq s11 s13.toNat).1.toNat x10))) = true then
  let x13 : Int := IntKind.wrap .i64 (s13 + (1 : Int))
  back ((s2, ((List.set (List.set s3.1 (at_ K_Piiq s11 s13.toNat).1.toNat x10) (at_ K_Piiq s11 s13.toNat).2.1.toNat x12, s3.2), (s11, (s12, (x13, ()))))))
  else none
  else none
  else none
  else none
  else none
  else none
  else none
 else
  some (.inl ((s2, (s3, ()))))
noncomputable def impl_netOf_l0 (N : Nat) : Nat -> impl_netOf_l0_H -> Option impl_netOf_l0_O
 | 0, _ => none
 | k + 1, d => impl_netOf_l0_r N (impl_netOf_l0 N k) d
theorem impl_netOf_l0_ok (N : Nat) (back) (d) : roundR Γ_impl_netOf (assoc []) 0 impl_netOf_l0_h impl_netOf_l0_o (loopOf Tryz.f50 0) back d = impl_netOf_l0_r N back d := by kernel_rfl
noncomputable def F_impl_netOf (N : Nat) (d : (Int × (List (Int × Int × Unit)) × Unit) × Unit) : Option ((List Int × Unit) × Unit) :=
 let a0 : Int × (List (Int × Int × Unit)) × Unit := d.1
 if ((decide (0 <= a0.1) && decide (a0.1 <= a0.1) && decide (a0.1 <= (lim : Int)))) = true then
 let x1 : List Int := List.replicate a0.1.toNat (0 : Int)
 (impl_netOf_l0 N N (((([] : List Int), ()), ((x1, ()), (a0.2.1, ((List.length a0.2.1 : Int), ((0 : Int), ()))))))).bind fun o7 => match o7 with
 | .inl d8 =>
  some (d8.2.1, ())
 else none
theorem F_impl_netOf_ok (N : Nat) (d) : fnR Γ_impl_netOf (assoc [(0, ⟨impl_netOf_l0_h, impl_netOf_l0_o, impl_netOf_l0 N N⟩)]) true [(K_PiSPiiqq, false)] [K_PSiq] Tryz.f50.results.toList (bodyOf Tryz.f50) d = F_impl_netOf N d := by kernel_rfl
noncomputable def S_impl_netOf : FSig := ⟨[(K_PiSPiiqq, false)], [K_PSiq], true, (G_netOf)⟩
noncomputable def Γ_q32q : Ctx := { tk := assoc tks, ar := assoc ars, fs := assoc [] }
noncomputable def F_q32q (N : Nat) (d : (List Int × Unit) × Unit) : Option (Int × Unit) :=
 let a0 : List Int × Unit := d.1
 some ((List.length a0.1 : Int), ())
theorem F_q32q_ok (N : Nat) (d) : fnR Γ_q32q (assoc []) true [(K_PSiq, false)] [I] Tryz.f105.results.toList (bodyOf Tryz.f105) d = F_q32q N d := by kernel_rfl
noncomputable def g_q32q (d : (List Int × Unit) × Unit) : Int × Unit :=
 let a0 : List Int × Unit := d.1
 ((List.length a0.1 : Int), ())
theorem F_q32q_tot (N : Nat) (d) : F_q32q N d = some (g_q32q d) := by
 unfold F_q32q g_q32q
 first
  | rfl
  | (dsimp only; (repeat' split) <;> rfl)
noncomputable def S_q32q : FSig := ⟨[(K_PSiq, false)], [I], true, (fun d => some (g_q32q d))⟩
noncomputable def Γ_q10q : Ctx := { tk := assoc tks, ar := assoc ars, fs := assoc [] }
noncomputable def F_q10q (N : Nat) (d : List Int × Unit) : Option (List Int × Unit) :=
 let a0 : List Int := d.1
 if (decide (List.length a0 = 0)) = true then
  both (
    some (([] : List Int), ())) (
    if (decide (List.length ([] : List Int) + List.length a0 <= lim)) = true then
    some (([] : List Int) ++ a0, ())
    else none)
 else
  if (decide (List.length ([] : List Int) + List.length a0 <= lim)) = true then
  some (([] : List Int) ++ a0, ())
  else none
theorem F_q10q_ok (N : Nat) (d) : fnR Γ_q10q (assoc []) true [(K_Si, false)] [K_Si] Tryz.f80.results.toList (bodyOf Tryz.f80) d = F_q10q N d := by kernel_rfl
noncomputable def S_q10q : FSig := ⟨[(K_Si, false)], [K_Si], true, (G_toIntS)⟩
noncomputable def Γ_q42q : Ctx := { tk := assoc tks, ar := assoc ars, fs := assoc [(80, S_q10q)], dm := fun t => Nat.beq t 8 || Nat.beq t 15, cs := assoc [] }
abbrev q42q_l4_H := Int × List (List Int) × List Int × Int × Int × Int × List (List Int) × Int × Int × Unit
abbrev q42q_l4_O := (Int × List (List Int) × Int × Int × List (List Int) × Int × Int × Unit) ⊕ Empty
def q42q_l4_h : Form := [(0, .v I), (6, .own K_SSi 99), (8, .v K_Si), (10, .v I), (12, .v I), (13, .v I), (15, .v K_SSi), (16, .v I), (17, .v I)]
def q42q_l4_o : Outs := [(.normal, [(0, .v I), (6, .own K_SSi 99), (12, .v I), (13, .v I), (15, .v K_SSi), (16, .v I), (17, .v I)])]
noncomputable def q42q_l4_r (N : Nat) (back : q42q_l4_H -> Option q42q_l4_O) (d : q42q_l4_H) : Option q42q_l4_O :=
 let s0 : Int := d.1
 let s6 : List (List Int) := d.2.1
 let s8 : List Int := d.2.2.1
 let s10 : Int := d.2.2.2.1
 let s12 : Int := d.2.2.2.2.1
 let s13 : Int := d.2.2.2.2.2.1
 let s15 : List (List Int) := d.2.2.2.2.2.2.1
 let s16 : Int := d.2.2.2.2.2.2.2.1
 let s17 : Int := d.2.2.2.2.2.2.2.2.1
 if (decide (s10 < s0)) = true then
  (G_toIntS (s8, ())).bind fun r48 =>
  if (decide (List.length r48.1 + List.length ([s10]) <= lim)) = true then
  if (decide (List.length s6 + List.length ([r48.1 ++ ([s10])]) <= lim)) = true then
  let x49 : Int := IntKind.wrap .i64 (s10 + (1 : Int))
  back ((s0, (s6 ++ ([r48.1 ++ ([s10])]), (s8, (x49, (s12, (s13, (s15, (s16, (s17, ()))))))))))
  else none
  else none
 else
  some (.inl ((s0, (s6, (s12, (s13, (s15, (s16, (s17, ())))))))))
noncomputable def q42q_l4 (N : Nat) : Nat -> q42q_l4_H -> Option q42q_l4_O
 | 0, _ => none
 | k + 1, d => q42q_l4_r N (q42q_l4 N k) d
theorem q42q_l4_ok (N : Nat) (back) (d) : roundR Γ_q42q (assoc []) 4 q42q_l4_h q42q_l4_o (loopOf Tryz.f125 4) back d = q42q_l4_r N back d := by kernel_rfl
abbrev q42q_l2_H := Int × List (List Int) × Int × Int × List (List Int) × Int × Int × Unit
abbrev q42q_l2_O := (Int × List (List Int) × Int × Int × Unit) ⊕ Empty
def q42q_l2_h : Form := [(0, .v I), (6, .own K_SSi 99), (12, .v I), (13, .v I), (15, .v K_SSi), (16, .v I), (17, .v I)]
def q42q_l2_o : Outs := [(.normal, [(0, .v I), (6, .own K_SSi 99), (12, .v I), (13, .v I)])]
noncomputable def q42q_l2_r (N : Nat) (back : q42q_l2_H -> Option q42q_l2_O) (d : q42q_l2_H) : Option q42q_l2_O :=
 let s0 : Int := d.1
 let s6 : List (List Int) := d.2.1
 let s12 : Int := d.2.2.1
 let s13 : Int := d.2.2.2.1
 let s15 : List (List Int) := d.2.2.2.2.1
 let s16 : Int := d.2.2.2.2.2.1
 let s17 : Int := d.2.2.2.2.2.2.1
 if (decide (s17 < s16)) = true then
  if (idxIn s17 (List.length s15)) = true then
  if (decide ((List.length (at_ K_Si s15 s17.toNat) : Int) > (0 : Int))) = true then
   let x39 : Int := IntKind.wrap .i64 ((List.length (at_ K_Si s15 s17.toNat) : Int) - (1 : Int))
   if (idxIn x39 (List.length (at_ K_Si s15 s17.toNat))) = true then
   (q42q_l4 N N ((s0, (s6, (at_ K_Si s15 s17.toNat, (at_ I (at_ K_Si s15 s17.toNat) x39.toNat, (s12, (s13, (s15, (s16, (s17, ()))))))))))).bind fun o42 => match o42 with
   | .inl d43 =>
    let x44 : Int := IntKind.wrap .i64 (d43.2.2.2.2.2.2.1 + (1 : Int))
    back ((d43.1, (d43.2.1, (d43.2.2.1, (d43.2.2.2.1, (d43.2.2.2.2.1, (d43.2.2.2.2.2.1, (x44, ()))))))))
   else none
  else
   (q42q_l4 N N ((s0, (s6, (at_ K_Si s15 s17.toNat, ((0 : Int), (s12, (s13, (s15, (s16, (s17, ()))))))))))).bind fun o45 => match o45 with
   | .inl d46 =>
    let x47 : Int := IntKind.wrap .i64 (d46.2.2.2.2.2.2.1 + (1 : Int))
    back ((d46.1, (d46.2.1, (d46.2.2.1, (d46.2.2.2.1, (d46.2.2.2.2.1, (d46.2.2.2.2.2.1, (x47, ()))))))))
  else none
 else
  some (.inl ((s0, (s6, (s12, (s13, ()))))))
noncomputable def q42q_l2 (N : Nat) : Nat -> q42q_l2_H -> Option q42q_l2_O
 | 0, _ => none
 | k + 1, d => q42q_l2_r N (q42q_l2 N k) d
theorem q42q_l2_ok (N : Nat) (back) (d) : roundR Γ_q42q (assoc [(4, ⟨q42q_l4_h, q42q_l4_o, q42q_l4 N N⟩)]) 2 q42q_l2_h q42q_l2_o (loopOf Tryz.f125 2) back d = q42q_l2_r N back d := by kernel_rfl
abbrev q42q_l0_H := Int × List (List Int) × Int × Int × Unit
abbrev q42q_l0_O := (List (List Int) × Unit) ⊕ Empty
def q42q_l0_h : Form := [(0, .v I), (5, .own K_SSi 99), (12, .v I), (13, .v I)]
def q42q_l0_o : Outs := [(.normal, [(5, .own K_SSi 99)])]
noncomputable def q42q_l0_r (N : Nat) (back : q42q_l0_H -> Option q42q_l0_O) (d : q42q_l0_H) : Option q42q_l0_O :=
 let s0 : Int := d.1
 let s5 : List (List Int) := d.2.1
 let s12 : Int := d.2.2.1
 let s13 : Int := d.2.2.2.1
 if (decide (s13 < s12)) = true then
  (q42q_l2 N N ((s0, (([] : List (List Int)), (s12, (s13, (s5, ((List.length s5 : Int), ((0 : Int), ()))))))))).bind fun o36 => match o36 with
  | .inl d37 =>
   let x38 : Int := IntKind.wrap .i64 (d37.2.2.2.1 + (1 : Int))
   back ((d37.1, (d37.2.1, (d37.2.2.1, (x38, ())))))
 else
  some (.inl (s5, ()))
noncomputable def q42q_l0 (N : Nat) : Nat -> q42q_l0_H -> Option q42q_l0_O
 | 0, _ => none
 | k + 1, d => q42q_l0_r N (q42q_l0 N k) d
theorem q42q_l0_ok (N : Nat) (back) (d) : roundR Γ_q42q (assoc [(2, ⟨q42q_l2_h, q42q_l2_o, q42q_l2 N N⟩)]) 0 q42q_l0_h q42q_l0_o (loopOf Tryz.f125 0) back d = q42q_l0_r N back d := by kernel_rfl
noncomputable def F_q42q (N : Nat) (d : Int × Int × Unit) : Option (List (List Int) × Unit) :=
 let a0 : Int := d.1
 let a1 : Int := d.2.1
 (q42q_l0 N N ((a0, ([([] : List Int)], (a1, ((0 : Int), ())))))).bind fun o25 => match o25 with
 | .inl d26 =>
  some (d26.1, ())
theorem F_q42q_ok (N : Nat) (d) : fnR Γ_q42q (assoc [(0, ⟨q42q_l0_h, q42q_l0_o, q42q_l0 N N⟩)]) true [(I, false), (I, false)] [K_SSi] Tryz.f125.results.toList (bodyOf Tryz.f125) d = F_q42q N d := by kernel_rfl
noncomputable def S_q42q : FSig := ⟨[(I, false), (I, false)], [K_SSi], true, (G_configs)⟩
noncomputable def Γ_q23q : Ctx := { tk := assoc tks, ar := assoc ars, fs := assoc [] }
noncomputable def F_q23q (N : Nat) (d : (List Int × Unit) × Int × Unit) : Option (Int × Unit) :=
 let a0 : List Int × Unit := d.1
 let a1 : Int := d.2.1
 if (idxIn a1 (List.length a0.1)) = true then
 if (decide (0 <= a1)) = true then
 let x1 : Int := bits .or .i64 (at_ I a0.1 a1.toNat) (shl .i64 (1 : Int) a1)
 some (x1, ())
 else none
 else none
theorem F_q23q_ok (N : Nat) (d) : fnR Γ_q23q (assoc []) true [(K_PSiq, false), (I, false)] [I] Tryz.f100.results.toList (bodyOf Tryz.f100) d = F_q23q N d := by kernel_rfl
noncomputable def S_q23q : FSig := ⟨[(K_PSiq, false), (I, false)], [I], true, (F_q23q 0)⟩
noncomputable def Γ_impl_setOf : Ctx := { tk := assoc tks, ar := assoc ars, fs := assoc [] }
abbrev impl_setOf_l0_H := Int × List Int × Int × Unit
abbrev impl_setOf_l0_O := (List Int × Unit) ⊕ Empty
def impl_setOf_l0_h : Form := [(0, .v I), (3, .own K_Si 99), (4, .v I)]
def impl_setOf_l0_o : Outs := [(.normal, [(3, .own K_Si 99)])]
noncomputable def impl_setOf_l0_r (N : Nat) (back : impl_setOf_l0_H -> Option impl_setOf_l0_O) (d : impl_setOf_l0_H) : Option impl_setOf_l0_O :=
 let s0 : Int := d.1
 let s3 : List Int := d.2.1
 let s4 : Int := d.2.2.1
 if (decide (0 <= s4)) = true then
 if (shr .i64 s0 s4 != (0 : Int)) = true then
  if (decide (0 <= s4)) = true then
  let x6 : Int := bits .and .i64 (shr .i64 s0 s4) (1 : Int)
  if (x6 == (1 : Int)) = true then
   if (decide (List.length s3 + List.length ([s4]) <= lim)) = true then
   let x7 : Int := IntKind.wrap .i64 (s4 + (1 : Int))
   back ((s0, (s3 ++ ([s4]), (x7, ()))))
   else none
  else
   let x8 : Int := IntKind.wrap .i64 (s4 + (1 : Int))
   back ((s0, (s3, (x8, ()))))
  else none
 else
  some (.inl (s3, ()))
 else none
noncomputable def impl_setOf_l0 (N : Nat) : Nat -> impl_setOf_l0_H -> Option impl_setOf_l0_O
 | 0, _ => none
 | k + 1, d => impl_setOf_l0_r N (impl_setOf_l0 N k) d
theorem impl_setOf_l0_ok (N : Nat) (back) (d) : roundR Γ_impl_setOf (assoc []) 0 impl_setOf_l0_h impl_setOf_l0_o (loopOf Tryz.f52 0) back d = impl_setOf_l0_r N back d := by kernel_rfl
noncomputable def F_impl_setOf (N : Nat) (d : Int × Unit) : Option (List Int × Unit) :=
 let a0 : Int := d.1
 (impl_setOf_l0 N N ((a0, (([] : List Int), ((0 : Int), ()))))).bind fun o4 => match o4 with
 | .inl d5 =>
  some (d5.1, ())
theorem F_impl_setOf_ok (N : Nat) (d) : fnR Γ_impl_setOf (assoc [(0, ⟨impl_setOf_l0_h, impl_setOf_l0_o, impl_setOf_l0 N N⟩)]) true [(I, false)] [K_Si] Tryz.f52.results.toList (bodyOf Tryz.f52) d = F_impl_setOf N d := by kernel_rfl
noncomputable def S_impl_setOf : FSig := ⟨[(I, false)], [K_Si], true, (G_setOf)⟩
def S_q11q : FSig := ⟨[(K_Si, true)], [], true, G_sortI⟩
def S_q2q : FSig := ⟨[(K_SSi, true), (K_F_q7q_qq, false)], [], true, G_sortF⟩
def S_q1q : FSig := ⟨[(K_SSi, true), (K_F_slices_Equal_Sint_int_qq, false)], [K_SSi], true, G_compactF⟩
noncomputable def Γ_q18q : Ctx := { tk := assoc tks, ar := assoc ars, fs := assoc [(52, S_impl_setOf), (80, S_q10q), (100, S_q23q), (121, S_q11q), (122, S_q2q)], dm := fun t => Nat.beq t 10 || Nat.beq t 22, cs := assoc [], gs := assoc [(123, (S_q1q, { gone := [0], deep := [] }))], eqt := inL [], md := md0 }
abbrev q18q_l4_H := (List Int × Unit) × Int × List (List Int) × List Int × List Int × Int × Int × List (List Int) × Int × Int × List Int × Int × Int × Unit
abbrev q18q_l4_O := ((List Int × Unit) × Int × List (List Int) × List Int × Int × Int × List (List Int) × Int × Int × Unit) ⊕ Empty
def q18q_l4_h : Form := [(2, .box K_PSiq 0), (7, .v I), (8, .own K_SSi 99), (10, .v K_Si), (16, .v K_Si), (17, .v I), (18, .v I), (22, .v K_SSi), (23, .v I), (24, .v I), (31, .own K_Si 99), (32, .v I), (33, .v I)]
def q18q_l4_o : Outs := [(.normal, [(2, .box K_PSiq 0), (7, .v I), (8, .own K_SSi 99), (16, .v K_Si), (17, .v I), (18, .v I), (22, .v K_SSi), (23, .v I), (24, .v I)])]
noncomputable def q18q_l4_r (N : Nat) (back : q18q_l4_H -> Option q18q_l4_O) (d : q18q_l4_H) : Option q18q_l4_O :=
 let s2 : List Int × Unit := d.1
 let s7 : Int := d.2.1
 let s8 : List (List Int) := d.2.2.1
 let s10 : List Int := d.2.2.2.1
 let s16 : List Int := d.2.2.2.2.1
 let s17 : Int := d.2.2.2.2.2.1
 let s18 : Int := d.2.2.2.2.2.2.1
 let s22 : List (List Int) := d.2.2.2.2.2.2.2.1
 let s23 : Int := d.2.2.2.2.2.2.2.2.1
 let s24 : Int := d.2.2.2.2.2.2.2.2.2.1
 let s31 : List Int := d.2.2.2.2.2.2.2.2.2.2.1
 let s32 : Int := d.2.2.2.2.2.2.2.2.2.2.2.1
 let s33 : Int := d.2.2.2.2.2.2.2.2.2.2.2.2.1
 if (decide (s33 < s32)) = true then
  if (idxIn s33 (List.length s31)) = true then
  (G_toIntS (s10, ())).bind fun r50 =>
  if (decide (List.length r50.1 + List.length ([at_ I s31 s33.toNat]) <= lim)) = true then
  let x51 : List Int := r50.1 ++ ([at_ I s31 s33.toNat])
  if (decide (List.length s8 + List.length ([x51]) <= lim)) = true then
  let x52 : Int := IntKind.wrap .i64 (s33 + (1 : Int))
  back ((s2, (s7, (s8 ++ ([x51]), (s10, (s16, (s17, (s18, (s22, (s23, (s24, (s31, (s32, (x52, ()))))))))))))))
  else none
  else none
  else none
 else
  some (.inl ((s2, (s7, (s8, (s16, (s17, (s18, (s22, (s23, (s24, ())))))))))))
noncomputable def q18q_l4 (N : Nat) : Nat -> q18q_l4_H -> Option q18q_l4_O
 | 0, _ => none
 | k + 1, d => q18q_l4_r N (q18q_l4 N k) d
theorem q18q_l4_ok (N : Nat) (back) (d) : roundR Γ_q18q (assoc []) 4 q18q_l4_h q18q_l4_o (loopOf Tryz.f90 4) back d = q18q_l4_r N back d := by kernel_rfl
abbrev q18q_l2_H := (List Int × Unit) × Int × List (List Int) × List Int × Int × Int × List (List Int) × Int × Int × Unit
abbrev q18q_l2_O := ((List Int × Unit) × List (List Int) × List Int × Int × Int × Unit) ⊕ Empty
def q18q_l2_h : Form := [(2, .box K_PSiq 0), (7, .v I), (8, .own K_SSi 99), (16, .v K_Si), (17, .v I), (18, .v I), (22, .v K_SSi), (23, .v I), (24, .v I)]
def q18q_l2_o : Outs := [(.normal, [(2, .box K_PSiq 0), (8, .own K_SSi 99), (16, .v K_Si), (17, .v I), (18, .v I)])]
noncomputable def q18q_l2_r (N : Nat) (back : q18q_l2_H -> Option q18q_l2_O) (d : q18q_l2_H) : Option q18q_l2_O :=
 let s2 : List Int × Unit := d.1
 let s7 : Int := d.2.1
 let s8 : List (List Int) := d.2.2.1
 let s16 : List Int := d.2.2.2.1
 let s17 : Int := d.2.2.2.2.1
 let s18 : Int := d.2.2.2.2.2.1
 let s22 : List (List Int) := d.2.2.2.2.2.2.1
 let s23 : Int := d.2.2.2.2.2.2.2.1
 let s24 : Int := d.2.2.2.2.2.2.2.2.1
 if (decide (s24 < s23)) = true then
  if (idxIn s24 (List.length s22)) = true then
  ((F_q23q 0) ((s2, (s7, ())))).bind fun r42 =>
  (G_setOf (r42.1, ())).bind fun r43 =>
  (q18q_l4 N N ((s2, (s7, (s8, (at_ K_Si s22 s24.toNat, (s16, (s17, (s18, (s22, (s23, (s24, (r43.1, ((List.length r43.1 : Int), ((0 : Int), ()))))))))))))))).bind fun o47 => match o47 with
  | .inl d48 =>
   let x49 : Int := IntKind.wrap .i64 (d48.2.2.2.2.2.2.2.2.1 + (1 : Int))
   back ((d48.1, (d48.2.1, (d48.2.2.1, (d48.2.2.2.1, (d48.2.2.2.2.1, (d48.2.2.2.2.2.1, (d48.2.2.2.2.2.2.1, (d48.2.2.2.2.2.2.2.1, (x49, ()))))))))))
  else none
 else
  some (.inl ((s2, (s8, (s16, (s17, (s18, ())))))))
noncomputable def q18q_l2 (N : Nat) : Nat -> q18q_l2_H -> Option q18q_l2_O
 | 0, _ => none
 | k + 1, d => q18q_l2_r N (q18q_l2 N k) d
theorem q18q_l2_ok (N : Nat) (back) (d) : roundR Γ_q18q (assoc [(4, ⟨q18q_l4_h, q18q_l4_o, q18q_l4 N N⟩)]) 2 q18q_l2_h q18q_l2_o (loopOf Tryz.f90 2) back d = q18q_l2_r N back d := by kernel_rfl
abbrev q18q_l0_H := (List Int × Unit) × List (List Int) × List Int × Int × Int × Unit
abbrev q18q_l0_O := (List (List Int) × Unit) ⊕ Empty
def q18q_l0_h : Form := [(2, .box K_PSiq 0), (5, .own K_SSi 99), (16, .v K_Si), (17, .v I), (18, .v I)]
def q18q_l0_o : Outs := [(.normal, [(5, .own K_SSi 99)])]
noncomputable def q18q_l0_r (N : Nat) (back : q18q_l0_H -> Option q18q_l0_O) (d : q18q_l0_H) : Option q18q_l0_O :=
 let s2 : List Int × Unit := d.1
 let s5 : List (List Int) := d.2.1
 let s16 : List Int := d.2.2.1
 let s17 : Int := d.2.2.2.1
 let s18 : Int := d.2.2.2.2.1
 if (decide (s18 < s17)) = true then
  if (idxIn s18 (List.length s16)) = true then
  (q18q_l2 N N ((s2, (at_ I s16 s18.toNat, (([] : List (List Int)), (s16, (s17, (s18, (s5, ((List.length s5 : Int), ((0 : Int), ()))))))))))).bind fun o39 => match o39 with
  | .inl d40 =>
   let x41 : Int := IntKind.wrap .i64 (d40.2.2.2.2.1 + (1 : Int))
   back ((d40.1, (d40.2.1, (d40.2.2.1, (d40.2.2.2.1, (x41, ()))))))
  else none
 else
  some (.inl (s5, ()))
noncomputable def q18q_l0 (N : Nat) : Nat -> q18q_l0_H -> Option q18q_l0_O
 | 0, _ => none
 | k + 1, d => q18q_l0_r N (q18q_l0 N k) d
theorem q18q_l0_ok (N : Nat) (back) (d) : roundR Γ_q18q (assoc [(2, ⟨q18q_l2_h, q18q_l2_o, q18q_l2 N N⟩)]) 0 q18q_l0_h q18q_l0_o (loopOf Tryz.f90 0) back d = q18q_l0_r N back d := by kernel_rfl
abbrev q18q_l6_H := List (List Int) × Unit × Int × Int × Unit
abbrev q18q_l6_O := (List (List Int) × Unit) ⊕ Empty
def q18q_l6_h : Form := [(5, .own K_SSi 99), (49, .same 5 []), (50, .v I), (51, .v I)]
def q18q_l6_o : Outs := [(.normal, [(5, .own K_SSi 99)])]
noncomputable def q18q_l6_r (N : Nat) (back : q18q_l6_H -> Option q18q_l6_O) (d : q18q_l6_H) : Option q18q_l6_O :=
 let s5 : List (List Int) := d.1
 let s49 : Unit := d.2.1
 let s50 : Int := d.2.2.1
 let s51 : Int := d.2.2.2.1
 if (decide (s51 < s50)) = true then
  if (idxIn s51 (List.length s5)) = true then
  (G_sortI (at_ K_Si s5 s51.toNat, ())).bind fun r53 =>
  let x54 : Int := IntKind.wrap .i64 (s51 + (1 : Int))
  back ((List.set s5 s51.toNat r53.1, ((), (s50, (x54, ())))))
  else none
 else
  some (.inl (s5, ()))
noncomputable def q18q_l6 (N : Nat) : Nat -> q18q_l6_H -> Option q18q_l6_O
 | 0, _ => none
 | k + 1, d => q18q_l6_r N (q18q_l6 N k) d
theorem q18q_l6_ok (N : Nat) (back) (d) : roundR Γ_q18q (assoc []) 6 q18q_l6_h q18q_l6_o (loopOf Tryz.f90 6) back d = q18q_l6_r N back d := by kernel_rfl
noncomputable def F_q18q (N : Nat) (d : (List Int × Unit) × List Int × Unit) : Option (List (List Int) × Unit) :=
 let a0 : List Int × Unit := d.1
 let a1 : List Int := d.2.1
 (q18q_l0 N N ((a0, ([([] : List Int)], (a1, ((List.length a1 : Int), ((0 : Int), ()))))))).bind fun o23 => match o23 with
 | .inl d24 =>
  (q18q_l6 N N ((d24.1, ((), ((List.length d24.1 : Int), ((0 : Int), ())))))).bind fun o27 => match o27 with
  | .inl d28 =>
   (G_sortF ((d28.1, (((), ()), ())))).bind fun r29 =>
   (G_compactF ((r29.1, (((), ()), ())))).bind fun r30 =>
   some (r30.1, ())
theorem F_q18q_ok (N : Nat) (d) : fnR Γ_q18q (assoc [(0, ⟨q18q_l0_h, q18q_l0_o, q18q_l0 N N⟩), (6, ⟨q18q_l6_h, q18q_l6_o, q18q_l6 N N⟩)]) true [(K_PSiq, false), (K_Si, false)] [K_SSi] Tryz.f90.results.toList (bodyOf Tryz.f90) d = F_q18q N d := by kernel_rfl
noncomputable def S_q18q : FSig := ⟨[(K_PSiq, false), (K_Si, false)], [K_SSi], true, (G_copMoves)⟩
noncomputable def FV_q7q (d : List Int × List Int × (Unit × Unit) × Unit) : Option (Int × Unit) := G_compare (d.1, d.2.1, d.2.2.1.2)
noncomputable def SV_q7q : FSig := ⟨[(K_Si, false), (K_Si, false), (K_F_q7q_qq, false)], [I], true, FV_q7q⟩
noncomputable def Γ_q0q : Ctx := { tk := assoc tks, ar := assoc ars, fs := assoc [], cs := assoc [(113, SV_q7q)] }
abbrev q0q_l0_H := List (List Int) × List Int × (Unit × Unit) × Int × Int × Int × Unit
abbrev q0q_l0_O := (List (List Int) × List Int × (Unit × Unit) × Int × Int × Unit) ⊕ Empty
def q0q_l0_h : Form := [(0, .v K_SSi), (1, .v K_Si), (2, .v K_F_q7q_qq), (8, .v I), (9, .v I), (10, .v I)]
def q0q_l0_o : Outs := [(.normal, [(0, .v K_SSi), (1, .v K_Si), (2, .v K_F_q7q_qq), (8, .v I), (9, .v I)])]
noncomputable def q0q_l0_r (N : Nat) (back : q0q_l0_H -> Option q0q_l0_O) (d : q0q_l0_H) : Option q0q_l0_O :=
 let s0 : List (List Int) := d.1
 let s1 : List Int := d.2.1
 let s2 : Unit × Unit := d.2.2.1
 let s8 : Int := d.2.2.2.1
 let s9 : Int := d.2.2.2.2.1
 let s10 : Int := d.2.2.2.2.2.1
 if (decide (s9 < s10)) = true then
  let x8 : Int := IntKind.wrap .u64 (IntKind.wrap .i64 (s9 + s10))
  if (decide (0 <= (1 : Int))) = true then
  let x9 : Int := IntKind.wrap .i64 (shr .u64 x8 (1 : Int))
  if (idxIn x9 (List.length s0)) = true then
  (FV_q7q ((at_ K_Si s0 x9.toNat, (s1, (s2, ()))))).bind fun r10 =>
  if (decide (r10.1 < (0 : Int))) = true then
   let x11 : Int := IntKind.wrap .i64 (x9 + (1 : Int))
   back ((s0, (s1, (s2, (s8, (x11, (s10, ())))))))
  else
   back ((s0, (s1, (s2, (s8, (s9, (x9, ())))))))
  else none
  else none
 else
  some (.inl ((s0, (s1, (s2, (s8, (s9, ())))))))
noncomputable def q0q_l0 (N : Nat) : Nat -> q0q_l0_H -> Option q0q_l0_O
 | 0, _ => none
 | k + 1, d => q0q_l0_r N (q0q_l0 N k) d
theorem q0q_l0_ok (N : Nat) (back) (d) : roundR Γ_q0q (assoc []) 0 q0q_l0_h q0q_l0_o (loopOf Tryz.f112 0) back d = q0q_l0_r N back d := by kernel_rfl
noncomputable def F_q0q (N : Nat) (d : List (List Int) × List Int × (Unit × Unit) × Unit) : Option (Int × Bool × Unit) :=
 let a0 : List (List Int) := d.1
 let a1 : List Int := d.2.1
 let a2 : Unit × Unit := d.2.2.1
 (q0q_l0 N N ((a0, (a1, (a2, ((List.length a0 : Int), ((0 : Int), ((List.length a0 : Int), ())))))))).bind fun o5 => match o5 with
 | .inl d6 =>
  if (decide (d6.2.2.2.2.1 < d6.2.2.2.1)) = true then
   if (idxIn d6.2.2.2.2.1 (List.length d6.1)) = true then
   (FV_q7q ((at_ K_Si d6.1 d6.2.2.2.2.1.toNat, (d6.2.1, (d6.2.2.1, ()))))).bind fun r7 =>
   some ((d6.2.2.2.2.1, (r7.1 == (0 : Int), ())))
   else none
  else
   some ((d6.2.2.2.2.1, (false, ())))
theorem F_q0q_ok (N : Nat) (d) : fnR Γ_q0q (assoc [(0, ⟨q0q_l0_h, q0q_l0_o, q0q_l0 N N⟩)]) true [(K_SSi, false), (K_Si, false), (K_F_q7q_qq, false)] [I, .bool] Tryz.f112.results.toList (bodyOf Tryz.f112) d = F_q0q N d := by kernel_rfl
noncomputable def S_q0q : FSig := ⟨[(K_SSi, false), (K_Si, false), (K_F_q7q_qq, false)], [I, .bool], true, (G_bin)⟩
noncomputable def Γ_q14q : Ctx := { tk := assoc tks, ar := assoc ars, fs := assoc [(112, S_q0q)] }
noncomputable def F_q14q (N : Nat) (d : ((List Int × Unit) × List (List Int) × List (List Int) × List (List Int) × Unit) × List Int × Unit) : Option (Int × Unit) :=
 let a0 : (List Int × Unit) × List (List Int) × List (List Int) × List (List Int) × Unit := d.1
 let a1 : List Int := d.2.1
 (G_bin ((a0.2.1, (a1, (((), ()), ()))))).bind fun r1 =>
 some (r1.1, ())
theorem F_q14q_ok (N : Nat) (d) : fnR Γ_q14q (assoc []) true [(K_BPPZiqZSiSSiSSiq, false), (K_Si, false)] [I] Tryz.f71.results.toList (bodyOf Tryz.f71) d = F_q14q N d := by kernel_rfl
noncomputable def S_q14q : FSig := ⟨[(K_BPPZiqZSiSSiSSiq, false), (K_Si, false)], [I], true, (F_q14q 0)⟩
noncomputable def Γ_q17q : Ctx := { tk := assoc tks, ar := assoc ars, fs := assoc [(71, S_q14q), (90, S_q18q), (105, S_q32q), (125, S_q42q)] }
abbrev q17q_l2_H := (List Int × Unit) × ((List Int × Unit) × List (List Int) × List (List Int) × List (List Int) × Unit) × List Int × List (List Int) × Int × Int × List (List Int) × Int × Int × Unit
abbrev q17q_l2_O := ((List Int × Unit) × ((List Int × Unit) × List (List Int) × List (List Int) × List (List Int) × Unit) × List Int × List (List Int) × Int × Int × Unit) ⊕ Empty
def q17q_l2_h : Form := [(2, .box K_PSiq 0), (5, .box K_PPZiqZSiSSiSSiq 99), (8, .own K_Si 99), (21, .v K_SSi), (22, .v I), (23, .v I), (29, .own K_SSi 99), (30, .v I), (31, .v I)]
def q17q_l2_o : Outs := [(.normal, [(2, .box K_PSiq 0), (5, .box K_PPZiqZSiSSiSSiq 99), (8, .own K_Si 99), (21, .v K_SSi), (22, .v I), (23, .v I)])]
noncomputable def q17q_l2_r (N : Nat) (back : q17q_l2_H -> Option q17q_l2_O) (d : q17q_l2_H) : Option q17q_l2_O :=
 let s2 : List Int × Unit := d.1
 let s5 : (List Int × Unit) × List (List Int) × List (List Int) × List (List Int) × Unit := d.2.1
 let s8 : List Int := d.2.2.1
 let s21 : List (List Int) := d.2.2.2.1
 let s22 : Int := d.2.2.2.2.1
 let s23 : Int := d.2.2.2.2.2.1
 let s29 : List (List Int) := d.2.2.2.2.2.2.1
 let s30 : Int := d.2.2.2.2.2.2.2.1
 let s31 : Int := d.2.2.2.2.2.2.2.2.1
 if (decide (s31 < s30)) = true then
  if (idxIn s31 (List.length s29)) = true then
  ((F_q14q 0) ((s5, (at_ K_Si s29 s31.toNat, ())))).bind fun r18 =>
  if (decide (List.length s8 + List.length ([r18.1]) <= lim)) = true then
  let x19 : Int := IntKind.wrap .i64 (s31 + (1 : Int))
  back ((s2, (s5, (s8 ++ ([r18.1]), (s21, (s22, (s23, (s29, (s30, (x19, ()))))))))))
  else none
  else none
 else
  some (.inl ((s2, (s5, (s8, (s21, (s22, (s23, ()))))))))
noncomputable def q17q_l2 (N : Nat) : Nat -> q17q_l2_H -> Option q17q_l2_O
 | 0, _ => none
 | k + 1, d => q17q_l2_r N (q17q_l2 N k) d
theorem q17q_l2_ok (N : Nat) (back) (d) : roundR Γ_q17q (assoc []) 2 q17q_l2_h q17q_l2_o (loopOf Tryz.f103 2) back d = q17q_l2_r N back d := by kernel_rfl
abbrev q17q_l0_H := (List Int × Unit) × ((List Int × Unit) × List (List Int) × List (List Int) × List (List Int) × Unit) × List (List Int) × Int × Int × Unit
abbrev q17q_l0_O := (((List Int × Unit) × List (List Int) × List (List Int) × List (List Int) × Unit) × Unit) ⊕ Empty
def q17q_l0_h : Form := [(2, .box K_PSiq 0), (5, .box K_PPZiqZSiSSiSSiq 99), (21, .v K_SSi), (22, .v I), (23, .v I)]
def q17q_l0_o : Outs := [(.normal, [(5, .box K_PPZiqZSiSSiSSiq 99)])]
noncomputable def q17q_l0_r (N : Nat) (back : q17q_l0_H -> Option q17q_l0_O) (d : q17q_l0_H) : Option q17q_l0_O :=
 let s2 : List Int × Unit := d.1
 let s5 : (List Int × Unit) × List (List Int) × List (List Int) × List (List Int) × Unit := d.2.1
 let s21 : List (List Int) := d.2.2.1
 let s22 : Int := d.2.2.2.1
 let s23 : Int := d.2.2.2.2.1
 if (decide (s23 < s22)) = true then
  if (idxIn s23 (List.length s21)) = true then
  (G_copMoves ((s2, (at_ K_Si s21 s23.toNat, ())))).bind fun r11 =>
  (q17q_l2 N N ((s2, (s5, (([] : List Int), (s21, (s22, (s23, (r11.1, ((List.length r11.1 : Int), ((0 : Int), ()))))))))))).bind fun o14 => match o14 with
  | .inl d15 =>
   if (decide (List.length d15.2.1.2.2.1 + List.length ([d15.2.2.1]) <= lim)) = true then
   let x16 : List (List Int) := d15.2.1.2.2.1 ++ ([d15.2.2.1])
   let x17 : Int := IntKind.wrap .i64 (d15.2.2.2.2.2.1 + (1 : Int))
   back ((d15.1, ((d15.2.1.1, (d15.2.1.2.1, (x16, d15.2.1.2.2.2))), (d15.2.2.2.1, (d15.2.2.2.2.1, (x17, ()))))))
   else none
  else none
 else
  some (.inl (s5, ()))
noncomputable def q17q_l0 (N : Nat) : Nat -> q17q_l0_H -> Option q17q_l0_O
 | 0, _ => none
 | k + 1, d => q17q_l0_r N (q17q_l0 N k) d
theorem q17q_l0_ok (N : Nat) (back) (d) : roundR Γ_q17q (assoc [(2, ⟨q17q_l2_h, q17q_l2_o, q17q_l2 N N⟩)]) 0 q17q_l0_h q17q_l0_o (loopOf Tryz.f103 0) back d = q17q_l0_r N back d := by kernel_rfl
noncomputable def F_q17q (N : Nat) (d : (List Int × Unit) × Int × Unit) : Option (((List Int × Unit) × List (List Int) × List (List Int) × List (List Int) × Unit) × Unit) :=
 let a0 : List Int × Unit := d.1
 let a1 : Int := d.2.1
 let r1 : Int × Unit := g_q32q (a0, ())
 (G_configs ((r1.1, (a1, ())))).bind fun r2 =>
 (q17q_l0 N N ((a0, ((a0, (r2.1, (([] : List (List Int)), (([] : List (List Int)), ())))), (r2.1, ((List.length r2.1 : Int), ((0 : Int), ()))))))).bind fun o9 => match o9 with
 | .inl d10 =>
  some (d10.1, ())
theorem F_q17q_ok (N : Nat) (d) : fnR Γ_q17q (assoc [(0, ⟨q17q_l0_h, q17q_l0_o, q17q_l0 N N⟩)]) true [(K_PSiq, false), (I, false)] [K_BPPZiqZSiSSiSSiq] Tryz.f103.results.toList (bodyOf Tryz.f103) d = F_q17q N d := by kernel_rfl
noncomputable def S_q17q : FSig := ⟨[(K_PSiq, false), (I, false)], [K_BPPZiqZSiSSiSSiq], true, (G_copBoard)⟩
def S_q8q : FSig := ⟨[(K_Si, false), (I, false)], [K_Si], true, G_repeat⟩
noncomputable def Γ_q13q : Ctx := { tk := assoc tks, ar := assoc ars, fs := assoc [(52, S_impl_setOf), (100, S_q23q)] }
abbrev q13q_l0_H := List Int × Int × List Int × Int × Int × Unit
abbrev q13q_l0_O := (Int × Unit) ⊕ (Int × Unit) ⊕ Empty
def q13q_l0_h : Form := [(1, .v K_Si), (7, .v I), (13, .own K_Si 99), (14, .v I), (15, .v I)]
def q13q_l0_o : Outs := [(.ret, [(6, .v I)]), (.normal, [(7, .v I)])]
noncomputable def q13q_l0_r (N : Nat) (back : q13q_l0_H -> Option q13q_l0_O) (d : q13q_l0_H) : Option q13q_l0_O :=
 let s1 : List Int := d.1
 let s7 : Int := d.2.1
 let s13 : List Int := d.2.2.1
 let s14 : Int := d.2.2.2.1
 let s15 : Int := d.2.2.2.2.1
 if (decide (s15 < s14)) = true then
  if (idxIn s15 (List.length s13)) = true then
  if (idxIn (at_ I s13 s15.toNat) (List.length s1)) = true then
  if (decide (at_ I s1 (at_ I s13 s15.toNat).toNat < (0 : Int))) = true then
   some (.inl ((-1 : Int), ()))
  else
   if (idxIn (at_ I s13 s15.toNat) (List.length s1)) = true then
   let x8 : Int := if s7 < at_ I s1 (at_ I s13 s15.toNat).toNat then at_ I s1 (at_ I s13 s15.toNat).toNat else s7
   let x9 : Int := IntKind.wrap .i64 (s15 + (1 : Int))
   back ((s1, (x8, (s13, (s14, (x9, ()))))))
   else none
  else none
  else none
 else
  some (.inr (.inl (s7, ())))
noncomputable def q13q_l0 (N : Nat) : Nat -> q13q_l0_H -> Option q13q_l0_O
 | 0, _ => none
 | k + 1, d => q13q_l0_r N (q13q_l0 N k) d
theorem q13q_l0_ok (N : Nat) (back) (d) : roundR Γ_q13q (assoc []) 0 q13q_l0_h q13q_l0_o (loopOf Tryz.f116 0) back d = q13q_l0_r N back d := by kernel_rfl
noncomputable def F_q13q (N : Nat) (d : (List Int × Unit) × List Int × Int × Unit) : Option (Int × Unit) :=
 let a0 : List Int × Unit := d.1
 let a1 : List Int := d.2.1
 let a2 : Int := d.2.2.1
 ((F_q23q 0) ((a0, (a2, ())))).bind fun r1 =>
 (G_setOf (r1.1, ())).bind fun r2 =>
 (q13q_l0 N N ((a1, ((0 : Int), (r2.1, ((List.length r2.1 : Int), ((0 : Int), ()))))))).bind fun o5 => match o5 with
 | .inl d6 =>
  some (d6.1, ())
 | .inr (.inl d7) =>
  some (d7.1, ())
theorem F_q13q_ok (N : Nat) (d) : fnR Γ_q13q (assoc [(0, ⟨q13q_l0_h, q13q_l0_o, q13q_l0 N N⟩)]) true [(K_PSiq, false), (K_Si, false), (I, false)] [I] Tryz.f116.results.toList (bodyOf Tryz.f116) d = F_q13q N d := by kernel_rfl
noncomputable def S_q13q : FSig := ⟨[(K_PSiq, false), (K_Si, false), (I, false)], [I], true, (G_timeAfter)⟩
noncomputable def Γ_q15q : Ctx := { tk := assoc tks, ar := assoc ars, fs := assoc [(69, S_q5q), (116, S_q13q)], cs := assoc [], w1 := inL [77] }
noncomputable def F_q15q (N : Nat) (d : Int × ((List Int × Unit) × List (List Int) × List (List Int) × List (List Int) × Unit) × Int × Unit) : Option (Bool × Unit) :=
 let a0 : Int := d.1
 let a1 : (List Int × Unit) × List (List Int) × List (List Int) × List (List Int) × Unit := d.2.1
 let a2 : Int := d.2.2.1
 if (idxIn a0 (List.length a1.2.1)) = true then
 ((F_q5q 0) ((at_ K_Si a1.2.1 a0.toNat, (a2, ())))).bind fun r1 =>
 if (r1.1) = true then
  some (true, ())
 else
  if (idxIn a0 (List.length a1.2.2.2.1)) = true then
  (G_timeAfter ((a1.1, (at_ K_Si a1.2.2.2.1 a0.toNat, (a2, ()))))).bind fun r2 =>
  some ((decide (r2.1 >= (0 : Int)), ()))
  else none
 else none
theorem F_q15q_ok (N : Nat) (d) : fnR Γ_q15q (assoc []) true [(I, false), (K_BBPPZiqZSiSSiSSiq, false), (K_Bi, false)] [.bool] Tryz.f128.results.toList (bodyOf Tryz.f128) d = F_q15q N d := by kernel_rfl
noncomputable def S_q15q : FSig := ⟨[(I, false), (K_BBPPZiqZSiSSiSSiq, false), (K_Bi, false)], [.bool], true, (F_q15q 0)⟩
noncomputable def FV_q15q (d : Int × (Unit × ((List Int × Unit) × List (List Int) × List (List Int) × List (List Int) × Unit) × Int × Unit) × Unit) : Option (Bool × Unit) := (F_q15q 0) (d.1, d.2.1.2)
noncomputable def SV_q15q : FSig := ⟨[(I, false), (K_F_q15q_qPBBPPZiqZSiSSiSSiqBiq, false)], [.bool], true, FV_q15q⟩
noncomputable def Γ_q4q : Ctx := { tk := assoc tks, ar := assoc ars, fs := assoc [], cs := assoc [(128, SV_q15q)] }
abbrev q4q_l0_H := List Int × (Unit × ((List Int × Unit) × List (List Int) × List (List Int) × List (List Int) × Unit) × Int × Unit) × Int × Int × Unit
abbrev q4q_l0_O := (Int × Unit) ⊕ Unit ⊕ Empty
def q4q_l0_h : Form := [(0, .v K_Si), (1, .v K_F_q15q_qPBBPPZiqZSiSSiSSiqBiq), (7, .v I), (8, .v I)]
def q4q_l0_o : Outs := [(.ret, [(4, .v I)]), (.normal, [])]
noncomputable def q4q_l0_r (N : Nat) (back : q4q_l0_H -> Option q4q_l0_O) (d : q4q_l0_H) : Option q4q_l0_O :=
 let s0 : List Int := d.1
 let s1 : Unit × ((List Int × Unit) × List (List Int) × List (List Int) × List (List Int) × Unit) × Int × Unit := d.2.1
 let s7 : Int := d.2.2.1
 let s8 : Int := d.2.2.2.1
 if (decide (s8 < s7)) = true then
  if (idxIn s8 (List.length s0)) = true then
  (FV_q15q ((at_ I s0 s8.toNat, (s1, ())))).bind fun r6 =>
  if (r6.1) = true then
   some (.inl (s8, ()))
  else
   let x7 : Int := IntKind.wrap .i64 (s8 + (1 : Int))
   back ((s0, (s1, (s7, (x7, ())))))
  else none
 else
  some (.inr (.inl ()))
noncomputable def q4q_l0 (N : Nat) : Nat -> q4q_l0_H -> Option q4q_l0_O
 | 0, _ => none
 | k + 1, d => q4q_l0_r N (q4q_l0 N k) d
theorem q4q_l0_ok (N : Nat) (back) (d) : roundR Γ_q4q (assoc []) 0 q4q_l0_h q4q_l0_o (loopOf Tryz.f137 0) back d = q4q_l0_r N back d := by kernel_rfl
noncomputable def F_q4q (N : Nat) (d : List Int × (Unit × ((List Int × Unit) × List (List Int) × List (List Int) × List (List Int) × Unit) × Int × Unit) × Unit) : Option (Int × Unit) :=
 let a0 : List Int := d.1
 let a1 : Unit × ((List Int × Unit) × List (List Int) × List (List Int) × List (List Int) × Unit) × Int × Unit := d.2.1
 (q4q_l0 N N ((a0, (a1, ((List.length a0 : Int), ((0 : Int), ())))))).bind fun o3 => match o3 with
 | .inl d4 =>
  some (d4.1, ())
 | .inr (.inl d5) =>
  some ((-1 : Int), ())
theorem F_q4q_ok (N : Nat) (d) : fnR Γ_q4q (assoc [(0, ⟨q4q_l0_h, q4q_l0_o, q4q_l0 N N⟩)]) true [(K_Si, false), (K_F_q15q_qPBBPPZiqZSiSSiSSiqBiq, false)] [I] Tryz.f137.results.toList (bodyOf Tryz.f137) d = F_q4q N d := by kernel_rfl
noncomputable def S_q4q : FSig := ⟨[(K_Si, false), (K_F_q15q_qPBBPPZiqZSiSSiSSiqBiq, false)], [I], true, (G_gameCan)⟩
noncomputable def Γ_q3q : Ctx := { tk := assoc tks, ar := assoc ars, fs := assoc [(137, S_q4q)] }
noncomputable def F_q3q (N : Nat) (d : List Int × (Unit × ((List Int × Unit) × List (List Int) × List (List Int) × List (List Int) × Unit) × Int × Unit) × Unit) : Option (Bool × Unit) :=
 let a0 : List Int := d.1
 let a1 : Unit × ((List Int × Unit) × List (List Int) × List (List Int) × List (List Int) × Unit) × Int × Unit := d.2.1
 (G_gameCan ((a0, (a1, ())))).bind fun r1 =>
 some ((decide (r1.1 >= (0 : Int)), ()))
theorem F_q3q_ok (N : Nat) (d) : fnR Γ_q3q (assoc []) true [(K_Si, false), (K_F_q15q_qPBBPPZiqZSiSSiSSiqBiq, false)] [.bool] Tryz.f127.results.toList (bodyOf Tryz.f127) d = F_q3q N d := by kernel_rfl
noncomputable def S_q3q : FSig := ⟨[(K_Si, false), (K_F_q15q_qPBBPPZiqZSiSSiSSiqBiq, false)], [.bool], true, (F_q3q 0)⟩
noncomputable def Γ_q19q : Ctx := { tk := assoc tks, ar := assoc ars, fs := assoc [(127, S_q3q)], cs := assoc [], w1 := inL [77], fz := fun t => Nat.beq t 3 || Nat.beq t 5 }
noncomputable def F_q19q (N : Nat) (d : ((List Int × Unit) × List (List Int) × List (List Int) × List (List Int) × Unit) × Int × Int × Unit) : Option (Bool × Unit) :=
 let a0 : (List Int × Unit) × List (List Int) × List (List Int) × List (List Int) × Unit := d.1
 let a1 : Int := d.2.1
 let a2 : Int := d.2.2.1
 if (idxIn a1 (List.length a0.2.2.1)) = true then
 ((F_q3q 0) ((at_ K_Si a0.2.2.1 a1.toNat, (((), (a0, (a2, ()))), ())))).bind fun r1 =>
 some (r1.1, ())
 else none
theorem F_q19q_ok (N : Nat) (d) : fnR Γ_q19q (assoc []) true [(K_BPPZiqZSiSSiSSiq, false), (I, false), (I, false)] [.bool] Tryz.f106.results.toList (bodyOf Tryz.f106) d = F_q19q N d := by kernel_rfl
noncomputable def S_q19q : FSig := ⟨[(K_BPPZiqZSiSSiSSiq, false), (I, false), (I, false)], [.bool], true, (F_q19q 0)⟩
noncomputable def Γ_q21q : Ctx := { tk := assoc tks, ar := assoc ars, fs := assoc [(104, S_q8q), (105, S_q32q), (106, S_q19q)], cs := assoc [], gs := assoc [(103, (S_q17q, md0))], eqt := inL [], md := md0 }
abbrev q21q_l2_H := (List Int × Unit) × ((List Int × Unit) × List (List Int) × List (List Int) × List (List Int) × Unit) × List Int × List (List Int) × Int × Int × List Int × Int × Int × Unit
abbrev q21q_l2_O := ((List Int × Unit) × ((List Int × Unit) × List (List Int) × List (List Int) × List (List Int) × Unit) × List Int × List (List Int) × Int × Int × Unit) ⊕ Empty
def q21q_l2_h : Form := [(2, .box K_PSiq 0), (5, .box K_PPZiqZSiSSiSSiq 99), (8, .own K_Si 99), (26, .v K_SSi), (27, .v I), (28, .v I), (36, .v K_Si), (37, .v I), (38, .v I)]
def q21q_l2_o : Outs := [(.normal, [(2, .box K_PSiq 0), (5, .box K_PPZiqZSiSSiSSiq 99), (8, .own K_Si 99), (26, .v K_SSi), (27, .v I), (28, .v I)])]
noncomputable def q21q_l2_r (N : Nat) (back : q21q_l2_H -> Option q21q_l2_O) (d : q21q_l2_H) : Option q21q_l2_O :=
 let s2 : List Int × Unit := d.1
 let s5 : (List Int × Unit) × List (List Int) × List (List Int) × List (List Int) × Unit := d.2.1
 let s8 : List Int := d.2.2.1
 let s26 : List (List Int) := d.2.2.2.1
 let s27 : Int := d.2.2.2.2.1
 let s28 : Int := d.2.2.2.2.2.1
 let s36 : List Int := d.2.2.2.2.2.2.1
 let s37 : Int := d.2.2.2.2.2.2.2.1
 let s38 : Int := d.2.2.2.2.2.2.2.2.1
 if (decide (s38 < s37)) = true then
  if (idxIn s38 (List.length s36)) = true then
  if (idxIn (at_ I s36 s38.toNat) (List.length s8)) = true then
  let x35 : List Int := List.set s8 (at_ I s36 s38.toNat).toNat (0 : Int)
  let x36 : Int := IntKind.wrap .i64 (s38 + (1 : Int))
  back ((s2, (s5, (x35, (s26, (s27, (s28, (s36, (s37, (x36, ()))))))))))
  else none
  else none
 else
  some (.inl ((s2, (s5, (s8, (s26, (s27, (s28, ()))))))))
noncomputable def q21q_l2 (N : Nat) : Nat -> q21q_l2_H -> Option q21q_l2_O
 | 0, _ => none
 | k + 1, d => q21q_l2_r N (q21q_l2 N k) d
theorem q21q_l2_ok (N : Nat) (back) (d) : roundR Γ_q21q (assoc []) 2 q21q_l2_h q21q_l2_o (loopOf Tryz.f63 2) back d = q21q_l2_r N back d := by kernel_rfl
abbrev q21q_l0_H := (List Int × Unit) × ((List Int × Unit) × List (List Int) × List (List Int) × List (List Int) × Unit) × List (List Int) × Int × Int × Unit
abbrev q21q_l0_O := (((List Int × Unit) × List (List Int) × List (List Int) × List (List Int) × Unit) × Unit) ⊕ Empty
def q21q_l0_h : Form := [(2, .box K_PSiq 0), (5, .box K_PPZiqZSiSSiSSiq 99), (26, .v K_SSi), (27, .v I), (28, .v I)]
def q21q_l0_o : Outs := [(.normal, [(5, .box K_PPZiqZSiSSiSSiq 99)])]
noncomputable def q21q_l0_r (N : Nat) (back : q21q_l0_H -> Option q21q_l0_O) (d : q21q_l0_H) : Option q21q_l0_O :=
 let s2 : List Int × Unit := d.1
 let s5 : (List Int × Unit) × List (List Int) × List (List Int) × List (List Int) × Unit := d.2.1
 let s26 : List (List Int) := d.2.2.1
 let s27 : Int := d.2.2.2.1
 let s28 : Int := d.2.2.2.2.1
 if (decide (s28 < s27)) = true then
  if (idxIn s28 (List.length s26)) = true then
  let r27 : Int × Unit := g_q32q (s2, ())
  (G_repeat (([(-1 : Int)], (r27.1, ())))).bind fun r28 =>
  (q21q_l2 N N ((s2, (s5, (r28.1, (s26, (s27, (s28, (at_ K_Si s26 s28.toNat, ((List.length (at_ K_Si s26 s28.toNat) : Int), ((0 : Int), ()))))))))))).bind fun o31 => match o31 with
  | .inl d32 =>
   if (decide (List.length d32.2.1.2.2.2.1 + List.length ([d32.2.2.1]) <= lim)) = true then
   let x33 : List (List Int) := d32.2.1.2.2.2.1 ++ ([d32.2.2.1])
   let x34 : Int := IntKind.wrap .i64 (d32.2.2.2.2.2.1 + (1 : Int))
   back ((d32.1, ((d32.2.1.1, (d32.2.1.2.1, (d32.2.1.2.2.1, (x33, d32.2.1.2.2.2.2)))), (d32.2.2.2.1, (d32.2.2.2.2.1, (x34, ()))))))
   else none
  else none
 else
  some (.inl (s5, ()))
noncomputable def q21q_l0 (N : Nat) : Nat -> q21q_l0_H -> Option q21q_l0_O
 | 0, _ => none
 | k + 1, d => q21q_l0_r N (q21q_l0 N k) d
theorem q21q_l0_ok (N : Nat) (back) (d) : roundR Γ_q21q (assoc [(2, ⟨q21q_l2_h, q21q_l2_o, q21q_l2 N N⟩)]) 0 q21q_l0_h q21q_l0_o (loopOf Tryz.f63 0) back d = q21q_l0_r N back d := by kernel_rfl
abbrev q21q_l8_H := ((List Int × Unit) × List (List Int) × List (List Int) × List (List Int) × Unit) × Int × Bool × (List (Int × Int × Unit)) × Int × Int × Int × Int × Int × Unit × Int × Unit
abbrev q21q_l8_O := (((List Int × Unit) × List (List Int) × List (List Int) × List (List Int) × Unit) × Int × Bool × (List (Int × Int × Unit)) × Int × Int × Unit × Unit) ⊕ Empty
def q21q_l8_h : Form := [(5, .box K_PPZiqZSiSSiSSiq 99), (11, .v I), (12, .v .bool), (13, .own K_SPiiq 99), (14, .v I), (64, .v I), (65, .v I), (71, .v I), (72, .v I), (63, .same 5 [.r, .r, .r, .l]), (70, .hole 5 [.r, .r, .r, .l] [])]
def q21q_l8_o : Outs := [(.normal, [(5, .box K_PPZiqZSiSSiSSiq 99), (11, .v I), (12, .v .bool), (13, .own K_SPiiq 99), (64, .v I), (65, .v I), (63, .same 5 [.r, .r, .r, .l])])]
noncomputable def q21q_l8_r (N : Nat) (back : q21q_l8_H -> Option q21q_l8_O) (d : q21q_l8_H) : Option q21q_l8_O :=
 let s5 : (List Int × Unit) × List (List Int) × List (List Int) × List (List Int) × Unit := d.1
 let s11 : Int := d.2.1
 let s12 : Bool := d.2.2.1
 let s13 : List (Int × Int × Unit) := d.2.2.2.1
 let s14 : Int := d.2.2.2.2.1
 let s64 : Int := d.2.2.2.2.2.1
 let s65 : Int := d.2.2.2.2.2.2.1
 let s71 : Int := d.2.2.2.2.2.2.2.1
 let s72 : Int := d.2.2.2.2.2.2.2.2.1
 let s63 : Unit := d.2.2.2.2.2.2.2.2.2.1
 let s70 : Int := d.2.2.2.2.2.2.2.2.2.2.1
 if (decide (s72 < s71)) = true then
  if (idxIn s72 (List.length (at_ K_Si s5.2.2.2.1 (Int.toNat s70)))) = true then
  if (decide (at_ I (at_ K_Si s5.2.2.2.1 (Int.toNat s70)) s72.toNat < (0 : Int))) = true then
   ((F_q19q 0) ((s5, (s14, (s72, ()))))).bind fun r57 =>
   if (r57.1) = true then
    if (decide (List.length s13 + List.length ([(s14, (s72, ()))]) <= lim)) = true then
    let x58 : Int := IntKind.wrap .i64 (s72 + (1 : Int))
    back ((s5, (s11, (s12, (s13 ++ ([(s14, (s72, ()))]), (s14, (s64, (s65, (s71, (x58, ((), ((((Int.toNat s70) : Nat) : Int), ()))))))))))))
    else none
   else
    let x59 : Int := IntKind.wrap .i64 (s72 + (1 : Int))
    back ((s5, (s11, (s12, (s13, (s14, (s64, (s65, (s71, (x59, ((), ((((Int.toNat s70) : Nat) : Int), ()))))))))))))
  else
   let x60 : Int := IntKind.wrap .i64 (s72 + (1 : Int))
   back ((s5, (s11, (s12, (s13, (s14, (s64, (s65, (s71, (x60, ((), ((((Int.toNat s70) : Nat) : Int), ()))))))))))))
  else none
 else
  some (.inl ((s5, (s11, (s12, (s13, (s64, (s65, ((), ())))))))))
noncomputable def q21q_l8 (N : Nat) : Nat -> q21q_l8_H -> Option q21q_l8_O
 | 0, _ => none
 | k + 1, d => q21q_l8_r N (q21q_l8 N k) d
theorem q21q_l8_ok (N : Nat) (back) (d) : roundR Γ_q21q (assoc []) 8 q21q_l8_h q21q_l8_o (loopOf Tryz.f63 8) back d = q21q_l8_r N back d := by kernel_rfl
abbrev q21q_l6_H := ((List Int × Unit) × List (List Int) × List (List Int) × List (List Int) × Unit) × Int × Bool × (List (Int × Int × Unit)) × Int × Int × Unit × Unit
abbrev q21q_l6_O := (((List Int × Unit) × List (List Int) × List (List Int) × List (List Int) × Unit) × Int × Bool × (List (Int × Int × Unit)) × Unit) ⊕ Empty
def q21q_l6_h : Form := [(5, .box K_PPZiqZSiSSiSSiq 99), (11, .v I), (12, .v .bool), (13, .own K_SPiiq 99), (64, .v I), (65, .v I), (63, .same 5 [.r, .r, .r, .l])]
def q21q_l6_o : Outs := [(.normal, [(5, .box K_PPZiqZSiSSiSSiq 99), (11, .v I), (12, .v .bool), (13, .own K_SPiiq 99)])]
noncomputable def q21q_l6_r (N : Nat) (back : q21q_l6_H -> Option q21q_l6_O) (d : q21q_l6_H) : Option q21q_l6_O :=
 let s5 : (List Int × Unit) × List (List Int) × List (List Int) × List (List Int) × Unit := d.1
 let s11 : Int := d.2.1
 let s12 : Bool := d.2.2.1
 let s13 : List (Int × Int × Unit) := d.2.2.2.1
 let s64 : Int := d.2.2.2.2.1
 let s65 : Int := d.2.2.2.2.2.1
 let s63 : Unit := d.2.2.2.2.2.2.1
 if (decide (s65 < s64)) = true then
  if (idxIn s65 (List.length s5.2.2.2.1)) = true then
  (q21q_l8 N N ((s5, (s11, (s12, (s13, (s65, (s64, (s65, ((List.length (at_ K_Si s5.2.2.2.1 s65.toNat) : Int), ((0 : Int), ((), (((s65.toNat : Nat) : Int), ()))))))))))))).bind fun o54 => match o54 with
  | .inl d55 =>
   let x56 : Int := IntKind.wrap .i64 (d55.2.2.2.2.2.1 + (1 : Int))
   back ((d55.1, (d55.2.1, (d55.2.2.1, (d55.2.2.2.1, (d55.2.2.2.2.1, (x56, ((), ()))))))))
  else none
 else
  some (.inl ((s5, (s11, (s12, (s13, ()))))))
noncomputable def q21q_l6 (N : Nat) : Nat -> q21q_l6_H -> Option q21q_l6_O
 | 0, _ => none
 | k + 1, d => q21q_l6_r N (q21q_l6 N k) d
theorem q21q_l6_ok (N : Nat) (back) (d) : roundR Γ_q21q (assoc [(8, ⟨q21q_l8_h, q21q_l8_o, q21q_l8 N N⟩)]) 6 q21q_l6_h q21q_l6_o (loopOf Tryz.f63 6) back d = q21q_l6_r N back d := by kernel_rfl
abbrev q21q_l10_H := ((List Int × Unit) × List (List Int) × List (List Int) × List (List Int) × Unit) × Int × Bool × (List (Int × Int × Unit)) × Int × Int × Unit
abbrev q21q_l10_O := (((List Int × Unit) × List (List Int) × List (List Int) × List (List Int) × Unit) × Int × Bool × Unit) ⊕ Empty
def q21q_l10_h : Form := [(5, .box K_PPZiqZSiSSiSSiq 99), (11, .v I), (12, .v .bool), (93, .own K_SPiiq 99), (94, .v I), (95, .v I)]
def q21q_l10_o : Outs := [(.normal, [(5, .box K_PPZiqZSiSSiSSiq 99), (11, .v I), (12, .v .bool)])]
noncomputable def q21q_l10_r (N : Nat) (back : q21q_l10_H -> Option q21q_l10_O) (d : q21q_l10_H) : Option q21q_l10_O :=
 let s5 : (List Int × Unit) × List (List Int) × List (List Int) × List (List Int) × Unit := d.1
 let s11 : Int := d.2.1
 let s12 : Bool := d.2.2.1
 let s93 : List (Int × Int × Unit) := d.2.2.2.1
 let s94 : Int := d.2.2.2.2.1
 let s95 : Int := d.2.2.2.2.2.1
 if (decide (s95 < s94)) = true then
  if (idxIn s95 (List.length s93)) = true then
  if (idxIn (at_ K_Piiq s93 s95.toNat).1 (List.length s5.2.2.2.1)) = true then
  if (idxIn (at_ K_Piiq s93 s95.toNat).2.1 (List.length (at_ K_Si s5.2.2.2.1 (at_ K_Piiq s93 s95.toNat).1.toNat))) = true then
  let x61 : Int := IntKind.wrap .i64 (s95 + (1 : Int))
  back (((s5.1, (s5.2.1, (s5.2.2.1, (List.set s5.2.2.2.1 (at_ K_Piiq s93 s95.toNat).1.toNat (List.set (at_ K_Si s5.2.2.2.1 (at_ K_Piiq s93 s95.toNat).1.toNat) (at_ K_Piiq s93 s95.toNat).2.1.toNat s11), s5.2.2.2.2)))), (s11, (true, (s93, (s94, (x61, ())))))))
  else none
  else none
  else none
 else
  some (.inl ((s5, (s11, (s12, ())))))
noncomputable def q21q_l10 (N : Nat) : Nat -> q21q_l10_H -> Option q21q_l10_O
 | 0, _ => none
 | k + 1, d => q21q_l10_r N (q21q_l10 N k) d
theorem q21q_l10_ok (N : Nat) (back) (d) : roundR Γ_q21q (assoc []) 10 q21q_l10_h q21q_l10_o (loopOf Tryz.f63 10) back d = q21q_l10_r N back d := by kernel_rfl
abbrev q21q_l4_H := ((List Int × Unit) × List (List Int) × List (List Int) × List (List Int) × Unit) × Int × Bool × Unit
abbrev q21q_l4_O := (((List Int × Unit) × List (List Int) × List (List Int) × List (List Int) × Unit) × Unit) ⊕ Empty
def q21q_l4_h : Form := [(5, .box K_PPZiqZSiSSiSSiq 99), (11, .v I), (12, .v .bool)]
def q21q_l4_o : Outs := [(.normal, [(5, .box K_PPZiqZSiSSiSSiq 99)])]
noncomputable def q21q_l4_r (N : Nat) (back : q21q_l4_H -> Option q21q_l4_O) (d : q21q_l4_H) : Option q21q_l4_O :=
 let s5 : (List Int × Unit) × List (List Int) × List (List Int) × List (List Int) × Unit := d.1
 let s11 : Int := d.2.1
 let s12 : Bool := d.2.2.1
 if (s12) = true then
  (q21q_l6 N N ((s5, (s11, (false, (([] : List (Int × Int × Unit)), ((List.length s5.2.2.2.1 : Int), ((0 : Int), ((), ()))))))))).bind fun o44 => match o44 with
  | .inl d45 =>
   (q21q_l10 N N ((d45.1, (d45.2.1, (d45.2.2.1, (d45.2.2.2.1, ((List.length d45.2.2.2.1 : Int), ((0 : Int), ())))))))).bind fun o47 => match o47 with
   | .inl d48 =>
    let x49 : Int := IntKind.wrap .i64 (d48.2.1 + (1 : Int))
    back ((d48.1, (x49, (d48.2.2.1, ()))))
 else
  some (.inl (s5, ()))
noncomputable def q21q_l4 (N : Nat) : Nat -> q21q_l4_H -> Option q21q_l4_O
 | 0, _ => none
 | k + 1, d => q21q_l4_r N (q21q_l4 N k) d
theorem q21q_l4_ok (N : Nat) (back) (d) : roundR Γ_q21q (assoc [(6, ⟨q21q_l6_h, q21q_l6_o, q21q_l6 N N⟩), (10, ⟨q21q_l10_h, q21q_l10_o, q21q_l10 N N⟩)]) 4 q21q_l4_h q21q_l4_o (loopOf Tryz.f63 4) back d = q21q_l4_r N back d := by kernel_rfl
noncomputable def F_q21q (N : Nat) (d : (List Int × Unit) × Int × Unit) : Option (((List Int × Unit) × List (List Int) × List (List Int) × List (List Int) × Unit) × Unit) :=
 let a0 : List Int × Unit := d.1
 let a1 : Int := d.2.1
 (G_copBoard ((a0, (a1, ())))).bind fun r1 =>
 (q21q_l0 N N ((a0, (r1.1, (r1.1.2.1, ((List.length r1.1.2.1 : Int), ((0 : Int), ()))))))).bind fun o10 => match o10 with
 | .inl d11 =>
  (q21q_l4 N N ((d11.1, ((1 : Int), (true, ()))))).bind fun o25 => match o25 with
  | .inl d26 =>
   some (d26.1, ())
theorem F_q21q_ok (N : Nat) (d) : fnR Γ_q21q (assoc [(0, ⟨q21q_l0_h, q21q_l0_o, q21q_l0 N N⟩), (4, ⟨q21q_l4_h, q21q_l4_o, q21q_l4 N N⟩)]) true [(K_PSiq, false), (I, false)] [K_BPPZiqZSiSSiSSiq] Tryz.f63.results.toList (bodyOf Tryz.f63) d = F_q21q N d := by kernel_rfl
noncomputable def S_q21q : FSig := ⟨[(K_PSiq, false), (I, false)], [K_BPPZiqZSiSSiSSiq], true, (G_copGame)⟩
noncomputable def Γ_q16q : Ctx := { tk := assoc tks, ar := assoc ars, fs := assoc [(69, S_q5q), (71, S_q14q), (116, S_q13q)] }
abbrev q16q_l0_H := ((List Int × Unit) × List (List Int) × List (List Int) × List (List Int) × Unit) × Int × Int × Int × List Int × Int × Int × Unit
abbrev q16q_l0_O := (((List Int × Unit) × List (List Int) × List (List Int) × List (List Int) × Unit) × Int × Unit) ⊕ Empty
def q16q_l0_h : Form := [(0, .v K_BPPZiqZSiSSiSSiq), (2, .v I), (7, .v I), (8, .v I), (20, .v K_Si), (21, .v I), (22, .v I)]
def q16q_l0_o : Outs := [(.normal, [(0, .v K_BPPZiqZSiSSiSSiq), (7, .v I)])]
noncomputable def q16q_l0_r (N : Nat) (back : q16q_l0_H -> Option q16q_l0_O) (d : q16q_l0_H) : Option q16q_l0_O :=
 let s0 : (List Int × Unit) × List (List Int) × List (List Int) × List (List Int) × Unit := d.1
 let s2 : Int := d.2.1
 let s7 : Int := d.2.2.1
 let s8 : Int := d.2.2.2.1
 let s20 : List Int := d.2.2.2.2.1
 let s21 : Int := d.2.2.2.2.2.1
 let s22 : Int := d.2.2.2.2.2.2.1
 if (decide (s22 < s21)) = true then
  if (idxIn s22 (List.length s20)) = true then
  if (idxIn (at_ I s20 s22.toNat) (List.length s0.2.1)) = true then
  ((F_q5q 0) ((at_ K_Si s0.2.1 (at_ I s20 s22.toNat).toNat, (s2, ())))).bind fun r27 =>
  if (!r27.1) = true then
   if (idxIn (at_ I s20 s22.toNat) (List.length s0.2.2.2.1)) = true then
   (G_timeAfter ((s0.1, (at_ K_Si s0.2.2.2.1 (at_ I s20 s22.toNat).toNat, (s2, ()))))).bind fun r28 =>
   if (decide (r28.1 >= (0 : Int))) = true then
    if (decide (s7 < (0 : Int))) = true then
     let x29 : Int := IntKind.wrap .i64 (s22 + (1 : Int))
     back ((s0, (s2, (at_ I s20 s22.toNat, (r28.1, (s20, (s21, (x29, ()))))))))
    else
     if (decide (r28.1 < s8)) = true then
      let x30 : Int := IntKind.wrap .i64 (s22 + (1 : Int))
      back ((s0, (s2, (at_ I s20 s22.toNat, (r28.1, (s20, (s21, (x30, ()))))))))
     else
      let x31 : Int := IntKind.wrap .i64 (s22 + (1 : Int))
      back ((s0, (s2, (s7, (s8, (s20, (s21, (x31, ()))))))))
   else
    let x32 : Int := IntKind.wrap .i64 (s22 + (1 : Int))
    back ((s0, (s2, (s7, (s8, (s20, (s21, (x32, ()))))))))
   else none
  else
   if (decide ((0 : Int) >= (0 : Int))) = true then
    if (decide (s7 < (0 : Int))) = true then
     let x33 : Int := IntKind.wrap .i64 (s22 + (1 : Int))
     back ((s0, (s2, (at_ I s20 s22.toNat, ((0 : Int), (s20, (s21, (x33, ()))))))))
    else
     if (decide ((0 : Int) < s8)) = true then
      let x34 : Int := IntKind.wrap .i64 (s22 + (1 : Int))
      back ((s0, (s2, (at_ I s20 s22.toNat, ((0 : Int), (s20, (s21, (x34, ()))))))))
     else
      let x35 : Int := IntKind.wrap .i64 (s22 + (1 : Int))
      back ((s0, (s2, (s7, (s8, (s20, (s21, (x35, ()))))))))
   else
    let x36 : Int := IntKind.wrap .i64 (s22 + (1 : Int))
    back ((s0, (s2, (s7, (s8, (s20, (s21, (x36, ()))))))))
  else none
  else none
 else
  some (.inl ((s0, (s7, ()))))
noncomputable def q16q_l0 (N : Nat) : Nat -> q16q_l0_H -> Option q16q_l0_O
 | 0, _ => none
 | k + 1, d => q16q_l0_r N (q16q_l0 N k) d
theorem q16q_l0_ok (N : Nat) (back) (d) : roundR Γ_q16q (assoc []) 0 q16q_l0_h q16q_l0_o (loopOf Tryz.f81 0) back d = q16q_l0_r N back d := by kernel_rfl
noncomputable def F_q16q (N : Nat) (d : ((List Int × Unit) × List (List Int) × List (List Int) × List (List Int) × Unit) × List Int × Int × Unit) : Option (List Int × Unit) :=
 let a0 : (List Int × Unit) × List (List Int) × List (List Int) × List (List Int) × Unit := d.1
 let a1 : List Int := d.2.1
 let a2 : Int := d.2.2.1
 ((F_q14q 0) ((a0, (a1, ())))).bind fun r14 =>
 if (idxIn r14.1 (List.length a0.2.2.1)) = true then
 (q16q_l0 N N ((a0, (a2, ((-1 : Int), ((0 : Int), (at_ K_Si a0.2.2.1 r14.1.toNat, ((List.length (at_ K_Si a0.2.2.1 r14.1.toNat) : Int), ((0 : Int), ()))))))))).bind fun o25 => match o25 with
 | .inl d26 =>
  if (idxIn d26.2.1 (List.length d26.1.2.1)) = true then
  some (at_ K_Si d26.1.2.1 d26.2.1.toNat, ())
  else none
 else none
theorem F_q16q_ok (N : Nat) (d) : fnR Γ_q16q (assoc [(0, ⟨q16q_l0_h, q16q_l0_o, q16q_l0 N N⟩)]) false [(K_BPPZiqZSiSSiSSiq, false), (K_Si, false), (I, false)] [K_Si] Tryz.f81.results.toList (bodyOf Tryz.f81) d = F_q16q N d := by kernel_rfl
noncomputable def S_q16q : FSig := ⟨[(K_BPPZiqZSiSSiSSiq, false), (K_Si, false), (I, false)], [K_Si], false, (G_reply)⟩
noncomputable def Γ_q12q : Ctx := { tk := assoc tks, ar := assoc ars, fs := assoc [(52, S_impl_setOf), (100, S_q23q)] }
abbrev q12q_l0_H := List Int × Int × List Int × Int × Int × Unit
abbrev q12q_l0_O := (Int × Unit) ⊕ Empty
def q12q_l0_h : Form := [(1, .v K_Si), (8, .v I), (19, .v K_Si), (20, .v I), (21, .v I)]
def q12q_l0_o : Outs := [(.normal, [(8, .v I)])]
noncomputable def q12q_l0_r (N : Nat) (back : q12q_l0_H -> Option q12q_l0_O) (d : q12q_l0_H) : Option q12q_l0_O :=
 let s1 : List Int := d.1
 let s8 : Int := d.2.1
 let s19 : List Int := d.2.2.1
 let s20 : Int := d.2.2.2.1
 let s21 : Int := d.2.2.2.2.1
 if (decide (s21 < s20)) = true then
  if (idxIn s21 (List.length s19)) = true then
  if (idxIn s8 (List.length s1)) = true then
  if (decide (at_ I s1 s8.toNat >= (0 : Int))) = true then
   if (idxIn (at_ I s19 s21.toNat) (List.length s1)) = true then
   if (decide (at_ I s1 (at_ I s19 s21.toNat).toNat < (0 : Int))) = true then
    let x10 : Int := IntKind.wrap .i64 (s21 + (1 : Int))
    back ((s1, (at_ I s19 s21.toNat, (s19, (s20, (x10, ()))))))
   else
    if (idxIn (at_ I s19 s21.toNat) (List.length s1)) = true then
    if (idxIn s8 (List.length s1)) = true then
    if (decide (at_ I s1 (at_ I s19 s21.toNat).toNat > at_ I s1 s8.toNat)) = true then
     let x11 : Int := IntKind.wrap .i64 (s21 + (1 : Int))
     back ((s1, (at_ I s19 s21.toNat, (s19, (s20, (x11, ()))))))
    else
     let x12 : Int := IntKind.wrap .i64 (s21 + (1 : Int))
     back ((s1, (s8, (s19, (s20, (x12, ()))))))
    else none
    else none
   else none
  else
   let x13 : Int := IntKind.wrap .i64 (s21 + (1 : Int))
   back ((s1, (s8, (s19, (s20, (x13, ()))))))
  else none
  else none
 else
  some (.inl (s8, ()))
noncomputable def q12q_l0 (N : Nat) : Nat -> q12q_l0_H -> Option q12q_l0_O
 | 0, _ => none
 | k + 1, d => q12q_l0_r N (q12q_l0 N k) d
theorem q12q_l0_ok (N : Nat) (back) (d) : roundR Γ_q12q (assoc []) 0 q12q_l0_h q12q_l0_o (loopOf Tryz.f70 0) back d = q12q_l0_r N back d := by kernel_rfl
noncomputable def F_q12q (N : Nat) (d : (List Int × Unit) × List Int × Int × Unit) : Option (Int × Unit) :=
 let a0 : List Int × Unit := d.1
 let a1 : List Int := d.2.1
 let a2 : Int := d.2.2.1
 ((F_q23q 0) ((a0, (a2, ())))).bind fun r1 =>
 (G_setOf (r1.1, ())).bind fun r2 =>
 if (idxIn (0 : Int) (List.length r2.1)) = true then
 if ((decide (0 <= (1 : Int)) && decide ((1 : Int) <= (List.length r2.1 : Int)) && decide ((List.length r2.1 : Int) <= (List.length r2.1 : Int)))) = true then
 let x3 : List Int := sub_ r2.1 (1 : Int) (List.length r2.1 : Int)
 (q12q_l0 N N ((a1, (at_ I r2.1 (0 : Int).toNat, (x3, ((List.length x3 : Int), ((0 : Int), ()))))))).bind fun o8 => match o8 with
 | .inl d9 =>
  some (d9.1, ())
 else none
 else none
theorem F_q12q_ok (N : Nat) (d) : fnR Γ_q12q (assoc [(0, ⟨q12q_l0_h, q12q_l0_o, q12q_l0 N N⟩)]) true [(K_PSiq, false), (K_Si, false), (I, false)] [I] Tryz.f70.results.toList (bodyOf Tryz.f70) d = F_q12q N d := by kernel_rfl
noncomputable def S_q12q : FSig := ⟨[(K_PSiq, false), (K_Si, false), (I, false)], [I], true, (G_robberMove)⟩
noncomputable def Γ_q40q : Ctx := { tk := assoc tks, ar := assoc ars, fs := assoc [(50, S_impl_netOf), (67, S_q55q), (68, S_q39q), (69, S_q5q), (70, S_q12q), (71, S_q14q), (78, S_q69q), (80, S_q10q), (81, S_q16q)], cs := assoc [], gs := assoc [(63, (S_q21q, md0))], eqt := inL [], md := md0 }
abbrev q40q_l0_H := List Int × Int × Int × List (List Int) × List Int × ((List Int × Unit) × List (List Int) × List (List Int) × List (List Int) × Unit) × Unit
abbrev q40q_l0_O := (List (List Int) × List Int × Unit) ⊕ Empty
def q40q_l0_h : Form := [(1, .v K_Si), (2, .v I), (3, .v I), (12, .own K_SSi 99), (13, .own K_Si 99), (11, .sp K_PPZiqZSiSSiSSiq)]
def q40q_l0_o : Outs := [(.normal, [(12, .own K_SSi 99), (13, .own K_Si 99)])]
noncomputable def q40q_l0_r (N : Nat) (back : q40q_l0_H -> Option q40q_l0_O) (d : q40q_l0_H) : Option q40q_l0_O :=
 let s1 : List Int := d.1
 let s2 : Int := d.2.1
 let s3 : Int := d.2.2.1
 let s12 : List (List Int) := d.2.2.2.1
 let s13 : List Int := d.2.2.2.2.1
 let s11 : (List Int × Unit) × List (List Int) × List (List Int) × List (List Int) × Unit := d.2.2.2.2.2.1
 if (decide (s3 > (0 : Int))) = true then
  ((F_q5q 0) ((s1, (s2, ())))).bind fun r30 =>
  if (!r30.1) = true then
   ((F_q14q 0) ((s11, (s1, ())))).bind fun r31 =>
   if (idxIn r31.1 (List.length s11.2.2.2.1)) = true then
   if (idxIn s2 (List.length (at_ K_Si s11.2.2.2.1 r31.1.toNat))) = true then
   if (decide (at_ I (at_ K_Si s11.2.2.2.1 r31.1.toNat) s2.toNat >= (0 : Int))) = true then
    (G_reply ((s11, (s1, (s2, ()))))).bind fun r32 =>
    (G_toIntS (r32.1, ())).bind fun r33 =>
    if (decide (List.length s12 + List.length ([r33.1]) <= lim)) = true then
    ((F_q5q 0) ((r32.1, (s2, ())))).bind fun r34 =>
    if (r34.1) = true then
     some (.inl ((s12 ++ ([r33.1]), (s13, ()))))
    else
     ((F_q14q 0) ((s11, (r32.1, ())))).bind fun r35 =>
     if (idxIn r35.1 (List.length s11.2.2.2.1)) = true then
     (G_robberMove ((s11.1, (at_ K_Si s11.2.2.2.1 r35.1.toNat, (s2, ()))))).bind fun r36 =>
     if (decide (List.length s13 + List.length ([r36.1]) <= lim)) = true then
     let x37 : Int := IntKind.wrap .i64 (s3 - (1 : Int))
     back ((r32.1, (r36.1, (x37, (s12 ++ ([r33.1]), (s13 ++ ([r36.1]), (s11, ())))))))
     else none
     else none
    else none
   else
    (G_toIntS (s1, ())).bind fun r38 =>
    if (decide (List.length s12 + List.length ([r38.1]) <= lim)) = true then
    ((F_q5q 0) ((s1, (s2, ())))).bind fun r39 =>
    if (r39.1) = true then
     some (.inl ((s12 ++ ([r38.1]), (s13, ()))))
    else
     ((F_q14q 0) ((s11, (s1, ())))).bind fun r40 =>
     if (idxIn r40.1 (List.length s11.2.2.2.1)) = true then
     (G_robberMove ((s11.1, (at_ K_Si s11.2.2.2.1 r40.1.toNat, (s2, ()))))).bind fun r41 =>
     if (decide (List.length s13 + List.length ([r41.1]) <= lim)) = true then
     let x42 : Int := IntKind.wrap .i64 (s3 - (1 : Int))
     back ((s1, (r41.1, (x42, (s12 ++ ([r38.1]), (s13 ++ ([r41.1]), (s11, ())))))))
     else none
     else none
    else none
   else none
   else none
  else
   some (.inl ((s12, (s13, ()))))
 else
  some (.inl ((s12, (s13, ()))))
noncomputable def q40q_l0 (N : Nat) : Nat -> q40q_l0_H -> Option q40q_l0_O
 | 0, _ => none
 | k + 1, d => q40q_l0_r N (q40q_l0 N k) d
theorem q40q_l0_ok (N : Nat) (back) (d) : roundR Γ_q40q (assoc []) 0 q40q_l0_h q40q_l0_o (loopOf Tryz.f42 0) back d = q40q_l0_r N back d := by kernel_rfl
noncomputable def F_q40q (N : Nat) (d : (Int × (List (Int × Int × Unit)) × Unit) × List Int × Int × Int × Unit) : Option (List (List Int) × List Int × Bool × Unit) :=
 let a0 : Int × (List (Int × Int × Unit)) × Unit := d.1
 let a1 : List Int := d.2.1
 let a2 : Int := d.2.2.1
 let a3 : Int := d.2.2.2.1
 ((F_q55q 0) ((a0, (a1, ())))).bind fun r1 =>
 if (!r1.1) = true then
  some ((([] : List (List Int)), (([] : List Int), (false, ()))))
 else
  ((F_q39q 0) ((a0, ([a2], ())))).bind fun r2 =>
  if (!r2.1) = true then
   some ((([] : List (List Int)), (([] : List Int), (false, ()))))
  else
   ((F_q5q 0) ((a1, (a2, ())))).bind fun r3 =>
   if (r3.1) = true then
    some ((([] : List (List Int)), (([] : List Int), (false, ()))))
   else
    let r4 : Bool × Unit := g_q69q ((a3, ((0 : Int), ((60 : Int), ()))))
    if (!r4.1) = true then
     some ((([] : List (List Int)), (([] : List Int), (false, ()))))
    else
     (G_netOf (a0, ())).bind fun r5 =>
     (G_copGame ((r5.1, ((List.length a1 : Int), ())))).bind fun r6 =>
     (q40q_l0 N N ((a1, (a2, (a3, (([] : List (List Int)), (([] : List Int), (r6.1, ())))))))).bind fun o28 => match o28 with
     | .inl d29 =>
      some ((d29.1, (d29.2.1, (true, ()))))
theorem F_q40q_ok (N : Nat) (d) : fnR Γ_q40q (assoc [(0, ⟨q40q_l0_h, q40q_l0_o, q40q_l0 N N⟩)]) true [(K_PiSPiiqq, false), (K_Si, false), (I, false), (I, false)] [K_SSi, K_Si, .bool] Tryz.f42.results.toList (bodyOf Tryz.f42) d = F_q40q N d := by kernel_rfl
noncomputable def S_q40q : FSig := ⟨[(K_PiSPiiqq, false), (K_Si, false), (I, false), (I, false)], [K_SSi, K_Si, .bool], true, (G_play)⟩
noncomputable def Γ_q58q : Ctx := { tk := assoc tks, ar := assoc ars, fs := assoc [] }
abbrev q58q_l0_H := List Int × List Int × Int × Unit
abbrev q58q_l0_O := (Bool × Unit) ⊕ Unit ⊕ Empty
def q58q_l0_h : Form := [(0, .v K_Si), (1, .v K_Si), (5, .v I)]
def q58q_l0_o : Outs := [(.ret, [(4, .v .bool)]), (.normal, [])]
noncomputable def q58q_l0_r (N : Nat) (back : q58q_l0_H -> Option q58q_l0_O) (d : q58q_l0_H) : Option q58q_l0_O :=
 let s0 : List Int := d.1
 let s1 : List Int := d.2.1
 let s5 : Int := d.2.2.1
 if (decide (s5 < (List.length s0 : Int))) = true then
  if (idxIn s5 (List.length s0)) = true then
  if (idxIn s5 (List.length s1)) = true then
  if (at_ I s0 s5.toNat != at_ I s1 s5.toNat) = true then
   some (.inl (false, ()))
  else
   let x5 : Int := IntKind.wrap .i64 (s5 + (1 : Int))
   back ((s0, (s1, (x5, ()))))
  else none
  else none
 else
  some (.inr (.inl ()))
noncomputable def q58q_l0 (N : Nat) : Nat -> q58q_l0_H -> Option q58q_l0_O
 | 0, _ => none
 | k + 1, d => q58q_l0_r N (q58q_l0 N k) d
theorem q58q_l0_ok (N : Nat) (back) (d) : roundR Γ_q58q (assoc []) 0 q58q_l0_h q58q_l0_o (loopOf Tryz.f25 0) back d = q58q_l0_r N back d := by kernel_rfl
noncomputable def F_q58q (N : Nat) (d : List Int × List Int × Unit) : Option (Bool × Unit) :=
 let a0 : List Int := d.1
 let a1 : List Int := d.2.1
 if ((List.length a0 : Int) != (List.length a1 : Int)) = true then
  some (false, ())
 else
  (q58q_l0 N N ((a0, (a1, ((0 : Int), ()))))).bind fun o2 => match o2 with
  | .inl d3 =>
   some (d3.1, ())
  | .inr (.inl d4) =>
   some (true, ())
theorem F_q58q_ok (N : Nat) (d) : fnR Γ_q58q (assoc [(0, ⟨q58q_l0_h, q58q_l0_o, q58q_l0 N N⟩)]) true [(K_Si, false), (K_Si, false)] [.bool] Tryz.f25.results.toList (bodyOf Tryz.f25) d = F_q58q N d := by kernel_rfl
noncomputable def S_q58q : FSig := ⟨[(K_Si, false), (K_Si, false)], [.bool], true, (G_eqIntS)⟩
noncomputable def Γ_q44q : Ctx := { tk := assoc tks, ar := assoc ars, fs := assoc [(25, S_q58q)] }
abbrev q44q_l0_H := List (List Int) × List (List Int) × Int × Unit
abbrev q44q_l0_O := (Bool × Unit) ⊕ Unit ⊕ Empty
def q44q_l0_h : Form := [(0, .v K_SSi), (1, .v K_SSi), (5, .v I)]
def q44q_l0_o : Outs := [(.ret, [(4, .v .bool)]), (.normal, [])]
noncomputable def q44q_l0_r (N : Nat) (back : q44q_l0_H -> Option q44q_l0_O) (d : q44q_l0_H) : Option q44q_l0_O :=
 let s0 : List (List Int) := d.1
 let s1 : List (List Int) := d.2.1
 let s5 : Int := d.2.2.1
 if (decide (s5 < (List.length s0 : Int))) = true then
  if (idxIn s5 (List.length s0)) = true then
  if (idxIn s5 (List.length s1)) = true then
  (G_eqIntS ((at_ K_Si s0 s5.toNat, (at_ K_Si s1 s5.toNat, ())))).bind fun r6 =>
  if (!r6.1) = true then
   some (.inl (false, ()))
  else
   let x7 : Int := IntKind.wrap .i64 (s5 + (1 : Int))
   back ((s0, (s1, (x7, ()))))
  else none
  else none
 else
  some (.inr (.inl ()))
noncomputable def q44q_l0 (N : Nat) : Nat -> q44q_l0_H -> Option q44q_l0_O
 | 0, _ => none
 | k + 1, d => q44q_l0_r N (q44q_l0 N k) d
theorem q44q_l0_ok (N : Nat) (back) (d) : roundR Γ_q44q (assoc []) 0 q44q_l0_h q44q_l0_o (loopOf Tryz.f18 0) back d = q44q_l0_r N back d := by kernel_rfl
noncomputable def F_q44q (N : Nat) (d : List (List Int) × List (List Int) × Unit) : Option (Bool × Unit) :=
 let a0 : List (List Int) := d.1
 let a1 : List (List Int) := d.2.1
 if ((List.length a0 : Int) != (List.length a1 : Int)) = true then
  some (false, ())
 else
  (q44q_l0 N N ((a0, (a1, ((0 : Int), ()))))).bind fun o3 => match o3 with
  | .inl d4 =>
   some (d4.1, ())
  | .inr (.inl d5) =>
   some (true, ())
theorem F_q44q_ok (N : Nat) (d) : fnR Γ_q44q (assoc [(0, ⟨q44q_l0_h, q44q_l0_o, q44q_l0 N N⟩)]) true [(K_SSi, false), (K_SSi, false)] [.bool] Tryz.f18.results.toList (bodyOf Tryz.f18) d = F_q44q N d := by kernel_rfl
noncomputable def S_q44q : FSig := ⟨[(K_SSi, false), (K_SSi, false)], [.bool], true, (G_eqIntSS)⟩
noncomputable def Γ_q46q : Ctx := { tk := assoc tks, ar := assoc ars, fs := assoc [] }
abbrev q46q_l0_H := (Int × Int × Unit) × (Int × Int × Unit) × Int × Unit
abbrev q46q_l0_O := (Bool × Unit) ⊕ Unit ⊕ Empty
def q46q_l0_h : Form := [(2, .box K_Piiq 99), (3, .box K_Piiq 99), (5, .v I)]
def q46q_l0_o : Outs := [(.ret, [(4, .v .bool)]), (.normal, [])]
noncomputable def q46q_l0_r (N : Nat) (back : q46q_l0_H -> Option q46q_l0_O) (d : q46q_l0_H) : Option q46q_l0_O :=
 let s2 : Int × Int × Unit := d.1
 let s3 : Int × Int × Unit := d.2.1
 let s5 : Int := d.2.2.1
 if (decide (s5 < (2 : Int))) = true then
  if (s5 == (0 : Int)) = true then
   if (s5 == (0 : Int)) = true then
    if (s2.1 != s3.1) = true then
     some (.inl (false, ()))
    else
     let x11 : Int := IntKind.wrap .i64 (s5 + (1 : Int))
     back ((s2, (s3, (x11, ()))))
   else
    if (s5 == (1 : Int)) = true then
    if (s2.1 != s3.2.1) = true then
     some (.inl (false, ()))
    else
     let x10 : Int := IntKind.wrap .i64 (s5 + (1 : Int))
     back ((s2, (s3, (x10, ()))))
    else none
  else
   if (s5 == (1 : Int)) = true then
   if (s5 == (0 : Int)) = true then
    if (s2.2.1 != s3.1) = true then
     some (.inl (false, ()))
    else
     let x9 : Int := IntKind.wrap .i64 (s5 + (1 : Int))
     back ((s2, (s3, (x9, ()))))
   else
    if (s5 == (1 : Int)) = true then
    if (s2.2.1 != s3.2.1) = true then
     some (.inl (false, ()))
    else
     let x8 : Int := IntKind.wrap .i64 (s5 + (1 : Int))
     back ((s2, (s3, (x8, ()))))
    else none
   else none
 else
  some (.inr (.inl ()))
noncomputable def q46q_l0 (N : Nat) : Nat -> q46q_l0_H -> Option q46q_l0_O
 | 0, _ => none
 | k + 1, d => q46q_l0_r N (q46q_l0 N k) d
theorem q46q_l0_ok (N : Nat) (back) (d) : roundR Γ_q46q (assoc []) 0 q46q_l0_h q46q_l0_o (loopOf Tryz.f96 0) back d = q46q_l0_r N back d := by kernel_rfl
noncomputable def F_q46q (N : Nat) (d : (Int × Int × Unit) × (Int × Int × Unit) × Unit) : Option (Bool × Unit) :=
 let a0 : Int × Int × Unit := d.1
 let a1 : Int × Int × Unit := d.2.1
 (q46q_l0 N N ((a0, (a1, ((0 : Int), ()))))).bind fun o5 => match o5 with
 | .inl d6 =>
  some (d6.1, ())
 | .inr (.inl d7) =>
  some (true, ())
theorem F_q46q_ok (N : Nat) (d) : fnR Γ_q46q (assoc [(0, ⟨q46q_l0_h, q46q_l0_o, q46q_l0 N N⟩)]) true [(K_Piiq, false), (K_Piiq, false)] [.bool] Tryz.f96.results.toList (bodyOf Tryz.f96) d = F_q46q N d := by kernel_rfl
noncomputable def S_q46q : FSig := ⟨[(K_Piiq, false), (K_Piiq, false)], [.bool], true, (G_eqIntA2)⟩
noncomputable def Γ_q37q : Ctx := { tk := assoc tks, ar := assoc ars, fs := assoc [(96, S_q46q)] }
abbrev q37q_l0_H := (List (Int × Int × Unit)) × (List (Int × Int × Unit)) × Int × Unit
abbrev q37q_l0_O := (Bool × Unit) ⊕ Unit ⊕ Empty
def q37q_l0_h : Form := [(0, .v K_SPiiq), (1, .v K_SPiiq), (5, .v I)]
def q37q_l0_o : Outs := [(.ret, [(4, .v .bool)]), (.normal, [])]
noncomputable def q37q_l0_r (N : Nat) (back : q37q_l0_H -> Option q37q_l0_O) (d : q37q_l0_H) : Option q37q_l0_O :=
 let s0 : List (Int × Int × Unit) := d.1
 let s1 : List (Int × Int × Unit) := d.2.1
 let s5 : Int := d.2.2.1
 if (decide (s5 < (List.length s0 : Int))) = true then
  if (idxIn s5 (List.length s0)) = true then
  if (idxIn s5 (List.length s1)) = true then
  (G_eqIntA2 ((at_ K_Piiq s0 s5.toNat, (at_ K_Piiq s1 s5.toNat, ())))).bind fun r6 =>
  if (!r6.1) = true then
   some (.inl (false, ()))
  else
   let x7 : Int := IntKind.wrap .i64 (s5 + (1 : Int))
   back ((s0, (s1, (x7, ()))))
  else none
  else none
 else
  some (.inr (.inl ()))
noncomputable def q37q_l0 (N : Nat) : Nat -> q37q_l0_H -> Option q37q_l0_O
 | 0, _ => none
 | k + 1, d => q37q_l0_r N (q37q_l0 N k) d
theorem q37q_l0_ok (N : Nat) (back) (d) : roundR Γ_q37q (assoc []) 0 q37q_l0_h q37q_l0_o (loopOf Tryz.f53 0) back d = q37q_l0_r N back d := by kernel_rfl
noncomputable def F_q37q (N : Nat) (d : (List (Int × Int × Unit)) × (List (Int × Int × Unit)) × Unit) : Option (Bool × Unit) :=
 let a0 : List (Int × Int × Unit) := d.1
 let a1 : List (Int × Int × Unit) := d.2.1
 if ((List.length a0 : Int) != (List.length a1 : Int)) = true then
  some (false, ())
 else
  (q37q_l0 N N ((a0, (a1, ((0 : Int), ()))))).bind fun o3 => match o3 with
  | .inl d4 =>
   some (d4.1, ())
  | .inr (.inl d5) =>
   some (true, ())
theorem F_q37q_ok (N : Nat) (d) : fnR Γ_q37q (assoc [(0, ⟨q37q_l0_h, q37q_l0_o, q37q_l0 N N⟩)]) true [(K_SPiiq, false), (K_SPiiq, false)] [.bool] Tryz.f53.results.toList (bodyOf Tryz.f53) d = F_q37q N d := by kernel_rfl
noncomputable def S_q37q : FSig := ⟨[(K_SPiiq, false), (K_SPiiq, false)], [.bool], true, (G_eqIntA2S)⟩
noncomputable def Γ_q49q : Ctx := { tk := assoc tks, ar := assoc ars, fs := assoc [(53, S_q37q)] }
noncomputable def F_q49q (N : Nat) (d : (Int × (List (Int × Int × Unit)) × Unit) × (Int × (List (Int × Int × Unit)) × Unit) × Unit) : Option (Bool × Unit) :=
 let a0 : Int × (List (Int × Int × Unit)) × Unit := d.1
 let a1 : Int × (List (Int × Int × Unit)) × Unit := d.2.1
 if (a0.1 != a1.1) = true then
  some (false, ())
 else
  (G_eqIntA2S ((a0.2.1, (a1.2.1, ())))).bind fun r1 =>
  if (!r1.1) = true then
   some (false, ())
  else
   some (true, ())
theorem F_q49q_ok (N : Nat) (d) : fnR Γ_q49q (assoc []) true [(K_PiSPiiqq, false), (K_PiSPiiqq, false)] [.bool] Tryz.f19.results.toList (bodyOf Tryz.f19) d = F_q49q N d := by kernel_rfl
noncomputable def S_q49q : FSig := ⟨[(K_PiSPiiqq, false), (K_PiSPiiqq, false)], [.bool], true, (F_q49q 0)⟩
noncomputable def Γ_q24q : Ctx := { tk := assoc tks, ar := assoc ars, fs := assoc [], lent := fun t => Nat.beq t 0 }
abbrev q24q_l2_H := (List (Int × Int × Unit)) × Int × Int × Int × Unit
abbrev q24q_l2_O := ((List (Int × Int × Unit)) × Int × Int × Unit) ⊕ Empty
def q24q_l2_h : Form := [(0, .own K_SPiiq 1), (1, .v I), (5, .v I), (6, .v I)]
def q24q_l2_o : Outs := [(.normal, [(0, .own K_SPiiq 1), (1, .v I), (5, .v I)])]
noncomputable def q24q_l2_r (N : Nat) (back : q24q_l2_H -> Option q24q_l2_O) (d : q24q_l2_H) : Option q24q_l2_O :=
 let s0 : List (Int × Int × Unit) := d.1
 let s1 : Int := d.2.1
 let s5 : Int := d.2.2.1
 let s6 : Int := d.2.2.2.1
 if (decide (s6 < (2 : Int))) = true then
  if (idxIn s5 (List.length s0)) = true then
  if (s6 == (0 : Int)) = true then
   let x24 : List (Int × Int × Unit) := List.set s0 s5.toNat (s1, (at_ K_Piiq s0 s5.toNat).2)
   let x25 : Int := IntKind.wrap .i64 (s1 + (1 : Int))
   let x26 : Int := IntKind.wrap .i64 (s6 + (1 : Int))
   back ((x24, (x25, (s5, (x26, ())))))
  else
   if (s6 == (1 : Int)) = true then
   let x21 : List (Int × Int × Unit) := List.set s0 s5.toNat (((at_ K_Piiq s0 s5.toNat).1, (s1, (at_ K_Piiq s0 s5.toNat).2.2)))
   let x22 : Int := IntKind.wrap .i64 (s1 + (1 : Int))
   let x23 : Int := IntKind.wrap .i64 (s6 + (1 : Int))
   back ((x21, (x22, (s5, (x23, ())))))
   else none
  else none
 else
  some (.inl ((s0, (s1, (s5, ())))))
noncomputable def q24q_l2 (N : Nat) : Nat -> q24q_l2_H -> Option q24q_l2_O
 | 0, _ => none
 | k + 1, d => q24q_l2_r N (q24q_l2 N k) d
theorem q24q_l2_ok (N : Nat) (back) (d) : roundR Γ_q24q (assoc []) 2 q24q_l2_h q24q_l2_o (loopOf Tryz.f54 2) back d = q24q_l2_r N back d := by kernel_rfl
abbrev q24q_l0_H := (List (Int × Int × Unit)) × Int × Int × Unit
abbrev q24q_l0_O := ((List (Int × Int × Unit)) × Int × Unit) ⊕ Empty
def q24q_l0_h : Form := [(0, .own K_SPiiq 1), (1, .v I), (5, .v I)]
def q24q_l0_o : Outs := [(.normal, [(0, .own K_SPiiq 1), (1, .v I)])]
noncomputable def q24q_l0_r (N : Nat) (back : q24q_l0_H -> Option q24q_l0_O) (d : q24q_l0_H) : Option q24q_l0_O :=
 let s0 : List (Int × Int × Unit) := d.1
 let s1 : Int := d.2.1
 let s5 : Int := d.2.2.1
 if (decide (s5 < (List.length s0 : Int))) = true then
  (q24q_l2 N N ((s0, (s1, (s5, ((0 : Int), ())))))).bind fun o18 => match o18 with
  | .inl d19 =>
   let x20 : Int := IntKind.wrap .i64 (d19.2.2.1 + (1 : Int))
   back ((d19.1, (d19.2.1, (x20, ()))))
 else
  some (.inl ((s0, (s1, ()))))
noncomputable def q24q_l0 (N : Nat) : Nat -> q24q_l0_H -> Option q24q_l0_O
 | 0, _ => none
 | k + 1, d => q24q_l0_r N (q24q_l0 N k) d
theorem q24q_l0_ok (N : Nat) (back) (d) : roundR Γ_q24q (assoc [(2, ⟨q24q_l2_h, q24q_l2_o, q24q_l2 N N⟩)]) 0 q24q_l0_h q24q_l0_o (loopOf Tryz.f54 0) back d = q24q_l0_r N back d := by kernel_rfl
noncomputable def F_q24q (N : Nat) (d : (List (Int × Int × Unit)) × Int × Unit) : Option (Int × (List (Int × Int × Unit)) × Unit) :=
 let a0 : List (Int × Int × Unit) := d.1
 let a1 : Int := d.2.1
 (q24q_l0 N N ((a0, (a1, ((0 : Int), ()))))).bind fun o10 => match o10 with
 | .inl d11 =>
  some ((d11.2.1, (d11.1, ())))
theorem F_q24q_ok (N : Nat) (d) : fnR Γ_q24q (assoc [(0, ⟨q24q_l0_h, q24q_l0_o, q24q_l0 N N⟩)]) true [(K_SPiiq, true), (I, false)] [I] Tryz.f54.results.toList (bodyOf Tryz.f54) d = F_q24q N d := by kernel_rfl
noncomputable def S_q24q : FSig := ⟨[(K_SPiiq, true), (I, false)], [I], true, (G_markIntA2S)⟩
noncomputable def Γ_q28q : Ctx := { tk := assoc tks, ar := assoc ars, fs := assoc [(54, S_q24q)], lent := fun t => Nat.beq t 0 }
noncomputable def F_q28q (N : Nat) (d : (Int × (List (Int × Int × Unit)) × Unit) × Int × Unit) : Option (Int × (Int × (List (Int × Int × Unit)) × Unit) × Unit) :=
 let a0 : Int × (List (Int × Int × Unit)) × Unit := d.1
 let a1 : Int := d.2.1
 (G_markIntA2S ((a0.2.1, (a1, ())))).bind fun r1 =>
 some ((r1.1, ((a0.1, (r1.2.1, a0.2.2)), ())))
theorem F_q28q_ok (N : Nat) (d) : fnR Γ_q28q (assoc []) true [(K_PiSPiiqq, true), (I, false)] [I] Tryz.f20.results.toList (bodyOf Tryz.f20) d = F_q28q N d := by kernel_rfl
noncomputable def S_q28q : FSig := ⟨[(K_PiSPiiqq, true), (I, false)], [I], true, (F_q28q 0)⟩
noncomputable def Γ_q31q : Ctx := { tk := assoc tks, ar := assoc ars, fs := assoc [], lent := fun t => Nat.beq t 0 }
abbrev q31q_l0_H := List Int × Int × Int × Unit
abbrev q31q_l0_O := (List Int × Int × Unit) ⊕ Empty
def q31q_l0_h : Form := [(0, .own K_Si 1), (1, .v I), (5, .v I)]
def q31q_l0_o : Outs := [(.normal, [(0, .own K_Si 1), (1, .v I)])]
noncomputable def q31q_l0_r (N : Nat) (back : q31q_l0_H -> Option q31q_l0_O) (d : q31q_l0_H) : Option q31q_l0_O :=
 let s0 : List Int := d.1
 let s1 : Int := d.2.1
 let s5 : Int := d.2.2.1
 if (decide (s5 < (List.length s0 : Int))) = true then
  if (idxIn s5 (List.length s0)) = true then
  let x5 : Int := IntKind.wrap .i64 (s1 + (1 : Int))
  let x6 : Int := IntKind.wrap .i64 (s5 + (1 : Int))
  back ((List.set s0 s5.toNat s1, (x5, (x6, ()))))
  else none
 else
  some (.inl ((s0, (s1, ()))))
noncomputable def q31q_l0 (N : Nat) : Nat -> q31q_l0_H -> Option q31q_l0_O
 | 0, _ => none
 | k + 1, d => q31q_l0_r N (q31q_l0 N k) d
theorem q31q_l0_ok (N : Nat) (back) (d) : roundR Γ_q31q (assoc []) 0 q31q_l0_h q31q_l0_o (loopOf Tryz.f26 0) back d = q31q_l0_r N back d := by kernel_rfl
noncomputable def F_q31q (N : Nat) (d : List Int × Int × Unit) : Option (Int × List Int × Unit) :=
 let a0 : List Int := d.1
 let a1 : Int := d.2.1
 (q31q_l0 N N ((a0, (a1, ((0 : Int), ()))))).bind fun o3 => match o3 with
 | .inl d4 =>
  some ((d4.2.1, (d4.1, ())))
theorem F_q31q_ok (N : Nat) (d) : fnR Γ_q31q (assoc [(0, ⟨q31q_l0_h, q31q_l0_o, q31q_l0 N N⟩)]) true [(K_Si, true), (I, false)] [I] Tryz.f26.results.toList (bodyOf Tryz.f26) d = F_q31q N d := by kernel_rfl
noncomputable def S_q31q : FSig := ⟨[(K_Si, true), (I, false)], [I], true, (G_markIntS)⟩
noncomputable def Γ_q27q : Ctx := { tk := assoc tks, ar := assoc ars, fs := assoc [(26, S_q31q)], lent := fun t => Nat.beq t 0 }
abbrev q27q_l0_H := List (List Int) × Int × Int × Unit
abbrev q27q_l0_O := (List (List Int) × Int × Unit) ⊕ Empty
def q27q_l0_h : Form := [(0, .own K_SSi 2), (1, .v I), (5, .v I)]
def q27q_l0_o : Outs := [(.normal, [(0, .own K_SSi 2), (1, .v I)])]
noncomputable def q27q_l0_r (N : Nat) (back : q27q_l0_H -> Option q27q_l0_O) (d : q27q_l0_H) : Option q27q_l0_O :=
 let s0 : List (List Int) := d.1
 let s1 : Int := d.2.1
 let s5 : Int := d.2.2.1
 if (decide (s5 < (List.length s0 : Int))) = true then
  if (idxIn s5 (List.length s0)) = true then
  (G_markIntS ((at_ K_Si s0 s5.toNat, (s1, ())))).bind fun r5 =>
  let x6 : Int := IntKind.wrap .i64 (s5 + (1 : Int))
  back ((List.set s0 s5.toNat r5.2.1, (r5.1, (x6, ()))))
  else none
 else
  some (.inl ((s0, (s1, ()))))
noncomputable def q27q_l0 (N : Nat) : Nat -> q27q_l0_H -> Option q27q_l0_O
 | 0, _ => none
 | k + 1, d => q27q_l0_r N (q27q_l0 N k) d
theorem q27q_l0_ok (N : Nat) (back) (d) : roundR Γ_q27q (assoc []) 0 q27q_l0_h q27q_l0_o (loopOf Tryz.f21 0) back d = q27q_l0_r N back d := by kernel_rfl
noncomputable def F_q27q (N : Nat) (d : List (List Int) × Int × Unit) : Option (Int × List (List Int) × Unit) :=
 let a0 : List (List Int) := d.1
 let a1 : Int := d.2.1
 (q27q_l0 N N ((a0, (a1, ((0 : Int), ()))))).bind fun o3 => match o3 with
 | .inl d4 =>
  some ((d4.2.1, (d4.1, ())))
theorem F_q27q_ok (N : Nat) (d) : fnR Γ_q27q (assoc [(0, ⟨q27q_l0_h, q27q_l0_o, q27q_l0 N N⟩)]) true [(K_SSi, true), (I, false)] [I] Tryz.f21.results.toList (bodyOf Tryz.f21) d = F_q27q N d := by kernel_rfl
noncomputable def S_q27q : FSig := ⟨[(K_SSi, true), (I, false)], [I], true, (G_markIntSS)⟩
noncomputable def Γ_q43q : Ctx := { tk := assoc tks, ar := assoc ars, fs := assoc [] }
abbrev q43q_l0_H := List Int × Int × Int × Unit
abbrev q43q_l0_O := (Int × Unit) ⊕ (Int × Unit) ⊕ Empty
def q43q_l0_h : Form := [(0, .v K_Si), (1, .v I), (5, .v I)]
def q43q_l0_o : Outs := [(.ret, [(4, .v I)]), (.normal, [(1, .v I)])]
noncomputable def q43q_l0_r (N : Nat) (back : q43q_l0_H -> Option q43q_l0_O) (d : q43q_l0_H) : Option q43q_l0_O :=
 let s0 : List Int := d.1
 let s1 : Int := d.2.1
 let s5 : Int := d.2.2.1
 if (decide (s5 < (List.length s0 : Int))) = true then
  if (idxIn s5 (List.length s0)) = true then
  if (at_ I s0 s5.toNat != s1) = true then
   some (.inl ((-1 : Int), ()))
  else
   let x6 : Int := IntKind.wrap .i64 (s1 + (1 : Int))
   let x7 : Int := IntKind.wrap .i64 (s5 + (1 : Int))
   back ((s0, (x6, (x7, ()))))
  else none
 else
  some (.inr (.inl (s1, ())))
noncomputable def q43q_l0 (N : Nat) : Nat -> q43q_l0_H -> Option q43q_l0_O
 | 0, _ => none
 | k + 1, d => q43q_l0_r N (q43q_l0 N k) d
theorem q43q_l0_ok (N : Nat) (back) (d) : roundR Γ_q43q (assoc []) 0 q43q_l0_h q43q_l0_o (loopOf Tryz.f27 0) back d = q43q_l0_r N back d := by kernel_rfl
noncomputable def F_q43q (N : Nat) (d : List Int × Int × Unit) : Option (Int × Unit) :=
 let a0 : List Int := d.1
 let a1 : Int := d.2.1
 (q43q_l0 N N ((a0, (a1, ((0 : Int), ()))))).bind fun o3 => match o3 with
 | .inl d4 =>
  some (d4.1, ())
 | .inr (.inl d5) =>
  some (d5.1, ())
theorem F_q43q_ok (N : Nat) (d) : fnR Γ_q43q (assoc [(0, ⟨q43q_l0_h, q43q_l0_o, q43q_l0 N N⟩)]) true [(K_Si, false), (I, false)] [I] Tryz.f27.results.toList (bodyOf Tryz.f27) d = F_q43q N d := by kernel_rfl
noncomputable def S_q43q : FSig := ⟨[(K_Si, false), (I, false)], [I], true, (G_heldIntS)⟩
noncomputable def Γ_q29q : Ctx := { tk := assoc tks, ar := assoc ars, fs := assoc [(27, S_q43q)] }
abbrev q29q_l0_H := List (List Int) × Int × Int × Unit
abbrev q29q_l0_O := (Int × Unit) ⊕ (Int × Unit) ⊕ Empty
def q29q_l0_h : Form := [(0, .v K_SSi), (1, .v I), (5, .v I)]
def q29q_l0_o : Outs := [(.ret, [(4, .v I)]), (.normal, [(1, .v I)])]
noncomputable def q29q_l0_r (N : Nat) (back : q29q_l0_H -> Option q29q_l0_O) (d : q29q_l0_H) : Option q29q_l0_O :=
 let s0 : List (List Int) := d.1
 let s1 : Int := d.2.1
 let s5 : Int := d.2.2.1
 if (decide (s5 < (List.length s0 : Int))) = true then
  if (idxIn s5 (List.length s0)) = true then
  (G_heldIntS ((at_ K_Si s0 s5.toNat, (s1, ())))).bind fun r6 =>
  if (decide (r6.1 < (0 : Int))) = true then
   some (.inl ((-1 : Int), ()))
  else
   let x7 : Int := IntKind.wrap .i64 (s5 + (1 : Int))
   back ((s0, (r6.1, (x7, ()))))
  else none
 else
  some (.inr (.inl (s1, ())))
noncomputable def q29q_l0 (N : Nat) : Nat -> q29q_l0_H -> Option q29q_l0_O
 | 0, _ => none
 | k + 1, d => q29q_l0_r N (q29q_l0 N k) d
theorem q29q_l0_ok (N : Nat) (back) (d) : roundR Γ_q29q (assoc []) 0 q29q_l0_h q29q_l0_o (loopOf Tryz.f22 0) back d = q29q_l0_r N back d := by kernel_rfl
noncomputable def F_q29q (N : Nat) (d : List (List Int) × Int × Unit) : Option (Int × Unit) :=
 let a0 : List (List Int) := d.1
 let a1 : Int := d.2.1
 (q29q_l0 N N ((a0, (a1, ((0 : Int), ()))))).bind fun o3 => match o3 with
 | .inl d4 =>
  some (d4.1, ())
 | .inr (.inl d5) =>
  some (d5.1, ())
theorem F_q29q_ok (N : Nat) (d) : fnR Γ_q29q (assoc [(0, ⟨q29q_l0_h, q29q_l0_o, q29q_l0 N N⟩)]) true [(K_SSi, false), (I, false)] [I] Tryz.f22.results.toList (bodyOf Tryz.f22) d = F_q29q N d := by kernel_rfl
noncomputable def S_q29q : FSig := ⟨[(K_SSi, false), (I, false)], [I], true, (G_heldIntSS)⟩
noncomputable def Γ_laws_FnExactPlayCops : Ctx := { tk := assoc tks, ar := assoc ars, fs := assoc [(12, S_q51q), (15, S_q48q), (18, S_q44q), (19, S_q49q), (20, S_q28q), (21, S_q27q), (22, S_q29q), (25, S_q58q), (26, S_q31q), (27, S_q43q), (31, S_q60q), (41, S_q41q), (42, S_q40q)] }
noncomputable def F_laws_FnExactPlayCops (N : Nat) (d : (Int × (List (Int × Int × Unit)) × Unit) × List Int × Int × Int × Unit) : Option (Bool × Unit) :=
 let a0 : Int × (List (Int × Int × Unit)) × Unit := d.1
 let a1 : List Int := d.2.1
 let a2 : Int := d.2.2.1
 let a3 : Int := d.2.2.2.1
 if (decide ((List.length a1 : Int) > (1048576 : Int))) = true then
  some (true, ())
 else
  let r1 : Int × Unit := g_q51q ((a0, ((1048576 : Int), ())))
  if (decide (r1.1 < (0 : Int))) = true then
   some (true, ())
  else
   ((F_q48q 0) (a0, ())).bind fun r2 =>
   (G_toIntS (a1, ())).bind fun r3 =>
   (G_play ((r2.1, (r3.1, (a2, (a3, ())))))).bind fun r4 =>
   ((F_q48q 0) (a0, ())).bind fun r5 =>
   (G_toIntS (a1, ())).bind fun r6 =>
   (G_play ((r5.1, (r6.1, (a2, (a3, ())))))).bind fun r7 =>
   (G_eqIntSS ((r7.1, (r4.1, ())))).bind fun r8 =>
   if (!r8.1) = true then
    some (false, ())
   else
    (G_eqIntS ((r7.2.1, (r4.2.1, ())))).bind fun r9 =>
    if (!r9.1) = true then
     some (false, ())
    else
     if (!(r7.2.2.1 == r4.2.2.1)) = true then
      some (false, ())
     else
      ((F_q48q 0) (a0, ())).bind fun r10 =>
      ((F_q49q 0) ((r5.1, (r10.1, ())))).bind fun r11 =>
      if (!r11.1) = true then
       some (false, ())
      else
       (G_toIntS (a1, ())).bind fun r12 =>
       (G_eqIntS ((r6.1, (r12.1, ())))).bind fun r13 =>
       if (!r13.1) = true then
        some (false, ())
       else
        ((F_q28q 0) ((r5.1, ((1 : Int), ())))).bind fun r14 =>
        (G_markIntS ((r6.1, (r14.1, ())))).bind fun r15 =>
        if (decide (r15.1 < (0 : Int))) = true then
         some (false, ())
        else
         (G_eqIntSS ((r7.1, (r4.1, ())))).bind fun r16 =>
         if (!r16.1) = true then
          some (false, ())
         else
          (G_eqIntS ((r7.2.1, (r4.2.1, ())))).bind fun r17 =>
          if (!r17.1) = true then
           some (false, ())
          else
           if (!(r7.2.2.1 == r4.2.2.1)) = true then
            some (false, ())
           else
            (G_markIntSS ((r7.1, ((1 : Int), ())))).bind fun r18 =>
            (G_markIntS ((r7.2.1, (r18.1, ())))).bind fun r19 =>
            (G_heldIntSS ((r18.2.1, ((1 : Int), ())))).bind fun r20 =>
            if (decide (r20.1 < (0 : Int))) = true then
             some (false, ())
            else
             (G_heldIntS ((r19.2.1, (r20.1, ())))).bind fun r21 =>
             if (decide (r21.1 < (0 : Int))) = true then
              some (false, ())
             else
              if (r21.1 != r19.1) = true then
               some (false, ())
              else
               ((F_q48q 0) (a0, ())).bind fun r22 =>
               (G_toIntS (a1, ())).bind fun r23 =>
               (G_play ((r22.1, (r23.1, (a2, (a3, ())))))).bind fun r24 =>
               (G_eqIntSS ((r24.1, (r4.1, ())))).bind fun r25 =>
               if (!r25.1) = true then
                some (false, ())
               else
                (G_eqIntS ((r24.2.1, (r4.2.1, ())))).bind fun r26 =>
                if (!r26.1) = true then
                 some (false, ())
                else
                 if (!(r24.2.2.1 == r4.2.2.1)) = true then
                  some (false, ())
                 else
                  (G_heldIntSS ((r18.2.1, ((1 : Int), ())))).bind fun r27 =>
                  if (decide (r27.1 < (0 : Int))) = true then
                   some (false, ())
                  else
                   (G_heldIntS ((r19.2.1, (r27.1, ())))).bind fun r28 =>
                   if (decide (r28.1 < (0 : Int))) = true then
                    some (false, ())
                   else
                    if (r28.1 != r19.1) = true then
                     some (false, ())
                    else
                     some (true, ())
theorem F_laws_FnExactPlayCops_ok (N : Nat) (d) : fnR Γ_laws_FnExactPlayCops (assoc []) true [(K_PiSPiiqq, false), (K_Si, false), (I, false), (I, false)] [.bool] Tryz.f11.results.toList (bodyOf Tryz.f11) d = F_laws_FnExactPlayCops N d := by kernel_rfl
noncomputable def S_laws_FnExactPlayCops : FSig := ⟨[(K_PiSPiiqq, false), (K_Si, false), (I, false), (I, false)], [.bool], true, (F_laws_FnExactPlayCops 0)⟩
end Go.V.W
set_option linter.unusedVariables false
set_option linter.unusedSimpArgs false
namespace Go.V.W
theorem wrap_nat {m : Nat} (h : m < 9223372036854775808) : IntKind.wrap .i64 (m : Int) = (m : Int) := Go.IntWalk.i64_in _ (by omega)
theorem ofInt_nat (m : Nat) : BitVec.ofInt 64 (m : Int) = BitVec.ofNat 64 m := by simp
theorem bits_or {a b : Nat} (ha : a < 256) (hb : b < 256) : bits .or .i64 (a : Int) (b : Int) = ((a ||| b : Nat) : Int) := by
 have hab : a ||| b < 256 := Nat.or_lt_two_pow (n := 8) ha hb
 have e : (BitVec.ofInt IntKind.i64.bits (a : Int) ||| BitVec.ofInt IntKind.i64.bits (b : Int)).toNat = a ||| b := by
  show (BitVec.ofInt 64 (a : Int) ||| BitVec.ofInt 64 (b : Int)).toNat = a ||| b
  rw [ofInt_nat, ofInt_nat, BitVec.toNat_or, BitVec.toNat_ofNat, BitVec.toNat_ofNat, Nat.mod_eq_of_lt (by omega), Nat.mod_eq_of_lt (by omega)]
 unfold bits bitI
 simp only [Option.getD_some]
 rw [e]
 exact wrap_nat (by omega)
theorem bits_and {a b : Nat} (ha : a < 256) (hb : b < 256) : bits .and .i64 (a : Int) (b : Int) = ((a &&& b : Nat) : Int) := by
 have hab : a &&& b <= a := Nat.and_le_left
 have e : (BitVec.ofInt IntKind.i64.bits (a : Int) &&& BitVec.ofInt IntKind.i64.bits (b : Int)).toNat = a &&& b := by
  show (BitVec.ofInt 64 (a : Int) &&& BitVec.ofInt 64 (b : Int)).toNat = a &&& b
  rw [ofInt_nat, ofInt_nat, BitVec.toNat_and, BitVec.toNat_ofNat, BitVec.toNat_ofNat, Nat.mod_eq_of_lt (by omega), Nat.mod_eq_of_lt (by omega)]
 unfold bits bitI
 simp only [Option.getD_some]
 rw [e]
 exact wrap_nat (by omega)
theorem shl_one {y : Nat} (h : y < 8) : shl .i64 1 (y : Int) = ((2 ^ y : Nat) : Int) := by
 have : y = 0 \/ y = 1 \/ y = 2 \/ y = 3 \/ y = 4 \/ y = 5 \/ y = 6 \/ y = 7 := by omega
 rcases this with rfl | rfl | rfl | rfl | rfl | rfl | rfl | rfl <;> decide
theorem pow_small {y : Nat} (h : y < 8) : 2 ^ y < 256 := by
 have : y = 0 \/ y = 1 \/ y = 2 \/ y = 3 \/ y = 4 \/ y = 5 \/ y = 6 \/ y = 7 := by omega
 rcases this with rfl | rfl | rfl | rfl | rfl | rfl | rfl | rfl <;> decide
theorem shr_nat {m y : Nat} (h : y < 8) : shr .i64 (m : Int) (y : Int) = ((m >>> y : Nat) : Int) := by
 unfold shr
 have e : min (y : Int).toNat IntKind.i64.bits = y := by
  show min (y : Int).toNat 64 = y
  rw [Int.toNat_natCast]
  omega
 rw [e, Nat.shiftRight_eq_div_pow, Int.fdiv_eq_ediv_of_nonneg _ (by
  have := Nat.two_pow_pos y
  exact_mod_cast Nat.zero_le (2 ^ y))]
 norm_cast
theorem has_bit {m y : Nat} (hm : m < 256) (h : y < 8) : (bits .and .i64 (shr .i64 (m : Int) (y : Int)) 1 == (1 : Int)) = m.testBit y := by
 have h1 : m >>> y < 256 := by
  rw [Nat.shiftRight_eq_div_pow]
  exact Nat.lt_of_le_of_lt (Nat.div_le_self _ _) hm
 rw [shr_nat h]
 have := bits_and h1 (show 1 < 256 by omega)
 rw [show ((1 : Nat) : Int) = 1 from rfl] at this
 rw [this, Nat.testBit_eq_decide_div_mod_eq, Nat.shiftRight_eq_div_pow, Nat.and_one_is_mod]
 have : m / 2 ^ y % 2 = 0 \/ m / 2 ^ y % 2 = 1 := by omega
 rcases this with h | h <;> simp [h]
def okN (n : Nat) (ms : List Nat) : Prop := ms.length = n /\ ∀ x, ms.getD x 0 < 256
theorem okN_zero (n : Nat) : okN n (List.replicate n 0) := by
 refine ⟨by simp, fun x => ?_⟩
 simp only [List.getD_eq_getElem?_getD, List.getElem?_replicate]
 split <;> simp
theorem getD_set (ms : List Nat) (a x v : Nat) (h : a < ms.length) : (ms.set a v).getD x 0 = if x = a then v else ms.getD x 0 := by
 simp only [List.getD_eq_getElem?_getD, List.getElem?_set]
 by_cases e : x = a
 ·subst e; simp [h]
 ·simp [e, Ne.symm e]
theorem orN_ok {n : Nat} {ms : List Nat} (h : okN n ms) {a b : Nat} (ha : a < n) (hb : b < 8) : okN n (orN ms a b) := by
 refine ⟨by simp [orN, h.1], fun x => ?_⟩
 unfold orN
 rw [getD_set _ _ _ _ (by rw [h.1]; exact ha)]
 split
 ·exact Nat.or_lt_two_pow (n := 8) (h.2 a) (pow_small hb)
 ·exact h.2 x
theorem orN_bit {n : Nat} {ms : List Nat} (h : okN n ms) {a b : Nat} (ha : a < n) (x y : Nat) : ((orN ms a b).getD x 0).testBit y = ((ms.getD x 0).testBit y || (decide (x = a) && decide (y = b))) := by
 unfold orN
 rw [getD_set _ _ _ _ (by rw [h.1]; exact ha)]
 by_cases e : x = a
 ·subst e
  simp only [if_true, Nat.testBit_or, Nat.testBit_two_pow, decide_true, Bool.true_and]
  congr 1
  by_cases e : y = b
  ·simp [e]
  ·simp [e, Ne.symm e]
 ·simp [e]
theorem edgeB_nat {n : Nat} {e : E} (h : edgeB (n : Int) e = true) : e.1.toNat < e.2.1.toNat /\ e.2.1.toNat < n /\ e.1 = (e.1.toNat : Int) /\ e.2.1 = (e.2.1.toNat : Int) := by
 unfold edgeB at h
 simp only [Bool.and_eq_true, decide_eq_true_eq] at h
 omega
theorem addN_ok {n : Nat} {ms : List Nat} (hn : n <= 8) (h : okN n ms) {e : E} (he : edgeB (n : Int) e = true) : okN n (addN ms e) := by
 obtain ⟨h1, h2, _, _⟩ := edgeB_nat he
 exact orN_ok (orN_ok h (by omega) (by omega)) h2 (by omega)
def isE (e : E) (x y : Nat) : Bool := (decide (x = e.1.toNat) && decide (y = e.2.1.toNat)) || (decide (x = e.2.1.toNat) && decide (y = e.1.toNat))
theorem foldN_ok {n : Nat} (hn : n <= 8) : ∀ (es : List E) (ms : List Nat), okN n ms -> es.all (edgeB (n : Int)) = true -> okN n (es.foldl addN ms) /\ ∀ x y, ((es.foldl addN ms).getD x 0).testBit y = ((ms.getD x 0).testBit y || es.any (fun e => isE e x y)) := by
 intro es
 induction es with
 | nil => intro ms h _; exact ⟨h, fun x y => by simp⟩
 | cons e es ih =>
  intro ms h he
  simp only [List.all_cons, Bool.and_eq_true] at he
  obtain ⟨h1, h2, _, _⟩ := edgeB_nat he.1
  obtain ⟨k1, k2⟩ := ih (addN ms e) (addN_ok hn h he.1) he.2
  refine ⟨k1, fun x y => ?_⟩
  rw [List.foldl_cons, k2 x y]
  unfold addN
  rw [orN_bit (orN_ok h (show e.1.toNat < n by omega) (by omega)) h2, orN_bit h (show e.1.toNat < n by omega)]
  simp only [List.any_cons, isE, Bool.or_assoc]
theorem netN_ok {n : Nat} (hn : n <= 8) {es : List E} (h : es.all (edgeB (n : Int)) = true) : okN n (netN n es) := (foldN_ok hn es _ (okN_zero n) h).1
theorem netN_bit {n : Nat} (hn : n <= 8) {es : List E} (h : es.all (edgeB (n : Int)) = true) (x y : Nat) : hasN (netN n es) x y = es.any (fun e => isE e x y) := by
 unfold hasN netN
 rw [(foldN_ok hn es _ (okN_zero n) h).2 x y]
 have : ((List.replicate n 0).getD x 0).testBit y = false := by
  simp only [List.getD_eq_getElem?_getD, List.getElem?_replicate]
  split <;> simp
 rw [this, Bool.false_or]
theorem toI_from (ms : List Nat) : fromI (toI ms) = ms := by
 unfold fromI toI
 rw [List.map_map]
 exact List.map_id' _
theorem at_toI (ms : List Nat) (x : Nat) : at_ (.int .i64) (toI ms) x = ((ms.getD x 0 : Nat) : Int) := by
 unfold at_ toI
 simp only [List.getD_eq_getElem?_getD, List.getElem?_map]
 cases ms[x]? <;> rfl
theorem toI_set (ms : List Nat) (x v : Nat) : List.set (toI ms) x (v : Int) = toI (ms.set x v) := by
 simp [toI, List.map_set]
theorem toI_len (ms : List Nat) : (toI ms).length = ms.length := by simp [toI]
end Go.V.W
set_option linter.unusedVariables false
set_option linter.unusedSimpArgs false
namespace Go.V
/-- Every order is good if each operation, when it may come up, keeps what is held of the listed ones. -/
theorem wpAny_inv {P : Program} {Q : Exit -> Act -> World -> Prop} {ops : Array Oper} {Φ : (Nat -> Bool) -> Act -> World -> Prop} (back : ∀ (i : Nat) o, ops[i]? = some o -> ∀ e ∈ o.after, Region.binds .any e = true -> e.on < i)
    (hdone : ∀ L a w, (∀ i, i < ops.size -> L i = true) -> Φ L a w -> Q .normal a w)
    (hstep : ∀ L a w j o, ops[j]? = some o -> L j = false -> Closed ops L -> (∀ e ∈ o.after, Region.binds .any e = true -> L e.on = true) -> Φ L a w -> o.guard = none /\ ∀ K : Act -> World -> Prop, (∀ a' w', Φ (fun i => L i || decide (i = j)) a' w' -> K a' w') -> o.wp P a w K Q) :
    ∀ (fuel : Nat) (listed : Array Bool) (a : Act) (w : World), listed.size = ops.size -> listed.toList.count false = fuel -> Closed ops (fun i => listed.getD i false) -> Φ (fun i => listed.getD i false) a w -> wpAny P .any ops Q fuel listed a w := by
  have hready : ∀ (listed : Array Bool), listed.size = ops.size -> Region.ready .any ops listed = [] -> ∀ i, i < ops.size -> listed.getD i false = true := by
    intro listed hsz hr
    have key : ∀ m i, i < m -> i < ops.size -> listed.getD i false = true := by
      intro m
      induction m with
      | zero => intro i hi; omega
      | succ m ih =>
        intro i hi hlt
        by_cases him : i < m
        · exact ih i him hlt
        · cases hl : listed.getD i false with
          | true => rfl
          | false =>
            exfalso
            have ho' : ops[i]? = some ops[i] := by simp [hlt]
            have : i ∈ Region.ready .any ops listed := by
              rw [mem_ready]
              have hl2 : i < listed.size := by omega
              refine ⟨?_, _, ho', fun e he hb => ih e.on ?_ ?_⟩
              · simp only [Array.getD, hl2, dif_pos] at hl |-; exact hl
              · have := back i _ ho' e he hb; omega
              · have := back i _ ho' e he hb; omega
            rw [hr] at this
            simp at this
    exact fun i hi => key (i + 1) i (by omega) hi
  intro fuel
  induction fuel with
  | zero =>
    intro listed a w hsz hc hL hi
    have hall : ∀ i, i < ops.size -> listed.getD i false = true := by
      intro i hlt
      have hlt' : i < listed.size := by omega
      rw [List.count_eq_zero] at hc
      cases hb : listed.getD i false with
      | true => rfl
      | false =>
        exfalso
        apply hc
        simp only [Array.getD, hlt', dif_pos] at hb
        rw [<- hb]
        exact Array.getElem_mem_toList hlt'
    refine ⟨?_, hdone _ a w hall hi⟩
    apply List.eq_nil_iff_forall_not_mem.2
    intro i hm
    rw [mem_ready] at hm
    obtain ⟨h1, o, h2, _⟩ := hm
    have hlt := (Array.getElem?_eq_some_iff.1 h2).1
    have := hall i hlt
    have hlt' : i < listed.size := by omega
    simp only [Array.getD, hlt', dif_pos] at h1 this
    rw [this] at h1
    cases h1
  | succ fuel ih =>
    intro listed a w hsz hc hL hi
    refine ⟨fun hr => hdone _ a w (hready listed hsz hr) hi, fun j hj => ?_⟩
    rw [mem_ready] at hj
    obtain ⟨h1, o, ho, hr⟩ := hj
    have hlt := (Array.getElem?_eq_some_iff.1 ho).1
    have hlt' : j < listed.size := by omega
    have hjf : listed.getD j false = false := by simp only [Array.getD, hlt', dif_pos] at h1 |-; exact h1
    obtain ⟨hg, hs⟩ := hstep _ a w j o ho hjf hL hr hi
    unfold wpOp
    rw [ho]
    simp only [Region.wanted, hg, if_true]
    refine .inl (hs _ fun a' w' hi' => ih (listed.setIfInBounds j true) a' w' (by simpa using hsz) ?_ ?_ ?_)
    · have hlj : listed[j] = false := by simp only [Array.getD, hlt', dif_pos] at hjf; exact hjf
      rw [Array.toList_setIfInBounds, List.count_set (by simpa using hlt')]
      simp [hlj, hc]
    · intro i o' ho' hli e he hb
      simp only [getD_set hlt', Bool.or_eq_true, decide_eq_true_eq] at hli |-
      rcases hli with hli | hli
      · exact .inl (hL i o' ho' hli e he hb)
      · subst hli
        rw [ho] at ho'
        injection ho' with ho'
        subst ho'
        exact .inl (hr e he hb)
    · have e : (fun i => (listed.setIfInBounds j true).getD i false) = fun i => listed.getD i false || decide (i = j) := by
        funext i
        exact getD_set hlt'
      rw [e]
      exact hi'
theorem wp_draw_inv {P : Program} {Q : Exit -> Act -> World -> Prop} {ops : Array Oper} {rid : Nat} {a : Act} {w : World} (Φ : (Nat -> Bool) -> Act -> World -> Prop) (hm : P.follows .mixedOrders = true) (back : ∀ (i : Nat) o, ops[i]? = some o -> ∀ e ∈ o.after, Region.binds .any e = true -> e.on < i)
    (hdone : ∀ L a w, (∀ i, i < ops.size -> L i = true) -> Φ L a w -> Q .normal a w)
    (hstep : ∀ L a w j o, ops[j]? = some o -> L j = false -> Closed ops L -> (∀ e ∈ o.after, Region.binds .any e = true -> L e.on = true) -> Φ L a w -> o.guard = none /\ ∀ K : Act -> World -> Prop, (∀ a' w', Φ (fun i => L i || decide (i = j)) a' w' -> K a' w') -> o.wp P a w K Q)
    (h0 : Φ (fun _ => false) a { w with drawn := w.drawn + 1 }) : (Code.region rid ops true).wp P Q a w := by
  refine wp_region_any hm ?_
  have e2 : (fun i => (Array.replicate ops.size false).getD i false) = fun _ => false := by
    funext i
    simp only [Array.getD_eq_getD_getElem?]
    by_cases hj : i < ops.size
    · simp [hj]
    · simp [hj]
  refine wpAny_inv back hdone hstep ops.size _ a _ (by simp) (by simp) (fun j o ho hl => ?_) (by rw [e2]; exact h0)
  rw [e2] at hl
  cases hl
end Go.V
namespace Go.V.W
open Go.Proofs Go.RowKit
def regOf (id : Nat) : Code -> Option (Array Oper)
  | .region i ops _ => if i = id then some ops else none
  | .seq a b => (regOf id a).or (regOf id b)
  | .cond _ a b => (regOf id a).or (regOf id b)
  | .block _ c => regOf id c
  | .loop c => regOf id c
  | .scope c => regOf id c
  | _ => none
noncomputable def ops9 : Array Oper := (regOf 9 (bodyOf Tryz.f104)).getD #[]
noncomputable def dof (j : Nat) : Option (Option Tmp × Op × Option (Nat × Bool)) := (ops9[j]?).map fun o => (o.dst, o.op, o.guard)
theorem o9_0 : dof 0 = some (some 38, .move (.tmp 8), none) := by kernel_rfl
theorem o9_1 : dof 1 = some (some 39, .move (.tmp 7), none) := by kernel_rfl
theorem o9_2 : dof 2 = some (some 40, .move (.tmp 8), none) := by kernel_rfl
theorem o9_3 : dof 3 = some (some 41, .slice 37 (.tmp 39) (some (.tmp 40)) none none, none) := by kernel_rfl
theorem o9_4 : dof 4 = some (some 42, .move (.tmp 7), none) := by kernel_rfl
theorem o9_5 : dof 5 = some (some 43, .move (.tmp 8), none) := by kernel_rfl
theorem o9_6 : dof 6 = some (some 44, .slice 37 (.tmp 42) none (some (.tmp 43)) none, none) := by kernel_rfl
theorem o9_7 : dof 7 = some (some 45, .call { callee := .builtin .copy, args := #[.tmp 41, .tmp 44], argTypes := #[37, 37] }, none) := by kernel_rfl
theorem o9_8 : dof 8 = some (some 46, .binOp .add 3 (.tmp 38) (.tmp 45) 3, none) := by kernel_rfl
theorem o9_9 : dof 9 = some (some 8, .assign (.tmp 46), none) := by kernel_rfl
theorem size9 : ops9.size = 10 := by kernel_rfl
def backB (ops : Array Oper) : Bool := (List.range ops.size).all fun i => ((ops[i]?).map fun o => o.after.toList.all fun e => !Region.binds .any e || decide (e.on < i)).getD true
theorem back9B : backB ops9 = true := by kernel_rfl
theorem back9 : ∀ (i : Nat) o, ops9[i]? = some o -> ∀ e ∈ o.after, Region.binds .any e = true -> e.on < i := by
  intro i o ho e he hb
  have h := back9B
  unfold backB at h
  rw [List.all_eq_true] at h
  have hi := (Array.getElem?_eq_some_iff.1 ho).1
  have h1 := h i (List.mem_range.2 hi)
  rw [ho] at h1
  simp only [Option.map_some, Option.getD_some, List.all_eq_true] at h1
  have h2 := h1 e (Array.mem_toList_iff.2 he)
  rw [hb] at h2
  simpa using h2
noncomputable def hasE (i j : Nat) : Bool := ((ops9[i]?).map fun o => o.after.toList.any fun e => Region.binds .any e && e.on == j).getD false
theorem hasE_of {i j : Nat} (h : hasE i j = true) {o : Oper} (ho : ops9[i]? = some o) : ∃ e ∈ o.after, Region.binds .any e = true /\ e.on = j := by
  unfold hasE at h
  rw [ho] at h
  simp only [Option.map_some, Option.getD_some, List.any_eq_true, Bool.and_eq_true, beq_iff_eq] at h
  obtain ⟨e, he, h1, h2⟩ := h
  exact ⟨e, Array.mem_toList_iff.1 he, h1, h2⟩
theorem clos {L : Nat -> Bool} (hL : Closed ops9 L) {i j : Nat} (h : hasE i j = true) (hi : i < 10) (h1 : L i = true) : L j = true := by
  have hs := size9
  have hlt : i < ops9.size := by omega
  have ho : ops9[i]? = some ops9[i] := Array.getElem?_eq_getElem hlt
  obtain ⟨e, he, hb, rfl⟩ := hasE_of h ho
  exact hL i _ ho h1 e he hb
theorem rdy {L : Nat -> Bool} {i j : Nat} {o : Oper} (h : hasE i j = true) (ho : ops9[i]? = some o) (hr : ∀ e ∈ o.after, Region.binds .any e = true -> L e.on = true) : L j = true := by
  obtain ⟨e, he, hb, rfl⟩ := hasE_of h ho
  exact hr e he hb
def val (a0 F : Nat -> Value) (L : Nat -> Bool) (t : Nat) : Value := if t = 8 then (if L 9 = true then F 9 else a0 8) else if 38 <= t /\ t <= 46 then (if L (t - 38) = true then F (t - 38) else a0 t) else a0 t
def dstv (j : Nat) : Nat := if j = 9 then 8 else 38 + j
theorem val_step (a0 F : Nat -> Value) (L : Nat -> Bool) {j : Nat} (hj : j <= 9) (t : Nat) : (if t = dstv j then F j else val a0 F L t) = val a0 F (fun i => L i || decide (i = j)) t := by
  unfold val dstv
  by_cases e9 : j = 9
  · subst e9
    simp only [if_true]
    by_cases et : t = 8
    · simp [et]
    · simp only [et, if_false]
      by_cases er : 38 <= t /\ t <= 46
      · have : ¬ t - 38 = 9 := by omega
        simp [er, this]
      · simp [er]
  · simp only [e9, if_false]
    by_cases et : t = 8
    · subst et
      have h1 : ¬ 8 = 38 + j := by omega
      have h2 : ¬ (9 = j) := fun h => e9 h.symm
      simp [h1, h2]
    · simp only [et, if_false]
      by_cases er : 38 <= t /\ t <= 46
      · simp only [er, and_self, if_true]
        by_cases ej : t = 38 + j
        · subst ej
          simp
        · have : ¬ t - 38 = j := by omega
          simp [ej, this]
      · have : ¬ t = 38 + j := by omega
        simp [er, this]
def rowL (n m : Nat) (x z : Value) : List Value := List.replicate m x ++ List.replicate (n - m) z
theorem rowL_splice {n m c : Nat} {x z : Value} (h : m + c <= n) : (rowL n m x z).take m ++ List.replicate c x ++ (rowL n m x z).drop (m + c) = rowL n (m + c) x z := by
  unfold rowL
  have e1 : (List.replicate m x ++ List.replicate (n - m) z).take m = List.replicate m x := by simp
  have e2 : (List.replicate m x ++ List.replicate (n - m) z).drop (m + c) = List.replicate (n - (m + c)) z := by
    rw [List.drop_append]
    simp
    omega
  rw [e1, e2, <- List.replicate_append_replicate]
theorem row_src {w : World} {g : Nat} {L : List Value} {T : TypeId} (h : w.heap[g]? = some (.cells L.toArray T (0, 0))) : ∀ j v, L[j]? = some v -> w.cell? ((⟨g, 0, none⟩ : Addr).add j) = some v := by
  intro j v hj
  by_cases e : j = 0
  · subst e
    simp [World.cell?, Addr.add, h, hj]
  · simp [World.cell?, Addr.add, h, hj, e]
theorem eval_tmp (a : Act) (t : Nat) : a.eval (.tmp t) = a.tmps.getD t undef := rfl
theorem put_getD {a : Act} {d t : Nat} {v : Value} (hd : d < a.tmps.size) : (a.put (some d) v).tmps.getD t undef = if t = d then v else a.tmps.getD t undef := by
  unfold Act.put
  by_cases e : t = d
  · subst e
    simp [Array.getD_eq_getD_getElem?, hd]
  · have e' : d ≠ t := fun h => e h.symm
    simp [Array.getD_eq_getD_getElem?, Array.getElem?_setIfInBounds_ne e', e]
/-- What is held of the listed operations. -/
structure Phi (a0 F : Nat -> Value) (df : List Deferred) (sz g n m c B : Nat) (x z : Value) (T : TypeId) (w0 : World) (L : Nat -> Bool) (a : Act) (w : World) : Prop where
  size : a.tmps.size = sz
  defers : a.defers = df
  tmps : ∀ t, a.tmps.getD t undef = val a0 F L t
  row : w.heap[g]? = some (.cells (rowL n (if L 7 = true then m + c else m) x z).toArray T (0, 0))
  below : Below B w0 w
theorem dof_of {j : Nat} {d : Option Tmp} {p : Op} {gd : Option (Nat × Bool)} (h : dof j = some (d, p, gd)) {o : Oper} (ho : ops9[j]? = some o) : o.dst = d /\ o.op = p /\ o.guard = gd := by
  unfold dof at h
  rw [ho] at h
  simp only [Option.map_some, Option.some.injEq, Prod.mk.injEq] at h
  exact h
theorem Phi.fin {P : Program} {Q : Exit -> Act -> World -> Prop} {a0 F : Nat -> Value} {df : List Deferred} {g n m c B : Nat} {x z : Value} {T : TypeId} {w0 w w' : World} {L : Nat -> Bool} {a : Act} (h : Phi a0 F df 48 g n m c B x z T w0 L a w) {j : Nat} (hj : j <= 9) {o : Oper} (hd : o.dst = some (dstv j))
    (hrun : (execOp a.eval o).run P w = .ok (.value (F j)) w') (hrow : w'.heap[g]? = some (.cells (rowL n (if (L 7 || decide (7 = j)) = true then m + c else m) x z).toArray T (0, 0))) (hB : Below B w0 w')
    (K : Act -> World -> Prop) (hK : ∀ a' w', Phi a0 F df 48 g n m c B x z T w0 (fun i => L i || decide (i = j)) a' w' -> K a' w') : o.wp P a w K Q := by
  refine wp_value hrun (hK _ _ ⟨?_, ?_, fun t => ?_, hrow, hB⟩)
  · rw [hd]
    simp [Act.put, h.size]
  · rw [hd]
    exact h.defers
  · rw [hd, put_getD (by rw [h.size]; unfold dstv; split <;> omega), h.tmps t]
    exact val_step a0 F L hj t
theorem Phi.fin0 {P : Program} {Q : Exit -> Act -> World -> Prop} {a0 F : Nat -> Value} {df : List Deferred} {g n m c B : Nat} {x z : Value} {T : TypeId} {w0 w : World} {L : Nat -> Bool} {a : Act} (h : Phi a0 F df 48 g n m c B x z T w0 L a w) {j : Nat} (hj : j <= 9) (hj7 : 7 ≠ j) {o : Oper} (hd : o.dst = some (dstv j))
    (hrun : (execOp a.eval o).run P w = .ok (.value (F j)) w)
    (K : Act -> World -> Prop) (hK : ∀ a' w', Phi a0 F df 48 g n m c B x z T w0 (fun i => L i || decide (i = j)) a' w' -> K a' w') : o.wp P a w K Q := by
  refine h.fin hj hd hrun ?_ h.below K hK
  have : (L 7 || decide (7 = j)) = L 7 := by simp [hj7]
  rw [this]
  exact h.row
def Fv (g n m c : Nat) : Nat -> Value
  | 0 => .int .i64 (m : Int)
  | 1 => .slice (some ⟨g, 0, none⟩) n n
  | 2 => .int .i64 (m : Int)
  | 3 => .slice (some ⟨g, m, none⟩) (n - m) (n - m)
  | 4 => .slice (some ⟨g, 0, none⟩) n n
  | 5 => .int .i64 (m : Int)
  | 6 => .slice (some ⟨g, 0, none⟩) m n
  | 7 => .int .i64 (c : Int)
  | 8 => .int .i64 ((m + c : Nat) : Int)
  | _ => .int .i64 ((m + c : Nat) : Int)
theorem val8 {a0 F : Nat -> Value} {L : Nat -> Bool} (h : L 9 = false) : val a0 F L 8 = a0 8 := by simp [val, h]
theorem val7 {a0 F : Nat -> Value} {L : Nat -> Bool} : val a0 F L 7 = a0 7 := by simp [val]
theorem valD {a0 F : Nat -> Value} {L : Nat -> Bool} {j : Nat} (hj : j <= 8) (h : L j = true) : val a0 F L (38 + j) = F j := by
  unfold val
  have h1 : ¬ 38 + j = 8 := by omega
  have h2 : 38 <= 38 + j /\ 38 + j <= 46 := by omega
  have h3 : 38 + j - 38 = j := by omega
  simp only [h1, if_false, h2, and_self, if_true, h3, h]
theorem sz3 : (Tryz.prog.info? 3).map (·.size) = some 1 := by kernel_rfl
theorem elem32 : Tryz.prog.elem 37 = 3 := by kernel_rfl
theorem und32 : Tryz.prog.underlying 37 = some (.slice (Tryz.prog.elem 37)) := by kernel_rfl
theorem sliced_l {n m g : Nat} (w : World) (hmn : m < n) : (Instr.sliceAt 37 (.slice (some ⟨g, 0, none⟩) n n) (some (.int .i64 (m : Int))) none none).run Tryz.prog w = .ok (.slice (some ⟨g, m, none⟩) (n - m) (n - m)) w := by
  have hs := Tryz.sizeOf3 w
  have hne : ¬ n = m := by omega
  rw [run_sliceAt_slice w 37 _ _ _ _ und32, run_slice_l w 37 _ n n und32 .i64 (m : Int) (by omega) (by omega), elem32, hs]
  simp only [Result.andThen, sliced, Int.toNat_natCast, hne, if_false, Option.map_some, Addr.add, Nat.mul_one, Nat.zero_add]
  by_cases h0 : m = 0
  · subst h0
    simp
  · simp [h0]
theorem sliced_h {n m g : Nat} (w : World) (hmn : m < n) : (Instr.sliceAt 37 (.slice (some ⟨g, 0, none⟩) n n) none (some (.int .i64 (m : Int))) none).run Tryz.prog w = .ok (.slice (some ⟨g, 0, none⟩) m n) w := by
  have hs := Tryz.sizeOf3 w
  have hne : ¬ n = 0 := by omega
  rw [run_sliceAt_slice w 37 _ _ _ _ und32, run_slice_h w 37 _ n n und32 .i64 (m : Int) (by omega) (by omega), elem32, hs]
  simp [Result.andThen, sliced, Addr.add]
theorem reg9 {Q : Exit -> Act -> World -> Prop} {rid : Nat} {a : Act} {w w0 : World} {g n m c B : Nat} {xi zi : Int} {T : TypeId} {a0 : Nat -> Value} (hsz : a.tmps.size = 48) (ha0 : ∀ t, a.tmps.getD t undef = a0 t) (h7 : a0 7 = .slice (some ⟨g, 0, none⟩) n n) (h8 : a0 8 = .int .i64 (m : Int))
    (hm : 1 <= m) (hmn : m < n) (hn : n <= 8) (hc : c = min m (n - m)) (hg : w.heap[g]? = some (.cells (rowL n m (.int .i64 xi) (.int .i64 zi)).toArray T (0, 0))) (hB : Below B w0 w) (hBg : B <= g)
    (hQ : ∀ a' w', Phi a0 (Fv g n m c) a.defers 48 g n m c B (.int .i64 xi) (.int .i64 zi) T w0 (fun _ => true) a' w' -> Q .normal a' w') : (Code.region rid ops9 true).wp Tryz.prog Q a w := by
  have h0 : Phi a0 (Fv g n m c) a.defers 48 g n m c B (.int .i64 xi) (.int .i64 zi) T w0 (fun _ => false) a { w with drawn := w.drawn + 1 } :=
    ⟨hsz, rfl, fun t => by rw [ha0 t]; unfold val; by_cases e : t = 8 <;> simp [e], hg, ⟨hB.os, hB.tape, hB.output, hB.size, hB.block⟩⟩
  refine wp_draw_inv (Phi a0 (Fv g n m c) a.defers 48 g n m c B (.int .i64 xi) (.int .i64 zi) T w0) (by kernel_rfl) back9 (fun L a' w' hL h => ?_) (fun L a1 w1 j o ho hj hL hr h => ?_) h0
  · refine hQ a' w' ⟨h.size, h.defers, fun t => ?_, ?_, h.below⟩
    · rw [h.tmps t]
      unfold val
      have := size9
      have e9 : L 9 = true := hL 9 (by omega)
      by_cases et : t = 8
      · simp [et, e9]
      · by_cases er : 38 <= t /\ t <= 46
        · have : L (t - 38) = true := hL _ (by omega)
          simp [et, er, this]
        · simp [et, er]
    · have e7 : L 7 = true := hL 7 (by have := size9; omega)
      have := h.row
      rw [e7] at this
      exact this
  · have hj10 : j < 10 := by
      have := (Array.getElem?_eq_some_iff.1 ho).1
      have := size9
      omega
    have l98 : L 9 = true -> L 8 = true := clos hL (by kernel_rfl) (by omega)
    have l80 : L 8 = true -> L 0 = true := clos hL (by kernel_rfl) (by omega)
    have l87 : L 8 = true -> L 7 = true := clos hL (by kernel_rfl) (by omega)
    have l73 : L 7 = true -> L 3 = true := clos hL (by kernel_rfl) (by omega)
    have l76 : L 7 = true -> L 6 = true := clos hL (by kernel_rfl) (by omega)
    have l32 : L 3 = true -> L 2 = true := clos hL (by kernel_rfl) (by omega)
    have l65 : L 6 = true -> L 5 = true := clos hL (by kernel_rfl) (by omega)
    have no9 : (j = 0 \/ j = 2 \/ j = 5) -> L 9 = false := by
      intro hh
      cases h9 : L 9 with
      | false => rfl
      | true =>
        have e8 := l98 h9
        have e7 := l87 e8
        rcases hh with rfl | rfl | rfl
        · rw [l80 e8] at hj; cases hj
        · rw [l32 (l73 e7)] at hj; cases hj
        · rw [l65 (l76 e7)] at hj; cases hj
    have hcases : j = 0 \/ j = 1 \/ j = 2 \/ j = 3 \/ j = 4 \/ j = 5 \/ j = 6 \/ j = 7 \/ j = 8 \/ j = 9 := by omega
    rcases hcases with rfl | rfl | rfl | rfl | rfl | rfl | rfl | rfl | rfl | rfl
    · obtain ⟨d1, d2, d3⟩ := dof_of o9_0 ho
      refine ⟨d3, h.fin0 (by omega) (by omega) d1 ?_⟩
      unfold execOp
      rw [d2]
      simp [eval_tmp, h.tmps, val8 (no9 (by omega)), h8, Fv]
    · obtain ⟨d1, d2, d3⟩ := dof_of o9_1 ho
      refine ⟨d3, h.fin0 (by omega) (by omega) d1 ?_⟩
      unfold execOp
      rw [d2]
      simp [eval_tmp, h.tmps, val7, h7, Fv]
    · obtain ⟨d1, d2, d3⟩ := dof_of o9_2 ho
      refine ⟨d3, h.fin0 (by omega) (by omega) d1 ?_⟩
      unfold execOp
      rw [d2]
      simp [eval_tmp, h.tmps, val8 (no9 (by omega)), h8, Fv]
    · obtain ⟨d1, d2, d3⟩ := dof_of o9_3 ho
      refine ⟨d3, h.fin0 (by omega) (by omega) d1 ?_⟩
      have r1 : L 1 = true := rdy (by kernel_rfl) ho hr
      have r2 : L 2 = true := rdy (by kernel_rfl) ho hr
      have e1 := valD (a0 := a0) (F := Fv g n m c) (show 1 <= 8 by omega) r1
      have e2 := valD (a0 := a0) (F := Fv g n m c) (show 2 <= 8 by omega) r2
      unfold execOp
      rw [d2]
      simp [eval_tmp, h.tmps, e1, e2, Fv, sliced_l w1 hmn]
    · obtain ⟨d1, d2, d3⟩ := dof_of o9_4 ho
      refine ⟨d3, h.fin0 (by omega) (by omega) d1 ?_⟩
      unfold execOp
      rw [d2]
      simp [eval_tmp, h.tmps, val7, h7, Fv]
    · obtain ⟨d1, d2, d3⟩ := dof_of o9_5 ho
      refine ⟨d3, h.fin0 (by omega) (by omega) d1 ?_⟩
      unfold execOp
      rw [d2]
      simp [eval_tmp, h.tmps, val8 (no9 (by omega)), h8, Fv]
    · obtain ⟨d1, d2, d3⟩ := dof_of o9_6 ho
      refine ⟨d3, h.fin0 (by omega) (by omega) d1 ?_⟩
      have r1 : L 4 = true := rdy (by kernel_rfl) ho hr
      have r2 : L 5 = true := rdy (by kernel_rfl) ho hr
      have e1 := valD (a0 := a0) (F := Fv g n m c) (show 4 <= 8 by omega) r1
      have e2 := valD (a0 := a0) (F := Fv g n m c) (show 5 <= 8 by omega) r2
      unfold execOp
      rw [d2]
      simp [eval_tmp, h.tmps, e1, e2, Fv, sliced_h w1 hmn]
    · obtain ⟨d1, d2, d3⟩ := dof_of o9_7 ho
      refine ⟨d3, ?_⟩
      have r1 : L 3 = true := rdy (by kernel_rfl) ho hr
      have r2 : L 6 = true := rdy (by kernel_rfl) ho hr
      have e1 := valD (a0 := a0) (F := Fv g n m c) (show 3 <= 8 by omega) r1
      have e2 := valD (a0 := a0) (F := Fv g n m c) (show 6 <= 8 by omega) r2
      have hrw := h.row
      rw [hj] at hrw
      simp only [Bool.false_eq_true, if_false] at hrw
      have hlen : (rowL n m (.int .i64 xi) (.int .i64 zi)).length = n := by unfold rowL; simp; omega
      have hrun := run_copy_row (P := Tryz.prog) w1 37 37 o.type 3 g m (n - m) (n - m) ⟨g, 0, none⟩ m n (rowL n m (.int .i64 xi) (.int .i64 zi)).toArray T (List.replicate c (.int .i64 xi)) Tryz.underlying37 sz3 hrw (by simp only [List.length_replicate]; exact hc) (fun j v hv => by
        refine row_src hrw j v ?_
        have hjc : j < c := by
          rcases Nat.lt_or_ge j c with h' | h'
          · exact h'
          · rw [List.getElem?_eq_none (by simpa using h')] at hv; cases hv
        unfold rowL
        rw [List.getElem?_append_left (by simp; omega)]
        rw [List.getElem?_replicate] at hv |-
        rw [if_pos hjc] at hv
        rw [if_pos (by omega)]
        exact hv) (by simp [hlen]; omega) (by intro v hv; rw [List.eq_of_mem_replicate hv]; rfl)
      simp only [List.length_replicate, rowL_splice (show m + c <= n by omega)] at hrun
      refine h.fin (by omega) d1 (w' := w1.setRow g (rowL n (m + c) (.int .i64 xi) (.int .i64 zi)).toArray) ?_ ?_ (below_setRow h.below hBg _)
      · unfold execOp
        rw [d2]
        simp only [resolve, invoke, builtin, Sem.run_bind, Sem.run_pure, Result.andThen_ok, List.map_toArray, List.map_cons, List.map_nil, eval_tmp, h.tmps, e1, e2]
        show (Result.andThen (Sem.run Tryz.prog (Builtin.copy_ #[37, 37] o.type #[.slice (some ⟨g, m, none⟩) (n - m) (n - m), .slice (some ⟨g, 0, none⟩) m n]) w1) _) = _
        rw [hrun]
        rfl
      · simp only [decide_true, Bool.or_true, if_true]
        exact setRow_heap w1 g _ _ T _ hrw
    · obtain ⟨d1, d2, d3⟩ := dof_of o9_8 ho
      refine ⟨d3, h.fin0 (by omega) (by omega) d1 ?_⟩
      have r1 : L 0 = true := rdy (by kernel_rfl) ho hr
      have r2 : L 7 = true := rdy (by kernel_rfl) ho hr
      have e1 := valD (a0 := a0) (F := Fv g n m c) (show 0 <= 8 by omega) r1
      have e2 := valD (a0 := a0) (F := Fv g n m c) (show 7 <= 8 by omega) r2
      unfold execOp
      rw [d2]
      have hw : IntKind.wrap .i64 ((m : Int) + (c : Int)) = ((m + c : Nat) : Int) := by
        rw [Go.IntWalk.i64_in _ (by omega)]
        omega
      have hw' : IntKind.wrap .i64 ((m : Int) + (c : Int)) = (m : Int) + (c : Int) := by
        rw [hw]
        omega
      simp [eval_tmp, h.tmps, e1, e2, Fv, binOp, Op.intArith, run_eqGuard_int, hw']
    · obtain ⟨d1, d2, d3⟩ := dof_of o9_9 ho
      refine ⟨d3, h.fin0 (by omega) (by omega) d1 ?_⟩
      have r1 : L 8 = true := rdy (by kernel_rfl) ho hr
      have e1 := valD (a0 := a0) (F := Fv g n m c) (show 8 <= 8 by omega) r1
      unfold execOp
      rw [d2]
      simp [eval_tmp, h.tmps, e1, Fv]
theorem arr48 {A : Array Value} (h : A.size = 48) {f : Nat -> Value} (hf : ∀ t, A.getD t undef = f t) : A = #[f 0, f 1, f 2, f 3, f 4, f 5, f 6, f 7, f 8, f 9, f 10, f 11, f 12, f 13, f 14, f 15, f 16, f 17, f 18, f 19, f 20, f 21, f 22, f 23, f 24, f 25, f 26, f 27, f 28, f 29, f 30, f 31, f 32, f 33, f 34, f 35, f 36, f 37, f 38, f 39, f 40, f 41, f 42, f 43, f 44, f 45, f 46, f 47] := by
  apply Array.ext
  · simp [h]
  · intro i h1 h2
    have e := hf i
    rw [Array.getD_eq_getD_getElem?, Array.getElem?_eq_getElem h1] at e
    simp only [Option.getD_some] at e
    rw [e]
    simp only [List.size_toArray, List.length_cons, List.length_nil] at h2
    match i, h2 with
    | 0, _ => rfl
    | 1, _ => rfl
    | 2, _ => rfl
    | 3, _ => rfl
    | 4, _ => rfl
    | 5, _ => rfl
    | 6, _ => rfl
    | 7, _ => rfl
    | 8, _ => rfl
    | 9, _ => rfl
    | 10, _ => rfl
    | 11, _ => rfl
    | 12, _ => rfl
    | 13, _ => rfl
    | 14, _ => rfl
    | 15, _ => rfl
    | 16, _ => rfl
    | 17, _ => rfl
    | 18, _ => rfl
    | 19, _ => rfl
    | 20, _ => rfl
    | 21, _ => rfl
    | 22, _ => rfl
    | 23, _ => rfl
    | 24, _ => rfl
    | 25, _ => rfl
    | 26, _ => rfl
    | 27, _ => rfl
    | 28, _ => rfl
    | 29, _ => rfl
    | 30, _ => rfl
    | 31, _ => rfl
    | 32, _ => rfl
    | 33, _ => rfl
    | 34, _ => rfl
    | 35, _ => rfl
    | 36, _ => rfl
    | 37, _ => rfl
    | 38, _ => rfl
    | 39, _ => rfl
    | 40, _ => rfl
    | 41, _ => rfl
    | 42, _ => rfl
    | 43, _ => rfl
    | 44, _ => rfl
    | 45, _ => rfl
    | 46, _ => rfl
    | 47, _ => rfl
    | k + 48, h2 => exact absurd h2 (by simp)
theorem reg9x {Q : Exit -> Act -> World -> Prop} {rid : Nat} {ops : Array Oper} (hops : ops = ops9) {A : Array Value} {df : List Deferred} {w w0 : World} {g n m c B : Nat} {xi zi : Int} {T : TypeId} {L L' : List Value} (a0 : Nat -> Value) (hsz : A.size = 48) (ha0 : ∀ t, A.getD t undef = a0 t) (h7 : a0 7 = .slice (some ⟨g, 0, none⟩) n n) (h8 : a0 8 = .int .i64 (m : Int))
    (hm : 1 <= m) (hmn : m < n) (hn : n <= 8) (hc : c = min m (n - m)) (hL : L = rowL n m (.int .i64 xi) (.int .i64 zi)) (hL' : L' = rowL n (m + c) (.int .i64 xi) (.int .i64 zi)) (hg : w.heap[g]? = some (.cells L.toArray T (0, 0))) (hB : Below B w0 w) (hBg : B <= g) {A' : Array Value} (hA' : A' = #[val a0 (Fv g n m c) (fun _ => true) 0, val a0 (Fv g n m c) (fun _ => true) 1, val a0 (Fv g n m c) (fun _ => true) 2, val a0 (Fv g n m c) (fun _ => true) 3, val a0 (Fv g n m c) (fun _ => true) 4, val a0 (Fv g n m c) (fun _ => true) 5, val a0 (Fv g n m c) (fun _ => true) 6, val a0 (Fv g n m c) (fun _ => true) 7, val a0 (Fv g n m c) (fun _ => true) 8, val a0 (Fv g n m c) (fun _ => true) 9, val a0 (Fv g n m c) (fun _ => true) 10, val a0 (Fv g n m c) (fun _ => true) 11, val a0 (Fv g n m c) (fun _ => true) 12, val a0 (Fv g n m c) (fun _ => true) 13, val a0 (Fv g n m c) (fun _ => true) 14, val a0 (Fv g n m c) (fun _ => true) 15, val a0 (Fv g n m c) (fun _ => true) 16, val a0 (Fv g n m c) (fun _ => true) 17, val a0 (Fv g n m c) (fun _ => true) 18, val a0 (Fv g n m c) (fun _ => true) 19, val a0 (Fv g n m c) (fun _ => true) 20, val a0 (Fv g n m c) (fun _ => true) 21, val a0 (Fv g n m c) (fun _ => true) 22, val a0 (Fv g n m c) (fun _ => true) 23, val a0 (Fv g n m c) (fun _ => true) 24, val a0 (Fv g n m c) (fun _ => true) 25, val a0 (Fv g n m c) (fun _ => true) 26, val a0 (Fv g n m c) (fun _ => true) 27, val a0 (Fv g n m c) (fun _ => true) 28, val a0 (Fv g n m c) (fun _ => true) 29, val a0 (Fv g n m c) (fun _ => true) 30, val a0 (Fv g n m c) (fun _ => true) 31, val a0 (Fv g n m c) (fun _ => true) 32, val a0 (Fv g n m c) (fun _ => true) 33, val a0 (Fv g n m c) (fun _ => true) 34, val a0 (Fv g n m c) (fun _ => true) 35, val a0 (Fv g n m c) (fun _ => true) 36, val a0 (Fv g n m c) (fun _ => true) 37, val a0 (Fv g n m c) (fun _ => true) 38, val a0 (Fv g n m c) (fun _ => true) 39, val a0 (Fv g n m c) (fun _ => true) 40, val a0 (Fv g n m c) (fun _ => true) 41, val a0 (Fv g n m c) (fun _ => true) 42, val a0 (Fv g n m c) (fun _ => true) 43, val a0 (Fv g n m c) (fun _ => true) 44, val a0 (Fv g n m c) (fun _ => true) 45, val a0 (Fv g n m c) (fun _ => true) 46, val a0 (Fv g n m c) (fun _ => true) 47])
    (hQ : ∀ w', Hid (w'.heap[g]? = some (.cells L'.toArray T (0, 0))) -> Below B w0 w' -> Q .normal ⟨A', df⟩ w') : (Code.region rid ops true).wp Tryz.prog Q ⟨A, df⟩ w := by
  subst hops hL hL' hA'
  refine reg9 (a := ⟨A, df⟩) hsz ha0 h7 h8 hm hmn hn hc hg hB hBg fun a' w' h => ?_
  have e := arr48 h.size h.tmps
  have e2 : a' = ⟨a'.tmps, a'.defers⟩ := rfl
  rw [e2, e, h.defers]
  refine hQ w' ?_ h.below
  have := h.row
  exact this
end Go.V.W
