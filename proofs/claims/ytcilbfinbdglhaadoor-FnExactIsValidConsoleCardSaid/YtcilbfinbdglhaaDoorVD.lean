/- What the law FnExactIsValidConsole leans on, part 4: an interpreter of the model as plain data, its soundness, the functions as it tells them, and their laws. -/
import Derived.Test.YtcilbfinbdglhaaDoorProg
import Derived.IntWalk
import Derived.Lib.Builder
import Derived.Test.YtcilbfinbdglhaaDoorVC
set_option linter.unusedVariables false
set_option linter.unusedSimpArgs false
set_option maxRecDepth 100000
set_option linter.unusedVariables false
set_option maxRecDepth 100000
namespace Go.V.W
open Go.Proofs
abbrev I : Kd := .int .i64
abbrev K_Piq : Kd := .pair I .unit
abbrev K_Piiq : Kd := .pair I K_Piq
abbrev K_SPiiq : Kd := .slice K_Piiq
abbrev K_PSPiiqq : Kd := .pair K_SPiiq .unit
abbrev K_PiSPiiqq : Kd := .pair I K_PSPiiqq
abbrev K_Si : Kd := .slice I
abbrev K_PSiiq : Kd := .pair K_Si K_Piq
abbrev K_PiSiiq : Kd := .pair I K_PSiiq
abbrev K_PiiSiiq : Kd := .pair I K_PiSiiq
abbrev K_PPiSPiiqqiiSiiq : Kd := .pair K_PiSPiiqq K_PiiSiiq
abbrev K_Psiq : Kd := .pair .str K_Piq
abbrev K_Pssiq : Kd := .pair .str K_Psiq
abbrev K_PPssiqq : Kd := .pair K_Pssiq .unit
abbrev K_PPPiSPiiqqiiSiiqPssiqq : Kd := .pair K_PPiSPiiqqiiSiiq K_PPssiqq
abbrev K_Ss : Kd := .slice .str
abbrev K_Psq : Kd := .pair .str .unit
abbrev K_Pssq : Kd := .pair .str K_Psq
abbrev K_SPssq : Kd := .slice K_Pssq
def tks : List (Nat × Kd) := [(3, I), (4, .bool), (5, (.int .u8)), (9, .str), (22, K_SPiiq), (24, K_PiSPiiqq), (25, K_Si), (27, K_PPiSPiiqqiiSiiq), (29, K_Pssiq), (31, K_PPPiSPiiqqiiSiiqPssiqq), (34, K_PiSPiiqq), (36, K_PPiSPiiqqiiSiiq), (37, K_Pssiq), (39, K_PPPiSPiiqqiiSiiqPssiqq), (57, K_SPssq), (65, K_Piiq), (68, K_Ss), (71, K_Pssq)]
def ars : List (Nat × Nat) := [(65, 3)]
noncomputable def Γ_laws_szIntA2S : Ctx := { tk := assoc tks, ar := assoc ars, fs := assoc [] }
noncomputable def F_laws_szIntA2S (N : Nat) (d : (List (Int × Int × Unit)) × Int × Unit) : Option (Int × Unit) :=
  let a0 : List (Int × Int × Unit) := d.1
  let a1 : Int := d.2.1
  let x1 : Int := IntKind.wrap .i64 (a1 - (List.length a0 : Int))
  if (decide (x1 < (0 : Int))) = true then
    some ((-1 : Int), ())
  else
    some (x1, ())
theorem F_laws_szIntA2S_ok (N : Nat) (d) : fnR Γ_laws_szIntA2S (assoc []) true [(K_SPiiq, false), (I, false)] [I] Tryd.f33.results.toList (bodyOf Tryd.f33) d = F_laws_szIntA2S N d := by kernel_rfl
noncomputable def g_laws_szIntA2S (d : (List (Int × Int × Unit)) × Int × Unit) : Int × Unit :=
  let a0 : List (Int × Int × Unit) := d.1
  let a1 : Int := d.2.1
  let x1 : Int := IntKind.wrap .i64 (a1 - (List.length a0 : Int))
  if (decide (x1 < (0 : Int))) = true then
    ((-1 : Int), ())
  else
    (x1, ())
theorem F_laws_szIntA2S_tot (N : Nat) (d) : F_laws_szIntA2S N d = some (g_laws_szIntA2S d) := by
  unfold F_laws_szIntA2S g_laws_szIntA2S
  first
    | rfl
    | (dsimp only; (repeat' split) <;> rfl)
noncomputable def S_laws_szIntA2S : FSig := ⟨[(K_SPiiq, false), (I, false)], [I], true, (fun d => some (g_laws_szIntA2S d))⟩
noncomputable def Γ_laws_szGraph : Ctx := { tk := assoc tks, ar := assoc ars, fs := assoc [(33, S_laws_szIntA2S)] }
noncomputable def F_laws_szGraph (N : Nat) (d : (Int × (List (Int × Int × Unit)) × Unit) × Int × Unit) : Option (Int × Unit) :=
  let a0 : Int × (List (Int × Int × Unit)) × Unit := d.1
  let a1 : Int := d.2.1
  let r1 : Int × Unit := g_laws_szIntA2S ((a0.2.1, (a1, ())))
  if (decide (r1.1 < (0 : Int))) = true then
    some ((-1 : Int), ())
  else
    some (r1.1, ())
theorem F_laws_szGraph_ok (N : Nat) (d) : fnR Γ_laws_szGraph (assoc []) true [(K_PiSPiiqq, false), (I, false)] [I] Tryd.f19.results.toList (bodyOf Tryd.f19) d = F_laws_szGraph N d := by kernel_rfl
noncomputable def g_laws_szGraph (d : (Int × (List (Int × Int × Unit)) × Unit) × Int × Unit) : Int × Unit :=
  let a0 : Int × (List (Int × Int × Unit)) × Unit := d.1
  let a1 : Int := d.2.1
  let r1 : Int × Unit := g_laws_szIntA2S ((a0.2.1, (a1, ())))
  if (decide (r1.1 < (0 : Int))) = true then
    ((-1 : Int), ())
  else
    (r1.1, ())
theorem F_laws_szGraph_tot (N : Nat) (d) : F_laws_szGraph N d = some (g_laws_szGraph d) := by
  unfold F_laws_szGraph g_laws_szGraph
  first
    | rfl
    | (dsimp only; (repeat' split) <;> rfl)
noncomputable def S_laws_szGraph : FSig := ⟨[(K_PiSPiiqq, false), (I, false)], [I], true, (fun d => some (g_laws_szGraph d))⟩
noncomputable def Γ_laws_szIntS : Ctx := { tk := assoc tks, ar := assoc ars, fs := assoc [] }
noncomputable def F_laws_szIntS (N : Nat) (d : List Int × Int × Unit) : Option (Int × Unit) :=
  let a0 : List Int := d.1
  let a1 : Int := d.2.1
  let x1 : Int := IntKind.wrap .i64 (a1 - (List.length a0 : Int))
  if (decide (x1 < (0 : Int))) = true then
    some ((-1 : Int), ())
  else
    some (x1, ())
theorem F_laws_szIntS_ok (N : Nat) (d) : fnR Γ_laws_szIntS (assoc []) true [(K_Si, false), (I, false)] [I] Tryd.f20.results.toList (bodyOf Tryd.f20) d = F_laws_szIntS N d := by kernel_rfl
noncomputable def g_laws_szIntS (d : List Int × Int × Unit) : Int × Unit :=
  let a0 : List Int := d.1
  let a1 : Int := d.2.1
  let x1 : Int := IntKind.wrap .i64 (a1 - (List.length a0 : Int))
  if (decide (x1 < (0 : Int))) = true then
    ((-1 : Int), ())
  else
    (x1, ())
theorem F_laws_szIntS_tot (N : Nat) (d) : F_laws_szIntS N d = some (g_laws_szIntS d) := by
  unfold F_laws_szIntS g_laws_szIntS
  first
    | rfl
    | (dsimp only; (repeat' split) <;> rfl)
noncomputable def S_laws_szIntS : FSig := ⟨[(K_Si, false), (I, false)], [I], true, (fun d => some (g_laws_szIntS d))⟩
noncomputable def Γ_laws_szWorkshop : Ctx := { tk := assoc tks, ar := assoc ars, fs := assoc [(19, S_laws_szGraph), (20, S_laws_szIntS)] }
noncomputable def F_laws_szWorkshop (N : Nat) (d : ((Int × (List (Int × Int × Unit)) × Unit) × Int × Int × List Int × Int × Unit) × Int × Unit) : Option (Int × Unit) :=
  let a0 : (Int × (List (Int × Int × Unit)) × Unit) × Int × Int × List Int × Int × Unit := d.1
  let a1 : Int := d.2.1
  let r1 : Int × Unit := g_laws_szGraph ((a0.1, (a1, ())))
  if (decide (r1.1 < (0 : Int))) = true then
    some ((-1 : Int), ())
  else
    let r2 : Int × Unit := g_laws_szIntS ((a0.2.2.2.1, (r1.1, ())))
    if (decide (r2.1 < (0 : Int))) = true then
      some ((-1 : Int), ())
    else
      some (r2.1, ())
theorem F_laws_szWorkshop_ok (N : Nat) (d) : fnR Γ_laws_szWorkshop (assoc []) true [(K_PPiSPiiqqiiSiiq, false), (I, false)] [I] Tryd.f9.results.toList (bodyOf Tryd.f9) d = F_laws_szWorkshop N d := by kernel_rfl
noncomputable def g_laws_szWorkshop (d : ((Int × (List (Int × Int × Unit)) × Unit) × Int × Int × List Int × Int × Unit) × Int × Unit) : Int × Unit :=
  let a0 : (Int × (List (Int × Int × Unit)) × Unit) × Int × Int × List Int × Int × Unit := d.1
  let a1 : Int := d.2.1
  let r1 : Int × Unit := g_laws_szGraph ((a0.1, (a1, ())))
  if (decide (r1.1 < (0 : Int))) = true then
    ((-1 : Int), ())
  else
    let r2 : Int × Unit := g_laws_szIntS ((a0.2.2.2.1, (r1.1, ())))
    if (decide (r2.1 < (0 : Int))) = true then
      ((-1 : Int), ())
    else
      (r2.1, ())
theorem F_laws_szWorkshop_tot (N : Nat) (d) : F_laws_szWorkshop N d = some (g_laws_szWorkshop d) := by
  unfold F_laws_szWorkshop g_laws_szWorkshop
  first
    | rfl
    | (dsimp only; (repeat' split) <;> rfl)
noncomputable def S_laws_szWorkshop : FSig := ⟨[(K_PPiSPiiqqiiSiiq, false), (I, false)], [I], true, (fun d => some (g_laws_szWorkshop d))⟩
noncomputable def Γ_laws_szLog : Ctx := { tk := assoc tks, ar := assoc ars, fs := assoc [] }
noncomputable def F_laws_szLog (N : Nat) (d : (ByteArray × ByteArray × Int × Unit) × Int × Unit) : Option (Int × Unit) :=
  let a0 : ByteArray × ByteArray × Int × Unit := d.1
  let a1 : Int := d.2.1
  let x1 : Int := IntKind.wrap .i64 (a1 - (a0.1.size : Int))
  if (decide (x1 < (0 : Int))) = true then
    some ((-1 : Int), ())
  else
    let x2 : Int := IntKind.wrap .i64 (x1 - (a0.2.1.size : Int))
    if (decide (x2 < (0 : Int))) = true then
      some ((-1 : Int), ())
    else
      some (x2, ())
theorem F_laws_szLog_ok (N : Nat) (d) : fnR Γ_laws_szLog (assoc []) true [(K_Pssiq, false), (I, false)] [I] Tryd.f10.results.toList (bodyOf Tryd.f10) d = F_laws_szLog N d := by kernel_rfl
noncomputable def g_laws_szLog (d : (ByteArray × ByteArray × Int × Unit) × Int × Unit) : Int × Unit :=
  let a0 : ByteArray × ByteArray × Int × Unit := d.1
  let a1 : Int := d.2.1
  let x1 : Int := IntKind.wrap .i64 (a1 - (a0.1.size : Int))
  if (decide (x1 < (0 : Int))) = true then
    ((-1 : Int), ())
  else
    let x2 : Int := IntKind.wrap .i64 (x1 - (a0.2.1.size : Int))
    if (decide (x2 < (0 : Int))) = true then
      ((-1 : Int), ())
    else
      (x2, ())
theorem F_laws_szLog_tot (N : Nat) (d) : F_laws_szLog N d = some (g_laws_szLog d) := by
  unfold F_laws_szLog g_laws_szLog
  first
    | rfl
    | (dsimp only; (repeat' split) <;> rfl)
noncomputable def S_laws_szLog : FSig := ⟨[(K_Pssiq, false), (I, false)], [I], true, (fun d => some (g_laws_szLog d))⟩
noncomputable def Γ_laws_szConsole : Ctx := { tk := assoc tks, ar := assoc ars, fs := assoc [(9, S_laws_szWorkshop), (10, S_laws_szLog)] }
noncomputable def F_laws_szConsole (N : Nat) (d : (((Int × (List (Int × Int × Unit)) × Unit) × Int × Int × List Int × Int × Unit) × (ByteArray × ByteArray × Int × Unit) × Unit) × Int × Unit) : Option (Int × Unit) :=
  let a0 : ((Int × (List (Int × Int × Unit)) × Unit) × Int × Int × List Int × Int × Unit) × (ByteArray × ByteArray × Int × Unit) × Unit := d.1
  let a1 : Int := d.2.1
  let r1 : Int × Unit := g_laws_szWorkshop ((a0.1, (a1, ())))
  if (decide (r1.1 < (0 : Int))) = true then
    some ((-1 : Int), ())
  else
    let r2 : Int × Unit := g_laws_szLog ((a0.2.1, (r1.1, ())))
    if (decide (r2.1 < (0 : Int))) = true then
      some ((-1 : Int), ())
    else
      some (r2.1, ())
theorem F_laws_szConsole_ok (N : Nat) (d) : fnR Γ_laws_szConsole (assoc []) true [(K_PPPiSPiiqqiiSiiqPssiqq, false), (I, false)] [I] Tryd.f4.results.toList (bodyOf Tryd.f4) d = F_laws_szConsole N d := by kernel_rfl
noncomputable def g_laws_szConsole (d : (((Int × (List (Int × Int × Unit)) × Unit) × Int × Int × List Int × Int × Unit) × (ByteArray × ByteArray × Int × Unit) × Unit) × Int × Unit) : Int × Unit :=
  let a0 : ((Int × (List (Int × Int × Unit)) × Unit) × Int × Int × List Int × Int × Unit) × (ByteArray × ByteArray × Int × Unit) × Unit := d.1
  let a1 : Int := d.2.1
  let r1 : Int × Unit := g_laws_szWorkshop ((a0.1, (a1, ())))
  if (decide (r1.1 < (0 : Int))) = true then
    ((-1 : Int), ())
  else
    let r2 : Int × Unit := g_laws_szLog ((a0.2.1, (r1.1, ())))
    if (decide (r2.1 < (0 : Int))) = true then
      ((-1 : Int), ())
    else
      (r2.1, ())
theorem F_laws_szConsole_tot (N : Nat) (d) : F_laws_szConsole N d = some (g_laws_szConsole d) := by
  unfold F_laws_szConsole g_laws_szConsole
  first
    | rfl
    | (dsimp only; (repeat' split) <;> rfl)
noncomputable def S_laws_szConsole : FSig := ⟨[(K_PPPiSPiiqqiiSiiqPssiqq, false), (I, false)], [I], true, (fun d => some (g_laws_szConsole d))⟩
noncomputable def Γ_laws_toIntA2 : Ctx := { tk := assoc tks, ar := assoc ars, fs := assoc [] }
abbrev laws_toIntA2_l0_H := (Int × Int × Unit) × (Int × Int × Unit) × (Int × Int × Unit) × Int × Unit
abbrev laws_toIntA2_l0_O := ((Int × Int × Unit) × (Int × Int × Unit) × Unit) ⊕ Empty
def laws_toIntA2_l0_h : Form := [(1, .box K_Piiq 99), (2, .box K_Piiq 99), (3, .box K_Piiq 99), (4, .v I)]
def laws_toIntA2_l0_o : Outs := [(.normal, [(2, .box K_Piiq 99), (3, .box K_Piiq 99)])]
noncomputable def laws_toIntA2_l0_r (N : Nat) (back : laws_toIntA2_l0_H → Option laws_toIntA2_l0_O) (d : laws_toIntA2_l0_H) : Option laws_toIntA2_l0_O :=
  let s1 : Int × Int × Unit := d.1
  let s2 : Int × Int × Unit := d.2.1
  let s3 : Int × Int × Unit := d.2.2.1
  let s4 : Int := d.2.2.2.1
  if (decide (s4 < (2 : Int))) = true then
    if (s4 == (0 : Int)) = true then
      if (s4 == (0 : Int)) = true then
        let x10 : Int := IntKind.wrap .i64 (s4 + (1 : Int))
        back ((s1, (s2, ((s1.1, s3.2), (x10, ())))))
      else
        if (s4 == (1 : Int)) = true then
        let x9 : Int := IntKind.wrap .i64 (s4 + (1 : Int))
        back ((s1, (s2, ((s3.1, (s1.1, s3.2.2)), (x9, ())))))
        else none
    else
      if (s4 == (1 : Int)) = true then
      if (s4 == (0 : Int)) = true then
        let x8 : Int := IntKind.wrap .i64 (s4 + (1 : Int))
        back ((s1, (s2, ((s1.2.1, s3.2), (x8, ())))))
      else
        if (s4 == (1 : Int)) = true then
        let x7 : Int := IntKind.wrap .i64 (s4 + (1 : Int))
        back ((s1, (s2, ((s3.1, (s1.2.1, s3.2.2)), (x7, ())))))
        else none
      else none
  else
    some (.inl ((s2, (s3, ()))))
noncomputable def laws_toIntA2_l0 (N : Nat) : Nat → laws_toIntA2_l0_H → Option laws_toIntA2_l0_O
  | 0, _ => none
  | k + 1, d => laws_toIntA2_l0_r N (laws_toIntA2_l0 N k) d
theorem laws_toIntA2_l0_ok (N : Nat) (back) (d) : roundR Γ_laws_toIntA2 (assoc []) 0 laws_toIntA2_l0_h laws_toIntA2_l0_o (loopOf Tryd.f49 0) back d = laws_toIntA2_l0_r N back d := by kernel_rfl
noncomputable def F_laws_toIntA2 (N : Nat) (d : (Int × Int × Unit) × Unit) : Option ((Int × Int × Unit) × Unit) :=
  let a0 : Int × Int × Unit := d.1
  (laws_toIntA2_l0 N N ((a0, (((0 : Int), ((0 : Int), ())), (((0 : Int), ((0 : Int), ())), ((0 : Int), ())))))).bind fun o5 => match o5 with
  | .inl d6 =>
    some (d6.2.1, ())
theorem F_laws_toIntA2_ok (N : Nat) (d) : fnR Γ_laws_toIntA2 (assoc [(0, ⟨laws_toIntA2_l0_h, laws_toIntA2_l0_o, laws_toIntA2_l0 N N⟩)]) true [(K_Piiq, false)] [K_Piiq] Tryd.f49.results.toList (bodyOf Tryd.f49) d = F_laws_toIntA2 N d := by kernel_rfl
noncomputable def S_laws_toIntA2 : FSig := ⟨[(K_Piiq, false)], [K_Piiq], true, (G_toIntA2)⟩
noncomputable def Γ_laws_toIntA2S : Ctx := { tk := assoc tks, ar := assoc ars, fs := assoc [(49, S_laws_toIntA2)] }
abbrev laws_toIntA2S_l0_H := (List (Int × Int × Unit)) × (List (Int × Int × Unit)) × Int × Unit
abbrev laws_toIntA2S_l0_O := ((List (Int × Int × Unit)) × Unit) ⊕ Empty
def laws_toIntA2S_l0_h : Form := [(0, .v K_SPiiq), (3, .own K_SPiiq 99), (4, .v I)]
def laws_toIntA2S_l0_o : Outs := [(.normal, [(3, .own K_SPiiq 99)])]
noncomputable def laws_toIntA2S_l0_r (N : Nat) (back : laws_toIntA2S_l0_H → Option laws_toIntA2S_l0_O) (d : laws_toIntA2S_l0_H) : Option laws_toIntA2S_l0_O :=
  let s0 : List (Int × Int × Unit) := d.1
  let s3 : List (Int × Int × Unit) := d.2.1
  let s4 : Int := d.2.2.1
  if (decide (s4 < (List.length s0 : Int))) = true then
    if (idxIn s4 (List.length s0)) = true then
    (G_toIntA2 (at_ K_Piiq s0 s4.toNat, ())).bind fun r6 =>
    if (idxIn s4 (List.length s3)) = true then
    let x7 : Int := IntKind.wrap .i64 (s4 + (1 : Int))
    back ((s0, (List.set s3 s4.toNat r6.1, (x7, ()))))
    else none
    else none
  else
    some (.inl (s3, ()))
noncomputable def laws_toIntA2S_l0 (N : Nat) : Nat → laws_toIntA2S_l0_H → Option laws_toIntA2S_l0_O
  | 0, _ => none
  | k + 1, d => laws_toIntA2S_l0_r N (laws_toIntA2S_l0 N k) d
theorem laws_toIntA2S_l0_ok (N : Nat) (back) (d) : roundR Γ_laws_toIntA2S (assoc []) 0 laws_toIntA2S_l0_h laws_toIntA2S_l0_o (loopOf Tryd.f38 0) back d = laws_toIntA2S_l0_r N back d := by kernel_rfl
noncomputable def F_laws_toIntA2S (N : Nat) (d : (List (Int × Int × Unit)) × Unit) : Option ((List (Int × Int × Unit)) × Unit) :=
  let a0 : List (Int × Int × Unit) := d.1
  if ((decide (0 ≤ (List.length a0 : Int)) && decide ((List.length a0 : Int) ≤ (List.length a0 : Int)) && decide ((List.length a0 : Int) ≤ (lim : Int)))) = true then
  let x1 : List (Int × Int × Unit) := List.replicate (List.length a0 : Int).toNat (((0 : Int), ((0 : Int), ())))
  (laws_toIntA2S_l0 N N ((a0, (x1, ((0 : Int), ()))))).bind fun o4 => match o4 with
  | .inl d5 =>
    some (d5.1, ())
  else none
theorem F_laws_toIntA2S_ok (N : Nat) (d) : fnR Γ_laws_toIntA2S (assoc [(0, ⟨laws_toIntA2S_l0_h, laws_toIntA2S_l0_o, laws_toIntA2S_l0 N N⟩)]) true [(K_SPiiq, false)] [K_SPiiq] Tryd.f38.results.toList (bodyOf Tryd.f38) d = F_laws_toIntA2S N d := by kernel_rfl
noncomputable def S_laws_toIntA2S : FSig := ⟨[(K_SPiiq, false)], [K_SPiiq], true, (G_toIntA2S)⟩
noncomputable def Γ_laws_toGraph : Ctx := { tk := assoc tks, ar := assoc ars, fs := assoc [(38, S_laws_toIntA2S)] }
noncomputable def F_laws_toGraph (N : Nat) (d : (Int × (List (Int × Int × Unit)) × Unit) × Unit) : Option ((Int × (List (Int × Int × Unit)) × Unit) × Unit) :=
  let a0 : Int × (List (Int × Int × Unit)) × Unit := d.1
  (G_toIntA2S (a0.2.1, ())).bind fun r1 =>
  some (((a0.1, (r1.1, ())), ()))
theorem F_laws_toGraph_ok (N : Nat) (d) : fnR Γ_laws_toGraph (assoc []) true [(K_PiSPiiqq, false)] [K_PiSPiiqq] Tryd.f26.results.toList (bodyOf Tryd.f26) d = F_laws_toGraph N d := by kernel_rfl
noncomputable def S_laws_toGraph : FSig := ⟨[(K_PiSPiiqq, false)], [K_PiSPiiqq], true, (F_laws_toGraph 0)⟩
noncomputable def Γ_laws_toIntS : Ctx := { tk := assoc tks, ar := assoc ars, fs := assoc [] }
abbrev laws_toIntS_l0_H := List Int × List Int × Int × Unit
abbrev laws_toIntS_l0_O := (List Int × Unit) ⊕ Empty
def laws_toIntS_l0_h : Form := [(0, .v K_Si), (3, .own K_Si 99), (4, .v I)]
def laws_toIntS_l0_o : Outs := [(.normal, [(3, .own K_Si 99)])]
noncomputable def laws_toIntS_l0_r (N : Nat) (back : laws_toIntS_l0_H → Option laws_toIntS_l0_O) (d : laws_toIntS_l0_H) : Option laws_toIntS_l0_O :=
  let s0 : List Int := d.1
  let s3 : List Int := d.2.1
  let s4 : Int := d.2.2.1
  if (decide (s4 < (List.length s0 : Int))) = true then
    if (idxIn s4 (List.length s0)) = true then
    if (idxIn s4 (List.length s3)) = true then
    let x6 : List Int := List.set s3 s4.toNat (at_ I s0 s4.toNat)
    let x7 : Int := IntKind.wrap .i64 (s4 + (1 : Int))
    back ((s0, (x6, (x7, ()))))
    else none
    else none
  else
    some (.inl (s3, ()))
noncomputable def laws_toIntS_l0 (N : Nat) : Nat → laws_toIntS_l0_H → Option laws_toIntS_l0_O
  | 0, _ => none
  | k + 1, d => laws_toIntS_l0_r N (laws_toIntS_l0 N k) d
theorem laws_toIntS_l0_ok (N : Nat) (back) (d) : roundR Γ_laws_toIntS (assoc []) 0 laws_toIntS_l0_h laws_toIntS_l0_o (loopOf Tryd.f27 0) back d = laws_toIntS_l0_r N back d := by kernel_rfl
noncomputable def F_laws_toIntS (N : Nat) (d : List Int × Unit) : Option (List Int × Unit) :=
  let a0 : List Int := d.1
  if ((decide (0 ≤ (List.length a0 : Int)) && decide ((List.length a0 : Int) ≤ (List.length a0 : Int)) && decide ((List.length a0 : Int) ≤ (lim : Int)))) = true then
  let x1 : List Int := List.replicate (List.length a0 : Int).toNat (0 : Int)
  (laws_toIntS_l0 N N ((a0, (x1, ((0 : Int), ()))))).bind fun o4 => match o4 with
  | .inl d5 =>
    some (d5.1, ())
  else none
theorem F_laws_toIntS_ok (N : Nat) (d) : fnR Γ_laws_toIntS (assoc [(0, ⟨laws_toIntS_l0_h, laws_toIntS_l0_o, laws_toIntS_l0 N N⟩)]) true [(K_Si, false)] [K_Si] Tryd.f27.results.toList (bodyOf Tryd.f27) d = F_laws_toIntS N d := by kernel_rfl
noncomputable def S_laws_toIntS : FSig := ⟨[(K_Si, false)], [K_Si], true, (G_toIntS)⟩
noncomputable def Γ_laws_toWorkshop : Ctx := { tk := assoc tks, ar := assoc ars, fs := assoc [(26, S_laws_toGraph), (27, S_laws_toIntS)] }
noncomputable def F_laws_toWorkshop (N : Nat) (d : ((Int × (List (Int × Int × Unit)) × Unit) × Int × Int × List Int × Int × Unit) × Unit) : Option (((Int × (List (Int × Int × Unit)) × Unit) × Int × Int × List Int × Int × Unit) × Unit) :=
  let a0 : (Int × (List (Int × Int × Unit)) × Unit) × Int × Int × List Int × Int × Unit := d.1
  ((F_laws_toGraph 0) (a0.1, ())).bind fun r1 =>
  (G_toIntS (a0.2.2.2.1, ())).bind fun r2 =>
  some (((r1.1, (a0.2.1, (a0.2.2.1, (r2.1, (a0.2.2.2.2.1, ()))))), ()))
theorem F_laws_toWorkshop_ok (N : Nat) (d) : fnR Γ_laws_toWorkshop (assoc []) true [(K_PPiSPiiqqiiSiiq, false)] [K_PPiSPiiqqiiSiiq] Tryd.f13.results.toList (bodyOf Tryd.f13) d = F_laws_toWorkshop N d := by kernel_rfl
noncomputable def S_laws_toWorkshop : FSig := ⟨[(K_PPiSPiiqqiiSiiq, false)], [K_PPiSPiiqqiiSiiq], true, (F_laws_toWorkshop 0)⟩
noncomputable def Γ_laws_toLog : Ctx := { tk := assoc tks, ar := assoc ars, fs := assoc [] }
noncomputable def F_laws_toLog (N : Nat) (d : (ByteArray × ByteArray × Int × Unit) × Unit) : Option ((ByteArray × ByteArray × Int × Unit) × Unit) :=
  let a0 : ByteArray × ByteArray × Int × Unit := d.1
  some (((a0.1, (a0.2.1, (a0.2.2.1, ()))), ()))
theorem F_laws_toLog_ok (N : Nat) (d) : fnR Γ_laws_toLog (assoc []) true [(K_Pssiq, false)] [K_Pssiq] Tryd.f14.results.toList (bodyOf Tryd.f14) d = F_laws_toLog N d := by kernel_rfl
noncomputable def g_laws_toLog (d : (ByteArray × ByteArray × Int × Unit) × Unit) : (ByteArray × ByteArray × Int × Unit) × Unit :=
  let a0 : ByteArray × ByteArray × Int × Unit := d.1
  (((a0.1, (a0.2.1, (a0.2.2.1, ()))), ()))
theorem F_laws_toLog_tot (N : Nat) (d) : F_laws_toLog N d = some (g_laws_toLog d) := by
  unfold F_laws_toLog g_laws_toLog
  first
    | rfl
    | (dsimp only; (repeat' split) <;> rfl)
noncomputable def S_laws_toLog : FSig := ⟨[(K_Pssiq, false)], [K_Pssiq], true, (fun d => some (g_laws_toLog d))⟩
noncomputable def Γ_laws_toConsole : Ctx := { tk := assoc tks, ar := assoc ars, fs := assoc [(13, S_laws_toWorkshop), (14, S_laws_toLog)] }
noncomputable def F_laws_toConsole (N : Nat) (d : (((Int × (List (Int × Int × Unit)) × Unit) × Int × Int × List Int × Int × Unit) × (ByteArray × ByteArray × Int × Unit) × Unit) × Unit) : Option ((((Int × (List (Int × Int × Unit)) × Unit) × Int × Int × List Int × Int × Unit) × (ByteArray × ByteArray × Int × Unit) × Unit) × Unit) :=
  let a0 : ((Int × (List (Int × Int × Unit)) × Unit) × Int × Int × List Int × Int × Unit) × (ByteArray × ByteArray × Int × Unit) × Unit := d.1
  ((F_laws_toWorkshop 0) (a0.1, ())).bind fun r1 =>
  let r2 : (ByteArray × ByteArray × Int × Unit) × Unit := g_laws_toLog (a0.2.1, ())
  some (((r1.1, (r2.1, ())), ()))
theorem F_laws_toConsole_ok (N : Nat) (d) : fnR Γ_laws_toConsole (assoc []) true [(K_PPPiSPiiqqiiSiiqPssiqq, false)] [K_PPPiSPiiqqiiSiiqPssiqq] Tryd.f6.results.toList (bodyOf Tryd.f6) d = F_laws_toConsole N d := by kernel_rfl
noncomputable def S_laws_toConsole : FSig := ⟨[(K_PPPiSPiiqqiiSiiqPssiqq, false)], [K_PPPiSPiiqqiiSiiqPssiqq], true, (F_laws_toConsole 0)⟩
noncomputable def Γ_spec_l1In : Ctx := { tk := assoc tks, ar := assoc ars, fs := assoc [] }
noncomputable def F_spec_l1In (N : Nat) (d : Int × Int × Int × Unit) : Option (Bool × Unit) :=
  let a0 : Int := d.1
  let a1 : Int := d.2.1
  let a2 : Int := d.2.2.1
  if (decide (a0 ≥ a1)) = true then
    some (decide (a0 ≤ a2), ())
  else
    some (false, ())
theorem F_spec_l1In_ok (N : Nat) (d) : fnR Γ_spec_l1In (assoc []) true [(I, false), (I, false), (I, false)] [.bool] Tryd.f24.results.toList (bodyOf Tryd.f24) d = F_spec_l1In N d := by kernel_rfl
noncomputable def g_spec_l1In (d : Int × Int × Int × Unit) : Bool × Unit :=
  let a0 : Int := d.1
  let a1 : Int := d.2.1
  let a2 : Int := d.2.2.1
  if (decide (a0 ≥ a1)) = true then
    (decide (a0 ≤ a2), ())
  else
    (false, ())
theorem F_spec_l1In_tot (N : Nat) (d) : F_spec_l1In N d = some (g_spec_l1In d) := by
  unfold F_spec_l1In g_spec_l1In
  first
    | rfl
    | (dsimp only; (repeat' split) <;> rfl)
noncomputable def S_spec_l1In : FSig := ⟨[(I, false), (I, false), (I, false)], [.bool], true, (fun d => some (g_spec_l1In d))⟩
noncomputable def Γ_spec_l2Before : Ctx := { tk := assoc tks, ar := assoc ars, fs := assoc [] }
noncomputable def F_spec_l2Before (N : Nat) (d : (Int × Int × Unit) × (Int × Int × Unit) × Unit) : Option (Bool × Unit) :=
  let a0 : Int × Int × Unit := d.1
  let a1 : Int × Int × Unit := d.2.1
  if (decide (a0.1 < a1.1)) = true then
    some (true, ())
  else
    if (a0.1 == a1.1) = true then
      some (decide (a0.2.1 < a1.2.1), ())
    else
      some (false, ())
theorem F_spec_l2Before_ok (N : Nat) (d) : fnR Γ_spec_l2Before (assoc []) true [(K_Piiq, false), (K_Piiq, false)] [.bool] Tryd.f34.results.toList (bodyOf Tryd.f34) d = F_spec_l2Before N d := by kernel_rfl
noncomputable def g_spec_l2Before (d : (Int × Int × Unit) × (Int × Int × Unit) × Unit) : Bool × Unit :=
  let a0 : Int × Int × Unit := d.1
  let a1 : Int × Int × Unit := d.2.1
  if (decide (a0.1 < a1.1)) = true then
    (true, ())
  else
    if (a0.1 == a1.1) = true then
      (decide (a0.2.1 < a1.2.1), ())
    else
      (false, ())
theorem F_spec_l2Before_tot (N : Nat) (d) : F_spec_l2Before N d = some (g_spec_l2Before d) := by
  unfold F_spec_l2Before g_spec_l2Before
  first
    | rfl
    | (dsimp only; (repeat' split) <;> rfl)
noncomputable def S_spec_l2Before : FSig := ⟨[(K_Piiq, false), (K_Piiq, false)], [.bool], true, (fun d => some (g_spec_l2Before d))⟩
noncomputable def Γ_spec_l2Good : Ctx := { tk := assoc tks, ar := assoc ars, fs := assoc [(24, S_spec_l1In), (34, S_spec_l2Before)] }
abbrev spec_l2Good_l0_H := (Int × (List (Int × Int × Unit)) × Unit) × Int × Unit
abbrev spec_l2Good_l0_O := (Bool × Unit) ⊕ ((Int × (List (Int × Int × Unit)) × Unit) × Unit) ⊕ Empty
def spec_l2Good_l0_h : Form := [(1, .box K_PiSPiiqq 0), (3, .v I)]
def spec_l2Good_l0_o : Outs := [(.ret, [(2, .v .bool)]), (.normal, [(1, .box K_PiSPiiqq 0)])]
noncomputable def spec_l2Good_l0_r (N : Nat) (back : spec_l2Good_l0_H → Option spec_l2Good_l0_O) (d : spec_l2Good_l0_H) : Option spec_l2Good_l0_O :=
  let s1 : Int × (List (Int × Int × Unit)) × Unit := d.1
  let s3 : Int := d.2.1
  if (decide (s3 < (List.length s1.2.1 : Int))) = true then
    if (idxIn s3 (List.length s1.2.1)) = true then
    let x13 : Int := IntKind.wrap .i64 (s1.1 - (1 : Int))
    let r14 : Bool × Unit := g_spec_l1In (((at_ K_Piiq s1.2.1 s3.toNat).1, ((0 : Int), (x13, ()))))
    if (!r14.1) = true then
      some (.inl (false, ()))
    else
      let x15 : Int := IntKind.wrap .i64 (s1.1 - (1 : Int))
      let r16 : Bool × Unit := g_spec_l1In (((at_ K_Piiq s1.2.1 s3.toNat).2.1, ((0 : Int), (x15, ()))))
      if (!r16.1) = true then
        some (.inl (false, ()))
      else
        if (decide ((at_ K_Piiq s1.2.1 s3.toNat).1 ≥ (at_ K_Piiq s1.2.1 s3.toNat).2.1)) = true then
          some (.inl (false, ()))
        else
          if (decide (s3 > (0 : Int))) = true then
            let x17 : Int := IntKind.wrap .i64 (s3 - (1 : Int))
            if (idxIn x17 (List.length s1.2.1)) = true then
            let r18 : Bool × Unit := g_spec_l2Before ((at_ K_Piiq s1.2.1 x17.toNat, (at_ K_Piiq s1.2.1 s3.toNat, ())))
            if (!r18.1) = true then
              some (.inl (false, ()))
            else
              let x19 : Int := IntKind.wrap .i64 (s3 + (1 : Int))
              back ((s1, (x19, ())))
            else none
          else
            let x20 : Int := IntKind.wrap .i64 (s3 + (1 : Int))
            back ((s1, (x20, ())))
    else none
  else
    some (.inr (.inl (s1, ())))
noncomputable def spec_l2Good_l0 (N : Nat) : Nat → spec_l2Good_l0_H → Option spec_l2Good_l0_O
  | 0, _ => none
  | k + 1, d => spec_l2Good_l0_r N (spec_l2Good_l0 N k) d
theorem spec_l2Good_l0_ok (N : Nat) (back) (d) : roundR Γ_spec_l2Good (assoc []) 0 spec_l2Good_l0_h spec_l2Good_l0_o (loopOf Tryd.f21 0) back d = spec_l2Good_l0_r N back d := by kernel_rfl
noncomputable def F_spec_l2Good (N : Nat) (d : (Int × (List (Int × Int × Unit)) × Unit) × Unit) : Option (Bool × Unit) :=
  let a0 : Int × (List (Int × Int × Unit)) × Unit := d.1
  (spec_l2Good_l0 N N ((a0, ((0 : Int), ())))).bind fun o9 => match o9 with
  | .inl d10 =>
    some (d10.1, ())
  | .inr (.inl d11) =>
    let r12 : Bool × Unit := g_spec_l1In ((d11.1.1, ((0 : Int), ((8 : Int), ()))))
    some (r12.1, ())
theorem F_spec_l2Good_ok (N : Nat) (d) : fnR Γ_spec_l2Good (assoc [(0, ⟨spec_l2Good_l0_h, spec_l2Good_l0_o, spec_l2Good_l0 N N⟩)]) true [(K_PiSPiiqq, false)] [.bool] Tryd.f21.results.toList (bodyOf Tryd.f21) d = F_spec_l2Good N d := by kernel_rfl
noncomputable def S_spec_l2Good : FSig := ⟨[(K_PiSPiiqq, false)], [.bool], true, (G_graph)⟩
noncomputable def Γ_spec_l12Spot : Ctx := { tk := assoc tks, ar := assoc ars, fs := assoc [(24, S_spec_l1In)] }
noncomputable def F_spec_l12Spot (N : Nat) (d : (Int × (List (Int × Int × Unit)) × Unit) × Int × Unit) : Option (Bool × Unit) :=
  let a0 : Int × (List (Int × Int × Unit)) × Unit := d.1
  let a1 : Int := d.2.1
  let x1 : Int := IntKind.wrap .i64 (a0.1 - (1 : Int))
  let r2 : Bool × Unit := g_spec_l1In ((a1, ((-1 : Int), (x1, ()))))
  some (r2.1, ())
theorem F_spec_l12Spot_ok (N : Nat) (d) : fnR Γ_spec_l12Spot (assoc []) true [(K_PiSPiiqq, false), (I, false)] [.bool] Tryd.f22.results.toList (bodyOf Tryd.f22) d = F_spec_l12Spot N d := by kernel_rfl
noncomputable def g_spec_l12Spot (d : (Int × (List (Int × Int × Unit)) × Unit) × Int × Unit) : Bool × Unit :=
  let a0 : Int × (List (Int × Int × Unit)) × Unit := d.1
  let a1 : Int := d.2.1
  let x1 : Int := IntKind.wrap .i64 (a0.1 - (1 : Int))
  let r2 : Bool × Unit := g_spec_l1In ((a1, ((-1 : Int), (x1, ()))))
  (r2.1, ())
theorem F_spec_l12Spot_tot (N : Nat) (d) : F_spec_l12Spot N d = some (g_spec_l12Spot d) := by
  unfold F_spec_l12Spot g_spec_l12Spot
  first
    | rfl
    | (dsimp only; (repeat' split) <;> rfl)
noncomputable def S_spec_l12Spot : FSig := ⟨[(K_PiSPiiqq, false), (I, false)], [.bool], true, (fun d => some (g_spec_l12Spot d))⟩
noncomputable def Γ_spec_l1Rising : Ctx := { tk := assoc tks, ar := assoc ars, fs := assoc [(24, S_spec_l1In)] }
abbrev spec_l1Rising_l0_H := List Int × Int × Int × Int × Unit
abbrev spec_l1Rising_l0_O := (Bool × Unit) ⊕ Unit ⊕ Empty
def spec_l1Rising_l0_h : Form := [(0, .v K_Si), (1, .v I), (2, .v I), (7, .v I)]
def spec_l1Rising_l0_o : Outs := [(.ret, [(6, .v .bool)]), (.normal, [])]
noncomputable def spec_l1Rising_l0_r (N : Nat) (back : spec_l1Rising_l0_H → Option spec_l1Rising_l0_O) (d : spec_l1Rising_l0_H) : Option spec_l1Rising_l0_O :=
  let s0 : List Int := d.1
  let s1 : Int := d.2.1
  let s2 : Int := d.2.2.1
  let s7 : Int := d.2.2.2.1
  if (decide (s7 < (List.length s0 : Int))) = true then
    if (idxIn s7 (List.length s0)) = true then
    let r8 : Bool × Unit := g_spec_l1In ((at_ I s0 s7.toNat, (s1, (s2, ()))))
    if (!r8.1) = true then
      some (.inl (false, ()))
    else
      if (decide (s7 > (0 : Int))) = true then
        let x9 : Int := IntKind.wrap .i64 (s7 - (1 : Int))
        if (idxIn x9 (List.length s0)) = true then
        if (idxIn s7 (List.length s0)) = true then
        if (decide (at_ I s0 x9.toNat ≥ at_ I s0 s7.toNat)) = true then
          some (.inl (false, ()))
        else
          let x10 : Int := IntKind.wrap .i64 (s7 + (1 : Int))
          back ((s0, (s1, (s2, (x10, ())))))
        else none
        else none
      else
        let x11 : Int := IntKind.wrap .i64 (s7 + (1 : Int))
        back ((s0, (s1, (s2, (x11, ())))))
    else none
  else
    some (.inr (.inl ()))
noncomputable def spec_l1Rising_l0 (N : Nat) : Nat → spec_l1Rising_l0_H → Option spec_l1Rising_l0_O
  | 0, _ => none
  | k + 1, d => spec_l1Rising_l0_r N (spec_l1Rising_l0 N k) d
theorem spec_l1Rising_l0_ok (N : Nat) (back) (d) : roundR Γ_spec_l1Rising (assoc []) 0 spec_l1Rising_l0_h spec_l1Rising_l0_o (loopOf Tryd.f35 0) back d = spec_l1Rising_l0_r N back d := by kernel_rfl
noncomputable def F_spec_l1Rising (N : Nat) (d : List Int × Int × Int × Unit) : Option (Bool × Unit) :=
  let a0 : List Int := d.1
  let a1 : Int := d.2.1
  let a2 : Int := d.2.2.1
  (spec_l1Rising_l0 N N ((a0, (a1, (a2, ((0 : Int), ())))))).bind fun o5 => match o5 with
  | .inl d6 =>
    some (d6.1, ())
  | .inr (.inl d7) =>
    some (true, ())
theorem F_spec_l1Rising_ok (N : Nat) (d) : fnR Γ_spec_l1Rising (assoc [(0, ⟨spec_l1Rising_l0_h, spec_l1Rising_l0_o, spec_l1Rising_l0 N N⟩)]) true [(K_Si, false), (I, false), (I, false)] [.bool] Tryd.f35.results.toList (bodyOf Tryd.f35) d = F_spec_l1Rising N d := by kernel_rfl
noncomputable def S_spec_l1Rising : FSig := ⟨[(K_Si, false), (I, false), (I, false)], [.bool], true, (G_l1Rising)⟩
noncomputable def Γ_spec_l2Set : Ctx := { tk := assoc tks, ar := assoc ars, fs := assoc [(35, S_spec_l1Rising)] }
noncomputable def F_spec_l2Set (N : Nat) (d : (Int × (List (Int × Int × Unit)) × Unit) × List Int × Unit) : Option (Bool × Unit) :=
  let a0 : Int × (List (Int × Int × Unit)) × Unit := d.1
  let a1 : List Int := d.2.1
  let x1 : Int := IntKind.wrap .i64 (a0.1 - (1 : Int))
  (G_l1Rising ((a1, ((0 : Int), (x1, ()))))).bind fun r2 =>
  some (r2.1, ())
theorem F_spec_l2Set_ok (N : Nat) (d) : fnR Γ_spec_l2Set (assoc []) true [(K_PiSPiiqq, false), (K_Si, false)] [.bool] Tryd.f23.results.toList (bodyOf Tryd.f23) d = F_spec_l2Set N d := by kernel_rfl
noncomputable def S_spec_l2Set : FSig := ⟨[(K_PiSPiiqq, false), (K_Si, false)], [.bool], true, (F_spec_l2Set 0)⟩
noncomputable def Γ_spec_l12Good : Ctx := { tk := assoc tks, ar := assoc ars, fs := assoc [(21, S_spec_l2Good), (22, S_spec_l12Spot), (23, S_spec_l2Set), (24, S_spec_l1In)] }
noncomputable def F_spec_l12Good (N : Nat) (d : ((Int × (List (Int × Int × Unit)) × Unit) × Int × Int × List Int × Int × Unit) × Unit) : Option (Bool × Unit) :=
  let a0 : (Int × (List (Int × Int × Unit)) × Unit) × Int × Int × List Int × Int × Unit := d.1
  (G_graph (a0.1, ())).bind fun r1 =>
  if (r1.1) = true then
    let r2 : Bool × Unit := g_spec_l12Spot ((a0.1, (a0.2.1, ())))
    if (r2.1) = true then
      let r3 : Bool × Unit := g_spec_l12Spot ((a0.1, (a0.2.2.1, ())))
      if (r3.1) = true then
        ((F_spec_l2Set 0) ((a0.1, (a0.2.2.2.1, ())))).bind fun r4 =>
        if (r4.1) = true then
          let r5 : Bool × Unit := g_spec_l1In ((a0.2.2.2.2.1, ((0 : Int), ((1000 : Int), ()))))
          some (r5.1, ())
        else
          some (false, ())
      else
        some (false, ())
    else
      some (false, ())
  else
    some (false, ())
theorem F_spec_l12Good_ok (N : Nat) (d) : fnR Γ_spec_l12Good (assoc []) true [(K_PPiSPiiqqiiSiiq, false)] [.bool] Tryd.f11.results.toList (bodyOf Tryd.f11) d = F_spec_l12Good N d := by kernel_rfl
noncomputable def S_spec_l12Good : FSig := ⟨[(K_PPiSPiiqqiiSiiq, false)], [.bool], true, (F_spec_l12Good 0)⟩
noncomputable def Γ_spec_l1Split : Ctx := { tk := assoc tks, ar := assoc ars, fs := assoc [] }
abbrev spec_l1Split_l0_H := ByteArray × Int × List ByteArray × Int × Int × Unit
abbrev spec_l1Split_l0_O := (ByteArray × List ByteArray × Int × Unit) ⊕ Empty
def spec_l1Split_l0_h : Form := [(0, .v .str), (1, .v (.int .u8)), (5, .own K_Ss 99), (6, .v I), (7, .v I)]
def spec_l1Split_l0_o : Outs := [(.normal, [(0, .v .str), (5, .own K_Ss 99), (6, .v I)])]
noncomputable def spec_l1Split_l0_r (N : Nat) (back : spec_l1Split_l0_H → Option spec_l1Split_l0_O) (d : spec_l1Split_l0_H) : Option spec_l1Split_l0_O :=
  let s0 : ByteArray := d.1
  let s1 : Int := d.2.1
  let s5 : List ByteArray := d.2.2.1
  let s6 : Int := d.2.2.2.1
  let s7 : Int := d.2.2.2.2.1
  if (decide (s7 < (s0.size : Int))) = true then
    if (idxIn s7 s0.size) = true then
    if ((byteAt s0 s7.toNat : Int) == s1) = true then
      if ((decide (0 ≤ s6) && decide (s6 ≤ s7) && decide (s7 ≤ (s0.size : Int)))) = true then
      if (decide (List.length s5 + List.length ([subS s0 s6 s7]) ≤ lim)) = true then
      let x7 : Int := IntKind.wrap .i64 (s7 + (1 : Int))
      let x8 : Int := IntKind.wrap .i64 (s7 + (1 : Int))
      back ((s0, (s1, (s5 ++ ([subS s0 s6 s7]), (x7, (x8, ()))))))
      else none
      else none
    else
      let x9 : Int := IntKind.wrap .i64 (s7 + (1 : Int))
      back ((s0, (s1, (s5, (s6, (x9, ()))))))
    else none
  else
    some (.inl ((s0, (s5, (s6, ())))))
noncomputable def spec_l1Split_l0 (N : Nat) : Nat → spec_l1Split_l0_H → Option spec_l1Split_l0_O
  | 0, _ => none
  | k + 1, d => spec_l1Split_l0_r N (spec_l1Split_l0 N k) d
theorem spec_l1Split_l0_ok (N : Nat) (back) (d) : roundR Γ_spec_l1Split (assoc []) 0 spec_l1Split_l0_h spec_l1Split_l0_o (loopOf Tryd.f36 0) back d = spec_l1Split_l0_r N back d := by kernel_rfl
noncomputable def F_spec_l1Split (N : Nat) (d : ByteArray × Int × Unit) : Option (List ByteArray × Unit) :=
  let a0 : ByteArray := d.1
  let a1 : Int := d.2.1
  (spec_l1Split_l0 N N ((a0, (a1, (([] : List ByteArray), ((0 : Int), ((0 : Int), ()))))))).bind fun o4 => match o4 with
  | .inl d5 =>
    if ((decide (0 ≤ d5.2.2.1) && decide (d5.2.2.1 ≤ (d5.1.size : Int)) && decide ((d5.1.size : Int) ≤ (d5.1.size : Int)))) = true then
    let x6 : ByteArray := subS d5.1 d5.2.2.1 (d5.1.size : Int)
    if (decide (List.length d5.2.1 + List.length ([x6]) ≤ lim)) = true then
    some (d5.2.1 ++ ([x6]), ())
    else none
    else none
theorem F_spec_l1Split_ok (N : Nat) (d) : fnR Γ_spec_l1Split (assoc [(0, ⟨spec_l1Split_l0_h, spec_l1Split_l0_o, spec_l1Split_l0 N N⟩)]) true [(.str, false), ((.int .u8), false)] [K_Ss] Tryd.f36.results.toList (bodyOf Tryd.f36) d = F_spec_l1Split N d := by kernel_rfl
noncomputable def S_spec_l1Split : FSig := ⟨[(.str, false), ((.int .u8), false)], [K_Ss], true, (G_l1Split)⟩
noncomputable def F_spec_l1Num : Nat → (Int × Unit) → Option (ByteArray × Unit)
  | 0, _ => none
  | N + 1, d =>
    let a0 : Int := d.1
    if (decide (a0 < (0 : Int))) = true then
      (F_spec_l1Num N (IntKind.wrap .i64 (0 - a0), ())).bind fun r1 =>
      if (decide ((⟨#[45]⟩ : ByteArray).size + r1.1.size ≤ maxLen)) = true then
      let x2 : ByteArray := (⟨#[45]⟩ : ByteArray) ++ r1.1
      some (x2, ())
      else none
    else
      if (decide (a0 < (10 : Int))) = true then
        let x3 : Int := IntKind.wrap .i64 (a0 + (1 : Int))
        if ((decide (0 ≤ a0) && decide (a0 ≤ x3) && decide (x3 ≤ ((⟨#[48, 49, 50, 51, 52, 53, 54, 55, 56, 57]⟩ : ByteArray).size : Int)))) = true then
        let x4 : ByteArray := subS (⟨#[48, 49, 50, 51, 52, 53, 54, 55, 56, 57]⟩ : ByteArray) a0 x3
        some (x4, ())
        else none
      else
        if ((10 : Int) != 0) = true then
        let x5 : Int := IntKind.wrap .i64 (a0.tdiv (10 : Int))
        (F_spec_l1Num N (x5, ())).bind fun r6 =>
        if ((10 : Int) != 0) = true then
        if ((10 : Int) != 0) = true then
        let x7 : Int := IntKind.wrap .i64 (a0.tmod (10 : Int) + (1 : Int))
        if ((decide (0 ≤ a0.tmod (10 : Int)) && decide (a0.tmod (10 : Int) ≤ x7) && decide (x7 ≤ ((⟨#[48, 49, 50, 51, 52, 53, 54, 55, 56, 57]⟩ : ByteArray).size : Int)))) = true then
        let x8 : ByteArray := subS (⟨#[48, 49, 50, 51, 52, 53, 54, 55, 56, 57]⟩ : ByteArray) (a0.tmod (10 : Int)) x7
        if (decide (r6.1.size + x8.size ≤ maxLen)) = true then
        some (r6.1 ++ x8, ())
        else none
        else none
        else none
        else none
        else none
noncomputable def S_spec_l1Num_rec (N : Nat) : FSig := ⟨[(I, false)], [.str], true, F_spec_l1Num N⟩
noncomputable def Γ_spec_l1Num (N : Nat) : Ctx := { tk := assoc tks, ar := assoc ars, fs := assoc [(46, S_spec_l1Num_rec N)] }
theorem F_spec_l1Num_ok (N : Nat) (d) : fnR (Γ_spec_l1Num N) (assoc []) true [(I, false)] [.str] Tryd.f46.results.toList (bodyOf Tryd.f46) d = F_spec_l1Num (N + 1) d := by kernel_rfl
noncomputable def S_spec_l1Num : FSig := ⟨[(I, false)], [.str], true, (G_l1Num)⟩
noncomputable def Γ_spec_l12Bytes : Ctx := { tk := assoc tks, ar := assoc ars, fs := assoc [(24, S_spec_l1In)] }
abbrev spec_l12Bytes_l0_H := ByteArray × Int × Int × Unit
abbrev spec_l12Bytes_l0_O := (Bool × Unit) ⊕ (ByteArray × Int × Unit) ⊕ Empty
def spec_l12Bytes_l0_h : Form := [(0, .v .str), (1, .v I), (5, .v I)]
def spec_l12Bytes_l0_o : Outs := [(.ret, [(4, .v .bool)]), (.normal, [(0, .v .str), (1, .v I)])]
noncomputable def spec_l12Bytes_l0_r (N : Nat) (back : spec_l12Bytes_l0_H → Option spec_l12Bytes_l0_O) (d : spec_l12Bytes_l0_H) : Option spec_l12Bytes_l0_O :=
  let s0 : ByteArray := d.1
  let s1 : Int := d.2.1
  let s5 : Int := d.2.2.1
  if (decide (s5 < (s0.size : Int))) = true then
    if (idxIn s5 s0.size) = true then
    let x7 : Int := IntKind.wrap .i64 (byteAt s0 s5.toNat : Int)
    let r8 : Bool × Unit := g_spec_l1In ((x7, ((32 : Int), ((126 : Int), ()))))
    if (!r8.1) = true then
      some (.inl (false, ()))
    else
      if (idxIn s5 s0.size) = true then
      if ((byteAt s0 s5.toNat : Int) == (35 : Int)) = true then
        some (.inl (false, ()))
      else
        let x9 : Int := IntKind.wrap .i64 (s5 + (1 : Int))
        back ((s0, (s1, (x9, ()))))
      else none
    else none
  else
    some (.inr (.inl ((s0, (s1, ())))))
noncomputable def spec_l12Bytes_l0 (N : Nat) : Nat → spec_l12Bytes_l0_H → Option spec_l12Bytes_l0_O
  | 0, _ => none
  | k + 1, d => spec_l12Bytes_l0_r N (spec_l12Bytes_l0 N k) d
theorem spec_l12Bytes_l0_ok (N : Nat) (back) (d) : roundR Γ_spec_l12Bytes (assoc []) 0 spec_l12Bytes_l0_h spec_l12Bytes_l0_o (loopOf Tryd.f58 0) back d = spec_l12Bytes_l0_r N back d := by kernel_rfl
noncomputable def F_spec_l12Bytes (N : Nat) (d : ByteArray × Int × Unit) : Option (Bool × Unit) :=
  let a0 : ByteArray := d.1
  let a1 : Int := d.2.1
  (spec_l12Bytes_l0 N N ((a0, (a1, ((0 : Int), ()))))).bind fun o4 => match o4 with
  | .inl d5 =>
    some (d5.1, ())
  | .inr (.inl d6) =>
    some ((decide ((d6.1.size : Int) ≤ d6.2.1), ()))
theorem F_spec_l12Bytes_ok (N : Nat) (d) : fnR Γ_spec_l12Bytes (assoc [(0, ⟨spec_l12Bytes_l0_h, spec_l12Bytes_l0_o, spec_l12Bytes_l0 N N⟩)]) true [(.str, false), (I, false)] [.bool] Tryd.f58.results.toList (bodyOf Tryd.f58) d = F_spec_l12Bytes N d := by kernel_rfl
noncomputable def S_spec_l12Bytes : FSig := ⟨[(.str, false), (I, false)], [.bool], true, (G_l12Bytes)⟩
noncomputable def Γ_spec_l1Stands : Ctx := { tk := assoc tks, ar := assoc ars, fs := assoc [] }
abbrev spec_l1Stands_l0_H := ByteArray × Int × Int × Unit
abbrev spec_l1Stands_l0_O := (Bool × Unit) ⊕ Unit ⊕ Empty
def spec_l1Stands_l0_h : Form := [(0, .v .str), (1, .v (.int .u8)), (5, .v I)]
def spec_l1Stands_l0_o : Outs := [(.ret, [(4, .v .bool)]), (.normal, [])]
noncomputable def spec_l1Stands_l0_r (N : Nat) (back : spec_l1Stands_l0_H → Option spec_l1Stands_l0_O) (d : spec_l1Stands_l0_H) : Option spec_l1Stands_l0_O :=
  let s0 : ByteArray := d.1
  let s1 : Int := d.2.1
  let s5 : Int := d.2.2.1
  if (decide (s5 < (s0.size : Int))) = true then
    if (idxIn s5 s0.size) = true then
    if ((byteAt s0 s5.toNat : Int) == s1) = true then
      some (.inl (true, ()))
    else
      let x5 : Int := IntKind.wrap .i64 (s5 + (1 : Int))
      back ((s0, (s1, (x5, ()))))
    else none
  else
    some (.inr (.inl ()))
noncomputable def spec_l1Stands_l0 (N : Nat) : Nat → spec_l1Stands_l0_H → Option spec_l1Stands_l0_O
  | 0, _ => none
  | k + 1, d => spec_l1Stands_l0_r N (spec_l1Stands_l0 N k) d
theorem spec_l1Stands_l0_ok (N : Nat) (back) (d) : roundR Γ_spec_l1Stands (assoc []) 0 spec_l1Stands_l0_h spec_l1Stands_l0_o (loopOf Tryd.f59 0) back d = spec_l1Stands_l0_r N back d := by kernel_rfl
noncomputable def F_spec_l1Stands (N : Nat) (d : ByteArray × Int × Unit) : Option (Bool × Unit) :=
  let a0 : ByteArray := d.1
  let a1 : Int := d.2.1
  (spec_l1Stands_l0 N N ((a0, (a1, ((0 : Int), ()))))).bind fun o2 => match o2 with
  | .inl d3 =>
    some (d3.1, ())
  | .inr (.inl d4) =>
    some (false, ())
theorem F_spec_l1Stands_ok (N : Nat) (d) : fnR Γ_spec_l1Stands (assoc [(0, ⟨spec_l1Stands_l0_h, spec_l1Stands_l0_o, spec_l1Stands_l0 N N⟩)]) true [(.str, false), ((.int .u8), false)] [.bool] Tryd.f59.results.toList (bodyOf Tryd.f59) d = F_spec_l1Stands N d := by kernel_rfl
noncomputable def S_spec_l1Stands : FSig := ⟨[(.str, false), ((.int .u8), false)], [.bool], true, (G_l1Stands)⟩
noncomputable def Γ_spec_l12Record : Ctx := { tk := assoc tks, ar := assoc ars, fs := assoc [(58, S_spec_l12Bytes), (59, S_spec_l1Stands)] }
noncomputable def F_spec_l12Record (N : Nat) (d : (ByteArray × ByteArray × Unit) × Unit) : Option (Bool × Unit) :=
  let a0 : ByteArray × ByteArray × Unit := d.1
  if (!seq_ a0.1 (⟨#[]⟩ : ByteArray)) = true then
    (G_l12Bytes ((a0.1, ((160 : Int), ())))).bind fun r1 =>
    if (r1.1) = true then
      (G_l1Stands ((a0.1, ((64 : Int), ())))).bind fun r2 =>
      if (!r2.1) = true then
        (G_l12Bytes ((a0.2.1, ((200 : Int), ())))).bind fun r3 =>
        some (r3.1, ())
      else
        some (false, ())
    else
      some (false, ())
  else
    some (false, ())
theorem F_spec_l12Record_ok (N : Nat) (d) : fnR Γ_spec_l12Record (assoc []) true [(K_Pssq, false)] [.bool] Tryd.f47.results.toList (bodyOf Tryd.f47) d = F_spec_l12Record N d := by kernel_rfl
noncomputable def S_spec_l12Record : FSig := ⟨[(K_Pssq, false)], [.bool], true, (F_spec_l12Record 0)⟩
noncomputable def Γ_spec_l1Sum : Ctx := { tk := assoc tks, ar := assoc ars, fs := assoc [] }
abbrev spec_l1Sum_l0_H := ByteArray × Int × Int × Unit
abbrev spec_l1Sum_l0_O := (Int × Unit) ⊕ Empty
def spec_l1Sum_l0_h : Form := [(0, .v .str), (3, .v I), (4, .v I)]
def spec_l1Sum_l0_o : Outs := [(.normal, [(3, .v I)])]
noncomputable def spec_l1Sum_l0_r (N : Nat) (back : spec_l1Sum_l0_H → Option spec_l1Sum_l0_O) (d : spec_l1Sum_l0_H) : Option spec_l1Sum_l0_O :=
  let s0 : ByteArray := d.1
  let s3 : Int := d.2.1
  let s4 : Int := d.2.2.1
  if (decide (s4 < (s0.size : Int))) = true then
    let x7 : Int := IntKind.wrap .i64 ((41 : Int) * s3)
    if (idxIn s4 s0.size) = true then
    let x8 : Int := IntKind.wrap .i64 (byteAt s0 s4.toNat : Int)
    let x9 : Int := IntKind.wrap .i64 (IntKind.wrap .i64 (x7 + x8) + (1 : Int))
    if ((999979 : Int) != 0) = true then
    let x10 : Int := IntKind.wrap .i64 (s4 + (1 : Int))
    back ((s0, (x9.tmod (999979 : Int), (x10, ()))))
    else none
    else none
  else
    some (.inl (s3, ()))
noncomputable def spec_l1Sum_l0 (N : Nat) : Nat → spec_l1Sum_l0_H → Option spec_l1Sum_l0_O
  | 0, _ => none
  | k + 1, d => spec_l1Sum_l0_r N (spec_l1Sum_l0 N k) d
theorem spec_l1Sum_l0_ok (N : Nat) (back) (d) : roundR Γ_spec_l1Sum (assoc []) 0 spec_l1Sum_l0_h spec_l1Sum_l0_o (loopOf Tryd.f67 0) back d = spec_l1Sum_l0_r N back d := by kernel_rfl
noncomputable def F_spec_l1Sum (N : Nat) (d : ByteArray × Unit) : Option (Int × Unit) :=
  let a0 : ByteArray := d.1
  (spec_l1Sum_l0 N N ((a0, ((7 : Int), ((0 : Int), ()))))).bind fun o5 => match o5 with
  | .inl d6 =>
    some (d6.1, ())
theorem F_spec_l1Sum_ok (N : Nat) (d) : fnR Γ_spec_l1Sum (assoc [(0, ⟨spec_l1Sum_l0_h, spec_l1Sum_l0_o, spec_l1Sum_l0 N N⟩)]) true [(.str, false)] [I] Tryd.f67.results.toList (bodyOf Tryd.f67) d = F_spec_l1Sum N d := by kernel_rfl
noncomputable def S_spec_l1Sum : FSig := ⟨[(.str, false)], [I], true, (G_sum)⟩
noncomputable def Γ_spec_l1Seal : Ctx := { tk := assoc tks, ar := assoc ars, fs := assoc [(46, S_spec_l1Num), (67, S_spec_l1Sum)] }
noncomputable def F_spec_l1Seal (N : Nat) (d : ByteArray × Unit) : Option (ByteArray × Unit) :=
  let a0 : ByteArray := d.1
  if (decide (a0.size + (⟨#[35]⟩ : ByteArray).size ≤ maxLen)) = true then
  (G_sum (a0, ())).bind fun r1 =>
  (G_l1Num (r1.1, ())).bind fun r2 =>
  if (decide ((a0 ++ (⟨#[35]⟩ : ByteArray)).size + r2.1.size ≤ maxLen)) = true then
  let x3 : ByteArray := (a0 ++ (⟨#[35]⟩ : ByteArray)) ++ r2.1
  some (x3, ())
  else none
  else none
theorem F_spec_l1Seal_ok (N : Nat) (d) : fnR Γ_spec_l1Seal (assoc []) true [(.str, false)] [.str] Tryd.f60.results.toList (bodyOf Tryd.f60) d = F_spec_l1Seal N d := by kernel_rfl
noncomputable def S_spec_l1Seal : FSig := ⟨[(.str, false)], [.str], true, (F_spec_l1Seal 0)⟩
noncomputable def Γ_spec_l12Line : Ctx := { tk := assoc tks, ar := assoc ars, fs := assoc [(46, S_spec_l1Num), (60, S_spec_l1Seal)] }
noncomputable def F_spec_l12Line (N : Nat) (d : Int × (ByteArray × ByteArray × Unit) × Unit) : Option (ByteArray × Unit) :=
  let a0 : Int := d.1
  let a1 : ByteArray × ByteArray × Unit := d.2.1
  (G_l1Num (a0, ())).bind fun r1 =>
  if (decide (r1.1.size + (⟨#[32]⟩ : ByteArray).size ≤ maxLen)) = true then
  let x2 : ByteArray := r1.1 ++ (⟨#[32]⟩ : ByteArray)
  if (decide (x2.size + a1.1.size ≤ maxLen)) = true then
  if (decide ((x2 ++ a1.1).size + (⟨#[64]⟩ : ByteArray).size ≤ maxLen)) = true then
  let x3 : ByteArray := (x2 ++ a1.1) ++ (⟨#[64]⟩ : ByteArray)
  if (decide (x3.size + a1.2.1.size ≤ maxLen)) = true then
  ((F_spec_l1Seal 0) (x3 ++ a1.2.1, ())).bind fun r4 =>
  if (decide (r4.1.size + (⟨#[10]⟩ : ByteArray).size ≤ maxLen)) = true then
  let x5 : ByteArray := r4.1 ++ (⟨#[10]⟩ : ByteArray)
  some (x5, ())
  else none
  else none
  else none
  else none
  else none
theorem F_spec_l12Line_ok (N : Nat) (d) : fnR Γ_spec_l12Line (assoc []) true [(I, false), (K_Pssq, false)] [.str] Tryd.f48.results.toList (bodyOf Tryd.f48) d = F_spec_l12Line N d := by kernel_rfl
noncomputable def S_spec_l12Line : FSig := ⟨[(I, false), (K_Pssq, false)], [.str], true, (F_spec_l12Line 0)⟩
noncomputable def Γ_spec_l12Decode : Ctx := { tk := assoc tks, ar := assoc ars, fs := assoc [(36, S_spec_l1Split), (46, S_spec_l1Num), (47, S_spec_l12Record), (48, S_spec_l12Line)] }
noncomputable def F_spec_l12Decode (N : Nat) (d : ByteArray × Int × Unit) : Option ((ByteArray × ByteArray × Unit) × Bool × Unit) :=
  let a0 : ByteArray := d.1
  let a1 : Int := d.2.1
  (G_l1Num (a1, ())).bind fun r1 =>
  if (decide (r1.1.size + (⟨#[32]⟩ : ByteArray).size ≤ maxLen)) = true then
  let x2 : ByteArray := r1.1 ++ (⟨#[32]⟩ : ByteArray)
  (G_l1Split ((a0, ((35 : Int), ())))).bind fun r3 =>
  if (idxIn (0 : Int) (List.length r3.1)) = true then
  if (decide (((at_ .str r3.1 (0 : Int).toNat).size : Int) < (x2.size : Int))) = true then
    some (((ByteArray.empty, (ByteArray.empty, ())), (false, ())))
  else
    if ((decide (0 ≤ (0 : Int)) && decide ((0 : Int) ≤ (x2.size : Int)) && decide ((x2.size : Int) ≤ ((at_ .str r3.1 (0 : Int).toNat).size : Int)))) = true then
    let x4 : ByteArray := subS (at_ .str r3.1 (0 : Int).toNat) (0 : Int) (x2.size : Int)
    if (!seq_ x4 x2) = true then
      some (((ByteArray.empty, (ByteArray.empty, ())), (false, ())))
    else
      if ((decide (0 ≤ (x2.size : Int)) && decide ((x2.size : Int) ≤ ((at_ .str r3.1 (0 : Int).toNat).size : Int)) && decide (((at_ .str r3.1 (0 : Int).toNat).size : Int) ≤ ((at_ .str r3.1 (0 : Int).toNat).size : Int)))) = true then
      let x5 : ByteArray := subS (at_ .str r3.1 (0 : Int).toNat) (x2.size : Int) (((at_ .str r3.1 (0 : Int).toNat).size : Int))
      (G_l1Split ((x5, ((64 : Int), ())))).bind fun r6 =>
      if (idxIn (0 : Int) (List.length r6.1)) = true then
      if (((at_ .str r6.1 (0 : Int).toNat).size : Int) == (x5.size : Int)) = true then
        some (((ByteArray.empty, (ByteArray.empty, ())), (false, ())))
      else
        let x7 : Int := IntKind.wrap .i64 (((at_ .str r6.1 (0 : Int).toNat).size : Int) + (1 : Int))
        if ((decide (0 ≤ x7) && decide (x7 ≤ (x5.size : Int)) && decide ((x5.size : Int) ≤ (x5.size : Int)))) = true then
        ((F_spec_l12Record 0) (((at_ .str r6.1 (0 : Int).toNat, (subS x5 x7 (x5.size : Int), ())), ()))).bind fun r8 =>
        if (r8.1) = true then
          ((F_spec_l12Line 0) ((a1, ((at_ .str r6.1 (0 : Int).toNat, (subS x5 x7 (x5.size : Int), ())), ())))).bind fun r9 =>
          if (decide (a0.size + (⟨#[10]⟩ : ByteArray).size ≤ maxLen)) = true then
          some (((at_ .str r6.1 (0 : Int).toNat, (subS x5 x7 (x5.size : Int), ())), (seq_ r9.1 (a0 ++ (⟨#[10]⟩ : ByteArray)), ())))
          else none
        else
          some (((at_ .str r6.1 (0 : Int).toNat, (subS x5 x7 (x5.size : Int), ())), (false, ())))
        else none
      else none
      else none
    else none
  else none
  else none
theorem F_spec_l12Decode_ok (N : Nat) (d) : fnR Γ_spec_l12Decode (assoc []) true [(.str, false), (I, false)] [K_Pssq, .bool] Tryd.f37.results.toList (bodyOf Tryd.f37) d = F_spec_l12Decode N d := by kernel_rfl
noncomputable def S_spec_l12Decode : FSig := ⟨[(.str, false), (I, false)], [K_Pssq, .bool], true, (F_spec_l12Decode 0)⟩
noncomputable def Γ_spec_l12Open : Ctx := { tk := assoc tks, ar := assoc ars, fs := assoc [(36, S_spec_l1Split), (37, S_spec_l12Decode)] }
abbrev spec_l12Open_l0_H := ByteArray × (List (ByteArray × ByteArray × Unit)) × Int × Unit
abbrev spec_l12Open_l0_O := ((List (ByteArray × ByteArray × Unit)) × Int × Unit) ⊕ Empty
def spec_l12Open_l0_h : Form := [(0, .v .str), (4, .own K_SPssq 99), (5, .v I)]
def spec_l12Open_l0_o : Outs := [(.normal, [(4, .own K_SPssq 99), (5, .v I)])]
noncomputable def spec_l12Open_l0_r (N : Nat) (back : spec_l12Open_l0_H → Option spec_l12Open_l0_O) (d : spec_l12Open_l0_H) : Option spec_l12Open_l0_O :=
  let s0 : ByteArray := d.1
  let s4 : List (ByteArray × ByteArray × Unit) := d.2.1
  let s5 : Int := d.2.2.1
  if (decide (s5 < (s0.size : Int))) = true then
    if (decide ((List.length s4 : Int) < (60 : Int))) = true then
      if ((decide (0 ≤ s5) && decide (s5 ≤ (s0.size : Int)) && decide ((s0.size : Int) ≤ (s0.size : Int)))) = true then
      (G_l1Split ((subS s0 s5 (s0.size : Int), ((10 : Int), ())))).bind fun r7 =>
      if (idxIn (0 : Int) (List.length r7.1)) = true then
      ((F_spec_l12Decode 0) ((at_ .str r7.1 (0 : Int).toNat, ((List.length s4 : Int), ())))).bind fun r8 =>
      if (decide ((List.length r7.1 : Int) < (2 : Int))) = true then
        some (.inl ((s4, (s5, ()))))
      else
        if (!r8.2.1) = true then
          some (.inl ((s4, (s5, ()))))
        else
          if (decide (List.length s4 + List.length ([r8.1]) ≤ lim)) = true then
          if (idxIn (0 : Int) (List.length r7.1)) = true then
          let x9 : Int := IntKind.wrap .i64 (s5 + ((at_ .str r7.1 (0 : Int).toNat).size : Int))
          let x10 : Int := IntKind.wrap .i64 (x9 + (1 : Int))
          back ((s0, (s4 ++ ([r8.1]), (x10, ()))))
          else none
          else none
      else none
      else none
    else
      some (.inl ((s4, (s5, ()))))
  else
    some (.inl ((s4, (s5, ()))))
noncomputable def spec_l12Open_l0 (N : Nat) : Nat → spec_l12Open_l0_H → Option spec_l12Open_l0_O
  | 0, _ => none
  | k + 1, d => spec_l12Open_l0_r N (spec_l12Open_l0 N k) d
theorem spec_l12Open_l0_ok (N : Nat) (back) (d) : roundR Γ_spec_l12Open (assoc []) 0 spec_l12Open_l0_h spec_l12Open_l0_o (loopOf Tryd.f25 0) back d = spec_l12Open_l0_r N back d := by kernel_rfl
noncomputable def F_spec_l12Open (N : Nat) (d : ByteArray × Unit) : Option ((List (ByteArray × ByteArray × Unit)) × Int × Unit) :=
  let a0 : ByteArray := d.1
  (spec_l12Open_l0 N N ((a0, (([] : List (ByteArray × ByteArray × Unit)), ((0 : Int), ()))))).bind fun o5 => match o5 with
  | .inl d6 =>
    some ((d6.1, (d6.2.1, ())))
theorem F_spec_l12Open_ok (N : Nat) (d) : fnR Γ_spec_l12Open (assoc [(0, ⟨spec_l12Open_l0_h, spec_l12Open_l0_o, spec_l12Open_l0 N N⟩)]) true [(.str, false)] [K_SPssq, I] Tryd.f25.results.toList (bodyOf Tryd.f25) d = F_spec_l12Open N d := by kernel_rfl
noncomputable def S_spec_l12Open : FSig := ⟨[(.str, false)], [K_SPssq, I], true, (G_open)⟩
noncomputable def Γ_spec_l12Valid : Ctx := { tk := assoc tks, ar := assoc ars, fs := assoc [(25, S_spec_l12Open)] }
noncomputable def F_spec_l12Valid (N : Nat) (d : (ByteArray × ByteArray × Int × Unit) × Unit) : Option (Bool × Unit) :=
  let a0 : ByteArray × ByteArray × Int × Unit := d.1
  let x1 : Int := IntKind.wrap .i64 ((a0.1.size : Int) + (a0.2.1.size : Int))
  if (decide (x1 > (30000 : Int))) = true then
    some (false, ())
  else
    if (decide (a0.1.size + a0.2.1.size ≤ maxLen)) = true then
    (G_open (a0.1 ++ a0.2.1, ())).bind fun r2 =>
    (G_open (a0.1, ())).bind fun r3 =>
    let x4 : Int := IntKind.wrap .i64 ((a0.1.size : Int) + (a0.2.1.size : Int))
    if (r2.2.1 == x4) = true then
      if (r3.2.1 == (a0.1.size : Int)) = true then
        some ((List.length r2.1 : Int) == a0.2.2.1, ())
      else
        some (false, ())
    else
      some (false, ())
    else none
theorem F_spec_l12Valid_ok (N : Nat) (d) : fnR Γ_spec_l12Valid (assoc []) true [(K_Pssiq, false)] [.bool] Tryd.f12.results.toList (bodyOf Tryd.f12) d = F_spec_l12Valid N d := by kernel_rfl
noncomputable def S_spec_l12Valid : FSig := ⟨[(K_Pssiq, false)], [.bool], true, (F_spec_l12Valid 0)⟩
noncomputable def Γ_spec_IsValidConsole : Ctx := { tk := assoc tks, ar := assoc ars, fs := assoc [(11, S_spec_l12Good), (12, S_spec_l12Valid)] }
noncomputable def F_spec_IsValidConsole (N : Nat) (d : (((Int × (List (Int × Int × Unit)) × Unit) × Int × Int × List Int × Int × Unit) × (ByteArray × ByteArray × Int × Unit) × Unit) × Unit) : Option (Bool × Unit) :=
  let a0 : ((Int × (List (Int × Int × Unit)) × Unit) × Int × Int × List Int × Int × Unit) × (ByteArray × ByteArray × Int × Unit) × Unit := d.1
  ((F_spec_l12Good 0) (a0.1, ())).bind fun r1 =>
  if (r1.1) = true then
    ((F_spec_l12Valid 0) (a0.2.1, ())).bind fun r2 =>
    some (r2.1, ())
  else
    some (false, ())
theorem F_spec_IsValidConsole_ok (N : Nat) (d) : fnR Γ_spec_IsValidConsole (assoc []) true [(K_PPPiSPiiqqiiSiiqPssiqq, false)] [.bool] Tryd.f5.results.toList (bodyOf Tryd.f5) d = F_spec_IsValidConsole N d := by kernel_rfl
noncomputable def S_spec_IsValidConsole : FSig := ⟨[(K_PPPiSPiiqqiiSiiqPssiqq, false)], [.bool], true, (F_spec_IsValidConsole 0)⟩
noncomputable def Γ_impl_within : Ctx := { tk := assoc tks, ar := assoc ars, fs := assoc [] }
noncomputable def F_impl_within (N : Nat) (d : Int × Int × Int × Unit) : Option (Bool × Unit) :=
  let a0 : Int := d.1
  let a1 : Int := d.2.1
  let a2 : Int := d.2.2.1
  if (decide (a0 ≥ a1)) = true then
    some (decide (a0 ≤ a2), ())
  else
    some (false, ())
theorem F_impl_within_ok (N : Nat) (d) : fnR Γ_impl_within (assoc []) true [(I, false), (I, false), (I, false)] [.bool] Tryd.f29.results.toList (bodyOf Tryd.f29) d = F_impl_within N d := by kernel_rfl
noncomputable def g_impl_within (d : Int × Int × Int × Unit) : Bool × Unit :=
  let a0 : Int := d.1
  let a1 : Int := d.2.1
  let a2 : Int := d.2.2.1
  if (decide (a0 ≥ a1)) = true then
    (decide (a0 ≤ a2), ())
  else
    (false, ())
theorem F_impl_within_tot (N : Nat) (d) : F_impl_within N d = some (g_impl_within d) := by
  unfold F_impl_within g_impl_within
  first
    | rfl
    | (dsimp only; (repeat' split) <;> rfl)
noncomputable def S_impl_within : FSig := ⟨[(I, false), (I, false), (I, false)], [.bool], true, (fun d => some (g_impl_within d))⟩
noncomputable def Γ_cmp_isNaN_int : Ctx := { tk := assoc tks, ar := assoc ars, fs := assoc [] }
noncomputable def F_cmp_isNaN_int (N : Nat) (d : Int × Unit) : Option (Bool × Unit) :=
  let a0 : Int := d.1
  some (a0 != a0, ())
theorem F_cmp_isNaN_int_ok (N : Nat) (d) : fnR Γ_cmp_isNaN_int (assoc []) true [(I, false)] [.bool] Tryd.f76.results.toList (bodyOf Tryd.f76) d = F_cmp_isNaN_int N d := by kernel_rfl
noncomputable def g_cmp_isNaN_int (d : Int × Unit) : Bool × Unit :=
  let a0 : Int := d.1
  (a0 != a0, ())
theorem F_cmp_isNaN_int_tot (N : Nat) (d) : F_cmp_isNaN_int N d = some (g_cmp_isNaN_int d) := by
  unfold F_cmp_isNaN_int g_cmp_isNaN_int
  first
    | rfl
    | (dsimp only; (repeat' split) <;> rfl)
noncomputable def S_cmp_isNaN_int : FSig := ⟨[(I, false)], [.bool], true, (fun d => some (g_cmp_isNaN_int d))⟩
noncomputable def Γ_cmp_Compare_int : Ctx := { tk := assoc tks, ar := assoc ars, fs := assoc [(76, S_cmp_isNaN_int)] }
noncomputable def F_cmp_Compare_int (N : Nat) (d : Int × Int × Unit) : Option (Int × Unit) :=
  let a0 : Int := d.1
  let a1 : Int := d.2.1
  let r1 : Bool × Unit := g_cmp_isNaN_int (a0, ())
  let r2 : Bool × Unit := g_cmp_isNaN_int (a1, ())
  if (r1.1) = true then
    if (r2.1) = true then
      some ((0 : Int), ())
    else
      some ((-1 : Int), ())
  else
    if (r2.1) = true then
      some ((1 : Int), ())
    else
      if (decide (a0 < a1)) = true then
        some ((-1 : Int), ())
      else
        if (decide (a0 > a1)) = true then
          some ((1 : Int), ())
        else
          some ((0 : Int), ())
theorem F_cmp_Compare_int_ok (N : Nat) (d) : fnR Γ_cmp_Compare_int (assoc []) true [(I, false), (I, false)] [I] Tryd.f68.results.toList (bodyOf Tryd.f68) d = F_cmp_Compare_int N d := by kernel_rfl
noncomputable def g_cmp_Compare_int (d : Int × Int × Unit) : Int × Unit :=
  let a0 : Int := d.1
  let a1 : Int := d.2.1
  let r1 : Bool × Unit := g_cmp_isNaN_int (a0, ())
  let r2 : Bool × Unit := g_cmp_isNaN_int (a1, ())
  if (r1.1) = true then
    if (r2.1) = true then
      ((0 : Int), ())
    else
      ((-1 : Int), ())
  else
    if (r2.1) = true then
      ((1 : Int), ())
    else
      if (decide (a0 < a1)) = true then
        ((-1 : Int), ())
      else
        if (decide (a0 > a1)) = true then
          ((1 : Int), ())
        else
          ((0 : Int), ())
theorem F_cmp_Compare_int_tot (N : Nat) (d) : F_cmp_Compare_int N d = some (g_cmp_Compare_int d) := by
  unfold F_cmp_Compare_int g_cmp_Compare_int
  first
    | rfl
    | (dsimp only; (repeat' split) <;> rfl)
noncomputable def S_cmp_Compare_int : FSig := ⟨[(I, false), (I, false)], [I], true, (fun d => some (g_cmp_Compare_int d))⟩
noncomputable def Γ_slices_Compare_Sint_int : Ctx := { tk := assoc tks, ar := assoc ars, fs := assoc [(68, S_cmp_Compare_int)] }
abbrev slices_Compare_Sint_int_l0_H := List Int × List Int × List Int × Int × Int × Unit
abbrev slices_Compare_Sint_int_l0_O := (Int × Unit) ⊕ (List Int × List Int × Unit) ⊕ Empty
def slices_Compare_Sint_int_l0_h : Form := [(0, .v K_Si), (1, .v K_Si), (9, .v K_Si), (10, .v I), (11, .v I)]
def slices_Compare_Sint_int_l0_o : Outs := [(.ret, [(4, .v I)]), (.normal, [(0, .v K_Si), (1, .v K_Si)])]
noncomputable def slices_Compare_Sint_int_l0_r (N : Nat) (back : slices_Compare_Sint_int_l0_H → Option slices_Compare_Sint_int_l0_O) (d : slices_Compare_Sint_int_l0_H) : Option slices_Compare_Sint_int_l0_O :=
  let s0 : List Int := d.1
  let s1 : List Int := d.2.1
  let s9 : List Int := d.2.2.1
  let s10 : Int := d.2.2.2.1
  let s11 : Int := d.2.2.2.2.1
  if (decide (s11 < s10)) = true then
    if (idxIn s11 (List.length s9)) = true then
    if (decide (s11 ≥ (List.length s1 : Int))) = true then
      some (.inl ((1 : Int), ()))
    else
      if (idxIn s11 (List.length s1)) = true then
      let r6 : Int × Unit := g_cmp_Compare_int ((at_ I s9 s11.toNat, (at_ I s1 s11.toNat, ())))
      if (r6.1 != (0 : Int)) = true then
        some (.inl (r6.1, ()))
      else
        let x7 : Int := IntKind.wrap .i64 (s11 + (1 : Int))
        back ((s0, (s1, (s9, (s10, (x7, ()))))))
      else none
    else none
  else
    some (.inr (.inl ((s0, (s1, ())))))
noncomputable def slices_Compare_Sint_int_l0 (N : Nat) : Nat → slices_Compare_Sint_int_l0_H → Option slices_Compare_Sint_int_l0_O
  | 0, _ => none
  | k + 1, d => slices_Compare_Sint_int_l0_r N (slices_Compare_Sint_int_l0 N k) d
theorem slices_Compare_Sint_int_l0_ok (N : Nat) (back) (d) : roundR Γ_slices_Compare_Sint_int (assoc []) 0 slices_Compare_Sint_int_l0_h slices_Compare_Sint_int_l0_o (loopOf Tryd.f61 0) back d = slices_Compare_Sint_int_l0_r N back d := by kernel_rfl
noncomputable def F_slices_Compare_Sint_int (N : Nat) (d : List Int × List Int × Unit) : Option (Int × Unit) :=
  let a0 : List Int := d.1
  let a1 : List Int := d.2.1
  (slices_Compare_Sint_int_l0 N N ((a0, (a1, (a0, ((List.length a0 : Int), ((0 : Int), ()))))))).bind fun o3 => match o3 with
  | .inl d4 =>
    some (d4.1, ())
  | .inr (.inl d5) =>
    if (decide ((List.length d5.1 : Int) < (List.length d5.2.1 : Int))) = true then
      some ((-1 : Int), ())
    else
      some ((0 : Int), ())
theorem F_slices_Compare_Sint_int_ok (N : Nat) (d) : fnR Γ_slices_Compare_Sint_int (assoc [(0, ⟨slices_Compare_Sint_int_l0_h, slices_Compare_Sint_int_l0_o, slices_Compare_Sint_int_l0 N N⟩)]) true [(K_Si, false), (K_Si, false)] [I] Tryd.f61.results.toList (bodyOf Tryd.f61) d = F_slices_Compare_Sint_int N d := by kernel_rfl
noncomputable def S_slices_Compare_Sint_int : FSig := ⟨[(K_Si, false), (K_Si, false)], [I], true, (G_compare)⟩
noncomputable def Γ_impl_IsGraph : Ctx := { tk := assoc tks, ar := assoc ars, fs := assoc [(29, S_impl_within), (61, S_slices_Compare_Sint_int)] }
abbrev impl_IsGraph_l0_H := (Int × (List (Int × Int × Unit)) × Unit) × (List (Int × Int × Unit)) × Int × Int × Unit
abbrev impl_IsGraph_l0_O := (Bool × Unit) ⊕ Unit ⊕ Empty
def impl_IsGraph_l0_h : Form := [(1, .box K_PiSPiiqq 0), (10, .v K_SPiiq), (11, .v I), (12, .v I)]
def impl_IsGraph_l0_o : Outs := [(.ret, [(2, .v .bool)]), (.normal, [])]
noncomputable def impl_IsGraph_l0_r (N : Nat) (back : impl_IsGraph_l0_H → Option impl_IsGraph_l0_O) (d : impl_IsGraph_l0_H) : Option impl_IsGraph_l0_O :=
  let s1 : Int × (List (Int × Int × Unit)) × Unit := d.1
  let s10 : List (Int × Int × Unit) := d.2.1
  let s11 : Int := d.2.2.1
  let s12 : Int := d.2.2.2.1
  if (decide (s12 < s11)) = true then
    if (idxIn s12 (List.length s10)) = true then
    if (decide ((at_ K_Piiq s10 s12.toNat).1 < (0 : Int))) = true then
      some (.inl (false, ()))
    else
      if (decide ((at_ K_Piiq s10 s12.toNat).1 ≥ (at_ K_Piiq s10 s12.toNat).2.1)) = true then
        some (.inl (false, ()))
      else
        if (decide ((at_ K_Piiq s10 s12.toNat).2.1 ≥ s1.1)) = true then
          some (.inl (false, ()))
        else
          if (decide (s12 > (0 : Int))) = true then
            let x9 : Int := IntKind.wrap .i64 (s12 - (1 : Int))
            if (idxIn x9 (List.length s1.2.1)) = true then
            (G_compare (([(at_ K_Piiq s1.2.1 x9.toNat).1, (at_ K_Piiq s1.2.1 x9.toNat).2.1], ([(at_ K_Piiq s10 s12.toNat).1, (at_ K_Piiq s10 s12.toNat).2.1], ())))).bind fun r10 =>
            if (decide (r10.1 ≥ (0 : Int))) = true then
              some (.inl (false, ()))
            else
              let x11 : Int := IntKind.wrap .i64 (s12 + (1 : Int))
              back ((s1, (s10, (s11, (x11, ())))))
            else none
          else
            let x12 : Int := IntKind.wrap .i64 (s12 + (1 : Int))
            back ((s1, (s10, (s11, (x12, ())))))
    else none
  else
    some (.inr (.inl ()))
noncomputable def impl_IsGraph_l0 (N : Nat) : Nat → impl_IsGraph_l0_H → Option impl_IsGraph_l0_O
  | 0, _ => none
  | k + 1, d => impl_IsGraph_l0_r N (impl_IsGraph_l0 N k) d
theorem impl_IsGraph_l0_ok (N : Nat) (back) (d) : roundR Γ_impl_IsGraph (assoc []) 0 impl_IsGraph_l0_h impl_IsGraph_l0_o (loopOf Tryd.f50 0) back d = impl_IsGraph_l0_r N back d := by kernel_rfl
noncomputable def F_impl_IsGraph (N : Nat) (d : (Int × (List (Int × Int × Unit)) × Unit) × Unit) : Option (Bool × Unit) :=
  let a0 : Int × (List (Int × Int × Unit)) × Unit := d.1
  let r1 : Bool × Unit := g_impl_within ((a0.1, ((0 : Int), ((8 : Int), ()))))
  if (!r1.1) = true then
    some (false, ())
  else
    (impl_IsGraph_l0 N N ((a0, (a0.2.1, ((List.length a0.2.1 : Int), ((0 : Int), ())))))).bind fun o6 => match o6 with
    | .inl d7 =>
      some (d7.1, ())
    | .inr (.inl d8) =>
      some (true, ())
theorem F_impl_IsGraph_ok (N : Nat) (d) : fnR Γ_impl_IsGraph (assoc [(0, ⟨impl_IsGraph_l0_h, impl_IsGraph_l0_o, impl_IsGraph_l0 N N⟩)]) true [(K_PiSPiiqq, false)] [.bool] Tryd.f50.results.toList (bodyOf Tryd.f50) d = F_impl_IsGraph N d := by kernel_rfl
noncomputable def S_impl_IsGraph : FSig := ⟨[(K_PiSPiiqq, false)], [.bool], true, (G_graph)⟩
noncomputable def Γ_impl_allWithin : Ctx := { tk := assoc tks, ar := assoc ars, fs := assoc [(29, S_impl_within)] }
abbrev impl_allWithin_l0_H := Int × Int × List Int × Int × Int × Unit
abbrev impl_allWithin_l0_O := (Bool × Unit) ⊕ Unit ⊕ Empty
def impl_allWithin_l0_h : Form := [(1, .v I), (2, .v I), (9, .v K_Si), (10, .v I), (11, .v I)]
def impl_allWithin_l0_o : Outs := [(.ret, [(6, .v .bool)]), (.normal, [])]
noncomputable def impl_allWithin_l0_r (N : Nat) (back : impl_allWithin_l0_H → Option impl_allWithin_l0_O) (d : impl_allWithin_l0_H) : Option impl_allWithin_l0_O :=
  let s1 : Int := d.1
  let s2 : Int := d.2.1
  let s9 : List Int := d.2.2.1
  let s10 : Int := d.2.2.2.1
  let s11 : Int := d.2.2.2.2.1
  if (decide (s11 < s10)) = true then
    if (idxIn s11 (List.length s9)) = true then
    let r6 : Bool × Unit := g_impl_within ((at_ I s9 s11.toNat, (s1, (s2, ()))))
    if (!r6.1) = true then
      some (.inl (false, ()))
    else
      let x7 : Int := IntKind.wrap .i64 (s11 + (1 : Int))
      back ((s1, (s2, (s9, (s10, (x7, ()))))))
    else none
  else
    some (.inr (.inl ()))
noncomputable def impl_allWithin_l0 (N : Nat) : Nat → impl_allWithin_l0_H → Option impl_allWithin_l0_O
  | 0, _ => none
  | k + 1, d => impl_allWithin_l0_r N (impl_allWithin_l0 N k) d
theorem impl_allWithin_l0_ok (N : Nat) (back) (d) : roundR Γ_impl_allWithin (assoc []) 0 impl_allWithin_l0_h impl_allWithin_l0_o (loopOf Tryd.f51 0) back d = impl_allWithin_l0_r N back d := by kernel_rfl
noncomputable def F_impl_allWithin (N : Nat) (d : List Int × Int × Int × Unit) : Option (Bool × Unit) :=
  let a0 : List Int := d.1
  let a1 : Int := d.2.1
  let a2 : Int := d.2.2.1
  (impl_allWithin_l0 N N ((a1, (a2, (a0, ((List.length a0 : Int), ((0 : Int), ()))))))).bind fun o3 => match o3 with
  | .inl d4 =>
    some (d4.1, ())
  | .inr (.inl d5) =>
    some (true, ())
theorem F_impl_allWithin_ok (N : Nat) (d) : fnR Γ_impl_allWithin (assoc [(0, ⟨impl_allWithin_l0_h, impl_allWithin_l0_o, impl_allWithin_l0 N N⟩)]) true [(K_Si, false), (I, false), (I, false)] [.bool] Tryd.f51.results.toList (bodyOf Tryd.f51) d = F_impl_allWithin N d := by kernel_rfl
noncomputable def S_impl_allWithin : FSig := ⟨[(K_Si, false), (I, false), (I, false)], [.bool], true, (G_allWithin)⟩
noncomputable def Γ_impl_hasNodes : Ctx := { tk := assoc tks, ar := assoc ars, fs := assoc [(50, S_impl_IsGraph), (51, S_impl_allWithin)] }
noncomputable def F_impl_hasNodes (N : Nat) (d : (Int × (List (Int × Int × Unit)) × Unit) × List Int × Unit) : Option (Bool × Unit) :=
  let a0 : Int × (List (Int × Int × Unit)) × Unit := d.1
  let a1 : List Int := d.2.1
  (G_graph (a0, ())).bind fun r1 =>
  if (r1.1) = true then
    let x2 : Int := IntKind.wrap .i64 (a0.1 - (1 : Int))
    (G_allWithin ((a1, ((0 : Int), (x2, ()))))).bind fun r3 =>
    some (r3.1, ())
  else
    some (false, ())
theorem F_impl_hasNodes_ok (N : Nat) (d) : fnR Γ_impl_hasNodes (assoc []) true [(K_PiSPiiqq, false), (K_Si, false)] [.bool] Tryd.f39.results.toList (bodyOf Tryd.f39) d = F_impl_hasNodes N d := by kernel_rfl
noncomputable def S_impl_hasNodes : FSig := ⟨[(K_PiSPiiqq, false), (K_Si, false)], [.bool], true, (F_impl_hasNodes 0)⟩
noncomputable def Γ_impl_increasing : Ctx := { tk := assoc tks, ar := assoc ars, fs := assoc [] }
abbrev impl_increasing_l0_H := List Int × Int × Unit
abbrev impl_increasing_l0_O := (Bool × Unit) ⊕ Unit ⊕ Empty
def impl_increasing_l0_h : Form := [(0, .v K_Si), (3, .v I)]
def impl_increasing_l0_o : Outs := [(.ret, [(2, .v .bool)]), (.normal, [])]
noncomputable def impl_increasing_l0_r (N : Nat) (back : impl_increasing_l0_H → Option impl_increasing_l0_O) (d : impl_increasing_l0_H) : Option impl_increasing_l0_O :=
  let s0 : List Int := d.1
  let s3 : Int := d.2.1
  if (decide (s3 < (List.length s0 : Int))) = true then
    let x6 : Int := IntKind.wrap .i64 (s3 - (1 : Int))
    if (idxIn x6 (List.length s0)) = true then
    if (idxIn s3 (List.length s0)) = true then
    if (decide (at_ I s0 x6.toNat ≥ at_ I s0 s3.toNat)) = true then
      some (.inl (false, ()))
    else
      let x7 : Int := IntKind.wrap .i64 (s3 + (1 : Int))
      back ((s0, (x7, ())))
    else none
    else none
  else
    some (.inr (.inl ()))
noncomputable def impl_increasing_l0 (N : Nat) : Nat → impl_increasing_l0_H → Option impl_increasing_l0_O
  | 0, _ => none
  | k + 1, d => impl_increasing_l0_r N (impl_increasing_l0 N k) d
theorem impl_increasing_l0_ok (N : Nat) (back) (d) : roundR Γ_impl_increasing (assoc []) 0 impl_increasing_l0_h impl_increasing_l0_o (loopOf Tryd.f40 0) back d = impl_increasing_l0_r N back d := by kernel_rfl
noncomputable def F_impl_increasing (N : Nat) (d : List Int × Unit) : Option (Bool × Unit) :=
  let a0 : List Int := d.1
  (impl_increasing_l0 N N ((a0, ((1 : Int), ())))).bind fun o3 => match o3 with
  | .inl d4 =>
    some (d4.1, ())
  | .inr (.inl d5) =>
    some (true, ())
theorem F_impl_increasing_ok (N : Nat) (d) : fnR Γ_impl_increasing (assoc [(0, ⟨impl_increasing_l0_h, impl_increasing_l0_o, impl_increasing_l0 N N⟩)]) true [(K_Si, false)] [.bool] Tryd.f40.results.toList (bodyOf Tryd.f40) d = F_impl_increasing N d := by kernel_rfl
noncomputable def S_impl_increasing : FSig := ⟨[(K_Si, false)], [.bool], true, (G_increasing)⟩
noncomputable def Γ_impl_isSet : Ctx := { tk := assoc tks, ar := assoc ars, fs := assoc [(39, S_impl_hasNodes), (40, S_impl_increasing)] }
noncomputable def F_impl_isSet (N : Nat) (d : (Int × (List (Int × Int × Unit)) × Unit) × List Int × Unit) : Option (Bool × Unit) :=
  let a0 : Int × (List (Int × Int × Unit)) × Unit := d.1
  let a1 : List Int := d.2.1
  ((F_impl_hasNodes 0) ((a0, (a1, ())))).bind fun r1 =>
  if (r1.1) = true then
    (G_increasing (a1, ())).bind fun r2 =>
    some (r2.1, ())
  else
    some (false, ())
theorem F_impl_isSet_ok (N : Nat) (d) : fnR Γ_impl_isSet (assoc []) true [(K_PiSPiiqq, false), (K_Si, false)] [.bool] Tryd.f28.results.toList (bodyOf Tryd.f28) d = F_impl_isSet N d := by kernel_rfl
noncomputable def S_impl_isSet : FSig := ⟨[(K_PiSPiiqq, false), (K_Si, false)], [.bool], true, (F_impl_isSet 0)⟩
noncomputable def Γ_impl_IsWorkshop : Ctx := { tk := assoc tks, ar := assoc ars, fs := assoc [(28, S_impl_isSet), (29, S_impl_within)] }
noncomputable def F_impl_IsWorkshop (N : Nat) (d : ((Int × (List (Int × Int × Unit)) × Unit) × Int × Int × List Int × Int × Unit) × Unit) : Option (Bool × Unit) :=
  let a0 : (Int × (List (Int × Int × Unit)) × Unit) × Int × Int × List Int × Int × Unit := d.1
  ((F_impl_isSet 0) ((a0.1, (a0.2.2.2.1, ())))).bind fun r1 =>
  if (r1.1) = true then
    let x2 : Int := IntKind.wrap .i64 (a0.1.1 - (1 : Int))
    let r3 : Bool × Unit := g_impl_within ((a0.2.1, ((-1 : Int), (x2, ()))))
    if (r3.1) = true then
      let x4 : Int := IntKind.wrap .i64 (a0.1.1 - (1 : Int))
      let r5 : Bool × Unit := g_impl_within ((a0.2.2.1, ((-1 : Int), (x4, ()))))
      if (r5.1) = true then
        let r6 : Bool × Unit := g_impl_within ((a0.2.2.2.2.1, ((0 : Int), ((1000 : Int), ()))))
        some (r6.1, ())
      else
        some (false, ())
    else
      some (false, ())
  else
    some (false, ())
theorem F_impl_IsWorkshop_ok (N : Nat) (d) : fnR Γ_impl_IsWorkshop (assoc []) true [(K_PPiSPiiqqiiSiiq, false)] [.bool] Tryd.f15.results.toList (bodyOf Tryd.f15) d = F_impl_IsWorkshop N d := by kernel_rfl
noncomputable def S_impl_IsWorkshop : FSig := ⟨[(K_PPiSPiiqqiiSiiq, false)], [.bool], true, (F_impl_IsWorkshop 0)⟩
def S_strings_Cut : FSig := ⟨[(.str, false), (.str, false)], [.str, .str, .bool], true, G_cut⟩
def S_strings_Contains : FSig := ⟨[(.str, false), (.str, false)], [.bool], true, G_contains⟩
noncomputable def Γ_impl_checksum : Ctx := { tk := assoc tks, ar := assoc ars, fs := assoc [] }
abbrev impl_checksum_l0_H := ByteArray × Int × Int × Unit
abbrev impl_checksum_l0_O := (Int × Unit) ⊕ Empty
def impl_checksum_l0_h : Form := [(0, .v .str), (3, .v I), (4, .v I)]
def impl_checksum_l0_o : Outs := [(.normal, [(3, .v I)])]
noncomputable def impl_checksum_l0_r (N : Nat) (back : impl_checksum_l0_H → Option impl_checksum_l0_O) (d : impl_checksum_l0_H) : Option impl_checksum_l0_O :=
  let s0 : ByteArray := d.1
  let s3 : Int := d.2.1
  let s4 : Int := d.2.2.1
  if (decide (s4 < (s0.size : Int))) = true then
    let x7 : Int := IntKind.wrap .i64 ((41 : Int) * s3)
    if (idxIn s4 s0.size) = true then
    let x8 : Int := IntKind.wrap .i64 (byteAt s0 s4.toNat : Int)
    let x9 : Int := IntKind.wrap .i64 (IntKind.wrap .i64 (x7 + x8) + (1 : Int))
    if ((999979 : Int) != 0) = true then
    let x10 : Int := IntKind.wrap .i64 (s4 + (1 : Int))
    back ((s0, (x9.tmod (999979 : Int), (x10, ()))))
    else none
    else none
  else
    some (.inl (s3, ()))
noncomputable def impl_checksum_l0 (N : Nat) : Nat → impl_checksum_l0_H → Option impl_checksum_l0_O
  | 0, _ => none
  | k + 1, d => impl_checksum_l0_r N (impl_checksum_l0 N k) d
theorem impl_checksum_l0_ok (N : Nat) (back) (d) : roundR Γ_impl_checksum (assoc []) 0 impl_checksum_l0_h impl_checksum_l0_o (loopOf Tryd.f64 0) back d = impl_checksum_l0_r N back d := by kernel_rfl
noncomputable def F_impl_checksum (N : Nat) (d : ByteArray × Unit) : Option (Int × Unit) :=
  let a0 : ByteArray := d.1
  (impl_checksum_l0 N N ((a0, ((7 : Int), ((0 : Int), ()))))).bind fun o5 => match o5 with
  | .inl d6 =>
    some (d6.1, ())
theorem F_impl_checksum_ok (N : Nat) (d) : fnR Γ_impl_checksum (assoc [(0, ⟨impl_checksum_l0_h, impl_checksum_l0_o, impl_checksum_l0 N N⟩)]) true [(.str, false)] [I] Tryd.f64.results.toList (bodyOf Tryd.f64) d = F_impl_checksum N d := by kernel_rfl
noncomputable def S_impl_checksum : FSig := ⟨[(.str, false)], [I], true, (G_sum)⟩
def S_strconv_Itoa : FSig := ⟨[(I, false)], [.str], true, G_itoa⟩
noncomputable def Γ_impl_AppendChecksum : Ctx := { tk := assoc tks, ar := assoc ars, fs := assoc [(56, S_strconv_Itoa), (63, S_strings_Contains), (64, S_impl_checksum)] }
noncomputable def F_impl_AppendChecksum (N : Nat) (d : ByteArray × Unit) : Option (ByteArray × Bool × Unit) :=
  let a0 : ByteArray := d.1
  if (decide ((a0.size : Int) > (4000 : Int))) = true then
    some (((⟨#[]⟩ : ByteArray), (false, ())))
  else
    (G_contains ((a0, ((⟨#[35]⟩ : ByteArray), ())))).bind fun r1 =>
    if (r1.1) = true then
      some (((⟨#[]⟩ : ByteArray), (false, ())))
    else
      if (decide (a0.size + (⟨#[35]⟩ : ByteArray).size ≤ maxLen)) = true then
      (G_sum (a0, ())).bind fun r2 =>
      (G_itoa (r2.1, ())).bind fun r3 =>
      if (decide ((a0 ++ (⟨#[35]⟩ : ByteArray)).size + r3.1.size ≤ maxLen)) = true then
      let x4 : ByteArray := (a0 ++ (⟨#[35]⟩ : ByteArray)) ++ r3.1
      if (decide ((x4.size : Int) > (4000 : Int))) = true then
        some (((⟨#[]⟩ : ByteArray), (false, ())))
      else
        some ((x4, (true, ())))
      else none
      else none
theorem F_impl_AppendChecksum_ok (N : Nat) (d) : fnR Γ_impl_AppendChecksum (assoc []) true [(.str, false)] [.str, .bool] Tryd.f53.results.toList (bodyOf Tryd.f53) d = F_impl_AppendChecksum N d := by kernel_rfl
noncomputable def S_impl_AppendChecksum : FSig := ⟨[(.str, false)], [.str, .bool], true, (F_impl_AppendChecksum 0)⟩
noncomputable def Γ_impl_VerifyChecksum : Ctx := { tk := assoc tks, ar := assoc ars, fs := assoc [(41, S_strings_Cut), (53, S_impl_AppendChecksum)] }
noncomputable def F_impl_VerifyChecksum (N : Nat) (d : ByteArray × Unit) : Option (ByteArray × Bool × Unit) :=
  let a0 : ByteArray := d.1
  (G_cut ((a0, ((⟨#[35]⟩ : ByteArray), ())))).bind fun r1 =>
  ((F_impl_AppendChecksum 0) (r1.1, ())).bind fun r2 =>
  if (!r1.2.2.1) = true then
    some (((⟨#[]⟩ : ByteArray), (false, ())))
  else
    if (!r2.2.1) = true then
      some (((⟨#[]⟩ : ByteArray), (false, ())))
    else
      if (!seq_ r2.1 a0) = true then
        some (((⟨#[]⟩ : ByteArray), (false, ())))
      else
        some ((r1.1, (true, ())))
theorem F_impl_VerifyChecksum_ok (N : Nat) (d) : fnR Γ_impl_VerifyChecksum (assoc []) true [(.str, false)] [.str, .bool] Tryd.f42.results.toList (bodyOf Tryd.f42) d = F_impl_VerifyChecksum N d := by kernel_rfl
noncomputable def S_impl_VerifyChecksum : FSig := ⟨[(.str, false)], [.str, .bool], true, (F_impl_VerifyChecksum 0)⟩
def S_strings_ContainsAny : FSig := ⟨[(.str, false), (.str, false)], [.bool], true, G_containsAny⟩
noncomputable def Γ_impl_isPrinted : Ctx := { tk := assoc tks, ar := assoc ars, fs := assoc [(65, S_strings_ContainsAny)] }
abbrev impl_isPrinted_l0_H := ByteArray × ByteArray × Int × Unit
abbrev impl_isPrinted_l0_O := (Bool × Unit) ⊕ (ByteArray × ByteArray × Unit) ⊕ Empty
def impl_isPrinted_l0_h : Form := [(0, .v .str), (1, .v .str), (5, .v I)]
def impl_isPrinted_l0_o : Outs := [(.ret, [(4, .v .bool)]), (.normal, [(0, .v .str), (1, .v .str)])]
noncomputable def impl_isPrinted_l0_r (N : Nat) (back : impl_isPrinted_l0_H → Option impl_isPrinted_l0_O) (d : impl_isPrinted_l0_H) : Option impl_isPrinted_l0_O :=
  let s0 : ByteArray := d.1
  let s1 : ByteArray := d.2.1
  let s5 : Int := d.2.2.1
  if (decide (s5 < (s0.size : Int))) = true then
    if (idxIn s5 s0.size) = true then
    if (decide ((byteAt s0 s5.toNat : Int) < (32 : Int))) = true then
      some (.inl (false, ()))
    else
      if (idxIn s5 s0.size) = true then
      if (decide ((byteAt s0 s5.toNat : Int) > (126 : Int))) = true then
        some (.inl (false, ()))
      else
        let x6 : Int := IntKind.wrap .i64 (s5 + (1 : Int))
        back ((s0, (s1, (x6, ()))))
      else none
    else none
  else
    some (.inr (.inl ((s0, (s1, ())))))
noncomputable def impl_isPrinted_l0 (N : Nat) : Nat → impl_isPrinted_l0_H → Option impl_isPrinted_l0_O
  | 0, _ => none
  | k + 1, d => impl_isPrinted_l0_r N (impl_isPrinted_l0 N k) d
theorem impl_isPrinted_l0_ok (N : Nat) (back) (d) : roundR Γ_impl_isPrinted (assoc []) 0 impl_isPrinted_l0_h impl_isPrinted_l0_o (loopOf Tryd.f55 0) back d = impl_isPrinted_l0_r N back d := by kernel_rfl
noncomputable def F_impl_isPrinted (N : Nat) (d : ByteArray × ByteArray × Unit) : Option (Bool × Unit) :=
  let a0 : ByteArray := d.1
  let a1 : ByteArray := d.2.1
  (impl_isPrinted_l0 N N ((a0, (a1, ((0 : Int), ()))))).bind fun o2 => match o2 with
  | .inl d3 =>
    some (d3.1, ())
  | .inr (.inl d4) =>
    (G_containsAny ((d4.1, (d4.2.1, ())))).bind fun r5 =>
    some (!r5.1, ())
theorem F_impl_isPrinted_ok (N : Nat) (d) : fnR Γ_impl_isPrinted (assoc [(0, ⟨impl_isPrinted_l0_h, impl_isPrinted_l0_o, impl_isPrinted_l0 N N⟩)]) true [(.str, false), (.str, false)] [.bool] Tryd.f55.results.toList (bodyOf Tryd.f55) d = F_impl_isPrinted N d := by kernel_rfl
noncomputable def S_impl_isPrinted : FSig := ⟨[(.str, false), (.str, false)], [.bool], true, (G_isPrinted)⟩
noncomputable def Γ_impl_isCommand : Ctx := { tk := assoc tks, ar := assoc ars, fs := assoc [(29, S_impl_within), (55, S_impl_isPrinted)] }
noncomputable def F_impl_isCommand (N : Nat) (d : ByteArray × Unit) : Option (Bool × Unit) :=
  let a0 : ByteArray := d.1
  let r1 : Bool × Unit := g_impl_within (((a0.size : Int), ((1 : Int), ((160 : Int), ()))))
  if (r1.1) = true then
    (G_isPrinted ((a0, ((⟨#[35, 64]⟩ : ByteArray), ())))).bind fun r2 =>
    some (r2.1, ())
  else
    some (false, ())
theorem F_impl_isCommand_ok (N : Nat) (d) : fnR Γ_impl_isCommand (assoc []) true [(.str, false)] [.bool] Tryd.f54.results.toList (bodyOf Tryd.f54) d = F_impl_isCommand N d := by kernel_rfl
noncomputable def S_impl_isCommand : FSig := ⟨[(.str, false)], [.bool], true, (F_impl_isCommand 0)⟩
noncomputable def Γ_impl_IsValidRecord : Ctx := { tk := assoc tks, ar := assoc ars, fs := assoc [(54, S_impl_isCommand), (55, S_impl_isPrinted)] }
noncomputable def F_impl_IsValidRecord (N : Nat) (d : (ByteArray × ByteArray × Unit) × Unit) : Option (Bool × Unit) :=
  let a0 : ByteArray × ByteArray × Unit := d.1
  ((F_impl_isCommand 0) (a0.1, ())).bind fun r1 =>
  if (r1.1) = true then
    if (decide ((a0.2.1.size : Int) ≤ (200 : Int))) = true then
      (G_isPrinted ((a0.2.1, ((⟨#[35]⟩ : ByteArray), ())))).bind fun r2 =>
      some (r2.1, ())
    else
      some (false, ())
  else
    some (false, ())
theorem F_impl_IsValidRecord_ok (N : Nat) (d) : fnR Γ_impl_IsValidRecord (assoc []) true [(K_Pssq, false)] [.bool] Tryd.f43.results.toList (bodyOf Tryd.f43) d = F_impl_IsValidRecord N d := by kernel_rfl
noncomputable def S_impl_IsValidRecord : FSig := ⟨[(K_Pssq, false)], [.bool], true, (F_impl_IsValidRecord 0)⟩
noncomputable def Γ_impl_encodeRecord : Ctx := { tk := assoc tks, ar := assoc ars, fs := assoc [(53, S_impl_AppendChecksum), (56, S_strconv_Itoa)] }
noncomputable def F_impl_encodeRecord (N : Nat) (d : Int × (ByteArray × ByteArray × Unit) × Unit) : Option (ByteArray × Unit) :=
  let a0 : Int := d.1
  let a1 : ByteArray × ByteArray × Unit := d.2.1
  (G_itoa (a0, ())).bind fun r1 =>
  if (decide (r1.1.size + (⟨#[32]⟩ : ByteArray).size ≤ maxLen)) = true then
  let x2 : ByteArray := r1.1 ++ (⟨#[32]⟩ : ByteArray)
  if (decide (x2.size + a1.1.size ≤ maxLen)) = true then
  if (decide ((x2 ++ a1.1).size + (⟨#[64]⟩ : ByteArray).size ≤ maxLen)) = true then
  let x3 : ByteArray := (x2 ++ a1.1) ++ (⟨#[64]⟩ : ByteArray)
  if (decide (x3.size + a1.2.1.size ≤ maxLen)) = true then
  ((F_impl_AppendChecksum 0) (x3 ++ a1.2.1, ())).bind fun r4 =>
  if (decide (r4.1.size + (⟨#[10]⟩ : ByteArray).size ≤ maxLen)) = true then
  let x5 : ByteArray := r4.1 ++ (⟨#[10]⟩ : ByteArray)
  some (x5, ())
  else none
  else none
  else none
  else none
  else none
theorem F_impl_encodeRecord_ok (N : Nat) (d) : fnR Γ_impl_encodeRecord (assoc []) true [(I, false), (K_Pssq, false)] [.str] Tryd.f44.results.toList (bodyOf Tryd.f44) d = F_impl_encodeRecord N d := by kernel_rfl
noncomputable def S_impl_encodeRecord : FSig := ⟨[(I, false), (K_Pssq, false)], [.str], true, (F_impl_encodeRecord 0)⟩
noncomputable def Γ_impl_readRecords : Ctx := { tk := assoc tks, ar := assoc ars, fs := assoc [(41, S_strings_Cut), (42, S_impl_VerifyChecksum), (43, S_impl_IsValidRecord), (44, S_impl_encodeRecord)] }
abbrev impl_readRecords_l0_H := ByteArray × (List (ByteArray × ByteArray × Unit)) × Int × Unit
abbrev impl_readRecords_l0_O := ((List (ByteArray × ByteArray × Unit)) × Int × Unit) ⊕ Empty
def impl_readRecords_l0_h : Form := [(0, .v .str), (4, .own K_SPssq 99), (5, .v I)]
def impl_readRecords_l0_o : Outs := [(.normal, [(4, .own K_SPssq 99), (5, .v I)])]
noncomputable def impl_readRecords_l0_r (N : Nat) (back : impl_readRecords_l0_H → Option impl_readRecords_l0_O) (d : impl_readRecords_l0_H) : Option impl_readRecords_l0_O :=
  let s0 : ByteArray := d.1
  let s4 : List (ByteArray × ByteArray × Unit) := d.2.1
  let s5 : Int := d.2.2.1
  if (decide ((List.length s4 : Int) < (60 : Int))) = true then
    if ((decide (0 ≤ s5) && decide (s5 ≤ (s0.size : Int)) && decide ((s0.size : Int) ≤ (s0.size : Int)))) = true then
    (G_cut ((subS s0 s5 (s0.size : Int), ((⟨#[10]⟩ : ByteArray), ())))).bind fun r12 =>
    ((F_impl_VerifyChecksum 0) (r12.1, ())).bind fun r13 =>
    if (!r12.2.2.1) = true then
      some (.inl ((s4, (s5, ()))))
    else
      if (!r13.2.1) = true then
        some (.inl ((s4, (s5, ()))))
      else
        (G_cut ((r13.1, ((⟨#[32]⟩ : ByteArray), ())))).bind fun r14 =>
        (G_cut ((r14.2.1, ((⟨#[64]⟩ : ByteArray), ())))).bind fun r15 =>
        ((F_impl_IsValidRecord 0) (((r15.1, (r15.2.1, ())), ()))).bind fun r16 =>
        if (!r16.1) = true then
          some (.inl ((s4, (s5, ()))))
        else
          ((F_impl_encodeRecord 0) (((List.length s4 : Int), ((r15.1, (r15.2.1, ())), ())))).bind fun r17 =>
          if (decide (r12.1.size + (⟨#[10]⟩ : ByteArray).size ≤ maxLen)) = true then
          let x18 : ByteArray := r12.1 ++ (⟨#[10]⟩ : ByteArray)
          if (!seq_ r17.1 x18) = true then
            some (.inl ((s4, (s5, ()))))
          else
            if (decide (List.length s4 + List.length ([(r15.1, (r15.2.1, ()))]) ≤ lim)) = true then
            let x19 : List (ByteArray × ByteArray × Unit) := s4 ++ ([(r15.1, (r15.2.1, ()))])
            let x20 : Int := IntKind.wrap .i64 ((r12.1.size : Int) + (1 : Int))
            back ((s0, (x19, (IntKind.wrap .i64 (s5 + x20), ()))))
            else none
          else none
    else none
  else
    some (.inl ((s4, (s5, ()))))
noncomputable def impl_readRecords_l0 (N : Nat) : Nat → impl_readRecords_l0_H → Option impl_readRecords_l0_O
  | 0, _ => none
  | k + 1, d => impl_readRecords_l0_r N (impl_readRecords_l0 N k) d
theorem impl_readRecords_l0_ok (N : Nat) (back) (d) : roundR Γ_impl_readRecords (assoc []) 0 impl_readRecords_l0_h impl_readRecords_l0_o (loopOf Tryd.f30 0) back d = impl_readRecords_l0_r N back d := by kernel_rfl
noncomputable def F_impl_readRecords (N : Nat) (d : ByteArray × Unit) : Option ((List (ByteArray × ByteArray × Unit)) × Int × Unit) :=
  let a0 : ByteArray := d.1
  (impl_readRecords_l0 N N ((a0, (([] : List (ByteArray × ByteArray × Unit)), ((0 : Int), ()))))).bind fun o10 => match o10 with
  | .inl d11 =>
    some ((d11.1, (d11.2.1, ())))
theorem F_impl_readRecords_ok (N : Nat) (d) : fnR Γ_impl_readRecords (assoc [(0, ⟨impl_readRecords_l0_h, impl_readRecords_l0_o, impl_readRecords_l0 N N⟩)]) true [(.str, false)] [K_SPssq, I] Tryd.f30.results.toList (bodyOf Tryd.f30) d = F_impl_readRecords N d := by kernel_rfl
noncomputable def S_impl_readRecords : FSig := ⟨[(.str, false)], [K_SPssq, I], true, (G_open)⟩
noncomputable def Γ_impl_IsValidLog : Ctx := { tk := assoc tks, ar := assoc ars, fs := assoc [(30, S_impl_readRecords)] }
noncomputable def F_impl_IsValidLog (N : Nat) (d : (ByteArray × ByteArray × Int × Unit) × Unit) : Option (Bool × Unit) :=
  let a0 : ByteArray × ByteArray × Int × Unit := d.1
  let x1 : Int := IntKind.wrap .i64 ((a0.1.size : Int) + (a0.2.1.size : Int))
  if (decide (a0.1.size + a0.2.1.size ≤ maxLen)) = true then
  (G_open (a0.1 ++ a0.2.1, ())).bind fun r2 =>
  if (decide (x1 > (30000 : Int))) = true then
    some (false, ())
  else
    if (r2.2.1 != x1) = true then
      some (false, ())
    else
      if (a0.2.2.1 != (List.length r2.1 : Int)) = true then
        some (false, ())
      else
        (G_open (a0.1, ())).bind fun r3 =>
        some (r3.2.1 == (a0.1.size : Int), ())
  else none
theorem F_impl_IsValidLog_ok (N : Nat) (d) : fnR Γ_impl_IsValidLog (assoc []) true [(K_Pssiq, false)] [.bool] Tryd.f16.results.toList (bodyOf Tryd.f16) d = F_impl_IsValidLog N d := by kernel_rfl
noncomputable def S_impl_IsValidLog : FSig := ⟨[(K_Pssiq, false)], [.bool], true, (F_impl_IsValidLog 0)⟩
noncomputable def Γ_impl_IsValidConsole : Ctx := { tk := assoc tks, ar := assoc ars, fs := assoc [(15, S_impl_IsWorkshop), (16, S_impl_IsValidLog)] }
noncomputable def F_impl_IsValidConsole (N : Nat) (d : (((Int × (List (Int × Int × Unit)) × Unit) × Int × Int × List Int × Int × Unit) × (ByteArray × ByteArray × Int × Unit) × Unit) × Unit) : Option (Bool × Unit) :=
  let a0 : ((Int × (List (Int × Int × Unit)) × Unit) × Int × Int × List Int × Int × Unit) × (ByteArray × ByteArray × Int × Unit) × Unit := d.1
  ((F_impl_IsWorkshop 0) (a0.1, ())).bind fun r1 =>
  if (r1.1) = true then
    ((F_impl_IsValidLog 0) (a0.2.1, ())).bind fun r2 =>
    some (r2.1, ())
  else
    some (false, ())
theorem F_impl_IsValidConsole_ok (N : Nat) (d) : fnR Γ_impl_IsValidConsole (assoc []) true [(K_PPPiSPiiqqiiSiiqPssiqq, false)] [.bool] Tryd.f7.results.toList (bodyOf Tryd.f7) d = F_impl_IsValidConsole N d := by kernel_rfl
noncomputable def S_impl_IsValidConsole : FSig := ⟨[(K_PPPiSPiiqqiiSiiqPssiqq, false)], [.bool], true, (F_impl_IsValidConsole 0)⟩
noncomputable def Γ_laws_eqIntA2 : Ctx := { tk := assoc tks, ar := assoc ars, fs := assoc [] }
abbrev laws_eqIntA2_l0_H := (Int × Int × Unit) × (Int × Int × Unit) × Int × Unit
abbrev laws_eqIntA2_l0_O := (Bool × Unit) ⊕ Unit ⊕ Empty
def laws_eqIntA2_l0_h : Form := [(2, .box K_Piiq 99), (3, .box K_Piiq 99), (5, .v I)]
def laws_eqIntA2_l0_o : Outs := [(.ret, [(4, .v .bool)]), (.normal, [])]
noncomputable def laws_eqIntA2_l0_r (N : Nat) (back : laws_eqIntA2_l0_H → Option laws_eqIntA2_l0_O) (d : laws_eqIntA2_l0_H) : Option laws_eqIntA2_l0_O :=
  let s2 : Int × Int × Unit := d.1
  let s3 : Int × Int × Unit := d.2.1
  let s5 : Int := d.2.2.1
  if (decide (s5 < (2 : Int))) = true then
    if (s5 == (0 : Int)) = true then
      if (s5 == (0 : Int)) = true then
        if (s2.1 != s3.1) = true then
          some (.inl (false, ()))
        else
          let x11 : Int := IntKind.wrap .i64 (s5 + (1 : Int))
          back ((s2, (s3, (x11, ()))))
      else
        if (s5 == (1 : Int)) = true then
        if (s2.1 != s3.2.1) = true then
          some (.inl (false, ()))
        else
          let x10 : Int := IntKind.wrap .i64 (s5 + (1 : Int))
          back ((s2, (s3, (x10, ()))))
        else none
    else
      if (s5 == (1 : Int)) = true then
      if (s5 == (0 : Int)) = true then
        if (s2.2.1 != s3.1) = true then
          some (.inl (false, ()))
        else
          let x9 : Int := IntKind.wrap .i64 (s5 + (1 : Int))
          back ((s2, (s3, (x9, ()))))
      else
        if (s5 == (1 : Int)) = true then
        if (s2.2.1 != s3.2.1) = true then
          some (.inl (false, ()))
        else
          let x8 : Int := IntKind.wrap .i64 (s5 + (1 : Int))
          back ((s2, (s3, (x8, ()))))
        else none
      else none
  else
    some (.inr (.inl ()))
noncomputable def laws_eqIntA2_l0 (N : Nat) : Nat → laws_eqIntA2_l0_H → Option laws_eqIntA2_l0_O
  | 0, _ => none
  | k + 1, d => laws_eqIntA2_l0_r N (laws_eqIntA2_l0 N k) d
theorem laws_eqIntA2_l0_ok (N : Nat) (back) (d) : roundR Γ_laws_eqIntA2 (assoc []) 0 laws_eqIntA2_l0_h laws_eqIntA2_l0_o (loopOf Tryd.f57 0) back d = laws_eqIntA2_l0_r N back d := by kernel_rfl
noncomputable def F_laws_eqIntA2 (N : Nat) (d : (Int × Int × Unit) × (Int × Int × Unit) × Unit) : Option (Bool × Unit) :=
  let a0 : Int × Int × Unit := d.1
  let a1 : Int × Int × Unit := d.2.1
  (laws_eqIntA2_l0 N N ((a0, (a1, ((0 : Int), ()))))).bind fun o5 => match o5 with
  | .inl d6 =>
    some (d6.1, ())
  | .inr (.inl d7) =>
    some (true, ())
theorem F_laws_eqIntA2_ok (N : Nat) (d) : fnR Γ_laws_eqIntA2 (assoc [(0, ⟨laws_eqIntA2_l0_h, laws_eqIntA2_l0_o, laws_eqIntA2_l0 N N⟩)]) true [(K_Piiq, false), (K_Piiq, false)] [.bool] Tryd.f57.results.toList (bodyOf Tryd.f57) d = F_laws_eqIntA2 N d := by kernel_rfl
noncomputable def S_laws_eqIntA2 : FSig := ⟨[(K_Piiq, false), (K_Piiq, false)], [.bool], true, (G_eqIntA2)⟩
noncomputable def Γ_laws_eqIntA2S : Ctx := { tk := assoc tks, ar := assoc ars, fs := assoc [(57, S_laws_eqIntA2)] }
abbrev laws_eqIntA2S_l0_H := (List (Int × Int × Unit)) × (List (Int × Int × Unit)) × Int × Unit
abbrev laws_eqIntA2S_l0_O := (Bool × Unit) ⊕ Unit ⊕ Empty
def laws_eqIntA2S_l0_h : Form := [(0, .v K_SPiiq), (1, .v K_SPiiq), (5, .v I)]
def laws_eqIntA2S_l0_o : Outs := [(.ret, [(4, .v .bool)]), (.normal, [])]
noncomputable def laws_eqIntA2S_l0_r (N : Nat) (back : laws_eqIntA2S_l0_H → Option laws_eqIntA2S_l0_O) (d : laws_eqIntA2S_l0_H) : Option laws_eqIntA2S_l0_O :=
  let s0 : List (Int × Int × Unit) := d.1
  let s1 : List (Int × Int × Unit) := d.2.1
  let s5 : Int := d.2.2.1
  if (decide (s5 < (List.length s0 : Int))) = true then
    if (idxIn s5 (List.length s0)) = true then
    if (idxIn s5 (List.length s1)) = true then
    (G_eqIntA2 ((at_ K_Piiq s0 s5.toNat, (at_ K_Piiq s1 s5.toNat, ())))).bind fun r6 =>
    if (!r6.1) = true then
      some (.inl (false, ()))
    else
      let x7 : Int := IntKind.wrap .i64 (s5 + (1 : Int))
      back ((s0, (s1, (x7, ()))))
    else none
    else none
  else
    some (.inr (.inl ()))
noncomputable def laws_eqIntA2S_l0 (N : Nat) : Nat → laws_eqIntA2S_l0_H → Option laws_eqIntA2S_l0_O
  | 0, _ => none
  | k + 1, d => laws_eqIntA2S_l0_r N (laws_eqIntA2S_l0 N k) d
theorem laws_eqIntA2S_l0_ok (N : Nat) (back) (d) : roundR Γ_laws_eqIntA2S (assoc []) 0 laws_eqIntA2S_l0_h laws_eqIntA2S_l0_o (loopOf Tryd.f45 0) back d = laws_eqIntA2S_l0_r N back d := by kernel_rfl
noncomputable def F_laws_eqIntA2S (N : Nat) (d : (List (Int × Int × Unit)) × (List (Int × Int × Unit)) × Unit) : Option (Bool × Unit) :=
  let a0 : List (Int × Int × Unit) := d.1
  let a1 : List (Int × Int × Unit) := d.2.1
  if ((List.length a0 : Int) != (List.length a1 : Int)) = true then
    some (false, ())
  else
    (laws_eqIntA2S_l0 N N ((a0, (a1, ((0 : Int), ()))))).bind fun o3 => match o3 with
    | .inl d4 =>
      some (d4.1, ())
    | .inr (.inl d5) =>
      some (true, ())
theorem F_laws_eqIntA2S_ok (N : Nat) (d) : fnR Γ_laws_eqIntA2S (assoc [(0, ⟨laws_eqIntA2S_l0_h, laws_eqIntA2S_l0_o, laws_eqIntA2S_l0 N N⟩)]) true [(K_SPiiq, false), (K_SPiiq, false)] [.bool] Tryd.f45.results.toList (bodyOf Tryd.f45) d = F_laws_eqIntA2S N d := by kernel_rfl
noncomputable def S_laws_eqIntA2S : FSig := ⟨[(K_SPiiq, false), (K_SPiiq, false)], [.bool], true, (G_eqIntA2S)⟩
noncomputable def Γ_laws_eqGraph : Ctx := { tk := assoc tks, ar := assoc ars, fs := assoc [(45, S_laws_eqIntA2S)] }
noncomputable def F_laws_eqGraph (N : Nat) (d : (Int × (List (Int × Int × Unit)) × Unit) × (Int × (List (Int × Int × Unit)) × Unit) × Unit) : Option (Bool × Unit) :=
  let a0 : Int × (List (Int × Int × Unit)) × Unit := d.1
  let a1 : Int × (List (Int × Int × Unit)) × Unit := d.2.1
  if (a0.1 != a1.1) = true then
    some (false, ())
  else
    (G_eqIntA2S ((a0.2.1, (a1.2.1, ())))).bind fun r1 =>
    if (!r1.1) = true then
      some (false, ())
    else
      some (true, ())
theorem F_laws_eqGraph_ok (N : Nat) (d) : fnR Γ_laws_eqGraph (assoc []) true [(K_PiSPiiqq, false), (K_PiSPiiqq, false)] [.bool] Tryd.f31.results.toList (bodyOf Tryd.f31) d = F_laws_eqGraph N d := by kernel_rfl
noncomputable def S_laws_eqGraph : FSig := ⟨[(K_PiSPiiqq, false), (K_PiSPiiqq, false)], [.bool], true, (F_laws_eqGraph 0)⟩
noncomputable def Γ_laws_eqIntS : Ctx := { tk := assoc tks, ar := assoc ars, fs := assoc [] }
abbrev laws_eqIntS_l0_H := List Int × List Int × Int × Unit
abbrev laws_eqIntS_l0_O := (Bool × Unit) ⊕ Unit ⊕ Empty
def laws_eqIntS_l0_h : Form := [(0, .v K_Si), (1, .v K_Si), (5, .v I)]
def laws_eqIntS_l0_o : Outs := [(.ret, [(4, .v .bool)]), (.normal, [])]
noncomputable def laws_eqIntS_l0_r (N : Nat) (back : laws_eqIntS_l0_H → Option laws_eqIntS_l0_O) (d : laws_eqIntS_l0_H) : Option laws_eqIntS_l0_O :=
  let s0 : List Int := d.1
  let s1 : List Int := d.2.1
  let s5 : Int := d.2.2.1
  if (decide (s5 < (List.length s0 : Int))) = true then
    if (idxIn s5 (List.length s0)) = true then
    if (idxIn s5 (List.length s1)) = true then
    if (at_ I s0 s5.toNat != at_ I s1 s5.toNat) = true then
      some (.inl (false, ()))
    else
      let x5 : Int := IntKind.wrap .i64 (s5 + (1 : Int))
      back ((s0, (s1, (x5, ()))))
    else none
    else none
  else
    some (.inr (.inl ()))
noncomputable def laws_eqIntS_l0 (N : Nat) : Nat → laws_eqIntS_l0_H → Option laws_eqIntS_l0_O
  | 0, _ => none
  | k + 1, d => laws_eqIntS_l0_r N (laws_eqIntS_l0 N k) d
theorem laws_eqIntS_l0_ok (N : Nat) (back) (d) : roundR Γ_laws_eqIntS (assoc []) 0 laws_eqIntS_l0_h laws_eqIntS_l0_o (loopOf Tryd.f32 0) back d = laws_eqIntS_l0_r N back d := by kernel_rfl
noncomputable def F_laws_eqIntS (N : Nat) (d : List Int × List Int × Unit) : Option (Bool × Unit) :=
  let a0 : List Int := d.1
  let a1 : List Int := d.2.1
  if ((List.length a0 : Int) != (List.length a1 : Int)) = true then
    some (false, ())
  else
    (laws_eqIntS_l0 N N ((a0, (a1, ((0 : Int), ()))))).bind fun o2 => match o2 with
    | .inl d3 =>
      some (d3.1, ())
    | .inr (.inl d4) =>
      some (true, ())
theorem F_laws_eqIntS_ok (N : Nat) (d) : fnR Γ_laws_eqIntS (assoc [(0, ⟨laws_eqIntS_l0_h, laws_eqIntS_l0_o, laws_eqIntS_l0 N N⟩)]) true [(K_Si, false), (K_Si, false)] [.bool] Tryd.f32.results.toList (bodyOf Tryd.f32) d = F_laws_eqIntS N d := by kernel_rfl
noncomputable def S_laws_eqIntS : FSig := ⟨[(K_Si, false), (K_Si, false)], [.bool], true, (G_eqIntS)⟩
noncomputable def Γ_laws_eqWorkshop : Ctx := { tk := assoc tks, ar := assoc ars, fs := assoc [(31, S_laws_eqGraph), (32, S_laws_eqIntS)] }
noncomputable def F_laws_eqWorkshop (N : Nat) (d : ((Int × (List (Int × Int × Unit)) × Unit) × Int × Int × List Int × Int × Unit) × ((Int × (List (Int × Int × Unit)) × Unit) × Int × Int × List Int × Int × Unit) × Unit) : Option (Bool × Unit) :=
  let a0 : (Int × (List (Int × Int × Unit)) × Unit) × Int × Int × List Int × Int × Unit := d.1
  let a1 : (Int × (List (Int × Int × Unit)) × Unit) × Int × Int × List Int × Int × Unit := d.2.1
  ((F_laws_eqGraph 0) ((a0.1, (a1.1, ())))).bind fun r1 =>
  if (!r1.1) = true then
    some (false, ())
  else
    if (a0.2.1 != a1.2.1) = true then
      some (false, ())
    else
      if (a0.2.2.1 != a1.2.2.1) = true then
        some (false, ())
      else
        (G_eqIntS ((a0.2.2.2.1, (a1.2.2.2.1, ())))).bind fun r2 =>
        if (!r2.1) = true then
          some (false, ())
        else
          if (a0.2.2.2.2.1 != a1.2.2.2.2.1) = true then
            some (false, ())
          else
            some (true, ())
theorem F_laws_eqWorkshop_ok (N : Nat) (d) : fnR Γ_laws_eqWorkshop (assoc []) true [(K_PPiSPiiqqiiSiiq, false), (K_PPiSPiiqqiiSiiq, false)] [.bool] Tryd.f17.results.toList (bodyOf Tryd.f17) d = F_laws_eqWorkshop N d := by kernel_rfl
noncomputable def S_laws_eqWorkshop : FSig := ⟨[(K_PPiSPiiqqiiSiiq, false), (K_PPiSPiiqqiiSiiq, false)], [.bool], true, (F_laws_eqWorkshop 0)⟩
noncomputable def Γ_laws_eqLog : Ctx := { tk := assoc tks, ar := assoc ars, fs := assoc [] }
noncomputable def F_laws_eqLog (N : Nat) (d : (ByteArray × ByteArray × Int × Unit) × (ByteArray × ByteArray × Int × Unit) × Unit) : Option (Bool × Unit) :=
  let a0 : ByteArray × ByteArray × Int × Unit := d.1
  let a1 : ByteArray × ByteArray × Int × Unit := d.2.1
  if (!seq_ a0.1 a1.1) = true then
    some (false, ())
  else
    if (!seq_ a0.2.1 a1.2.1) = true then
      some (false, ())
    else
      if (a0.2.2.1 != a1.2.2.1) = true then
        some (false, ())
      else
        some (true, ())
theorem F_laws_eqLog_ok (N : Nat) (d) : fnR Γ_laws_eqLog (assoc []) true [(K_Pssiq, false), (K_Pssiq, false)] [.bool] Tryd.f18.results.toList (bodyOf Tryd.f18) d = F_laws_eqLog N d := by kernel_rfl
noncomputable def g_laws_eqLog (d : (ByteArray × ByteArray × Int × Unit) × (ByteArray × ByteArray × Int × Unit) × Unit) : Bool × Unit :=
  let a0 : ByteArray × ByteArray × Int × Unit := d.1
  let a1 : ByteArray × ByteArray × Int × Unit := d.2.1
  if (!seq_ a0.1 a1.1) = true then
    (false, ())
  else
    if (!seq_ a0.2.1 a1.2.1) = true then
      (false, ())
    else
      if (a0.2.2.1 != a1.2.2.1) = true then
        (false, ())
      else
        (true, ())
theorem F_laws_eqLog_tot (N : Nat) (d) : F_laws_eqLog N d = some (g_laws_eqLog d) := by
  unfold F_laws_eqLog g_laws_eqLog
  first
    | rfl
    | (dsimp only; (repeat' split) <;> rfl)
noncomputable def S_laws_eqLog : FSig := ⟨[(K_Pssiq, false), (K_Pssiq, false)], [.bool], true, (fun d => some (g_laws_eqLog d))⟩
noncomputable def Γ_laws_eqConsole : Ctx := { tk := assoc tks, ar := assoc ars, fs := assoc [(17, S_laws_eqWorkshop), (18, S_laws_eqLog)] }
noncomputable def F_laws_eqConsole (N : Nat) (d : (((Int × (List (Int × Int × Unit)) × Unit) × Int × Int × List Int × Int × Unit) × (ByteArray × ByteArray × Int × Unit) × Unit) × (((Int × (List (Int × Int × Unit)) × Unit) × Int × Int × List Int × Int × Unit) × (ByteArray × ByteArray × Int × Unit) × Unit) × Unit) : Option (Bool × Unit) :=
  let a0 : ((Int × (List (Int × Int × Unit)) × Unit) × Int × Int × List Int × Int × Unit) × (ByteArray × ByteArray × Int × Unit) × Unit := d.1
  let a1 : ((Int × (List (Int × Int × Unit)) × Unit) × Int × Int × List Int × Int × Unit) × (ByteArray × ByteArray × Int × Unit) × Unit := d.2.1
  ((F_laws_eqWorkshop 0) ((a0.1, (a1.1, ())))).bind fun r1 =>
  if (!r1.1) = true then
    some (false, ())
  else
    let r2 : Bool × Unit := g_laws_eqLog ((a0.2.1, (a1.2.1, ())))
    if (!r2.1) = true then
      some (false, ())
    else
      some (true, ())
theorem F_laws_eqConsole_ok (N : Nat) (d) : fnR Γ_laws_eqConsole (assoc []) true [(K_PPPiSPiiqqiiSiiqPssiqq, false), (K_PPPiSPiiqqiiSiiqPssiqq, false)] [.bool] Tryd.f8.results.toList (bodyOf Tryd.f8) d = F_laws_eqConsole N d := by kernel_rfl
noncomputable def S_laws_eqConsole : FSig := ⟨[(K_PPPiSPiiqqiiSiiqPssiqq, false), (K_PPPiSPiiqqiiSiiqPssiqq, false)], [.bool], true, (F_laws_eqConsole 0)⟩
noncomputable def Γ_laws_FnExactIsValidConsole : Ctx := { tk := assoc tks, ar := assoc ars, fs := assoc [(4, S_laws_szConsole), (5, S_spec_IsValidConsole), (6, S_laws_toConsole), (7, S_impl_IsValidConsole), (8, S_laws_eqConsole)] }
noncomputable def F_laws_FnExactIsValidConsole (N : Nat) (d : (((Int × (List (Int × Int × Unit)) × Unit) × Int × Int × List Int × Int × Unit) × (ByteArray × ByteArray × Int × Unit) × Unit) × Unit) : Option (Bool × Unit) :=
  let a0 : ((Int × (List (Int × Int × Unit)) × Unit) × Int × Int × List Int × Int × Unit) × (ByteArray × ByteArray × Int × Unit) × Unit := d.1
  let r1 : Int × Unit := g_laws_szConsole ((a0, ((1048576 : Int), ())))
  if (decide (r1.1 < (0 : Int))) = true then
    some (true, ())
  else
    ((F_laws_toConsole 0) (a0, ())).bind fun r2 =>
    ((F_spec_IsValidConsole 0) (r2.1, ())).bind fun r3 =>
    ((F_laws_toConsole 0) (a0, ())).bind fun r4 =>
    ((F_impl_IsValidConsole 0) (r4.1, ())).bind fun r5 =>
    if (!(r5.1 == r3.1)) = true then
      some (false, ())
    else
      ((F_laws_toConsole 0) (a0, ())).bind fun r6 =>
      ((F_laws_eqConsole 0) ((r4.1, (r6.1, ())))).bind fun r7 =>
      if (!r7.1) = true then
        some (false, ())
      else
        some (true, ())
theorem F_laws_FnExactIsValidConsole_ok (N : Nat) (d) : fnR Γ_laws_FnExactIsValidConsole (assoc []) true [(K_PPPiSPiiqqiiSiiqPssiqq, false)] [.bool] Tryd.f3.results.toList (bodyOf Tryd.f3) d = F_laws_FnExactIsValidConsole N d := by kernel_rfl
noncomputable def S_laws_FnExactIsValidConsole : FSig := ⟨[(K_PPPiSPiiqqiiSiiqPssiqq, false)], [.bool], true, (F_laws_FnExactIsValidConsole 0)⟩
end Go.V.W
set_option linter.unusedVariables false
set_option linter.unusedSimpArgs false
namespace Go.V.W
theorem getD_set (ms : List Nat) (a x v : Nat) (h : a < ms.length) : (ms.set a v).getD x 0 = if x = a then v else ms.getD x 0 := by
  simp only [List.getD_eq_getElem?_getD, List.getElem?_set]
  by_cases e : x = a
  · subst e; simp [h]
  · simp [e, Ne.symm e]
end Go.V.W
set_option linter.unusedVariables false
set_option linter.unusedSimpArgs false
namespace Go.V.W
open Go.Proofs
theorem bytes_drop (s : ByteArray) (i : Nat) (h : i < s.size) : ∃ b : UInt8, byteAt s i = b.toNat ∧ s.data.toList.drop i = b :: s.data.toList.drop (i + 1) := by
  have h' : i < s.data.toList.length := by simpa using h
  have h2 : i < s.data.size := h
  refine ⟨s.data[i], ?_, ?_⟩
  · unfold byteAt Array.getD
    rw [dif_pos h2]
    rfl
  · rw [List.drop_eq_getElem_cons h']
    rfl
theorem drop_size (s : ByteArray) : s.data.toList.drop s.size = [] := List.drop_of_length_le (by simp)
theorem wrap_small (n : Int) (h0 : 0 ≤ n) (h1 : n ≤ 9223372036854775807) : IntKind.wrap .i64 n = n := Go.IntWalk.i64_in n (by omega)
theorem isPrinted_l0 (N : Nat) (s w : ByteArray) (hs : s.size ≤ maxLen) : ∀ (n i : Nat), s.size ≤ i + n → i ≤ s.size → impl_isPrinted_l0 N (n + 1) (s, w, (i : Int), ()) =
    if (s.data.toList.drop i).all printed1 = true then some (.inr (.inl (s, w, ()))) else some (.inl (false, ())) := by
  intro n
  induction n with
  | zero =>
    intro i h1 h2
    have : i = s.size := by omega
    subst this
    rw [drop_size]
    simp [impl_isPrinted_l0, impl_isPrinted_l0_r]
  | succ n ih =>
    intro i h1 h2
    by_cases hi : i < s.size
    · have hix : idxIn (i : Int) s.size = true := by simp [idxIn]; omega
      have hw : IntKind.wrap .i64 ((i : Int) + 1) = ((i + 1 : Nat) : Int) := by rw [wrap_small _ (by omega) (by unfold maxLen at hs; omega)]; rfl
      have ih' := ih (i + 1) (by omega) (by omega)
      obtain ⟨b, hb, hd⟩ := bytes_drop s i hi
      rw [hd]
      show impl_isPrinted_l0_r N (impl_isPrinted_l0 N (n + 1)) (s, w, (i : Int), ()) = _
      unfold impl_isPrinted_l0_r
      have hlt : decide ((i : Int) < (s.size : Int)) = true := by simp; omega
      simp only [Int.toNat_natCast, hix, if_true, hw, ih', List.all_cons, printed1, hlt, hb]
      by_cases c1 : (b.toNat : Int) < 32
      · have : ¬ 32 ≤ b.toNat := by omega
        simp [c1, this]
      · by_cases c2 : (b.toNat : Int) > 126
        · have : ¬ b.toNat ≤ 126 := by omega
          simp [c1, c2, this]
        · have e1 : 32 ≤ b.toNat := by omega
          have e2 : b.toNat ≤ 126 := by omega
          simp [c1, c2, e1, e2]
    · have : i = s.size := by omega
      subst this
      rw [drop_size]
      simp [impl_isPrinted_l0, impl_isPrinted_l0_r]
theorem l12Bytes_l0 (N : Nat) (s : ByteArray) (m : Int) (hs : s.size ≤ maxLen) : ∀ (n i : Nat), s.size ≤ i + n → i ≤ s.size → spec_l12Bytes_l0 N (n + 1) (s, m, (i : Int), ()) =
    if (s.data.toList.drop i).all (fun b => printed1 b && !(b.toNat == 35)) = true then some (.inr (.inl (s, m, ()))) else some (.inl (false, ())) := by
  intro n
  induction n with
  | zero =>
    intro i h1 h2
    have : i = s.size := by omega
    subst this
    rw [drop_size]
    simp [spec_l12Bytes_l0, spec_l12Bytes_l0_r]
  | succ n ih =>
    intro i h1 h2
    by_cases hi : i < s.size
    · have hix : idxIn (i : Int) s.size = true := by simp [idxIn]; omega
      have hw : IntKind.wrap .i64 ((i : Int) + 1) = ((i + 1 : Nat) : Int) := by rw [wrap_small _ (by omega) (by unfold maxLen at hs; omega)]; rfl
      have ih' := ih (i + 1) (by omega) (by omega)
      obtain ⟨b, hb, hd⟩ := bytes_drop s i hi
      have hwb : IntKind.wrap .i64 (b.toNat : Int) = (b.toNat : Int) := wrap_small _ (by omega) (by have := b.toNat_lt; omega)
      rw [hd]
      show spec_l12Bytes_l0_r N (spec_l12Bytes_l0 N (n + 1)) (s, m, (i : Int), ()) = _
      unfold spec_l12Bytes_l0_r g_spec_l1In
      have hlt : decide ((i : Int) < (s.size : Int)) = true := by simp; omega
      simp only [Int.toNat_natCast, hix, if_true, hw, ih', List.all_cons, printed1, hlt, hb, hwb]
      by_cases c1 : 32 ≤ b.toNat
      · by_cases c2 : b.toNat ≤ 126
        · have e1 : (32 : Int) ≤ (b.toNat : Int) := by omega
          have e2 : (b.toNat : Int) ≤ 126 := by omega
          by_cases c3 : b.toNat = 35
          · simp [c3]
          · have c3' : ¬ (b.toNat : Int) = 35 := by omega
            simp [c1, c2, c3, e1, e2, c3']
        · have e1 : (32 : Int) ≤ (b.toNat : Int) := by omega
          have e2 : ¬ (b.toNat : Int) ≤ 126 := by omega
          simp [c2, e1, e2]
      · have e1 : ¬ (32 : Int) ≤ (b.toNat : Int) := by omega
        simp [c1, e1]
    · have : i = s.size := by omega
      subst this
      rw [drop_size]
      simp [spec_l12Bytes_l0, spec_l12Bytes_l0_r]
theorem l1Stands_l0 (N : Nat) (s : ByteArray) (m : Int) (hs : s.size ≤ maxLen) : ∀ (n i : Nat), s.size ≤ i + n → i ≤ s.size → spec_l1Stands_l0 N (n + 1) (s, m, (i : Int), ()) =
    if (s.data.toList.drop i).any (fun b => ((b.toNat : Int) == m)) = true then some (.inl (true, ())) else some (.inr (.inl ())) := by
  intro n
  induction n with
  | zero =>
    intro i h1 h2
    have : i = s.size := by omega
    subst this
    rw [drop_size]
    simp [spec_l1Stands_l0, spec_l1Stands_l0_r]
  | succ n ih =>
    intro i h1 h2
    by_cases hi : i < s.size
    · have hix : idxIn (i : Int) s.size = true := by simp [idxIn]; omega
      have hw : IntKind.wrap .i64 ((i : Int) + 1) = ((i + 1 : Nat) : Int) := by rw [wrap_small _ (by omega) (by unfold maxLen at hs; omega)]; rfl
      have ih' := ih (i + 1) (by omega) (by omega)
      obtain ⟨b, hb, hd⟩ := bytes_drop s i hi
      rw [hd]
      show spec_l1Stands_l0_r N (spec_l1Stands_l0 N (n + 1)) (s, m, (i : Int), ()) = _
      unfold spec_l1Stands_l0_r
      have hlt : decide ((i : Int) < (s.size : Int)) = true := by simp; omega
      simp only [Int.toNat_natCast, hix, if_true, hw, ih', List.any_cons, hlt, hb]
      by_cases c1 : (b.toNat : Int) = m
      · simp [c1]
      · have c1' : ((b.toNat : Int) == m) = false := by simpa using c1
        simp [c1']
    · have : i = s.size := by omega
      subst this
      rw [drop_size]
      simp [spec_l1Stands_l0, spec_l1Stands_l0_r]
theorem l12Bytes_lim (d) (r) (h : G_l12Bytes d = some r) : ∃ N, F_spec_l12Bytes N d = some r := by
  obtain ⟨s, m, u⟩ := d
  unfold G_l12Bytes at h
  split at h
  · rename_i hs
    have hs : s.size ≤ maxLen := of_decide_eq_true hs
    have h := Option.some.inj h
    refine ⟨s.size + 1, ?_⟩
    have := l12Bytes_l0 (s.size + 1) s m hs s.size 0 (by omega) (by omega)
    unfold F_spec_l12Bytes
    simp only [Int.natCast_zero, List.drop_zero] at this
    simp only
    rw [this, ← h]
    by_cases hc : s.data.toList.all (fun b => printed1 b && !(b.toNat == 35)) = true
    · simp [hc]
    · simp only [Bool.not_eq_true] at hc
      simp [hc]
  · cases h
theorem l1Stands_lim (d) (r) (h : G_l1Stands d = some r) : ∃ N, F_spec_l1Stands N d = some r := by
  obtain ⟨s, m, u⟩ := d
  unfold G_l1Stands at h
  split at h
  · rename_i hs
    have hs : s.size ≤ maxLen := of_decide_eq_true hs
    have h := Option.some.inj h
    refine ⟨s.size + 1, ?_⟩
    have := l1Stands_l0 (s.size + 1) s m hs s.size 0 (by omega) (by omega)
    unfold F_spec_l1Stands
    simp only [Int.natCast_zero, List.drop_zero] at this
    simp only
    rw [this, ← h]
    by_cases hc : s.data.toList.any (fun b => ((b.toNat : Int) == m)) = true
    · simp [hc]
    · simp only [Bool.not_eq_true] at hc
      simp [hc]
  · cases h
theorem ascii_of_printed {s : ByteArray} (h : printedB s = true) : asciiB s = true := by
  unfold printedB at h
  unfold asciiB
  rw [List.all_eq_true] at h ⊢
  intro b hb
  have := h b hb
  simp only [printed1, Bool.and_eq_true, decide_eq_true_eq] at this ⊢
  omega
theorem isPrinted_lim (d) (r) (h : G_isPrinted d = some r) : ∃ N, F_impl_isPrinted N d = some r := by
  obtain ⟨s, w, u⟩ := d
  unfold G_isPrinted at h
  split at h
  · rename_i hc
    simp only [Bool.and_eq_true] at hc
    obtain ⟨⟨h1, h2⟩, h3⟩ := hc
    have hs : s.size ≤ maxLen := by have := of_decide_eq_true h2; unfold maxLen; omega
    have h := Option.some.inj h
    refine ⟨s.size + 1, ?_⟩
    have := isPrinted_l0 (s.size + 1) s w hs s.size 0 (by omega) (by omega)
    unfold F_impl_isPrinted
    simp only [Int.natCast_zero, List.drop_zero] at this
    simp only
    rw [this, ← h]
    by_cases hp : s.data.toList.all printed1 = true
    · have ha := ascii_of_printed (s := s) hp
      have hp' : printedB s = true := hp
      simp [hp, hp', G_containsAny, ha, h1, h2, h3]
    · have hp' : printedB s = false := by simpa [printedB] using hp
      simp only [Bool.not_eq_true] at hp
      simp [hp, hp']
  · cases h
theorem containsAny_any (c : List UInt8) : ∀ l : List UInt8, Lib.containsAny l c = l.any fun b => c.contains b := by
  intro l
  induction l with
  | nil => simp [Lib.containsAny, Lib.indexAny]
  | cons b l ih =>
    unfold Lib.containsAny at ih ⊢
    unfold Lib.indexAny
    rw [List.any_cons, ← ih]
    by_cases hb : c.contains b = true
    · have hb' : b ∈ c := by simpa using hb
      simp [hb']
    · simp only [Bool.not_eq_true] at hb
      rw [hb]
      simp only [Bool.false_eq_true, if_false, Bool.false_or]
      have := Lib.indexAny_ge c l
      by_cases he : Lib.indexAny l c = -1
      · simp [he]
      · have e1 : (Lib.indexAny l c == -1) = false := by simpa using he
        rw [e1]
        simp only [Bool.false_eq_true, if_false]
        have e2 : (0 ≤ Lib.indexAny l c) := by omega
        have e3 : (0 ≤ Lib.indexAny l c + 1) := by omega
        simp [e2, e3]
end Go.V.W
set_option linter.unusedVariables false
set_option linter.unusedSimpArgs false
namespace Go.V.W
open Go.Proofs
def specB (a b : ByteArray) : Bool := !seq_ a (⟨#[]⟩ : ByteArray) && ((a.data.toList.all (fun b => printed1 b && !(b.toNat == 35)) && decide ((a.size : Int) ≤ 160)) && (!(a.data.toList.any (fun b => ((b.toNat : Int) == 64))) && (b.data.toList.all (fun b => printed1 b && !(b.toNat == 35)) && decide ((b.size : Int) ≤ 200))))
def implB (a b : ByteArray) : Bool := ((decide ((a.size : Int) ≥ 1) && decide ((a.size : Int) ≤ 160)) && (printedB a && !Lib.containsAny a.data.toList [35, 64])) && (decide ((b.size : Int) ≤ 200) && (printedB b && !Lib.containsAny b.data.toList [35]))
theorem impl_eq (a b : ByteArray) (ha : a.size ≤ 1048576) (hb : b.size ≤ 1048576) : F_impl_IsValidRecord 0 ((a, b, ()), ()) = some (implB a b, ()) := by
  have oa : smallB a = true := by unfold smallB; simp; omega
  have ob : smallB b = true := by unfold smallB; simp; omega
  have k1 : asciiB (⟨#[35, 64]⟩ : ByteArray) = true := by decide
  have k2 : smallB (⟨#[35, 64]⟩ : ByteArray) = true := by decide
  have k3 : asciiB (⟨#[35]⟩ : ByteArray) = true := by decide
  have k4 : smallB (⟨#[35]⟩ : ByteArray) = true := by decide
  unfold F_impl_IsValidRecord F_impl_isCommand g_impl_within implB
  simp only [G_isPrinted, oa, ob, k1, k2, k3, k4, Bool.and_self, if_true, Option.bind_some]
  cases decide ((a.size : Int) ≥ 1) <;> simp only [Bool.false_eq_true, if_false, if_true, Option.bind_some, Bool.false_and, Bool.true_and]
  cases decide ((a.size : Int) ≤ 160) <;> simp only [Bool.false_eq_true, if_false, if_true, Option.bind_some, Bool.false_and, Bool.true_and]
  cases (printedB a && !Lib.containsAny a.data.toList [35, 64]) <;> simp only [Bool.false_eq_true, if_false, if_true, Option.bind_some, Bool.false_and, Bool.true_and]
  cases decide ((b.size : Int) ≤ 200) <;> simp only [Bool.false_eq_true, if_false, if_true, Option.bind_some, Bool.false_and, Bool.true_and]
theorem all_not (l : List UInt8) (p q : UInt8 → Bool) : l.all (fun b => p b && !q b) = (l.all p && !l.any q) := by
  induction l with
  | nil => rfl
  | cons b l ih =>
    simp only [List.all_cons, List.any_cons, ih]
    cases p b <;> cases q b <;> cases l.all p <;> cases l.any q <;> rfl
theorem any_or (l : List UInt8) (p q : UInt8 → Bool) : l.any (fun b => p b || q b) = (l.any p || l.any q) := by
  induction l with
  | nil => rfl
  | cons b l ih =>
    simp only [List.any_cons, ih]
    cases p b <;> cases q b <;> cases l.any p <;> cases l.any q <;> rfl
theorem has35 (l : List UInt8) : Lib.containsAny l [35] = l.any (fun b => b.toNat == 35) := by
  rw [containsAny_any]
  congr 1
  funext b
  simp only [List.contains_cons, List.contains_nil, Bool.or_false]
  rw [Bool.eq_iff_iff]
  simp only [beq_iff_eq]
  exact ⟨fun h => by rw [h]; rfl, fun h => UInt8.toNat_inj.1 h⟩
theorem has3564 (l : List UInt8) : Lib.containsAny l [35, 64] = (l.any (fun b => b.toNat == 35) || l.any (fun b => ((b.toNat : Int) == 64))) := by
  rw [containsAny_any, ← any_or]
  congr 1
  funext b
  simp only [List.contains_cons, List.contains_nil, Bool.or_false]
  rw [Bool.eq_iff_iff]
  simp only [Bool.or_eq_true, beq_iff_eq]
  constructor
  · rintro (h | h)
    · left; rw [h]; rfl
    · right; rw [h]; rfl
  · rintro (h | h)
    · left; exact UInt8.toNat_inj.1 h
    · right; exact UInt8.toNat_inj.1 (by have : b.toNat = 64 := by omega
                                         rw [this]; rfl)
theorem empty_size (a : ByteArray) : seq_ a (⟨#[]⟩ : ByteArray) = !decide ((a.size : Int) ≥ 1) := by
  unfold seq_
  have h1 : a.toList = a.data.toList := Lib.toList_data a
  have h2 : (⟨#[]⟩ : ByteArray).toList = [] := Lib.toList_data _
  have h3 : a.data.toList.length = a.size := by simp
  rw [h1, h2]
  cases hl : a.data.toList with
  | nil =>
    rw [hl] at h3
    simp only [List.length_nil] at h3
    simp [← h3]
  | cons x l =>
    rw [hl] at h3
    simp only [List.length_cons] at h3
    have : decide ((a.size : Int) ≥ 1) = true := by simp; omega
    rw [this]
    rfl
theorem same (a b : ByteArray) : specB a b = implB a b := by
  unfold specB implB
  rw [empty_size, all_not, all_not, has35, has3564]
  unfold printedB
  cases decide ((a.size : Int) ≥ 1) <;> cases a.data.toList.all printed1 <;> cases a.data.toList.any (fun b => b.toNat == 35) <;> cases a.data.toList.any (fun b => ((b.toNat : Int) == 64)) <;> cases decide ((a.size : Int) ≤ 160) <;> cases decide ((b.size : Int) ≤ 200) <;> cases b.data.toList.all printed1 <;> cases b.data.toList.any (fun b => b.toNat == 35) <;> rfl
end Go.V.W
set_option linter.unusedVariables false
set_option linter.unusedSimpArgs false
namespace Go.V.W
open Go.Proofs
theorem lim_max {n : Nat} (h : n ≤ lim) : n ≤ maxLen := by unfold lim at h; unfold maxLen; omega
theorem toIntA2_lim (d) (r) (h : G_toIntA2 d = some r) : ∃ N, F_laws_toIntA2 N d = some r := by
  obtain ⟨⟨a, b, _⟩, _⟩ := d
  have h := Option.some.inj h
  subst h
  exact ⟨3, rfl⟩
theorem set_copy {α : Type} (l m : List α) (i : Nat) (x : α) (hi : i < l.length) (hx : l[i] = x) (hm : m.length = l.length) (h : m.take i = l.take i) : (m.set i x).take (i + 1) = l.take (i + 1) := by
  apply List.ext_getElem?
  intro j
  simp only [List.getElem?_take]
  split
  · rename_i hj
    by_cases hji : j = i
    · subst hji
      rw [List.getElem?_set_self (by omega), List.getElem?_eq_getElem hi, hx]
    · rw [List.getElem?_set_ne (fun e => hji e.symm)]
      have := congrArg (fun z => z[j]?) h
      simp only [List.getElem?_take] at this
      rw [if_pos (by omega), if_pos (by omega)] at this
      exact this
  · rfl
theorem toIntS_l0 (N : Nat) (l : List Int) (hl : l.length ≤ lim) : ∀ k, l.length ≤ k → laws_toIntS_l0 N (k + 1) (l, List.replicate l.length (0 : Int), (0 : Int), ()) = some (.inl (l, ())) := by
  intro k hk
  have hmx := lim_max hl
  have key : ∀ n i (m : List Int), l.length ≤ i + n → i ≤ l.length → m.length = l.length → m.take i = l.take i → laws_toIntS_l0 N (n + 1) (l, m, (i : Int), ()) = some (.inl (l, ())) := by
    intro n
    induction n with
    | zero =>
      intro i m h1 h2 h3 h4
      have e : i = l.length := by omega
      subst e
      rw [List.take_of_length_le (by omega), List.take_of_length_le (by omega)] at h4
      subst h4
      simp [laws_toIntS_l0, laws_toIntS_l0_r]
    | succ n ih =>
      intro i m h1 h2 h3 h4
      by_cases hi : i < l.length
      · show laws_toIntS_l0_r N (laws_toIntS_l0 N (n + 1)) (l, m, (i : Int), ()) = _
        unfold laws_toIntS_l0_r
        have hlt : decide ((i : Int) < (List.length l : Int)) = true := by simp; omega
        simp only [hlt, if_true, idxIn_nat hi, idxIn_nat (show i < m.length by omega), Int.toNat_natCast, wrap_up hi hmx]
        refine ih (i + 1) _ (by omega) (by omega) (by simp [h3]) ?_
        exact set_copy l m i _ hi (by rw [at_get (e := I) hi]; rfl) h3 h4
      · have e : i = l.length := by omega
        subst e
        rw [List.take_of_length_le (by omega), List.take_of_length_le (by omega)] at h4
        subst h4
        simp [laws_toIntS_l0, laws_toIntS_l0_r]
  simpa using key k 0 (List.replicate l.length 0) (by omega) (by omega) (by simp) (by simp)
theorem toIntS_lim (d) (r) (h : G_toIntS d = some r) : ∃ N, F_laws_toIntS N d = some r := by
  obtain ⟨l, _⟩ := d
  unfold G_toIntS at h
  split at h
  · rename_i hl
    have hl : l.length ≤ lim := of_decide_eq_true hl
    have h := Option.some.inj h
    subst h
    refine ⟨l.length + 1, ?_⟩
    unfold F_laws_toIntS
    have hc : (decide (0 ≤ (List.length l : Int)) && decide ((List.length l : Int) ≤ (List.length l : Int)) && decide ((List.length l : Int) ≤ (lim : Int))) = true := by simp; omega
    have := toIntS_l0 (l.length + 1) l hl l.length (Nat.le_refl _)
    simp only [hc, if_true, Int.toNat_natCast]
    rw [this]
    rfl
  · cases h
theorem toIntA2S_l0 (N : Nat) (l : List E) (hl : l.length ≤ lim) : ∀ k, l.length ≤ k → laws_toIntA2S_l0 N (k + 1) (l, List.replicate l.length ((0 : Int), (0 : Int), ()), (0 : Int), ()) = some (.inl (l, ())) := by
  intro k hk
  have hmx := lim_max hl
  have key : ∀ n i (m : List E), l.length ≤ i + n → i ≤ l.length → m.length = l.length → m.take i = l.take i → laws_toIntA2S_l0 N (n + 1) (l, m, (i : Int), ()) = some (.inl (l, ())) := by
    intro n
    induction n with
    | zero =>
      intro i m h1 h2 h3 h4
      have e : i = l.length := by omega
      subst e
      rw [List.take_of_length_le (by omega), List.take_of_length_le (by omega)] at h4
      subst h4
      simp [laws_toIntA2S_l0, laws_toIntA2S_l0_r]
    | succ n ih =>
      intro i m h1 h2 h3 h4
      by_cases hi : i < l.length
      · show laws_toIntA2S_l0_r N (laws_toIntA2S_l0 N (n + 1)) (l, m, (i : Int), ()) = _
        unfold laws_toIntA2S_l0_r
        have hlt : decide ((i : Int) < (List.length l : Int)) = true := by simp; omega
        simp only [hlt, if_true, idxIn_nat hi, idxIn_nat (show i < m.length by omega), Int.toNat_natCast, wrap_up hi hmx, G_toIntA2, Option.bind_some]
        refine ih (i + 1) _ (by omega) (by omega) (by simp [h3]) ?_
        exact set_copy l m i _ hi (by rw [at_get (e := K_Piiq) hi]; rfl) h3 h4
      · have e : i = l.length := by omega
        subst e
        rw [List.take_of_length_le (by omega), List.take_of_length_le (by omega)] at h4
        subst h4
        simp [laws_toIntA2S_l0, laws_toIntA2S_l0_r]
  simpa using key k 0 (List.replicate l.length ((0 : Int), (0 : Int), ())) (by omega) (by omega) (by simp) (by simp)
theorem toIntA2S_lim (d) (r) (h : G_toIntA2S d = some r) : ∃ N, F_laws_toIntA2S N d = some r := by
  obtain ⟨l, _⟩ := d
  unfold G_toIntA2S at h
  split at h
  · rename_i hl
    have hl : l.length ≤ lim := of_decide_eq_true hl
    have h := Option.some.inj h
    subst h
    refine ⟨l.length + 1, ?_⟩
    unfold F_laws_toIntA2S
    have hc : (decide (0 ≤ (List.length l : Int)) && decide ((List.length l : Int) ≤ (List.length l : Int)) && decide ((List.length l : Int) ≤ (lim : Int))) = true := by simp; omega
    have := toIntA2S_l0 (l.length + 1) l hl l.length (Nat.le_refl _)
    simp only [hc, if_true, Int.toNat_natCast]
    rw [this]
    rfl
  · cases h
end Go.V.W
set_option linter.unusedVariables false
set_option linter.unusedSimpArgs false
namespace Go.V.W
open Go.Proofs
theorem eqIntA2_lim (d) (r) (h : G_eqIntA2 d = some r) : ∃ N, F_laws_eqIntA2 N d = some r := by
  obtain ⟨⟨a, b, _⟩, ⟨c, e, _⟩, _⟩ := d
  have h := Option.some.inj h
  subst h
  refine ⟨3, ?_⟩
  by_cases h1 : a = c
  · by_cases h2 : b = e
    · subst h1 h2
      simp [F_laws_eqIntA2, laws_eqIntA2_l0, laws_eqIntA2_l0_r, wrap_in]
    · subst h1
      simp [F_laws_eqIntA2, laws_eqIntA2_l0, laws_eqIntA2_l0_r, wrap_in, h2]
  · simp [F_laws_eqIntA2, laws_eqIntA2_l0, laws_eqIntA2_l0_r, wrap_in, h1]
theorem eqIntS_l0 (N : Nat) (l m : List Int) (hl : l.length ≤ lim) (hm : l.length = m.length) : ∀ n i, l.length ≤ i + n → i ≤ l.length → laws_eqIntS_l0 N (n + 1) (l, m, (i : Int), ()) = if l.drop i = m.drop i then some (.inr (.inl ())) else some (.inl (false, ())) := by
  have hmx := lim_max hl
  intro n
  induction n with
  | zero =>
    intro i h1 h2
    have e : i = l.length := by omega
    subst e
    rw [List.drop_of_length_le (by omega), List.drop_of_length_le (by omega)]
    simp [laws_eqIntS_l0, laws_eqIntS_l0_r]
  | succ n ih =>
    intro i h1 h2
    by_cases hi : i < l.length
    · have hi' : i < m.length := by omega
      show laws_eqIntS_l0_r N (laws_eqIntS_l0 N (n + 1)) (l, m, (i : Int), ()) = _
      unfold laws_eqIntS_l0_r
      have hlt : decide ((i : Int) < (List.length l : Int)) = true := by simp; omega
      simp only [hlt, if_true, idxIn_nat hi, idxIn_nat hi', Int.toNat_natCast, wrap_up hi hmx, at_get (e := I) hi, at_get (e := I) (l := m) hi', ih (i + 1) (by omega) (by omega)]
      rw [List.drop_eq_getElem_cons hi, List.drop_eq_getElem_cons hi']
      simp only [List.cons.injEq, List.get_eq_getElem]
      by_cases he : l[i] = m[i]
      · simp only [he, bne_self_eq_false, Bool.false_eq_true, if_false, true_and]
      · have he' : (l[i] != m[i]) = true := by simpa using he
        simp only [he', he, if_true, false_and, if_false]
    · have e : i = l.length := by omega
      subst e
      rw [List.drop_of_length_le (by omega), List.drop_of_length_le (by omega)]
      simp [laws_eqIntS_l0, laws_eqIntS_l0_r]
theorem eqIntS_lim (d) (r) (h : G_eqIntS d = some r) : ∃ N, F_laws_eqIntS N d = some r := by
  obtain ⟨l, m, _⟩ := d
  unfold G_eqIntS at h
  split at h
  · rename_i hl
    have hl : l.length ≤ lim := of_decide_eq_true hl
    have h := Option.some.inj h
    subst h
    refine ⟨l.length + 1, ?_⟩
    unfold F_laws_eqIntS
    by_cases hm : l.length = m.length
    · have := eqIntS_l0 (l.length + 1) l m hl hm l.length 0 (by omega) (by omega)
      simp only [Int.natCast_zero, List.drop_zero] at this
      have hne : ((List.length l : Int) != (List.length m : Int)) = false := by simp [hm]
      simp only [hne, Bool.false_eq_true, if_false, this]
      by_cases he : l = m
      · simp [he]
      · simp [he]
    · have hne : ((List.length l : Int) != (List.length m : Int)) = true := by simp; omega
      have he : ¬ l = m := fun e => hm (by rw [e])
      simp [hne, he]
  · cases h
end Go.V.W
set_option linter.unusedVariables false
set_option linter.unusedSimpArgs false
namespace Go.V.W
open Go.Proofs
/-- All of m numbers from i on. -/
def allB (p : Nat → Bool) : Nat → Nat → Bool
  | 0, _ => true
  | m + 1, i => p i && allB p m (i + 1)
theorem allB_iff {p : Nat → Bool} : ∀ {m i : Nat}, allB p m i = true ↔ ∀ j, i ≤ j → j < i + m → p j = true := by
  intro m
  induction m with
  | zero => intro i; simp only [allB, true_iff]; intro j h1 h2; omega
  | succ m ih =>
    intro i
    simp only [allB, Bool.and_eq_true, ih]
    constructor
    · rintro ⟨h1, h2⟩ j h3 h4
      by_cases e : j = i
      · subst e; exact h1
      · exact h2 j (by omega) (by omega)
    · intro h
      exact ⟨h i (Nat.le_refl _) (by omega), fun j h1 h2 => h j (by omega) (by omega)⟩
theorem loop_all {H O : Type} {L : Nat → H → Option O} {r : (H → Option O) → H → Option O} (hL : ∀ k d, L (k + 1) d = r (L k) d) {n : Nat} {mk : Nat → H} {p : Nat → Bool} {o f : O}
    (hr : ∀ back i, i < n → r back (mk i) = if p i = true then back (mk (i + 1)) else some o) (hf : ∀ back, r back (mk n) = some f) :
    ∀ k i, i ≤ n → n ≤ i + k → L (k + 1) (mk i) = some (if allB p (n - i) i = true then f else o) := by
  intro k
  induction k with
  | zero =>
    intro i h1 h2
    have e : i = n := by omega
    subst e
    rw [hL, hf, Nat.sub_self]
    rfl
  | succ k ih =>
    intro i h1 h2
    by_cases h : i < n
    · rw [hL, hr _ i h, show n - i = (n - (i + 1)) + 1 by omega]
      simp only [allB]
      by_cases hp : p i = true
      · simp only [hp, if_true, Bool.true_and]
        exact ih (i + 1) (by omega) (by omega)
      · simp only [Bool.not_eq_true] at hp
        simp only [hp, Bool.false_eq_true, if_false, Bool.false_and]
    · have e : i = n := by omega
      subst e
      rw [hL, hf, Nat.sub_self]
      rfl
theorem wrap_down {i : Nat} (h : 0 < i) (hn : i ≤ maxLen) : IntKind.wrap .i64 ((i : Int) - 1) = ((i - 1 : Nat) : Int) := by
  unfold maxLen at hn
  rw [Go.IntWalk.i64_in _ (by omega)]
  omega
theorem lt_dec {i n : Nat} (h : i < n) : decide ((i : Int) < (n : Int)) = true := by simp; omega
theorem lt_not (n : Nat) : decide ((n : Int) < (n : Int)) = false := by simp
theorem pos_dec {i : Nat} : decide ((i : Int) > (0 : Int)) = decide (0 < i) := by simp
theorem bool_eq_iff {a b : Bool} (h : a = true ↔ b = true) : a = b := by cases a <;> cases b <;> simp_all
theorem all_at {e : Kd} (l : List e.den) (q : e.den → Bool) : allB (fun i => q (at_ e l i)) l.length 0 = l.all q := by
  apply bool_eq_iff
  rw [allB_iff, List.all_eq_true]
  constructor
  · intro h x hx
    obtain ⟨i, hi, rfl⟩ := List.getElem_of_mem hx
    have := h i (by omega) (by omega)
    rw [at_get hi] at this
    exact this
  · intro h j _ hj
    have hj : j < l.length := by omega
    rw [at_get hj]
    exact h _ (List.getElem_mem hj)
theorem risingB_iff : ∀ l : List Int, risingB l = true ↔ ∀ j, 0 < j → j < l.length → at_ I l (j - 1) < at_ I l j := by
  intro l
  induction l with
  | nil => simp only [risingB, true_iff]; intro j _ h; exact absurd h (by simp)
  | cons a l ih =>
    cases l with
    | nil => simp only [risingB, true_iff]; intro j h1 h2; simp only [List.length_cons, List.length_nil] at h2; omega
    | cons b l =>
      simp only [risingB, Bool.and_eq_true, ih, decide_eq_true_eq]
      constructor
      · rintro ⟨h1, h2⟩ j h3 h4
        by_cases e : j = 1
        · subst e; exact h1
        · have := h2 (j - 1) (by omega) (by simp only [List.length_cons] at h4 ⊢; omega)
          obtain ⟨k, rfl⟩ : ∃ k, j = k + 2 := ⟨j - 2, by omega⟩
          exact this
      · intro h
        refine ⟨h 1 (by omega) (by simp), fun j h1 h2 => ?_⟩
        have := h (j + 1) (by omega) (by simp only [List.length_cons] at h2 ⊢; omega)
        obtain ⟨k, rfl⟩ : ∃ k, j = k + 1 := ⟨j - 1, by omega⟩
        exact this
theorem risingE_iff : ∀ l : List E, risingE l = true ↔ ∀ j, 0 < j → j < l.length → lessE (at_ K_Piiq l (j - 1)) (at_ K_Piiq l j) = true := by
  intro l
  induction l with
  | nil => simp only [risingE, true_iff]; intro j _ h; exact absurd h (by simp)
  | cons a l ih =>
    cases l with
    | nil => simp only [risingE, true_iff]; intro j h1 h2; simp only [List.length_cons, List.length_nil] at h2; omega
    | cons b l =>
      simp only [risingE, Bool.and_eq_true, ih]
      constructor
      · rintro ⟨h1, h2⟩ j h3 h4
        by_cases e : j = 1
        · subst e; exact h1
        · have := h2 (j - 1) (by omega) (by simp only [List.length_cons] at h4 ⊢; omega)
          obtain ⟨k, rfl⟩ : ∃ k, j = k + 2 := ⟨j - 2, by omega⟩
          exact this
      · intro h
        refine ⟨h 1 (by omega) (by simp), fun j h1 h2 => ?_⟩
        have := h (j + 1) (by omega) (by simp only [List.length_cons] at h2 ⊢; omega)
        obtain ⟨k, rfl⟩ : ∃ k, j = k + 1 := ⟨j - 1, by omega⟩
        exact this
theorem l1In_eq (x lo hi : Int) (u : Unit) : g_spec_l1In (x, lo, hi, u) = (inB lo hi x, ()) := by
  unfold g_spec_l1In inB
  by_cases h : lo ≤ x <;> simp [h]
theorem within_eq (x lo hi : Int) (u : Unit) : g_impl_within (x, lo, hi, u) = (inB lo hi x, ()) := by
  unfold g_impl_within inB
  by_cases h : lo ≤ x <;> simp [h]
theorem l2Before_eq (a b : E) (u : Unit) : g_spec_l2Before (a, b, u) = (lessE a b, ()) := by
  obtain ⟨a1, a2, _⟩ := a
  obtain ⟨b1, b2, _⟩ := b
  unfold g_spec_l2Before lessE
  by_cases h : a1 < b1
  · simp [h]
  · by_cases h2 : a1 = b1 <;> simp [h, h2]
theorem cmpI_eq (a b : Int) (u : Unit) : g_cmp_Compare_int (a, b, u) = (if a < b then -1 else if b < a then 1 else 0, ()) := by
  unfold g_cmp_Compare_int g_cmp_isNaN_int
  by_cases h : a < b
  · simp [h]
  · by_cases h2 : b < a <;> simp [h, h2]
theorem eqIntA2S_lim (d) (r) (h : G_eqIntA2S d = some r) : ∃ N, F_laws_eqIntA2S N d = some r := by
  obtain ⟨l, m, _⟩ := d
  unfold G_eqIntA2S at h
  split at h
  · rename_i hl
    have hl : l.length ≤ lim := of_decide_eq_true hl
    have hmx := lim_max hl
    have h := Option.some.inj h
    subst h
    refine ⟨l.length + 1, ?_⟩
    unfold F_laws_eqIntA2S
    by_cases hm : l.length = m.length
    · have := loop_all (L := laws_eqIntA2S_l0 (l.length + 1)) (r := laws_eqIntA2S_l0_r (l.length + 1)) (fun _ _ => rfl) (n := l.length) (mk := fun i => (l, m, (i : Int), ())) (p := fun i => decide (at_ K_Piiq l i = at_ K_Piiq m i)) (o := .inl (false, ())) (f := .inr (.inl ()))
        (by
          intro back i hi
          have hi' : i < m.length := by omega
          unfold laws_eqIntA2S_l0_r
          simp only [lt_dec hi, if_true, idxIn_nat hi, idxIn_nat hi', Int.toNat_natCast, wrap_up hi hmx, G_eqIntA2, Option.bind_some]
          by_cases he : at_ K_Piiq l i = at_ K_Piiq m i
          · simp only [he, decide_true, Bool.not_true, Bool.false_eq_true, if_false, if_true]
          · simp only [he, decide_false, Bool.not_false, Bool.false_eq_true, if_false, if_true])
        (by intro back; unfold laws_eqIntA2S_l0_r; simp only [lt_not, Bool.false_eq_true, if_false]) l.length 0 (by omega) (by omega)
      simp only [Int.natCast_zero] at this
      have hne : ((List.length l : Int) != (List.length m : Int)) = false := by simp [hm]
      simp only [hne, Bool.false_eq_true, if_false, this, Nat.sub_zero]
      by_cases he : l = m
      · have : allB (fun i => decide (at_ K_Piiq l i = at_ K_Piiq m i)) l.length 0 = true := allB_iff.2 (fun j _ _ => by simp [he])
        simp only [this, if_true, Option.bind_some]
        simp only [he, decide_true]
      · have : allB (fun i => decide (at_ K_Piiq l i = at_ K_Piiq m i)) l.length 0 = false := by
          apply Bool.eq_false_iff.2
          intro ha
          apply he
          rw [allB_iff] at ha
          apply List.ext_getElem hm
          intro i h1 h2
          have := of_decide_eq_true (ha i (by omega) (by omega))
          rw [at_get (e := K_Piiq) h1, at_get (e := K_Piiq) h2] at this
          exact this
        simp only [this, he, Bool.false_eq_true, if_false, Option.bind_some, decide_false]
    · have hne : ((List.length l : Int) != (List.length m : Int)) = true := by simp; omega
      have he : ¬ l = m := fun e => hm (by rw [e])
      simp [hne, he]
  · cases h
theorem l1Rising_lim (d) (r) (h : G_l1Rising d = some r) : ∃ N, F_spec_l1Rising N d = some r := by
  obtain ⟨l, lo, hi, _⟩ := d
  unfold G_l1Rising at h
  split at h
  · rename_i hl
    have hl : l.length ≤ lim := of_decide_eq_true hl
    have hmx := lim_max hl
    have h := Option.some.inj h
    subst h
    refine ⟨l.length + 1, ?_⟩
    unfold F_spec_l1Rising
    have := loop_all (L := spec_l1Rising_l0 (l.length + 1)) (r := spec_l1Rising_l0_r (l.length + 1)) (fun _ _ => rfl) (n := l.length) (mk := fun i => (l, lo, hi, (i : Int), ())) (p := fun i => inB lo hi (at_ I l i) && (!decide (0 < i) || decide (at_ I l (i - 1) < at_ I l i))) (o := .inl (false, ())) (f := .inr (.inl ()))
      (by
        intro back i hi'
        unfold spec_l1Rising_l0_r
        simp only [lt_dec hi', if_true, idxIn_nat hi', Int.toNat_natCast, wrap_up hi' hmx, l1In_eq, pos_dec]
        cases hb : inB lo hi (at_ I l i) with
        | false => simp only [Bool.not_false, if_true, Bool.false_and, Bool.false_eq_true, if_false]
        | true =>
          simp only [Bool.not_true, Bool.false_eq_true, if_false, Bool.true_and]
          by_cases h0 : 0 < i
          · have h1 : i - 1 < l.length := by omega
            simp only [h0, decide_true, if_true, wrap_down h0 (show i ≤ maxLen by omega), idxIn_nat h1, Int.toNat_natCast, Bool.not_true, Bool.false_or]
            by_cases hc : at_ I l (i - 1) < at_ I l i
            · have hc' : ¬ (at_ I l (i - 1) ≥ at_ I l i) := Int.not_le.2 hc
              simp only [hc, hc', decide_true, decide_false, if_true, Bool.false_eq_true, if_false]
            · have hc' : (at_ I l (i - 1) ≥ at_ I l i) := Int.not_lt.1 hc
              simp only [hc, hc', decide_true, decide_false, if_true, Bool.false_eq_true, if_false]
          · simp only [h0, decide_false, Bool.false_eq_true, if_false, Bool.not_false, Bool.true_or, if_true])
      (by intro back; unfold spec_l1Rising_l0_r; simp only [lt_not, Bool.false_eq_true, if_false]) l.length 0 (by omega) (by omega)
    simp only [Int.natCast_zero] at this
    simp only [this, Nat.sub_zero]
    have e : allB (fun i => inB lo hi (at_ I l i) && (!decide (0 < i) || decide (at_ I l (i - 1) < at_ I l i))) l.length 0 = (l.all (inB lo hi) && risingB l) := by
      rw [← all_at (e := I) l (inB lo hi)]
      apply bool_eq_iff
      rw [Bool.and_eq_true, allB_iff, allB_iff, risingB_iff]
      simp only [Bool.and_eq_true, Bool.or_eq_true, Bool.not_eq_true', decide_eq_true_eq, decide_eq_false_iff_not]
      constructor
      · intro h
        exact ⟨fun j h1 h2 => (h j h1 h2).1, fun j h1 h2 => ((h j (by omega) (by omega)).2).resolve_left (by omega)⟩
      · rintro ⟨h1, h2⟩ j h3 h4
        refine ⟨h1 j h3 h4, ?_⟩
        by_cases h0 : 0 < j
        · exact .inr (h2 j h0 (by omega))
        · exact .inl h0
    simp only [e]
    cases (l.all (inB lo hi) && risingB l) <;> rfl
  · cases h
theorem increasing_lim (d) (r) (h : G_increasing d = some r) : ∃ N, F_impl_increasing N d = some r := by
  obtain ⟨l, _⟩ := d
  unfold G_increasing at h
  split at h
  · rename_i hl
    have hl : l.length ≤ lim := of_decide_eq_true hl
    have hmx := lim_max hl
    have h := Option.some.inj h
    subst h
    refine ⟨l.length + 1, ?_⟩
    unfold F_impl_increasing
    by_cases hz : l.length = 0
    · have : l = [] := List.length_eq_zero_iff.1 hz
      subst this
      rfl
    · have := loop_all (L := fun k d => impl_increasing_l0 (l.length + 1) k d) (r := impl_increasing_l0_r (l.length + 1)) (fun _ _ => rfl) (n := l.length - 1) (mk := fun i => (l, ((i + 1 : Nat) : Int), ())) (p := fun i => decide (at_ I l i < at_ I l (i + 1))) (o := .inl (false, ())) (f := .inr (.inl ()))
        (by
          intro back i hi
          have h1 : i + 1 < l.length := by omega
          have h2 : i < l.length := by omega
          unfold impl_increasing_l0_r
          simp only [lt_dec h1, if_true, wrap_down (show 0 < i + 1 by omega) (show i + 1 ≤ maxLen by omega), idxIn_nat h1, wrap_up h1 hmx, Nat.add_sub_cancel, idxIn_nat h2, Int.toNat_natCast]
          by_cases hc : at_ I l i < at_ I l (i + 1)
          · have hc' : ¬ (at_ I l i ≥ at_ I l (i + 1)) := Int.not_le.2 hc
            simp only [hc, hc', decide_true, decide_false, if_true, Bool.false_eq_true, if_false]
          · have hc' : (at_ I l i ≥ at_ I l (i + 1)) := Int.not_lt.1 hc
            simp only [hc, hc', decide_true, decide_false, if_true, Bool.false_eq_true, if_false])
        (by
          intro back
          unfold impl_increasing_l0_r
          have e : l.length - 1 + 1 = l.length := by omega
          simp only [e, lt_not, Bool.false_eq_true, if_false]) l.length 0 (by omega) (by omega)
      simp only [Nat.zero_add, Int.natCast_one] at this
      simp only [this, Nat.sub_zero]
      have e : allB (fun i => decide (at_ I l i < at_ I l (i + 1))) (l.length - 1) 0 = risingB l := by
        apply bool_eq_iff
        rw [allB_iff, risingB_iff]
        simp only [decide_eq_true_eq]
        constructor
        · intro h j h1 h2
          have := h (j - 1) (by omega) (by omega)
          rwa [Nat.sub_add_cancel h1] at this
        · intro h j h1 h2
          exact h (j + 1) (by omega) (by omega)
      simp only [e]
      cases risingB l <;> rfl
  · cases h
theorem allWithin_lim (d) (r) (h : G_allWithin d = some r) : ∃ N, F_impl_allWithin N d = some r := by
  obtain ⟨l, lo, hi, _⟩ := d
  unfold G_allWithin at h
  split at h
  · rename_i hl
    have hl : l.length ≤ lim := of_decide_eq_true hl
    have hmx := lim_max hl
    have h := Option.some.inj h
    subst h
    refine ⟨l.length + 1, ?_⟩
    unfold F_impl_allWithin
    have := loop_all (L := impl_allWithin_l0 (l.length + 1)) (r := impl_allWithin_l0_r (l.length + 1)) (fun _ _ => rfl) (n := l.length) (mk := fun i => (lo, hi, l, (l.length : Int), (i : Int), ())) (p := fun i => inB lo hi (at_ I l i)) (o := .inl (false, ())) (f := .inr (.inl ()))
      (by
        intro back i hi'
        unfold impl_allWithin_l0_r
        simp only [lt_dec hi', if_true, idxIn_nat hi', Int.toNat_natCast, wrap_up hi' hmx, within_eq]
        cases hb : inB lo hi (at_ I l i) <;> rfl)
      (by intro back; unfold impl_allWithin_l0_r; simp only [lt_not, Bool.false_eq_true, if_false]) l.length 0 (by omega) (by omega)
    simp only [Int.natCast_zero] at this
    simp only [this, Nat.sub_zero, all_at (e := I) l (inB lo hi)]
    cases (l.all (inB lo hi)) <;> rfl
  · cases h
/-- What the walk answers before the first list is over. -/
def cmpW : List Int → List Int → Option Int
  | [], _ => none
  | _ :: _, [] => some 1
  | a :: l, b :: m => if a < b then some (-1) else if b < a then some 1 else cmpW l m
theorem cmpL_W : ∀ l m : List Int, cmpL l m = match cmpW l m with
    | some r => r
    | none => if l.length < m.length then -1 else 0 := by
  intro l
  induction l with
  | nil => intro m; cases m <;> simp [cmpL, cmpW]
  | cons a l ih =>
    intro m
    cases m with
    | nil => simp [cmpL, cmpW]
    | cons b m =>
      simp only [cmpL, cmpW]
      by_cases ha : a < b
      · simp [ha]
      · by_cases hb : b < a
        · simp [ha, hb]
        · simp only [ha, hb, if_false, ih m, List.length_cons, Nat.add_lt_add_iff_right]
theorem compare_l0 (N : Nat) (l m : List Int) (hl : l.length ≤ lim) (hm : m.length ≤ lim) : ∀ n i, l.length ≤ i + n → i ≤ l.length → i ≤ m.length → slices_Compare_Sint_int_l0 N (n + 1) (l, m, l, (l.length : Int), (i : Int), ()) = 
    match cmpW (l.drop i) (m.drop i) with
    | some r => some (.inl (r, ()))
    | none => some (.inr (.inl (l, m, ()))) := by
  have hmx := lim_max hl
  intro n
  induction n with
  | zero =>
    intro i h1 h2 h3
    have e : i = l.length := by omega
    subst e
    rw [List.drop_of_length_le (Nat.le_refl l.length)]
    simp [slices_Compare_Sint_int_l0, slices_Compare_Sint_int_l0_r, cmpW]
  | succ n ih =>
    intro i h1 h2 h3
    by_cases hi : i < l.length
    · show slices_Compare_Sint_int_l0_r N (slices_Compare_Sint_int_l0 N (n + 1)) (l, m, l, (l.length : Int), (i : Int), ()) = _
      unfold slices_Compare_Sint_int_l0_r
      simp only [lt_dec hi, if_true, idxIn_nat hi, Int.toNat_natCast, wrap_up hi hmx]
      rw [List.drop_eq_getElem_cons hi]
      by_cases hi' : i < m.length
      · have hge : decide ((i : Int) ≥ (m.length : Int)) = false := by simp; omega
        rw [List.drop_eq_getElem_cons hi']
        simp only [hge, Bool.false_eq_true, if_false, idxIn_nat hi', if_true, cmpI_eq, at_get (e := I) hi, at_get (e := I) (l := m) hi', List.get_eq_getElem, cmpW]
        by_cases ha : l[i] < m[i]
        · simp [ha]
        · by_cases hb : m[i] < l[i]
          · simp [ha, hb]
          · simp only [ha, hb, if_false, bne_self_eq_false, Bool.false_eq_true]
            exact ih (i + 1) (by omega) (by omega) (by omega)
      · have hge : decide ((i : Int) ≥ (m.length : Int)) = true := by simp; omega
        rw [List.drop_of_length_le (Nat.le_of_not_lt hi')]
        simp only [hge, if_true, cmpW]
    · have e : i = l.length := by omega
      subst e
      rw [List.drop_of_length_le (Nat.le_refl l.length)]
      simp [slices_Compare_Sint_int_l0, slices_Compare_Sint_int_l0_r, cmpW]
theorem compare_lim (d) (r) (h : G_compare d = some r) : ∃ N, F_slices_Compare_Sint_int N d = some r := by
  obtain ⟨l, m, _⟩ := d
  unfold G_compare at h
  split at h
  · rename_i hl
    simp only [Bool.and_eq_true] at hl
    have hm : m.length ≤ lim := of_decide_eq_true hl.2
    have hl : l.length ≤ lim := of_decide_eq_true hl.1
    have h := Option.some.inj h
    subst h
    refine ⟨l.length + 1, ?_⟩
    unfold F_slices_Compare_Sint_int
    have := compare_l0 (l.length + 1) l m hl hm l.length 0 (by omega) (by omega) (by omega)
    simp only [Int.natCast_zero, List.drop_zero] at this
    simp only [this, cmpL_W]
    cases cmpW l m with
    | some r => rfl
    | none =>
      by_cases hlt : l.length < m.length
      · have : decide ((l.length : Int) < (m.length : Int)) = true := by simp; omega
        simp only [Option.bind_some, this, if_true, hlt]
      · have : decide ((l.length : Int) < (m.length : Int)) = false := by simp; omega
        simp only [Option.bind_some, this, Bool.false_eq_true, if_false, hlt]
  · cases h
theorem graph_allB (n : Int) (l : List E) : allB (fun i => edgeB n (at_ K_Piiq l i) && (!decide (0 < i) || lessE (at_ K_Piiq l (i - 1)) (at_ K_Piiq l i))) l.length 0 = (l.all (edgeB n) && risingE l) := by
  rw [← all_at (e := K_Piiq) l (edgeB n)]
  apply bool_eq_iff
  rw [Bool.and_eq_true, allB_iff, allB_iff, risingE_iff]
  simp only [Bool.and_eq_true, Bool.or_eq_true, Bool.not_eq_true', decide_eq_false_iff_not]
  constructor
  · intro h
    exact ⟨fun j h1 h2 => (h j h1 h2).1, fun j h1 h2 => ((h j (by omega) (by omega)).2).resolve_left (by omega)⟩
  · rintro ⟨h1, h2⟩ j h3 h4
    refine ⟨h1 j h3 h4, ?_⟩
    by_cases h0 : 0 < j
    · exact .inr (h2 j h0 (by omega))
    · exact .inl h0
theorem cmp2 (a b : E) : decide (cmpL [a.1, a.2.1] [b.1, b.2.1] ≥ 0) = !lessE a b := by
  obtain ⟨a1, a2, _⟩ := a
  obtain ⟨b1, b2, _⟩ := b
  simp only [cmpL, lessE]
  by_cases h1 : a1 < b1
  · simp [h1]
  · by_cases h2 : b1 < a1
    · have : ¬ a1 = b1 := by omega
      simp [h1, h2, this]
    · have e : a1 = b1 := by omega
      subst e
      by_cases h3 : a2 < b2
      · simp [h3]
      · by_cases h4 : b2 < a2 <;> simp [h3, h4]
theorem edge_eq (n a b : Int) : (inB 0 (n - 1) a && inB 0 (n - 1) b && decide (a < b)) = (decide (0 ≤ a) && decide (a < b) && decide (b < n)) := by
  apply bool_eq_iff
  simp only [inB, Bool.and_eq_true, decide_eq_true_eq]
  omega
theorem okL2 (a b : Int) : okL [a, b] = true := decide_eq_true (show 2 ≤ lim by unfold lim; omega)
theorem IsGraph_lim (d) (r) (h : G_graph d = some r) : ∃ N, F_impl_IsGraph N d = some r := by
  obtain ⟨⟨n, l, u⟩, _⟩ := d
  unfold G_graph at h
  split at h
  · rename_i hl
    have hl : l.length ≤ lim := of_decide_eq_true hl
    have hmx := lim_max hl
    have h := Option.some.inj h
    subst h
    refine ⟨l.length + 1, ?_⟩
    unfold F_impl_IsGraph
    simp only [within_eq, graphB]
    cases hn : inB 0 8 n with
    | false =>
      simp only [inB] at hn
      simp only [Bool.not_false, if_true, hn, Bool.false_and]
    | true =>
      have hn' := hn
      simp only [inB] at hn'
      simp only [Bool.not_true, Bool.false_eq_true, if_false, hn', Bool.true_and]
      have := loop_all (L := impl_IsGraph_l0 (l.length + 1)) (r := impl_IsGraph_l0_r (l.length + 1)) (fun _ _ => rfl) (n := l.length) (mk := fun i => ((n, l, u), l, (l.length : Int), (i : Int), ())) (p := fun i => edgeB n (at_ K_Piiq l i) && (!decide (0 < i) || lessE (at_ K_Piiq l (i - 1)) (at_ K_Piiq l i))) (o := .inl (false, ())) (f := .inr (.inl ()))
        (by
          intro back i hi
          unfold impl_IsGraph_l0_r
          simp only [lt_dec hi, if_true, idxIn_nat hi, Int.toNat_natCast, wrap_up hi hmx, pos_dec]
          by_cases c1 : (at_ K_Piiq l i).1 < 0
          · have c1' : ¬ (0 ≤ (at_ K_Piiq l i).1) := Int.not_le.2 c1
            simp only [c1, decide_true, if_true, edgeB, c1', decide_false, Bool.false_and, Bool.false_eq_true, if_false]
          · have c1' : (0 ≤ (at_ K_Piiq l i).1) := Int.not_lt.1 c1
            by_cases c2 : (at_ K_Piiq l i).1 < (at_ K_Piiq l i).2.1
            · have c2' : ¬ ((at_ K_Piiq l i).1 ≥ (at_ K_Piiq l i).2.1) := Int.not_le.2 c2
              by_cases c3 : (at_ K_Piiq l i).2.1 < n
              · have c3' : ¬ ((at_ K_Piiq l i).2.1 ≥ n) := Int.not_le.2 c3
                by_cases h0 : 0 < i
                · have h1 : i - 1 < l.length := by omega
                  simp only [c1, c1', c2, c2', c3, c3', edgeB, decide_true, decide_false, if_true, if_false, Bool.false_eq_true, Bool.true_and, h0, wrap_down h0 (show i ≤ maxLen by omega), idxIn_nat h1, Int.toNat_natCast, Bool.not_true, Bool.false_or, G_compare, okL2, Option.bind_some, cmp2]
                  cases lessE (at_ K_Piiq l (i - 1)) (at_ K_Piiq l i) <;> rfl
                · simp only [c1, c1', c2, c2', c3, c3', edgeB, decide_true, decide_false, if_true, if_false, Bool.false_eq_true, Bool.true_and, h0, Bool.not_false, Bool.true_or]
              · have c3' : ((at_ K_Piiq l i).2.1 ≥ n) := Int.not_lt.1 c3
                simp only [c1, c1', c2, c2', c3, c3', edgeB, decide_true, decide_false, if_true, if_false, Bool.false_eq_true, Bool.and_false, Bool.false_and]
            · have c2' : ((at_ K_Piiq l i).1 ≥ (at_ K_Piiq l i).2.1) := Int.not_lt.1 c2
              simp only [c1, c1', c2, c2', edgeB, decide_true, decide_false, if_true, if_false, Bool.false_eq_true, Bool.and_false, Bool.false_and])
        (by intro back; unfold impl_IsGraph_l0_r; simp only [lt_not, Bool.false_eq_true, if_false]) l.length 0 (by omega) (by omega)
      simp only [Int.natCast_zero] at this
      simp only [this, Nat.sub_zero, graph_allB]
      cases (l.all (edgeB n) && risingE l) <;> rfl
  · cases h
theorem l2Good_lim (d) (r) (h : G_graph d = some r) : ∃ N, F_spec_l2Good N d = some r := by
  obtain ⟨⟨n, l, u⟩, _⟩ := d
  unfold G_graph at h
  split at h
  · rename_i hl
    have hl : l.length ≤ lim := of_decide_eq_true hl
    have hmx := lim_max hl
    have h := Option.some.inj h
    subst h
    refine ⟨l.length + 1, ?_⟩
    unfold F_spec_l2Good
    have := loop_all (L := spec_l2Good_l0 (l.length + 1)) (r := spec_l2Good_l0_r (l.length + 1)) (fun _ _ => rfl) (n := l.length) (mk := fun i => ((n, l, u), (i : Int), ())) (p := fun i => (inB 0 (IntKind.wrap .i64 (n - 1)) (at_ K_Piiq l i).1 && inB 0 (IntKind.wrap .i64 (n - 1)) (at_ K_Piiq l i).2.1 && decide ((at_ K_Piiq l i).1 < (at_ K_Piiq l i).2.1)) && (!decide (0 < i) || lessE (at_ K_Piiq l (i - 1)) (at_ K_Piiq l i))) (o := .inl (false, ())) (f := .inr (.inl ((n, l, u), ())))
        (by
          intro back i hi
          unfold spec_l2Good_l0_r
          simp only [lt_dec hi, if_true, idxIn_nat hi, Int.toNat_natCast, wrap_up hi hmx, pos_dec, l1In_eq, l2Before_eq]
          cases c1 : inB 0 (IntKind.wrap .i64 (n - 1)) (at_ K_Piiq l i).1 with
          | false => rfl
          | true =>
            cases c2 : inB 0 (IntKind.wrap .i64 (n - 1)) (at_ K_Piiq l i).2.1 with
            | false => rfl
            | true =>
              by_cases c3 : (at_ K_Piiq l i).1 < (at_ K_Piiq l i).2.1
              · have c3' : ¬ ((at_ K_Piiq l i).1 ≥ (at_ K_Piiq l i).2.1) := Int.not_le.2 c3
                by_cases h0 : 0 < i
                · have h1 : i - 1 < l.length := by omega
                  simp only [c3, c3', decide_true, decide_false, if_true, if_false, Bool.false_eq_true, Bool.true_and, h0, wrap_down h0 (show i ≤ maxLen by omega), idxIn_nat h1, Int.toNat_natCast, Bool.not_true, Bool.false_or]
                  cases lessE (at_ K_Piiq l (i - 1)) (at_ K_Piiq l i) <;> rfl
                · simp only [c3, c3', decide_true, decide_false, if_true, if_false, Bool.false_eq_true, Bool.true_and, h0, Bool.not_false, Bool.true_or, Bool.not_true]
              · have c3' : ((at_ K_Piiq l i).1 ≥ (at_ K_Piiq l i).2.1) := Int.not_lt.1 c3
                simp only [c3, c3', decide_true, decide_false, if_true, if_false, Bool.false_eq_true, Bool.true_and, Bool.false_and, Bool.not_true])
        (by intro back; unfold spec_l2Good_l0_r; simp only [lt_not, Bool.false_eq_true, if_false]) l.length 0 (by omega) (by omega)
    simp only [Int.natCast_zero] at this
    simp only [this, Nat.sub_zero, graphB]
    cases hn : inB 0 8 n with
    | false =>
      have hn' := hn
      simp only [inB] at hn'
      simp only [hn', Bool.false_and]
      split <;> simp [l1In_eq, hn]
    | true =>
      have hn' := hn
      simp only [inB] at hn'
      simp only [hn', Bool.true_and]
      simp only [Bool.and_eq_true, decide_eq_true_eq] at hn'
      have hw : IntKind.wrap .i64 (n - 1) = n - 1 := wrap_in _ (by omega) (by omega)
      have hp : (fun i => (inB 0 (IntKind.wrap .i64 (n - 1)) (at_ K_Piiq l i).1 && inB 0 (IntKind.wrap .i64 (n - 1)) (at_ K_Piiq l i).2.1 && decide ((at_ K_Piiq l i).1 < (at_ K_Piiq l i).2.1)) && (!decide (0 < i) || lessE (at_ K_Piiq l (i - 1)) (at_ K_Piiq l i))) = (fun i => edgeB n (at_ K_Piiq l i) && (!decide (0 < i) || lessE (at_ K_Piiq l (i - 1)) (at_ K_Piiq l i))) := by
        funext i
        congr 1
        rw [hw]
        exact edge_eq n _ _
      simp only [hp, graph_allB]
      cases (l.all (edgeB n) && risingE l) <;> simp [l1In_eq, hn]
  · cases h
end Go.V.W
set_option linter.unusedVariables false
set_option linter.unusedSimpArgs false
namespace Go.V.W
open Go.Proofs
theorem sz_wrap {a : Int} {n : Nat} (h0 : 0 ≤ a) (h1 : a ≤ 1048576) (hn : n ≤ maxLen) : IntKind.wrap .i64 (a - (n : Int)) = a - (n : Int) := by
  unfold maxLen at hn
  exact Go.IntWalk.i64_in _ (by omega)
theorem szStep_le {a : Int} {n : Nat} (h : ¬ szStep a n < 0) : n ≤ a ∧ szStep a n = a - n := by
  unfold szStep at h ⊢
  split at h
  · omega
  · exact ⟨by omega, by rw [if_neg (by assumption)]⟩
theorem szStep_neg {a : Int} {n : Nat} (h : szStep a n < 0) : szStep a n = -1 := by
  unfold szStep at h ⊢
  split at h
  · rw [if_pos (by assumption)]
  · omega
theorem szA2S_eq (l : List E) (a : Int) (u : Unit) (h0 : 0 ≤ a) (h1 : a ≤ 1048576) (hl : l.length ≤ maxLen) : g_laws_szIntA2S (l, a, u) = (szStep a l.length, ()) := by
  unfold g_laws_szIntA2S szStep
  simp only [sz_wrap h0 h1 hl]
  by_cases h : a - (l.length : Int) < 0 <;> simp only [h, decide_true, decide_false, if_true, if_false, Bool.false_eq_true]
theorem szS_eq (l : List Int) (a : Int) (u : Unit) (h0 : 0 ≤ a) (h1 : a ≤ 1048576) (hl : l.length ≤ maxLen) : g_laws_szIntS (l, a, u) = (szStep a l.length, ()) := by
  unfold g_laws_szIntS szStep
  simp only [sz_wrap h0 h1 hl]
  by_cases h : a - (l.length : Int) < 0 <;> simp only [h, decide_true, decide_false, if_true, if_false, Bool.false_eq_true]
theorem szGraph_eq (n : Int) (l : List E) (v : Unit) (a : Int) (u : Unit) (h0 : 0 ≤ a) (h1 : a ≤ 1048576) (hl : l.length ≤ maxLen) : g_laws_szGraph ((n, l, v), a, u) = (szStep a l.length, ()) := by
  unfold g_laws_szGraph
  simp only [szA2S_eq l a () h0 h1 hl]
  by_cases h : szStep a l.length < 0
  · simp [szStep_neg h]
  · simp only [h, decide_false, if_false, Bool.false_eq_true]
abbrev Wk := Gr × Int × Int × List Int × Int × Unit
theorem okL_of {α : Type} {l : List α} (h : l.length ≤ 1048576) : okL l = true := decide_eq_true (by unfold lim; omega)
theorem toGraph_eq (n : Int) (l : List E) (u : Unit) (v : Unit) (hl : okL l = true) : F_laws_toGraph 0 ((n, l, u), v) = some ((n, l, u), v) := by
  unfold F_laws_toGraph G_toIntA2S
  simp only [hl, if_true, Option.bind_some]
theorem toWorkshop_eq (n : Int) (l : List E) (v : Unit) (p q : Int) (m : List Int) (t : Int) (u w : Unit) (hl : okL l = true) (hm : okL m = true) : F_laws_toWorkshop 0 (((n, l, v), p, q, m, t, u), w) = some (((n, l, v), p, q, m, t, u), w) := by
  unfold F_laws_toWorkshop G_toIntS
  simp only [toGraph_eq n l v _ hl, hm, if_true, Option.bind_some]
theorem eqGraph_self (n : Int) (l : List E) (u v w : Unit) (hl : okL l = true) : F_laws_eqGraph 0 ((n, l, u), (n, l, v), w) = some (true, ()) := by
  unfold F_laws_eqGraph G_eqIntA2S
  simp only [bne_self_eq_false, Bool.false_eq_true, if_false, hl, if_true, decide_true, Option.bind_some, Bool.not_true]
theorem eqWorkshop_self (n : Int) (l : List E) (v : Unit) (p q : Int) (m : List Int) (t : Int) (u w : Unit) (hl : okL l = true) (hm : okL m = true) : F_laws_eqWorkshop 0 (((n, l, v), p, q, m, t, u), ((n, l, v), p, q, m, t, u), w) = some (true, ()) := by
  unfold F_laws_eqWorkshop G_eqIntS
  simp only [eqGraph_self n l v v _ hl, hm, bne_self_eq_false, Bool.false_eq_true, if_false, if_true, decide_true, Option.bind_some, Bool.not_true]
def workB (w : Wk) : Bool := graphB w.1 && inB (-1) (w.1.1 - 1) w.2.1 && inB (-1) (w.1.1 - 1) w.2.2.1 && (w.2.2.2.1.all (inB 0 (w.1.1 - 1)) && risingB w.2.2.2.1) && inB 0 1000 w.2.2.2.2.1
theorem graphB_n {n : Int} {l : List E} {u : Unit} (h : graphB (n, l, u) = true) : 0 ≤ n ∧ n ≤ 8 := by
  unfold graphB at h
  simp only [Bool.and_eq_true, decide_eq_true_eq] at h
  exact ⟨h.1.1.1, h.1.1.2⟩
theorem implW (n : Int) (l : List E) (v : Unit) (p q : Int) (m : List Int) (t : Int) (u w : Unit) (hl : okL l = true) (hm : okL m = true) : F_impl_IsWorkshop 0 (((n, l, v), p, q, m, t, u), w) = some (workB ((n, l, v), p, q, m, t, u), ()) := by
  unfold F_impl_IsWorkshop F_impl_isSet F_impl_hasNodes workB G_allWithin G_increasing G_graph
  simp only [hl, hm, if_true, Option.bind_some, within_eq]
  cases hg : graphB (n, l, v) with
  | false => rfl
  | true =>
    have := graphB_n hg
    have hw : IntKind.wrap .i64 (n - 1) = n - 1 := wrap_in _ (by omega) (by omega)
    simp only [hw, if_true, Bool.true_and, Option.bind_some]
    cases inB (-1) (n - 1) p <;> cases inB (-1) (n - 1) q <;> cases m.all (inB 0 (n - 1)) <;> cases risingB m <;> simp
end Go.V.W
set_option linter.unusedVariables false
set_option linter.unusedSimpArgs false
namespace Go.V.W
theorem tabL_row {n c : Nat} (f : Nat → Nat → Int) (h : c < n) : (tabL n f)[c]? = some ((List.range n).map fun r => f c r) := by
  unfold tabL
  rw [List.getElem?_map, List.getElem?_range h]
  rfl
theorem rowR_get {n r : Nat} (g : Nat → Int) (h : r < n) : ((List.range n).map g)[r]? = some (g r) := by
  rw [List.getElem?_map, List.getElem?_range h]
  rfl
theorem tab2_tabL {n c r : Nat} (f : Nat → Nat → Int) (hc : c < n) (hr : r < n) : tab2 (tabL n f) (c : Int) (r : Int) = f c r := by
  unfold tab2
  simp only [Int.toNat_natCast, List.getD_eq_getElem?_getD, tabL_row f hc, Option.getD_some, rowR_get _ hr]
theorem worst_congr {f g : Int → Int} : ∀ {l : List Int} {m : Int}, (∀ x ∈ l, f x = g x) → worstL f l m = worstL g l m := by
  intro l
  induction l with
  | nil => intro m _; rfl
  | cons b bs ih =>
    intro m h
    simp only [worstL, h b (by simp)]
    rw [ih fun x hx => h x (by simp [hx])]
/-- The greatest of all, or -1. -/
theorem worst_spec (f : Int → Int) : ∀ (l : List Int) (m : Int), (∃ x ∈ l, f x < 0) ∧ worstL f l m = -1 ∨ (∀ x ∈ l, 0 ≤ f x ∧ f x ≤ worstL f l m) ∧ m ≤ worstL f l m ∧ (worstL f l m = m ∨ ∃ x ∈ l, worstL f l m = f x) := by
  intro l
  induction l with
  | nil => intro m; exact .inr ⟨fun x hx => by simp at hx, Int.le_refl _, .inl rfl⟩
  | cons b bs ih =>
    intro m
    simp only [worstL]
    by_cases hb : f b < 0
    · rw [if_pos hb]
      exact .inl ⟨⟨b, by simp, hb⟩, rfl⟩
    · rw [if_neg hb]
      rcases ih (if m < f b then f b else m) with ⟨⟨x, hx, h1⟩, h2⟩ | ⟨h1, h2, h3⟩
      · exact .inl ⟨⟨x, by simp [hx], h1⟩, h2⟩
      · have hge : m ≤ (if m < f b then f b else m) ∧ f b ≤ (if m < f b then f b else m) := by split <;> omega
        refine .inr ⟨fun x hx => ?_, by omega, ?_⟩
        · rcases List.mem_cons.1 hx with rfl | hx
          · omega
          · exact h1 x hx
        · rcases h3 with h3 | ⟨x, hx, h3⟩
          · by_cases hm : m < f b
            · rw [if_pos hm] at h3 ⊢
              exact .inr ⟨b, by simp, h3⟩
            · rw [if_neg hm] at h3 ⊢
              exact .inl h3
          · exact .inr ⟨x, by simp [hx], h3⟩
/-- The balls hold nodes alone. -/
def okBall (n : Nat) (ball : Int → List Int) : Prop := ∀ x : Nat, x < n → ∀ z ∈ ball (x : Int), ∃ y : Nat, y < n ∧ z = (y : Int)
/-- What holds before the round t. -/
structure InvT (n : Nat) (ball : Int → List Int) (t : Nat) (f : Nat → Nat → Int) : Prop where
  pos : 1 ≤ t
  low : ∀ c r, c < n → r < n → -1 ≤ f c r
  high : ∀ c r, c < n → r < n → f c r < (t : Int)
  none : ∀ c r, c < n → r < n → f c r < 0 → ∀ b ∈ ball (c : Int), ¬ (0 ≤ afterT ball (tabL n f) b (r : Int) ∧ afterT ball (tabL n f) b (r : Int) < (t : Int) - 1)
theorem InvT.next {n : Nat} {ball : Int → List Int} (hb : okBall n ball) {t : Nat} {f : Nat → Nat → Int} (hI : InvT n ball t f) : InvT n ball (t + 1) (stepF n ball (t : Int) f) := by
  have hp := hI.pos
  refine ⟨by omega, fun c r hc hr => ?_, fun c r hc hr => ?_, fun c r hc hr hf b hbm => ?_⟩
  · unfold stepF
    split
    · omega
    · exact hI.low c r hc hr
  · unfold stepF
    split
    · omega
    · have := hI.high c r hc hr; omega
  · rintro ⟨h1, h2⟩
    have hst : stepF n ball (t : Int) f c r = f c r ∧ canF n ball f c r = false := by
      unfold stepF at hf ⊢
      by_cases hcan : canF n ball f c r = true
      · rw [if_pos hcan] at hf; omega
      · rw [if_neg hcan]
        exact ⟨rfl, by simpa using hcan⟩
    rw [hst.1] at hf
    have hno : ∀ b ∈ ball (c : Int), ¬ 0 ≤ afterT ball (tabL n f) b (r : Int) := by
      intro b hbm h
      have := hst.2
      unfold canF at this
      simp only [hf, decide_true, Bool.true_and] at this
      have ht : ((ball (c : Int)).any fun b => decide (0 ≤ afterT ball (tabL n f) b (r : Int))) = true := List.any_eq_true.2 ⟨b, hbm, decide_eq_true h⟩
      rw [ht] at this
      cases this
    refine hno b hbm ?_
    unfold afterT at h1 h2 ⊢
    by_cases hbr : b = (r : Int)
    · rw [if_pos hbr]
      exact Int.le_refl _
    · rw [if_neg hbr] at h1 h2 ⊢
      obtain ⟨b', hb1, rfl⟩ := hb c hc b hbm
      rcases worst_spec (tab2 (tabL n (stepF n ball (t : Int) f)) (b' : Int)) (ball (r : Int)) 0 with ⟨_, h⟩ | ⟨hall, _, _⟩
      · omega
      · have e : worstL (tab2 (tabL n f) (b' : Int)) (ball (r : Int)) 0 = worstL (tab2 (tabL n (stepF n ball (t : Int) f)) (b' : Int)) (ball (r : Int)) 0 := by
          refine worst_congr fun x hx => ?_
          obtain ⟨y, hy, rfl⟩ := hb r hr x hx
          have := hall (y : Int) hx
          rw [tab2_tabL _ hb1 hy] at this
          rw [tab2_tabL _ hb1 hy, tab2_tabL _ hb1 hy]
          by_cases hcan : canF n ball f b' y = true
          · have e : stepF n ball (t : Int) f b' y = (t : Int) := if_pos hcan
            rw [e] at this
            omega
          · exact (if_neg hcan).symm
        rw [e]
        exact h1
theorem InvT.start (n : Nat) (ball : Int → List Int) : InvT n ball 1 startF := by
  refine ⟨Nat.le_refl _, fun c r _ _ => ?_, fun c r _ _ => ?_, fun c r _ _ _ b _ h => ?_⟩
  · unfold startF; split <;> omega
  · unfold startF; split <;> omega
  · omega
end Go.V.W
set_option linter.unusedVariables false
set_option linter.unusedSimpArgs false
namespace Go.V.W
/-- What holds of the numbers before each round. -/
structure Inv3 (p n : Nat) (ball : Nat → Int → List Int) (f : Nat → Nat → Nat → Int) : Prop where
  low : ∀ r c q, -1 ≤ f r c q
  home : ∀ r c, f r c c = 0
  away : ∀ r c q, c ≠ q → f r c q ≠ 0
  why : ∀ r c q, r < p → c < n → q < n → 0 ≤ f r c q → c = q ∨ ∃ b ∈ ball r (c : Int), 0 ≤ afterT (ball r) (tabL n (f ((r + 1) % p))) b (q : Int)
theorem Inv3.start (p n : Nat) (ball : Nat → Int → List Int) : Inv3 p n ball start3 := by
  refine ⟨fun r c q => ?_, fun r c => ?_, fun r c q h => ?_, fun r c q _ _ _ h => ?_⟩
  · unfold start3 startF; split <;> omega
  · unfold start3 startF; simp
  · unfold start3 startF; rw [if_neg h]; omega
  · unfold start3 startF at h
    by_cases e : c = q
    · exact .inl e
    · rw [if_neg e] at h; omega
def okBalls (p n : Nat) (ball : Nat → Int → List Int) : Prop := ∀ r, r < p → okBall n (ball r)
/-- Numbers that are there stay. -/
theorem after_mono {n : Nat} {ball : Int → List Int} (hb : okBall n ball) {f g : Nat → Nat → Int} (h : ∀ c q, 0 ≤ f c q → 0 ≤ g c q) {b q : Nat} (hbn : b < n) (hq : q < n) (h0 : 0 ≤ afterT ball (tabL n f) (b : Int) (q : Int)) : 0 ≤ afterT ball (tabL n g) (b : Int) (q : Int) := by
  unfold afterT at h0 ⊢
  by_cases e : (b : Int) = (q : Int)
  · rw [if_pos e]; exact Int.le_refl _
  · rw [if_neg e] at h0 ⊢
    rcases worst_spec (tab2 (tabL n f) (b : Int)) (ball (q : Int)) 0 with ⟨_, h1⟩ | ⟨h1, _, _⟩
    · omega
    · rcases worst_spec (tab2 (tabL n g) (b : Int)) (ball (q : Int)) 0 with ⟨⟨x, hx, h2⟩, _⟩ | ⟨_, h2, _⟩
      · exfalso
        obtain ⟨y, hy, rfl⟩ := hb q hq x hx
        have := (h1 _ hx).1
        rw [tab2_tabL _ hbn hy] at this h2
        have := h _ _ this
        omega
      · exact h2
theorem Inv3.next {p n : Nat} {ball : Nat → Int → List Int} (hb : okBalls p n ball) {t : Int} (ht : 1 ≤ t) {f : Nat → Nat → Nat → Int} (hI : Inv3 p n ball f) : Inv3 p n ball (step3 p n ball t f) := by
  have hkeep : ∀ r c q, 0 ≤ f r c q → step3 p n ball t f r c q = f r c q := fun r c q h => by
    unfold step3 can3
    have : decide (f r c q < 0) = false := by simp; omega
    simp [this]
  have hge : ∀ r c q, 0 ≤ f r c q → 0 ≤ step3 p n ball t f r c q := fun r c q h => by rw [hkeep r c q h]; exact h
  refine ⟨fun r c q => ?_, fun r c => ?_, fun r c q h => ?_, fun r c q hr hc hq h => ?_⟩
  · unfold step3; split
    · omega
    · exact hI.low r c q
  · rw [hkeep r c c (by rw [hI.home]; exact Int.le_refl _)]; exact hI.home r c
  · unfold step3; split
    · omega
    · exact hI.away r c q h
  · have key : (∃ b ∈ ball r (c : Int), 0 ≤ afterT (ball r) (tabL n (f ((r + 1) % p))) b (q : Int)) → ∃ b ∈ ball r (c : Int), 0 ≤ afterT (ball r) (tabL n (step3 p n ball t f ((r + 1) % p))) b (q : Int) := by
      rintro ⟨b, hbm, h1⟩
      obtain ⟨y, hy, rfl⟩ := hb r hr c hc b hbm
      exact ⟨_, hbm, after_mono (hb r hr) (hge _) hy hq h1⟩
    by_cases hf : 0 ≤ f r c q
    · exact (hI.why r c q hr hc hq hf).imp _root_.id key
    · right
      have hcan : can3 p n ball f r c q = true := by
        cases hcan : can3 p n ball f r c q with
        | true => rfl
        | false => unfold step3 at h; rw [if_neg (by rw [hcan]; simp)] at h; exact absurd h hf
      unfold can3 at hcan
      simp only [Bool.and_eq_true, List.any_eq_true, decide_eq_true_eq] at hcan
      exact key hcan.2
end Go.V.W
set_option linter.unusedVariables false
set_option linter.unusedSimpArgs false
namespace Go.V.W
open Go.Proofs
/-- The setting of a round. -/
structure TT (nets : List Nt) (p n : Nat) : Prop where
  ok : netsB n nets = true
  len : nets.length = p
  n8 : n ≤ 8
end Go.V.W
set_option linter.unusedVariables false
set_option linter.unusedSimpArgs false
namespace Go.V.W
open Go.Proofs
theorem digit_sub : ∀ u : Fin 10, ((([48, 49, 50, 51, 52, 53, 54, 55, 56, 57] : List UInt8).drop u.val).take (u.val + 1 - u.val)) = [UInt8.ofNat (48 + u.val)] := by decide
theorem digit_ba (u : Nat) (h : u < 10) : subS (⟨#[48, 49, 50, 51, 52, 53, 54, 55, 56, 57]⟩ : ByteArray) (u : Int) ((u : Int) + 1) = ba [UInt8.ofNat (48 + u)] := by
  have := subS_ba [48, 49, 50, 51, 52, 53, 54, 55, 56, 57] u (u + 1)
  rw [digit_sub ⟨u, h⟩] at this
  exact this
theorem l1Num_nat : ∀ (m u : Nat), u ≤ m → m ≤ 9223372036854775807 → ∃ N, F_spec_l1Num N ((u : Int), ()) = some (ba (Lib.decDigits u), ()) := by
  intro m
  induction m with
  | zero =>
    intro u hu _
    have : u = 0 := by omega
    subst this
    refine ⟨1, ?_⟩
    rw [Lib.decDigits, dif_pos (by omega)]
    rfl
  | succ m ih =>
    intro u hu hm
    by_cases h : u < 10
    · refine ⟨1, ?_⟩
      rw [Lib.decDigits, dif_pos h]
      have e1 : IntKind.wrap .i64 ((u : Int) + 1) = (u : Int) + 1 := wrap_in _ (by omega) (by omega)
      have e2 : (⟨#[48, 49, 50, 51, 52, 53, 54, 55, 56, 57]⟩ : ByteArray).size = 10 := rfl
      have c1 : decide ((u : Int) < 0) = false := decide_eq_false (by omega)
      have c2 : decide ((u : Int) < 10) = true := decide_eq_true (by omega)
      have c3 : (decide ((0 : Int) ≤ u) && decide ((u : Int) ≤ (u : Int) + 1) && decide ((u : Int) + 1 ≤ ((10 : Nat) : Int))) = true := by simp; omega
      unfold F_spec_l1Num
      simp only [e1, e2, c1, c2, c3, Bool.false_eq_true, if_false, if_true, digit_ba u h]
    · obtain ⟨N, hN⟩ := ih (u / 10) (by omega) (by omega)
      refine ⟨N + 1, ?_⟩
      rw [Lib.decDigits, dif_neg h]
      have e0 : (u : Int).tdiv 10 = ((u / 10 : Nat) : Int) := by rw [Int.tdiv_eq_ediv_of_nonneg (by omega)]; omega
      have e1 : (u : Int).tmod 10 = ((u % 10 : Nat) : Int) := by rw [Int.tmod_eq_emod_of_nonneg (by omega)]; omega
      have e2 : IntKind.wrap .i64 ((u / 10 : Nat) : Int) = ((u / 10 : Nat) : Int) := wrap_in _ (by omega) (by omega)
      have e3 : IntKind.wrap .i64 (((u % 10 : Nat) : Int) + 1) = ((u % 10 : Nat) : Int) + 1 := wrap_in _ (by omega) (by omega)
      have e4 : (⟨#[48, 49, 50, 51, 52, 53, 54, 55, 56, 57]⟩ : ByteArray).size = 10 := rfl
      have hlt : u % 10 < 10 := Nat.mod_lt _ (by decide)
      have c1 : decide ((u : Int) < 0) = false := decide_eq_false (by omega)
      have c2 : decide ((u : Int) < 10) = false := decide_eq_false (by omega)
      have c3 : (decide ((0 : Int) ≤ ((u % 10 : Nat) : Int)) && decide (((u % 10 : Nat) : Int) ≤ ((u % 10 : Nat) : Int) + 1) && decide (((u % 10 : Nat) : Int) + 1 ≤ ((10 : Nat) : Int))) = true := by
        generalize u % 10 = x at hlt
        simp; omega
      have h21 := itoa_len (n := ((u / 10 : Nat) : Int)) (by omega) (by omega)
      have h22 : Lib.itoa ((u / 10 : Nat) : Int) = Lib.decDigits (u / 10) := by
        unfold Lib.itoa
        rw [if_neg (by omega)]
        rfl
      rw [h22] at h21
      have c4 : decide ((Lib.decDigits (u / 10)).length + 1 ≤ maxLen) = true := decide_eq_true (by unfold maxLen; omega)
      have c5 : ((10 : Int) != 0) = true := by decide
      unfold F_spec_l1Num
      simp only [e0, e1, e2, e3, e4, c1, c2, c3, c5, hN, Bool.false_eq_true, if_false, if_true, digit_ba _ hlt, Option.bind_some, ba_size, List.length_cons, List.length_nil, Nat.zero_add, c4, ba_append]
theorem itoa_nat (u : Nat) : Lib.itoa (u : Int) = Lib.decDigits u := by
  unfold Lib.itoa
  rw [if_neg (by omega)]
  rfl
theorem l1Num_lim (d) (r) (h : G_l1Num d = some r) : ∃ N, F_spec_l1Num N d = some r := by
  obtain ⟨n, _⟩ := d
  unfold G_l1Num at h
  split at h
  · rename_i hc
    simp only [Bool.and_eq_true, decide_eq_true_eq] at hc
    obtain rfl := Option.some.inj h
    by_cases hn : 0 ≤ n
    · obtain ⟨u, rfl⟩ : ∃ u : Nat, n = u := ⟨n.toNat, by omega⟩
      rw [itoa_nat]
      exact l1Num_nat u u (Nat.le_refl _) (by omega)
    · obtain ⟨u, rfl⟩ : ∃ u : Nat, n = -(u : Int) := ⟨(-n).toNat, by omega⟩
      obtain ⟨N, hN⟩ := l1Num_nat u u (Nat.le_refl _) (by omega)
      refine ⟨N + 1, ?_⟩
      have e1 : IntKind.wrap .i64 (0 - -(u : Int)) = (u : Int) := by rw [show (0 - -(u : Int)) = (u : Int) by omega]; exact wrap_in _ (by omega) (by omega)
      have c1 : decide (-(u : Int) < 0) = true := decide_eq_true (by omega)
      have h21 := itoa_len (n := (u : Int)) (by omega) (by omega)
      rw [itoa_nat] at h21
      have e2 : Lib.itoa (-(u : Int)) = 45 :: Lib.decDigits u := by
        unfold Lib.itoa
        rw [if_pos (by omega)]
        simp
      have e3 : (⟨#[45]⟩ : ByteArray) = ba [45] := rfl
      have c4 : decide (1 + (Lib.decDigits u).length ≤ maxLen) = true := decide_eq_true (by unfold maxLen; omega)
      unfold F_spec_l1Num
      simp only [e1, c1, hN, if_true, Option.bind_some, e3, ba_size, List.length_cons, List.length_nil, Nat.zero_add, c4, ba_append, e2]
      rfl
  · cases h
theorem ck_cons (h : Int) (b : UInt8) (l : List UInt8) : ckL h (b :: l) = ckL ((41 * h + (b.toNat : Int) + 1).tmod 999979) l := rfl
theorem l1Sum_l0 (N : Nat) (s : ByteArray) (hs : s.size ≤ 4194304) : ∀ (n i : Nat) (h : Int), s.size ≤ i + n → i ≤ s.size → 0 ≤ h → h < 999979 → spec_l1Sum_l0 N (n + 1) (s, h, (i : Int), ()) = some (.inl (ckL h ((bl s).drop i), ())) := by
  intro n
  induction n with
  | zero =>
    intro i h h1 h2 _ _
    have : i = s.size := by omega
    subst this
    unfold bl
    rw [drop_size]
    simp [spec_l1Sum_l0, spec_l1Sum_l0_r, ckL]
  | succ n ih =>
    intro i h h1 h2 h3 h4
    by_cases hi : i < s.size
    · have hix : idxIn (i : Int) s.size = true := by simp [idxIn]; omega
      have hw : IntKind.wrap .i64 ((i : Int) + 1) = ((i + 1 : Nat) : Int) := by rw [wrap_small _ (by omega) (by omega)]; rfl
      obtain ⟨b, hb, hd⟩ := bytes_drop s i hi
      have hb8 := b.toNat_lt
      have w1 : IntKind.wrap .i64 (41 * h) = 41 * h := wrap_in _ (by omega) (by omega)
      have w2 : IntKind.wrap .i64 (b.toNat : Int) = (b.toNat : Int) := wrap_in _ (by omega) (by omega)
      have w3 : IntKind.wrap .i64 (41 * h + (b.toNat : Int)) = 41 * h + (b.toNat : Int) := wrap_in _ (by omega) (by omega)
      have w4 : IntKind.wrap .i64 (41 * h + (b.toNat : Int) + 1) = 41 * h + (b.toNat : Int) + 1 := wrap_in _ (by omega) (by omega)
      have hx : 0 ≤ 41 * h + (b.toNat : Int) + 1 := by omega
      have hm0 : 0 ≤ (41 * h + (b.toNat : Int) + 1).tmod 999979 := by rw [Int.tmod_eq_emod_of_nonneg hx]; exact Int.emod_nonneg _ (by decide)
      have hm1 : (41 * h + (b.toNat : Int) + 1).tmod 999979 < 999979 := by rw [Int.tmod_eq_emod_of_nonneg hx]; exact Int.emod_lt_of_pos _ (by decide)
      have ih' := ih (i + 1) _ (by omega) (by omega) hm0 hm1
      unfold bl at ih' ⊢
      rw [hd, ck_cons]
      show spec_l1Sum_l0_r N (spec_l1Sum_l0 N (n + 1)) (s, h, (i : Int), ()) = _
      unfold spec_l1Sum_l0_r
      have hlt : decide ((i : Int) < (s.size : Int)) = true := by simp; omega
      have c5 : ((999979 : Int) != 0) = true := by decide
      simp only [Int.toNat_natCast, hix, if_true, hw, hlt, hb, w1, w2, w3, w4, c5, ih']
    · have : i = s.size := by omega
      subst this
      unfold bl
      rw [drop_size]
      simp [spec_l1Sum_l0, spec_l1Sum_l0_r, ckL]
theorem l1Sum_lim (d) (r) (h : G_sum d = some r) : ∃ N, F_spec_l1Sum N d = some r := by
  obtain ⟨s, _⟩ := d
  unfold G_sum at h
  split at h
  · rename_i hs
    have hs : s.size ≤ 4194304 := of_decide_eq_true hs
    refine ⟨s.size + 1, ?_⟩
    have := l1Sum_l0 (s.size + 1) s hs s.size 0 7 (by omega) (by omega) (by decide) (by decide)
    unfold F_spec_l1Sum
    simp only [Int.natCast_zero, List.drop_zero] at this
    simp only
    rw [this, ← h]
    rfl
  · cases h
theorem checksum_l0 (N : Nat) (s : ByteArray) (hs : s.size ≤ 4194304) : ∀ (n i : Nat) (h : Int), s.size ≤ i + n → i ≤ s.size → 0 ≤ h → h < 999979 → impl_checksum_l0 N (n + 1) (s, h, (i : Int), ()) = some (.inl (ckL h ((bl s).drop i), ())) := by
  intro n
  induction n with
  | zero =>
    intro i h h1 h2 _ _
    have : i = s.size := by omega
    subst this
    unfold bl
    rw [drop_size]
    simp [impl_checksum_l0, impl_checksum_l0_r, ckL]
  | succ n ih =>
    intro i h h1 h2 h3 h4
    by_cases hi : i < s.size
    · have hix : idxIn (i : Int) s.size = true := by simp [idxIn]; omega
      have hw : IntKind.wrap .i64 ((i : Int) + 1) = ((i + 1 : Nat) : Int) := by rw [wrap_small _ (by omega) (by omega)]; rfl
      obtain ⟨b, hb, hd⟩ := bytes_drop s i hi
      have hb8 := b.toNat_lt
      have w1 : IntKind.wrap .i64 (41 * h) = 41 * h := wrap_in _ (by omega) (by omega)
      have w2 : IntKind.wrap .i64 (b.toNat : Int) = (b.toNat : Int) := wrap_in _ (by omega) (by omega)
      have w3 : IntKind.wrap .i64 (41 * h + (b.toNat : Int)) = 41 * h + (b.toNat : Int) := wrap_in _ (by omega) (by omega)
      have w4 : IntKind.wrap .i64 (41 * h + (b.toNat : Int) + 1) = 41 * h + (b.toNat : Int) + 1 := wrap_in _ (by omega) (by omega)
      have hx : 0 ≤ 41 * h + (b.toNat : Int) + 1 := by omega
      have hm0 : 0 ≤ (41 * h + (b.toNat : Int) + 1).tmod 999979 := by rw [Int.tmod_eq_emod_of_nonneg hx]; exact Int.emod_nonneg _ (by decide)
      have hm1 : (41 * h + (b.toNat : Int) + 1).tmod 999979 < 999979 := by rw [Int.tmod_eq_emod_of_nonneg hx]; exact Int.emod_lt_of_pos _ (by decide)
      have ih' := ih (i + 1) _ (by omega) (by omega) hm0 hm1
      unfold bl at ih' ⊢
      rw [hd, ck_cons]
      show impl_checksum_l0_r N (impl_checksum_l0 N (n + 1)) (s, h, (i : Int), ()) = _
      unfold impl_checksum_l0_r
      have hlt : decide ((i : Int) < (s.size : Int)) = true := by simp; omega
      have c5 : ((999979 : Int) != 0) = true := by decide
      simp only [Int.toNat_natCast, hix, if_true, hw, hlt, hb, w1, w2, w3, w4, c5, ih']
    · have : i = s.size := by omega
      subst this
      unfold bl
      rw [drop_size]
      simp [impl_checksum_l0, impl_checksum_l0_r, ckL]
theorem checksum_lim (d) (r) (h : G_sum d = some r) : ∃ N, F_impl_checksum N d = some r := by
  obtain ⟨s, _⟩ := d
  unfold G_sum at h
  split at h
  · rename_i hs
    have hs : s.size ≤ 4194304 := of_decide_eq_true hs
    refine ⟨s.size + 1, ?_⟩
    have := checksum_l0 (s.size + 1) s hs s.size 0 7 (by omega) (by omega) (by decide) (by decide)
    unfold F_impl_checksum
    simp only [Int.natCast_zero, List.drop_zero] at this
    simp only
    rw [this, ← h]
    rfl
  · cases h
def glue (p : List UInt8) : List (List UInt8) → List (List UInt8)
  | [] => [p]
  | x :: r => (p ++ x) :: r
theorem split_ne (c : Int) : ∀ l, splitL c l ≠ [] := by
  intro l
  cases l with
  | nil => simp [splitL]
  | cons b l =>
    rw [splitL]
    split
    · simp
    · split <;> simp
theorem glue_cons {c : Int} {b : UInt8} (h : ¬ (b.toNat : Int) = c) (p l : List UInt8) : glue p (splitL c (b :: l)) = glue (p ++ [b]) (splitL c l) := by
  rw [splitL, if_neg h]
  cases hs : splitL c l with
  | nil => exact absurd hs (split_ne c l)
  | cons x r => simp [glue]
theorem part_up (l : List UInt8) (a i : Nat) (b : UInt8) (ha : a ≤ i) (hd : l.drop i = b :: l.drop (i + 1)) : (l.drop a).take (i + 1 - a) = (l.drop a).take (i - a) ++ [b] := by
  have e : i + 1 - a = (i - a) + 1 := by omega
  rw [e, List.take_add, List.drop_drop, show a + (i - a) = i by omega, hd]
  rfl
theorem l1Split_l0 (N : Nat) (s : ByteArray) (c : Int) (hs : s.size ≤ 4194304) : ∀ (n i a : Nat) (out : List ByteArray), s.size ≤ i + n → i ≤ s.size → a ≤ i → out.length ≤ i →
    ∃ out' a', spec_l1Split_l0 N (n + 1) (s, c, out, (a : Int), (i : Int), ()) = some (.inl (s, out', ((a' : Nat) : Int), ())) ∧ a' ≤ s.size ∧ out'.length ≤ s.size ∧
      out' ++ [ba ((bl s).drop a')] = out ++ (glue (((bl s).drop a).take (i - a)) (splitL c ((bl s).drop i))).map ba := by
  intro n
  have fin : ∀ (m a : Nat) (out : List ByteArray), a ≤ s.size → out.length ≤ s.size → ∃ out' a', spec_l1Split_l0 N (m + 1) (s, c, out, (a : Int), (s.size : Int), ()) = some (.inl (s, out', ((a' : Nat) : Int), ())) ∧ a' ≤ s.size ∧ out'.length ≤ s.size ∧
      out' ++ [ba ((bl s).drop a')] = out ++ (glue (((bl s).drop a).take (s.size - a)) (splitL c ((bl s).drop s.size))).map ba := by
    intro m a out ha ho
    refine ⟨out, a, ?_, ha, ho, ?_⟩
    · simp [spec_l1Split_l0, spec_l1Split_l0_r]
    · unfold bl
      rw [drop_size, List.take_of_length_le (by simp)]
      simp [splitL, glue]
  induction n with
  | zero =>
    intro i a out h1 h2 h3 h4
    have : i = s.size := by omega
    subst this
    exact fin 0 a out h3 h4
  | succ n ih =>
    intro i a out h1 h2 h3 h4
    by_cases hi : i < s.size
    · have hix : idxIn (i : Int) s.size = true := by simp [idxIn]; omega
      have hw : IntKind.wrap .i64 ((i : Int) + 1) = ((i + 1 : Nat) : Int) := by rw [wrap_small _ (by omega) (by omega)]; rfl
      obtain ⟨b, hb, hd⟩ := bytes_drop s i hi
      have hlt : decide ((i : Int) < (s.size : Int)) = true := by simp; omega
      have hr : spec_l1Split_l0 N (n + 1 + 1) (s, c, out, (a : Int), (i : Int), ()) = spec_l1Split_l0_r N (spec_l1Split_l0 N (n + 1)) (s, c, out, (a : Int), (i : Int), ()) := rfl
      by_cases hc : (b.toNat : Int) = c
      · have hc' : ((b.toNat : Int) == c) = true := by simpa using hc
        have c1 : (decide ((0 : Int) ≤ (a : Int)) && decide ((a : Int) ≤ (i : Int)) && decide ((i : Int) ≤ (s.size : Int))) = true := by simp; omega
        have c2 : decide (out.length + 1 ≤ lim) = true := decide_eq_true (by unfold lim; omega)
        obtain ⟨out', a', e1, e2, e3, e4⟩ := ih (i + 1) (i + 1) (out ++ [ba (((bl s).drop a).take (i - a))]) (by omega) (by omega) (Nat.le_refl _) (by simp; omega)
        refine ⟨out', a', ?_, e2, e3, ?_⟩
        · rw [hr]
          unfold spec_l1Split_l0_r
          have e5 : subS s (a : Int) (i : Int) = ba (((bl s).drop a).take (i - a)) := by
            have := subS_ba (bl s) a i
            rw [ba_bl] at this
            exact this
          simp only [Int.toNat_natCast, hix, if_true, hw, hlt, hb, hc', c1, e5, List.length_cons, List.length_nil, Nat.zero_add, c2, e1]
        · rw [e4]
          have hd' : (bl s).drop i = b :: (bl s).drop (i + 1) := hd
          rw [hd', splitL, if_pos hc]
          cases hsp : splitL c ((bl s).drop (i + 1)) with
          | nil => exact absurd hsp (split_ne c _)
          | cons x r => simp [glue]
      · have hc' : ((b.toNat : Int) == c) = false := by simpa using hc
        obtain ⟨out', a', e1, e2, e3, e4⟩ := ih (i + 1) a out (by omega) (by omega) (by omega) (by omega)
        refine ⟨out', a', ?_, e2, e3, ?_⟩
        · rw [hr]
          unfold spec_l1Split_l0_r
          simp only [Int.toNat_natCast, hix, if_true, hw, hlt, hb, hc', Bool.false_eq_true, if_false, e1]
        · have hd' : (bl s).drop i = b :: (bl s).drop (i + 1) := hd
          rw [e4, part_up _ _ _ _ h3 hd', hd', glue_cons hc]
    · have : i = s.size := by omega
      subst this
      exact fin (n + 1) a out h3 h4
theorem l1Split_lim (d) (r) (h : G_l1Split d = some r) : ∃ N, F_spec_l1Split N d = some r := by
  obtain ⟨s, c, _⟩ := d
  unfold G_l1Split at h
  split at h
  · rename_i hs
    have hs : s.size ≤ 4194304 := of_decide_eq_true hs
    refine ⟨s.size + 1, ?_⟩
    obtain ⟨out, a, e1, e2, e3, e4⟩ := l1Split_l0 (s.size + 1) s c hs s.size 0 0 [] (by omega) (by omega) (Nat.le_refl _) (Nat.le_refl _)
    rw [← h]
    unfold F_spec_l1Split
    simp only [Int.natCast_zero] at e1
    have c1 : (decide ((0 : Int) ≤ (a : Int)) && decide ((a : Int) ≤ (s.size : Int)) && decide ((s.size : Int) ≤ (s.size : Int))) = true := by simp; omega
    have c2 : decide (out.length + 1 ≤ lim) = true := decide_eq_true (by unfold lim; omega)
    have e5 : subS s (a : Int) (s.size : Int) = ba ((bl s).drop a) := by
      have := subS_end (bl s) a
      rw [ba_bl] at this
      exact this
    simp only [e1, Option.bind_some, c1, if_true, e5, List.length_cons, List.length_nil, Nat.zero_add, c2, e4, List.nil_append, List.drop_zero, Nat.sub_self, List.take_zero]
    cases hsp : splitL c (bl s) with
    | nil => exact absurd hsp (split_ne c _)
    | cons x r => simp [glue]
  · cases h
end Go.V.W
set_option linter.unusedVariables false
set_option linter.unusedSimpArgs false
namespace Go.V.W
open Go.Proofs
theorem bytes_nil : (⟨#[]⟩ : ByteArray) = ba [] := rfl
theorem bytes_35 : (⟨#[35]⟩ : ByteArray) = ba [35] := rfl
theorem bytes_32 : (⟨#[32]⟩ : ByteArray) = ba [32] := rfl
theorem bytes_64 : (⟨#[64]⟩ : ByteArray) = ba [64] := rfl
theorem bytes_10 : (⟨#[10]⟩ : ByteArray) = ba [10] := rfl
theorem small_ba {l : List UInt8} (h : l.length ≤ 4194304) : smallB (ba l) = true := decide_eq_true (by rw [ba_size]; omega)
theorem med_ba {l : List UInt8} (h : l.length ≤ 4194304) : medB (ba l) = true := decide_eq_true (by rw [ba_size]; exact h)
theorem sum_eq {l : List UInt8} (h : l.length ≤ 4194304) : G_sum (ba l, ()) = some (ckL 7 l, ()) := by
  unfold G_sum
  simp only [med_ba h, if_true, bl_ba]
theorem itoa_eq {n : Int} (h : 0 ≤ n) (h1 : n ≤ 9223372036854775807) : G_itoa (n, ()) = some (ba (Lib.itoa n), ()) := by
  unfold G_itoa
  have : (decide (-9223372036854775808 ≤ n) && decide (n ≤ 9223372036854775807)) = true := by simp; omega
  simp only [this, if_true]
theorem num_eq {n : Int} (h : 0 ≤ n) (h1 : n ≤ 9223372036854775807) : G_l1Num (n, ()) = some (ba (Lib.itoa n), ()) := by
  unfold G_l1Num
  have : (decide (-9223372036854775807 ≤ n) && decide (n ≤ 9223372036854775807)) = true := by simp; omega
  simp only [this, if_true]
theorem cut_eq {l : List UInt8} (c : UInt8) (h : l.length ≤ 4194304) : G_cut (ba l, ba [c], ()) = some (ba (cutA c l), ba (cutB c l), l.contains c, ()) := by
  unfold G_cut
  simp only [small_ba h, if_true, bl_ba, cut_one]
theorem hasB_eq {l : List UInt8} (c : UInt8) (h : l.length ≤ 4194304) : G_contains (ba l, ba [c], ()) = some (l.contains c, ()) := by
  unfold G_contains
  simp only [small_ba h, if_true, bl_ba, contains_one]
theorem parts_eq {l : List UInt8} (c : UInt8) (h : l.length ≤ 4194304) : G_l1Split (ba l, (c.toNat : Int), ()) = some (ba (cutA c l) :: (if c ∈ l then splitL (c.toNat : Int) (cutB c l) else []).map ba, ()) := by
  unfold G_l1Split
  simp only [med_ba h, if_true, bl_ba]
  rw [split_one, List.map_cons]
theorem seal_eq {l : List UInt8} (h : l.length ≤ 4194304) : F_spec_l1Seal 0 (ba l, ()) = some (ba (sealL l), ()) := by
  have hk := ck7 l
  have hl := itoa_len hk.1 (by omega)
  have c1 : decide (l.length + 1 ≤ maxLen) = true := decide_eq_true (by unfold maxLen; omega)
  have c2 : decide (l.length + 1 + (Lib.itoa (ckL 7 l)).length ≤ maxLen) = true := decide_eq_true (by unfold maxLen; omega)
  unfold F_spec_l1Seal
  simp only [bytes_35, ba_size, List.length_cons, List.length_nil, Nat.zero_add, c1, if_true, sum_eq h, Option.bind_some, num_eq hk.1 (by omega : ckL 7 l ≤ 9223372036854775807), ba_append, List.length_append, c2]
  rfl
theorem append_eq {l : List UInt8} (h : l.length ≤ 4194304) : F_impl_AppendChecksum 0 (ba l, ()) = some (ba (if sealOk l = true then sealL l else []), sealOk l, ()) := by
  have hk := ck7 l
  have hl := itoa_len hk.1 (by omega)
  have c1 : decide (l.length + 1 ≤ maxLen) = true := decide_eq_true (by unfold maxLen; omega)
  have c2 : decide (l.length + 1 + (Lib.itoa (ckL 7 l)).length ≤ maxLen) = true := decide_eq_true (by unfold maxLen; omega)
  unfold F_impl_AppendChecksum sealOk
  simp only [bytes_35, bytes_nil, ba_size, hasB_eq 35 h, Option.bind_some, List.length_cons, List.length_nil, Nat.zero_add, c1, if_true, sum_eq h, itoa_eq hk.1 (by omega : ckL 7 l ≤ 9223372036854775807), ba_append, List.length_append, c2]
  by_cases d1 : l.length ≤ 4000
  · have d1' : decide ((l.length : Int) > 4000) = false := decide_eq_false (by omega)
    simp only [d1, d1', decide_true, Bool.true_and, Bool.false_eq_true, if_false]
    cases d2 : l.contains 35
    · simp only [Bool.false_eq_true, if_false, Bool.not_false, Bool.true_and]
      have e : sealL l = l ++ [35] ++ Lib.itoa (ckL 7 l) := rfl
      have e2 : (sealL l).length = l.length + 1 + (Lib.itoa (ckL 7 l)).length := by rw [e]; simp; omega
      rw [← e, e2]
      by_cases d3 : l.length + 1 + (Lib.itoa (ckL 7 l)).length ≤ 4000
      · have d3' : decide (((l.length + 1 + (Lib.itoa (ckL 7 l)).length : Nat) : Int) > 4000) = false := decide_eq_false (by omega)
        simp only [d3', decide_eq_true d3, Bool.false_eq_true, if_false, if_true]
      · have d3' : decide (((l.length + 1 + (Lib.itoa (ckL 7 l)).length : Nat) : Int) > 4000) = true := decide_eq_true (by omega)
        simp only [d3', decide_eq_false d3, Bool.false_eq_true, if_false, if_true]
    · simp only [if_true, Bool.not_true, Bool.false_and, Bool.false_eq_true, if_false]
  · have d1' : decide ((l.length : Int) > 4000) = true := decide_eq_true (by omega)
    simp only [d1, d1', decide_false, Bool.false_and, Bool.false_eq_true, if_false, if_true]
theorem verify_eq {l : List UInt8} (h : l.length ≤ 4194304) : F_impl_VerifyChecksum 0 (ba l, ()) = some (ba (if verL l = true then cutA 35 l else []), verL l, ()) := by
  have h2 : (cutA 35 l).length ≤ 4194304 := Nat.le_trans (cutA_le _ _) h
  unfold F_impl_VerifyChecksum verL
  simp only [bytes_35, bytes_nil, cut_eq 35 h, Option.bind_some, append_eq h2]
  cases d1 : l.contains 35
  · simp only [Bool.not_false, if_true, Bool.false_and, Bool.false_eq_true, if_false]
  · simp only [Bool.not_true, Bool.false_eq_true, if_false, Bool.true_and]
    cases d2 : sealOk (cutA 35 l)
    · simp only [Bool.not_false, if_true, Bool.false_and, Bool.false_eq_true, if_false]
    · simp only [Bool.not_true, Bool.false_eq_true, if_false, if_true, Bool.true_and, seq_ba]
      cases d3 : (sealL (cutA 35 l) == l)
      · simp only [Bool.not_false, if_true, Bool.false_eq_true, if_false]
      · simp only [Bool.not_true, Bool.false_eq_true, if_false, if_true]
theorem line_eq {k : Nat} {c r : List UInt8} (hk : k < 9223372036854775807) (hc : c.length ≤ 1048576) (hr : r.length ≤ 1048576) : F_spec_l12Line 0 ((k : Int), (ba c, ba r, ()), ()) = some (ba (lineL k c r), ()) := by
  have hl := itoa_len (n := (k : Int)) (by omega) (by omega)
  have c1 : decide ((Lib.itoa (k : Int)).length + 1 ≤ maxLen) = true := decide_eq_true (by unfold maxLen; omega)
  have c2 : decide ((Lib.itoa (k : Int)).length + 1 + c.length ≤ maxLen) = true := decide_eq_true (by unfold maxLen; omega)
  have c3 : decide ((Lib.itoa (k : Int)).length + 1 + c.length + 1 ≤ maxLen) = true := decide_eq_true (by unfold maxLen; omega)
  have c4 : decide ((Lib.itoa (k : Int)).length + 1 + c.length + 1 + r.length ≤ maxLen) = true := decide_eq_true (by unfold maxLen; omega)
  have ht : (textL k c r).length ≤ 4194304 := by
    unfold textL
    simp only [List.length_append, List.length_cons, List.length_nil]
    omega
  have c5 : decide ((sealL (textL k c r)).length + 1 ≤ maxLen) = true := decide_eq_true (by have := sealL_len (textL k c r); unfold maxLen; omega)
  have hs := seal_eq ht
  unfold textL at hs c5
  unfold F_spec_l12Line
  simp only [num_eq (n := (k : Int)) (by omega) (by omega), Option.bind_some, bytes_32, bytes_64, bytes_10, ba_size, List.length_cons, List.length_nil, Nat.zero_add, c1, c2, c3, c4, if_true, ba_append, List.length_append, hs, c5]
  rfl
theorem encode_eq {k : Nat} {c r : List UInt8} (hk : k < 9223372036854775807) (hv : validL c r = true) : F_impl_encodeRecord 0 ((k : Int), (ba c, ba r, ()), ()) = some (ba (lineL k c r), ()) := by
  obtain ⟨⟨_, hc, _⟩, hr, _⟩ := validL_split hv
  have hl := itoa_len (n := (k : Int)) (by omega) (by omega)
  have c1 : decide ((Lib.itoa (k : Int)).length + 1 ≤ maxLen) = true := decide_eq_true (by unfold maxLen; omega)
  have c2 : decide ((Lib.itoa (k : Int)).length + 1 + c.length ≤ maxLen) = true := decide_eq_true (by unfold maxLen; omega)
  have c3 : decide ((Lib.itoa (k : Int)).length + 1 + c.length + 1 ≤ maxLen) = true := decide_eq_true (by unfold maxLen; omega)
  have c4 : decide ((Lib.itoa (k : Int)).length + 1 + c.length + 1 + r.length ≤ maxLen) = true := decide_eq_true (by unfold maxLen; omega)
  have ht := textL_len hk hv
  have hs := append_eq (l := textL k c r) (by omega)
  have hok : sealOk (textL k c r) = true := by
    have h1 := sealL_len (textL k c r)
    have h2 : (textL k c r).contains 35 = false := by simpa using textL_not k hv
    unfold sealOk
    rw [h2]
    simp; omega
  rw [hok, if_pos rfl] at hs
  have c5 : decide ((sealL (textL k c r)).length + 1 ≤ maxLen) = true := decide_eq_true (by have := sealL_len (textL k c r); unfold maxLen; omega)
  unfold textL at hs c5
  unfold F_impl_encodeRecord
  simp only [itoa_eq (n := (k : Int)) (by omega) (by omega), Option.bind_some, bytes_32, bytes_64, bytes_10, ba_size, List.length_cons, List.length_nil, Nat.zero_add, c1, c2, c3, c4, if_true, ba_append, List.length_append, hs, c5]
  rfl
theorem specR_eq (a b : ByteArray) (ha : a.size ≤ maxLen) (hb : b.size ≤ maxLen) : F_spec_l12Record 0 ((a, b, ()), ()) = some (specB a b, ()) := by
  have oa : okS a = true := decide_eq_true ha
  have ob : okS b = true := decide_eq_true hb
  unfold F_spec_l12Record specB
  simp only [G_l12Bytes, G_l1Stands, oa, ob, if_true, Option.bind_some]
  cases seq_ a (⟨#[]⟩ : ByteArray) <;> simp only [Bool.not_true, Bool.not_false, Bool.false_eq_true, if_false, if_true, Option.bind_some, Bool.false_and, Bool.true_and]
  cases (a.data.toList.all (fun b => printed1 b && !(b.toNat == 35)) && decide ((a.size : Int) ≤ 160)) <;> simp only [Bool.false_eq_true, if_false, if_true, Option.bind_some, Bool.false_and, Bool.true_and]
  cases (a.data.toList.any (fun b => ((b.toNat : Int) == 64))) <;> simp only [Bool.not_true, Bool.not_false, Bool.false_eq_true, if_false, if_true, Option.bind_some, Bool.false_and, Bool.true_and]
theorem any_contains (c : UInt8) : ∀ l : List UInt8, (l.any fun b => b.toNat == c.toNat) = l.contains c := by
  intro l
  rw [Bool.eq_iff_iff, List.any_eq_true, List.contains_iff_mem]
  constructor
  · rintro ⟨b, hb, h⟩
    have : b = c := UInt8.toNat_inj.1 (by simpa using h)
    exact this ▸ hb
  · exact fun h => ⟨c, h, by simp⟩
theorem implB_eq (c r : List UInt8) : implB (ba c) (ba r) = validL c r := by
  have e1 : (ba c).data.toList = c := bl_ba c
  have e2 : (ba r).data.toList = r := bl_ba r
  have e3 : ∀ l : List UInt8, Lib.containsAny l [35] = l.contains 35 := fun l => by rw [has35]; exact any_contains 35 l
  have e4 : ∀ l : List UInt8, Lib.containsAny l [35, 64] = (l.contains 35 || l.contains 64) := fun l => by
    rw [has3564, ← any_contains 35 l, ← any_contains 64 l]
    congr 1
    congr 1
    funext b
    rw [Bool.eq_iff_iff]
    simp only [beq_iff_eq]
    show (b.toNat : Int) = 64 ↔ b.toNat = 64
    omega
  have d1 : decide (((ba c).size : Int) ≥ 1) = decide (1 ≤ c.length) := by rw [ba_size]; exact decide_eq_decide.2 (by omega)
  have d2 : decide (((ba c).size : Int) ≤ 160) = decide (c.length ≤ 160) := by rw [ba_size]; exact decide_eq_decide.2 (by omega)
  have d3 : decide (((ba r).size : Int) ≤ 200) = decide (r.length ≤ 200) := by rw [ba_size]; exact decide_eq_decide.2 (by omega)
  have p1 : ∀ l : List UInt8, printedB (ba l) = printedL l := fun l => by
    unfold printedB printedL
    have : (ba l).data.toList = l := bl_ba l
    rw [this]
    rfl
  unfold implB validL
  rw [e1, e2, e3, e4, d1, d2, d3, p1, p1]
  generalize decide (1 ≤ c.length) = x1
  generalize decide (c.length ≤ 160) = x2
  generalize decide (r.length ≤ 200) = x3
  generalize printedL c = x4
  generalize printedL r = x5
  generalize c.contains 35 = x6
  generalize c.contains 64 = x7
  generalize r.contains 35 = x8
  cases x1 <;> cases x2 <;> cases x3 <;> cases x4 <;> cases x5 <;> cases x6 <;> cases x7 <;> cases x8 <;> rfl
theorem validI_eq {c r : List UInt8} (hc : c.length ≤ 1048576) (hr : r.length ≤ 1048576) : F_impl_IsValidRecord 0 ((ba c, ba r, ()), ()) = some (validL c r, ()) := by
  rw [impl_eq (ba c) (ba r) (by rw [ba_size]; exact hc) (by rw [ba_size]; exact hr), implB_eq]
theorem validS_eq {c r : List UInt8} (hc : c.length ≤ 4194304) (hr : r.length ≤ 4194304) : F_spec_l12Record 0 ((ba c, ba r, ()), ()) = some (validL c r, ()) := by
  rw [specR_eq (ba c) (ba r) (by rw [ba_size]; unfold maxLen; omega) (by rw [ba_size]; unfold maxLen; omega), same, implB_eq]
end Go.V.W
set_option linter.unusedVariables false
set_option linter.unusedSimpArgs false
namespace Go.V.W
open Go.Proofs
theorem ver_len {l : List UInt8} (h : verL l = true) : (cutA 35 l).length ≤ 4000 := by
  unfold verL sealOk at h
  simp only [Bool.and_eq_true, decide_eq_true_eq] at h
  exact h.1.2.1.1
/-- The reference's reading of a line. -/
theorem decodeS_eq {k : Nat} {l : List UInt8} (hk : k < 1000) (hl : l.length ≤ 4194304) : ∃ e, F_spec_l12Decode 0 (ba l, (k : Int), ()) = some (e, (decodeL k l).isSome, ()) ∧ ∀ x, decodeL k l = some x → e = rcOf x := by
  have hi := itoa_len (n := (k : Int)) (by omega) (by omega)
  have h1 := num_eq (n := (k : Int)) (by omega) (by omega)
  have h2 := parts_eq (l := l) 35 (by omega)
  have ht : (cutA 35 l).length ≤ 4194304 := Nat.le_trans (cutA_le _ _) hl
  have c1 : decide ((Lib.itoa (k : Int)).length + 1 ≤ maxLen) = true := decide_eq_true (by unfold maxLen; omega)
  have ix : ∀ n : Nat, idxIn (0 : Int) (n + 1) = true := fun n => by unfold idxIn; rw [decide_eq_true (by omega), decide_eq_true (by omega)]; rfl
  have ax : ∀ (x : ByteArray) (r : List ByteArray), at_ .str (x :: r) (0 : Int).toNat = x := fun x r => rfl
  have e35 : ((35 : UInt8).toNat : Int) = 35 := rfl
  have e64 : ((64 : UInt8).toNat : Int) = 64 := rfl
  rw [e35] at h2
  generalize hA : Lib.itoa (k : Int) ++ [32] = A at *
  have hAl : A.length ≤ 22 := by rw [← hA]; simp; omega
  have hx2 : ba (Lib.itoa (k : Int)) ++ ba [32] = ba A := by rw [ba_append, hA]
  have hA1 : (Lib.itoa (k : Int)).length + 1 = A.length := by rw [← hA]; simp
  unfold F_spec_l12Decode
  simp only [h1, h2, Option.bind_some, bytes_32, bytes_10, hx2, ix, ax, if_true, ba_size, List.length_cons, List.length_nil, Nat.zero_add, c1]
  -- what decodeL says of the text
  have key : ∀ x, decodeL k l = some x → cutA 35 l = A ++ (x.1 ++ [64] ++ x.2) ∧ validL x.1 x.2 = true ∧ lineL k x.1 x.2 = l ++ [10] := fun x hx => by
    obtain ⟨hv, hln⟩ := decode_of hx
    obtain ⟨_, h4, _⟩ := line_text hv hln
    refine ⟨?_, hv, hln⟩
    rw [h4, ← hA]
    simp [textL]
  by_cases d1 : (cutA 35 l).length < A.length
  · have d1' : decide (((cutA 35 l).length : Int) < (A.length : Int)) = true := decide_eq_true (by omega)
    simp only [d1', if_true]
    cases hd : decodeL k l with
    | some x =>
      have := congrArg List.length (key x hd).1
      simp only [List.length_append] at this
      omega
    | none => exact ⟨_, rfl, fun x hx => by cases hx⟩
  · have d1' : decide (((cutA 35 l).length : Int) < (A.length : Int)) = false := decide_eq_false (by omega)
    have c2 : (decide ((0 : Int) ≤ 0) && decide ((0 : Int) ≤ (A.length : Int)) && decide ((A.length : Int) ≤ ((cutA 35 l).length : Int))) = true := by simp; omega
    have s1 : subS (ba (cutA 35 l)) (0 : Int) (A.length : Int) = ba ((cutA 35 l).take A.length) := by
      have := subS_ba (cutA 35 l) 0 A.length
      simpa using this
    simp only [d1', Bool.false_eq_true, if_false, c2, if_true, s1, seq_ba]
    cases d2 : ((cutA 35 l).take A.length == A)
    · simp only [Bool.not_false, if_true]
      cases hd : decodeL k l with
      | some x =>
        rw [(key x hd).1, List.take_left] at d2
        simp at d2
      | none => exact ⟨_, rfl, fun x hx => by cases hx⟩
    · have d2 : (cutA 35 l).take A.length = A := by simpa using d2
      have c3 : (decide ((0 : Int) ≤ (A.length : Int)) && decide ((A.length : Int) ≤ ((cutA 35 l).length : Int)) && decide (((cutA 35 l).length : Int) ≤ ((cutA 35 l).length : Int))) = true := by simp; omega
      have s2 : subS (ba (cutA 35 l)) (A.length : Int) ((cutA 35 l).length : Int) = ba ((cutA 35 l).drop A.length) := by
        have := subS_end (cutA 35 l) A.length
        rw [ba_size] at this
        exact this
      have hrest : ((cutA 35 l).drop A.length).length ≤ 4194304 := by simp; omega
      generalize hR : (cutA 35 l).drop A.length = R at *
      have hTR : cutA 35 l = A ++ R := by
        have := List.take_append_drop A.length (cutA 35 l)
        rw [d2, hR] at this
        exact this.symm
      have h3 := parts_eq (l := R) 64 (by omega)
      rw [e64] at h3
      simp only [Bool.not_true, Bool.false_eq_true, if_false, c3, if_true, s2, h3, Option.bind_some, List.length_cons, ix, ax, ba_size]
      by_cases d3 : (64 : UInt8) ∈ R
      · have hj := congrArg List.length (cut_join d3)
        simp only [List.length_append, List.length_cons, List.length_nil] at hj
        have d3' : (((cutA 64 R).length : Int) == (R.length : Int)) = false := by simp; omega
        have w1 : IntKind.wrap .i64 (((cutA 64 R).length : Int) + 1) = (((cutA 64 R).length + 1 : Nat) : Int) := by rw [wrap_in _ (by omega) (by omega)]; rfl
        have c4 : (decide ((0 : Int) ≤ (((cutA 64 R).length + 1 : Nat) : Int)) && decide ((((cutA 64 R).length + 1 : Nat) : Int) ≤ (R.length : Int)) && decide ((R.length : Int) ≤ (R.length : Int))) = true := by simp; omega
        have s3 : subS (ba R) (((cutA 64 R).length + 1 : Nat) : Int) (R.length : Int) = ba (cutB 64 R) := by
          have := subS_end R ((cutA 64 R).length + 1)
          rw [ba_size] at this
          rw [this]
          congr 1
          have hj3 := cut_join d3
          generalize cutA 64 R = x at hj3 ⊢
          generalize cutB 64 R = y at hj3 ⊢
          rw [hj3, List.append_assoc, ← List.drop_drop, List.drop_left]
          rfl
        have v1 := validS_eq (c := cutA 64 R) (r := cutB 64 R) (by omega) (by omega)
        simp only [d3', Bool.false_eq_true, if_false, w1, c4, if_true, s3, v1, Option.bind_some]
        cases hv : validL (cutA 64 R) (cutB 64 R)
        · simp only [Bool.false_eq_true, if_false]
          cases hd : decodeL k l with
          | some x =>
            obtain ⟨k1, k2, k3⟩ := key x hd
            have hRx : R = x.1 ++ [64] ++ x.2 := List.append_cancel_left (hTR.symm.trans k1)
            obtain ⟨_, t1, t2⟩ := text_cut (k := k) k2
            rw [hRx, t1, t2, k2] at hv
            cases hv
          | none => exact ⟨_, rfl, fun x hx => by cases hx⟩
        · obtain ⟨⟨_, vc, _⟩, vr, _⟩ := validL_split hv
          have l1 := line_eq (k := k) (c := cutA 64 R) (r := cutB 64 R) (by omega) (by omega) (by omega)
          have c5 : decide (l.length + 1 ≤ maxLen) = true := decide_eq_true (by unfold maxLen; omega)
          simp only [if_true, l1, Option.bind_some, c5, ba_append, seq_ba]
          cases hq : (lineL k (cutA 64 R) (cutB 64 R) == l ++ [10])
          · cases hd : decodeL k l with
            | some x =>
              obtain ⟨k1, k2, k3⟩ := key x hd
              have hRx : R = x.1 ++ [64] ++ x.2 := List.append_cancel_left (hTR.symm.trans k1)
              obtain ⟨_, t1, t2⟩ := text_cut (k := k) k2
              rw [hRx, t1, t2, k3] at hq
              simp at hq
            | none => exact ⟨_, rfl, fun x hx => by cases hx⟩
          · have hq : lineL k (cutA 64 R) (cutB 64 R) = l ++ [10] := by simpa using hq
            rw [decode_hit hv hq]
            exact ⟨_, rfl, fun x hx => by obtain rfl := Option.some.inj hx; rfl⟩
      · have d3' : (((cutA 64 R).length : Int) == (R.length : Int)) = true := by rw [cutA_of_not d3]; simp
        simp only [d3', if_true]
        cases hd : decodeL k l with
        | some x =>
          obtain ⟨k1, k2, k3⟩ := key x hd
          have hRx : R = x.1 ++ [64] ++ x.2 := List.append_cancel_left (hTR.symm.trans k1)
          rw [hRx] at d3
          simp at d3
        | none => exact ⟨_, rfl, fun x hx => by cases hx⟩
end Go.V.W
set_option linter.unusedVariables false
set_option linter.unusedSimpArgs false
namespace Go.V.W
open Go.Proofs
theorem decode_none_ver {k : Nat} (hk : k < 9223372036854775807) {l : List UInt8} (h : verL l = false) : decodeL k l = none := by
  cases hd : decodeL k l with
  | none => rfl
  | some x =>
    obtain ⟨h1, h2⟩ := decode_of hd
    rw [ver_of hk h1 h2] at h
    cases h
theorem decode_unf (k : Nat) (l : List UInt8) : decodeL k l = if (validL (cutA 64 (cutB 32 (cutA 35 l))) (cutB 64 (cutB 32 (cutA 35 l))) && (lineL k (cutA 64 (cutB 32 (cutA 35 l))) (cutB 64 (cutB 32 (cutA 35 l))) == l ++ [10])) = true then some (cutA 64 (cutB 32 (cutA 35 l)), cutB 64 (cutB 32 (cutA 35 l))) else none := rfl
theorem open_no {n k : Nat} {l : List UInt8} (h : l.contains 10 = false) : openL n k l = ([], 0) := by
  cases n with
  | zero => rfl
  | succ n => unfold openL; rw [h]; rfl
theorem open_none {n k : Nat} {l : List UInt8} (h : decodeL k (cutA 10 l) = none) : openL n k l = ([], 0) := by
  cases n with
  | zero => rfl
  | succ n => unfold openL; rw [h]; split <;> rfl
theorem rdRec_some {n k : Nat} {l : List UInt8} {e : List UInt8 × List UInt8} (h1 : l.contains 10 = true) (h : decodeL k (cutA 10 l) = some e) : openL (n + 1) k l = (e :: (openL n (k + 1) (cutB 10 l)).1, (cutA 10 l).length + 1 + (openL n (k + 1) (cutB 10 l)).2) := by
  conv => lhs; unfold openL
  rw [h1, if_pos rfl, h]
theorem drop_cut {c : UInt8} {l : List UInt8} (h : c ∈ l) : l.drop ((cutA c l).length + 1) = cutB c l := by
  have hj := cut_join h
  generalize cutA c l = x at hj ⊢
  generalize cutB c l = y at hj ⊢
  rw [hj, List.append_assoc, ← List.drop_drop, List.drop_left]
  rfl
theorem sub_drop (l : List UInt8) (a : Nat) : subS (ba l) (a : Int) (l.length : Int) = ba (l.drop a) := by
  have := subS_end l a
  rw [ba_size] at this
  exact this
theorem read_l0 (N : Nat) (l : List UInt8) (hl : l.length ≤ 4194304) : ∀ (n a : Nat) (recs : List Rc), recs.length + n = 60 → a ≤ l.length →
    impl_readRecords_l0 N (n + 1) (ba l, recs, (a : Int), ()) = some (.inl (recs ++ (openL n recs.length (l.drop a)).1.map rcOf, ((a + (openL n recs.length (l.drop a)).2 : Nat) : Int), ())) := by
  intro n
  induction n with
  | zero =>
    intro a recs h1 h2
    have : decide ((recs.length : Int) < 60) = false := decide_eq_false (by omega)
    show impl_readRecords_l0_r N (impl_readRecords_l0 N 0) (ba l, recs, (a : Int), ()) = _
    unfold impl_readRecords_l0_r
    simp only [this, Bool.false_eq_true, if_false, openL, List.map_nil, List.append_nil, Nat.add_zero]
  | succ n ih =>
    intro a recs h1 h2
    have c0 : decide ((recs.length : Int) < 60) = true := decide_eq_true (by omega)
    have c1 : (decide ((0 : Int) ≤ (a : Int)) && decide ((a : Int) ≤ (l.length : Int)) && decide ((l.length : Int) ≤ (l.length : Int))) = true := by simp; omega
    have hX : (l.drop a).length ≤ 4194304 := by simp; omega
    have hXa : (l.drop a).length = l.length - a := by simp
    generalize hXe : l.drop a = X at *
    have hL : (cutA 10 X).length ≤ 4194304 := Nat.le_trans (cutA_le _ _) hX
    have hs : subS (ba l) (a : Int) (l.length : Int) = ba X := by rw [sub_drop, hXe]
    show impl_readRecords_l0_r N (impl_readRecords_l0 N (n + 1)) (ba l, recs, (a : Int), ()) = _
    unfold impl_readRecords_l0_r
    simp only [c0, if_true, ba_size, c1, hs, bytes_10, bytes_32, bytes_64, cut_eq 10 hX, Option.bind_some, verify_eq hL]
    cases d1 : X.contains 10
    · simp only [Bool.not_false, if_true, open_no d1, List.map_nil, List.append_nil, Nat.add_zero]
    · simp only [Bool.not_true, Bool.false_eq_true, if_false]
      cases d2 : verL (cutA 10 X)
      · simp only [Bool.not_false, if_true, open_none (decode_none_ver (by omega : recs.length < 9223372036854775807) d2), List.map_nil, List.append_nil, Nat.add_zero]
      · have hT := ver_len d2
        have hU : (cutB 32 (cutA 35 (cutA 10 X))).length ≤ 4000 := Nat.le_trans (cutB_le _ _) hT
        have hC : (cutA 64 (cutB 32 (cutA 35 (cutA 10 X)))).length ≤ 4000 := Nat.le_trans (cutA_le _ _) hU
        have hR : (cutB 64 (cutB 32 (cutA 35 (cutA 10 X)))).length ≤ 4000 := Nat.le_trans (cutB_le _ _) hU
        have hdec := decode_unf recs.length (cutA 10 X)
        simp only [Bool.not_true, Bool.false_eq_true, if_false, if_true, cut_eq 32 (by omega : (cutA 35 (cutA 10 X)).length ≤ 4194304), Option.bind_some, cut_eq 64 (by omega : (cutB 32 (cutA 35 (cutA 10 X))).length ≤ 4194304),
          validI_eq (by omega : (cutA 64 (cutB 32 (cutA 35 (cutA 10 X)))).length ≤ 1048576) (by omega : (cutB 64 (cutB 32 (cutA 35 (cutA 10 X)))).length ≤ 1048576)]
        generalize cutA 64 (cutB 32 (cutA 35 (cutA 10 X))) = C at hdec ⊢
        generalize cutB 64 (cutB 32 (cutA 35 (cutA 10 X))) = R at hdec ⊢
        cases d3 : validL C R
        · rw [d3] at hdec
          simp only [Bool.false_and, Bool.false_eq_true, if_false] at hdec
          simp only [Bool.not_false, if_true, open_none hdec, List.map_nil, List.append_nil, Nat.add_zero]
        · have c2 : decide ((cutA 10 X).length + 1 ≤ maxLen) = true := decide_eq_true (by unfold maxLen; omega)
          simp only [Bool.not_true, Bool.false_eq_true, if_false, encode_eq (by omega : recs.length < 9223372036854775807) d3, Option.bind_some, List.length_cons, List.length_nil, Nat.zero_add, c2, if_true, ba_append, seq_ba]
          cases d4 : (lineL recs.length C R == cutA 10 X ++ [10])
          · rw [d3, d4] at hdec
            simp only [Bool.and_false, Bool.false_eq_true, if_false] at hdec
            simp only [Bool.not_false, if_true, open_none hdec, List.map_nil, List.append_nil, Nat.add_zero]
          · rw [d3, d4] at hdec
            simp only [Bool.and_self, if_true] at hdec
            have hm : (10 : UInt8) ∈ X := List.contains_iff_mem.1 d1
            have hj := congrArg List.length (cut_join hm)
            simp only [List.length_append, List.length_cons, List.length_nil] at hj
            have c3 : decide (recs.length + 1 ≤ lim) = true := decide_eq_true (by unfold lim; omega)
            have w1 : IntKind.wrap .i64 (((cutA 10 X).length : Int) + 1) = ((cutA 10 X).length : Int) + 1 := wrap_in _ (by omega) (by omega)
            have w2 : IntKind.wrap .i64 ((a : Int) + (((cutA 10 X).length : Int) + 1)) = ((a + ((cutA 10 X).length + 1) : Nat) : Int) := by rw [wrap_in _ (by omega) (by omega)]; omega
            have ih' := ih (a + ((cutA 10 X).length + 1)) (recs ++ [(ba C, ba R, ())]) (by simp; omega) (by omega)
            have e1 : l.drop (a + ((cutA 10 X).length + 1)) = cutB 10 X := by rw [← List.drop_drop, hXe, drop_cut hm]
            rw [e1] at ih'
            simp only [List.length_append, List.length_cons, List.length_nil, Nat.zero_add] at ih'
            simp only [Bool.not_true, Bool.false_eq_true, if_false, c3, if_true, w1, w2, ih', rdRec_some d1 hdec, List.map_cons, List.append_assoc, List.cons_append, List.nil_append]
            have e2 : a + ((cutA 10 X).length + 1) + (openL n (recs.length + 1) (cutB 10 X)).2 = a + ((cutA 10 X).length + 1 + (openL n (recs.length + 1) (cutB 10 X)).2) := by omega
            rw [e2]
            rfl
theorem open_l0 (N : Nat) (l : List UInt8) (hl : l.length ≤ 4194304) : ∀ (n a : Nat) (recs : List Rc), recs.length + n = 60 → a ≤ l.length →
    spec_l12Open_l0 N (n + 1) (ba l, recs, (a : Int), ()) = some (.inl (recs ++ (openL n recs.length (l.drop a)).1.map rcOf, ((a + (openL n recs.length (l.drop a)).2 : Nat) : Int), ())) := by
  intro n
  have fin : ∀ (m n : Nat) (recs : List Rc), spec_l12Open_l0 N (m + 1) (ba l, recs, (l.length : Int), ()) = some (.inl (recs ++ (openL n recs.length (l.drop l.length)).1.map rcOf, ((l.length + (openL n recs.length (l.drop l.length)).2 : Nat) : Int), ())) := by
    intro m n recs
    show spec_l12Open_l0_r N (spec_l12Open_l0 N m) (ba l, recs, (l.length : Int), ()) = _
    have c0 : decide ((l.length : Int) < (l.length : Int)) = false := decide_eq_false (by omega)
    have e : l.drop l.length = [] := List.drop_of_length_le (Nat.le_refl _)
    unfold spec_l12Open_l0_r
    simp only [ba_size, c0, Bool.false_eq_true, if_false, e, open_no (n := n) (k := recs.length) (l := []) rfl, List.map_nil, List.append_nil, Nat.add_zero]
  induction n with
  | zero =>
    intro a recs h1 h2
    by_cases ha : a = l.length
    · subst ha; exact fin 0 0 recs
    · have c0 : decide ((a : Int) < (l.length : Int)) = true := decide_eq_true (by omega)
      have : decide ((recs.length : Int) < 60) = false := decide_eq_false (by omega)
      show spec_l12Open_l0_r N (spec_l12Open_l0 N 0) (ba l, recs, (a : Int), ()) = _
      unfold spec_l12Open_l0_r
      simp only [ba_size, c0, if_true, this, Bool.false_eq_true, if_false, openL, List.map_nil, List.append_nil, Nat.add_zero]
  | succ n ih =>
    intro a recs h1 h2
    by_cases ha : a = l.length
    · subst ha; exact fin (n + 1) (n + 1) recs
    · have c0 : decide ((recs.length : Int) < 60) = true := decide_eq_true (by omega)
      have c0' : decide ((a : Int) < (l.length : Int)) = true := decide_eq_true (by omega)
      have c1 : (decide ((0 : Int) ≤ (a : Int)) && decide ((a : Int) ≤ (l.length : Int)) && decide ((l.length : Int) ≤ (l.length : Int))) = true := by simp; omega
      have hX : (l.drop a).length ≤ 4194304 := by simp; omega
      have hXa : (l.drop a).length = l.length - a := by simp
      generalize hXe : l.drop a = X at *
      have hL : (cutA 10 X).length ≤ 4194304 := Nat.le_trans (cutA_le _ _) hX
      have hs : subS (ba l) (a : Int) (l.length : Int) = ba X := by rw [sub_drop, hXe]
      have e10 : ((10 : UInt8).toNat : Int) = 10 := rfl
      have hp := parts_eq 10 hX
      rw [e10] at hp
      have ix : ∀ n : Nat, idxIn (0 : Int) (n + 1) = true := fun n => by unfold idxIn; rw [decide_eq_true (by omega), decide_eq_true (by omega)]; rfl
      have ax : ∀ (x : ByteArray) (r : List ByteArray), at_ .str (x :: r) (0 : Int).toNat = x := fun x r => rfl
      obtain ⟨e, he, hrc⟩ := decodeS_eq (k := recs.length) (l := cutA 10 X) (by omega) hL
      show spec_l12Open_l0_r N (spec_l12Open_l0 N (n + 1)) (ba l, recs, (a : Int), ()) = _
      unfold spec_l12Open_l0_r
      simp only [c0, c0', if_true, ba_size, c1, hs, hp, Option.bind_some, List.length_cons, ix, ax, he]
      by_cases d1 : (10 : UInt8) ∈ X
      · have d1' : X.contains 10 = true := List.contains_iff_mem.2 d1
        have hne : 1 ≤ (splitL 10 (cutB 10 X)).length := by
          cases hsp : splitL 10 (cutB 10 X) with
          | nil => exact absurd hsp (split_ne _ _)
          | cons x r => simp
        have d1'' : decide ((((List.map ba (splitL 10 (cutB 10 X))).length + 1 : Nat) : Int) < 2) = false := decide_eq_false (by simp; omega)
        simp only [d1, if_true, d1'', Bool.false_eq_true, if_false]
        cases hd : decodeL recs.length (cutA 10 X) with
        | none => simp only [Option.isSome_none, Bool.not_false, if_true, open_none hd, List.map_nil, List.append_nil, Nat.add_zero]
        | some x =>
          obtain rfl := hrc x hd
          have hj := congrArg List.length (cut_join d1)
          simp only [List.length_append, List.length_cons, List.length_nil] at hj
          have c3 : decide (recs.length + 1 ≤ lim) = true := decide_eq_true (by unfold lim; omega)
          have w1 : IntKind.wrap .i64 ((a : Int) + ((cutA 10 X).length : Int)) = (a : Int) + ((cutA 10 X).length : Int) := wrap_in _ (by omega) (by omega)
          have w2 : IntKind.wrap .i64 ((a : Int) + ((cutA 10 X).length : Int) + 1) = ((a + ((cutA 10 X).length + 1) : Nat) : Int) := by rw [wrap_in _ (by omega) (by omega)]; omega
          have ih' := ih (a + ((cutA 10 X).length + 1)) (recs ++ [rcOf x]) (by simp; omega) (by omega)
          have e1 : l.drop (a + ((cutA 10 X).length + 1)) = cutB 10 X := by rw [← List.drop_drop, hXe, drop_cut d1]
          rw [e1] at ih'
          simp only [List.length_append, List.length_cons, List.length_nil, Nat.zero_add] at ih'
          simp only [Option.isSome_some, Bool.not_true, Bool.false_eq_true, if_false, List.length_nil, Nat.zero_add, c3, if_true, w1, w2, ih', rdRec_some d1' hd, List.map_cons, List.append_assoc, List.cons_append, List.nil_append]
          have e2 : a + ((cutA 10 X).length + 1) + (openL n (recs.length + 1) (cutB 10 X)).2 = a + ((cutA 10 X).length + 1 + (openL n (recs.length + 1) (cutB 10 X)).2) := by omega
          rw [e2]
      · have d1' : X.contains 10 = false := by simpa using d1
        have d1'' : decide ((((List.map ba ([] : List (List UInt8))).length + 1 : Nat) : Int) < 2) = true := rfl
        simp only [d1, if_false, d1'', if_true, open_no d1', List.map_nil, List.append_nil, Nat.add_zero]
        rfl
theorem readRecords_lim (d) (r) (h : G_open d = some r) : ∃ N, F_impl_readRecords N d = some r := by
  obtain ⟨s, _⟩ := d
  unfold G_open at h
  split at h
  · rename_i hs
    have hs : s.size ≤ 4194304 := of_decide_eq_true hs
    refine ⟨61, ?_⟩
    have := read_l0 61 (bl s) (by rw [bl_length]; exact hs) 60 0 [] rfl (Nat.zero_le _)
    rw [ba_bl] at this
    unfold F_impl_readRecords
    simp only [Int.natCast_zero, List.drop_zero, List.length_nil, List.nil_append, Nat.zero_add] at this
    simp only
    rw [this, ← h]
    rfl
  · cases h
theorem l12Open_lim (d) (r) (h : G_open d = some r) : ∃ N, F_spec_l12Open N d = some r := by
  obtain ⟨s, _⟩ := d
  unfold G_open at h
  split at h
  · rename_i hs
    have hs : s.size ≤ 4194304 := of_decide_eq_true hs
    refine ⟨61, ?_⟩
    have := open_l0 61 (bl s) (by rw [bl_length]; exact hs) 60 0 [] rfl (Nat.zero_le _)
    rw [ba_bl] at this
    unfold F_spec_l12Open
    simp only [Int.natCast_zero, List.drop_zero, List.length_nil, List.nil_append, Nat.zero_add] at this
    simp only
    rw [this, ← h]
    rfl
  · cases h
end Go.V.W
set_option linter.unusedVariables false
set_option linter.unusedSimpArgs false
namespace Go.V.W
open Go.Proofs
abbrev Lg := ByteArray × ByteArray × Int × Unit
theorem g_open_eq {l : List UInt8} (h : l.length ≤ 4194304) : G_open (ba l, ()) = some ((openL 60 0 l).1.map rcOf, ((openL 60 0 l).2 : Int), ()) := by
  unfold G_open
  simp only [med_ba h, if_true, bl_ba]
theorem eqLog_self (x : Lg) : g_laws_eqLog (x, x, ()) = (true, ()) := by
  unfold g_laws_eqLog
  simp only [seq_self, Bool.not_true, Bool.false_eq_true, if_false, bne_self_eq_false]
def logB (d p : List UInt8) (c : Int) : Bool := decide (d.length + p.length ≤ 30000) && ((openL 60 0 (d ++ p)).2 == d.length + p.length) && ((openL 60 0 d).2 == d.length) && (((openL 60 0 (d ++ p)).1.length : Int) == c)
theorem int_beq (a b : Nat) : ((a : Int) == (b : Int)) = (a == b) := by
  rw [Bool.eq_iff_iff]
  simp only [beq_iff_eq]
  omega
theorem specV_eq {d p : List UInt8} (c : Int) (h : d.length + p.length ≤ 1048576) : F_spec_l12Valid 0 ((ba d, ba p, c, ()), ()) = some (logB d p c, ()) := by
  have w1 : IntKind.wrap .i64 ((d.length : Int) + (p.length : Int)) = ((d.length + p.length : Nat) : Int) := by rw [wrap_in _ (by omega) (by omega)]; rfl
  have c1 : decide (d.length + p.length ≤ maxLen) = true := decide_eq_true (by unfold maxLen; omega)
  unfold F_spec_l12Valid logB
  simp only [ba_size, w1, c1, if_true, ba_append, g_open_eq (by simp; omega : (d ++ p).length ≤ 4194304), g_open_eq (by omega : d.length ≤ 4194304), Option.bind_some, int_beq, List.length_map]
  by_cases h1 : d.length + p.length ≤ 30000
  · have c2 : decide (((d.length + p.length : Nat) : Int) > 30000) = false := decide_eq_false (by omega)
    simp only [c2, Bool.false_eq_true, if_false, decide_eq_true h1, Bool.true_and]
    cases (openL 60 0 (d ++ p)).2 == d.length + p.length <;> cases (openL 60 0 d).2 == d.length <;> simp
  · have c2 : decide (((d.length + p.length : Nat) : Int) > 30000) = true := decide_eq_true (by omega)
    simp only [c2, if_true, decide_eq_false h1, Bool.false_and]
theorem implV_eq {d p : List UInt8} (c : Int) (h : d.length + p.length ≤ 1048576) : F_impl_IsValidLog 0 ((ba d, ba p, c, ()), ()) = some (logB d p c, ()) := by
  have w1 : IntKind.wrap .i64 ((d.length : Int) + (p.length : Int)) = ((d.length + p.length : Nat) : Int) := by rw [wrap_in _ (by omega) (by omega)]; rfl
  have c1 : decide (d.length + p.length ≤ maxLen) = true := decide_eq_true (by unfold maxLen; omega)
  have e1 : (c != ((openL 60 0 (d ++ p)).1.length : Int)) = !(((openL 60 0 (d ++ p)).1.length : Int) == c) := by
    rw [Bool.eq_iff_iff]
    simp only [bne_iff_ne, ne_eq, Bool.not_eq_true', beq_eq_false_iff_ne]
    exact ⟨fun h e => h e.symm, fun h e => h e.symm⟩
  have e2 : ∀ a b : Nat, ((a : Int) != (b : Int)) = !(a == b) := fun a b => by unfold bne; rw [int_beq]
  unfold F_impl_IsValidLog logB
  simp only [ba_size, w1, c1, if_true, ba_append, g_open_eq (by simp; omega : (d ++ p).length ≤ 4194304), g_open_eq (by omega : d.length ≤ 4194304), Option.bind_some, e2, int_beq, List.length_map, e1]
  by_cases h1 : d.length + p.length ≤ 30000
  · have c2 : decide (((d.length + p.length : Nat) : Int) > 30000) = false := decide_eq_false (by omega)
    simp only [c2, Bool.false_eq_true, if_false, decide_eq_true h1, Bool.true_and]
    cases (openL 60 0 (d ++ p)).2 == d.length + p.length <;> cases (openL 60 0 d).2 == d.length <;> cases (((openL 60 0 (d ++ p)).1.length : Int) == c) <;> simp
  · have c2 : decide (((d.length + p.length : Nat) : Int) > 30000) = true := decide_eq_true (by omega)
    simp only [c2, if_true, decide_eq_false h1, Bool.false_and]
end Go.V.W
set_option linter.unusedVariables false
set_option linter.unusedSimpArgs false
namespace Go.V.W
open Go.Proofs
theorem szWs (n : Int) (l : List E) (v : Unit) (p q : Int) (m : List Int) (t : Int) (u : Unit) (hl : l.length ≤ maxLen) (hm : m.length ≤ maxLen) : (g_laws_szWorkshop (((n, l, v), p, q, m, t, u), (1048576 : Int), ())).1 < 0 ∨ (l.length ≤ 1048576 ∧ m.length ≤ 1048576 ∧ 0 ≤ (g_laws_szWorkshop (((n, l, v), p, q, m, t, u), (1048576 : Int), ())).1 ∧ (g_laws_szWorkshop (((n, l, v), p, q, m, t, u), (1048576 : Int), ())).1 ≤ 1048576) := by
  unfold g_laws_szWorkshop
  simp only [szGraph_eq n l v 1048576 () (by omega) (by omega) hl]
  by_cases h : szStep 1048576 l.length < 0
  · left; simp only [h, decide_true, if_true]; decide
  · have := szStep_le h
    simp only [h, decide_false, if_false, Bool.false_eq_true, szS_eq m (szStep 1048576 l.length) () (by omega) (by omega) hm]
    by_cases h' : szStep (szStep 1048576 l.length) m.length < 0
    · left; simp only [h', decide_true, if_true]; decide
    · have := szStep_le h'
      right
      simp only [h', decide_false, if_false, Bool.false_eq_true]
      omega
theorem szLgA (L : Int) (a b : ByteArray) (c : Int) (hL0 : 0 ≤ L) (hL : L ≤ 1048576) (ha : a.size ≤ maxLen) (hb : b.size ≤ maxLen) : (g_laws_szLog ((a, b, c, ()), L, ())).1 < 0 ∨ a.size + b.size ≤ 1048576 := by
  unfold maxLen at ha hb
  unfold g_laws_szLog
  have w1 : IntKind.wrap .i64 (L - (a.size : Int)) = L - (a.size : Int) := wrap_in _ (by omega) (by omega)
  simp only [w1]
  by_cases c1 : L - (a.size : Int) < 0
  · left; simp [c1]
  · have w2 : IntKind.wrap .i64 (L - (a.size : Int) - (b.size : Int)) = L - (a.size : Int) - (b.size : Int) := wrap_in _ (by omega) (by omega)
    simp only [w2, c1, decide_false, Bool.false_eq_true, if_false]
    by_cases c2 : L - (a.size : Int) - (b.size : Int) < 0
    · left; simp [c2]
    · right; omega
theorem szConsole_neg (n : Int) (l : List E) (v : Unit) (p q : Int) (m : List Int) (t : Int) (u : Unit) (a b : ByteArray) (c : Int) (x : Unit) (hl : l.length ≤ maxLen) (hm : m.length ≤ maxLen) (ha : a.size ≤ maxLen) (hb : b.size ≤ maxLen) :
    (g_laws_szConsole ((((n, l, v), p, q, m, t, u), (a, b, c, ()), x), (1048576 : Int), ())).1 < 0 ∨ (l.length ≤ 1048576 ∧ m.length ≤ 1048576 ∧ a.size + b.size ≤ 1048576) := by
  unfold g_laws_szConsole
  simp only
  rcases szWs n l v p q m t u hl hm with h | ⟨h1, h2, h3, h4⟩
  · left; simp only [h, decide_true, if_true]; decide
  · simp only [Int.not_lt.2 h3, decide_false, Bool.false_eq_true, if_false]
    rcases szLgA _ a b c h3 h4 ha hb with h | h
    · left; simp only [h, decide_true, if_true]; decide
    · exact .inr ⟨h1, h2, h⟩
theorem specGood (n : Int) (l : List E) (v : Unit) (p q : Int) (m : List Int) (t : Int) (u w : Unit) (hl : okL l = true) (hm : okL m = true) : F_spec_l12Good 0 (((n, l, v), p, q, m, t, u), w) = some (workB ((n, l, v), p, q, m, t, u), ()) := by
  unfold F_spec_l12Good workB F_spec_l2Set G_l1Rising G_graph g_spec_l12Spot
  simp only [hl, hm, if_true, Option.bind_some, l1In_eq]
  cases hg : graphB (n, l, v) with
  | false => rfl
  | true =>
    have := graphB_n hg
    have hw : IntKind.wrap .i64 (n - 1) = n - 1 := wrap_in _ (by omega) (by omega)
    simp only [hw, if_true, Bool.true_and]
    cases inB (-1) (n - 1) p <;> cases inB (-1) (n - 1) q <;> cases (m.all (inB 0 (n - 1)) && risingB m) <;> simp
theorem law29 : ∀ d, WfD (Kd.tuple ([(K_PPPiSPiiqqiiSiiqPssiqq, false)].map (·.1))) d → ∃ out, F_laws_FnExactIsValidConsole 0 d = some out ∧ (splitT [.bool] [] out).1.1 = true := by
  rintro ⟨⟨⟨⟨n, l, v⟩, p, q, m, t, u⟩, ⟨a, b, c, _⟩, x⟩, w⟩ ⟨⟨⟨⟨_, hl, _⟩, _, _, hm, _⟩, ⟨ha, hb, _⟩, _⟩, _⟩
  have hl : l.length ≤ maxLen := hl.1
  have hm : m.length ≤ maxLen := hm.1
  have ha : a.size ≤ maxLen := ha
  have hb : b.size ≤ maxLen := hb
  refine ⟨(true, ()), ?_, rfl⟩
  unfold F_laws_FnExactIsValidConsole
  rcases szConsole_neg n l v p q m t u a b c x hl hm ha hb with h | ⟨h1, h2, h3⟩
  · simp only [h, decide_true, if_true]
  · obtain ⟨d, rfl⟩ : ∃ d, a = ba d := ⟨bl a, (ba_bl a).symm⟩
    obtain ⟨e, rfl⟩ : ∃ p, b = ba p := ⟨bl b, (ba_bl b).symm⟩
    rw [ba_size, ba_size] at h3
    have h1 := okL_of h1
    have h2 := okL_of h2
    have t1 : F_laws_toConsole 0 ((((n, l, v), p, q, m, t, u), (ba d, ba e, c, ()), x), ()) = some ((((n, l, v), p, q, m, t, u), (ba d, ba e, c, ()), ()), ()) := by
      unfold F_laws_toConsole
      simp only [toWorkshop_eq n l v p q m t u () h1 h2, Option.bind_some]
      rfl
    have t2 : ∀ y : Unit, F_spec_IsValidConsole 0 ((((n, l, v), p, q, m, t, u), (ba d, ba e, c, ()), y), ()) = some (workB ((n, l, v), p, q, m, t, u) && logB d e c, ()) := by
      intro y
      unfold F_spec_IsValidConsole
      simp only [specGood n l v p q m t u () h1 h2, specV_eq c h3, Option.bind_some]
      cases workB ((n, l, v), p, q, m, t, u) <;> rfl
    have t3 : ∀ y : Unit, F_impl_IsValidConsole 0 ((((n, l, v), p, q, m, t, u), (ba d, ba e, c, ()), y), ()) = some (workB ((n, l, v), p, q, m, t, u) && logB d e c, ()) := by
      intro y
      unfold F_impl_IsValidConsole
      simp only [implW n l v p q m t u () h1 h2, implV_eq c h3, Option.bind_some]
      cases workB ((n, l, v), p, q, m, t, u) <;> rfl
    have t4 : ∀ y z : Unit, F_laws_eqConsole 0 ((((n, l, v), p, q, m, t, u), (ba d, ba e, c, ()), y), (((n, l, v), p, q, m, t, u), (ba d, ba e, c, ()), z), ()) = some (true, ()) := by
      intro y z
      unfold F_laws_eqConsole
      simp only [eqWorkshop_self n l v p q m t u () h1 h2, Option.bind_some, eqLog_self, Bool.not_true, Bool.false_eq_true, if_false]
    simp only [t1, t2, t3, t4, Option.bind_some, beq_self_eq_true, Bool.not_true, Bool.false_eq_true, if_false]
    split <;> rfl
end Go.V.W
