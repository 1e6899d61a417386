/- Printed: the pure functions that the interpreter computes for the program's functions, and that it is so. -/
import Derived.Test.YtmeglfoapdkhdaaVClo
import Derived.Test.YtmeglfoapdkhdaaProg
import Derived.Test.YtmeglfoapdkhdaaVS0
set_option linter.unusedVariables false
set_option maxRecDepth 100000
namespace Go.V.W
open Go.Proofs
abbrev I : Kd := .int .i64
abbrev K_Psq : Kd := .pair .str .unit
abbrev K_Pssq : Kd := .pair .str K_Psq
abbrev K_Piq : Kd := .pair I .unit
abbrev K_Piiq : Kd := .pair I K_Piq
abbrev K_SPiiq : Kd := .slice K_Piiq
abbrev K_PSPiiqq : Kd := .pair K_SPiiq .unit
abbrev K_PiSPiiqq : Kd := .pair I K_PSPiiqq
abbrev K_Si : Kd := .slice I
abbrev K_PSiiq : Kd := .pair K_Si K_Piq
abbrev K_PiSiiq : Kd := .pair I K_PSiiq
abbrev K_PiiSiiq : Kd := .pair I K_PiSiiq
abbrev K_PPiSPiiqqiiSiiq : Kd := .pair K_PiSPiiqq K_PiiSiiq
abbrev K_SSi : Kd := .slice K_Si
abbrev K_PSSiq : Kd := .pair K_SSi .unit
abbrev K_PiSSiq : Kd := .pair I K_PSSiq
abbrev K_PPiSPiiqqiSSiq : Kd := .pair K_PiSPiiqq K_PiSSiq
abbrev K_BPPiSPiiqqiSSiq : Kd := .bx K_PPiSPiiqqiSSiq
abbrev K_PBPPiSPiiqqiSSiqq : Kd := .pair K_BPPiSPiiqqiSSiq .unit
abbrev K_F84qPBPPiSPiiqqiSSiqq : Kd := .clo 84 .unit K_PBPPiSPiiqqiSSiqq
abbrev K_PSiq : Kd := .pair K_Si .unit
abbrev K_SPSiq : Kd := .slice K_PSiq
abbrev K_PPSiqq : Kd := .pair K_PSiq .unit
abbrev K_F135PPSiqqq : Kd := .clo 135 K_PPSiqq .unit
abbrev K_Bi : Kd := .bx I
abbrev K_BPSiq : Kd := .bx K_PSiq
abbrev K_BSSi : Kd := .bx K_SSi
abbrev K_PBSSiq : Kd := .pair K_BSSi .unit
abbrev K_PBPSiqBSSiq : Kd := .pair K_BPSiq K_PBSSiq
abbrev K_PBiBPSiqBSSiq : Kd := .pair K_Bi K_PBPSiqBSSiq
abbrev K_F154qPBiBPSiqBSSiq : Kd := .clo 154 .unit K_PBiBPSiqBSSiq
def tks : List (Nat × Kd) := [(3, I), (4, .bool), (5, (.int .u8)), (9, .str), (23, K_Pssq), (26, K_Pssq), (29, K_SPiiq), (31, K_PiSPiiqq), (32, K_Si), (34, K_PPiSPiiqqiiSiiq), (37, K_PiSPiiqq), (39, K_PPiSPiiqqiiSiiq), (51, K_SSi), (53, K_PPiSPiiqqiSSiq), (57, K_PPiSPiiqqiSSiq), (99, K_Piiq), (112, K_PSiq), (113, K_SPSiq)]
def ars : List (Nat × Nat) := [(99, 3)]
/-! ### laws.szLogRecord -/
noncomputable def Γ_laws_szLogRecord : Ctx := { tk := assoc tks, ar := assoc ars, fs := assoc [] }
noncomputable def F_laws_szLogRecord (N : Nat) (d : (ByteArray × ByteArray × Unit) × Int × Unit) : Option (Int × Unit) :=
  let a0 : ByteArray × ByteArray × Unit := d.1
  let a1 : Int := d.2.1
  let x1 : Int := IntKind.wrap .i64 (a1 - (a0.1.size : Int))
  if (decide (x1 < (0 : Int))) = true then
    some ((-1 : Int), ())
  else
    let x2 : Int := IntKind.wrap .i64 (x1 - (a0.2.1.size : Int))
    if (decide (x2 < (0 : Int))) = true then
      some ((-1 : Int), ())
    else
      some (x2, ())
theorem F_laws_szLogRecord_ok (N : Nat) (d) : fnR Γ_laws_szLogRecord (assoc []) true [(K_Pssq, false), (I, false)] [I] Try.f15.results.toList (bodyOf Try.f15) d = F_laws_szLogRecord N d := by kernel_rfl
noncomputable def g_laws_szLogRecord (d : (ByteArray × ByteArray × Unit) × Int × Unit) : Int × Unit :=
  let a0 : ByteArray × ByteArray × Unit := d.1
  let a1 : Int := d.2.1
  let x1 : Int := IntKind.wrap .i64 (a1 - (a0.1.size : Int))
  if (decide (x1 < (0 : Int))) = true then
    ((-1 : Int), ())
  else
    let x2 : Int := IntKind.wrap .i64 (x1 - (a0.2.1.size : Int))
    if (decide (x2 < (0 : Int))) = true then
      ((-1 : Int), ())
    else
      (x2, ())
theorem F_laws_szLogRecord_tot (N : Nat) (d) : F_laws_szLogRecord N d = some (g_laws_szLogRecord d) := by
  unfold F_laws_szLogRecord g_laws_szLogRecord
  first
    | rfl
    | (dsimp only; (repeat' split) <;> rfl)
noncomputable def S_laws_szLogRecord : FSig := ⟨[(K_Pssq, false), (I, false)], [I], true, (fun d => some (g_laws_szLogRecord d))⟩
/-! ### laws.toLogRecord -/
noncomputable def Γ_laws_toLogRecord : Ctx := { tk := assoc tks, ar := assoc ars, fs := assoc [] }
noncomputable def F_laws_toLogRecord (N : Nat) (d : (ByteArray × ByteArray × Unit) × Unit) : Option ((ByteArray × ByteArray × Unit) × Unit) :=
  let a0 : ByteArray × ByteArray × Unit := d.1
  some (((a0.1, (a0.2.1, ())), ()))
theorem F_laws_toLogRecord_ok (N : Nat) (d) : fnR Γ_laws_toLogRecord (assoc []) true [(K_Pssq, false)] [K_Pssq] Try.f17.results.toList (bodyOf Try.f17) d = F_laws_toLogRecord N d := by kernel_rfl
noncomputable def g_laws_toLogRecord (d : (ByteArray × ByteArray × Unit) × Unit) : (ByteArray × ByteArray × Unit) × Unit :=
  let a0 : ByteArray × ByteArray × Unit := d.1
  (((a0.1, (a0.2.1, ())), ()))
theorem F_laws_toLogRecord_tot (N : Nat) (d) : F_laws_toLogRecord N d = some (g_laws_toLogRecord d) := by
  unfold F_laws_toLogRecord g_laws_toLogRecord
  first
    | rfl
    | (dsimp only; (repeat' split) <;> rfl)
noncomputable def S_laws_toLogRecord : FSig := ⟨[(K_Pssq, false)], [K_Pssq], true, (fun d => some (g_laws_toLogRecord d))⟩
/-! ### spec.l1In -/
noncomputable def Γ_spec_l1In : Ctx := { tk := assoc tks, ar := assoc ars, fs := assoc [] }
noncomputable def F_spec_l1In (N : Nat) (d : Int × Int × Int × Unit) : Option (Bool × Unit) :=
  let a0 : Int := d.1
  let a1 : Int := d.2.1
  let a2 : Int := d.2.2.1
  if (decide (a0 ≥ a1)) = true then
    some (decide (a0 ≤ a2), ())
  else
    some (false, ())
theorem F_spec_l1In_ok (N : Nat) (d) : fnR Γ_spec_l1In (assoc []) true [(I, false), (I, false), (I, false)] [.bool] Try.f122.results.toList (bodyOf Try.f122) d = F_spec_l1In N d := by kernel_rfl
noncomputable def g_spec_l1In (d : Int × Int × Int × Unit) : Bool × Unit :=
  let a0 : Int := d.1
  let a1 : Int := d.2.1
  let a2 : Int := d.2.2.1
  if (decide (a0 ≥ a1)) = true then
    (decide (a0 ≤ a2), ())
  else
    (false, ())
theorem F_spec_l1In_tot (N : Nat) (d) : F_spec_l1In N d = some (g_spec_l1In d) := by
  unfold F_spec_l1In g_spec_l1In
  first
    | rfl
    | (dsimp only; (repeat' split) <;> rfl)
noncomputable def S_spec_l1In : FSig := ⟨[(I, false), (I, false), (I, false)], [.bool], true, (fun d => some (g_spec_l1In d))⟩
/-! ### spec.l12Bytes -/
noncomputable def Γ_spec_l12Bytes : Ctx := { tk := assoc tks, ar := assoc ars, fs := assoc [(122, S_spec_l1In)] }
abbrev spec_l12Bytes_l0_H := ByteArray × Int × Int × Unit
abbrev spec_l12Bytes_l0_O := (Bool × Unit) ⊕ (ByteArray × Int × Unit) ⊕ Empty
def spec_l12Bytes_l0_h : Form := [(0, .v .str), (1, .v I), (5, .v I)]
def spec_l12Bytes_l0_o : Outs := [(.ret, [(4, .v .bool)]), (.normal, [(0, .v .str), (1, .v I)])]
noncomputable def spec_l12Bytes_l0_r (N : Nat) (back : spec_l12Bytes_l0_H → Option spec_l12Bytes_l0_O) (d : spec_l12Bytes_l0_H) : Option spec_l12Bytes_l0_O :=
  let s0 : ByteArray := d.1
  let s1 : Int := d.2.1
  let s5 : Int := d.2.2.1
  if (decide (s5 < (s0.size : Int))) = true then
    if (idxIn s5 s0.size) = true then
    let x7 : Int := IntKind.wrap .i64 (byteAt s0 s5.toNat : Int)
    let r8 : Bool × Unit := g_spec_l1In ((x7, ((32 : Int), ((126 : Int), ()))))
    if (!r8.1) = true then
      some (.inl (false, ()))
    else
      if (idxIn s5 s0.size) = true then
      if ((byteAt s0 s5.toNat : Int) == (35 : Int)) = true then
        some (.inl (false, ()))
      else
        let x9 : Int := IntKind.wrap .i64 (s5 + (1 : Int))
        back ((s0, (s1, (x9, ()))))
      else none
    else none
  else
    some (.inr (.inl ((s0, (s1, ())))))
noncomputable def spec_l12Bytes_l0 (N : Nat) : Nat → spec_l12Bytes_l0_H → Option spec_l12Bytes_l0_O
  | 0, _ => none
  | k + 1, d => spec_l12Bytes_l0_r N (spec_l12Bytes_l0 N k) d
theorem spec_l12Bytes_l0_ok (N : Nat) (back) (d) : roundR Γ_spec_l12Bytes (assoc []) 0 spec_l12Bytes_l0_h spec_l12Bytes_l0_o (loopOf Try.f116 0) back d = spec_l12Bytes_l0_r N back d := by kernel_rfl
noncomputable def F_spec_l12Bytes (N : Nat) (d : ByteArray × Int × Unit) : Option (Bool × Unit) :=
  let a0 : ByteArray := d.1
  let a1 : Int := d.2.1
  (spec_l12Bytes_l0 N N ((a0, (a1, ((0 : Int), ()))))).bind fun o4 => match o4 with
  | .inl d5 =>
    some (d5.1, ())
  | .inr (.inl d6) =>
    some ((decide ((d6.1.size : Int) ≤ d6.2.1), ()))
theorem F_spec_l12Bytes_ok (N : Nat) (d) : fnR Γ_spec_l12Bytes (assoc [(0, ⟨spec_l12Bytes_l0_h, spec_l12Bytes_l0_o, spec_l12Bytes_l0 N N⟩)]) true [(.str, false), (I, false)] [.bool] Try.f116.results.toList (bodyOf Try.f116) d = F_spec_l12Bytes N d := by kernel_rfl
noncomputable def S_spec_l12Bytes : FSig := ⟨[(.str, false), (I, false)], [.bool], true, (G_l12Bytes)⟩
/-! ### spec.l1Stands -/
noncomputable def Γ_spec_l1Stands : Ctx := { tk := assoc tks, ar := assoc ars, fs := assoc [] }
abbrev spec_l1Stands_l0_H := ByteArray × Int × Int × Unit
abbrev spec_l1Stands_l0_O := (Bool × Unit) ⊕ Unit ⊕ Empty
def spec_l1Stands_l0_h : Form := [(0, .v .str), (1, .v (.int .u8)), (5, .v I)]
def spec_l1Stands_l0_o : Outs := [(.ret, [(4, .v .bool)]), (.normal, [])]
noncomputable def spec_l1Stands_l0_r (N : Nat) (back : spec_l1Stands_l0_H → Option spec_l1Stands_l0_O) (d : spec_l1Stands_l0_H) : Option spec_l1Stands_l0_O :=
  let s0 : ByteArray := d.1
  let s1 : Int := d.2.1
  let s5 : Int := d.2.2.1
  if (decide (s5 < (s0.size : Int))) = true then
    if (idxIn s5 s0.size) = true then
    if ((byteAt s0 s5.toNat : Int) == s1) = true then
      some (.inl (true, ()))
    else
      let x5 : Int := IntKind.wrap .i64 (s5 + (1 : Int))
      back ((s0, (s1, (x5, ()))))
    else none
  else
    some (.inr (.inl ()))
noncomputable def spec_l1Stands_l0 (N : Nat) : Nat → spec_l1Stands_l0_H → Option spec_l1Stands_l0_O
  | 0, _ => none
  | k + 1, d => spec_l1Stands_l0_r N (spec_l1Stands_l0 N k) d
theorem spec_l1Stands_l0_ok (N : Nat) (back) (d) : roundR Γ_spec_l1Stands (assoc []) 0 spec_l1Stands_l0_h spec_l1Stands_l0_o (loopOf Try.f117 0) back d = spec_l1Stands_l0_r N back d := by kernel_rfl
noncomputable def F_spec_l1Stands (N : Nat) (d : ByteArray × Int × Unit) : Option (Bool × Unit) :=
  let a0 : ByteArray := d.1
  let a1 : Int := d.2.1
  (spec_l1Stands_l0 N N ((a0, (a1, ((0 : Int), ()))))).bind fun o2 => match o2 with
  | .inl d3 =>
    some (d3.1, ())
  | .inr (.inl d4) =>
    some (false, ())
theorem F_spec_l1Stands_ok (N : Nat) (d) : fnR Γ_spec_l1Stands (assoc [(0, ⟨spec_l1Stands_l0_h, spec_l1Stands_l0_o, spec_l1Stands_l0 N N⟩)]) true [(.str, false), ((.int .u8), false)] [.bool] Try.f117.results.toList (bodyOf Try.f117) d = F_spec_l1Stands N d := by kernel_rfl
noncomputable def S_spec_l1Stands : FSig := ⟨[(.str, false), ((.int .u8), false)], [.bool], true, (G_l1Stands)⟩
/-! ### spec.l12Record -/
noncomputable def Γ_spec_l12Record : Ctx := { tk := assoc tks, ar := assoc ars, fs := assoc [(116, S_spec_l12Bytes), (117, S_spec_l1Stands)] }
noncomputable def F_spec_l12Record (N : Nat) (d : (ByteArray × ByteArray × Unit) × Unit) : Option (Bool × Unit) :=
  let a0 : ByteArray × ByteArray × Unit := d.1
  if (!seq_ a0.1 (⟨#[]⟩ : ByteArray)) = true then
    (G_l12Bytes ((a0.1, ((160 : Int), ())))).bind fun r1 =>
    if (r1.1) = true then
      (G_l1Stands ((a0.1, ((64 : Int), ())))).bind fun r2 =>
      if (!r2.1) = true then
        (G_l12Bytes ((a0.2.1, ((200 : Int), ())))).bind fun r3 =>
        some (r3.1, ())
      else
        some (false, ())
    else
      some (false, ())
  else
    some (false, ())
theorem F_spec_l12Record_ok (N : Nat) (d) : fnR Γ_spec_l12Record (assoc []) true [(K_Pssq, false)] [.bool] Try.f65.results.toList (bodyOf Try.f65) d = F_spec_l12Record N d := by kernel_rfl
noncomputable def S_spec_l12Record : FSig := ⟨[(K_Pssq, false)], [.bool], true, (F_spec_l12Record 0)⟩
/-! ### spec.IsValidRecord -/
noncomputable def Γ_spec_IsValidRecord : Ctx := { tk := assoc tks, ar := assoc ars, fs := assoc [(65, S_spec_l12Record)] }
noncomputable def F_spec_IsValidRecord (N : Nat) (d : (ByteArray × ByteArray × Unit) × Unit) : Option (Bool × Unit) :=
  let a0 : ByteArray × ByteArray × Unit := d.1
  ((F_spec_l12Record 0) (a0, ())).bind fun r1 =>
  some (r1.1, ())
theorem F_spec_IsValidRecord_ok (N : Nat) (d) : fnR Γ_spec_IsValidRecord (assoc []) true [(K_Pssq, false)] [.bool] Try.f16.results.toList (bodyOf Try.f16) d = F_spec_IsValidRecord N d := by kernel_rfl
noncomputable def S_spec_IsValidRecord : FSig := ⟨[(K_Pssq, false)], [.bool], true, (F_spec_IsValidRecord 0)⟩
/-! ### impl.within -/
noncomputable def Γ_impl_within : Ctx := { tk := assoc tks, ar := assoc ars, fs := assoc [] }
noncomputable def F_impl_within (N : Nat) (d : Int × Int × Int × Unit) : Option (Bool × Unit) :=
  let a0 : Int := d.1
  let a1 : Int := d.2.1
  let a2 : Int := d.2.2.1
  if (decide (a0 ≥ a1)) = true then
    some (decide (a0 ≤ a2), ())
  else
    some (false, ())
theorem F_impl_within_ok (N : Nat) (d) : fnR Γ_impl_within (assoc []) true [(I, false), (I, false), (I, false)] [.bool] Try.f72.results.toList (bodyOf Try.f72) d = F_impl_within N d := by kernel_rfl
noncomputable def g_impl_within (d : Int × Int × Int × Unit) : Bool × Unit :=
  let a0 : Int := d.1
  let a1 : Int := d.2.1
  let a2 : Int := d.2.2.1
  if (decide (a0 ≥ a1)) = true then
    (decide (a0 ≤ a2), ())
  else
    (false, ())
theorem F_impl_within_tot (N : Nat) (d) : F_impl_within N d = some (g_impl_within d) := by
  unfold F_impl_within g_impl_within
  first
    | rfl
    | (dsimp only; (repeat' split) <;> rfl)
noncomputable def S_impl_within : FSig := ⟨[(I, false), (I, false), (I, false)], [.bool], true, (fun d => some (g_impl_within d))⟩
def S_strings_ContainsAny : FSig := ⟨[(.str, false), (.str, false)], [.bool], true, G_containsAny⟩
/-! ### impl.isPrinted -/
noncomputable def Γ_impl_isPrinted : Ctx := { tk := assoc tks, ar := assoc ars, fs := assoc [(118, S_strings_ContainsAny)] }
abbrev impl_isPrinted_l0_H := ByteArray × ByteArray × Int × Unit
abbrev impl_isPrinted_l0_O := (Bool × Unit) ⊕ (ByteArray × ByteArray × Unit) ⊕ Empty
def impl_isPrinted_l0_h : Form := [(0, .v .str), (1, .v .str), (5, .v I)]
def impl_isPrinted_l0_o : Outs := [(.ret, [(4, .v .bool)]), (.normal, [(0, .v .str), (1, .v .str)])]
noncomputable def impl_isPrinted_l0_r (N : Nat) (back : impl_isPrinted_l0_H → Option impl_isPrinted_l0_O) (d : impl_isPrinted_l0_H) : Option impl_isPrinted_l0_O :=
  let s0 : ByteArray := d.1
  let s1 : ByteArray := d.2.1
  let s5 : Int := d.2.2.1
  if (decide (s5 < (s0.size : Int))) = true then
    if (idxIn s5 s0.size) = true then
    if (decide ((byteAt s0 s5.toNat : Int) < (32 : Int))) = true then
      some (.inl (false, ()))
    else
      if (idxIn s5 s0.size) = true then
      if (decide ((byteAt s0 s5.toNat : Int) > (126 : Int))) = true then
        some (.inl (false, ()))
      else
        let x6 : Int := IntKind.wrap .i64 (s5 + (1 : Int))
        back ((s0, (s1, (x6, ()))))
      else none
    else none
  else
    some (.inr (.inl ((s0, (s1, ())))))
noncomputable def impl_isPrinted_l0 (N : Nat) : Nat → impl_isPrinted_l0_H → Option impl_isPrinted_l0_O
  | 0, _ => none
  | k + 1, d => impl_isPrinted_l0_r N (impl_isPrinted_l0 N k) d
theorem impl_isPrinted_l0_ok (N : Nat) (back) (d) : roundR Γ_impl_isPrinted (assoc []) 0 impl_isPrinted_l0_h impl_isPrinted_l0_o (loopOf Try.f67 0) back d = impl_isPrinted_l0_r N back d := by kernel_rfl
noncomputable def F_impl_isPrinted (N : Nat) (d : ByteArray × ByteArray × Unit) : Option (Bool × Unit) :=
  let a0 : ByteArray := d.1
  let a1 : ByteArray := d.2.1
  (impl_isPrinted_l0 N N ((a0, (a1, ((0 : Int), ()))))).bind fun o2 => match o2 with
  | .inl d3 =>
    some (d3.1, ())
  | .inr (.inl d4) =>
    (G_containsAny ((d4.1, (d4.2.1, ())))).bind fun r5 =>
    some (!r5.1, ())
theorem F_impl_isPrinted_ok (N : Nat) (d) : fnR Γ_impl_isPrinted (assoc [(0, ⟨impl_isPrinted_l0_h, impl_isPrinted_l0_o, impl_isPrinted_l0 N N⟩)]) true [(.str, false), (.str, false)] [.bool] Try.f67.results.toList (bodyOf Try.f67) d = F_impl_isPrinted N d := by kernel_rfl
noncomputable def S_impl_isPrinted : FSig := ⟨[(.str, false), (.str, false)], [.bool], true, (G_isPrinted)⟩
/-! ### impl.isCommand -/
noncomputable def Γ_impl_isCommand : Ctx := { tk := assoc tks, ar := assoc ars, fs := assoc [(67, S_impl_isPrinted), (72, S_impl_within)] }
noncomputable def F_impl_isCommand (N : Nat) (d : ByteArray × Unit) : Option (Bool × Unit) :=
  let a0 : ByteArray := d.1
  let r1 : Bool × Unit := g_impl_within (((a0.size : Int), ((1 : Int), ((160 : Int), ()))))
  if (r1.1) = true then
    (G_isPrinted ((a0, ((⟨#[35, 64]⟩ : ByteArray), ())))).bind fun r2 =>
    some (r2.1, ())
  else
    some (false, ())
theorem F_impl_isCommand_ok (N : Nat) (d) : fnR Γ_impl_isCommand (assoc []) true [(.str, false)] [.bool] Try.f66.results.toList (bodyOf Try.f66) d = F_impl_isCommand N d := by kernel_rfl
noncomputable def S_impl_isCommand : FSig := ⟨[(.str, false)], [.bool], true, (F_impl_isCommand 0)⟩
/-! ### impl.IsValidRecord -/
noncomputable def Γ_impl_IsValidRecord : Ctx := { tk := assoc tks, ar := assoc ars, fs := assoc [(66, S_impl_isCommand), (67, S_impl_isPrinted)] }
noncomputable def F_impl_IsValidRecord (N : Nat) (d : (ByteArray × ByteArray × Unit) × Unit) : Option (Bool × Unit) :=
  let a0 : ByteArray × ByteArray × Unit := d.1
  ((F_impl_isCommand 0) (a0.1, ())).bind fun r1 =>
  if (r1.1) = true then
    if (decide ((a0.2.1.size : Int) ≤ (200 : Int))) = true then
      (G_isPrinted ((a0.2.1, ((⟨#[35]⟩ : ByteArray), ())))).bind fun r2 =>
      some (r2.1, ())
    else
      some (false, ())
  else
    some (false, ())
theorem F_impl_IsValidRecord_ok (N : Nat) (d) : fnR Γ_impl_IsValidRecord (assoc []) true [(K_Pssq, false)] [.bool] Try.f18.results.toList (bodyOf Try.f18) d = F_impl_IsValidRecord N d := by kernel_rfl
noncomputable def S_impl_IsValidRecord : FSig := ⟨[(K_Pssq, false)], [.bool], true, (F_impl_IsValidRecord 0)⟩
/-! ### laws.FnExactIsValidRecord -/
noncomputable def Γ_laws_FnExactIsValidRecord : Ctx := { tk := assoc tks, ar := assoc ars, fs := assoc [(15, S_laws_szLogRecord), (16, S_spec_IsValidRecord), (17, S_laws_toLogRecord), (18, S_impl_IsValidRecord)] }
noncomputable def F_laws_FnExactIsValidRecord (N : Nat) (d : (ByteArray × ByteArray × Unit) × Unit) : Option (Bool × Unit) :=
  let a0 : ByteArray × ByteArray × Unit := d.1
  let r1 : Int × Unit := g_laws_szLogRecord ((a0, ((1048576 : Int), ())))
  if (decide (r1.1 < (0 : Int))) = true then
    some (true, ())
  else
    let r2 : (ByteArray × ByteArray × Unit) × Unit := g_laws_toLogRecord (a0, ())
    ((F_spec_IsValidRecord 0) (r2.1, ())).bind fun r3 =>
    let r4 : (ByteArray × ByteArray × Unit) × Unit := g_laws_toLogRecord (a0, ())
    ((F_impl_IsValidRecord 0) (r4.1, ())).bind fun r5 =>
    if (!(r5.1 == r3.1)) = true then
      some (false, ())
    else
      some (true, ())
theorem F_laws_FnExactIsValidRecord_ok (N : Nat) (d) : fnR Γ_laws_FnExactIsValidRecord (assoc []) true [(K_Pssq, false)] [.bool] Try.f3.results.toList (bodyOf Try.f3) d = F_laws_FnExactIsValidRecord N d := by kernel_rfl
noncomputable def S_laws_FnExactIsValidRecord : FSig := ⟨[(K_Pssq, false)], [.bool], true, (F_laws_FnExactIsValidRecord 0)⟩
/-! ### laws.szIntA2S -/
noncomputable def Γ_laws_szIntA2S : Ctx := { tk := assoc tks, ar := assoc ars, fs := assoc [] }
noncomputable def F_laws_szIntA2S (N : Nat) (d : (List (Int × Int × Unit)) × Int × Unit) : Option (Int × Unit) :=
  let a0 : List (Int × Int × Unit) := d.1
  let a1 : Int := d.2.1
  let x1 : Int := IntKind.wrap .i64 (a1 - (List.length a0 : Int))
  if (decide (x1 < (0 : Int))) = true then
    some ((-1 : Int), ())
  else
    some (x1, ())
theorem F_laws_szIntA2S_ok (N : Nat) (d) : fnR Γ_laws_szIntA2S (assoc []) true [(K_SPiiq, false), (I, false)] [I] Try.f73.results.toList (bodyOf Try.f73) d = F_laws_szIntA2S N d := by kernel_rfl
noncomputable def g_laws_szIntA2S (d : (List (Int × Int × Unit)) × Int × Unit) : Int × Unit :=
  let a0 : List (Int × Int × Unit) := d.1
  let a1 : Int := d.2.1
  let x1 : Int := IntKind.wrap .i64 (a1 - (List.length a0 : Int))
  if (decide (x1 < (0 : Int))) = true then
    ((-1 : Int), ())
  else
    (x1, ())
theorem F_laws_szIntA2S_tot (N : Nat) (d) : F_laws_szIntA2S N d = some (g_laws_szIntA2S d) := by
  unfold F_laws_szIntA2S g_laws_szIntA2S
  first
    | rfl
    | (dsimp only; (repeat' split) <;> rfl)
noncomputable def S_laws_szIntA2S : FSig := ⟨[(K_SPiiq, false), (I, false)], [I], true, (fun d => some (g_laws_szIntA2S d))⟩
/-! ### laws.szGraph -/
noncomputable def Γ_laws_szGraph : Ctx := { tk := assoc tks, ar := assoc ars, fs := assoc [(73, S_laws_szIntA2S)] }
noncomputable def F_laws_szGraph (N : Nat) (d : (Int × (List (Int × Int × Unit)) × Unit) × Int × Unit) : Option (Int × Unit) :=
  let a0 : Int × (List (Int × Int × Unit)) × Unit := d.1
  let a1 : Int := d.2.1
  let r1 : Int × Unit := g_laws_szIntA2S ((a0.2.1, (a1, ())))
  if (decide (r1.1 < (0 : Int))) = true then
    some ((-1 : Int), ())
  else
    some (r1.1, ())
theorem F_laws_szGraph_ok (N : Nat) (d) : fnR Γ_laws_szGraph (assoc []) true [(K_PiSPiiqq, false), (I, false)] [I] Try.f24.results.toList (bodyOf Try.f24) d = F_laws_szGraph N d := by kernel_rfl
noncomputable def g_laws_szGraph (d : (Int × (List (Int × Int × Unit)) × Unit) × Int × Unit) : Int × Unit :=
  let a0 : Int × (List (Int × Int × Unit)) × Unit := d.1
  let a1 : Int := d.2.1
  let r1 : Int × Unit := g_laws_szIntA2S ((a0.2.1, (a1, ())))
  if (decide (r1.1 < (0 : Int))) = true then
    ((-1 : Int), ())
  else
    (r1.1, ())
theorem F_laws_szGraph_tot (N : Nat) (d) : F_laws_szGraph N d = some (g_laws_szGraph d) := by
  unfold F_laws_szGraph g_laws_szGraph
  first
    | rfl
    | (dsimp only; (repeat' split) <;> rfl)
noncomputable def S_laws_szGraph : FSig := ⟨[(K_PiSPiiqq, false), (I, false)], [I], true, (fun d => some (g_laws_szGraph d))⟩
/-! ### laws.szIntS -/
noncomputable def Γ_laws_szIntS : Ctx := { tk := assoc tks, ar := assoc ars, fs := assoc [] }
noncomputable def F_laws_szIntS (N : Nat) (d : List Int × Int × Unit) : Option (Int × Unit) :=
  let a0 : List Int := d.1
  let a1 : Int := d.2.1
  let x1 : Int := IntKind.wrap .i64 (a1 - (List.length a0 : Int))
  if (decide (x1 < (0 : Int))) = true then
    some ((-1 : Int), ())
  else
    some (x1, ())
theorem F_laws_szIntS_ok (N : Nat) (d) : fnR Γ_laws_szIntS (assoc []) true [(K_Si, false), (I, false)] [I] Try.f68.results.toList (bodyOf Try.f68) d = F_laws_szIntS N d := by kernel_rfl
noncomputable def g_laws_szIntS (d : List Int × Int × Unit) : Int × Unit :=
  let a0 : List Int := d.1
  let a1 : Int := d.2.1
  let x1 : Int := IntKind.wrap .i64 (a1 - (List.length a0 : Int))
  if (decide (x1 < (0 : Int))) = true then
    ((-1 : Int), ())
  else
    (x1, ())
theorem F_laws_szIntS_tot (N : Nat) (d) : F_laws_szIntS N d = some (g_laws_szIntS d) := by
  unfold F_laws_szIntS g_laws_szIntS
  first
    | rfl
    | (dsimp only; (repeat' split) <;> rfl)
noncomputable def S_laws_szIntS : FSig := ⟨[(K_Si, false), (I, false)], [I], true, (fun d => some (g_laws_szIntS d))⟩
/-! ### laws.szWorkshop -/
noncomputable def Γ_laws_szWorkshop : Ctx := { tk := assoc tks, ar := assoc ars, fs := assoc [(24, S_laws_szGraph), (68, S_laws_szIntS)] }
noncomputable def F_laws_szWorkshop (N : Nat) (d : ((Int × (List (Int × Int × Unit)) × Unit) × Int × Int × List Int × Int × Unit) × Int × Unit) : Option (Int × Unit) :=
  let a0 : (Int × (List (Int × Int × Unit)) × Unit) × Int × Int × List Int × Int × Unit := d.1
  let a1 : Int := d.2.1
  let r1 : Int × Unit := g_laws_szGraph ((a0.1, (a1, ())))
  if (decide (r1.1 < (0 : Int))) = true then
    some ((-1 : Int), ())
  else
    let r2 : Int × Unit := g_laws_szIntS ((a0.2.2.2.1, (r1.1, ())))
    if (decide (r2.1 < (0 : Int))) = true then
      some ((-1 : Int), ())
    else
      some (r2.1, ())
theorem F_laws_szWorkshop_ok (N : Nat) (d) : fnR Γ_laws_szWorkshop (assoc []) true [(K_PPiSPiiqqiiSiiq, false), (I, false)] [I] Try.f19.results.toList (bodyOf Try.f19) d = F_laws_szWorkshop N d := by kernel_rfl
noncomputable def g_laws_szWorkshop (d : ((Int × (List (Int × Int × Unit)) × Unit) × Int × Int × List Int × Int × Unit) × Int × Unit) : Int × Unit :=
  let a0 : (Int × (List (Int × Int × Unit)) × Unit) × Int × Int × List Int × Int × Unit := d.1
  let a1 : Int := d.2.1
  let r1 : Int × Unit := g_laws_szGraph ((a0.1, (a1, ())))
  if (decide (r1.1 < (0 : Int))) = true then
    ((-1 : Int), ())
  else
    let r2 : Int × Unit := g_laws_szIntS ((a0.2.2.2.1, (r1.1, ())))
    if (decide (r2.1 < (0 : Int))) = true then
      ((-1 : Int), ())
    else
      (r2.1, ())
theorem F_laws_szWorkshop_tot (N : Nat) (d) : F_laws_szWorkshop N d = some (g_laws_szWorkshop d) := by
  unfold F_laws_szWorkshop g_laws_szWorkshop
  first
    | rfl
    | (dsimp only; (repeat' split) <;> rfl)
noncomputable def S_laws_szWorkshop : FSig := ⟨[(K_PPiSPiiqqiiSiiq, false), (I, false)], [I], true, (fun d => some (g_laws_szWorkshop d))⟩
/-! ### laws.toIntA2 -/
noncomputable def Γ_laws_toIntA2 : Ctx := { tk := assoc tks, ar := assoc ars, fs := assoc [] }
abbrev laws_toIntA2_l0_H := (Int × Int × Unit) × (Int × Int × Unit) × (Int × Int × Unit) × Int × Unit
abbrev laws_toIntA2_l0_O := ((Int × Int × Unit) × (Int × Int × Unit) × Unit) ⊕ Empty
def laws_toIntA2_l0_h : Form := [(1, .box K_Piiq 99), (2, .box K_Piiq 99), (3, .box K_Piiq 99), (4, .v I)]
def laws_toIntA2_l0_o : Outs := [(.normal, [(2, .box K_Piiq 99), (3, .box K_Piiq 99)])]
noncomputable def laws_toIntA2_l0_r (N : Nat) (back : laws_toIntA2_l0_H → Option laws_toIntA2_l0_O) (d : laws_toIntA2_l0_H) : Option laws_toIntA2_l0_O :=
  let s1 : Int × Int × Unit := d.1
  let s2 : Int × Int × Unit := d.2.1
  let s3 : Int × Int × Unit := d.2.2.1
  let s4 : Int := d.2.2.2.1
  if (decide (s4 < (2 : Int))) = true then
    if (s4 == (0 : Int)) = true then
      if (s4 == (0 : Int)) = true then
        let x10 : Int := IntKind.wrap .i64 (s4 + (1 : Int))
        back ((s1, (s2, ((s1.1, s3.2), (x10, ())))))
      else
        if (s4 == (1 : Int)) = true then
        let x9 : Int := IntKind.wrap .i64 (s4 + (1 : Int))
        back ((s1, (s2, ((s3.1, (s1.1, s3.2.2)), (x9, ())))))
        else none
    else
      if (s4 == (1 : Int)) = true then
      if (s4 == (0 : Int)) = true then
        let x8 : Int := IntKind.wrap .i64 (s4 + (1 : Int))
        back ((s1, (s2, ((s1.2.1, s3.2), (x8, ())))))
      else
        if (s4 == (1 : Int)) = true then
        let x7 : Int := IntKind.wrap .i64 (s4 + (1 : Int))
        back ((s1, (s2, ((s3.1, (s1.2.1, s3.2.2)), (x7, ())))))
        else none
      else none
  else
    some (.inl ((s2, (s3, ()))))
noncomputable def laws_toIntA2_l0 (N : Nat) : Nat → laws_toIntA2_l0_H → Option laws_toIntA2_l0_O
  | 0, _ => none
  | k + 1, d => laws_toIntA2_l0_r N (laws_toIntA2_l0 N k) d
theorem laws_toIntA2_l0_ok (N : Nat) (back) (d) : roundR Γ_laws_toIntA2 (assoc []) 0 laws_toIntA2_l0_h laws_toIntA2_l0_o (loopOf Try.f125 0) back d = laws_toIntA2_l0_r N back d := by kernel_rfl
noncomputable def F_laws_toIntA2 (N : Nat) (d : (Int × Int × Unit) × Unit) : Option ((Int × Int × Unit) × Unit) :=
  let a0 : Int × Int × Unit := d.1
  (laws_toIntA2_l0 N N ((a0, (((0 : Int), ((0 : Int), ())), (((0 : Int), ((0 : Int), ())), ((0 : Int), ())))))).bind fun o5 => match o5 with
  | .inl d6 =>
    some (d6.2.1, ())
theorem F_laws_toIntA2_ok (N : Nat) (d) : fnR Γ_laws_toIntA2 (assoc [(0, ⟨laws_toIntA2_l0_h, laws_toIntA2_l0_o, laws_toIntA2_l0 N N⟩)]) true [(K_Piiq, false)] [K_Piiq] Try.f125.results.toList (bodyOf Try.f125) d = F_laws_toIntA2 N d := by kernel_rfl
noncomputable def S_laws_toIntA2 : FSig := ⟨[(K_Piiq, false)], [K_Piiq], true, (G_toIntA2)⟩
/-! ### laws.toIntA2S -/
noncomputable def Γ_laws_toIntA2S : Ctx := { tk := assoc tks, ar := assoc ars, fs := assoc [(125, S_laws_toIntA2)] }
abbrev laws_toIntA2S_l0_H := (List (Int × Int × Unit)) × (List (Int × Int × Unit)) × Int × Unit
abbrev laws_toIntA2S_l0_O := ((List (Int × Int × Unit)) × Unit) ⊕ Empty
def laws_toIntA2S_l0_h : Form := [(0, .v K_SPiiq), (3, .own K_SPiiq 99), (4, .v I)]
def laws_toIntA2S_l0_o : Outs := [(.normal, [(3, .own K_SPiiq 99)])]
noncomputable def laws_toIntA2S_l0_r (N : Nat) (back : laws_toIntA2S_l0_H → Option laws_toIntA2S_l0_O) (d : laws_toIntA2S_l0_H) : Option laws_toIntA2S_l0_O :=
  let s0 : List (Int × Int × Unit) := d.1
  let s3 : List (Int × Int × Unit) := d.2.1
  let s4 : Int := d.2.2.1
  if (decide (s4 < (List.length s0 : Int))) = true then
    if (idxIn s4 (List.length s0)) = true then
    (G_toIntA2 (at_ K_Piiq s0 s4.toNat, ())).bind fun r6 =>
    if (idxIn s4 (List.length s3)) = true then
    let x7 : Int := IntKind.wrap .i64 (s4 + (1 : Int))
    back ((s0, (List.set s3 s4.toNat r6.1, (x7, ()))))
    else none
    else none
  else
    some (.inl (s3, ()))
noncomputable def laws_toIntA2S_l0 (N : Nat) : Nat → laws_toIntA2S_l0_H → Option laws_toIntA2S_l0_O
  | 0, _ => none
  | k + 1, d => laws_toIntA2S_l0_r N (laws_toIntA2S_l0 N k) d
theorem laws_toIntA2S_l0_ok (N : Nat) (back) (d) : roundR Γ_laws_toIntA2S (assoc []) 0 laws_toIntA2S_l0_h laws_toIntA2S_l0_o (loopOf Try.f75 0) back d = laws_toIntA2S_l0_r N back d := by kernel_rfl
noncomputable def F_laws_toIntA2S (N : Nat) (d : (List (Int × Int × Unit)) × Unit) : Option ((List (Int × Int × Unit)) × Unit) :=
  let a0 : List (Int × Int × Unit) := d.1
  if ((decide (0 ≤ (List.length a0 : Int)) && decide ((List.length a0 : Int) ≤ (List.length a0 : Int)) && decide ((List.length a0 : Int) ≤ (lim : Int)))) = true then
  let x1 : List (Int × Int × Unit) := List.replicate (List.length a0 : Int).toNat (((0 : Int), ((0 : Int), ())))
  (laws_toIntA2S_l0 N N ((a0, (x1, ((0 : Int), ()))))).bind fun o4 => match o4 with
  | .inl d5 =>
    some (d5.1, ())
  else none
theorem F_laws_toIntA2S_ok (N : Nat) (d) : fnR Γ_laws_toIntA2S (assoc [(0, ⟨laws_toIntA2S_l0_h, laws_toIntA2S_l0_o, laws_toIntA2S_l0 N N⟩)]) true [(K_SPiiq, false)] [K_SPiiq] Try.f75.results.toList (bodyOf Try.f75) d = F_laws_toIntA2S N d := by kernel_rfl
noncomputable def S_laws_toIntA2S : FSig := ⟨[(K_SPiiq, false)], [K_SPiiq], true, (G_toIntA2S)⟩
/-! ### laws.toGraph -/
noncomputable def Γ_laws_toGraph : Ctx := { tk := assoc tks, ar := assoc ars, fs := assoc [(75, S_laws_toIntA2S)] }
noncomputable def F_laws_toGraph (N : Nat) (d : (Int × (List (Int × Int × Unit)) × Unit) × Unit) : Option ((Int × (List (Int × Int × Unit)) × Unit) × Unit) :=
  let a0 : Int × (List (Int × Int × Unit)) × Unit := d.1
  (G_toIntA2S (a0.2.1, ())).bind fun r1 =>
  some (((a0.1, (r1.1, ())), ()))
theorem F_laws_toGraph_ok (N : Nat) (d) : fnR Γ_laws_toGraph (assoc []) true [(K_PiSPiiqq, false)] [K_PiSPiiqq] Try.f26.results.toList (bodyOf Try.f26) d = F_laws_toGraph N d := by kernel_rfl
noncomputable def S_laws_toGraph : FSig := ⟨[(K_PiSPiiqq, false)], [K_PiSPiiqq], true, (F_laws_toGraph 0)⟩
/-! ### laws.toIntS -/
noncomputable def Γ_laws_toIntS : Ctx := { tk := assoc tks, ar := assoc ars, fs := assoc [] }
abbrev laws_toIntS_l0_H := List Int × List Int × Int × Unit
abbrev laws_toIntS_l0_O := (List Int × Unit) ⊕ Empty
def laws_toIntS_l0_h : Form := [(0, .v K_Si), (3, .own K_Si 99), (4, .v I)]
def laws_toIntS_l0_o : Outs := [(.normal, [(3, .own K_Si 99)])]
noncomputable def laws_toIntS_l0_r (N : Nat) (back : laws_toIntS_l0_H → Option laws_toIntS_l0_O) (d : laws_toIntS_l0_H) : Option laws_toIntS_l0_O :=
  let s0 : List Int := d.1
  let s3 : List Int := d.2.1
  let s4 : Int := d.2.2.1
  if (decide (s4 < (List.length s0 : Int))) = true then
    if (idxIn s4 (List.length s0)) = true then
    if (idxIn s4 (List.length s3)) = true then
    let x6 : List Int := List.set s3 s4.toNat (at_ I s0 s4.toNat)
    let x7 : Int := IntKind.wrap .i64 (s4 + (1 : Int))
    back ((s0, (x6, (x7, ()))))
    else none
    else none
  else
    some (.inl (s3, ()))
noncomputable def laws_toIntS_l0 (N : Nat) : Nat → laws_toIntS_l0_H → Option laws_toIntS_l0_O
  | 0, _ => none
  | k + 1, d => laws_toIntS_l0_r N (laws_toIntS_l0 N k) d
theorem laws_toIntS_l0_ok (N : Nat) (back) (d) : roundR Γ_laws_toIntS (assoc []) 0 laws_toIntS_l0_h laws_toIntS_l0_o (loopOf Try.f70 0) back d = laws_toIntS_l0_r N back d := by kernel_rfl
noncomputable def F_laws_toIntS (N : Nat) (d : List Int × Unit) : Option (List Int × Unit) :=
  let a0 : List Int := d.1
  if ((decide (0 ≤ (List.length a0 : Int)) && decide ((List.length a0 : Int) ≤ (List.length a0 : Int)) && decide ((List.length a0 : Int) ≤ (lim : Int)))) = true then
  let x1 : List Int := List.replicate (List.length a0 : Int).toNat (0 : Int)
  (laws_toIntS_l0 N N ((a0, (x1, ((0 : Int), ()))))).bind fun o4 => match o4 with
  | .inl d5 =>
    some (d5.1, ())
  else none
theorem F_laws_toIntS_ok (N : Nat) (d) : fnR Γ_laws_toIntS (assoc [(0, ⟨laws_toIntS_l0_h, laws_toIntS_l0_o, laws_toIntS_l0 N N⟩)]) true [(K_Si, false)] [K_Si] Try.f70.results.toList (bodyOf Try.f70) d = F_laws_toIntS N d := by kernel_rfl
noncomputable def S_laws_toIntS : FSig := ⟨[(K_Si, false)], [K_Si], true, (G_toIntS)⟩
/-! ### laws.toWorkshop -/
noncomputable def Γ_laws_toWorkshop : Ctx := { tk := assoc tks, ar := assoc ars, fs := assoc [(26, S_laws_toGraph), (70, S_laws_toIntS)] }
noncomputable def F_laws_toWorkshop (N : Nat) (d : ((Int × (List (Int × Int × Unit)) × Unit) × Int × Int × List Int × Int × Unit) × Unit) : Option (((Int × (List (Int × Int × Unit)) × Unit) × Int × Int × List Int × Int × Unit) × Unit) :=
  let a0 : (Int × (List (Int × Int × Unit)) × Unit) × Int × Int × List Int × Int × Unit := d.1
  ((F_laws_toGraph 0) (a0.1, ())).bind fun r1 =>
  (G_toIntS (a0.2.2.2.1, ())).bind fun r2 =>
  some (((r1.1, (a0.2.1, (a0.2.2.1, (r2.1, (a0.2.2.2.2.1, ()))))), ()))
theorem F_laws_toWorkshop_ok (N : Nat) (d) : fnR Γ_laws_toWorkshop (assoc []) true [(K_PPiSPiiqqiiSiiq, false)] [K_PPiSPiiqqiiSiiq] Try.f21.results.toList (bodyOf Try.f21) d = F_laws_toWorkshop N d := by kernel_rfl
noncomputable def S_laws_toWorkshop : FSig := ⟨[(K_PPiSPiiqqiiSiiq, false)], [K_PPiSPiiqqiiSiiq], true, (F_laws_toWorkshop 0)⟩
/-! ### spec.l2Before -/
noncomputable def Γ_spec_l2Before : Ctx := { tk := assoc tks, ar := assoc ars, fs := assoc [] }
noncomputable def F_spec_l2Before (N : Nat) (d : (Int × Int × Unit) × (Int × Int × Unit) × Unit) : Option (Bool × Unit) :=
  let a0 : Int × Int × Unit := d.1
  let a1 : Int × Int × Unit := d.2.1
  if (decide (a0.1 < a1.1)) = true then
    some (true, ())
  else
    if (a0.1 == a1.1) = true then
      some (decide (a0.2.1 < a1.2.1), ())
    else
      some (false, ())
theorem F_spec_l2Before_ok (N : Nat) (d) : fnR Γ_spec_l2Before (assoc []) true [(K_Piiq, false), (K_Piiq, false)] [.bool] Try.f148.results.toList (bodyOf Try.f148) d = F_spec_l2Before N d := by kernel_rfl
noncomputable def g_spec_l2Before (d : (Int × Int × Unit) × (Int × Int × Unit) × Unit) : Bool × Unit :=
  let a0 : Int × Int × Unit := d.1
  let a1 : Int × Int × Unit := d.2.1
  if (decide (a0.1 < a1.1)) = true then
    (true, ())
  else
    if (a0.1 == a1.1) = true then
      (decide (a0.2.1 < a1.2.1), ())
    else
      (false, ())
theorem F_spec_l2Before_tot (N : Nat) (d) : F_spec_l2Before N d = some (g_spec_l2Before d) := by
  unfold F_spec_l2Before g_spec_l2Before
  first
    | rfl
    | (dsimp only; (repeat' split) <;> rfl)
noncomputable def S_spec_l2Before : FSig := ⟨[(K_Piiq, false), (K_Piiq, false)], [.bool], true, (fun d => some (g_spec_l2Before d))⟩
/-! ### spec.l2Good -/
noncomputable def Γ_spec_l2Good : Ctx := { tk := assoc tks, ar := assoc ars, fs := assoc [(122, S_spec_l1In), (148, S_spec_l2Before)] }
abbrev spec_l2Good_l0_H := (Int × (List (Int × Int × Unit)) × Unit) × Int × Unit
abbrev spec_l2Good_l0_O := (Bool × Unit) ⊕ ((Int × (List (Int × Int × Unit)) × Unit) × Unit) ⊕ Empty
def spec_l2Good_l0_h : Form := [(1, .box K_PiSPiiqq 0), (3, .v I)]
def spec_l2Good_l0_o : Outs := [(.ret, [(2, .v .bool)]), (.normal, [(1, .box K_PiSPiiqq 0)])]
noncomputable def spec_l2Good_l0_r (N : Nat) (back : spec_l2Good_l0_H → Option spec_l2Good_l0_O) (d : spec_l2Good_l0_H) : Option spec_l2Good_l0_O :=
  let s1 : Int × (List (Int × Int × Unit)) × Unit := d.1
  let s3 : Int := d.2.1
  if (decide (s3 < (List.length s1.2.1 : Int))) = true then
    if (idxIn s3 (List.length s1.2.1)) = true then
    let x13 : Int := IntKind.wrap .i64 (s1.1 - (1 : Int))
    let r14 : Bool × Unit := g_spec_l1In (((at_ K_Piiq s1.2.1 s3.toNat).1, ((0 : Int), (x13, ()))))
    if (!r14.1) = true then
      some (.inl (false, ()))
    else
      let x15 : Int := IntKind.wrap .i64 (s1.1 - (1 : Int))
      let r16 : Bool × Unit := g_spec_l1In (((at_ K_Piiq s1.2.1 s3.toNat).2.1, ((0 : Int), (x15, ()))))
      if (!r16.1) = true then
        some (.inl (false, ()))
      else
        if (decide ((at_ K_Piiq s1.2.1 s3.toNat).1 ≥ (at_ K_Piiq s1.2.1 s3.toNat).2.1)) = true then
          some (.inl (false, ()))
        else
          if (decide (s3 > (0 : Int))) = true then
            let x17 : Int := IntKind.wrap .i64 (s3 - (1 : Int))
            if (idxIn x17 (List.length s1.2.1)) = true then
            let r18 : Bool × Unit := g_spec_l2Before ((at_ K_Piiq s1.2.1 x17.toNat, (at_ K_Piiq s1.2.1 s3.toNat, ())))
            if (!r18.1) = true then
              some (.inl (false, ()))
            else
              let x19 : Int := IntKind.wrap .i64 (s3 + (1 : Int))
              back ((s1, (x19, ())))
            else none
          else
            let x20 : Int := IntKind.wrap .i64 (s3 + (1 : Int))
            back ((s1, (x20, ())))
    else none
  else
    some (.inr (.inl (s1, ())))
noncomputable def spec_l2Good_l0 (N : Nat) : Nat → spec_l2Good_l0_H → Option spec_l2Good_l0_O
  | 0, _ => none
  | k + 1, d => spec_l2Good_l0_r N (spec_l2Good_l0 N k) d
theorem spec_l2Good_l0_ok (N : Nat) (back) (d) : roundR Γ_spec_l2Good (assoc []) 0 spec_l2Good_l0_h spec_l2Good_l0_o (loopOf Try.f119 0) back d = spec_l2Good_l0_r N back d := by kernel_rfl
noncomputable def F_spec_l2Good (N : Nat) (d : (Int × (List (Int × Int × Unit)) × Unit) × Unit) : Option (Bool × Unit) :=
  let a0 : Int × (List (Int × Int × Unit)) × Unit := d.1
  (spec_l2Good_l0 N N ((a0, ((0 : Int), ())))).bind fun o9 => match o9 with
  | .inl d10 =>
    some (d10.1, ())
  | .inr (.inl d11) =>
    let r12 : Bool × Unit := g_spec_l1In ((d11.1.1, ((0 : Int), ((8 : Int), ()))))
    some (r12.1, ())
theorem F_spec_l2Good_ok (N : Nat) (d) : fnR Γ_spec_l2Good (assoc [(0, ⟨spec_l2Good_l0_h, spec_l2Good_l0_o, spec_l2Good_l0 N N⟩)]) true [(K_PiSPiiqq, false)] [.bool] Try.f119.results.toList (bodyOf Try.f119) d = F_spec_l2Good N d := by kernel_rfl
noncomputable def S_spec_l2Good : FSig := ⟨[(K_PiSPiiqq, false)], [.bool], true, (G_graph)⟩
/-! ### spec.l12Spot -/
noncomputable def Γ_spec_l12Spot : Ctx := { tk := assoc tks, ar := assoc ars, fs := assoc [(122, S_spec_l1In)] }
noncomputable def F_spec_l12Spot (N : Nat) (d : (Int × (List (Int × Int × Unit)) × Unit) × Int × Unit) : Option (Bool × Unit) :=
  let a0 : Int × (List (Int × Int × Unit)) × Unit := d.1
  let a1 : Int := d.2.1
  let x1 : Int := IntKind.wrap .i64 (a0.1 - (1 : Int))
  let r2 : Bool × Unit := g_spec_l1In ((a1, ((-1 : Int), (x1, ()))))
  some (r2.1, ())
theorem F_spec_l12Spot_ok (N : Nat) (d) : fnR Γ_spec_l12Spot (assoc []) true [(K_PiSPiiqq, false), (I, false)] [.bool] Try.f120.results.toList (bodyOf Try.f120) d = F_spec_l12Spot N d := by kernel_rfl
noncomputable def g_spec_l12Spot (d : (Int × (List (Int × Int × Unit)) × Unit) × Int × Unit) : Bool × Unit :=
  let a0 : Int × (List (Int × Int × Unit)) × Unit := d.1
  let a1 : Int := d.2.1
  let x1 : Int := IntKind.wrap .i64 (a0.1 - (1 : Int))
  let r2 : Bool × Unit := g_spec_l1In ((a1, ((-1 : Int), (x1, ()))))
  (r2.1, ())
theorem F_spec_l12Spot_tot (N : Nat) (d) : F_spec_l12Spot N d = some (g_spec_l12Spot d) := by
  unfold F_spec_l12Spot g_spec_l12Spot
  first
    | rfl
    | (dsimp only; (repeat' split) <;> rfl)
noncomputable def S_spec_l12Spot : FSig := ⟨[(K_PiSPiiqq, false), (I, false)], [.bool], true, (fun d => some (g_spec_l12Spot d))⟩
/-! ### spec.l1Rising -/
noncomputable def Γ_spec_l1Rising : Ctx := { tk := assoc tks, ar := assoc ars, fs := assoc [(122, S_spec_l1In)] }
abbrev spec_l1Rising_l0_H := List Int × Int × Int × Int × Unit
abbrev spec_l1Rising_l0_O := (Bool × Unit) ⊕ Unit ⊕ Empty
def spec_l1Rising_l0_h : Form := [(0, .v K_Si), (1, .v I), (2, .v I), (7, .v I)]
def spec_l1Rising_l0_o : Outs := [(.ret, [(6, .v .bool)]), (.normal, [])]
noncomputable def spec_l1Rising_l0_r (N : Nat) (back : spec_l1Rising_l0_H → Option spec_l1Rising_l0_O) (d : spec_l1Rising_l0_H) : Option spec_l1Rising_l0_O :=
  let s0 : List Int := d.1
  let s1 : Int := d.2.1
  let s2 : Int := d.2.2.1
  let s7 : Int := d.2.2.2.1
  if (decide (s7 < (List.length s0 : Int))) = true then
    if (idxIn s7 (List.length s0)) = true then
    let r8 : Bool × Unit := g_spec_l1In ((at_ I s0 s7.toNat, (s1, (s2, ()))))
    if (!r8.1) = true then
      some (.inl (false, ()))
    else
      if (decide (s7 > (0 : Int))) = true then
        let x9 : Int := IntKind.wrap .i64 (s7 - (1 : Int))
        if (idxIn x9 (List.length s0)) = true then
        if (idxIn s7 (List.length s0)) = true then
        if (decide (at_ I s0 x9.toNat ≥ at_ I s0 s7.toNat)) = true then
          some (.inl (false, ()))
        else
          let x10 : Int := IntKind.wrap .i64 (s7 + (1 : Int))
          back ((s0, (s1, (s2, (x10, ())))))
        else none
        else none
      else
        let x11 : Int := IntKind.wrap .i64 (s7 + (1 : Int))
        back ((s0, (s1, (s2, (x11, ())))))
    else none
  else
    some (.inr (.inl ()))
noncomputable def spec_l1Rising_l0 (N : Nat) : Nat → spec_l1Rising_l0_H → Option spec_l1Rising_l0_O
  | 0, _ => none
  | k + 1, d => spec_l1Rising_l0_r N (spec_l1Rising_l0 N k) d
theorem spec_l1Rising_l0_ok (N : Nat) (back) (d) : roundR Γ_spec_l1Rising (assoc []) 0 spec_l1Rising_l0_h spec_l1Rising_l0_o (loopOf Try.f128 0) back d = spec_l1Rising_l0_r N back d := by kernel_rfl
noncomputable def F_spec_l1Rising (N : Nat) (d : List Int × Int × Int × Unit) : Option (Bool × Unit) :=
  let a0 : List Int := d.1
  let a1 : Int := d.2.1
  let a2 : Int := d.2.2.1
  (spec_l1Rising_l0 N N ((a0, (a1, (a2, ((0 : Int), ())))))).bind fun o5 => match o5 with
  | .inl d6 =>
    some (d6.1, ())
  | .inr (.inl d7) =>
    some (true, ())
theorem F_spec_l1Rising_ok (N : Nat) (d) : fnR Γ_spec_l1Rising (assoc [(0, ⟨spec_l1Rising_l0_h, spec_l1Rising_l0_o, spec_l1Rising_l0 N N⟩)]) true [(K_Si, false), (I, false), (I, false)] [.bool] Try.f128.results.toList (bodyOf Try.f128) d = F_spec_l1Rising N d := by kernel_rfl
noncomputable def S_spec_l1Rising : FSig := ⟨[(K_Si, false), (I, false), (I, false)], [.bool], true, (G_l1Rising)⟩
/-! ### spec.l2Set -/
noncomputable def Γ_spec_l2Set : Ctx := { tk := assoc tks, ar := assoc ars, fs := assoc [(128, S_spec_l1Rising)] }
noncomputable def F_spec_l2Set (N : Nat) (d : (Int × (List (Int × Int × Unit)) × Unit) × List Int × Unit) : Option (Bool × Unit) :=
  let a0 : Int × (List (Int × Int × Unit)) × Unit := d.1
  let a1 : List Int := d.2.1
  let x1 : Int := IntKind.wrap .i64 (a0.1 - (1 : Int))
  (G_l1Rising ((a1, ((0 : Int), (x1, ()))))).bind fun r2 =>
  some (r2.1, ())
theorem F_spec_l2Set_ok (N : Nat) (d) : fnR Γ_spec_l2Set (assoc []) true [(K_PiSPiiqq, false), (K_Si, false)] [.bool] Try.f121.results.toList (bodyOf Try.f121) d = F_spec_l2Set N d := by kernel_rfl
noncomputable def S_spec_l2Set : FSig := ⟨[(K_PiSPiiqq, false), (K_Si, false)], [.bool], true, (F_spec_l2Set 0)⟩
/-! ### spec.l12Good -/
noncomputable def Γ_spec_l12Good : Ctx := { tk := assoc tks, ar := assoc ars, fs := assoc [(119, S_spec_l2Good), (120, S_spec_l12Spot), (121, S_spec_l2Set), (122, S_spec_l1In)] }
noncomputable def F_spec_l12Good (N : Nat) (d : ((Int × (List (Int × Int × Unit)) × Unit) × Int × Int × List Int × Int × Unit) × Unit) : Option (Bool × Unit) :=
  let a0 : (Int × (List (Int × Int × Unit)) × Unit) × Int × Int × List Int × Int × Unit := d.1
  (G_graph (a0.1, ())).bind fun r1 =>
  if (r1.1) = true then
    let r2 : Bool × Unit := g_spec_l12Spot ((a0.1, (a0.2.1, ())))
    if (r2.1) = true then
      let r3 : Bool × Unit := g_spec_l12Spot ((a0.1, (a0.2.2.1, ())))
      if (r3.1) = true then
        ((F_spec_l2Set 0) ((a0.1, (a0.2.2.2.1, ())))).bind fun r4 =>
        if (r4.1) = true then
          let r5 : Bool × Unit := g_spec_l1In ((a0.2.2.2.2.1, ((0 : Int), ((1000 : Int), ()))))
          some (r5.1, ())
        else
          some (false, ())
      else
        some (false, ())
    else
      some (false, ())
  else
    some (false, ())
theorem F_spec_l12Good_ok (N : Nat) (d) : fnR Γ_spec_l12Good (assoc []) true [(K_PPiSPiiqqiiSiiq, false)] [.bool] Try.f69.results.toList (bodyOf Try.f69) d = F_spec_l12Good N d := by kernel_rfl
noncomputable def S_spec_l12Good : FSig := ⟨[(K_PPiSPiiqqiiSiiq, false)], [.bool], true, (F_spec_l12Good 0)⟩
/-! ### spec.IsWorkshop -/
noncomputable def Γ_spec_IsWorkshop : Ctx := { tk := assoc tks, ar := assoc ars, fs := assoc [(69, S_spec_l12Good)] }
noncomputable def F_spec_IsWorkshop (N : Nat) (d : ((Int × (List (Int × Int × Unit)) × Unit) × Int × Int × List Int × Int × Unit) × Unit) : Option (Bool × Unit) :=
  let a0 : (Int × (List (Int × Int × Unit)) × Unit) × Int × Int × List Int × Int × Unit := d.1
  ((F_spec_l12Good 0) (a0, ())).bind fun r1 =>
  some (r1.1, ())
theorem F_spec_IsWorkshop_ok (N : Nat) (d) : fnR Γ_spec_IsWorkshop (assoc []) true [(K_PPiSPiiqqiiSiiq, false)] [.bool] Try.f20.results.toList (bodyOf Try.f20) d = F_spec_IsWorkshop N d := by kernel_rfl
noncomputable def S_spec_IsWorkshop : FSig := ⟨[(K_PPiSPiiqqiiSiiq, false)], [.bool], true, (F_spec_IsWorkshop 0)⟩
/-! ### cmp.isNaN[int] -/
noncomputable def Γ_cmp_isNaN_int : Ctx := { tk := assoc tks, ar := assoc ars, fs := assoc [] }
noncomputable def F_cmp_isNaN_int (N : Nat) (d : Int × Unit) : Option (Bool × Unit) :=
  let a0 : Int := d.1
  some (a0 != a0, ())
theorem F_cmp_isNaN_int_ok (N : Nat) (d) : fnR Γ_cmp_isNaN_int (assoc []) true [(I, false)] [.bool] Try.f164.results.toList (bodyOf Try.f164) d = F_cmp_isNaN_int N d := by kernel_rfl
noncomputable def g_cmp_isNaN_int (d : Int × Unit) : Bool × Unit :=
  let a0 : Int := d.1
  (a0 != a0, ())
theorem F_cmp_isNaN_int_tot (N : Nat) (d) : F_cmp_isNaN_int N d = some (g_cmp_isNaN_int d) := by
  unfold F_cmp_isNaN_int g_cmp_isNaN_int
  first
    | rfl
    | (dsimp only; (repeat' split) <;> rfl)
noncomputable def S_cmp_isNaN_int : FSig := ⟨[(I, false)], [.bool], true, (fun d => some (g_cmp_isNaN_int d))⟩
/-! ### cmp.Compare[int] -/
noncomputable def Γ_cmp_Compare_int : Ctx := { tk := assoc tks, ar := assoc ars, fs := assoc [(164, S_cmp_isNaN_int)] }
noncomputable def F_cmp_Compare_int (N : Nat) (d : Int × Int × Unit) : Option (Int × Unit) :=
  let a0 : Int := d.1
  let a1 : Int := d.2.1
  let r1 : Bool × Unit := g_cmp_isNaN_int (a0, ())
  let r2 : Bool × Unit := g_cmp_isNaN_int (a1, ())
  if (r1.1) = true then
    if (r2.1) = true then
      some ((0 : Int), ())
    else
      some ((-1 : Int), ())
  else
    if (r2.1) = true then
      some ((1 : Int), ())
    else
      if (decide (a0 < a1)) = true then
        some ((-1 : Int), ())
      else
        if (decide (a0 > a1)) = true then
          some ((1 : Int), ())
        else
          some ((0 : Int), ())
theorem F_cmp_Compare_int_ok (N : Nat) (d) : fnR Γ_cmp_Compare_int (assoc []) true [(I, false), (I, false)] [I] Try.f149.results.toList (bodyOf Try.f149) d = F_cmp_Compare_int N d := by kernel_rfl
noncomputable def g_cmp_Compare_int (d : Int × Int × Unit) : Int × Unit :=
  let a0 : Int := d.1
  let a1 : Int := d.2.1
  let r1 : Bool × Unit := g_cmp_isNaN_int (a0, ())
  let r2 : Bool × Unit := g_cmp_isNaN_int (a1, ())
  if (r1.1) = true then
    if (r2.1) = true then
      ((0 : Int), ())
    else
      ((-1 : Int), ())
  else
    if (r2.1) = true then
      ((1 : Int), ())
    else
      if (decide (a0 < a1)) = true then
        ((-1 : Int), ())
      else
        if (decide (a0 > a1)) = true then
          ((1 : Int), ())
        else
          ((0 : Int), ())
theorem F_cmp_Compare_int_tot (N : Nat) (d) : F_cmp_Compare_int N d = some (g_cmp_Compare_int d) := by
  unfold F_cmp_Compare_int g_cmp_Compare_int
  first
    | rfl
    | (dsimp only; (repeat' split) <;> rfl)
noncomputable def S_cmp_Compare_int : FSig := ⟨[(I, false), (I, false)], [I], true, (fun d => some (g_cmp_Compare_int d))⟩
/-! ### slices.Compare[[]int,int] -/
noncomputable def Γ_slices_Compare_Sint_int : Ctx := { tk := assoc tks, ar := assoc ars, fs := assoc [(149, S_cmp_Compare_int)] }
abbrev slices_Compare_Sint_int_l0_H := List Int × List Int × List Int × Int × Int × Unit
abbrev slices_Compare_Sint_int_l0_O := (Int × Unit) ⊕ (List Int × List Int × Unit) ⊕ Empty
def slices_Compare_Sint_int_l0_h : Form := [(0, .v K_Si), (1, .v K_Si), (9, .v K_Si), (10, .v I), (11, .v I)]
def slices_Compare_Sint_int_l0_o : Outs := [(.ret, [(4, .v I)]), (.normal, [(0, .v K_Si), (1, .v K_Si)])]
noncomputable def slices_Compare_Sint_int_l0_r (N : Nat) (back : slices_Compare_Sint_int_l0_H → Option slices_Compare_Sint_int_l0_O) (d : slices_Compare_Sint_int_l0_H) : Option slices_Compare_Sint_int_l0_O :=
  let s0 : List Int := d.1
  let s1 : List Int := d.2.1
  let s9 : List Int := d.2.2.1
  let s10 : Int := d.2.2.2.1
  let s11 : Int := d.2.2.2.2.1
  if (decide (s11 < s10)) = true then
    if (idxIn s11 (List.length s9)) = true then
    if (decide (s11 ≥ (List.length s1 : Int))) = true then
      some (.inl ((1 : Int), ()))
    else
      if (idxIn s11 (List.length s1)) = true then
      let r6 : Int × Unit := g_cmp_Compare_int ((at_ I s9 s11.toNat, (at_ I s1 s11.toNat, ())))
      if (r6.1 != (0 : Int)) = true then
        some (.inl (r6.1, ()))
      else
        let x7 : Int := IntKind.wrap .i64 (s11 + (1 : Int))
        back ((s0, (s1, (s9, (s10, (x7, ()))))))
      else none
    else none
  else
    some (.inr (.inl ((s0, (s1, ())))))
noncomputable def slices_Compare_Sint_int_l0 (N : Nat) : Nat → slices_Compare_Sint_int_l0_H → Option slices_Compare_Sint_int_l0_O
  | 0, _ => none
  | k + 1, d => slices_Compare_Sint_int_l0_r N (slices_Compare_Sint_int_l0 N k) d
theorem slices_Compare_Sint_int_l0_ok (N : Nat) (back) (d) : roundR Γ_slices_Compare_Sint_int (assoc []) 0 slices_Compare_Sint_int_l0_h slices_Compare_Sint_int_l0_o (loopOf Try.f126 0) back d = slices_Compare_Sint_int_l0_r N back d := by kernel_rfl
noncomputable def F_slices_Compare_Sint_int (N : Nat) (d : List Int × List Int × Unit) : Option (Int × Unit) :=
  let a0 : List Int := d.1
  let a1 : List Int := d.2.1
  (slices_Compare_Sint_int_l0 N N ((a0, (a1, (a0, ((List.length a0 : Int), ((0 : Int), ()))))))).bind fun o3 => match o3 with
  | .inl d4 =>
    some (d4.1, ())
  | .inr (.inl d5) =>
    if (decide ((List.length d5.1 : Int) < (List.length d5.2.1 : Int))) = true then
      some ((-1 : Int), ())
    else
      some ((0 : Int), ())
theorem F_slices_Compare_Sint_int_ok (N : Nat) (d) : fnR Γ_slices_Compare_Sint_int (assoc [(0, ⟨slices_Compare_Sint_int_l0_h, slices_Compare_Sint_int_l0_o, slices_Compare_Sint_int_l0 N N⟩)]) true [(K_Si, false), (K_Si, false)] [I] Try.f126.results.toList (bodyOf Try.f126) d = F_slices_Compare_Sint_int N d := by kernel_rfl
noncomputable def S_slices_Compare_Sint_int : FSig := ⟨[(K_Si, false), (K_Si, false)], [I], true, (G_compare)⟩
/-! ### impl.IsGraph -/
noncomputable def Γ_impl_IsGraph : Ctx := { tk := assoc tks, ar := assoc ars, fs := assoc [(72, S_impl_within), (126, S_slices_Compare_Sint_int)] }
abbrev impl_IsGraph_l0_H := (Int × (List (Int × Int × Unit)) × Unit) × (List (Int × Int × Unit)) × Int × Int × Unit
abbrev impl_IsGraph_l0_O := (Bool × Unit) ⊕ Unit ⊕ Empty
def impl_IsGraph_l0_h : Form := [(1, .box K_PiSPiiqq 0), (10, .v K_SPiiq), (11, .v I), (12, .v I)]
def impl_IsGraph_l0_o : Outs := [(.ret, [(2, .v .bool)]), (.normal, [])]
noncomputable def impl_IsGraph_l0_r (N : Nat) (back : impl_IsGraph_l0_H → Option impl_IsGraph_l0_O) (d : impl_IsGraph_l0_H) : Option impl_IsGraph_l0_O :=
  let s1 : Int × (List (Int × Int × Unit)) × Unit := d.1
  let s10 : List (Int × Int × Unit) := d.2.1
  let s11 : Int := d.2.2.1
  let s12 : Int := d.2.2.2.1
  if (decide (s12 < s11)) = true then
    if (idxIn s12 (List.length s10)) = true then
    if (decide ((at_ K_Piiq s10 s12.toNat).1 < (0 : Int))) = true then
      some (.inl (false, ()))
    else
      if (decide ((at_ K_Piiq s10 s12.toNat).1 ≥ (at_ K_Piiq s10 s12.toNat).2.1)) = true then
        some (.inl (false, ()))
      else
        if (decide ((at_ K_Piiq s10 s12.toNat).2.1 ≥ s1.1)) = true then
          some (.inl (false, ()))
        else
          if (decide (s12 > (0 : Int))) = true then
            let x9 : Int := IntKind.wrap .i64 (s12 - (1 : Int))
            if (idxIn x9 (List.length s1.2.1)) = true then
            (G_compare (([(at_ K_Piiq s1.2.1 x9.toNat).1, (at_ K_Piiq s1.2.1 x9.toNat).2.1], ([(at_ K_Piiq s10 s12.toNat).1, (at_ K_Piiq s10 s12.toNat).2.1], ())))).bind fun r10 =>
            if (decide (r10.1 ≥ (0 : Int))) = true then
              some (.inl (false, ()))
            else
              let x11 : Int := IntKind.wrap .i64 (s12 + (1 : Int))
              back ((s1, (s10, (s11, (x11, ())))))
            else none
          else
            let x12 : Int := IntKind.wrap .i64 (s12 + (1 : Int))
            back ((s1, (s10, (s11, (x12, ())))))
    else none
  else
    some (.inr (.inl ()))
noncomputable def impl_IsGraph_l0 (N : Nat) : Nat → impl_IsGraph_l0_H → Option impl_IsGraph_l0_O
  | 0, _ => none
  | k + 1, d => impl_IsGraph_l0_r N (impl_IsGraph_l0 N k) d
theorem impl_IsGraph_l0_ok (N : Nat) (back) (d) : roundR Γ_impl_IsGraph (assoc []) 0 impl_IsGraph_l0_h impl_IsGraph_l0_o (loopOf Try.f76 0) back d = impl_IsGraph_l0_r N back d := by kernel_rfl
noncomputable def F_impl_IsGraph (N : Nat) (d : (Int × (List (Int × Int × Unit)) × Unit) × Unit) : Option (Bool × Unit) :=
  let a0 : Int × (List (Int × Int × Unit)) × Unit := d.1
  let r1 : Bool × Unit := g_impl_within ((a0.1, ((0 : Int), ((8 : Int), ()))))
  if (!r1.1) = true then
    some (false, ())
  else
    (impl_IsGraph_l0 N N ((a0, (a0.2.1, ((List.length a0.2.1 : Int), ((0 : Int), ())))))).bind fun o6 => match o6 with
    | .inl d7 =>
      some (d7.1, ())
    | .inr (.inl d8) =>
      some (true, ())
theorem F_impl_IsGraph_ok (N : Nat) (d) : fnR Γ_impl_IsGraph (assoc [(0, ⟨impl_IsGraph_l0_h, impl_IsGraph_l0_o, impl_IsGraph_l0 N N⟩)]) true [(K_PiSPiiqq, false)] [.bool] Try.f76.results.toList (bodyOf Try.f76) d = F_impl_IsGraph N d := by kernel_rfl
noncomputable def S_impl_IsGraph : FSig := ⟨[(K_PiSPiiqq, false)], [.bool], true, (G_graph)⟩
/-! ### impl.allWithin -/
noncomputable def Γ_impl_allWithin : Ctx := { tk := assoc tks, ar := assoc ars, fs := assoc [(72, S_impl_within)] }
abbrev impl_allWithin_l0_H := Int × Int × List Int × Int × Int × Unit
abbrev impl_allWithin_l0_O := (Bool × Unit) ⊕ Unit ⊕ Empty
def impl_allWithin_l0_h : Form := [(1, .v I), (2, .v I), (9, .v K_Si), (10, .v I), (11, .v I)]
def impl_allWithin_l0_o : Outs := [(.ret, [(6, .v .bool)]), (.normal, [])]
noncomputable def impl_allWithin_l0_r (N : Nat) (back : impl_allWithin_l0_H → Option impl_allWithin_l0_O) (d : impl_allWithin_l0_H) : Option impl_allWithin_l0_O :=
  let s1 : Int := d.1
  let s2 : Int := d.2.1
  let s9 : List Int := d.2.2.1
  let s10 : Int := d.2.2.2.1
  let s11 : Int := d.2.2.2.2.1
  if (decide (s11 < s10)) = true then
    if (idxIn s11 (List.length s9)) = true then
    let r6 : Bool × Unit := g_impl_within ((at_ I s9 s11.toNat, (s1, (s2, ()))))
    if (!r6.1) = true then
      some (.inl (false, ()))
    else
      let x7 : Int := IntKind.wrap .i64 (s11 + (1 : Int))
      back ((s1, (s2, (s9, (s10, (x7, ()))))))
    else none
  else
    some (.inr (.inl ()))
noncomputable def impl_allWithin_l0 (N : Nat) : Nat → impl_allWithin_l0_H → Option impl_allWithin_l0_O
  | 0, _ => none
  | k + 1, d => impl_allWithin_l0_r N (impl_allWithin_l0 N k) d
theorem impl_allWithin_l0_ok (N : Nat) (back) (d) : roundR Γ_impl_allWithin (assoc []) 0 impl_allWithin_l0_h impl_allWithin_l0_o (loopOf Try.f86 0) back d = impl_allWithin_l0_r N back d := by kernel_rfl
noncomputable def F_impl_allWithin (N : Nat) (d : List Int × Int × Int × Unit) : Option (Bool × Unit) :=
  let a0 : List Int := d.1
  let a1 : Int := d.2.1
  let a2 : Int := d.2.2.1
  (impl_allWithin_l0 N N ((a1, (a2, (a0, ((List.length a0 : Int), ((0 : Int), ()))))))).bind fun o3 => match o3 with
  | .inl d4 =>
    some (d4.1, ())
  | .inr (.inl d5) =>
    some (true, ())
theorem F_impl_allWithin_ok (N : Nat) (d) : fnR Γ_impl_allWithin (assoc [(0, ⟨impl_allWithin_l0_h, impl_allWithin_l0_o, impl_allWithin_l0 N N⟩)]) true [(K_Si, false), (I, false), (I, false)] [.bool] Try.f86.results.toList (bodyOf Try.f86) d = F_impl_allWithin N d := by kernel_rfl
noncomputable def S_impl_allWithin : FSig := ⟨[(K_Si, false), (I, false), (I, false)], [.bool], true, (G_allWithin)⟩
/-! ### impl.hasNodes -/
noncomputable def Γ_impl_hasNodes : Ctx := { tk := assoc tks, ar := assoc ars, fs := assoc [(76, S_impl_IsGraph), (86, S_impl_allWithin)] }
noncomputable def F_impl_hasNodes (N : Nat) (d : (Int × (List (Int × Int × Unit)) × Unit) × List Int × Unit) : Option (Bool × Unit) :=
  let a0 : Int × (List (Int × Int × Unit)) × Unit := d.1
  let a1 : List Int := d.2.1
  (G_graph (a0, ())).bind fun r1 =>
  if (r1.1) = true then
    let x2 : Int := IntKind.wrap .i64 (a0.1 - (1 : Int))
    (G_allWithin ((a1, ((0 : Int), (x2, ()))))).bind fun r3 =>
    some (r3.1, ())
  else
    some (false, ())
theorem F_impl_hasNodes_ok (N : Nat) (d) : fnR Γ_impl_hasNodes (assoc []) true [(K_PiSPiiqq, false), (K_Si, false)] [.bool] Try.f123.results.toList (bodyOf Try.f123) d = F_impl_hasNodes N d := by kernel_rfl
noncomputable def S_impl_hasNodes : FSig := ⟨[(K_PiSPiiqq, false), (K_Si, false)], [.bool], true, (F_impl_hasNodes 0)⟩
/-! ### impl.increasing -/
noncomputable def Γ_impl_increasing : Ctx := { tk := assoc tks, ar := assoc ars, fs := assoc [] }
abbrev impl_increasing_l0_H := List Int × Int × Unit
abbrev impl_increasing_l0_O := (Bool × Unit) ⊕ Unit ⊕ Empty
def impl_increasing_l0_h : Form := [(0, .v K_Si), (3, .v I)]
def impl_increasing_l0_o : Outs := [(.ret, [(2, .v .bool)]), (.normal, [])]
noncomputable def impl_increasing_l0_r (N : Nat) (back : impl_increasing_l0_H → Option impl_increasing_l0_O) (d : impl_increasing_l0_H) : Option impl_increasing_l0_O :=
  let s0 : List Int := d.1
  let s3 : Int := d.2.1
  if (decide (s3 < (List.length s0 : Int))) = true then
    let x6 : Int := IntKind.wrap .i64 (s3 - (1 : Int))
    if (idxIn x6 (List.length s0)) = true then
    if (idxIn s3 (List.length s0)) = true then
    if (decide (at_ I s0 x6.toNat ≥ at_ I s0 s3.toNat)) = true then
      some (.inl (false, ()))
    else
      let x7 : Int := IntKind.wrap .i64 (s3 + (1 : Int))
      back ((s0, (x7, ())))
    else none
    else none
  else
    some (.inr (.inl ()))
noncomputable def impl_increasing_l0 (N : Nat) : Nat → impl_increasing_l0_H → Option impl_increasing_l0_O
  | 0, _ => none
  | k + 1, d => impl_increasing_l0_r N (impl_increasing_l0 N k) d
theorem impl_increasing_l0_ok (N : Nat) (back) (d) : roundR Γ_impl_increasing (assoc []) 0 impl_increasing_l0_h impl_increasing_l0_o (loopOf Try.f85 0) back d = impl_increasing_l0_r N back d := by kernel_rfl
noncomputable def F_impl_increasing (N : Nat) (d : List Int × Unit) : Option (Bool × Unit) :=
  let a0 : List Int := d.1
  (impl_increasing_l0 N N ((a0, ((1 : Int), ())))).bind fun o3 => match o3 with
  | .inl d4 =>
    some (d4.1, ())
  | .inr (.inl d5) =>
    some (true, ())
theorem F_impl_increasing_ok (N : Nat) (d) : fnR Γ_impl_increasing (assoc [(0, ⟨impl_increasing_l0_h, impl_increasing_l0_o, impl_increasing_l0 N N⟩)]) true [(K_Si, false)] [.bool] Try.f85.results.toList (bodyOf Try.f85) d = F_impl_increasing N d := by kernel_rfl
noncomputable def S_impl_increasing : FSig := ⟨[(K_Si, false)], [.bool], true, (G_increasing)⟩
/-! ### impl.isSet -/
noncomputable def Γ_impl_isSet : Ctx := { tk := assoc tks, ar := assoc ars, fs := assoc [(85, S_impl_increasing), (123, S_impl_hasNodes)] }
noncomputable def F_impl_isSet (N : Nat) (d : (Int × (List (Int × Int × Unit)) × Unit) × List Int × Unit) : Option (Bool × Unit) :=
  let a0 : Int × (List (Int × Int × Unit)) × Unit := d.1
  let a1 : List Int := d.2.1
  ((F_impl_hasNodes 0) ((a0, (a1, ())))).bind fun r1 =>
  if (r1.1) = true then
    (G_increasing (a1, ())).bind fun r2 =>
    some (r2.1, ())
  else
    some (false, ())
theorem F_impl_isSet_ok (N : Nat) (d) : fnR Γ_impl_isSet (assoc []) true [(K_PiSPiiqq, false), (K_Si, false)] [.bool] Try.f71.results.toList (bodyOf Try.f71) d = F_impl_isSet N d := by kernel_rfl
noncomputable def S_impl_isSet : FSig := ⟨[(K_PiSPiiqq, false), (K_Si, false)], [.bool], true, (F_impl_isSet 0)⟩
/-! ### impl.IsWorkshop -/
noncomputable def Γ_impl_IsWorkshop : Ctx := { tk := assoc tks, ar := assoc ars, fs := assoc [(71, S_impl_isSet), (72, S_impl_within)] }
noncomputable def F_impl_IsWorkshop (N : Nat) (d : ((Int × (List (Int × Int × Unit)) × Unit) × Int × Int × List Int × Int × Unit) × Unit) : Option (Bool × Unit) :=
  let a0 : (Int × (List (Int × Int × Unit)) × Unit) × Int × Int × List Int × Int × Unit := d.1
  ((F_impl_isSet 0) ((a0.1, (a0.2.2.2.1, ())))).bind fun r1 =>
  if (r1.1) = true then
    let x2 : Int := IntKind.wrap .i64 (a0.1.1 - (1 : Int))
    let r3 : Bool × Unit := g_impl_within ((a0.2.1, ((-1 : Int), (x2, ()))))
    if (r3.1) = true then
      let x4 : Int := IntKind.wrap .i64 (a0.1.1 - (1 : Int))
      let r5 : Bool × Unit := g_impl_within ((a0.2.2.1, ((-1 : Int), (x4, ()))))
      if (r5.1) = true then
        let r6 : Bool × Unit := g_impl_within ((a0.2.2.2.2.1, ((0 : Int), ((1000 : Int), ()))))
        some (r6.1, ())
      else
        some (false, ())
    else
      some (false, ())
  else
    some (false, ())
theorem F_impl_IsWorkshop_ok (N : Nat) (d) : fnR Γ_impl_IsWorkshop (assoc []) true [(K_PPiSPiiqqiiSiiq, false)] [.bool] Try.f22.results.toList (bodyOf Try.f22) d = F_impl_IsWorkshop N d := by kernel_rfl
noncomputable def S_impl_IsWorkshop : FSig := ⟨[(K_PPiSPiiqqiiSiiq, false)], [.bool], true, (F_impl_IsWorkshop 0)⟩
/-! ### laws.eqIntA2 -/
noncomputable def Γ_laws_eqIntA2 : Ctx := { tk := assoc tks, ar := assoc ars, fs := assoc [] }
abbrev laws_eqIntA2_l0_H := (Int × Int × Unit) × (Int × Int × Unit) × Int × Unit
abbrev laws_eqIntA2_l0_O := (Bool × Unit) ⊕ Unit ⊕ Empty
def laws_eqIntA2_l0_h : Form := [(2, .box K_Piiq 99), (3, .box K_Piiq 99), (5, .v I)]
def laws_eqIntA2_l0_o : Outs := [(.ret, [(4, .v .bool)]), (.normal, [])]
noncomputable def laws_eqIntA2_l0_r (N : Nat) (back : laws_eqIntA2_l0_H → Option laws_eqIntA2_l0_O) (d : laws_eqIntA2_l0_H) : Option laws_eqIntA2_l0_O :=
  let s2 : Int × Int × Unit := d.1
  let s3 : Int × Int × Unit := d.2.1
  let s5 : Int := d.2.2.1
  if (decide (s5 < (2 : Int))) = true then
    if (s5 == (0 : Int)) = true then
      if (s5 == (0 : Int)) = true then
        if (s2.1 != s3.1) = true then
          some (.inl (false, ()))
        else
          let x11 : Int := IntKind.wrap .i64 (s5 + (1 : Int))
          back ((s2, (s3, (x11, ()))))
      else
        if (s5 == (1 : Int)) = true then
        if (s2.1 != s3.2.1) = true then
          some (.inl (false, ()))
        else
          let x10 : Int := IntKind.wrap .i64 (s5 + (1 : Int))
          back ((s2, (s3, (x10, ()))))
        else none
    else
      if (s5 == (1 : Int)) = true then
      if (s5 == (0 : Int)) = true then
        if (s2.2.1 != s3.1) = true then
          some (.inl (false, ()))
        else
          let x9 : Int := IntKind.wrap .i64 (s5 + (1 : Int))
          back ((s2, (s3, (x9, ()))))
      else
        if (s5 == (1 : Int)) = true then
        if (s2.2.1 != s3.2.1) = true then
          some (.inl (false, ()))
        else
          let x8 : Int := IntKind.wrap .i64 (s5 + (1 : Int))
          back ((s2, (s3, (x8, ()))))
        else none
      else none
  else
    some (.inr (.inl ()))
noncomputable def laws_eqIntA2_l0 (N : Nat) : Nat → laws_eqIntA2_l0_H → Option laws_eqIntA2_l0_O
  | 0, _ => none
  | k + 1, d => laws_eqIntA2_l0_r N (laws_eqIntA2_l0 N k) d
theorem laws_eqIntA2_l0_ok (N : Nat) (back) (d) : roundR Γ_laws_eqIntA2 (assoc []) 0 laws_eqIntA2_l0_h laws_eqIntA2_l0_o (loopOf Try.f127 0) back d = laws_eqIntA2_l0_r N back d := by kernel_rfl
noncomputable def F_laws_eqIntA2 (N : Nat) (d : (Int × Int × Unit) × (Int × Int × Unit) × Unit) : Option (Bool × Unit) :=
  let a0 : Int × Int × Unit := d.1
  let a1 : Int × Int × Unit := d.2.1
  (laws_eqIntA2_l0 N N ((a0, (a1, ((0 : Int), ()))))).bind fun o5 => match o5 with
  | .inl d6 =>
    some (d6.1, ())
  | .inr (.inl d7) =>
    some (true, ())
theorem F_laws_eqIntA2_ok (N : Nat) (d) : fnR Γ_laws_eqIntA2 (assoc [(0, ⟨laws_eqIntA2_l0_h, laws_eqIntA2_l0_o, laws_eqIntA2_l0 N N⟩)]) true [(K_Piiq, false), (K_Piiq, false)] [.bool] Try.f127.results.toList (bodyOf Try.f127) d = F_laws_eqIntA2 N d := by kernel_rfl
noncomputable def S_laws_eqIntA2 : FSig := ⟨[(K_Piiq, false), (K_Piiq, false)], [.bool], true, (G_eqIntA2)⟩
/-! ### laws.eqIntA2S -/
noncomputable def Γ_laws_eqIntA2S : Ctx := { tk := assoc tks, ar := assoc ars, fs := assoc [(127, S_laws_eqIntA2)] }
abbrev laws_eqIntA2S_l0_H := (List (Int × Int × Unit)) × (List (Int × Int × Unit)) × Int × Unit
abbrev laws_eqIntA2S_l0_O := (Bool × Unit) ⊕ Unit ⊕ Empty
def laws_eqIntA2S_l0_h : Form := [(0, .v K_SPiiq), (1, .v K_SPiiq), (5, .v I)]
def laws_eqIntA2S_l0_o : Outs := [(.ret, [(4, .v .bool)]), (.normal, [])]
noncomputable def laws_eqIntA2S_l0_r (N : Nat) (back : laws_eqIntA2S_l0_H → Option laws_eqIntA2S_l0_O) (d : laws_eqIntA2S_l0_H) : Option laws_eqIntA2S_l0_O :=
  let s0 : List (Int × Int × Unit) := d.1
  let s1 : List (Int × Int × Unit) := d.2.1
  let s5 : Int := d.2.2.1
  if (decide (s5 < (List.length s0 : Int))) = true then
    if (idxIn s5 (List.length s0)) = true then
    if (idxIn s5 (List.length s1)) = true then
    (G_eqIntA2 ((at_ K_Piiq s0 s5.toNat, (at_ K_Piiq s1 s5.toNat, ())))).bind fun r6 =>
    if (!r6.1) = true then
      some (.inl (false, ()))
    else
      let x7 : Int := IntKind.wrap .i64 (s5 + (1 : Int))
      back ((s0, (s1, (x7, ()))))
    else none
    else none
  else
    some (.inr (.inl ()))
noncomputable def laws_eqIntA2S_l0 (N : Nat) : Nat → laws_eqIntA2S_l0_H → Option laws_eqIntA2S_l0_O
  | 0, _ => none
  | k + 1, d => laws_eqIntA2S_l0_r N (laws_eqIntA2S_l0 N k) d
theorem laws_eqIntA2S_l0_ok (N : Nat) (back) (d) : roundR Γ_laws_eqIntA2S (assoc []) 0 laws_eqIntA2S_l0_h laws_eqIntA2S_l0_o (loopOf Try.f78 0) back d = laws_eqIntA2S_l0_r N back d := by kernel_rfl
noncomputable def F_laws_eqIntA2S (N : Nat) (d : (List (Int × Int × Unit)) × (List (Int × Int × Unit)) × Unit) : Option (Bool × Unit) :=
  let a0 : List (Int × Int × Unit) := d.1
  let a1 : List (Int × Int × Unit) := d.2.1
  if ((List.length a0 : Int) != (List.length a1 : Int)) = true then
    some (false, ())
  else
    (laws_eqIntA2S_l0 N N ((a0, (a1, ((0 : Int), ()))))).bind fun o3 => match o3 with
    | .inl d4 =>
      some (d4.1, ())
    | .inr (.inl d5) =>
      some (true, ())
theorem F_laws_eqIntA2S_ok (N : Nat) (d) : fnR Γ_laws_eqIntA2S (assoc [(0, ⟨laws_eqIntA2S_l0_h, laws_eqIntA2S_l0_o, laws_eqIntA2S_l0 N N⟩)]) true [(K_SPiiq, false), (K_SPiiq, false)] [.bool] Try.f78.results.toList (bodyOf Try.f78) d = F_laws_eqIntA2S N d := by kernel_rfl
noncomputable def S_laws_eqIntA2S : FSig := ⟨[(K_SPiiq, false), (K_SPiiq, false)], [.bool], true, (G_eqIntA2S)⟩
/-! ### laws.eqGraph -/
noncomputable def Γ_laws_eqGraph : Ctx := { tk := assoc tks, ar := assoc ars, fs := assoc [(78, S_laws_eqIntA2S)] }
noncomputable def F_laws_eqGraph (N : Nat) (d : (Int × (List (Int × Int × Unit)) × Unit) × (Int × (List (Int × Int × Unit)) × Unit) × Unit) : Option (Bool × Unit) :=
  let a0 : Int × (List (Int × Int × Unit)) × Unit := d.1
  let a1 : Int × (List (Int × Int × Unit)) × Unit := d.2.1
  if (a0.1 != a1.1) = true then
    some (false, ())
  else
    (G_eqIntA2S ((a0.2.1, (a1.2.1, ())))).bind fun r1 =>
    if (!r1.1) = true then
      some (false, ())
    else
      some (true, ())
theorem F_laws_eqGraph_ok (N : Nat) (d) : fnR Γ_laws_eqGraph (assoc []) true [(K_PiSPiiqq, false), (K_PiSPiiqq, false)] [.bool] Try.f28.results.toList (bodyOf Try.f28) d = F_laws_eqGraph N d := by kernel_rfl
noncomputable def S_laws_eqGraph : FSig := ⟨[(K_PiSPiiqq, false), (K_PiSPiiqq, false)], [.bool], true, (F_laws_eqGraph 0)⟩
/-! ### laws.eqIntS -/
noncomputable def Γ_laws_eqIntS : Ctx := { tk := assoc tks, ar := assoc ars, fs := assoc [] }
abbrev laws_eqIntS_l0_H := List Int × List Int × Int × Unit
abbrev laws_eqIntS_l0_O := (Bool × Unit) ⊕ Unit ⊕ Empty
def laws_eqIntS_l0_h : Form := [(0, .v K_Si), (1, .v K_Si), (5, .v I)]
def laws_eqIntS_l0_o : Outs := [(.ret, [(4, .v .bool)]), (.normal, [])]
noncomputable def laws_eqIntS_l0_r (N : Nat) (back : laws_eqIntS_l0_H → Option laws_eqIntS_l0_O) (d : laws_eqIntS_l0_H) : Option laws_eqIntS_l0_O :=
  let s0 : List Int := d.1
  let s1 : List Int := d.2.1
  let s5 : Int := d.2.2.1
  if (decide (s5 < (List.length s0 : Int))) = true then
    if (idxIn s5 (List.length s0)) = true then
    if (idxIn s5 (List.length s1)) = true then
    if (at_ I s0 s5.toNat != at_ I s1 s5.toNat) = true then
      some (.inl (false, ()))
    else
      let x5 : Int := IntKind.wrap .i64 (s5 + (1 : Int))
      back ((s0, (s1, (x5, ()))))
    else none
    else none
  else
    some (.inr (.inl ()))
noncomputable def laws_eqIntS_l0 (N : Nat) : Nat → laws_eqIntS_l0_H → Option laws_eqIntS_l0_O
  | 0, _ => none
  | k + 1, d => laws_eqIntS_l0_r N (laws_eqIntS_l0 N k) d
theorem laws_eqIntS_l0_ok (N : Nat) (back) (d) : roundR Γ_laws_eqIntS (assoc []) 0 laws_eqIntS_l0_h laws_eqIntS_l0_o (loopOf Try.f53 0) back d = laws_eqIntS_l0_r N back d := by kernel_rfl
noncomputable def F_laws_eqIntS (N : Nat) (d : List Int × List Int × Unit) : Option (Bool × Unit) :=
  let a0 : List Int := d.1
  let a1 : List Int := d.2.1
  if ((List.length a0 : Int) != (List.length a1 : Int)) = true then
    some (false, ())
  else
    (laws_eqIntS_l0 N N ((a0, (a1, ((0 : Int), ()))))).bind fun o2 => match o2 with
    | .inl d3 =>
      some (d3.1, ())
    | .inr (.inl d4) =>
      some (true, ())
theorem F_laws_eqIntS_ok (N : Nat) (d) : fnR Γ_laws_eqIntS (assoc [(0, ⟨laws_eqIntS_l0_h, laws_eqIntS_l0_o, laws_eqIntS_l0 N N⟩)]) true [(K_Si, false), (K_Si, false)] [.bool] Try.f53.results.toList (bodyOf Try.f53) d = F_laws_eqIntS N d := by kernel_rfl
noncomputable def S_laws_eqIntS : FSig := ⟨[(K_Si, false), (K_Si, false)], [.bool], true, (G_eqIntS)⟩
/-! ### laws.eqWorkshop -/
noncomputable def Γ_laws_eqWorkshop : Ctx := { tk := assoc tks, ar := assoc ars, fs := assoc [(28, S_laws_eqGraph), (53, S_laws_eqIntS)] }
noncomputable def F_laws_eqWorkshop (N : Nat) (d : ((Int × (List (Int × Int × Unit)) × Unit) × Int × Int × List Int × Int × Unit) × ((Int × (List (Int × Int × Unit)) × Unit) × Int × Int × List Int × Int × Unit) × Unit) : Option (Bool × Unit) :=
  let a0 : (Int × (List (Int × Int × Unit)) × Unit) × Int × Int × List Int × Int × Unit := d.1
  let a1 : (Int × (List (Int × Int × Unit)) × Unit) × Int × Int × List Int × Int × Unit := d.2.1
  ((F_laws_eqGraph 0) ((a0.1, (a1.1, ())))).bind fun r1 =>
  if (!r1.1) = true then
    some (false, ())
  else
    if (a0.2.1 != a1.2.1) = true then
      some (false, ())
    else
      if (a0.2.2.1 != a1.2.2.1) = true then
        some (false, ())
      else
        (G_eqIntS ((a0.2.2.2.1, (a1.2.2.2.1, ())))).bind fun r2 =>
        if (!r2.1) = true then
          some (false, ())
        else
          if (a0.2.2.2.2.1 != a1.2.2.2.2.1) = true then
            some (false, ())
          else
            some (true, ())
theorem F_laws_eqWorkshop_ok (N : Nat) (d) : fnR Γ_laws_eqWorkshop (assoc []) true [(K_PPiSPiiqqiiSiiq, false), (K_PPiSPiiqqiiSiiq, false)] [.bool] Try.f23.results.toList (bodyOf Try.f23) d = F_laws_eqWorkshop N d := by kernel_rfl
noncomputable def S_laws_eqWorkshop : FSig := ⟨[(K_PPiSPiiqqiiSiiq, false), (K_PPiSPiiqqiiSiiq, false)], [.bool], true, (F_laws_eqWorkshop 0)⟩
/-! ### laws.FnExactIsWorkshop -/
noncomputable def Γ_laws_FnExactIsWorkshop : Ctx := { tk := assoc tks, ar := assoc ars, fs := assoc [(19, S_laws_szWorkshop), (20, S_spec_IsWorkshop), (21, S_laws_toWorkshop), (22, S_impl_IsWorkshop), (23, S_laws_eqWorkshop)] }
noncomputable def F_laws_FnExactIsWorkshop (N : Nat) (d : ((Int × (List (Int × Int × Unit)) × Unit) × Int × Int × List Int × Int × Unit) × Unit) : Option (Bool × Unit) :=
  let a0 : (Int × (List (Int × Int × Unit)) × Unit) × Int × Int × List Int × Int × Unit := d.1
  let r1 : Int × Unit := g_laws_szWorkshop ((a0, ((1048576 : Int), ())))
  if (decide (r1.1 < (0 : Int))) = true then
    some (true, ())
  else
    ((F_laws_toWorkshop 0) (a0, ())).bind fun r2 =>
    ((F_spec_IsWorkshop 0) (r2.1, ())).bind fun r3 =>
    ((F_laws_toWorkshop 0) (a0, ())).bind fun r4 =>
    ((F_impl_IsWorkshop 0) (r4.1, ())).bind fun r5 =>
    if (!(r5.1 == r3.1)) = true then
      some (false, ())
    else
      ((F_laws_toWorkshop 0) (a0, ())).bind fun r6 =>
      ((F_laws_eqWorkshop 0) ((r4.1, (r6.1, ())))).bind fun r7 =>
      if (!r7.1) = true then
        some (false, ())
      else
        some (true, ())
theorem F_laws_FnExactIsWorkshop_ok (N : Nat) (d) : fnR Γ_laws_FnExactIsWorkshop (assoc []) true [(K_PPiSPiiqqiiSiiq, false)] [.bool] Try.f4.results.toList (bodyOf Try.f4) d = F_laws_FnExactIsWorkshop N d := by kernel_rfl
noncomputable def S_laws_FnExactIsWorkshop : FSig := ⟨[(K_PPiSPiiqqiiSiiq, false)], [.bool], true, (F_laws_FnExactIsWorkshop 0)⟩
/-! ### spec.l1Own -/
noncomputable def Γ_spec_l1Own : Ctx := { tk := assoc tks, ar := assoc ars, fs := assoc [] }
noncomputable def F_spec_l1Own (N : Nat) (d : List Int × Unit) : Option (List Int × Unit) :=
  let a0 : List Int := d.1
  if (decide (List.length ([] : List Int) + List.length a0 ≤ lim)) = true then
  some (([] : List Int) ++ a0, ())
  else none
theorem F_spec_l1Own_ok (N : Nat) (d) : fnR Γ_spec_l1Own (assoc []) true [(K_Si, false)] [K_Si] Try.f124.results.toList (bodyOf Try.f124) d = F_spec_l1Own N d := by kernel_rfl
noncomputable def S_spec_l1Own : FSig := ⟨[(K_Si, false)], [K_Si], true, (F_spec_l1Own 0)⟩
/-! ### spec.l12Own -/
noncomputable def Γ_spec_l12Own : Ctx := { tk := assoc tks, ar := assoc ars, fs := assoc [(124, S_spec_l1Own)] }
noncomputable def F_spec_l12Own (N : Nat) (d : ((Int × (List (Int × Int × Unit)) × Unit) × Int × Int × List Int × Int × Unit) × Unit) : Option (((Int × (List (Int × Int × Unit)) × Unit) × Int × Int × List Int × Int × Unit) × Unit) :=
  let a0 : (Int × (List (Int × Int × Unit)) × Unit) × Int × Int × List Int × Int × Unit := d.1
  if (decide (List.length ([] : List (Int × Int × Unit)) + List.length a0.1.2.1 ≤ lim)) = true then
  let x1 : List (Int × Int × Unit) := ([] : List (Int × Int × Unit)) ++ a0.1.2.1
  ((F_spec_l1Own 0) (a0.2.2.2.1, ())).bind fun r2 =>
  some ((((a0.1.1, (x1, ())), (a0.2.1, (a0.2.2.1, (r2.1, (a0.2.2.2.2.1, ()))))), ()))
  else none
theorem F_spec_l12Own_ok (N : Nat) (d) : fnR Γ_spec_l12Own (assoc []) true [(K_PPiSPiiqqiiSiiq, false)] [K_PPiSPiiqqiiSiiq] Try.f74.results.toList (bodyOf Try.f74) d = F_spec_l12Own N d := by kernel_rfl
noncomputable def S_spec_l12Own : FSig := ⟨[(K_PPiSPiiqqiiSiiq, false)], [K_PPiSPiiqqiiSiiq], true, (F_spec_l12Own 0)⟩
/-! ### spec.NewWorkshop -/
noncomputable def Γ_spec_NewWorkshop : Ctx := { tk := assoc tks, ar := assoc ars, fs := assoc [(69, S_spec_l12Good), (74, S_spec_l12Own)] }
noncomputable def F_spec_NewWorkshop (N : Nat) (d : (Int × (List (Int × Int × Unit)) × Unit) × Unit) : Option (((Int × (List (Int × Int × Unit)) × Unit) × Int × Int × List Int × Int × Unit) × Bool × Unit) :=
  let a0 : Int × (List (Int × Int × Unit)) × Unit := d.1
  ((F_spec_l12Good 0) (((a0, ((-1 : Int), ((-1 : Int), (([] : List Int), ((0 : Int), ()))))), ()))).bind fun r1 =>
  if (!r1.1) = true then
    some (((((0 : Int), (([] : List (Int × Int × Unit)), ())), ((0 : Int), ((0 : Int), (([] : List Int), ((0 : Int), ()))))), (false, ())))
  else
    ((F_spec_l12Own 0) (((a0, ((-1 : Int), ((-1 : Int), (([] : List Int), ((0 : Int), ()))))), ()))).bind fun r2 =>
    some ((r2.1, (true, ())))
theorem F_spec_NewWorkshop_ok (N : Nat) (d) : fnR Γ_spec_NewWorkshop (assoc []) true [(K_PiSPiiqq, false)] [K_PPiSPiiqqiiSiiq, .bool] Try.f25.results.toList (bodyOf Try.f25) d = F_spec_NewWorkshop N d := by kernel_rfl
noncomputable def S_spec_NewWorkshop : FSig := ⟨[(K_PiSPiiqq, false)], [K_PPiSPiiqqiiSiiq, .bool], true, (F_spec_NewWorkshop 0)⟩
/-! ### slices.Clone[[][2]int,[2]int] -/
noncomputable def Γ_slices_Clone_S_2_int_2_int : Ctx := { tk := assoc tks, ar := assoc ars, fs := assoc [] }
noncomputable def F_slices_Clone_S_2_int_2_int (N : Nat) (d : (List (Int × Int × Unit)) × Unit) : Option ((List (Int × Int × Unit)) × Unit) :=
  let a0 : List (Int × Int × Unit) := d.1
  if (decide (List.length a0 = 0)) = true then
    both (
        some ((([] : List (Int × Int × Unit)), ()))) (
        if (decide (List.length ([] : List (Int × Int × Unit)) + List.length a0 ≤ lim)) = true then
        let x1 : List (Int × Int × Unit) := ([] : List (Int × Int × Unit)) ++ a0
        some (x1, ())
        else none)
  else
    if (decide (List.length ([] : List (Int × Int × Unit)) + List.length a0 ≤ lim)) = true then
    let x2 : List (Int × Int × Unit) := ([] : List (Int × Int × Unit)) ++ a0
    some (x2, ())
    else none
theorem F_slices_Clone_S_2_int_2_int_ok (N : Nat) (d) : fnR Γ_slices_Clone_S_2_int_2_int (assoc []) true [(K_SPiiq, false)] [K_SPiiq] Try.f77.results.toList (bodyOf Try.f77) d = F_slices_Clone_S_2_int_2_int N d := by kernel_rfl
noncomputable def S_slices_Clone_S_2_int_2_int : FSig := ⟨[(K_SPiiq, false)], [K_SPiiq], true, (G_toIntA2S)⟩
/-! ### impl.NewWorkshop -/
noncomputable def Γ_impl_NewWorkshop : Ctx := { tk := assoc tks, ar := assoc ars, fs := assoc [(76, S_impl_IsGraph), (77, S_slices_Clone_S_2_int_2_int)] }
noncomputable def F_impl_NewWorkshop (N : Nat) (d : (Int × (List (Int × Int × Unit)) × Unit) × Unit) : Option (((Int × (List (Int × Int × Unit)) × Unit) × Int × Int × List Int × Int × Unit) × Bool × Unit) :=
  let a0 : Int × (List (Int × Int × Unit)) × Unit := d.1
  (G_graph (a0, ())).bind fun r1 =>
  if (!r1.1) = true then
    some (((((0 : Int), (([] : List (Int × Int × Unit)), ())), ((0 : Int), ((0 : Int), (([] : List Int), ((0 : Int), ()))))), (false, ())))
  else
    (G_toIntA2S (a0.2.1, ())).bind fun r2 =>
    some ((((a0.1, (r2.1, ())), ((-1 : Int), ((-1 : Int), (([] : List Int), ((0 : Int), ()))))), (true, ())))
theorem F_impl_NewWorkshop_ok (N : Nat) (d) : fnR Γ_impl_NewWorkshop (assoc []) true [(K_PiSPiiqq, false)] [K_PPiSPiiqqiiSiiq, .bool] Try.f27.results.toList (bodyOf Try.f27) d = F_impl_NewWorkshop N d := by kernel_rfl
noncomputable def S_impl_NewWorkshop : FSig := ⟨[(K_PiSPiiqq, false)], [K_PPiSPiiqqiiSiiq, .bool], true, (F_impl_NewWorkshop 0)⟩
/-! ### laws.markIntA2S -/
noncomputable def Γ_laws_markIntA2S : Ctx := { tk := assoc tks, ar := assoc ars, fs := assoc [], lent := fun t => Nat.beq t 0 }
abbrev laws_markIntA2S_l2_H := (List (Int × Int × Unit)) × Int × Int × Int × Unit
abbrev laws_markIntA2S_l2_O := ((List (Int × Int × Unit)) × Int × Int × Unit) ⊕ Empty
def laws_markIntA2S_l2_h : Form := [(0, .own K_SPiiq 1), (1, .v I), (5, .v I), (6, .v I)]
def laws_markIntA2S_l2_o : Outs := [(.normal, [(0, .own K_SPiiq 1), (1, .v I), (5, .v I)])]
noncomputable def laws_markIntA2S_l2_r (N : Nat) (back : laws_markIntA2S_l2_H → Option laws_markIntA2S_l2_O) (d : laws_markIntA2S_l2_H) : Option laws_markIntA2S_l2_O :=
  let s0 : List (Int × Int × Unit) := d.1
  let s1 : Int := d.2.1
  let s5 : Int := d.2.2.1
  let s6 : Int := d.2.2.2.1
  if (decide (s6 < (2 : Int))) = true then
    if (idxIn s5 (List.length s0)) = true then
    if (s6 == (0 : Int)) = true then
      let x24 : List (Int × Int × Unit) := List.set s0 s5.toNat (s1, (at_ K_Piiq s0 s5.toNat).2)
      let x25 : Int := IntKind.wrap .i64 (s1 + (1 : Int))
      let x26 : Int := IntKind.wrap .i64 (s6 + (1 : Int))
      back ((x24, (x25, (s5, (x26, ())))))
    else
      if (s6 == (1 : Int)) = true then
      let x21 : List (Int × Int × Unit) := List.set s0 s5.toNat (((at_ K_Piiq s0 s5.toNat).1, (s1, (at_ K_Piiq s0 s5.toNat).2.2)))
      let x22 : Int := IntKind.wrap .i64 (s1 + (1 : Int))
      let x23 : Int := IntKind.wrap .i64 (s6 + (1 : Int))
      back ((x21, (x22, (s5, (x23, ())))))
      else none
    else none
  else
    some (.inl ((s0, (s1, (s5, ())))))
noncomputable def laws_markIntA2S_l2 (N : Nat) : Nat → laws_markIntA2S_l2_H → Option laws_markIntA2S_l2_O
  | 0, _ => none
  | k + 1, d => laws_markIntA2S_l2_r N (laws_markIntA2S_l2 N k) d
theorem laws_markIntA2S_l2_ok (N : Nat) (back) (d) : roundR Γ_laws_markIntA2S (assoc []) 2 laws_markIntA2S_l2_h laws_markIntA2S_l2_o (loopOf Try.f79 2) back d = laws_markIntA2S_l2_r N back d := by kernel_rfl
abbrev laws_markIntA2S_l0_H := (List (Int × Int × Unit)) × Int × Int × Unit
abbrev laws_markIntA2S_l0_O := ((List (Int × Int × Unit)) × Int × Unit) ⊕ Empty
def laws_markIntA2S_l0_h : Form := [(0, .own K_SPiiq 1), (1, .v I), (5, .v I)]
def laws_markIntA2S_l0_o : Outs := [(.normal, [(0, .own K_SPiiq 1), (1, .v I)])]
noncomputable def laws_markIntA2S_l0_r (N : Nat) (back : laws_markIntA2S_l0_H → Option laws_markIntA2S_l0_O) (d : laws_markIntA2S_l0_H) : Option laws_markIntA2S_l0_O :=
  let s0 : List (Int × Int × Unit) := d.1
  let s1 : Int := d.2.1
  let s5 : Int := d.2.2.1
  if (decide (s5 < (List.length s0 : Int))) = true then
    (laws_markIntA2S_l2 N N ((s0, (s1, (s5, ((0 : Int), ())))))).bind fun o18 => match o18 with
    | .inl d19 =>
      let x20 : Int := IntKind.wrap .i64 (d19.2.2.1 + (1 : Int))
      back ((d19.1, (d19.2.1, (x20, ()))))
  else
    some (.inl ((s0, (s1, ()))))
noncomputable def laws_markIntA2S_l0 (N : Nat) : Nat → laws_markIntA2S_l0_H → Option laws_markIntA2S_l0_O
  | 0, _ => none
  | k + 1, d => laws_markIntA2S_l0_r N (laws_markIntA2S_l0 N k) d
theorem laws_markIntA2S_l0_ok (N : Nat) (back) (d) : roundR Γ_laws_markIntA2S (assoc [(2, ⟨laws_markIntA2S_l2_h, laws_markIntA2S_l2_o, laws_markIntA2S_l2 N N⟩)]) 0 laws_markIntA2S_l0_h laws_markIntA2S_l0_o (loopOf Try.f79 0) back d = laws_markIntA2S_l0_r N back d := by kernel_rfl
noncomputable def F_laws_markIntA2S (N : Nat) (d : (List (Int × Int × Unit)) × Int × Unit) : Option (Int × (List (Int × Int × Unit)) × Unit) :=
  let a0 : List (Int × Int × Unit) := d.1
  let a1 : Int := d.2.1
  (laws_markIntA2S_l0 N N ((a0, (a1, ((0 : Int), ()))))).bind fun o10 => match o10 with
  | .inl d11 =>
    some ((d11.2.1, (d11.1, ())))
theorem F_laws_markIntA2S_ok (N : Nat) (d) : fnR Γ_laws_markIntA2S (assoc [(0, ⟨laws_markIntA2S_l0_h, laws_markIntA2S_l0_o, laws_markIntA2S_l0 N N⟩)]) true [(K_SPiiq, true), (I, false)] [I] Try.f79.results.toList (bodyOf Try.f79) d = F_laws_markIntA2S N d := by kernel_rfl
noncomputable def S_laws_markIntA2S : FSig := ⟨[(K_SPiiq, true), (I, false)], [I], true, (G_markIntA2S)⟩
/-! ### laws.markGraph -/
noncomputable def Γ_laws_markGraph : Ctx := { tk := assoc tks, ar := assoc ars, fs := assoc [(79, S_laws_markIntA2S)], lent := fun t => Nat.beq t 0 }
noncomputable def F_laws_markGraph (N : Nat) (d : (Int × (List (Int × Int × Unit)) × Unit) × Int × Unit) : Option (Int × (Int × (List (Int × Int × Unit)) × Unit) × Unit) :=
  let a0 : Int × (List (Int × Int × Unit)) × Unit := d.1
  let a1 : Int := d.2.1
  (G_markIntA2S ((a0.2.1, (a1, ())))).bind fun r1 =>
  some ((r1.1, ((a0.1, (r1.2.1, a0.2.2)), ())))
theorem F_laws_markGraph_ok (N : Nat) (d) : fnR Γ_laws_markGraph (assoc []) true [(K_PiSPiiqq, true), (I, false)] [I] Try.f29.results.toList (bodyOf Try.f29) d = F_laws_markGraph N d := by kernel_rfl
noncomputable def S_laws_markGraph : FSig := ⟨[(K_PiSPiiqq, true), (I, false)], [I], true, (F_laws_markGraph 0)⟩
/-! ### laws.markIntS -/
noncomputable def Γ_laws_markIntS : Ctx := { tk := assoc tks, ar := assoc ars, fs := assoc [], lent := fun t => Nat.beq t 0 }
abbrev laws_markIntS_l0_H := List Int × Int × Int × Unit
abbrev laws_markIntS_l0_O := (List Int × Int × Unit) ⊕ Empty
def laws_markIntS_l0_h : Form := [(0, .own K_Si 1), (1, .v I), (5, .v I)]
def laws_markIntS_l0_o : Outs := [(.normal, [(0, .own K_Si 1), (1, .v I)])]
noncomputable def laws_markIntS_l0_r (N : Nat) (back : laws_markIntS_l0_H → Option laws_markIntS_l0_O) (d : laws_markIntS_l0_H) : Option laws_markIntS_l0_O :=
  let s0 : List Int := d.1
  let s1 : Int := d.2.1
  let s5 : Int := d.2.2.1
  if (decide (s5 < (List.length s0 : Int))) = true then
    if (idxIn s5 (List.length s0)) = true then
    let x5 : Int := IntKind.wrap .i64 (s1 + (1 : Int))
    let x6 : Int := IntKind.wrap .i64 (s5 + (1 : Int))
    back ((List.set s0 s5.toNat s1, (x5, (x6, ()))))
    else none
  else
    some (.inl ((s0, (s1, ()))))
noncomputable def laws_markIntS_l0 (N : Nat) : Nat → laws_markIntS_l0_H → Option laws_markIntS_l0_O
  | 0, _ => none
  | k + 1, d => laws_markIntS_l0_r N (laws_markIntS_l0 N k) d
theorem laws_markIntS_l0_ok (N : Nat) (back) (d) : roundR Γ_laws_markIntS (assoc []) 0 laws_markIntS_l0_h laws_markIntS_l0_o (loopOf Try.f54 0) back d = laws_markIntS_l0_r N back d := by kernel_rfl
noncomputable def F_laws_markIntS (N : Nat) (d : List Int × Int × Unit) : Option (Int × List Int × Unit) :=
  let a0 : List Int := d.1
  let a1 : Int := d.2.1
  (laws_markIntS_l0 N N ((a0, (a1, ((0 : Int), ()))))).bind fun o3 => match o3 with
  | .inl d4 =>
    some ((d4.2.1, (d4.1, ())))
theorem F_laws_markIntS_ok (N : Nat) (d) : fnR Γ_laws_markIntS (assoc [(0, ⟨laws_markIntS_l0_h, laws_markIntS_l0_o, laws_markIntS_l0 N N⟩)]) true [(K_Si, true), (I, false)] [I] Try.f54.results.toList (bodyOf Try.f54) d = F_laws_markIntS N d := by kernel_rfl
noncomputable def S_laws_markIntS : FSig := ⟨[(K_Si, true), (I, false)], [I], true, (G_markIntS)⟩
/-! ### laws.markWorkshop -/
noncomputable def Γ_laws_markWorkshop : Ctx := { tk := assoc tks, ar := assoc ars, fs := assoc [(29, S_laws_markGraph), (54, S_laws_markIntS)], lent := fun t => Nat.beq t 0 }
noncomputable def F_laws_markWorkshop (N : Nat) (d : ((Int × (List (Int × Int × Unit)) × Unit) × Int × Int × List Int × Int × Unit) × Int × Unit) : Option (Int × ((Int × (List (Int × Int × Unit)) × Unit) × Int × Int × List Int × Int × Unit) × Unit) :=
  let a0 : (Int × (List (Int × Int × Unit)) × Unit) × Int × Int × List Int × Int × Unit := d.1
  let a1 : Int := d.2.1
  ((F_laws_markGraph 0) ((a0.1, (a1, ())))).bind fun r1 =>
  (G_markIntS ((a0.2.2.2.1, (r1.1, ())))).bind fun r2 =>
  some ((r2.1, ((r1.2.1, (a0.2.1, (a0.2.2.1, (r2.2.1, a0.2.2.2.2)))), ())))
theorem F_laws_markWorkshop_ok (N : Nat) (d) : fnR Γ_laws_markWorkshop (assoc []) true [(K_PPiSPiiqqiiSiiq, true), (I, false)] [I] Try.f30.results.toList (bodyOf Try.f30) d = F_laws_markWorkshop N d := by kernel_rfl
noncomputable def S_laws_markWorkshop : FSig := ⟨[(K_PPiSPiiqqiiSiiq, true), (I, false)], [I], true, (F_laws_markWorkshop 0)⟩
/-! ### laws.heldIntA2S -/
noncomputable def Γ_laws_heldIntA2S : Ctx := { tk := assoc tks, ar := assoc ars, fs := assoc [] }
abbrev laws_heldIntA2S_l2_H := (List (Int × Int × Unit)) × Int × Int × Int × Unit
abbrev laws_heldIntA2S_l2_O := (Int × Unit) ⊕ ((List (Int × Int × Unit)) × Int × Int × Unit) ⊕ Empty
def laws_heldIntA2S_l2_h : Form := [(0, .v K_SPiiq), (1, .v I), (5, .v I), (6, .v I)]
def laws_heldIntA2S_l2_o : Outs := [(.ret, [(4, .v I)]), (.normal, [(0, .v K_SPiiq), (1, .v I), (5, .v I)])]
noncomputable def laws_heldIntA2S_l2_r (N : Nat) (back : laws_heldIntA2S_l2_H → Option laws_heldIntA2S_l2_O) (d : laws_heldIntA2S_l2_H) : Option laws_heldIntA2S_l2_O :=
  let s0 : List (Int × Int × Unit) := d.1
  let s1 : Int := d.2.1
  let s5 : Int := d.2.2.1
  let s6 : Int := d.2.2.2.1
  if (decide (s6 < (2 : Int))) = true then
    if (idxIn s5 (List.length s0)) = true then
    if (s6 == (0 : Int)) = true then
      if ((at_ K_Piiq s0 s5.toNat).1 != s1) = true then
        some (.inl ((-1 : Int), ()))
      else
        let x22 : Int := IntKind.wrap .i64 (s1 + (1 : Int))
        let x23 : Int := IntKind.wrap .i64 (s6 + (1 : Int))
        back ((s0, (x22, (s5, (x23, ())))))
    else
      if (s6 == (1 : Int)) = true then
      if ((at_ K_Piiq s0 s5.toNat).2.1 != s1) = true then
        some (.inl ((-1 : Int), ()))
      else
        let x20 : Int := IntKind.wrap .i64 (s1 + (1 : Int))
        let x21 : Int := IntKind.wrap .i64 (s6 + (1 : Int))
        back ((s0, (x20, (s5, (x21, ())))))
      else none
    else none
  else
    some (.inr (.inl ((s0, (s1, (s5, ()))))))
noncomputable def laws_heldIntA2S_l2 (N : Nat) : Nat → laws_heldIntA2S_l2_H → Option laws_heldIntA2S_l2_O
  | 0, _ => none
  | k + 1, d => laws_heldIntA2S_l2_r N (laws_heldIntA2S_l2 N k) d
theorem laws_heldIntA2S_l2_ok (N : Nat) (back) (d) : roundR Γ_laws_heldIntA2S (assoc []) 2 laws_heldIntA2S_l2_h laws_heldIntA2S_l2_o (loopOf Try.f98 2) back d = laws_heldIntA2S_l2_r N back d := by kernel_rfl
abbrev laws_heldIntA2S_l0_H := (List (Int × Int × Unit)) × Int × Int × Unit
abbrev laws_heldIntA2S_l0_O := (Int × Unit) ⊕ (Int × Unit) ⊕ Empty
def laws_heldIntA2S_l0_h : Form := [(0, .v K_SPiiq), (1, .v I), (5, .v I)]
def laws_heldIntA2S_l0_o : Outs := [(.ret, [(4, .v I)]), (.normal, [(1, .v I)])]
noncomputable def laws_heldIntA2S_l0_r (N : Nat) (back : laws_heldIntA2S_l0_H → Option laws_heldIntA2S_l0_O) (d : laws_heldIntA2S_l0_H) : Option laws_heldIntA2S_l0_O :=
  let s0 : List (Int × Int × Unit) := d.1
  let s1 : Int := d.2.1
  let s5 : Int := d.2.2.1
  if (decide (s5 < (List.length s0 : Int))) = true then
    (laws_heldIntA2S_l2 N N ((s0, (s1, (s5, ((0 : Int), ())))))).bind fun o16 => match o16 with
    | .inl d17 =>
      some (.inl (d17.1, ()))
    | .inr (.inl d18) =>
      let x19 : Int := IntKind.wrap .i64 (d18.2.2.1 + (1 : Int))
      back ((d18.1, (d18.2.1, (x19, ()))))
  else
    some (.inr (.inl (s1, ())))
noncomputable def laws_heldIntA2S_l0 (N : Nat) : Nat → laws_heldIntA2S_l0_H → Option laws_heldIntA2S_l0_O
  | 0, _ => none
  | k + 1, d => laws_heldIntA2S_l0_r N (laws_heldIntA2S_l0 N k) d
theorem laws_heldIntA2S_l0_ok (N : Nat) (back) (d) : roundR Γ_laws_heldIntA2S (assoc [(2, ⟨laws_heldIntA2S_l2_h, laws_heldIntA2S_l2_o, laws_heldIntA2S_l2 N N⟩)]) 0 laws_heldIntA2S_l0_h laws_heldIntA2S_l0_o (loopOf Try.f98 0) back d = laws_heldIntA2S_l0_r N back d := by kernel_rfl
noncomputable def F_laws_heldIntA2S (N : Nat) (d : (List (Int × Int × Unit)) × Int × Unit) : Option (Int × Unit) :=
  let a0 : List (Int × Int × Unit) := d.1
  let a1 : Int := d.2.1
  (laws_heldIntA2S_l0 N N ((a0, (a1, ((0 : Int), ()))))).bind fun o9 => match o9 with
  | .inl d10 =>
    some (d10.1, ())
  | .inr (.inl d11) =>
    some (d11.1, ())
theorem F_laws_heldIntA2S_ok (N : Nat) (d) : fnR Γ_laws_heldIntA2S (assoc [(0, ⟨laws_heldIntA2S_l0_h, laws_heldIntA2S_l0_o, laws_heldIntA2S_l0 N N⟩)]) true [(K_SPiiq, false), (I, false)] [I] Try.f98.results.toList (bodyOf Try.f98) d = F_laws_heldIntA2S N d := by kernel_rfl
noncomputable def S_laws_heldIntA2S : FSig := ⟨[(K_SPiiq, false), (I, false)], [I], true, (G_heldIntA2S)⟩
/-! ### laws.heldGraph -/
noncomputable def Γ_laws_heldGraph : Ctx := { tk := assoc tks, ar := assoc ars, fs := assoc [(98, S_laws_heldIntA2S)] }
noncomputable def F_laws_heldGraph (N : Nat) (d : (Int × (List (Int × Int × Unit)) × Unit) × Int × Unit) : Option (Int × Unit) :=
  let a0 : Int × (List (Int × Int × Unit)) × Unit := d.1
  let a1 : Int := d.2.1
  (G_heldIntA2S ((a0.2.1, (a1, ())))).bind fun r1 =>
  if (decide (r1.1 < (0 : Int))) = true then
    some ((-1 : Int), ())
  else
    some (r1.1, ())
theorem F_laws_heldGraph_ok (N : Nat) (d) : fnR Γ_laws_heldGraph (assoc []) true [(K_PiSPiiqq, false), (I, false)] [I] Try.f48.results.toList (bodyOf Try.f48) d = F_laws_heldGraph N d := by kernel_rfl
noncomputable def S_laws_heldGraph : FSig := ⟨[(K_PiSPiiqq, false), (I, false)], [I], true, (F_laws_heldGraph 0)⟩
/-! ### laws.heldIntS -/
noncomputable def Γ_laws_heldIntS : Ctx := { tk := assoc tks, ar := assoc ars, fs := assoc [] }
abbrev laws_heldIntS_l0_H := List Int × Int × Int × Unit
abbrev laws_heldIntS_l0_O := (Int × Unit) ⊕ (Int × Unit) ⊕ Empty
def laws_heldIntS_l0_h : Form := [(0, .v K_Si), (1, .v I), (5, .v I)]
def laws_heldIntS_l0_o : Outs := [(.ret, [(4, .v I)]), (.normal, [(1, .v I)])]
noncomputable def laws_heldIntS_l0_r (N : Nat) (back : laws_heldIntS_l0_H → Option laws_heldIntS_l0_O) (d : laws_heldIntS_l0_H) : Option laws_heldIntS_l0_O :=
  let s0 : List Int := d.1
  let s1 : Int := d.2.1
  let s5 : Int := d.2.2.1
  if (decide (s5 < (List.length s0 : Int))) = true then
    if (idxIn s5 (List.length s0)) = true then
    if (at_ I s0 s5.toNat != s1) = true then
      some (.inl ((-1 : Int), ()))
    else
      let x6 : Int := IntKind.wrap .i64 (s1 + (1 : Int))
      let x7 : Int := IntKind.wrap .i64 (s5 + (1 : Int))
      back ((s0, (x6, (x7, ()))))
    else none
  else
    some (.inr (.inl (s1, ())))
noncomputable def laws_heldIntS_l0 (N : Nat) : Nat → laws_heldIntS_l0_H → Option laws_heldIntS_l0_O
  | 0, _ => none
  | k + 1, d => laws_heldIntS_l0_r N (laws_heldIntS_l0 N k) d
theorem laws_heldIntS_l0_ok (N : Nat) (back) (d) : roundR Γ_laws_heldIntS (assoc []) 0 laws_heldIntS_l0_h laws_heldIntS_l0_o (loopOf Try.f55 0) back d = laws_heldIntS_l0_r N back d := by kernel_rfl
noncomputable def F_laws_heldIntS (N : Nat) (d : List Int × Int × Unit) : Option (Int × Unit) :=
  let a0 : List Int := d.1
  let a1 : Int := d.2.1
  (laws_heldIntS_l0 N N ((a0, (a1, ((0 : Int), ()))))).bind fun o3 => match o3 with
  | .inl d4 =>
    some (d4.1, ())
  | .inr (.inl d5) =>
    some (d5.1, ())
theorem F_laws_heldIntS_ok (N : Nat) (d) : fnR Γ_laws_heldIntS (assoc [(0, ⟨laws_heldIntS_l0_h, laws_heldIntS_l0_o, laws_heldIntS_l0 N N⟩)]) true [(K_Si, false), (I, false)] [I] Try.f55.results.toList (bodyOf Try.f55) d = F_laws_heldIntS N d := by kernel_rfl
noncomputable def S_laws_heldIntS : FSig := ⟨[(K_Si, false), (I, false)], [I], true, (G_heldIntS)⟩
/-! ### laws.heldWorkshop -/
noncomputable def Γ_laws_heldWorkshop : Ctx := { tk := assoc tks, ar := assoc ars, fs := assoc [(48, S_laws_heldGraph), (55, S_laws_heldIntS)] }
noncomputable def F_laws_heldWorkshop (N : Nat) (d : ((Int × (List (Int × Int × Unit)) × Unit) × Int × Int × List Int × Int × Unit) × Int × Unit) : Option (Int × Unit) :=
  let a0 : (Int × (List (Int × Int × Unit)) × Unit) × Int × Int × List Int × Int × Unit := d.1
  let a1 : Int := d.2.1
  ((F_laws_heldGraph 0) ((a0.1, (a1, ())))).bind fun r1 =>
  if (decide (r1.1 < (0 : Int))) = true then
    some ((-1 : Int), ())
  else
    (G_heldIntS ((a0.2.2.2.1, (r1.1, ())))).bind fun r2 =>
    if (decide (r2.1 < (0 : Int))) = true then
      some ((-1 : Int), ())
    else
      some (r2.1, ())
theorem F_laws_heldWorkshop_ok (N : Nat) (d) : fnR Γ_laws_heldWorkshop (assoc []) true [(K_PPiSPiiqqiiSiiq, false), (I, false)] [I] Try.f31.results.toList (bodyOf Try.f31) d = F_laws_heldWorkshop N d := by kernel_rfl
noncomputable def S_laws_heldWorkshop : FSig := ⟨[(K_PPiSPiiqqiiSiiq, false), (I, false)], [I], true, (F_laws_heldWorkshop 0)⟩
/-! ### laws.FnExactNewWorkshop -/
noncomputable def Γ_laws_FnExactNewWorkshop : Ctx := { tk := assoc tks, ar := assoc ars, fs := assoc [(23, S_laws_eqWorkshop), (24, S_laws_szGraph), (25, S_spec_NewWorkshop), (26, S_laws_toGraph), (27, S_impl_NewWorkshop), (28, S_laws_eqGraph), (29, S_laws_markGraph), (30, S_laws_markWorkshop), (31, S_laws_heldWorkshop)] }
noncomputable def F_laws_FnExactNewWorkshop (N : Nat) (d : (Int × (List (Int × Int × Unit)) × Unit) × Unit) : Option (Bool × Unit) :=
  let a0 : Int × (List (Int × Int × Unit)) × Unit := d.1
  let r1 : Int × Unit := g_laws_szGraph ((a0, ((1048576 : Int), ())))
  if (decide (r1.1 < (0 : Int))) = true then
    some (true, ())
  else
    ((F_laws_toGraph 0) (a0, ())).bind fun r2 =>
    ((F_spec_NewWorkshop 0) (r2.1, ())).bind fun r3 =>
    ((F_laws_toGraph 0) (a0, ())).bind fun r4 =>
    ((F_impl_NewWorkshop 0) (r4.1, ())).bind fun r5 =>
    ((F_laws_eqWorkshop 0) ((r5.1, (r3.1, ())))).bind fun r6 =>
    if (!r6.1) = true then
      some (false, ())
    else
      if (!(r5.2.1 == r3.2.1)) = true then
        some (false, ())
      else
        ((F_laws_toGraph 0) (a0, ())).bind fun r7 =>
        ((F_laws_eqGraph 0) ((r4.1, (r7.1, ())))).bind fun r8 =>
        if (!r8.1) = true then
          some (false, ())
        else
          ((F_laws_markGraph 0) ((r4.1, ((1 : Int), ())))).bind fun r9 =>
          if (decide (r9.1 < (0 : Int))) = true then
            some (false, ())
          else
            ((F_laws_eqWorkshop 0) ((r5.1, (r3.1, ())))).bind fun r10 =>
            if (!r10.1) = true then
              some (false, ())
            else
              if (!(r5.2.1 == r3.2.1)) = true then
                some (false, ())
              else
                ((F_laws_markWorkshop 0) ((r5.1, ((1 : Int), ())))).bind fun r11 =>
                ((F_laws_heldWorkshop 0) ((r11.2.1, ((1 : Int), ())))).bind fun r12 =>
                if (decide (r12.1 < (0 : Int))) = true then
                  some (false, ())
                else
                  if (r12.1 != r11.1) = true then
                    some (false, ())
                  else
                    ((F_laws_toGraph 0) (a0, ())).bind fun r13 =>
                    ((F_impl_NewWorkshop 0) (r13.1, ())).bind fun r14 =>
                    ((F_laws_eqWorkshop 0) ((r14.1, (r3.1, ())))).bind fun r15 =>
                    if (!r15.1) = true then
                      some (false, ())
                    else
                      if (!(r14.2.1 == r3.2.1)) = true then
                        some (false, ())
                      else
                        ((F_laws_heldWorkshop 0) ((r11.2.1, ((1 : Int), ())))).bind fun r16 =>
                        if (decide (r16.1 < (0 : Int))) = true then
                          some (false, ())
                        else
                          if (r16.1 != r11.1) = true then
                            some (false, ())
                          else
                            some (true, ())
theorem F_laws_FnExactNewWorkshop_ok (N : Nat) (d) : fnR Γ_laws_FnExactNewWorkshop (assoc []) true [(K_PiSPiiqq, false)] [.bool] Try.f5.results.toList (bodyOf Try.f5) d = F_laws_FnExactNewWorkshop N d := by kernel_rfl
noncomputable def S_laws_FnExactNewWorkshop : FSig := ⟨[(K_PiSPiiqq, false)], [.bool], true, (F_laws_FnExactNewWorkshop 0)⟩
/-! ### laws.szIntSS -/
noncomputable def Γ_laws_szIntSS : Ctx := { tk := assoc tks, ar := assoc ars, fs := assoc [(68, S_laws_szIntS)] }
abbrev laws_szIntSS_l0_H := List (List Int) × Int × Int × Unit
abbrev laws_szIntSS_l0_O := (Int × Unit) ⊕ (Int × Unit) ⊕ Empty
def laws_szIntSS_l0_h : Form := [(0, .v K_SSi), (1, .v I), (5, .v I)]
def laws_szIntSS_l0_o : Outs := [(.ret, [(4, .v I)]), (.normal, [(1, .v I)])]
noncomputable def laws_szIntSS_l0_r (N : Nat) (back : laws_szIntSS_l0_H → Option laws_szIntSS_l0_O) (d : laws_szIntSS_l0_H) : Option laws_szIntSS_l0_O :=
  let s0 : List (List Int) := d.1
  let s1 : Int := d.2.1
  let s5 : Int := d.2.2.1
  if (decide (s5 < (List.length s0 : Int))) = true then
    if (idxIn s5 (List.length s0)) = true then
    let r7 : Int × Unit := g_laws_szIntS ((at_ K_Si s0 s5.toNat, (s1, ())))
    if (decide (r7.1 < (0 : Int))) = true then
      some (.inl ((-1 : Int), ()))
    else
      let x8 : Int := IntKind.wrap .i64 (s5 + (1 : Int))
      back ((s0, (r7.1, (x8, ()))))
    else none
  else
    some (.inr (.inl (s1, ())))
noncomputable def laws_szIntSS_l0 (N : Nat) : Nat → laws_szIntSS_l0_H → Option laws_szIntSS_l0_O
  | 0, _ => none
  | k + 1, d => laws_szIntSS_l0_r N (laws_szIntSS_l0 N k) d
theorem laws_szIntSS_l0_ok (N : Nat) (back) (d) : roundR Γ_laws_szIntSS (assoc []) 0 laws_szIntSS_l0_h laws_szIntSS_l0_o (loopOf Try.f80 0) back d = laws_szIntSS_l0_r N back d := by kernel_rfl
noncomputable def F_laws_szIntSS (N : Nat) (d : List (List Int) × Int × Unit) : Option (Int × Unit) :=
  let a0 : List (List Int) := d.1
  let a1 : Int := d.2.1
  let x1 : Int := IntKind.wrap .i64 (a1 - (List.length a0 : Int))
  if (decide (x1 < (0 : Int))) = true then
    some ((-1 : Int), ())
  else
    (laws_szIntSS_l0 N N ((a0, (x1, ((0 : Int), ()))))).bind fun o4 => match o4 with
    | .inl d5 =>
      some (d5.1, ())
    | .inr (.inl d6) =>
      some (d6.1, ())
theorem F_laws_szIntSS_ok (N : Nat) (d) : fnR Γ_laws_szIntSS (assoc [(0, ⟨laws_szIntSS_l0_h, laws_szIntSS_l0_o, laws_szIntSS_l0 N N⟩)]) true [(K_SSi, false), (I, false)] [I] Try.f80.results.toList (bodyOf Try.f80) d = F_laws_szIntSS N d := by kernel_rfl
noncomputable def S_laws_szIntSS : FSig := ⟨[(K_SSi, false), (I, false)], [I], true, (G_szIntSS)⟩
/-! ### laws.szTimetable -/
noncomputable def Γ_laws_szTimetable : Ctx := { tk := assoc tks, ar := assoc ars, fs := assoc [(24, S_laws_szGraph), (80, S_laws_szIntSS)] }
noncomputable def F_laws_szTimetable (N : Nat) (d : ((Int × (List (Int × Int × Unit)) × Unit) × Int × List (List Int) × Unit) × Int × Unit) : Option (Int × Unit) :=
  let a0 : (Int × (List (Int × Int × Unit)) × Unit) × Int × List (List Int) × Unit := d.1
  let a1 : Int := d.2.1
  let r1 : Int × Unit := g_laws_szGraph ((a0.1, (a1, ())))
  if (decide (r1.1 < (0 : Int))) = true then
    some ((-1 : Int), ())
  else
    (G_szIntSS ((a0.2.2.1, (r1.1, ())))).bind fun r2 =>
    if (decide (r2.1 < (0 : Int))) = true then
      some ((-1 : Int), ())
    else
      some (r2.1, ())
theorem F_laws_szTimetable_ok (N : Nat) (d) : fnR Γ_laws_szTimetable (assoc []) true [(K_PPiSPiiqqiSSiq, false), (I, false)] [I] Try.f32.results.toList (bodyOf Try.f32) d = F_laws_szTimetable N d := by kernel_rfl
noncomputable def S_laws_szTimetable : FSig := ⟨[(K_PPiSPiiqqiSSiq, false), (I, false)], [I], true, (F_laws_szTimetable 0)⟩
/-! ### laws.toIntSS -/
noncomputable def Γ_laws_toIntSS : Ctx := { tk := assoc tks, ar := assoc ars, fs := assoc [(70, S_laws_toIntS)] }
abbrev laws_toIntSS_l0_H := List (List Int) × List (List Int) × Int × Unit
abbrev laws_toIntSS_l0_O := (List (List Int) × Unit) ⊕ Empty
def laws_toIntSS_l0_h : Form := [(0, .v K_SSi), (3, .own K_SSi 99), (4, .v I)]
def laws_toIntSS_l0_o : Outs := [(.normal, [(3, .own K_SSi 99)])]
noncomputable def laws_toIntSS_l0_r (N : Nat) (back : laws_toIntSS_l0_H → Option laws_toIntSS_l0_O) (d : laws_toIntSS_l0_H) : Option laws_toIntSS_l0_O :=
  let s0 : List (List Int) := d.1
  let s3 : List (List Int) := d.2.1
  let s4 : Int := d.2.2.1
  if (decide (s4 < (List.length s0 : Int))) = true then
    if (idxIn s4 (List.length s0)) = true then
    (G_toIntS (at_ K_Si s0 s4.toNat, ())).bind fun r6 =>
    if (idxIn s4 (List.length s3)) = true then
    let x7 : Int := IntKind.wrap .i64 (s4 + (1 : Int))
    back ((s0, (List.set s3 s4.toNat r6.1, (x7, ()))))
    else none
    else none
  else
    some (.inl (s3, ()))
noncomputable def laws_toIntSS_l0 (N : Nat) : Nat → laws_toIntSS_l0_H → Option laws_toIntSS_l0_O
  | 0, _ => none
  | k + 1, d => laws_toIntSS_l0_r N (laws_toIntSS_l0 N k) d
theorem laws_toIntSS_l0_ok (N : Nat) (back) (d) : roundR Γ_laws_toIntSS (assoc []) 0 laws_toIntSS_l0_h laws_toIntSS_l0_o (loopOf Try.f82 0) back d = laws_toIntSS_l0_r N back d := by kernel_rfl
noncomputable def F_laws_toIntSS (N : Nat) (d : List (List Int) × Unit) : Option (List (List Int) × Unit) :=
  let a0 : List (List Int) := d.1
  if ((decide (0 ≤ (List.length a0 : Int)) && decide ((List.length a0 : Int) ≤ (List.length a0 : Int)) && decide ((List.length a0 : Int) ≤ (lim : Int)))) = true then
  let x1 : List (List Int) := List.replicate (List.length a0 : Int).toNat ([] : List Int)
  (laws_toIntSS_l0 N N ((a0, (x1, ((0 : Int), ()))))).bind fun o4 => match o4 with
  | .inl d5 =>
    some (d5.1, ())
  else none
theorem F_laws_toIntSS_ok (N : Nat) (d) : fnR Γ_laws_toIntSS (assoc [(0, ⟨laws_toIntSS_l0_h, laws_toIntSS_l0_o, laws_toIntSS_l0 N N⟩)]) true [(K_SSi, false)] [K_SSi] Try.f82.results.toList (bodyOf Try.f82) d = F_laws_toIntSS N d := by kernel_rfl
noncomputable def S_laws_toIntSS : FSig := ⟨[(K_SSi, false)], [K_SSi], true, (G_toIntSS)⟩
/-! ### laws.toTimetable -/
noncomputable def Γ_laws_toTimetable : Ctx := { tk := assoc tks, ar := assoc ars, fs := assoc [(26, S_laws_toGraph), (82, S_laws_toIntSS)] }
noncomputable def F_laws_toTimetable (N : Nat) (d : ((Int × (List (Int × Int × Unit)) × Unit) × Int × List (List Int) × Unit) × Unit) : Option (((Int × (List (Int × Int × Unit)) × Unit) × Int × List (List Int) × Unit) × Unit) :=
  let a0 : (Int × (List (Int × Int × Unit)) × Unit) × Int × List (List Int) × Unit := d.1
  ((F_laws_toGraph 0) (a0.1, ())).bind fun r1 =>
  (G_toIntSS (a0.2.2.1, ())).bind fun r2 =>
  some (((r1.1, (a0.2.1, (r2.1, ()))), ()))
theorem F_laws_toTimetable_ok (N : Nat) (d) : fnR Γ_laws_toTimetable (assoc []) true [(K_PPiSPiiqqiSSiq, false)] [K_PPiSPiiqqiSSiq] Try.f34.results.toList (bodyOf Try.f34) d = F_laws_toTimetable N d := by kernel_rfl
noncomputable def S_laws_toTimetable : FSig := ⟨[(K_PPiSPiiqqiSSiq, false)], [K_PPiSPiiqqiSSiq], true, (F_laws_toTimetable 0)⟩
/-! ### spec.l4Field -/
noncomputable def Γ_spec_l4Field : Ctx := { tk := assoc tks, ar := assoc ars, fs := assoc [(119, S_spec_l2Good), (122, S_spec_l1In)] }
noncomputable def F_spec_l4Field (N : Nat) (d : (Int × (List (Int × Int × Unit)) × Unit) × Int × Unit) : Option (Bool × Unit) :=
  let a0 : Int × (List (Int × Int × Unit)) × Unit := d.1
  let a1 : Int := d.2.1
  (G_graph (a0, ())).bind fun r1 =>
  if (r1.1) = true then
    if (decide (a0.1 > (0 : Int))) = true then
      let r2 : Bool × Unit := g_spec_l1In ((a1, ((1 : Int), ((3 : Int), ()))))
      some (r2.1, ())
    else
      some (false, ())
  else
    some (false, ())
theorem F_spec_l4Field_ok (N : Nat) (d) : fnR Γ_spec_l4Field (assoc []) true [(K_PiSPiiqq, false), (I, false)] [.bool] Try.f88.results.toList (bodyOf Try.f88) d = F_spec_l4Field N d := by kernel_rfl
noncomputable def S_spec_l4Field : FSig := ⟨[(K_PiSPiiqq, false), (I, false)], [.bool], true, (F_spec_l4Field 0)⟩
/-! ### spec.l11Good -/
noncomputable def Γ_spec_l11Good : Ctx := { tk := assoc tks, ar := assoc ars, fs := assoc [(88, S_spec_l4Field), (122, S_spec_l1In), (128, S_spec_l1Rising)] }
abbrev spec_l11Good_l0_H := ((Int × (List (Int × Int × Unit)) × Unit) × Int × List (List Int) × Unit) × Int × Unit
abbrev spec_l11Good_l0_O := (Bool × Unit) ⊕ (((Int × (List (Int × Int × Unit)) × Unit) × Int × List (List Int) × Unit) × Unit) ⊕ Empty
def spec_l11Good_l0_h : Form := [(1, .box K_PPiSPiiqqiSSiq 0), (3, .v I)]
def spec_l11Good_l0_o : Outs := [(.ret, [(2, .v .bool)]), (.normal, [(1, .box K_PPiSPiiqqiSSiq 0)])]
noncomputable def spec_l11Good_l0_r (N : Nat) (back : spec_l11Good_l0_H → Option spec_l11Good_l0_O) (d : spec_l11Good_l0_H) : Option spec_l11Good_l0_O :=
  let s1 : (Int × (List (Int × Int × Unit)) × Unit) × Int × List (List Int) × Unit := d.1
  let s3 : Int := d.2.1
  if (decide (s3 < (List.length s1.2.2.1 : Int))) = true then
    if (idxIn s3 (List.length s1.2.2.1)) = true then
    let x9 : Int := IntKind.wrap .i64 (s1.2.1 - (1 : Int))
    (G_l1Rising ((at_ K_Si s1.2.2.1 s3.toNat, ((0 : Int), (x9, ()))))).bind fun r10 =>
    if (!r10.1) = true then
      some (.inl (false, ()))
    else
      let x11 : Int := IntKind.wrap .i64 (s3 + (1 : Int))
      back ((s1, (x11, ())))
    else none
  else
    some (.inr (.inl (s1, ())))
noncomputable def spec_l11Good_l0 (N : Nat) : Nat → spec_l11Good_l0_H → Option spec_l11Good_l0_O
  | 0, _ => none
  | k + 1, d => spec_l11Good_l0_r N (spec_l11Good_l0 N k) d
theorem spec_l11Good_l0_ok (N : Nat) (back) (d) : roundR Γ_spec_l11Good (assoc []) 0 spec_l11Good_l0_h spec_l11Good_l0_o (loopOf Try.f81 0) back d = spec_l11Good_l0_r N back d := by kernel_rfl
noncomputable def F_spec_l11Good (N : Nat) (d : ((Int × (List (Int × Int × Unit)) × Unit) × Int × List (List Int) × Unit) × Unit) : Option (Bool × Unit) :=
  let a0 : (Int × (List (Int × Int × Unit)) × Unit) × Int × List (List Int) × Unit := d.1
  (spec_l11Good_l0 N N ((a0, ((0 : Int), ())))).bind fun o4 => match o4 with
  | .inl d5 =>
    some (d5.1, ())
  | .inr (.inl d6) =>
    ((F_spec_l4Field 0) ((d6.1.1, ((1 : Int), ())))).bind fun r7 =>
    if (r7.1) = true then
      let r8 : Bool × Unit := g_spec_l1In ((d6.1.2.1, ((1 : Int), ((4 : Int), ()))))
      if (r8.1) = true then
        some ((List.length d6.1.2.2.1 : Int) == (List.length d6.1.1.2.1 : Int), ())
      else
        some (false, ())
    else
      some (false, ())
theorem F_spec_l11Good_ok (N : Nat) (d) : fnR Γ_spec_l11Good (assoc [(0, ⟨spec_l11Good_l0_h, spec_l11Good_l0_o, spec_l11Good_l0 N N⟩)]) true [(K_PPiSPiiqqiSSiq, false)] [.bool] Try.f81.results.toList (bodyOf Try.f81) d = F_spec_l11Good N d := by kernel_rfl
noncomputable def S_spec_l11Good : FSig := ⟨[(K_PPiSPiiqqiSSiq, false)], [.bool], true, (G_l11Good)⟩
/-! ### spec.IsTimetable -/
noncomputable def Γ_spec_IsTimetable : Ctx := { tk := assoc tks, ar := assoc ars, fs := assoc [(81, S_spec_l11Good)] }
noncomputable def F_spec_IsTimetable (N : Nat) (d : ((Int × (List (Int × Int × Unit)) × Unit) × Int × List (List Int) × Unit) × Unit) : Option (Bool × Unit) :=
  let a0 : (Int × (List (Int × Int × Unit)) × Unit) × Int × List (List Int) × Unit := d.1
  (G_l11Good (a0, ())).bind fun r1 =>
  some (r1.1, ())
theorem F_spec_IsTimetable_ok (N : Nat) (d) : fnR Γ_spec_IsTimetable (assoc []) true [(K_PPiSPiiqqiSSiq, false)] [.bool] Try.f33.results.toList (bodyOf Try.f33) d = F_spec_IsTimetable N d := by kernel_rfl
noncomputable def S_spec_IsTimetable : FSig := ⟨[(K_PPiSPiiqqiSSiq, false)], [.bool], true, (F_spec_IsTimetable 0)⟩
/-! ### impl.IsTimetable$1 -/
noncomputable def Γ_impl_IsTimetable_1 : Ctx := { tk := assoc tks, ar := assoc ars, fs := assoc [(85, S_impl_increasing), (86, S_impl_allWithin)] }
noncomputable def F_impl_IsTimetable_1 (N : Nat) (d : List Int × ((Int × (List (Int × Int × Unit)) × Unit) × Int × List (List Int) × Unit) × Unit) : Option (Bool × Unit) :=
  let a0 : List Int := d.1
  let a1 : (Int × (List (Int × Int × Unit)) × Unit) × Int × List (List Int) × Unit := d.2.1
  (G_increasing (a0, ())).bind fun r1 =>
  if (!r1.1) = true then
    some (true, ())
  else
    let x2 : Int := IntKind.wrap .i64 (a1.2.1 - (1 : Int))
    (G_allWithin ((a0, ((0 : Int), (x2, ()))))).bind fun r3 =>
    some (!r3.1, ())
theorem F_impl_IsTimetable_1_ok (N : Nat) (d) : fnR Γ_impl_IsTimetable_1 (assoc []) true [(K_Si, false), (K_BPPiSPiiqqiSSiq, false)] [.bool] Try.f84.results.toList (bodyOf Try.f84) d = F_impl_IsTimetable_1 N d := by kernel_rfl
noncomputable def S_impl_IsTimetable_1 : FSig := ⟨[(K_Si, false), (K_BPPiSPiiqqiSSiq, false)], [.bool], true, (F_impl_IsTimetable_1 0)⟩
noncomputable def FV_impl_IsTimetable_1 (d : List Int × (Unit × ((Int × (List (Int × Int × Unit)) × Unit) × Int × List (List Int) × Unit) × Unit) × Unit) : Option (Bool × Unit) := (F_impl_IsTimetable_1 0) (d.1, d.2.1.2)
noncomputable def SV_impl_IsTimetable_1 : FSig := ⟨[(K_Si, false), (K_F84qPBPPiSPiiqqiSSiqq, false)], [.bool], true, FV_impl_IsTimetable_1⟩
/-! ### slices.IndexFunc[[][]int,[]int] -/
noncomputable def Γ_slices_IndexFunc_SSint_Sint_f84 : Ctx := { tk := assoc tks, ar := assoc ars, fs := assoc [], cs := assoc [(84, SV_impl_IsTimetable_1)] }
abbrev slices_IndexFunc_SSint_Sint_f84_l0_H := List (List Int) × (Unit × ((Int × (List (Int × Int × Unit)) × Unit) × Int × List (List Int) × Unit) × Unit) × Int × Int × Unit
abbrev slices_IndexFunc_SSint_Sint_f84_l0_O := (Int × Unit) ⊕ Unit ⊕ Empty
def slices_IndexFunc_SSint_Sint_f84_l0_h : Form := [(0, .v K_SSi), (1, .v K_F84qPBPPiSPiiqqiSSiqq), (7, .v I), (8, .v I)]
def slices_IndexFunc_SSint_Sint_f84_l0_o : Outs := [(.ret, [(4, .v I)]), (.normal, [])]
noncomputable def slices_IndexFunc_SSint_Sint_f84_l0_r (N : Nat) (back : slices_IndexFunc_SSint_Sint_f84_l0_H → Option slices_IndexFunc_SSint_Sint_f84_l0_O) (d : slices_IndexFunc_SSint_Sint_f84_l0_H) : Option slices_IndexFunc_SSint_Sint_f84_l0_O :=
  let s0 : List (List Int) := d.1
  let s1 : Unit × ((Int × (List (Int × Int × Unit)) × Unit) × Int × List (List Int) × Unit) × Unit := d.2.1
  let s7 : Int := d.2.2.1
  let s8 : Int := d.2.2.2.1
  if (decide (s8 < s7)) = true then
    if (idxIn s8 (List.length s0)) = true then
    (FV_impl_IsTimetable_1 ((at_ K_Si s0 s8.toNat, (s1, ())))).bind fun r6 =>
    if (r6.1) = true then
      some (.inl (s8, ()))
    else
      let x7 : Int := IntKind.wrap .i64 (s8 + (1 : Int))
      back ((s0, (s1, (s7, (x7, ())))))
    else none
  else
    some (.inr (.inl ()))
noncomputable def slices_IndexFunc_SSint_Sint_f84_l0 (N : Nat) : Nat → slices_IndexFunc_SSint_Sint_f84_l0_H → Option slices_IndexFunc_SSint_Sint_f84_l0_O
  | 0, _ => none
  | k + 1, d => slices_IndexFunc_SSint_Sint_f84_l0_r N (slices_IndexFunc_SSint_Sint_f84_l0 N k) d
theorem slices_IndexFunc_SSint_Sint_f84_l0_ok (N : Nat) (back) (d) : roundR Γ_slices_IndexFunc_SSint_Sint_f84 (assoc []) 0 slices_IndexFunc_SSint_Sint_f84_l0_h slices_IndexFunc_SSint_Sint_f84_l0_o (loopOf Try.f129 0) back d = slices_IndexFunc_SSint_Sint_f84_l0_r N back d := by kernel_rfl
noncomputable def F_slices_IndexFunc_SSint_Sint_f84 (N : Nat) (d : List (List Int) × (Unit × ((Int × (List (Int × Int × Unit)) × Unit) × Int × List (List Int) × Unit) × Unit) × Unit) : Option (Int × Unit) :=
  let a0 : List (List Int) := d.1
  let a1 : Unit × ((Int × (List (Int × Int × Unit)) × Unit) × Int × List (List Int) × Unit) × Unit := d.2.1
  (slices_IndexFunc_SSint_Sint_f84_l0 N N ((a0, (a1, ((List.length a0 : Int), ((0 : Int), ())))))).bind fun o3 => match o3 with
  | .inl d4 =>
    some (d4.1, ())
  | .inr (.inl d5) =>
    some ((-1 : Int), ())
theorem F_slices_IndexFunc_SSint_Sint_f84_ok (N : Nat) (d) : fnR Γ_slices_IndexFunc_SSint_Sint_f84 (assoc [(0, ⟨slices_IndexFunc_SSint_Sint_f84_l0_h, slices_IndexFunc_SSint_Sint_f84_l0_o, slices_IndexFunc_SSint_Sint_f84_l0 N N⟩)]) true [(K_SSi, false), (K_F84qPBPPiSPiiqqiSSiqq, false)] [I] Try.f129.results.toList (bodyOf Try.f129) d = F_slices_IndexFunc_SSint_Sint_f84 N d := by kernel_rfl
noncomputable def S_slices_IndexFunc_SSint_Sint_f84 : FSig := ⟨[(K_SSi, false), (K_F84qPBPPiSPiiqqiSSiqq, false)], [I], true, (G_index84)⟩
/-! ### slices.ContainsFunc[[][]int,[]int] -/
noncomputable def Γ_slices_ContainsFunc_SSint_Sint_f84 : Ctx := { tk := assoc tks, ar := assoc ars, fs := assoc [(129, S_slices_IndexFunc_SSint_Sint_f84)] }
noncomputable def F_slices_ContainsFunc_SSint_Sint_f84 (N : Nat) (d : List (List Int) × (Unit × ((Int × (List (Int × Int × Unit)) × Unit) × Int × List (List Int) × Unit) × Unit) × Unit) : Option (Bool × Unit) :=
  let a0 : List (List Int) := d.1
  let a1 : Unit × ((Int × (List (Int × Int × Unit)) × Unit) × Int × List (List Int) × Unit) × Unit := d.2.1
  (G_index84 ((a0, (a1, ())))).bind fun r1 =>
  some ((decide (r1.1 ≥ (0 : Int)), ()))
theorem F_slices_ContainsFunc_SSint_Sint_f84_ok (N : Nat) (d) : fnR Γ_slices_ContainsFunc_SSint_Sint_f84 (assoc []) true [(K_SSi, false), (K_F84qPBPPiSPiiqqiSSiqq, false)] [.bool] Try.f83.results.toList (bodyOf Try.f83) d = F_slices_ContainsFunc_SSint_Sint_f84 N d := by kernel_rfl
noncomputable def S_slices_ContainsFunc_SSint_Sint_f84 : FSig := ⟨[(K_SSi, false), (K_F84qPBPPiSPiiqqiSSiqq, false)], [.bool], true, (F_slices_ContainsFunc_SSint_Sint_f84 0)⟩
/-! ### impl.IsTimetable -/
noncomputable def Γ_impl_IsTimetable : Ctx := { tk := assoc tks, ar := assoc ars, fs := assoc [(72, S_impl_within), (76, S_impl_IsGraph), (83, S_slices_ContainsFunc_SSint_Sint_f84)], cs := assoc [], fz := fun t => Nat.beq t 1 }
noncomputable def F_impl_IsTimetable (N : Nat) (d : ((Int × (List (Int × Int × Unit)) × Unit) × Int × List (List Int) × Unit) × Unit) : Option (Bool × Unit) :=
  let a0 : (Int × (List (Int × Int × Unit)) × Unit) × Int × List (List Int) × Unit := d.1
  (G_graph (a0.1, ())).bind fun r1 =>
  if (!r1.1) = true then
    some (false, ())
  else
    if (a0.1.1 == (0 : Int)) = true then
      some (false, ())
    else
      let r2 : Bool × Unit := g_impl_within ((a0.2.1, ((1 : Int), ((4 : Int), ()))))
      if (!r2.1) = true then
        some (false, ())
      else
        if ((List.length a0.2.2.1 : Int) != (List.length a0.1.2.1 : Int)) = true then
          some (false, ())
        else
          ((F_slices_ContainsFunc_SSint_Sint_f84 0) ((a0.2.2.1, (((), (a0, ())), ())))).bind fun r3 =>
          some (!r3.1, ())
theorem F_impl_IsTimetable_ok (N : Nat) (d) : fnR Γ_impl_IsTimetable (assoc []) true [(K_PPiSPiiqqiSSiq, false)] [.bool] Try.f35.results.toList (bodyOf Try.f35) d = F_impl_IsTimetable N d := by kernel_rfl
noncomputable def S_impl_IsTimetable : FSig := ⟨[(K_PPiSPiiqqiSSiq, false)], [.bool], true, (F_impl_IsTimetable 0)⟩
/-! ### laws.eqIntSS -/
noncomputable def Γ_laws_eqIntSS : Ctx := { tk := assoc tks, ar := assoc ars, fs := assoc [(53, S_laws_eqIntS)] }
abbrev laws_eqIntSS_l0_H := List (List Int) × List (List Int) × Int × Unit
abbrev laws_eqIntSS_l0_O := (Bool × Unit) ⊕ Unit ⊕ Empty
def laws_eqIntSS_l0_h : Form := [(0, .v K_SSi), (1, .v K_SSi), (5, .v I)]
def laws_eqIntSS_l0_o : Outs := [(.ret, [(4, .v .bool)]), (.normal, [])]
noncomputable def laws_eqIntSS_l0_r (N : Nat) (back : laws_eqIntSS_l0_H → Option laws_eqIntSS_l0_O) (d : laws_eqIntSS_l0_H) : Option laws_eqIntSS_l0_O :=
  let s0 : List (List Int) := d.1
  let s1 : List (List Int) := d.2.1
  let s5 : Int := d.2.2.1
  if (decide (s5 < (List.length s0 : Int))) = true then
    if (idxIn s5 (List.length s0)) = true then
    if (idxIn s5 (List.length s1)) = true then
    (G_eqIntS ((at_ K_Si s0 s5.toNat, (at_ K_Si s1 s5.toNat, ())))).bind fun r6 =>
    if (!r6.1) = true then
      some (.inl (false, ()))
    else
      let x7 : Int := IntKind.wrap .i64 (s5 + (1 : Int))
      back ((s0, (s1, (x7, ()))))
    else none
    else none
  else
    some (.inr (.inl ()))
noncomputable def laws_eqIntSS_l0 (N : Nat) : Nat → laws_eqIntSS_l0_H → Option laws_eqIntSS_l0_O
  | 0, _ => none
  | k + 1, d => laws_eqIntSS_l0_r N (laws_eqIntSS_l0 N k) d
theorem laws_eqIntSS_l0_ok (N : Nat) (back) (d) : roundR Γ_laws_eqIntSS (assoc []) 0 laws_eqIntSS_l0_h laws_eqIntSS_l0_o (loopOf Try.f87 0) back d = laws_eqIntSS_l0_r N back d := by kernel_rfl
noncomputable def F_laws_eqIntSS (N : Nat) (d : List (List Int) × List (List Int) × Unit) : Option (Bool × Unit) :=
  let a0 : List (List Int) := d.1
  let a1 : List (List Int) := d.2.1
  if ((List.length a0 : Int) != (List.length a1 : Int)) = true then
    some (false, ())
  else
    (laws_eqIntSS_l0 N N ((a0, (a1, ((0 : Int), ()))))).bind fun o3 => match o3 with
    | .inl d4 =>
      some (d4.1, ())
    | .inr (.inl d5) =>
      some (true, ())
theorem F_laws_eqIntSS_ok (N : Nat) (d) : fnR Γ_laws_eqIntSS (assoc [(0, ⟨laws_eqIntSS_l0_h, laws_eqIntSS_l0_o, laws_eqIntSS_l0 N N⟩)]) true [(K_SSi, false), (K_SSi, false)] [.bool] Try.f87.results.toList (bodyOf Try.f87) d = F_laws_eqIntSS N d := by kernel_rfl
noncomputable def S_laws_eqIntSS : FSig := ⟨[(K_SSi, false), (K_SSi, false)], [.bool], true, (G_eqIntSS)⟩
/-! ### laws.eqTimetable -/
noncomputable def Γ_laws_eqTimetable : Ctx := { tk := assoc tks, ar := assoc ars, fs := assoc [(28, S_laws_eqGraph), (87, S_laws_eqIntSS)] }
noncomputable def F_laws_eqTimetable (N : Nat) (d : ((Int × (List (Int × Int × Unit)) × Unit) × Int × List (List Int) × Unit) × ((Int × (List (Int × Int × Unit)) × Unit) × Int × List (List Int) × Unit) × Unit) : Option (Bool × Unit) :=
  let a0 : (Int × (List (Int × Int × Unit)) × Unit) × Int × List (List Int) × Unit := d.1
  let a1 : (Int × (List (Int × Int × Unit)) × Unit) × Int × List (List Int) × Unit := d.2.1
  ((F_laws_eqGraph 0) ((a0.1, (a1.1, ())))).bind fun r1 =>
  if (!r1.1) = true then
    some (false, ())
  else
    if (a0.2.1 != a1.2.1) = true then
      some (false, ())
    else
      (G_eqIntSS ((a0.2.2.1, (a1.2.2.1, ())))).bind fun r2 =>
      if (!r2.1) = true then
        some (false, ())
      else
        some (true, ())
theorem F_laws_eqTimetable_ok (N : Nat) (d) : fnR Γ_laws_eqTimetable (assoc []) true [(K_PPiSPiiqqiSSiq, false), (K_PPiSPiiqqiSSiq, false)] [.bool] Try.f36.results.toList (bodyOf Try.f36) d = F_laws_eqTimetable N d := by kernel_rfl
noncomputable def S_laws_eqTimetable : FSig := ⟨[(K_PPiSPiiqqiSSiq, false), (K_PPiSPiiqqiSSiq, false)], [.bool], true, (F_laws_eqTimetable 0)⟩
/-! ### laws.FnExactIsTimetable -/
noncomputable def Γ_laws_FnExactIsTimetable : Ctx := { tk := assoc tks, ar := assoc ars, fs := assoc [(32, S_laws_szTimetable), (33, S_spec_IsTimetable), (34, S_laws_toTimetable), (35, S_impl_IsTimetable), (36, S_laws_eqTimetable)] }
noncomputable def F_laws_FnExactIsTimetable (N : Nat) (d : ((Int × (List (Int × Int × Unit)) × Unit) × Int × List (List Int) × Unit) × Unit) : Option (Bool × Unit) :=
  let a0 : (Int × (List (Int × Int × Unit)) × Unit) × Int × List (List Int) × Unit := d.1
  ((F_laws_szTimetable 0) ((a0, ((1048576 : Int), ())))).bind fun r1 =>
  if (decide (r1.1 < (0 : Int))) = true then
    some (true, ())
  else
    ((F_laws_toTimetable 0) (a0, ())).bind fun r2 =>
    ((F_spec_IsTimetable 0) (r2.1, ())).bind fun r3 =>
    ((F_laws_toTimetable 0) (a0, ())).bind fun r4 =>
    ((F_impl_IsTimetable 0) (r4.1, ())).bind fun r5 =>
    if (!(r5.1 == r3.1)) = true then
      some (false, ())
    else
      ((F_laws_toTimetable 0) (a0, ())).bind fun r6 =>
      ((F_laws_eqTimetable 0) ((r4.1, (r6.1, ())))).bind fun r7 =>
      if (!r7.1) = true then
        some (false, ())
      else
        some (true, ())
theorem F_laws_FnExactIsTimetable_ok (N : Nat) (d) : fnR Γ_laws_FnExactIsTimetable (assoc []) true [(K_PPiSPiiqqiSSiq, false)] [.bool] Try.f6.results.toList (bodyOf Try.f6) d = F_laws_FnExactIsTimetable N d := by kernel_rfl
noncomputable def S_laws_FnExactIsTimetable : FSig := ⟨[(K_PPiSPiiqqiSSiq, false)], [.bool], true, (F_laws_FnExactIsTimetable 0)⟩
/-! ### spec.StaticTimetable -/
noncomputable def Γ_spec_StaticTimetable : Ctx := { tk := assoc tks, ar := assoc ars, fs := assoc [(88, S_spec_l4Field)] }
abbrev spec_StaticTimetable_l0_H := (Int × (List (Int × Int × Unit)) × Unit) × ((Int × (List (Int × Int × Unit)) × Unit) × Int × List (List Int) × Unit) × ((Int × (List (Int × Int × Unit)) × Unit) × Int × List (List Int) × Unit) × Int × Unit
abbrev spec_StaticTimetable_l0_O := (((Int × (List (Int × Int × Unit)) × Unit) × Int × List (List Int) × Unit) × ((Int × (List (Int × Int × Unit)) × Unit) × Int × List (List Int) × Unit) × Unit) ⊕ Empty
def spec_StaticTimetable_l0_h : Form := [(1, .box K_PiSPiiqq 0), (2, .box K_PPiSPiiqqiSSiq 99), (4, .box K_PPiSPiiqqiSSiq 99), (5, .v I)]
def spec_StaticTimetable_l0_o : Outs := [(.normal, [(2, .box K_PPiSPiiqqiSSiq 99), (4, .box K_PPiSPiiqqiSSiq 99)])]
noncomputable def spec_StaticTimetable_l0_r (N : Nat) (back : spec_StaticTimetable_l0_H → Option spec_StaticTimetable_l0_O) (d : spec_StaticTimetable_l0_H) : Option spec_StaticTimetable_l0_O :=
  let s1 : Int × (List (Int × Int × Unit)) × Unit := d.1
  let s2 : (Int × (List (Int × Int × Unit)) × Unit) × Int × List (List Int) × Unit := d.2.1
  let s4 : (Int × (List (Int × Int × Unit)) × Unit) × Int × List (List Int) × Unit := d.2.2.1
  let s5 : Int := d.2.2.2.1
  if (decide (s5 < (List.length s1.2.1 : Int))) = true then
    if (decide (List.length s4.2.2.1 + List.length ([[(0 : Int)]]) ≤ lim)) = true then
    let x6 : Int := IntKind.wrap .i64 (s5 + (1 : Int))
    back ((s1, (s2, ((s4.1, (s4.2.1, (s4.2.2.1 ++ ([[(0 : Int)]]), s4.2.2.2))), (x6, ())))))
    else none
  else
    some (.inl ((s2, (s4, ()))))
noncomputable def spec_StaticTimetable_l0 (N : Nat) : Nat → spec_StaticTimetable_l0_H → Option spec_StaticTimetable_l0_O
  | 0, _ => none
  | k + 1, d => spec_StaticTimetable_l0_r N (spec_StaticTimetable_l0 N k) d
theorem spec_StaticTimetable_l0_ok (N : Nat) (back) (d) : roundR Γ_spec_StaticTimetable (assoc []) 0 spec_StaticTimetable_l0_h spec_StaticTimetable_l0_o (loopOf Try.f37 0) back d = spec_StaticTimetable_l0_r N back d := by kernel_rfl
noncomputable def F_spec_StaticTimetable (N : Nat) (d : (Int × (List (Int × Int × Unit)) × Unit) × Unit) : Option (((Int × (List (Int × Int × Unit)) × Unit) × Int × List (List Int) × Unit) × Bool × Unit) :=
  let a0 : Int × (List (Int × Int × Unit)) × Unit := d.1
  ((F_spec_l4Field 0) ((a0, ((1 : Int), ())))).bind fun r1 =>
  if (!r1.1) = true then
    some (((((0 : Int), (([] : List (Int × Int × Unit)), ())), ((0 : Int), (([] : List (List Int)), ()))), (false, ())))
  else
    if (decide (List.length ([] : List (Int × Int × Unit)) + List.length a0.2.1 ≤ lim)) = true then
    let x2 : List (Int × Int × Unit) := ([] : List (Int × Int × Unit)) ++ a0.2.1
    (spec_StaticTimetable_l0 N N ((a0, ((((0 : Int), (([] : List (Int × Int × Unit)), ())), ((0 : Int), (([] : List (List Int)), ()))), (((a0.1, (x2, ())), ((1 : Int), (([] : List (List Int)), ()))), ((0 : Int), ())))))).bind fun o4 => match o4 with
    | .inl d5 =>
      some ((d5.2.1, (true, ())))
    else none
theorem F_spec_StaticTimetable_ok (N : Nat) (d) : fnR Γ_spec_StaticTimetable (assoc [(0, ⟨spec_StaticTimetable_l0_h, spec_StaticTimetable_l0_o, spec_StaticTimetable_l0 N N⟩)]) true [(K_PiSPiiqq, false)] [K_PPiSPiiqqiSSiq, .bool] Try.f37.results.toList (bodyOf Try.f37) d = F_spec_StaticTimetable N d := by kernel_rfl
noncomputable def S_spec_StaticTimetable : FSig := ⟨[(K_PiSPiiqq, false)], [K_PPiSPiiqqiSSiq, .bool], true, (G_static)⟩
/-! ### impl.StaticTimetable -/
noncomputable def Γ_impl_StaticTimetable : Ctx := { tk := assoc tks, ar := assoc ars, fs := assoc [(76, S_impl_IsGraph), (77, S_slices_Clone_S_2_int_2_int)] }
abbrev impl_StaticTimetable_l0_H := ((Int × (List (Int × Int × Unit)) × Unit) × Int × List (List Int) × Unit) × ((Int × (List (Int × Int × Unit)) × Unit) × Int × List (List Int) × Unit) × Int × Int × Unit
abbrev impl_StaticTimetable_l0_O := (((Int × (List (Int × Int × Unit)) × Unit) × Int × List (List Int) × Unit) × ((Int × (List (Int × Int × Unit)) × Unit) × Int × List (List Int) × Unit) × Unit) ⊕ Empty
def impl_StaticTimetable_l0_h : Form := [(2, .box K_PPiSPiiqqiSSiq 99), (4, .box K_PPiSPiiqqiSSiq 99), (23, .v I), (24, .v I)]
def impl_StaticTimetable_l0_o : Outs := [(.normal, [(2, .box K_PPiSPiiqqiSSiq 99), (4, .box K_PPiSPiiqqiSSiq 99)])]
noncomputable def impl_StaticTimetable_l0_r (N : Nat) (back : impl_StaticTimetable_l0_H → Option impl_StaticTimetable_l0_O) (d : impl_StaticTimetable_l0_H) : Option impl_StaticTimetable_l0_O :=
  let s2 : (Int × (List (Int × Int × Unit)) × Unit) × Int × List (List Int) × Unit := d.1
  let s4 : (Int × (List (Int × Int × Unit)) × Unit) × Int × List (List Int) × Unit := d.2.1
  let s23 : Int := d.2.2.1
  let s24 : Int := d.2.2.2.1
  if (decide (s24 < s23)) = true then
    if (decide (List.length s4.2.2.1 + List.length ([[(0 : Int)]]) ≤ lim)) = true then
    let x6 : Int := IntKind.wrap .i64 (s24 + (1 : Int))
    back ((s2, ((s4.1, (s4.2.1, (s4.2.2.1 ++ ([[(0 : Int)]]), s4.2.2.2))), (s23, (x6, ())))))
    else none
  else
    some (.inl ((s2, (s4, ()))))
noncomputable def impl_StaticTimetable_l0 (N : Nat) : Nat → impl_StaticTimetable_l0_H → Option impl_StaticTimetable_l0_O
  | 0, _ => none
  | k + 1, d => impl_StaticTimetable_l0_r N (impl_StaticTimetable_l0 N k) d
theorem impl_StaticTimetable_l0_ok (N : Nat) (back) (d) : roundR Γ_impl_StaticTimetable (assoc []) 0 impl_StaticTimetable_l0_h impl_StaticTimetable_l0_o (loopOf Try.f38 0) back d = impl_StaticTimetable_l0_r N back d := by kernel_rfl
noncomputable def F_impl_StaticTimetable (N : Nat) (d : (Int × (List (Int × Int × Unit)) × Unit) × Unit) : Option (((Int × (List (Int × Int × Unit)) × Unit) × Int × List (List Int) × Unit) × Bool × Unit) :=
  let a0 : Int × (List (Int × Int × Unit)) × Unit := d.1
  (G_graph (a0, ())).bind fun r1 =>
  if (!r1.1) = true then
    some (((((0 : Int), (([] : List (Int × Int × Unit)), ())), ((0 : Int), (([] : List (List Int)), ()))), (false, ())))
  else
    if (a0.1 == (0 : Int)) = true then
      some (((((0 : Int), (([] : List (Int × Int × Unit)), ())), ((0 : Int), (([] : List (List Int)), ()))), (false, ())))
    else
      (G_toIntA2S (a0.2.1, ())).bind fun r2 =>
      (impl_StaticTimetable_l0 N N (((((0 : Int), (([] : List (Int × Int × Unit)), ())), ((0 : Int), (([] : List (List Int)), ()))), (((a0.1, (r2.1, ())), ((1 : Int), (([] : List (List Int)), ()))), ((List.length a0.2.1 : Int), ((0 : Int), ())))))).bind fun o4 => match o4 with
      | .inl d5 =>
        some ((d5.2.1, (true, ())))
theorem F_impl_StaticTimetable_ok (N : Nat) (d) : fnR Γ_impl_StaticTimetable (assoc [(0, ⟨impl_StaticTimetable_l0_h, impl_StaticTimetable_l0_o, impl_StaticTimetable_l0 N N⟩)]) true [(K_PiSPiiqq, false)] [K_PPiSPiiqqiSSiq, .bool] Try.f38.results.toList (bodyOf Try.f38) d = F_impl_StaticTimetable N d := by kernel_rfl
noncomputable def S_impl_StaticTimetable : FSig := ⟨[(K_PiSPiiqq, false)], [K_PPiSPiiqqiSSiq, .bool], true, (G_static)⟩
/-! ### laws.markIntSS -/
noncomputable def Γ_laws_markIntSS : Ctx := { tk := assoc tks, ar := assoc ars, fs := assoc [(54, S_laws_markIntS)], lent := fun t => Nat.beq t 0 }
abbrev laws_markIntSS_l0_H := List (List Int) × Int × Int × Unit
abbrev laws_markIntSS_l0_O := (List (List Int) × Int × Unit) ⊕ Empty
def laws_markIntSS_l0_h : Form := [(0, .own K_SSi 2), (1, .v I), (5, .v I)]
def laws_markIntSS_l0_o : Outs := [(.normal, [(0, .own K_SSi 2), (1, .v I)])]
noncomputable def laws_markIntSS_l0_r (N : Nat) (back : laws_markIntSS_l0_H → Option laws_markIntSS_l0_O) (d : laws_markIntSS_l0_H) : Option laws_markIntSS_l0_O :=
  let s0 : List (List Int) := d.1
  let s1 : Int := d.2.1
  let s5 : Int := d.2.2.1
  if (decide (s5 < (List.length s0 : Int))) = true then
    if (idxIn s5 (List.length s0)) = true then
    (G_markIntS ((at_ K_Si s0 s5.toNat, (s1, ())))).bind fun r5 =>
    let x6 : Int := IntKind.wrap .i64 (s5 + (1 : Int))
    back ((List.set s0 s5.toNat r5.2.1, (r5.1, (x6, ()))))
    else none
  else
    some (.inl ((s0, (s1, ()))))
noncomputable def laws_markIntSS_l0 (N : Nat) : Nat → laws_markIntSS_l0_H → Option laws_markIntSS_l0_O
  | 0, _ => none
  | k + 1, d => laws_markIntSS_l0_r N (laws_markIntSS_l0 N k) d
theorem laws_markIntSS_l0_ok (N : Nat) (back) (d) : roundR Γ_laws_markIntSS (assoc []) 0 laws_markIntSS_l0_h laws_markIntSS_l0_o (loopOf Try.f89 0) back d = laws_markIntSS_l0_r N back d := by kernel_rfl
noncomputable def F_laws_markIntSS (N : Nat) (d : List (List Int) × Int × Unit) : Option (Int × List (List Int) × Unit) :=
  let a0 : List (List Int) := d.1
  let a1 : Int := d.2.1
  (laws_markIntSS_l0 N N ((a0, (a1, ((0 : Int), ()))))).bind fun o3 => match o3 with
  | .inl d4 =>
    some ((d4.2.1, (d4.1, ())))
theorem F_laws_markIntSS_ok (N : Nat) (d) : fnR Γ_laws_markIntSS (assoc [(0, ⟨laws_markIntSS_l0_h, laws_markIntSS_l0_o, laws_markIntSS_l0 N N⟩)]) true [(K_SSi, true), (I, false)] [I] Try.f89.results.toList (bodyOf Try.f89) d = F_laws_markIntSS N d := by kernel_rfl
noncomputable def S_laws_markIntSS : FSig := ⟨[(K_SSi, true), (I, false)], [I], true, (G_markIntSS)⟩
/-! ### laws.markTimetable -/
noncomputable def Γ_laws_markTimetable : Ctx := { tk := assoc tks, ar := assoc ars, fs := assoc [(29, S_laws_markGraph), (89, S_laws_markIntSS)], lent := fun t => Nat.beq t 0 }
noncomputable def F_laws_markTimetable (N : Nat) (d : ((Int × (List (Int × Int × Unit)) × Unit) × Int × List (List Int) × Unit) × Int × Unit) : Option (Int × ((Int × (List (Int × Int × Unit)) × Unit) × Int × List (List Int) × Unit) × Unit) :=
  let a0 : (Int × (List (Int × Int × Unit)) × Unit) × Int × List (List Int) × Unit := d.1
  let a1 : Int := d.2.1
  ((F_laws_markGraph 0) ((a0.1, (a1, ())))).bind fun r1 =>
  (G_markIntSS ((a0.2.2.1, (r1.1, ())))).bind fun r2 =>
  some ((r2.1, ((r1.2.1, (a0.2.1, (r2.2.1, a0.2.2.2))), ())))
theorem F_laws_markTimetable_ok (N : Nat) (d) : fnR Γ_laws_markTimetable (assoc []) true [(K_PPiSPiiqqiSSiq, true), (I, false)] [I] Try.f39.results.toList (bodyOf Try.f39) d = F_laws_markTimetable N d := by kernel_rfl
noncomputable def S_laws_markTimetable : FSig := ⟨[(K_PPiSPiiqqiSSiq, true), (I, false)], [I], true, (F_laws_markTimetable 0)⟩
/-! ### laws.heldIntSS -/
noncomputable def Γ_laws_heldIntSS : Ctx := { tk := assoc tks, ar := assoc ars, fs := assoc [(55, S_laws_heldIntS)] }
abbrev laws_heldIntSS_l0_H := List (List Int) × Int × Int × Unit
abbrev laws_heldIntSS_l0_O := (Int × Unit) ⊕ (Int × Unit) ⊕ Empty
def laws_heldIntSS_l0_h : Form := [(0, .v K_SSi), (1, .v I), (5, .v I)]
def laws_heldIntSS_l0_o : Outs := [(.ret, [(4, .v I)]), (.normal, [(1, .v I)])]
noncomputable def laws_heldIntSS_l0_r (N : Nat) (back : laws_heldIntSS_l0_H → Option laws_heldIntSS_l0_O) (d : laws_heldIntSS_l0_H) : Option laws_heldIntSS_l0_O :=
  let s0 : List (List Int) := d.1
  let s1 : Int := d.2.1
  let s5 : Int := d.2.2.1
  if (decide (s5 < (List.length s0 : Int))) = true then
    if (idxIn s5 (List.length s0)) = true then
    (G_heldIntS ((at_ K_Si s0 s5.toNat, (s1, ())))).bind fun r6 =>
    if (decide (r6.1 < (0 : Int))) = true then
      some (.inl ((-1 : Int), ()))
    else
      let x7 : Int := IntKind.wrap .i64 (s5 + (1 : Int))
      back ((s0, (r6.1, (x7, ()))))
    else none
  else
    some (.inr (.inl (s1, ())))
noncomputable def laws_heldIntSS_l0 (N : Nat) : Nat → laws_heldIntSS_l0_H → Option laws_heldIntSS_l0_O
  | 0, _ => none
  | k + 1, d => laws_heldIntSS_l0_r N (laws_heldIntSS_l0 N k) d
theorem laws_heldIntSS_l0_ok (N : Nat) (back) (d) : roundR Γ_laws_heldIntSS (assoc []) 0 laws_heldIntSS_l0_h laws_heldIntSS_l0_o (loopOf Try.f90 0) back d = laws_heldIntSS_l0_r N back d := by kernel_rfl
noncomputable def F_laws_heldIntSS (N : Nat) (d : List (List Int) × Int × Unit) : Option (Int × Unit) :=
  let a0 : List (List Int) := d.1
  let a1 : Int := d.2.1
  (laws_heldIntSS_l0 N N ((a0, (a1, ((0 : Int), ()))))).bind fun o3 => match o3 with
  | .inl d4 =>
    some (d4.1, ())
  | .inr (.inl d5) =>
    some (d5.1, ())
theorem F_laws_heldIntSS_ok (N : Nat) (d) : fnR Γ_laws_heldIntSS (assoc [(0, ⟨laws_heldIntSS_l0_h, laws_heldIntSS_l0_o, laws_heldIntSS_l0 N N⟩)]) true [(K_SSi, false), (I, false)] [I] Try.f90.results.toList (bodyOf Try.f90) d = F_laws_heldIntSS N d := by kernel_rfl
noncomputable def S_laws_heldIntSS : FSig := ⟨[(K_SSi, false), (I, false)], [I], true, (G_heldIntSS)⟩
/-! ### laws.heldTimetable -/
noncomputable def Γ_laws_heldTimetable : Ctx := { tk := assoc tks, ar := assoc ars, fs := assoc [(48, S_laws_heldGraph), (90, S_laws_heldIntSS)] }
noncomputable def F_laws_heldTimetable (N : Nat) (d : ((Int × (List (Int × Int × Unit)) × Unit) × Int × List (List Int) × Unit) × Int × Unit) : Option (Int × Unit) :=
  let a0 : (Int × (List (Int × Int × Unit)) × Unit) × Int × List (List Int) × Unit := d.1
  let a1 : Int := d.2.1
  ((F_laws_heldGraph 0) ((a0.1, (a1, ())))).bind fun r1 =>
  if (decide (r1.1 < (0 : Int))) = true then
    some ((-1 : Int), ())
  else
    (G_heldIntSS ((a0.2.2.1, (r1.1, ())))).bind fun r2 =>
    if (decide (r2.1 < (0 : Int))) = true then
      some ((-1 : Int), ())
    else
      some (r2.1, ())
theorem F_laws_heldTimetable_ok (N : Nat) (d) : fnR Γ_laws_heldTimetable (assoc []) true [(K_PPiSPiiqqiSSiq, false), (I, false)] [I] Try.f40.results.toList (bodyOf Try.f40) d = F_laws_heldTimetable N d := by kernel_rfl
noncomputable def S_laws_heldTimetable : FSig := ⟨[(K_PPiSPiiqqiSSiq, false), (I, false)], [I], true, (F_laws_heldTimetable 0)⟩
/-! ### laws.FnExactStaticTimetable -/
noncomputable def Γ_laws_FnExactStaticTimetable : Ctx := { tk := assoc tks, ar := assoc ars, fs := assoc [(24, S_laws_szGraph), (26, S_laws_toGraph), (28, S_laws_eqGraph), (29, S_laws_markGraph), (36, S_laws_eqTimetable), (37, S_spec_StaticTimetable), (38, S_impl_StaticTimetable), (39, S_laws_markTimetable), (40, S_laws_heldTimetable)] }
noncomputable def F_laws_FnExactStaticTimetable (N : Nat) (d : (Int × (List (Int × Int × Unit)) × Unit) × Unit) : Option (Bool × Unit) :=
  let a0 : Int × (List (Int × Int × Unit)) × Unit := d.1
  let r1 : Int × Unit := g_laws_szGraph ((a0, ((1048576 : Int), ())))
  if (decide (r1.1 < (0 : Int))) = true then
    some (true, ())
  else
    ((F_laws_toGraph 0) (a0, ())).bind fun r2 =>
    (G_static (r2.1, ())).bind fun r3 =>
    ((F_laws_toGraph 0) (a0, ())).bind fun r4 =>
    (G_static (r4.1, ())).bind fun r5 =>
    ((F_laws_eqTimetable 0) ((r5.1, (r3.1, ())))).bind fun r6 =>
    if (!r6.1) = true then
      some (false, ())
    else
      if (!(r5.2.1 == r3.2.1)) = true then
        some (false, ())
      else
        ((F_laws_toGraph 0) (a0, ())).bind fun r7 =>
        ((F_laws_eqGraph 0) ((r4.1, (r7.1, ())))).bind fun r8 =>
        if (!r8.1) = true then
          some (false, ())
        else
          ((F_laws_markGraph 0) ((r4.1, ((1 : Int), ())))).bind fun r9 =>
          if (decide (r9.1 < (0 : Int))) = true then
            some (false, ())
          else
            ((F_laws_eqTimetable 0) ((r5.1, (r3.1, ())))).bind fun r10 =>
            if (!r10.1) = true then
              some (false, ())
            else
              if (!(r5.2.1 == r3.2.1)) = true then
                some (false, ())
              else
                ((F_laws_markTimetable 0) ((r5.1, ((1 : Int), ())))).bind fun r11 =>
                ((F_laws_heldTimetable 0) ((r11.2.1, ((1 : Int), ())))).bind fun r12 =>
                if (decide (r12.1 < (0 : Int))) = true then
                  some (false, ())
                else
                  if (r12.1 != r11.1) = true then
                    some (false, ())
                  else
                    ((F_laws_toGraph 0) (a0, ())).bind fun r13 =>
                    (G_static (r13.1, ())).bind fun r14 =>
                    ((F_laws_eqTimetable 0) ((r14.1, (r3.1, ())))).bind fun r15 =>
                    if (!r15.1) = true then
                      some (false, ())
                    else
                      if (!(r14.2.1 == r3.2.1)) = true then
                        some (false, ())
                      else
                        ((F_laws_heldTimetable 0) ((r11.2.1, ((1 : Int), ())))).bind fun r16 =>
                        if (decide (r16.1 < (0 : Int))) = true then
                          some (false, ())
                        else
                          if (r16.1 != r11.1) = true then
                            some (false, ())
                          else
                            some (true, ())
theorem F_laws_FnExactStaticTimetable_ok (N : Nat) (d) : fnR Γ_laws_FnExactStaticTimetable (assoc []) true [(K_PiSPiiqq, false)] [.bool] Try.f7.results.toList (bodyOf Try.f7) d = F_laws_FnExactStaticTimetable N d := by kernel_rfl
noncomputable def S_laws_FnExactStaticTimetable : FSig := ⟨[(K_PiSPiiqq, false)], [.bool], true, (F_laws_FnExactStaticTimetable 0)⟩
/-! ### spec.l11Clock -/
noncomputable def Γ_spec_l11Clock : Ctx := { tk := assoc tks, ar := assoc ars, fs := assoc [(122, S_spec_l1In)] }
noncomputable def F_spec_l11Clock (N : Nat) (d : Int × Unit) : Option (Bool × Unit) :=
  let a0 : Int := d.1
  let r1 : Bool × Unit := g_spec_l1In ((a0, ((0 : Int), ((1000 : Int), ()))))
  some (r1.1, ())
theorem F_spec_l11Clock_ok (N : Nat) (d) : fnR Γ_spec_l11Clock (assoc []) true [(I, false)] [.bool] Try.f93.results.toList (bodyOf Try.f93) d = F_spec_l11Clock N d := by kernel_rfl
noncomputable def g_spec_l11Clock (d : Int × Unit) : Bool × Unit :=
  let a0 : Int := d.1
  let r1 : Bool × Unit := g_spec_l1In ((a0, ((0 : Int), ((1000 : Int), ()))))
  (r1.1, ())
theorem F_spec_l11Clock_tot (N : Nat) (d) : F_spec_l11Clock N d = some (g_spec_l11Clock d) := by
  unfold F_spec_l11Clock g_spec_l11Clock
  first
    | rfl
    | (dsimp only; (repeat' split) <;> rfl)
noncomputable def S_spec_l11Clock : FSig := ⟨[(I, false)], [.bool], true, (fun d => some (g_spec_l11Clock d))⟩
/-! ### spec.l1Has -/
noncomputable def Γ_spec_l1Has : Ctx := { tk := assoc tks, ar := assoc ars, fs := assoc [] }
abbrev spec_l1Has_l0_H := List Int × Int × Int × Unit
abbrev spec_l1Has_l0_O := (Bool × Unit) ⊕ Unit ⊕ Empty
def spec_l1Has_l0_h : Form := [(0, .v K_Si), (1, .v I), (5, .v I)]
def spec_l1Has_l0_o : Outs := [(.ret, [(4, .v .bool)]), (.normal, [])]
noncomputable def spec_l1Has_l0_r (N : Nat) (back : spec_l1Has_l0_H → Option spec_l1Has_l0_O) (d : spec_l1Has_l0_H) : Option spec_l1Has_l0_O :=
  let s0 : List Int := d.1
  let s1 : Int := d.2.1
  let s5 : Int := d.2.2.1
  if (decide (s5 < (List.length s0 : Int))) = true then
    if (idxIn s5 (List.length s0)) = true then
    if (at_ I s0 s5.toNat == s1) = true then
      some (.inl (true, ()))
    else
      let x5 : Int := IntKind.wrap .i64 (s5 + (1 : Int))
      back ((s0, (s1, (x5, ()))))
    else none
  else
    some (.inr (.inl ()))
noncomputable def spec_l1Has_l0 (N : Nat) : Nat → spec_l1Has_l0_H → Option spec_l1Has_l0_O
  | 0, _ => none
  | k + 1, d => spec_l1Has_l0_r N (spec_l1Has_l0 N k) d
theorem spec_l1Has_l0_ok (N : Nat) (back) (d) : roundR Γ_spec_l1Has (assoc []) 0 spec_l1Has_l0_h spec_l1Has_l0_o (loopOf Try.f131 0) back d = spec_l1Has_l0_r N back d := by kernel_rfl
noncomputable def F_spec_l1Has (N : Nat) (d : List Int × Int × Unit) : Option (Bool × Unit) :=
  let a0 : List Int := d.1
  let a1 : Int := d.2.1
  (spec_l1Has_l0 N N ((a0, (a1, ((0 : Int), ()))))).bind fun o2 => match o2 with
  | .inl d3 =>
    some (d3.1, ())
  | .inr (.inl d4) =>
    some (false, ())
theorem F_spec_l1Has_ok (N : Nat) (d) : fnR Γ_spec_l1Has (assoc [(0, ⟨spec_l1Has_l0_h, spec_l1Has_l0_o, spec_l1Has_l0 N N⟩)]) true [(K_Si, false), (I, false)] [.bool] Try.f131.results.toList (bodyOf Try.f131) d = F_spec_l1Has N d := by kernel_rfl
noncomputable def S_spec_l1Has : FSig := ⟨[(K_Si, false), (I, false)], [.bool], true, (G_l1Has)⟩
/-! ### spec.l11Open -/
noncomputable def Γ_spec_l11Open : Ctx := { tk := assoc tks, ar := assoc ars, fs := assoc [(131, S_spec_l1Has)] }
abbrev spec_l11Open_l0_H := Int × ((Int × (List (Int × Int × Unit)) × Unit) × Int × List (List Int) × Unit) × (Int × (List (Int × Int × Unit)) × Unit) × (Int × (List (Int × Int × Unit)) × Unit) × Int × Unit
abbrev spec_l11Open_l0_O := ((Int × (List (Int × Int × Unit)) × Unit) × (Int × (List (Int × Int × Unit)) × Unit) × Unit) ⊕ Empty
def spec_l11Open_l0_h : Form := [(1, .v I), (2, .box K_PPiSPiiqqiSSiq 0), (4, .box K_PiSPiiqq 99), (5, .box K_PiSPiiqq 99), (6, .v I)]
def spec_l11Open_l0_o : Outs := [(.normal, [(4, .box K_PiSPiiqq 99), (5, .box K_PiSPiiqq 99)])]
noncomputable def spec_l11Open_l0_r (N : Nat) (back : spec_l11Open_l0_H → Option spec_l11Open_l0_O) (d : spec_l11Open_l0_H) : Option spec_l11Open_l0_O :=
  let s1 : Int := d.1
  let s2 : (Int × (List (Int × Int × Unit)) × Unit) × Int × List (List Int) × Unit := d.2.1
  let s4 : Int × (List (Int × Int × Unit)) × Unit := d.2.2.1
  let s5 : Int × (List (Int × Int × Unit)) × Unit := d.2.2.2.1
  let s6 : Int := d.2.2.2.2.1
  if (decide (s6 < (List.length s2.1.2.1 : Int))) = true then
    if (idxIn s6 (List.length s2.2.2.1)) = true then
    if (s2.2.1 != 0) = true then
    (G_l1Has ((at_ K_Si s2.2.2.1 s6.toNat, (s1.tmod s2.2.1, ())))).bind fun r7 =>
    if (r7.1) = true then
      if (idxIn s6 (List.length s2.1.2.1)) = true then
      if (decide (List.length s5.2.1 + List.length ([at_ K_Piiq s2.1.2.1 s6.toNat]) ≤ lim)) = true then
      let x8 : List (Int × Int × Unit) := s5.2.1 ++ ([at_ K_Piiq s2.1.2.1 s6.toNat])
      let x9 : Int := IntKind.wrap .i64 (s6 + (1 : Int))
      back ((s1, (s2, (s4, ((s5.1, (x8, s5.2.2)), (x9, ()))))))
      else none
      else none
    else
      let x10 : Int := IntKind.wrap .i64 (s6 + (1 : Int))
      back ((s1, (s2, (s4, (s5, (x10, ()))))))
    else none
    else none
  else
    some (.inl ((s4, (s5, ()))))
noncomputable def spec_l11Open_l0 (N : Nat) : Nat → spec_l11Open_l0_H → Option spec_l11Open_l0_O
  | 0, _ => none
  | k + 1, d => spec_l11Open_l0_r N (spec_l11Open_l0 N k) d
theorem spec_l11Open_l0_ok (N : Nat) (back) (d) : roundR Γ_spec_l11Open (assoc []) 0 spec_l11Open_l0_h spec_l11Open_l0_o (loopOf Try.f94 0) back d = spec_l11Open_l0_r N back d := by kernel_rfl
noncomputable def F_spec_l11Open (N : Nat) (d : ((Int × (List (Int × Int × Unit)) × Unit) × Int × List (List Int) × Unit) × Int × Unit) : Option ((Int × (List (Int × Int × Unit)) × Unit) × Unit) :=
  let a0 : (Int × (List (Int × Int × Unit)) × Unit) × Int × List (List Int) × Unit := d.1
  let a1 : Int := d.2.1
  (spec_l11Open_l0 N N ((a1, (a0, (((0 : Int), (([] : List (Int × Int × Unit)), ())), ((a0.1.1, (([] : List (Int × Int × Unit)), ())), ((0 : Int), ()))))))).bind fun o5 => match o5 with
  | .inl d6 =>
    some (d6.2.1, ())
theorem F_spec_l11Open_ok (N : Nat) (d) : fnR Γ_spec_l11Open (assoc [(0, ⟨spec_l11Open_l0_h, spec_l11Open_l0_o, spec_l11Open_l0 N N⟩)]) true [(K_PPiSPiiqqiSSiq, false), (I, false)] [K_PiSPiiqq] Try.f94.results.toList (bodyOf Try.f94) d = F_spec_l11Open N d := by kernel_rfl
noncomputable def S_spec_l11Open : FSig := ⟨[(K_PPiSPiiqqiSSiq, false), (I, false)], [K_PiSPiiqq], true, (G_l11Open)⟩
/-! ### spec.OpenGraph -/
noncomputable def Γ_spec_OpenGraph : Ctx := { tk := assoc tks, ar := assoc ars, fs := assoc [(81, S_spec_l11Good), (93, S_spec_l11Clock), (94, S_spec_l11Open)] }
noncomputable def F_spec_OpenGraph (N : Nat) (d : ((Int × (List (Int × Int × Unit)) × Unit) × Int × List (List Int) × Unit) × Int × Unit) : Option ((Int × (List (Int × Int × Unit)) × Unit) × Bool × Unit) :=
  let a0 : (Int × (List (Int × Int × Unit)) × Unit) × Int × List (List Int) × Unit := d.1
  let a1 : Int := d.2.1
  (G_l11Good (a0, ())).bind fun r1 =>
  if (!r1.1) = true then
    some ((((0 : Int), (([] : List (Int × Int × Unit)), ())), (false, ())))
  else
    let r2 : Bool × Unit := g_spec_l11Clock (a1, ())
    if (!r2.1) = true then
      some ((((0 : Int), (([] : List (Int × Int × Unit)), ())), (false, ())))
    else
      (G_l11Open ((a0, (a1, ())))).bind fun r3 =>
      some ((r3.1, (true, ())))
theorem F_spec_OpenGraph_ok (N : Nat) (d) : fnR Γ_spec_OpenGraph (assoc []) true [(K_PPiSPiiqqiSSiq, false), (I, false)] [K_PiSPiiqq, .bool] Try.f46.results.toList (bodyOf Try.f46) d = F_spec_OpenGraph N d := by kernel_rfl
noncomputable def S_spec_OpenGraph : FSig := ⟨[(K_PPiSPiiqqiSSiq, false), (I, false)], [K_PiSPiiqq, .bool], true, (F_spec_OpenGraph 0)⟩
/-! ### impl.isClock -/
noncomputable def Γ_impl_isClock : Ctx := { tk := assoc tks, ar := assoc ars, fs := assoc [(72, S_impl_within)] }
noncomputable def F_impl_isClock (N : Nat) (d : Int × Unit) : Option (Bool × Unit) :=
  let a0 : Int := d.1
  let r1 : Bool × Unit := g_impl_within ((a0, ((0 : Int), ((1000 : Int), ()))))
  some (r1.1, ())
theorem F_impl_isClock_ok (N : Nat) (d) : fnR Γ_impl_isClock (assoc []) true [(I, false)] [.bool] Try.f95.results.toList (bodyOf Try.f95) d = F_impl_isClock N d := by kernel_rfl
noncomputable def g_impl_isClock (d : Int × Unit) : Bool × Unit :=
  let a0 : Int := d.1
  let r1 : Bool × Unit := g_impl_within ((a0, ((0 : Int), ((1000 : Int), ()))))
  (r1.1, ())
theorem F_impl_isClock_tot (N : Nat) (d) : F_impl_isClock N d = some (g_impl_isClock d) := by
  unfold F_impl_isClock g_impl_isClock
  first
    | rfl
    | (dsimp only; (repeat' split) <;> rfl)
noncomputable def S_impl_isClock : FSig := ⟨[(I, false)], [.bool], true, (fun d => some (g_impl_isClock d))⟩
/-! ### impl.netOf -/
noncomputable def Γ_impl_netOf : Ctx := { tk := assoc tks, ar := assoc ars, fs := assoc [] }
abbrev impl_netOf_l0_H := (List Int × Unit) × (List Int × Unit) × (List (Int × Int × Unit)) × Int × Int × Unit
abbrev impl_netOf_l0_O := ((List Int × Unit) × (List Int × Unit) × Unit) ⊕ Empty
def impl_netOf_l0_h : Form := [(2, .box K_PSiq 99), (3, .box K_PSiq 99), (11, .v K_SPiiq), (12, .v I), (13, .v I)]
def impl_netOf_l0_o : Outs := [(.normal, [(2, .box K_PSiq 99), (3, .box K_PSiq 99)])]
noncomputable def impl_netOf_l0_r (N : Nat) (back : impl_netOf_l0_H → Option impl_netOf_l0_O) (d : impl_netOf_l0_H) : Option impl_netOf_l0_O :=
  let s2 : List Int × Unit := d.1
  let s3 : List Int × Unit := d.2.1
  let s11 : List (Int × Int × Unit) := d.2.2.1
  let s12 : Int := d.2.2.2.1
  let s13 : Int := d.2.2.2.2.1
  if (decide (s13 < s12)) = true then
    if (idxIn s13 (List.length s11)) = true then
    if (idxIn (at_ K_Piiq s11 s13.toNat).1 (List.length s3.1)) = true then
    if (decide (0 ≤ (at_ K_Piiq s11 s13.toNat).2.1)) = true then
    let x9 : Int := shl .i64 (1 : Int) (at_ K_Piiq s11 s13.toNat).2.1
    let x10 : Int := bits .or .i64 (at_ I s3.1 (at_ K_Piiq s11 s13.toNat).1.toNat) x9
    if (idxIn (at_ K_Piiq s11 s13.toNat).1 (List.length s3.1)) = true then
    if (idxIn (at_ K_Piiq s11 s13.toNat).2.1 (List.length (List.set s3.1 (at_ K_Piiq s11 s13.toNat).1.toNat x10))) = true then
    if (decide (0 ≤ (at_ K_Piiq s11 s13.toNat).1)) = true then
    let x11 : Int := shl .i64 (1 : Int) (at_ K_Piiq s11 s13.toNat).1
    let x12 : Int := bits .or .i64 (at_ I (List.set s3.1 (at_ K_Piiq s11 s13.toNat).1.toNat x10) (at_ K_Piiq s11 s13.toNat).2.1.toNat) x11
    if (idxIn (at_ K_Piiq s11 s13.toNat).2.1 (List.length (List.set s3.1 (at_ K_Piiq s11 s13.toNat).1.toNat x10))) = true then
    let x13 : Int := IntKind.wrap .i64 (s13 + (1 : Int))
    back ((s2, ((List.set (List.set s3.1 (at_ K_Piiq s11 s13.toNat).1.toNat x10) (at_ K_Piiq s11 s13.toNat).2.1.toNat x12, s3.2), (s11, (s12, (x13, ()))))))
    else none
    else none
    else none
    else none
    else none
    else none
    else none
  else
    some (.inl ((s2, (s3, ()))))
noncomputable def impl_netOf_l0 (N : Nat) : Nat → impl_netOf_l0_H → Option impl_netOf_l0_O
  | 0, _ => none
  | k + 1, d => impl_netOf_l0_r N (impl_netOf_l0 N k) d
theorem impl_netOf_l0_ok (N : Nat) (back) (d) : roundR Γ_impl_netOf (assoc []) 0 impl_netOf_l0_h impl_netOf_l0_o (loopOf Try.f108 0) back d = impl_netOf_l0_r N back d := by kernel_rfl
noncomputable def F_impl_netOf (N : Nat) (d : (Int × (List (Int × Int × Unit)) × Unit) × Unit) : Option ((List Int × Unit) × Unit) :=
  let a0 : Int × (List (Int × Int × Unit)) × Unit := d.1
  if ((decide (0 ≤ a0.1) && decide (a0.1 ≤ a0.1) && decide (a0.1 ≤ (lim : Int)))) = true then
  let x1 : List Int := List.replicate a0.1.toNat (0 : Int)
  (impl_netOf_l0 N N (((([] : List Int), ()), ((x1, ()), (a0.2.1, ((List.length a0.2.1 : Int), ((0 : Int), ()))))))).bind fun o7 => match o7 with
  | .inl d8 =>
    some (d8.2.1, ())
  else none
theorem F_impl_netOf_ok (N : Nat) (d) : fnR Γ_impl_netOf (assoc [(0, ⟨impl_netOf_l0_h, impl_netOf_l0_o, impl_netOf_l0 N N⟩)]) true [(K_PiSPiiqq, false)] [K_PSiq] Try.f108.results.toList (bodyOf Try.f108) d = F_impl_netOf N d := by kernel_rfl
noncomputable def S_impl_netOf : FSig := ⟨[(K_PiSPiiqq, false)], [K_PSiq], true, (G_netOf)⟩
/-! ### slices.Index[[]int,int] -/
noncomputable def Γ_slices_Index_Sint_int : Ctx := { tk := assoc tks, ar := assoc ars, fs := assoc [] }
abbrev slices_Index_Sint_int_l0_H := List Int × Int × Int × Int × Unit
abbrev slices_Index_Sint_int_l0_O := (Int × Unit) ⊕ Unit ⊕ Empty
def slices_Index_Sint_int_l0_h : Form := [(0, .v K_Si), (1, .v I), (7, .v I), (8, .v I)]
def slices_Index_Sint_int_l0_o : Outs := [(.ret, [(4, .v I)]), (.normal, [])]
noncomputable def slices_Index_Sint_int_l0_r (N : Nat) (back : slices_Index_Sint_int_l0_H → Option slices_Index_Sint_int_l0_O) (d : slices_Index_Sint_int_l0_H) : Option slices_Index_Sint_int_l0_O :=
  let s0 : List Int := d.1
  let s1 : Int := d.2.1
  let s7 : Int := d.2.2.1
  let s8 : Int := d.2.2.2.1
  if (decide (s8 < s7)) = true then
    if (idxIn s8 (List.length s0)) = true then
    if (s1 == at_ I s0 s8.toNat) = true then
      some (.inl (s8, ()))
    else
      let x5 : Int := IntKind.wrap .i64 (s8 + (1 : Int))
      back ((s0, (s1, (s7, (x5, ())))))
    else none
  else
    some (.inr (.inl ()))
noncomputable def slices_Index_Sint_int_l0 (N : Nat) : Nat → slices_Index_Sint_int_l0_H → Option slices_Index_Sint_int_l0_O
  | 0, _ => none
  | k + 1, d => slices_Index_Sint_int_l0_r N (slices_Index_Sint_int_l0 N k) d
theorem slices_Index_Sint_int_l0_ok (N : Nat) (back) (d) : roundR Γ_slices_Index_Sint_int (assoc []) 0 slices_Index_Sint_int_l0_h slices_Index_Sint_int_l0_o (loopOf Try.f150 0) back d = slices_Index_Sint_int_l0_r N back d := by kernel_rfl
noncomputable def F_slices_Index_Sint_int (N : Nat) (d : List Int × Int × Unit) : Option (Int × Unit) :=
  let a0 : List Int := d.1
  let a1 : Int := d.2.1
  (slices_Index_Sint_int_l0 N N ((a0, (a1, ((List.length a0 : Int), ((0 : Int), ())))))).bind fun o2 => match o2 with
  | .inl d3 =>
    some (d3.1, ())
  | .inr (.inl d4) =>
    some ((-1 : Int), ())
theorem F_slices_Index_Sint_int_ok (N : Nat) (d) : fnR Γ_slices_Index_Sint_int (assoc [(0, ⟨slices_Index_Sint_int_l0_h, slices_Index_Sint_int_l0_o, slices_Index_Sint_int_l0 N N⟩)]) true [(K_Si, false), (I, false)] [I] Try.f150.results.toList (bodyOf Try.f150) d = F_slices_Index_Sint_int N d := by kernel_rfl
noncomputable def S_slices_Index_Sint_int : FSig := ⟨[(K_Si, false), (I, false)], [I], true, (G_index)⟩
/-! ### slices.Contains[[]int,int] -/
noncomputable def Γ_slices_Contains_Sint_int : Ctx := { tk := assoc tks, ar := assoc ars, fs := assoc [(150, S_slices_Index_Sint_int)] }
noncomputable def F_slices_Contains_Sint_int (N : Nat) (d : List Int × Int × Unit) : Option (Bool × Unit) :=
  let a0 : List Int := d.1
  let a1 : Int := d.2.1
  (G_index ((a0, (a1, ())))).bind fun r1 =>
  some ((decide (r1.1 ≥ (0 : Int)), ()))
theorem F_slices_Contains_Sint_int_ok (N : Nat) (d) : fnR Γ_slices_Contains_Sint_int (assoc []) true [(K_Si, false), (I, false)] [.bool] Try.f132.results.toList (bodyOf Try.f132) d = F_slices_Contains_Sint_int N d := by kernel_rfl
noncomputable def S_slices_Contains_Sint_int : FSig := ⟨[(K_Si, false), (I, false)], [.bool], true, (F_slices_Contains_Sint_int 0)⟩
/-! ### impl.openNets -/
noncomputable def Γ_impl_openNets : Ctx := { tk := assoc tks, ar := assoc ars, fs := assoc [(108, S_impl_netOf), (132, S_slices_Contains_Sint_int)] }
abbrev impl_openNets_l2_H := ((Int × (List (Int × Int × Unit)) × Unit) × Int × List (List Int) × Unit) × (List (List Int × Unit)) × Int × Int × Int × (List (Int × Int × Unit)) × Int × Int × Unit
abbrev impl_openNets_l2_O := (((Int × (List (Int × Int × Unit)) × Unit) × Int × List (List Int) × Unit) × (List (List Int × Unit)) × Int × Int × Unit) ⊕ Empty
def impl_openNets_l2_h : Form := [(1, .box K_PPiSPiiqqiSSiq 0), (3, .own K_SPSiq 99), (4, .v I), (11, .v I), (12, .v I), (25, .v K_SPiiq), (26, .v I), (27, .v I)]
def impl_openNets_l2_o : Outs := [(.normal, [(1, .box K_PPiSPiiqqiSSiq 0), (3, .own K_SPSiq 99), (11, .v I), (12, .v I)])]
noncomputable def impl_openNets_l2_r (N : Nat) (back : impl_openNets_l2_H → Option impl_openNets_l2_O) (d : impl_openNets_l2_H) : Option impl_openNets_l2_O :=
  let s1 : (Int × (List (Int × Int × Unit)) × Unit) × Int × List (List Int) × Unit := d.1
  let s3 : List (List Int × Unit) := d.2.1
  let s4 : Int := d.2.2.1
  let s11 : Int := d.2.2.2.1
  let s12 : Int := d.2.2.2.2.1
  let s25 : List (Int × Int × Unit) := d.2.2.2.2.2.1
  let s26 : Int := d.2.2.2.2.2.2.1
  let s27 : Int := d.2.2.2.2.2.2.2.1
  if (decide (s27 < s26)) = true then
    if (idxIn s27 (List.length s25)) = true then
    if (idxIn s27 (List.length s1.2.2.1)) = true then
    ((F_slices_Contains_Sint_int 0) ((at_ K_Si s1.2.2.1 s27.toNat, (s4, ())))).bind fun r30 =>
    if (r30.1) = true then
      if (idxIn s4 (List.length s3)) = true then
      if (idxIn (at_ K_Piiq s25 s27.toNat).1 (List.length (at_ K_PSiq s3 s4.toNat).1)) = true then
      if (decide (0 ≤ (at_ K_Piiq s25 s27.toNat).2.1)) = true then
      let x31 : Int := shl .i64 (1 : Int) (at_ K_Piiq s25 s27.toNat).2.1
      let x32 : Int := bits .or .i64 (at_ I (at_ K_PSiq s3 s4.toNat).1 (at_ K_Piiq s25 s27.toNat).1.toNat) x31
      if (idxIn (at_ K_Piiq s25 s27.toNat).1 (List.length (at_ K_PSiq s3 s4.toNat).1)) = true then
      let x33 : List (List Int × Unit) := List.set s3 s4.toNat (List.set (at_ K_PSiq s3 s4.toNat).1 (at_ K_Piiq s25 s27.toNat).1.toNat x32, (at_ K_PSiq s3 s4.toNat).2)
      if (idxIn s4 (List.length x33)) = true then
      if (idxIn (at_ K_Piiq s25 s27.toNat).2.1 (List.length (at_ K_PSiq x33 s4.toNat).1)) = true then
      if (decide (0 ≤ (at_ K_Piiq s25 s27.toNat).1)) = true then
      let x34 : Int := shl .i64 (1 : Int) (at_ K_Piiq s25 s27.toNat).1
      let x35 : Int := bits .or .i64 (at_ I (at_ K_PSiq x33 s4.toNat).1 (at_ K_Piiq s25 s27.toNat).2.1.toNat) x34
      if (idxIn (at_ K_Piiq s25 s27.toNat).2.1 (List.length (at_ K_PSiq x33 s4.toNat).1)) = true then
      let x36 : List (List Int × Unit) := List.set x33 s4.toNat (List.set (at_ K_PSiq x33 s4.toNat).1 (at_ K_Piiq s25 s27.toNat).2.1.toNat x35, (at_ K_PSiq x33 s4.toNat).2)
      let x37 : Int := IntKind.wrap .i64 (s27 + (1 : Int))
      back ((s1, (x36, (s4, (s11, (s12, (s25, (s26, (x37, ())))))))))
      else none
      else none
      else none
      else none
      else none
      else none
      else none
      else none
    else
      let x38 : Int := IntKind.wrap .i64 (s27 + (1 : Int))
      back ((s1, (s3, (s4, (s11, (s12, (s25, (s26, (x38, ())))))))))
    else none
    else none
  else
    some (.inl ((s1, (s3, (s11, (s12, ()))))))
noncomputable def impl_openNets_l2 (N : Nat) : Nat → impl_openNets_l2_H → Option impl_openNets_l2_O
  | 0, _ => none
  | k + 1, d => impl_openNets_l2_r N (impl_openNets_l2 N k) d
theorem impl_openNets_l2_ok (N : Nat) (back) (d) : roundR Γ_impl_openNets (assoc []) 2 impl_openNets_l2_h impl_openNets_l2_o (loopOf Try.f96 2) back d = impl_openNets_l2_r N back d := by kernel_rfl
abbrev impl_openNets_l0_H := ((Int × (List (Int × Int × Unit)) × Unit) × Int × List (List Int) × Unit) × (List (List Int × Unit)) × Int × Int × Unit
abbrev impl_openNets_l0_O := ((List (List Int × Unit)) × Unit) ⊕ Empty
def impl_openNets_l0_h : Form := [(1, .box K_PPiSPiiqqiSSiq 0), (3, .own K_SPSiq 99), (11, .v I), (12, .v I)]
def impl_openNets_l0_o : Outs := [(.normal, [(3, .own K_SPSiq 99)])]
noncomputable def impl_openNets_l0_r (N : Nat) (back : impl_openNets_l0_H → Option impl_openNets_l0_O) (d : impl_openNets_l0_H) : Option impl_openNets_l0_O :=
  let s1 : (Int × (List (Int × Int × Unit)) × Unit) × Int × List (List Int) × Unit := d.1
  let s3 : List (List Int × Unit) := d.2.1
  let s11 : Int := d.2.2.1
  let s12 : Int := d.2.2.2.1
  if (decide (s12 < s11)) = true then
    (G_netOf (((s1.1.1, (([] : List (Int × Int × Unit)), ())), ()))).bind fun r17 =>
    if (idxIn s12 (List.length s3)) = true then
    (impl_openNets_l2 N N ((s1, (List.set s3 s12.toNat r17.1, (s12, (s11, (s12, (s1.1.2.1, ((List.length s1.1.2.1 : Int), ((0 : Int), ())))))))))).bind fun o27 => match o27 with
    | .inl d28 =>
      let x29 : Int := IntKind.wrap .i64 (d28.2.2.2.1 + (1 : Int))
      back ((d28.1, (d28.2.1, (d28.2.2.1, (x29, ())))))
    else none
  else
    some (.inl (s3, ()))
noncomputable def impl_openNets_l0 (N : Nat) : Nat → impl_openNets_l0_H → Option impl_openNets_l0_O
  | 0, _ => none
  | k + 1, d => impl_openNets_l0_r N (impl_openNets_l0 N k) d
theorem impl_openNets_l0_ok (N : Nat) (back) (d) : roundR Γ_impl_openNets (assoc [(2, ⟨impl_openNets_l2_h, impl_openNets_l2_o, impl_openNets_l2 N N⟩)]) 0 impl_openNets_l0_h impl_openNets_l0_o (loopOf Try.f96 0) back d = impl_openNets_l0_r N back d := by kernel_rfl
noncomputable def F_impl_openNets (N : Nat) (d : ((Int × (List (Int × Int × Unit)) × Unit) × Int × List (List Int) × Unit) × Unit) : Option ((List (List Int × Unit)) × Unit) :=
  let a0 : (Int × (List (Int × Int × Unit)) × Unit) × Int × List (List Int) × Unit := d.1
  if ((decide (0 ≤ a0.2.1) && decide (a0.2.1 ≤ a0.2.1) && decide (a0.2.1 ≤ (lim : Int)))) = true then
  let x1 : List (List Int × Unit) := List.replicate a0.2.1.toNat (([] : List Int), ())
  (impl_openNets_l0 N N ((a0, (x1, ((List.length x1 : Int), ((0 : Int), ())))))).bind fun o15 => match o15 with
  | .inl d16 =>
    some (d16.1, ())
  else none
theorem F_impl_openNets_ok (N : Nat) (d) : fnR Γ_impl_openNets (assoc [(0, ⟨impl_openNets_l0_h, impl_openNets_l0_o, impl_openNets_l0 N N⟩)]) true [(K_PPiSPiiqqiSSiq, false)] [K_SPSiq] Try.f96.results.toList (bodyOf Try.f96) d = F_impl_openNets N d := by kernel_rfl
noncomputable def S_impl_openNets : FSig := ⟨[(K_PPiSPiiqqiSSiq, false)], [K_SPSiq], true, (G_openNets)⟩
/-! ### (impl.net).size -/
noncomputable def Γ_impl_net_size : Ctx := { tk := assoc tks, ar := assoc ars, fs := assoc [] }
noncomputable def F_impl_net_size (N : Nat) (d : (List Int × Unit) × Unit) : Option (Int × Unit) :=
  let a0 : List Int × Unit := d.1
  some ((List.length a0.1 : Int), ())
theorem F_impl_net_size_ok (N : Nat) (d) : fnR Γ_impl_net_size (assoc []) true [(K_PSiq, false)] [I] Try.f134.results.toList (bodyOf Try.f134) d = F_impl_net_size N d := by kernel_rfl
noncomputable def g_impl_net_size (d : (List Int × Unit) × Unit) : Int × Unit :=
  let a0 : List Int × Unit := d.1
  ((List.length a0.1 : Int), ())
theorem F_impl_net_size_tot (N : Nat) (d) : F_impl_net_size N d = some (g_impl_net_size d) := by
  unfold F_impl_net_size g_impl_net_size
  first
    | rfl
    | (dsimp only; (repeat' split) <;> rfl)
noncomputable def S_impl_net_size : FSig := ⟨[(K_PSiq, false)], [I], true, (fun d => some (g_impl_net_size d))⟩
/-! ### (impl.net).has -/
noncomputable def Γ_impl_net_has : Ctx := { tk := assoc tks, ar := assoc ars, fs := assoc [] }
noncomputable def F_impl_net_has (N : Nat) (d : (List Int × Unit) × Int × Int × Unit) : Option (Bool × Unit) :=
  let a0 : List Int × Unit := d.1
  let a1 : Int := d.2.1
  let a2 : Int := d.2.2.1
  if (idxIn a1 (List.length a0.1)) = true then
  if (decide (0 ≤ a2)) = true then
  let x1 : Int := shr .i64 (at_ I a0.1 a1.toNat) a2
  some (bits .and .i64 x1 (1 : Int) == (1 : Int), ())
  else none
  else none
theorem F_impl_net_has_ok (N : Nat) (d) : fnR Γ_impl_net_has (assoc []) true [(K_PSiq, false), (I, false), (I, false)] [.bool] Try.f135.results.toList (bodyOf Try.f135) d = F_impl_net_has N d := by kernel_rfl
noncomputable def S_impl_net_has : FSig := ⟨[(K_PSiq, false), (I, false), (I, false)], [.bool], true, (F_impl_net_has 0)⟩
noncomputable def FV_impl_net_has (d : Int × Int × (((List Int × Unit) × Unit) × Unit) × Unit) : Option (Bool × Unit) := (F_impl_net_has 0) (d.2.2.1.1.1, d.1, d.2.1, d.2.2.1.2)
noncomputable def SV_impl_net_has : FSig := ⟨[(I, false), (I, false), (K_F135PPSiqqq, false)], [.bool], true, FV_impl_net_has⟩
/-! ### impl.graphBy -/
noncomputable def Γ_impl_graphBy_f135 : Ctx := { tk := assoc tks, ar := assoc ars, fs := assoc [], cs := assoc [(135, SV_impl_net_has)] }
abbrev impl_graphBy_f135_l2_H := Int × (((List Int × Unit) × Unit) × Unit) × (Int × (List (Int × Int × Unit)) × Unit) × (Int × (List (Int × Int × Unit)) × Unit) × Int × Int × Int × Int × Unit
abbrev impl_graphBy_f135_l2_O := (Int × (((List Int × Unit) × Unit) × Unit) × (Int × (List (Int × Int × Unit)) × Unit) × (Int × (List (Int × Int × Unit)) × Unit) × Int × Int × Unit) ⊕ Empty
def impl_graphBy_f135_l2_h : Form := [(0, .v I), (1, .v K_F135PPSiqqq), (4, .box K_PiSPiiqq 99), (5, .box K_PiSPiiqq 99), (6, .v I), (7, .v I), (10, .v I), (11, .v I)]
def impl_graphBy_f135_l2_o : Outs := [(.normal, [(0, .v I), (1, .v K_F135PPSiqqq), (4, .box K_PiSPiiqq 99), (5, .box K_PiSPiiqq 99), (10, .v I), (11, .v I)])]
noncomputable def impl_graphBy_f135_l2_r (N : Nat) (back : impl_graphBy_f135_l2_H → Option impl_graphBy_f135_l2_O) (d : impl_graphBy_f135_l2_H) : Option impl_graphBy_f135_l2_O :=
  let s0 : Int := d.1
  let s1 : ((List Int × Unit) × Unit) × Unit := d.2.1
  let s4 : Int × (List (Int × Int × Unit)) × Unit := d.2.2.1
  let s5 : Int × (List (Int × Int × Unit)) × Unit := d.2.2.2.1
  let s6 : Int := d.2.2.2.2.1
  let s7 : Int := d.2.2.2.2.2.1
  let s10 : Int := d.2.2.2.2.2.2.1
  let s11 : Int := d.2.2.2.2.2.2.2.1
  if (decide (s7 < s0)) = true then
    (FV_impl_net_has ((s6, (s7, (s1, ()))))).bind fun r17 =>
    if (r17.1) = true then
      if (decide (List.length s5.2.1 + List.length ([(s6, (s7, ()))]) ≤ lim)) = true then
      let x18 : Int := IntKind.wrap .i64 (s7 + (1 : Int))
      back ((s0, (s1, (s4, ((s5.1, (s5.2.1 ++ ([(s6, (s7, ()))]), s5.2.2)), (s6, (x18, (s10, (s11, ())))))))))
      else none
    else
      let x19 : Int := IntKind.wrap .i64 (s7 + (1 : Int))
      back ((s0, (s1, (s4, (s5, (s6, (x19, (s10, (s11, ())))))))))
  else
    some (.inl ((s0, (s1, (s4, (s5, (s10, (s11, ()))))))))
noncomputable def impl_graphBy_f135_l2 (N : Nat) : Nat → impl_graphBy_f135_l2_H → Option impl_graphBy_f135_l2_O
  | 0, _ => none
  | k + 1, d => impl_graphBy_f135_l2_r N (impl_graphBy_f135_l2 N k) d
theorem impl_graphBy_f135_l2_ok (N : Nat) (back) (d) : roundR Γ_impl_graphBy_f135 (assoc []) 2 impl_graphBy_f135_l2_h impl_graphBy_f135_l2_o (loopOf Try.f133 2) back d = impl_graphBy_f135_l2_r N back d := by kernel_rfl
abbrev impl_graphBy_f135_l0_H := Int × (((List Int × Unit) × Unit) × Unit) × (Int × (List (Int × Int × Unit)) × Unit) × (Int × (List (Int × Int × Unit)) × Unit) × Int × Int × Unit
abbrev impl_graphBy_f135_l0_O := ((Int × (List (Int × Int × Unit)) × Unit) × (Int × (List (Int × Int × Unit)) × Unit) × Unit) ⊕ Empty
def impl_graphBy_f135_l0_h : Form := [(0, .v I), (1, .v K_F135PPSiqqq), (4, .box K_PiSPiiqq 99), (5, .box K_PiSPiiqq 99), (10, .v I), (11, .v I)]
def impl_graphBy_f135_l0_o : Outs := [(.normal, [(4, .box K_PiSPiiqq 99), (5, .box K_PiSPiiqq 99)])]
noncomputable def impl_graphBy_f135_l0_r (N : Nat) (back : impl_graphBy_f135_l0_H → Option impl_graphBy_f135_l0_O) (d : impl_graphBy_f135_l0_H) : Option impl_graphBy_f135_l0_O :=
  let s0 : Int := d.1
  let s1 : ((List Int × Unit) × Unit) × Unit := d.2.1
  let s4 : Int × (List (Int × Int × Unit)) × Unit := d.2.2.1
  let s5 : Int × (List (Int × Int × Unit)) × Unit := d.2.2.2.1
  let s10 : Int := d.2.2.2.2.1
  let s11 : Int := d.2.2.2.2.2.1
  if (decide (s11 < s10)) = true then
    let x10 : Int := IntKind.wrap .i64 (s11 + (1 : Int))
    (impl_graphBy_f135_l2 N N ((s0, (s1, (s4, (s5, (s11, (x10, (s10, (s11, ())))))))))).bind fun o14 => match o14 with
    | .inl d15 =>
      let x16 : Int := IntKind.wrap .i64 (d15.2.2.2.2.2.1 + (1 : Int))
      back ((d15.1, (d15.2.1, (d15.2.2.1, (d15.2.2.2.1, (d15.2.2.2.2.1, (x16, ())))))))
  else
    some (.inl ((s4, (s5, ()))))
noncomputable def impl_graphBy_f135_l0 (N : Nat) : Nat → impl_graphBy_f135_l0_H → Option impl_graphBy_f135_l0_O
  | 0, _ => none
  | k + 1, d => impl_graphBy_f135_l0_r N (impl_graphBy_f135_l0 N k) d
theorem impl_graphBy_f135_l0_ok (N : Nat) (back) (d) : roundR Γ_impl_graphBy_f135 (assoc [(2, ⟨impl_graphBy_f135_l2_h, impl_graphBy_f135_l2_o, impl_graphBy_f135_l2 N N⟩)]) 0 impl_graphBy_f135_l0_h impl_graphBy_f135_l0_o (loopOf Try.f133 0) back d = impl_graphBy_f135_l0_r N back d := by kernel_rfl
noncomputable def F_impl_graphBy_f135 (N : Nat) (d : Int × (((List Int × Unit) × Unit) × Unit) × Unit) : Option ((Int × (List (Int × Int × Unit)) × Unit) × Unit) :=
  let a0 : Int := d.1
  let a1 : ((List Int × Unit) × Unit) × Unit := d.2.1
  (impl_graphBy_f135_l0 N N ((a0, (a1, (((0 : Int), (([] : List (Int × Int × Unit)), ())), ((a0, (([] : List (Int × Int × Unit)), ())), (a0, ((0 : Int), ())))))))).bind fun o8 => match o8 with
  | .inl d9 =>
    some (d9.2.1, ())
theorem F_impl_graphBy_f135_ok (N : Nat) (d) : fnR Γ_impl_graphBy_f135 (assoc [(0, ⟨impl_graphBy_f135_l0_h, impl_graphBy_f135_l0_o, impl_graphBy_f135_l0 N N⟩)]) true [(I, false), (K_F135PPSiqqq, false)] [K_PiSPiiqq] Try.f133.results.toList (bodyOf Try.f133) d = F_impl_graphBy_f135 N d := by kernel_rfl
noncomputable def S_impl_graphBy_f135 : FSig := ⟨[(I, false), (K_F135PPSiqqq, false)], [K_PiSPiiqq], true, (G_graphBy135)⟩
/-! ### (impl.net).graph -/
noncomputable def Γ_impl_net_graph : Ctx := { tk := assoc tks, ar := assoc ars, fs := assoc [(133, S_impl_graphBy_f135), (134, S_impl_net_size)] }
noncomputable def F_impl_net_graph (N : Nat) (d : (List Int × Unit) × Unit) : Option ((Int × (List (Int × Int × Unit)) × Unit) × Unit) :=
  let a0 : List Int × Unit := d.1
  let r1 : Int × Unit := g_impl_net_size (a0, ())
  (G_graphBy135 ((r1.1, (((a0, ()), ()), ())))).bind fun r2 =>
  some (r2.1, ())
theorem F_impl_net_graph_ok (N : Nat) (d) : fnR Γ_impl_net_graph (assoc []) true [(K_PSiq, false)] [K_PiSPiiqq] Try.f97.results.toList (bodyOf Try.f97) d = F_impl_net_graph N d := by kernel_rfl
noncomputable def S_impl_net_graph : FSig := ⟨[(K_PSiq, false)], [K_PiSPiiqq], true, (F_impl_net_graph 0)⟩
/-! ### impl.OpenGraph -/
noncomputable def Γ_impl_OpenGraph : Ctx := { tk := assoc tks, ar := assoc ars, fs := assoc [(35, S_impl_IsTimetable), (95, S_impl_isClock), (96, S_impl_openNets), (97, S_impl_net_graph)] }
noncomputable def F_impl_OpenGraph (N : Nat) (d : ((Int × (List (Int × Int × Unit)) × Unit) × Int × List (List Int) × Unit) × Int × Unit) : Option ((Int × (List (Int × Int × Unit)) × Unit) × Bool × Unit) :=
  let a0 : (Int × (List (Int × Int × Unit)) × Unit) × Int × List (List Int) × Unit := d.1
  let a1 : Int := d.2.1
  ((F_impl_IsTimetable 0) (a0, ())).bind fun r1 =>
  if (!r1.1) = true then
    some ((((0 : Int), (([] : List (Int × Int × Unit)), ())), (false, ())))
  else
    let r2 : Bool × Unit := g_impl_isClock (a1, ())
    if (!r2.1) = true then
      some ((((0 : Int), (([] : List (Int × Int × Unit)), ())), (false, ())))
    else
      (G_openNets (a0, ())).bind fun r3 =>
      if (a0.2.1 != 0) = true then
      if (idxIn (a1.tmod a0.2.1) (List.length r3.1)) = true then
      ((F_impl_net_graph 0) (at_ K_PSiq r3.1 (a1.tmod a0.2.1).toNat, ())).bind fun r4 =>
      some ((r4.1, (true, ())))
      else none
      else none
theorem F_impl_OpenGraph_ok (N : Nat) (d) : fnR Γ_impl_OpenGraph (assoc []) true [(K_PPiSPiiqqiSSiq, false), (I, false)] [K_PiSPiiqq, .bool] Try.f47.results.toList (bodyOf Try.f47) d = F_impl_OpenGraph N d := by kernel_rfl
noncomputable def S_impl_OpenGraph : FSig := ⟨[(K_PPiSPiiqqiSSiq, false), (I, false)], [K_PiSPiiqq, .bool], true, (F_impl_OpenGraph 0)⟩
/-! ### laws.FnExactOpenGraph -/
noncomputable def Γ_laws_FnExactOpenGraph : Ctx := { tk := assoc tks, ar := assoc ars, fs := assoc [(28, S_laws_eqGraph), (29, S_laws_markGraph), (32, S_laws_szTimetable), (34, S_laws_toTimetable), (36, S_laws_eqTimetable), (39, S_laws_markTimetable), (46, S_spec_OpenGraph), (47, S_impl_OpenGraph), (48, S_laws_heldGraph)] }
noncomputable def F_laws_FnExactOpenGraph (N : Nat) (d : ((Int × (List (Int × Int × Unit)) × Unit) × Int × List (List Int) × Unit) × Int × Unit) : Option (Bool × Unit) :=
  let a0 : (Int × (List (Int × Int × Unit)) × Unit) × Int × List (List Int) × Unit := d.1
  let a1 : Int := d.2.1
  ((F_laws_szTimetable 0) ((a0, ((1048576 : Int), ())))).bind fun r1 =>
  if (decide (r1.1 < (0 : Int))) = true then
    some (true, ())
  else
    ((F_laws_toTimetable 0) (a0, ())).bind fun r2 =>
    ((F_spec_OpenGraph 0) ((r2.1, (a1, ())))).bind fun r3 =>
    ((F_laws_toTimetable 0) (a0, ())).bind fun r4 =>
    ((F_impl_OpenGraph 0) ((r4.1, (a1, ())))).bind fun r5 =>
    ((F_laws_eqGraph 0) ((r5.1, (r3.1, ())))).bind fun r6 =>
    if (!r6.1) = true then
      some (false, ())
    else
      if (!(r5.2.1 == r3.2.1)) = true then
        some (false, ())
      else
        ((F_laws_toTimetable 0) (a0, ())).bind fun r7 =>
        ((F_laws_eqTimetable 0) ((r4.1, (r7.1, ())))).bind fun r8 =>
        if (!r8.1) = true then
          some (false, ())
        else
          ((F_laws_markTimetable 0) ((r4.1, ((1 : Int), ())))).bind fun r9 =>
          if (decide (r9.1 < (0 : Int))) = true then
            some (false, ())
          else
            ((F_laws_eqGraph 0) ((r5.1, (r3.1, ())))).bind fun r10 =>
            if (!r10.1) = true then
              some (false, ())
            else
              if (!(r5.2.1 == r3.2.1)) = true then
                some (false, ())
              else
                ((F_laws_markGraph 0) ((r5.1, ((1 : Int), ())))).bind fun r11 =>
                ((F_laws_heldGraph 0) ((r11.2.1, ((1 : Int), ())))).bind fun r12 =>
                if (decide (r12.1 < (0 : Int))) = true then
                  some (false, ())
                else
                  if (r12.1 != r11.1) = true then
                    some (false, ())
                  else
                    ((F_laws_toTimetable 0) (a0, ())).bind fun r13 =>
                    ((F_impl_OpenGraph 0) ((r13.1, (a1, ())))).bind fun r14 =>
                    ((F_laws_eqGraph 0) ((r14.1, (r3.1, ())))).bind fun r15 =>
                    if (!r15.1) = true then
                      some (false, ())
                    else
                      if (!(r14.2.1 == r3.2.1)) = true then
                        some (false, ())
                      else
                        ((F_laws_heldGraph 0) ((r11.2.1, ((1 : Int), ())))).bind fun r16 =>
                        if (decide (r16.1 < (0 : Int))) = true then
                          some (false, ())
                        else
                          if (r16.1 != r11.1) = true then
                            some (false, ())
                          else
                            some (true, ())
theorem F_laws_FnExactOpenGraph_ok (N : Nat) (d) : fnR Γ_laws_FnExactOpenGraph (assoc []) true [(K_PPiSPiiqqiSSiq, false), (I, false)] [.bool] Try.f9.results.toList (bodyOf Try.f9) d = F_laws_FnExactOpenGraph N d := by kernel_rfl
noncomputable def S_laws_FnExactOpenGraph : FSig := ⟨[(K_PPiSPiiqqiSSiq, false), (I, false)], [.bool], true, (F_laws_FnExactOpenGraph 0)⟩
/-! ### spec.l2Node -/
noncomputable def Γ_spec_l2Node : Ctx := { tk := assoc tks, ar := assoc ars, fs := assoc [(122, S_spec_l1In)] }
noncomputable def F_spec_l2Node (N : Nat) (d : (Int × (List (Int × Int × Unit)) × Unit) × Int × Unit) : Option (Bool × Unit) :=
  let a0 : Int × (List (Int × Int × Unit)) × Unit := d.1
  let a1 : Int := d.2.1
  let x1 : Int := IntKind.wrap .i64 (a0.1 - (1 : Int))
  let r2 : Bool × Unit := g_spec_l1In ((a1, ((0 : Int), (x1, ()))))
  some (r2.1, ())
theorem F_spec_l2Node_ok (N : Nat) (d) : fnR Γ_spec_l2Node (assoc []) true [(K_PiSPiiqq, false), (I, false)] [.bool] Try.f103.results.toList (bodyOf Try.f103) d = F_spec_l2Node N d := by kernel_rfl
noncomputable def g_spec_l2Node (d : (Int × (List (Int × Int × Unit)) × Unit) × Int × Unit) : Bool × Unit :=
  let a0 : Int × (List (Int × Int × Unit)) × Unit := d.1
  let a1 : Int := d.2.1
  let x1 : Int := IntKind.wrap .i64 (a0.1 - (1 : Int))
  let r2 : Bool × Unit := g_spec_l1In ((a1, ((0 : Int), (x1, ()))))
  (r2.1, ())
theorem F_spec_l2Node_tot (N : Nat) (d) : F_spec_l2Node N d = some (g_spec_l2Node d) := by
  unfold F_spec_l2Node g_spec_l2Node
  first
    | rfl
    | (dsimp only; (repeat' split) <;> rfl)
noncomputable def S_spec_l2Node : FSig := ⟨[(K_PiSPiiqq, false), (I, false)], [.bool], true, (fun d => some (g_spec_l2Node d))⟩
/-! ### spec.l2Near -/
noncomputable def Γ_spec_l2Near : Ctx := { tk := assoc tks, ar := assoc ars, fs := assoc [] }
abbrev spec_l2Near_l0_H := Int × Int × (Int × (List (Int × Int × Unit)) × Unit) × Int × Unit
abbrev spec_l2Near_l0_O := (Bool × Unit) ⊕ Unit ⊕ Empty
def spec_l2Near_l0_h : Form := [(1, .v I), (2, .v I), (3, .box K_PiSPiiqq 0), (7, .v I)]
def spec_l2Near_l0_o : Outs := [(.ret, [(6, .v .bool)]), (.normal, [])]
noncomputable def spec_l2Near_l0_r (N : Nat) (back : spec_l2Near_l0_H → Option spec_l2Near_l0_O) (d : spec_l2Near_l0_H) : Option spec_l2Near_l0_O :=
  let s1 : Int := d.1
  let s2 : Int := d.2.1
  let s3 : Int × (List (Int × Int × Unit)) × Unit := d.2.2.1
  let s7 : Int := d.2.2.2.1
  if (decide (s7 < (List.length s3.2.1 : Int))) = true then
    if (idxIn s7 (List.length s3.2.1)) = true then
    if ((at_ K_Piiq s3.2.1 s7.toNat).1 == s1) = true then
      if ((at_ K_Piiq s3.2.1 s7.toNat).2.1 == s2) = true then
        some (.inl (true, ()))
      else
        if ((at_ K_Piiq s3.2.1 s7.toNat).1 == s2) = true then
          if ((at_ K_Piiq s3.2.1 s7.toNat).2.1 == s1) = true then
            some (.inl (true, ()))
          else
            let x8 : Int := IntKind.wrap .i64 (s7 + (1 : Int))
            back ((s1, (s2, (s3, (x8, ())))))
        else
          let x9 : Int := IntKind.wrap .i64 (s7 + (1 : Int))
          back ((s1, (s2, (s3, (x9, ())))))
    else
      if ((at_ K_Piiq s3.2.1 s7.toNat).1 == s2) = true then
        if ((at_ K_Piiq s3.2.1 s7.toNat).2.1 == s1) = true then
          some (.inl (true, ()))
        else
          let x10 : Int := IntKind.wrap .i64 (s7 + (1 : Int))
          back ((s1, (s2, (s3, (x10, ())))))
      else
        let x11 : Int := IntKind.wrap .i64 (s7 + (1 : Int))
        back ((s1, (s2, (s3, (x11, ())))))
    else none
  else
    some (.inr (.inl ()))
noncomputable def spec_l2Near_l0 (N : Nat) : Nat → spec_l2Near_l0_H → Option spec_l2Near_l0_O
  | 0, _ => none
  | k + 1, d => spec_l2Near_l0_r N (spec_l2Near_l0 N k) d
theorem spec_l2Near_l0_ok (N : Nat) (back) (d) : roundR Γ_spec_l2Near (assoc []) 0 spec_l2Near_l0_h spec_l2Near_l0_o (loopOf Try.f156 0) back d = spec_l2Near_l0_r N back d := by kernel_rfl
noncomputable def F_spec_l2Near (N : Nat) (d : (Int × (List (Int × Int × Unit)) × Unit) × Int × Int × Unit) : Option (Bool × Unit) :=
  let a0 : Int × (List (Int × Int × Unit)) × Unit := d.1
  let a1 : Int := d.2.1
  let a2 : Int := d.2.2.1
  (spec_l2Near_l0 N N ((a1, (a2, (a0, ((0 : Int), ())))))).bind fun o5 => match o5 with
  | .inl d6 =>
    some (d6.1, ())
  | .inr (.inl d7) =>
    some (false, ())
theorem F_spec_l2Near_ok (N : Nat) (d) : fnR Γ_spec_l2Near (assoc [(0, ⟨spec_l2Near_l0_h, spec_l2Near_l0_o, spec_l2Near_l0 N N⟩)]) true [(K_PiSPiiqq, false), (I, false), (I, false)] [.bool] Try.f156.results.toList (bodyOf Try.f156) d = F_spec_l2Near N d := by kernel_rfl
noncomputable def S_spec_l2Near : FSig := ⟨[(K_PiSPiiqq, false), (I, false), (I, false)], [.bool], true, (G_l2Near)⟩
/-! ### spec.l2Neighbors -/
noncomputable def Γ_spec_l2Neighbors : Ctx := { tk := assoc tks, ar := assoc ars, fs := assoc [(156, S_spec_l2Near)] }
abbrev spec_l2Neighbors_l0_H := Int × (Int × (List (Int × Int × Unit)) × Unit) × List Int × Int × Unit
abbrev spec_l2Neighbors_l0_O := (List Int × Unit) ⊕ Empty
def spec_l2Neighbors_l0_h : Form := [(1, .v I), (2, .box K_PiSPiiqq 0), (5, .own K_Si 99), (6, .v I)]
def spec_l2Neighbors_l0_o : Outs := [(.normal, [(5, .own K_Si 99)])]
noncomputable def spec_l2Neighbors_l0_r (N : Nat) (back : spec_l2Neighbors_l0_H → Option spec_l2Neighbors_l0_O) (d : spec_l2Neighbors_l0_H) : Option spec_l2Neighbors_l0_O :=
  let s1 : Int := d.1
  let s2 : Int × (List (Int × Int × Unit)) × Unit := d.2.1
  let s5 : List Int := d.2.2.1
  let s6 : Int := d.2.2.2.1
  if (decide (s6 < s2.1)) = true then
    (G_l2Near ((s2, (s1, (s6, ()))))).bind fun r6 =>
    if (r6.1) = true then
      if (decide (List.length s5 + List.length ([s6]) ≤ lim)) = true then
      let x7 : Int := IntKind.wrap .i64 (s6 + (1 : Int))
      back ((s1, (s2, (s5 ++ ([s6]), (x7, ())))))
      else none
    else
      let x8 : Int := IntKind.wrap .i64 (s6 + (1 : Int))
      back ((s1, (s2, (s5, (x8, ())))))
  else
    some (.inl (s5, ()))
noncomputable def spec_l2Neighbors_l0 (N : Nat) : Nat → spec_l2Neighbors_l0_H → Option spec_l2Neighbors_l0_O
  | 0, _ => none
  | k + 1, d => spec_l2Neighbors_l0_r N (spec_l2Neighbors_l0 N k) d
theorem spec_l2Neighbors_l0_ok (N : Nat) (back) (d) : roundR Γ_spec_l2Neighbors (assoc []) 0 spec_l2Neighbors_l0_h spec_l2Neighbors_l0_o (loopOf Try.f140 0) back d = spec_l2Neighbors_l0_r N back d := by kernel_rfl
noncomputable def F_spec_l2Neighbors (N : Nat) (d : (Int × (List (Int × Int × Unit)) × Unit) × Int × Unit) : Option (List Int × Unit) :=
  let a0 : Int × (List (Int × Int × Unit)) × Unit := d.1
  let a1 : Int := d.2.1
  (spec_l2Neighbors_l0 N N ((a1, (a0, (([] : List Int), ((0 : Int), ())))))).bind fun o4 => match o4 with
  | .inl d5 =>
    some (d5.1, ())
theorem F_spec_l2Neighbors_ok (N : Nat) (d) : fnR Γ_spec_l2Neighbors (assoc [(0, ⟨spec_l2Neighbors_l0_h, spec_l2Neighbors_l0_o, spec_l2Neighbors_l0 N N⟩)]) true [(K_PiSPiiqq, false), (I, false)] [K_Si] Try.f140.results.toList (bodyOf Try.f140) d = F_spec_l2Neighbors N d := by kernel_rfl
noncomputable def S_spec_l2Neighbors : FSig := ⟨[(K_PiSPiiqq, false), (I, false)], [K_Si], true, (G_l2Neighbors)⟩
/-! ### spec.l1Put -/
noncomputable def Γ_spec_l1Put : Ctx := { tk := assoc tks, ar := assoc ars, fs := assoc [] }
abbrev spec_l1Put_l0_H := List Int × Int × Int × Unit
abbrev spec_l1Put_l0_O := (List Int × Int × Int × Unit) ⊕ Empty
def spec_l1Put_l0_h : Form := [(0, .v K_Si), (1, .v I), (5, .v I)]
def spec_l1Put_l0_o : Outs := [(.normal, [(0, .v K_Si), (1, .v I), (5, .v I)])]
noncomputable def spec_l1Put_l0_r (N : Nat) (back : spec_l1Put_l0_H → Option spec_l1Put_l0_O) (d : spec_l1Put_l0_H) : Option spec_l1Put_l0_O :=
  let s0 : List Int := d.1
  let s1 : Int := d.2.1
  let s5 : Int := d.2.2.1
  if (decide (s5 < (List.length s0 : Int))) = true then
    if (idxIn s5 (List.length s0)) = true then
    if (decide (at_ I s0 s5.toNat < s1)) = true then
      let x11 : Int := IntKind.wrap .i64 (s5 + (1 : Int))
      back ((s0, (s1, (x11, ()))))
    else
      some (.inl ((s0, (s1, (s5, ())))))
    else none
  else
    some (.inl ((s0, (s1, (s5, ())))))
noncomputable def spec_l1Put_l0 (N : Nat) : Nat → spec_l1Put_l0_H → Option spec_l1Put_l0_O
  | 0, _ => none
  | k + 1, d => spec_l1Put_l0_r N (spec_l1Put_l0 N k) d
theorem spec_l1Put_l0_ok (N : Nat) (back) (d) : roundR Γ_spec_l1Put (assoc []) 0 spec_l1Put_l0_h spec_l1Put_l0_o (loopOf Try.f136 0) back d = spec_l1Put_l0_r N back d := by kernel_rfl
noncomputable def F_spec_l1Put (N : Nat) (d : List Int × Int × Unit) : Option (List Int × Unit) :=
  let a0 : List Int := d.1
  let a1 : Int := d.2.1
  (spec_l1Put_l0 N N ((a0, (a1, ((0 : Int), ()))))).bind fun o5 => match o5 with
  | .inl d6 =>
    if (decide (d6.2.2.1 < (List.length d6.1 : Int))) = true then
      if (idxIn d6.2.2.1 (List.length d6.1)) = true then
      if (at_ I d6.1 d6.2.2.1.toNat == d6.2.1) = true then
        some (d6.1, ())
      else
        if ((decide (0 ≤ (0 : Int)) && decide ((0 : Int) ≤ d6.2.2.1) && decide (d6.2.2.1 ≤ (List.length d6.1 : Int)))) = true then
        if (decide (List.length ([] : List Int) + List.length (sub_ d6.1 (0 : Int) d6.2.2.1) ≤ lim)) = true then
        let x7 : List Int := ([] : List Int) ++ (sub_ d6.1 (0 : Int) d6.2.2.1)
        if (decide (List.length x7 + List.length ([d6.2.1]) ≤ lim)) = true then
        if ((decide (0 ≤ d6.2.2.1) && decide (d6.2.2.1 ≤ (List.length d6.1 : Int)) && decide ((List.length d6.1 : Int) ≤ (List.length d6.1 : Int)))) = true then
        let x8 : List Int := sub_ d6.1 d6.2.2.1 (List.length d6.1 : Int)
        if (decide (List.length (x7 ++ ([d6.2.1])) + List.length x8 ≤ lim)) = true then
        some (((x7 ++ ([d6.2.1])) ++ x8, ()))
        else none
        else none
        else none
        else none
        else none
      else none
    else
      if ((decide (0 ≤ (0 : Int)) && decide ((0 : Int) ≤ d6.2.2.1) && decide (d6.2.2.1 ≤ (List.length d6.1 : Int)))) = true then
      if (decide (List.length ([] : List Int) + List.length (sub_ d6.1 (0 : Int) d6.2.2.1) ≤ lim)) = true then
      let x9 : List Int := ([] : List Int) ++ (sub_ d6.1 (0 : Int) d6.2.2.1)
      if (decide (List.length x9 + List.length ([d6.2.1]) ≤ lim)) = true then
      if ((decide (0 ≤ d6.2.2.1) && decide (d6.2.2.1 ≤ (List.length d6.1 : Int)) && decide ((List.length d6.1 : Int) ≤ (List.length d6.1 : Int)))) = true then
      let x10 : List Int := sub_ d6.1 d6.2.2.1 (List.length d6.1 : Int)
      if (decide (List.length (x9 ++ ([d6.2.1])) + List.length x10 ≤ lim)) = true then
      some (((x9 ++ ([d6.2.1])) ++ x10, ()))
      else none
      else none
      else none
      else none
      else none
theorem F_spec_l1Put_ok (N : Nat) (d) : fnR Γ_spec_l1Put (assoc [(0, ⟨spec_l1Put_l0_h, spec_l1Put_l0_o, spec_l1Put_l0 N N⟩)]) false [(K_Si, false), (I, false)] [K_Si] Try.f136.results.toList (bodyOf Try.f136) d = F_spec_l1Put N d := by kernel_rfl
noncomputable def S_spec_l1Put : FSig := ⟨[(K_Si, false), (I, false)], [K_Si], false, (G_l1Put)⟩
/-! ### spec.l2Ball -/
noncomputable def Γ_spec_l2Ball : Ctx := { tk := assoc tks, ar := assoc ars, fs := assoc [(136, S_spec_l1Put), (140, S_spec_l2Neighbors)] }
noncomputable def F_spec_l2Ball (N : Nat) (d : (Int × (List (Int × Int × Unit)) × Unit) × Int × Unit) : Option (List Int × Unit) :=
  let a0 : Int × (List (Int × Int × Unit)) × Unit := d.1
  let a1 : Int := d.2.1
  (G_l2Neighbors ((a0, (a1, ())))).bind fun r3 =>
  (G_l1Put ((r3.1, (a1, ())))).bind fun r4 =>
  some (r4.1, ())
theorem F_spec_l2Ball_ok (N : Nat) (d) : fnR Γ_spec_l2Ball (assoc []) false [(K_PiSPiiqq, false), (I, false)] [K_Si] Try.f110.results.toList (bodyOf Try.f110) d = F_spec_l2Ball N d := by kernel_rfl
noncomputable def S_spec_l2Ball : FSig := ⟨[(K_PiSPiiqq, false), (I, false)], [K_Si], false, (F_spec_l2Ball 0)⟩
/-! ### spec.l11Reached -/
noncomputable def Γ_spec_l11Reached : Ctx := { tk := assoc tks, ar := assoc ars, fs := assoc [(94, S_spec_l11Open), (110, S_spec_l2Ball), (136, S_spec_l1Put)], dm := fun t => Nat.beq t 8, cs := assoc [] }
abbrev spec_l11Reached_l2_H := List Int × (Int × (List (Int × Int × Unit)) × Unit) × List Int × Int × List Int × Int × Unit
abbrev spec_l11Reached_l2_O := (List Int × (Int × (List (Int × Int × Unit)) × Unit) × List Int × Int × Unit) ⊕ Empty
def spec_l11Reached_l2_h : Form := [(1, .v K_Si), (7, .box K_PiSPiiqq 0), (8, .v K_Si), (9, .v I), (10, .v K_Si), (11, .v I)]
def spec_l11Reached_l2_o : Outs := [(.normal, [(1, .v K_Si), (7, .box K_PiSPiiqq 0), (8, .v K_Si), (9, .v I)])]
noncomputable def spec_l11Reached_l2_r (N : Nat) (back : spec_l11Reached_l2_H → Option spec_l11Reached_l2_O) (d : spec_l11Reached_l2_H) : Option spec_l11Reached_l2_O :=
  let s1 : List Int := d.1
  let s7 : Int × (List (Int × Int × Unit)) × Unit := d.2.1
  let s8 : List Int := d.2.2.1
  let s9 : Int := d.2.2.2.1
  let s10 : List Int := d.2.2.2.2.1
  let s11 : Int := d.2.2.2.2.2.1
  if (decide (s11 < (List.length s10 : Int))) = true then
    if (idxIn s11 (List.length s10)) = true then
    (G_l1Put ((s8, (at_ I s10 s11.toNat, ())))).bind fun r31 =>
    let x32 : Int := IntKind.wrap .i64 (s11 + (1 : Int))
    back ((s1, (s7, (r31.1, (s9, (s10, (x32, ())))))))
    else none
  else
    some (.inl ((s1, (s7, (s8, (s9, ()))))))
noncomputable def spec_l11Reached_l2 (N : Nat) : Nat → spec_l11Reached_l2_H → Option spec_l11Reached_l2_O
  | 0, _ => none
  | k + 1, d => spec_l11Reached_l2_r N (spec_l11Reached_l2 N k) d
theorem spec_l11Reached_l2_ok (N : Nat) (back) (d) : roundR Γ_spec_l11Reached (assoc []) 2 spec_l11Reached_l2_h spec_l11Reached_l2_o (loopOf Try.f104 2) back d = spec_l11Reached_l2_r N back d := by kernel_rfl
abbrev spec_l11Reached_l0_H := List Int × (Int × (List (Int × Int × Unit)) × Unit) × List Int × Int × Unit
abbrev spec_l11Reached_l0_O := (List Int × Unit) ⊕ Empty
def spec_l11Reached_l0_h : Form := [(1, .v K_Si), (7, .box K_PiSPiiqq 0), (8, .v K_Si), (9, .v I)]
def spec_l11Reached_l0_o : Outs := [(.normal, [(8, .v K_Si)])]
noncomputable def spec_l11Reached_l0_r (N : Nat) (back : spec_l11Reached_l0_H → Option spec_l11Reached_l0_O) (d : spec_l11Reached_l0_H) : Option spec_l11Reached_l0_O :=
  let s1 : List Int := d.1
  let s7 : Int × (List (Int × Int × Unit)) × Unit := d.2.1
  let s8 : List Int := d.2.2.1
  let s9 : Int := d.2.2.2.1
  if (decide (s9 < (List.length s1 : Int))) = true then
    if (idxIn s9 (List.length s1)) = true then
    ((F_spec_l2Ball 0) ((s7, (at_ I s1 s9.toNat, ())))).bind fun r25 =>
    (spec_l11Reached_l2 N N ((s1, (s7, (s8, (s9, (r25.1, ((0 : Int), ())))))))).bind fun o28 => match o28 with
    | .inl d29 =>
      let x30 : Int := IntKind.wrap .i64 (d29.2.2.2.1 + (1 : Int))
      back ((d29.1, (d29.2.1, (d29.2.2.1, (x30, ())))))
    else none
  else
    some (.inl (s8, ()))
noncomputable def spec_l11Reached_l0 (N : Nat) : Nat → spec_l11Reached_l0_H → Option spec_l11Reached_l0_O
  | 0, _ => none
  | k + 1, d => spec_l11Reached_l0_r N (spec_l11Reached_l0 N k) d
theorem spec_l11Reached_l0_ok (N : Nat) (back) (d) : roundR Γ_spec_l11Reached (assoc [(2, ⟨spec_l11Reached_l2_h, spec_l11Reached_l2_o, spec_l11Reached_l2 N N⟩)]) 0 spec_l11Reached_l0_h spec_l11Reached_l0_o (loopOf Try.f104 0) back d = spec_l11Reached_l0_r N back d := by kernel_rfl
noncomputable def F_spec_l11Reached (N : Nat) (d : ((Int × (List (Int × Int × Unit)) × Unit) × Int × List (List Int) × Unit) × List Int × Int × Unit) : Option (List Int × Unit) :=
  let a0 : (Int × (List (Int × Int × Unit)) × Unit) × Int × List (List Int) × Unit := d.1
  let a1 : List Int := d.2.1
  let a2 : Int := d.2.2.1
  (G_l11Open ((a0, (a2, ())))).bind fun r16 =>
  (spec_l11Reached_l0 N N ((a1, (r16.1, (([] : List Int), ((0 : Int), ())))))).bind fun o23 => match o23 with
  | .inl d24 =>
    some (d24.1, ())
theorem F_spec_l11Reached_ok (N : Nat) (d) : fnR Γ_spec_l11Reached (assoc [(0, ⟨spec_l11Reached_l0_h, spec_l11Reached_l0_o, spec_l11Reached_l0 N N⟩)]) false [(K_PPiSPiiqqiSSiq, false), (K_Si, false), (I, false)] [K_Si] Try.f104.results.toList (bodyOf Try.f104) d = F_spec_l11Reached N d := by kernel_rfl
noncomputable def S_spec_l11Reached : FSig := ⟨[(K_PPiSPiiqqiSSiq, false), (K_Si, false), (I, false)], [K_Si], false, (G_l11Reached)⟩
/-! ### spec.ReachedBy -/
noncomputable def Γ_spec_ReachedBy : Ctx := { tk := assoc tks, ar := assoc ars, fs := assoc [(81, S_spec_l11Good), (93, S_spec_l11Clock), (103, S_spec_l2Node), (104, S_spec_l11Reached)], dm := fun t => Nat.beq t 10, cs := assoc [] }
abbrev spec_ReachedBy_l0_H := Int × Int × ((Int × (List (Int × Int × Unit)) × Unit) × Int × List (List Int) × Unit) × List Int × Int × Unit
abbrev spec_ReachedBy_l0_O := (List Int × Unit) ⊕ Empty
def spec_ReachedBy_l0_h : Form := [(2, .v I), (3, .v I), (4, .box K_PPiSPiiqqiSSiq 0), (10, .v K_Si), (11, .v I)]
def spec_ReachedBy_l0_o : Outs := [(.normal, [(10, .v K_Si)])]
noncomputable def spec_ReachedBy_l0_r (N : Nat) (back : spec_ReachedBy_l0_H → Option spec_ReachedBy_l0_O) (d : spec_ReachedBy_l0_H) : Option spec_ReachedBy_l0_O :=
  let s2 : Int := d.1
  let s3 : Int := d.2.1
  let s4 : (Int × (List (Int × Int × Unit)) × Unit) × Int × List (List Int) × Unit := d.2.2.1
  let s10 : List Int := d.2.2.2.1
  let s11 : Int := d.2.2.2.2.1
  if (decide (s11 < s3)) = true then
    (G_l11Reached ((s4, (s10, (IntKind.wrap .i64 (s2 + s11), ()))))).bind fun r17 =>
    let x18 : Int := IntKind.wrap .i64 (s11 + (1 : Int))
    back ((s2, (s3, (s4, (r17.1, (x18, ()))))))
  else
    some (.inl (s10, ()))
noncomputable def spec_ReachedBy_l0 (N : Nat) : Nat → spec_ReachedBy_l0_H → Option spec_ReachedBy_l0_O
  | 0, _ => none
  | k + 1, d => spec_ReachedBy_l0_r N (spec_ReachedBy_l0 N k) d
theorem spec_ReachedBy_l0_ok (N : Nat) (back) (d) : roundR Γ_spec_ReachedBy (assoc []) 0 spec_ReachedBy_l0_h spec_ReachedBy_l0_o (loopOf Try.f51 0) back d = spec_ReachedBy_l0_r N back d := by kernel_rfl
noncomputable def F_spec_ReachedBy (N : Nat) (d : ((Int × (List (Int × Int × Unit)) × Unit) × Int × List (List Int) × Unit) × Int × Int × Int × Unit) : Option (List Int × Bool × Unit) :=
  let a0 : (Int × (List (Int × Int × Unit)) × Unit) × Int × List (List Int) × Unit := d.1
  let a1 : Int := d.2.1
  let a2 : Int := d.2.2.1
  let a3 : Int := d.2.2.2.1
  (G_l11Good (a0, ())).bind fun r9 =>
  if (!r9.1) = true then
    some ((([] : List Int), (false, ())))
  else
    let r10 : Bool × Unit := g_spec_l2Node ((a0.1, (a1, ())))
    if (!r10.1) = true then
      some ((([] : List Int), (false, ())))
    else
      let r11 : Bool × Unit := g_spec_l11Clock (a2, ())
      if (!r11.1) = true then
        some ((([] : List Int), (false, ())))
      else
        let r12 : Bool × Unit := g_spec_l11Clock (a3, ())
        if (!r12.1) = true then
          some ((([] : List Int), (false, ())))
        else
          (spec_ReachedBy_l0 N N ((a2, (a3, (a0, ([a1], ((0 : Int), ()))))))).bind fun o15 => match o15 with
          | .inl d16 =>
            some ((d16.1, (true, ())))
theorem F_spec_ReachedBy_ok (N : Nat) (d) : fnR Γ_spec_ReachedBy (assoc [(0, ⟨spec_ReachedBy_l0_h, spec_ReachedBy_l0_o, spec_ReachedBy_l0 N N⟩)]) false [(K_PPiSPiiqqiSSiq, false), (I, false), (I, false), (I, false)] [K_Si, .bool] Try.f51.results.toList (bodyOf Try.f51) d = F_spec_ReachedBy N d := by kernel_rfl
noncomputable def S_spec_ReachedBy : FSig := ⟨[(K_PPiSPiiqqiSSiq, false), (I, false), (I, false), (I, false)], [K_Si, .bool], false, (G_reachedBy)⟩
/-! ### impl.isTimed -/
noncomputable def Γ_impl_isTimed : Ctx := { tk := assoc tks, ar := assoc ars, fs := assoc [(35, S_impl_IsTimetable), (86, S_impl_allWithin), (95, S_impl_isClock)] }
noncomputable def F_impl_isTimed (N : Nat) (d : ((Int × (List (Int × Int × Unit)) × Unit) × Int × List (List Int) × Unit) × Int × List Int × Unit) : Option (Bool × Unit) :=
  let a0 : (Int × (List (Int × Int × Unit)) × Unit) × Int × List (List Int) × Unit := d.1
  let a1 : Int := d.2.1
  let a2 : List Int := d.2.2.1
  ((F_impl_IsTimetable 0) (a0, ())).bind fun r1 =>
  if (r1.1) = true then
    let r2 : Bool × Unit := g_impl_isClock (a1, ())
    if (r2.1) = true then
      let x3 : Int := IntKind.wrap .i64 (a0.1.1 - (1 : Int))
      (G_allWithin ((a2, ((0 : Int), (x3, ()))))).bind fun r4 =>
      some (r4.1, ())
    else
      some (false, ())
  else
    some (false, ())
theorem F_impl_isTimed_ok (N : Nat) (d) : fnR Γ_impl_isTimed (assoc []) true [(K_PPiSPiiqqiSSiq, false), (I, false), (K_Si, false)] [.bool] Try.f101.results.toList (bodyOf Try.f101) d = F_impl_isTimed N d := by kernel_rfl
noncomputable def S_impl_isTimed : FSig := ⟨[(K_PPiSPiiqqiSSiq, false), (I, false), (K_Si, false)], [.bool], true, (F_impl_isTimed 0)⟩
/-! ### (impl.net).around -/
noncomputable def Γ_impl_net_around : Ctx := { tk := assoc tks, ar := assoc ars, fs := assoc [] }
abbrev impl_net_around_l0_H := Int × Int × List Int × Int × Int × Unit
abbrev impl_net_around_l0_O := (Int × Unit) ⊕ Empty
def impl_net_around_l0_h : Form := [(1, .v I), (5, .v I), (10, .v K_Si), (11, .v I), (12, .v I)]
def impl_net_around_l0_o : Outs := [(.normal, [(5, .v I)])]
noncomputable def impl_net_around_l0_r (N : Nat) (back : impl_net_around_l0_H → Option impl_net_around_l0_O) (d : impl_net_around_l0_H) : Option impl_net_around_l0_O :=
  let s1 : Int := d.1
  let s5 : Int := d.2.1
  let s10 : List Int := d.2.2.1
  let s11 : Int := d.2.2.2.1
  let s12 : Int := d.2.2.2.2.1
  if (decide (s12 < s11)) = true then
    if (idxIn s12 (List.length s10)) = true then
    if (decide (0 ≤ s12)) = true then
    let x7 : Int := bits .and .i64 (shr .i64 s1 s12) (1 : Int)
    if (x7 == (1 : Int)) = true then
      let x8 : Int := bits .or .i64 s5 (at_ I s10 s12.toNat)
      let x9 : Int := IntKind.wrap .i64 (s12 + (1 : Int))
      back ((s1, (x8, (s10, (s11, (x9, ()))))))
    else
      let x10 : Int := IntKind.wrap .i64 (s12 + (1 : Int))
      back ((s1, (s5, (s10, (s11, (x10, ()))))))
    else none
    else none
  else
    some (.inl (s5, ()))
noncomputable def impl_net_around_l0 (N : Nat) : Nat → impl_net_around_l0_H → Option impl_net_around_l0_O
  | 0, _ => none
  | k + 1, d => impl_net_around_l0_r N (impl_net_around_l0 N k) d
theorem impl_net_around_l0_ok (N : Nat) (back) (d) : roundR Γ_impl_net_around (assoc []) 0 impl_net_around_l0_h impl_net_around_l0_o (loopOf Try.f105 0) back d = impl_net_around_l0_r N back d := by kernel_rfl
noncomputable def F_impl_net_around (N : Nat) (d : (List Int × Unit) × Int × Unit) : Option (Int × Unit) :=
  let a0 : List Int × Unit := d.1
  let a1 : Int := d.2.1
  (impl_net_around_l0 N N ((a1, (a1, (a0.1, ((List.length a0.1 : Int), ((0 : Int), ()))))))).bind fun o5 => match o5 with
  | .inl d6 =>
    some (d6.1, ())
theorem F_impl_net_around_ok (N : Nat) (d) : fnR Γ_impl_net_around (assoc [(0, ⟨impl_net_around_l0_h, impl_net_around_l0_o, impl_net_around_l0 N N⟩)]) true [(K_PSiq, false), (I, false)] [I] Try.f105.results.toList (bodyOf Try.f105) d = F_impl_net_around N d := by kernel_rfl
noncomputable def S_impl_net_around : FSig := ⟨[(K_PSiq, false), (I, false)], [I], true, (G_around)⟩
/-! ### impl.setOf -/
noncomputable def Γ_impl_setOf : Ctx := { tk := assoc tks, ar := assoc ars, fs := assoc [] }
abbrev impl_setOf_l0_H := Int × List Int × Int × Unit
abbrev impl_setOf_l0_O := (List Int × Unit) ⊕ Empty
def impl_setOf_l0_h : Form := [(0, .v I), (3, .own K_Si 99), (4, .v I)]
def impl_setOf_l0_o : Outs := [(.normal, [(3, .own K_Si 99)])]
noncomputable def impl_setOf_l0_r (N : Nat) (back : impl_setOf_l0_H → Option impl_setOf_l0_O) (d : impl_setOf_l0_H) : Option impl_setOf_l0_O :=
  let s0 : Int := d.1
  let s3 : List Int := d.2.1
  let s4 : Int := d.2.2.1
  if (decide (0 ≤ s4)) = true then
  if (shr .i64 s0 s4 != (0 : Int)) = true then
    if (decide (0 ≤ s4)) = true then
    let x6 : Int := bits .and .i64 (shr .i64 s0 s4) (1 : Int)
    if (x6 == (1 : Int)) = true then
      if (decide (List.length s3 + List.length ([s4]) ≤ lim)) = true then
      let x7 : Int := IntKind.wrap .i64 (s4 + (1 : Int))
      back ((s0, (s3 ++ ([s4]), (x7, ()))))
      else none
    else
      let x8 : Int := IntKind.wrap .i64 (s4 + (1 : Int))
      back ((s0, (s3, (x8, ()))))
    else none
  else
    some (.inl (s3, ()))
  else none
noncomputable def impl_setOf_l0 (N : Nat) : Nat → impl_setOf_l0_H → Option impl_setOf_l0_O
  | 0, _ => none
  | k + 1, d => impl_setOf_l0_r N (impl_setOf_l0 N k) d
theorem impl_setOf_l0_ok (N : Nat) (back) (d) : roundR Γ_impl_setOf (assoc []) 0 impl_setOf_l0_h impl_setOf_l0_o (loopOf Try.f106 0) back d = impl_setOf_l0_r N back d := by kernel_rfl
noncomputable def F_impl_setOf (N : Nat) (d : Int × Unit) : Option (List Int × Unit) :=
  let a0 : Int := d.1
  (impl_setOf_l0 N N ((a0, (([] : List Int), ((0 : Int), ()))))).bind fun o4 => match o4 with
  | .inl d5 =>
    some (d5.1, ())
theorem F_impl_setOf_ok (N : Nat) (d) : fnR Γ_impl_setOf (assoc [(0, ⟨impl_setOf_l0_h, impl_setOf_l0_o, impl_setOf_l0 N N⟩)]) true [(I, false)] [K_Si] Try.f106.results.toList (bodyOf Try.f106) d = F_impl_setOf N d := by kernel_rfl
noncomputable def S_impl_setOf : FSig := ⟨[(I, false)], [K_Si], true, (G_setOf)⟩
/-! ### impl.ReachedBy -/
noncomputable def Γ_impl_ReachedBy : Ctx := { tk := assoc tks, ar := assoc ars, fs := assoc [(95, S_impl_isClock), (96, S_impl_openNets), (101, S_impl_isTimed), (105, S_impl_net_around), (106, S_impl_setOf)] }
abbrev impl_ReachedBy_l0_H := Int × ((Int × (List (Int × Int × Unit)) × Unit) × Int × List (List Int) × Unit) × (List (List Int × Unit)) × Int × Int × Int × Unit
abbrev impl_ReachedBy_l0_O := (Int × Unit) ⊕ Empty
def impl_ReachedBy_l0_h : Form := [(2, .v I), (4, .box K_PPiSPiiqqiSSiq 0), (10, .own K_SPSiq 99), (11, .v I), (28, .v I), (29, .v I)]
def impl_ReachedBy_l0_o : Outs := [(.normal, [(11, .v I)])]
noncomputable def impl_ReachedBy_l0_r (N : Nat) (back : impl_ReachedBy_l0_H → Option impl_ReachedBy_l0_O) (d : impl_ReachedBy_l0_H) : Option impl_ReachedBy_l0_O :=
  let s2 : Int := d.1
  let s4 : (Int × (List (Int × Int × Unit)) × Unit) × Int × List (List Int) × Unit := d.2.1
  let s10 : List (List Int × Unit) := d.2.2.1
  let s11 : Int := d.2.2.2.1
  let s28 : Int := d.2.2.2.2.1
  let s29 : Int := d.2.2.2.2.2.1
  if (decide (s29 < s28)) = true then
    if (s4.2.1 != 0) = true then
    let x10 : Int := (IntKind.wrap .i64 (s2 + s29)).tmod s4.2.1
    if (idxIn x10 (List.length s10)) = true then
    (G_around ((at_ K_PSiq s10 x10.toNat, (s11, ())))).bind fun r11 =>
    let x12 : Int := IntKind.wrap .i64 (s29 + (1 : Int))
    back ((s2, (s4, (s10, (r11.1, (s28, (x12, ())))))))
    else none
    else none
  else
    some (.inl (s11, ()))
noncomputable def impl_ReachedBy_l0 (N : Nat) : Nat → impl_ReachedBy_l0_H → Option impl_ReachedBy_l0_O
  | 0, _ => none
  | k + 1, d => impl_ReachedBy_l0_r N (impl_ReachedBy_l0 N k) d
theorem impl_ReachedBy_l0_ok (N : Nat) (back) (d) : roundR Γ_impl_ReachedBy (assoc []) 0 impl_ReachedBy_l0_h impl_ReachedBy_l0_o (loopOf Try.f52 0) back d = impl_ReachedBy_l0_r N back d := by kernel_rfl
noncomputable def F_impl_ReachedBy (N : Nat) (d : ((Int × (List (Int × Int × Unit)) × Unit) × Int × List (List Int) × Unit) × Int × Int × Int × Unit) : Option (List Int × Bool × Unit) :=
  let a0 : (Int × (List (Int × Int × Unit)) × Unit) × Int × List (List Int) × Unit := d.1
  let a1 : Int := d.2.1
  let a2 : Int := d.2.2.1
  let a3 : Int := d.2.2.2.1
  ((F_impl_isTimed 0) ((a0, (a2, ([a1], ()))))).bind fun r1 =>
  if (!r1.1) = true then
    some ((([] : List Int), (false, ())))
  else
    let r2 : Bool × Unit := g_impl_isClock (a3, ())
    if (!r2.1) = true then
      some ((([] : List Int), (false, ())))
    else
      (G_openNets (a0, ())).bind fun r3 =>
      if (decide (0 ≤ a1)) = true then
      (impl_ReachedBy_l0 N N ((a2, (a0, (r3.1, (shl .i64 (1 : Int) a1, (a3, ((0 : Int), ())))))))).bind fun o7 => match o7 with
      | .inl d8 =>
        (G_setOf (d8.1, ())).bind fun r9 =>
        some ((r9.1, (true, ())))
      else none
theorem F_impl_ReachedBy_ok (N : Nat) (d) : fnR Γ_impl_ReachedBy (assoc [(0, ⟨impl_ReachedBy_l0_h, impl_ReachedBy_l0_o, impl_ReachedBy_l0 N N⟩)]) true [(K_PPiSPiiqqiSSiq, false), (I, false), (I, false), (I, false)] [K_Si, .bool] Try.f52.results.toList (bodyOf Try.f52) d = F_impl_ReachedBy N d := by kernel_rfl
noncomputable def S_impl_ReachedBy : FSig := ⟨[(K_PPiSPiiqqiSSiq, false), (I, false), (I, false), (I, false)], [K_Si, .bool], true, (G_reachedBy)⟩
/-! ### laws.FnExactReachedBy -/
noncomputable def Γ_laws_FnExactReachedBy : Ctx := { tk := assoc tks, ar := assoc ars, fs := assoc [(32, S_laws_szTimetable), (34, S_laws_toTimetable), (36, S_laws_eqTimetable), (39, S_laws_markTimetable), (51, S_spec_ReachedBy), (52, S_impl_ReachedBy), (53, S_laws_eqIntS), (54, S_laws_markIntS), (55, S_laws_heldIntS)] }
noncomputable def F_laws_FnExactReachedBy (N : Nat) (d : ((Int × (List (Int × Int × Unit)) × Unit) × Int × List (List Int) × Unit) × Int × Int × Int × Unit) : Option (Bool × Unit) :=
  let a0 : (Int × (List (Int × Int × Unit)) × Unit) × Int × List (List Int) × Unit := d.1
  let a1 : Int := d.2.1
  let a2 : Int := d.2.2.1
  let a3 : Int := d.2.2.2.1
  ((F_laws_szTimetable 0) ((a0, ((1048576 : Int), ())))).bind fun r1 =>
  if (decide (r1.1 < (0 : Int))) = true then
    some (true, ())
  else
    ((F_laws_toTimetable 0) (a0, ())).bind fun r2 =>
    (G_reachedBy ((r2.1, (a1, (a2, (a3, ())))))).bind fun r3 =>
    ((F_laws_toTimetable 0) (a0, ())).bind fun r4 =>
    (G_reachedBy ((r4.1, (a1, (a2, (a3, ())))))).bind fun r5 =>
    (G_eqIntS ((r5.1, (r3.1, ())))).bind fun r6 =>
    if (!r6.1) = true then
      some (false, ())
    else
      if (!(r5.2.1 == r3.2.1)) = true then
        some (false, ())
      else
        ((F_laws_toTimetable 0) (a0, ())).bind fun r7 =>
        ((F_laws_eqTimetable 0) ((r4.1, (r7.1, ())))).bind fun r8 =>
        if (!r8.1) = true then
          some (false, ())
        else
          ((F_laws_markTimetable 0) ((r4.1, ((1 : Int), ())))).bind fun r9 =>
          if (decide (r9.1 < (0 : Int))) = true then
            some (false, ())
          else
            (G_eqIntS ((r5.1, (r3.1, ())))).bind fun r10 =>
            if (!r10.1) = true then
              some (false, ())
            else
              if (!(r5.2.1 == r3.2.1)) = true then
                some (false, ())
              else
                (G_markIntS ((r5.1, ((1 : Int), ())))).bind fun r11 =>
                (G_heldIntS ((r11.2.1, ((1 : Int), ())))).bind fun r12 =>
                if (decide (r12.1 < (0 : Int))) = true then
                  some (false, ())
                else
                  if (r12.1 != r11.1) = true then
                    some (false, ())
                  else
                    ((F_laws_toTimetable 0) (a0, ())).bind fun r13 =>
                    (G_reachedBy ((r13.1, (a1, (a2, (a3, ())))))).bind fun r14 =>
                    (G_eqIntS ((r14.1, (r3.1, ())))).bind fun r15 =>
                    if (!r15.1) = true then
                      some (false, ())
                    else
                      if (!(r14.2.1 == r3.2.1)) = true then
                        some (false, ())
                      else
                        (G_heldIntS ((r11.2.1, ((1 : Int), ())))).bind fun r16 =>
                        if (decide (r16.1 < (0 : Int))) = true then
                          some (false, ())
                        else
                          if (r16.1 != r11.1) = true then
                            some (false, ())
                          else
                            some (true, ())
theorem F_laws_FnExactReachedBy_ok (N : Nat) (d) : fnR Γ_laws_FnExactReachedBy (assoc []) true [(K_PPiSPiiqqiSSiq, false), (I, false), (I, false), (I, false)] [.bool] Try.f11.results.toList (bodyOf Try.f11) d = F_laws_FnExactReachedBy N d := by kernel_rfl
noncomputable def S_laws_FnExactReachedBy : FSig := ⟨[(K_PPiSPiiqqiSSiq, false), (I, false), (I, false), (I, false)], [.bool], true, (F_laws_FnExactReachedBy 0)⟩
/-! ### spec.l11Ends -/
noncomputable def Γ_spec_l11Ends : Ctx := { tk := assoc tks, ar := assoc ars, fs := assoc [(81, S_spec_l11Good), (93, S_spec_l11Clock), (103, S_spec_l2Node)] }
noncomputable def F_spec_l11Ends (N : Nat) (d : ((Int × (List (Int × Int × Unit)) × Unit) × Int × List (List Int) × Unit) × Int × Int × Int × Unit) : Option (Bool × Unit) :=
  let a0 : (Int × (List (Int × Int × Unit)) × Unit) × Int × List (List Int) × Unit := d.1
  let a1 : Int := d.2.1
  let a2 : Int := d.2.2.1
  let a3 : Int := d.2.2.2.1
  (G_l11Good (a0, ())).bind fun r1 =>
  if (r1.1) = true then
    let r2 : Bool × Unit := g_spec_l2Node ((a0.1, (a1, ())))
    if (r2.1) = true then
      let r3 : Bool × Unit := g_spec_l2Node ((a0.1, (a2, ())))
      if (r3.1) = true then
        let r4 : Bool × Unit := g_spec_l11Clock (a3, ())
        some (r4.1, ())
      else
        some (false, ())
    else
      some (false, ())
  else
    some (false, ())
theorem F_spec_l11Ends_ok (N : Nat) (d) : fnR Γ_spec_l11Ends (assoc []) true [(K_PPiSPiiqqiSSiq, false), (I, false), (I, false), (I, false)] [.bool] Try.f99.results.toList (bodyOf Try.f99) d = F_spec_l11Ends N d := by kernel_rfl
noncomputable def S_spec_l11Ends : FSig := ⟨[(K_PPiSPiiqqiSSiq, false), (I, false), (I, false), (I, false)], [.bool], true, (F_spec_l11Ends 0)⟩
/-! ### spec.l11Arrive -/
noncomputable def Γ_spec_l11Arrive : Ctx := { tk := assoc tks, ar := assoc ars, fs := assoc [(104, S_spec_l11Reached), (131, S_spec_l1Has)], dm := fun t => Nat.beq t 9, cs := assoc [] }
abbrev spec_l11Arrive_l0_H := Int × Int × ((Int × (List (Int × Int × Unit)) × Unit) × Int × List (List Int) × Unit) × List Int × Int × Unit
abbrev spec_l11Arrive_l0_O := (Int × Unit) ⊕ Unit ⊕ Empty
def spec_l11Arrive_l0_h : Form := [(2, .v I), (3, .v I), (4, .box K_PPiSPiiqqiSSiq 0), (9, .v K_Si), (10, .v I)]
def spec_l11Arrive_l0_o : Outs := [(.ret, [(8, .v I)]), (.normal, [])]
noncomputable def spec_l11Arrive_l0_r (N : Nat) (back : spec_l11Arrive_l0_H → Option spec_l11Arrive_l0_O) (d : spec_l11Arrive_l0_H) : Option spec_l11Arrive_l0_O :=
  let s2 : Int := d.1
  let s3 : Int := d.2.1
  let s4 : (Int × (List (Int × Int × Unit)) × Unit) × Int × List (List Int) × Unit := d.2.2.1
  let s9 : List Int := d.2.2.2.1
  let s10 : Int := d.2.2.2.2.1
  let x8 : Int := IntKind.wrap .i64 (s4.1.1 * s4.2.1)
  if (decide (s10 ≤ x8)) = true then
    (G_l1Has ((s9, (s2, ())))).bind fun r9 =>
    if (r9.1) = true then
      some (.inl (s10, ()))
    else
      (G_l11Reached ((s4, (s9, (IntKind.wrap .i64 (s3 + s10), ()))))).bind fun r10 =>
      let x11 : Int := IntKind.wrap .i64 (s10 + (1 : Int))
      back ((s2, (s3, (s4, (r10.1, (x11, ()))))))
  else
    some (.inr (.inl ()))
noncomputable def spec_l11Arrive_l0 (N : Nat) : Nat → spec_l11Arrive_l0_H → Option spec_l11Arrive_l0_O
  | 0, _ => none
  | k + 1, d => spec_l11Arrive_l0_r N (spec_l11Arrive_l0 N k) d
theorem spec_l11Arrive_l0_ok (N : Nat) (back) (d) : roundR Γ_spec_l11Arrive (assoc []) 0 spec_l11Arrive_l0_h spec_l11Arrive_l0_o (loopOf Try.f100 0) back d = spec_l11Arrive_l0_r N back d := by kernel_rfl
noncomputable def F_spec_l11Arrive (N : Nat) (d : ((Int × (List (Int × Int × Unit)) × Unit) × Int × List (List Int) × Unit) × Int × Int × Int × Unit) : Option (Int × Unit) :=
  let a0 : (Int × (List (Int × Int × Unit)) × Unit) × Int × List (List Int) × Unit := d.1
  let a1 : Int := d.2.1
  let a2 : Int := d.2.2.1
  let a3 : Int := d.2.2.2.1
  (spec_l11Arrive_l0 N N ((a2, (a3, (a0, ([a1], ((0 : Int), ()))))))).bind fun o5 => match o5 with
  | .inl d6 =>
    some (d6.1, ())
  | .inr (.inl d7) =>
    some ((-1 : Int), ())
theorem F_spec_l11Arrive_ok (N : Nat) (d) : fnR Γ_spec_l11Arrive (assoc [(0, ⟨spec_l11Arrive_l0_h, spec_l11Arrive_l0_o, spec_l11Arrive_l0 N N⟩)]) true [(K_PPiSPiiqqiSSiq, false), (I, false), (I, false), (I, false)] [I] Try.f100.results.toList (bodyOf Try.f100) d = F_spec_l11Arrive N d := by kernel_rfl
noncomputable def S_spec_l11Arrive : FSig := ⟨[(K_PPiSPiiqqiSSiq, false), (I, false), (I, false), (I, false)], [I], true, (G_l11Arrive)⟩
/-! ### spec.EarliestArrival -/
noncomputable def Γ_spec_EarliestArrival : Ctx := { tk := assoc tks, ar := assoc ars, fs := assoc [(99, S_spec_l11Ends), (100, S_spec_l11Arrive)] }
noncomputable def F_spec_EarliestArrival (N : Nat) (d : ((Int × (List (Int × Int × Unit)) × Unit) × Int × List (List Int) × Unit) × Int × Int × Int × Unit) : Option (Int × Bool × Unit) :=
  let a0 : (Int × (List (Int × Int × Unit)) × Unit) × Int × List (List Int) × Unit := d.1
  let a1 : Int := d.2.1
  let a2 : Int := d.2.2.1
  let a3 : Int := d.2.2.2.1
  ((F_spec_l11Ends 0) ((a0, (a1, (a2, (a3, ())))))).bind fun r1 =>
  if (!r1.1) = true then
    some (((0 : Int), (false, ())))
  else
    (G_l11Arrive ((a0, (a1, (a2, (a3, ())))))).bind fun r2 =>
    if (decide (r2.1 ≥ (0 : Int))) = true then
      some ((r2.1, (true, ())))
    else
      some (((0 : Int), (false, ())))
theorem F_spec_EarliestArrival_ok (N : Nat) (d) : fnR Γ_spec_EarliestArrival (assoc []) true [(K_PPiSPiiqqiSSiq, false), (I, false), (I, false), (I, false)] [I, .bool] Try.f49.results.toList (bodyOf Try.f49) d = F_spec_EarliestArrival N d := by kernel_rfl
noncomputable def S_spec_EarliestArrival : FSig := ⟨[(K_PPiSPiiqqiSSiq, false), (I, false), (I, false), (I, false)], [I, .bool], true, (F_spec_EarliestArrival 0)⟩
/-! ### impl.earliestArrival -/
noncomputable def Γ_impl_earliestArrival : Ctx := { tk := assoc tks, ar := assoc ars, fs := assoc [(96, S_impl_openNets), (105, S_impl_net_around)] }
abbrev impl_earliestArrival_l0_H := Int × Int × ((Int × (List (Int × Int × Unit)) × Unit) × Int × List (List Int) × Unit) × (List (List Int × Unit)) × Int × Int × Unit
abbrev impl_earliestArrival_l0_O := (Int × Bool × Unit) ⊕ Unit ⊕ Empty
def impl_earliestArrival_l0_h : Form := [(2, .v I), (3, .v I), (4, .box K_PPiSPiiqqiSSiq 0), (10, .own K_SPSiq 99), (11, .v I), (17, .v I)]
def impl_earliestArrival_l0_o : Outs := [(.ret, [(8, .v I), (9, .v .bool)]), (.normal, [])]
noncomputable def impl_earliestArrival_l0_r (N : Nat) (back : impl_earliestArrival_l0_H → Option impl_earliestArrival_l0_O) (d : impl_earliestArrival_l0_H) : Option impl_earliestArrival_l0_O :=
  let s2 : Int := d.1
  let s3 : Int := d.2.1
  let s4 : (Int × (List (Int × Int × Unit)) × Unit) × Int × List (List Int) × Unit := d.2.2.1
  let s10 : List (List Int × Unit) := d.2.2.2.1
  let s11 : Int := d.2.2.2.2.1
  let s17 : Int := d.2.2.2.2.2.1
  if (decide (s17 < (33 : Int))) = true then
    if (decide (0 ≤ s2)) = true then
    let x9 : Int := bits .and .i64 (shr .i64 s11 s2) (1 : Int)
    if (x9 == (1 : Int)) = true then
      some (.inl ((s17, (true, ()))))
    else
      if (s4.2.1 != 0) = true then
      let x10 : Int := (IntKind.wrap .i64 (s3 + s17)).tmod s4.2.1
      if (idxIn x10 (List.length s10)) = true then
      (G_around ((at_ K_PSiq s10 x10.toNat, (s11, ())))).bind fun r11 =>
      let x12 : Int := IntKind.wrap .i64 (s17 + (1 : Int))
      back ((s2, (s3, (s4, (s10, (r11.1, (x12, ())))))))
      else none
      else none
    else none
  else
    some (.inr (.inl ()))
noncomputable def impl_earliestArrival_l0 (N : Nat) : Nat → impl_earliestArrival_l0_H → Option impl_earliestArrival_l0_O
  | 0, _ => none
  | k + 1, d => impl_earliestArrival_l0_r N (impl_earliestArrival_l0 N k) d
theorem impl_earliestArrival_l0_ok (N : Nat) (back) (d) : roundR Γ_impl_earliestArrival (assoc []) 0 impl_earliestArrival_l0_h impl_earliestArrival_l0_o (loopOf Try.f102 0) back d = impl_earliestArrival_l0_r N back d := by kernel_rfl
noncomputable def F_impl_earliestArrival (N : Nat) (d : ((Int × (List (Int × Int × Unit)) × Unit) × Int × List (List Int) × Unit) × Int × Int × Int × Unit) : Option (Int × Bool × Unit) :=
  let a0 : (Int × (List (Int × Int × Unit)) × Unit) × Int × List (List Int) × Unit := d.1
  let a1 : Int := d.2.1
  let a2 : Int := d.2.2.1
  let a3 : Int := d.2.2.2.1
  (G_openNets (a0, ())).bind fun r1 =>
  if (decide (0 ≤ a1)) = true then
  (impl_earliestArrival_l0 N N ((a2, (a3, (a0, (r1.1, (shl .i64 (1 : Int) a1, ((0 : Int), ())))))))).bind fun o6 => match o6 with
  | .inl d7 =>
    some ((d7.1, (d7.2.1, ())))
  | .inr (.inl d8) =>
    some (((0 : Int), (false, ())))
  else none
theorem F_impl_earliestArrival_ok (N : Nat) (d) : fnR Γ_impl_earliestArrival (assoc [(0, ⟨impl_earliestArrival_l0_h, impl_earliestArrival_l0_o, impl_earliestArrival_l0 N N⟩)]) true [(K_PPiSPiiqqiSSiq, false), (I, false), (I, false), (I, false)] [I, .bool] Try.f102.results.toList (bodyOf Try.f102) d = F_impl_earliestArrival N d := by kernel_rfl
noncomputable def S_impl_earliestArrival : FSig := ⟨[(K_PPiSPiiqqiSSiq, false), (I, false), (I, false), (I, false)], [I, .bool], true, (G_earliestArrival)⟩
/-! ### impl.EarliestArrival -/
noncomputable def Γ_impl_EarliestArrival : Ctx := { tk := assoc tks, ar := assoc ars, fs := assoc [(101, S_impl_isTimed), (102, S_impl_earliestArrival)] }
noncomputable def F_impl_EarliestArrival (N : Nat) (d : ((Int × (List (Int × Int × Unit)) × Unit) × Int × List (List Int) × Unit) × Int × Int × Int × Unit) : Option (Int × Bool × Unit) :=
  let a0 : (Int × (List (Int × Int × Unit)) × Unit) × Int × List (List Int) × Unit := d.1
  let a1 : Int := d.2.1
  let a2 : Int := d.2.2.1
  let a3 : Int := d.2.2.2.1
  ((F_impl_isTimed 0) ((a0, (a3, ([a1, a2], ()))))).bind fun r1 =>
  if (!r1.1) = true then
    some (((0 : Int), (false, ())))
  else
    (G_earliestArrival ((a0, (a1, (a2, (a3, ())))))).bind fun r2 =>
    some ((r2.1, (r2.2.1, ())))
theorem F_impl_EarliestArrival_ok (N : Nat) (d) : fnR Γ_impl_EarliestArrival (assoc []) true [(K_PPiSPiiqqiSSiq, false), (I, false), (I, false), (I, false)] [I, .bool] Try.f50.results.toList (bodyOf Try.f50) d = F_impl_EarliestArrival N d := by kernel_rfl
noncomputable def S_impl_EarliestArrival : FSig := ⟨[(K_PPiSPiiqqiSSiq, false), (I, false), (I, false), (I, false)], [I, .bool], true, (F_impl_EarliestArrival 0)⟩
/-! ### laws.FnExactEarliestArrival -/
noncomputable def Γ_laws_FnExactEarliestArrival : Ctx := { tk := assoc tks, ar := assoc ars, fs := assoc [(32, S_laws_szTimetable), (34, S_laws_toTimetable), (36, S_laws_eqTimetable), (49, S_spec_EarliestArrival), (50, S_impl_EarliestArrival)] }
noncomputable def F_laws_FnExactEarliestArrival (N : Nat) (d : ((Int × (List (Int × Int × Unit)) × Unit) × Int × List (List Int) × Unit) × Int × Int × Int × Unit) : Option (Bool × Unit) :=
  let a0 : (Int × (List (Int × Int × Unit)) × Unit) × Int × List (List Int) × Unit := d.1
  let a1 : Int := d.2.1
  let a2 : Int := d.2.2.1
  let a3 : Int := d.2.2.2.1
  ((F_laws_szTimetable 0) ((a0, ((1048576 : Int), ())))).bind fun r1 =>
  if (decide (r1.1 < (0 : Int))) = true then
    some (true, ())
  else
    ((F_laws_toTimetable 0) (a0, ())).bind fun r2 =>
    ((F_spec_EarliestArrival 0) ((r2.1, (a1, (a2, (a3, ())))))).bind fun r3 =>
    ((F_laws_toTimetable 0) (a0, ())).bind fun r4 =>
    ((F_impl_EarliestArrival 0) ((r4.1, (a1, (a2, (a3, ())))))).bind fun r5 =>
    if (r5.1 != r3.1) = true then
      some (false, ())
    else
      if (!(r5.2.1 == r3.2.1)) = true then
        some (false, ())
      else
        ((F_laws_toTimetable 0) (a0, ())).bind fun r6 =>
        ((F_laws_eqTimetable 0) ((r4.1, (r6.1, ())))).bind fun r7 =>
        if (!r7.1) = true then
          some (false, ())
        else
          some (true, ())
theorem F_laws_FnExactEarliestArrival_ok (N : Nat) (d) : fnR Γ_laws_FnExactEarliestArrival (assoc []) true [(K_PPiSPiiqqiSSiq, false), (I, false), (I, false), (I, false)] [.bool] Try.f10.results.toList (bodyOf Try.f10) d = F_laws_FnExactEarliestArrival N d := by kernel_rfl
noncomputable def S_laws_FnExactEarliestArrival : FSig := ⟨[(K_PPiSPiiqqiSSiq, false), (I, false), (I, false), (I, false)], [.bool], true, (F_laws_FnExactEarliestArrival 0)⟩
/-! ### spec.EarliestTrip -/
noncomputable def Γ_spec_EarliestTrip : Ctx := { tk := assoc tks, ar := assoc ars, fs := assoc [(94, S_spec_l11Open), (99, S_spec_l11Ends), (100, S_spec_l11Arrive), (110, S_spec_l2Ball)] }
abbrev spec_EarliestTrip_l2_H := Int × Int × ((Int × (List (Int × Int × Unit)) × Unit) × Int × List (List Int) × Unit) × Int × List Int × Int × List Int × Int × Unit
abbrev spec_EarliestTrip_l2_O := (Int × Int × ((Int × (List (Int × Int × Unit)) × Unit) × Int × List (List Int) × Unit) × Int × List Int × Int × List Int × Int × Unit) ⊕ Empty
def spec_EarliestTrip_l2_h : Form := [(2, .v I), (3, .v I), (4, .box K_PPiSPiiqqiSSiq 0), (10, .v I), (11, .own K_Si 99), (12, .v I), (13, .v K_Si), (14, .v I)]
def spec_EarliestTrip_l2_o : Outs := [(.normal, [(2, .v I), (3, .v I), (4, .box K_PPiSPiiqqiSSiq 0), (10, .v I), (11, .own K_Si 99), (12, .v I), (13, .v K_Si), (14, .v I)])]
noncomputable def spec_EarliestTrip_l2_r (N : Nat) (back : spec_EarliestTrip_l2_H → Option spec_EarliestTrip_l2_O) (d : spec_EarliestTrip_l2_H) : Option spec_EarliestTrip_l2_O :=
  let s2 : Int := d.1
  let s3 : Int := d.2.1
  let s4 : (Int × (List (Int × Int × Unit)) × Unit) × Int × List (List Int) × Unit := d.2.2.1
  let s10 : Int := d.2.2.2.1
  let s11 : List Int := d.2.2.2.2.1
  let s12 : Int := d.2.2.2.2.2.1
  let s13 : List Int := d.2.2.2.2.2.2.1
  let s14 : Int := d.2.2.2.2.2.2.2.1
  if (idxIn s14 (List.length s13)) = true then
  let x28 : Int := IntKind.wrap .i64 (IntKind.wrap .i64 (s3 + s12) + (1 : Int))
  (G_l11Arrive ((s4, (at_ I s13 s14.toNat, (s2, (x28, ())))))).bind fun r29 =>
  let x30 : Int := IntKind.wrap .i64 (s10 - s12)
  let x31 : Int := IntKind.wrap .i64 (x30 - (1 : Int))
  if (r29.1 != x31) = true then
    let x32 : Int := IntKind.wrap .i64 (s14 + (1 : Int))
    back ((s2, (s3, (s4, (s10, (s11, (s12, (s13, (x32, ())))))))))
  else
    some (.inl ((s2, (s3, (s4, (s10, (s11, (s12, (s13, (s14, ()))))))))))
  else none
noncomputable def spec_EarliestTrip_l2 (N : Nat) : Nat → spec_EarliestTrip_l2_H → Option spec_EarliestTrip_l2_O
  | 0, _ => none
  | k + 1, d => spec_EarliestTrip_l2_r N (spec_EarliestTrip_l2 N k) d
theorem spec_EarliestTrip_l2_ok (N : Nat) (back) (d) : roundR Γ_spec_EarliestTrip (assoc []) 2 spec_EarliestTrip_l2_h spec_EarliestTrip_l2_o (loopOf Try.f58 2) back d = spec_EarliestTrip_l2_r N back d := by kernel_rfl
abbrev spec_EarliestTrip_l0_H := Int × Int × ((Int × (List (Int × Int × Unit)) × Unit) × Int × List (List Int) × Unit) × Int × List Int × Int × Unit
abbrev spec_EarliestTrip_l0_O := (List Int × Unit) ⊕ Empty
def spec_EarliestTrip_l0_h : Form := [(2, .v I), (3, .v I), (4, .box K_PPiSPiiqqiSSiq 0), (10, .v I), (11, .own K_Si 99), (12, .v I)]
def spec_EarliestTrip_l0_o : Outs := [(.normal, [(11, .own K_Si 99)])]
noncomputable def spec_EarliestTrip_l0_r (N : Nat) (back : spec_EarliestTrip_l0_H → Option spec_EarliestTrip_l0_O) (d : spec_EarliestTrip_l0_H) : Option spec_EarliestTrip_l0_O :=
  let s2 : Int := d.1
  let s3 : Int := d.2.1
  let s4 : (Int × (List (Int × Int × Unit)) × Unit) × Int × List (List Int) × Unit := d.2.2.1
  let s10 : Int := d.2.2.2.1
  let s11 : List Int := d.2.2.2.2.1
  let s12 : Int := d.2.2.2.2.2.1
  if (decide (s12 < s10)) = true then
    (G_l11Open ((s4, (IntKind.wrap .i64 (s3 + s12), ())))).bind fun r17 =>
    if (idxIn s12 (List.length s11)) = true then
    ((F_spec_l2Ball 0) ((r17.1, (at_ I s11 s12.toNat, ())))).bind fun r18 =>
    (spec_EarliestTrip_l2 N N ((s2, (s3, (s4, (s10, (s11, (s12, (r18.1, ((0 : Int), ())))))))))).bind fun o24 => match o24 with
    | .inl d25 =>
      if (idxIn d25.2.2.2.2.2.2.2.1 (List.length d25.2.2.2.2.2.2.1)) = true then
      if (decide (List.length d25.2.2.2.2.1 + List.length ([at_ I d25.2.2.2.2.2.2.1 d25.2.2.2.2.2.2.2.1.toNat]) ≤ lim)) = true then
      let x26 : List Int := d25.2.2.2.2.1 ++ ([at_ I d25.2.2.2.2.2.2.1 d25.2.2.2.2.2.2.2.1.toNat])
      let x27 : Int := IntKind.wrap .i64 (d25.2.2.2.2.2.1 + (1 : Int))
      back ((d25.1, (d25.2.1, (d25.2.2.1, (d25.2.2.2.1, (x26, (x27, ())))))))
      else none
      else none
    else none
  else
    some (.inl (s11, ()))
noncomputable def spec_EarliestTrip_l0 (N : Nat) : Nat → spec_EarliestTrip_l0_H → Option spec_EarliestTrip_l0_O
  | 0, _ => none
  | k + 1, d => spec_EarliestTrip_l0_r N (spec_EarliestTrip_l0 N k) d
theorem spec_EarliestTrip_l0_ok (N : Nat) (back) (d) : roundR Γ_spec_EarliestTrip (assoc [(2, ⟨spec_EarliestTrip_l2_h, spec_EarliestTrip_l2_o, spec_EarliestTrip_l2 N N⟩)]) 0 spec_EarliestTrip_l0_h spec_EarliestTrip_l0_o (loopOf Try.f58 0) back d = spec_EarliestTrip_l0_r N back d := by kernel_rfl
noncomputable def F_spec_EarliestTrip (N : Nat) (d : ((Int × (List (Int × Int × Unit)) × Unit) × Int × List (List Int) × Unit) × Int × Int × Int × Unit) : Option (List Int × Bool × Unit) :=
  let a0 : (Int × (List (Int × Int × Unit)) × Unit) × Int × List (List Int) × Unit := d.1
  let a1 : Int := d.2.1
  let a2 : Int := d.2.2.1
  let a3 : Int := d.2.2.2.1
  ((F_spec_l11Ends 0) ((a0, (a1, (a2, (a3, ())))))).bind fun r1 =>
  if (!r1.1) = true then
    some ((([] : List Int), (false, ())))
  else
    (G_l11Arrive ((a0, (a1, (a2, (a3, ())))))).bind fun r2 =>
    if (decide (r2.1 < (0 : Int))) = true then
      some ((([] : List Int), (false, ())))
    else
      (G_l11Arrive ((a0, (a1, (a2, (a3, ())))))).bind fun r3 =>
      (spec_EarliestTrip_l0 N N ((a2, (a3, (a0, (r3.1, ([a1], ((0 : Int), ())))))))).bind fun o15 => match o15 with
      | .inl d16 =>
        some ((d16.1, (true, ())))
theorem F_spec_EarliestTrip_ok (N : Nat) (d) : fnR Γ_spec_EarliestTrip (assoc [(0, ⟨spec_EarliestTrip_l0_h, spec_EarliestTrip_l0_o, spec_EarliestTrip_l0 N N⟩)]) true [(K_PPiSPiiqqiSSiq, false), (I, false), (I, false), (I, false)] [K_Si, .bool] Try.f58.results.toList (bodyOf Try.f58) d = F_spec_EarliestTrip N d := by kernel_rfl
noncomputable def S_spec_EarliestTrip : FSig := ⟨[(K_PPiSPiiqqiSSiq, false), (I, false), (I, false), (I, false)], [K_Si, .bool], true, (G_earliestTrip)⟩
/-! ### (impl.net).closed -/
noncomputable def Γ_impl_net_closed : Ctx := { tk := assoc tks, ar := assoc ars, fs := assoc [] }
noncomputable def F_impl_net_closed (N : Nat) (d : (List Int × Unit) × Int × Unit) : Option (Int × Unit) :=
  let a0 : List Int × Unit := d.1
  let a1 : Int := d.2.1
  if (idxIn a1 (List.length a0.1)) = true then
  if (decide (0 ≤ a1)) = true then
  let x1 : Int := bits .or .i64 (at_ I a0.1 a1.toNat) (shl .i64 (1 : Int) a1)
  some (x1, ())
  else none
  else none
theorem F_impl_net_closed_ok (N : Nat) (d) : fnR Γ_impl_net_closed (assoc []) true [(K_PSiq, false), (I, false)] [I] Try.f111.results.toList (bodyOf Try.f111) d = F_impl_net_closed N d := by kernel_rfl
noncomputable def S_impl_net_closed : FSig := ⟨[(K_PSiq, false), (I, false)], [I], true, (F_impl_net_closed 0)⟩
/-! ### impl.EarliestTrip -/
noncomputable def Γ_impl_EarliestTrip : Ctx := { tk := assoc tks, ar := assoc ars, fs := assoc [(96, S_impl_openNets), (101, S_impl_isTimed), (102, S_impl_earliestArrival), (105, S_impl_net_around), (106, S_impl_setOf), (111, S_impl_net_closed)] }
abbrev impl_EarliestTrip_l0_H := Int × Int × ((Int × (List (Int × Int × Unit)) × Unit) × Int × List (List Int) × Unit) × Int × (List (List Int × Unit)) × List Int × Int × Unit
abbrev impl_EarliestTrip_l0_O := (Int × Int × ((Int × (List (Int × Int × Unit)) × Unit) × Int × List (List Int) × Unit) × Int × (List (List Int × Unit)) × List Int × Unit) ⊕ Empty
def impl_EarliestTrip_l0_h : Form := [(1, .v I), (3, .v I), (4, .box K_PPiSPiiqqiSSiq 0), (10, .v I), (12, .own K_SPSiq 99), (13, .own K_Si 99), (14, .v I)]
def impl_EarliestTrip_l0_o : Outs := [(.normal, [(1, .v I), (3, .v I), (4, .box K_PPiSPiiqqiSSiq 0), (10, .v I), (12, .own K_SPSiq 99), (13, .own K_Si 99)])]
noncomputable def impl_EarliestTrip_l0_r (N : Nat) (back : impl_EarliestTrip_l0_H → Option impl_EarliestTrip_l0_O) (d : impl_EarliestTrip_l0_H) : Option impl_EarliestTrip_l0_O :=
  let s1 : Int := d.1
  let s3 : Int := d.2.1
  let s4 : (Int × (List (Int × Int × Unit)) × Unit) × Int × List (List Int) × Unit := d.2.2.1
  let s10 : Int := d.2.2.2.1
  let s12 : List (List Int × Unit) := d.2.2.2.2.1
  let s13 : List Int := d.2.2.2.2.2.1
  let s14 : Int := d.2.2.2.2.2.2.1
  if (decide (s14 ≥ (0 : Int))) = true then
    if (s4.2.1 != 0) = true then
    let x23 : Int := (IntKind.wrap .i64 (s3 + s14)).tmod s4.2.1
    if (idxIn x23 (List.length s12)) = true then
    let x24 : Int := IntKind.wrap .i64 (s14 + (1 : Int))
    if (idxIn x24 (List.length s13)) = true then
    (G_around ((at_ K_PSiq s12 x23.toNat, (at_ I s13 x24.toNat, ())))).bind fun r25 =>
    if (idxIn s14 (List.length s13)) = true then
    let x26 : Int := IntKind.wrap .i64 (s14 - (1 : Int))
    back ((s1, (s3, (s4, (s10, (s12, (List.set s13 s14.toNat r25.1, (x26, ()))))))))
    else none
    else none
    else none
    else none
  else
    some (.inl ((s1, (s3, (s4, (s10, (s12, (s13, ()))))))))
noncomputable def impl_EarliestTrip_l0 (N : Nat) : Nat → impl_EarliestTrip_l0_H → Option impl_EarliestTrip_l0_O
  | 0, _ => none
  | k + 1, d => impl_EarliestTrip_l0_r N (impl_EarliestTrip_l0 N k) d
theorem impl_EarliestTrip_l0_ok (N : Nat) (back) (d) : roundR Γ_impl_EarliestTrip (assoc []) 0 impl_EarliestTrip_l0_h impl_EarliestTrip_l0_o (loopOf Try.f59 0) back d = impl_EarliestTrip_l0_r N back d := by kernel_rfl
abbrev impl_EarliestTrip_l2_H := Int × Int × ((Int × (List (Int × Int × Unit)) × Unit) × Int × List (List Int) × Unit) × (List (List Int × Unit)) × List Int × List Int × Int × Int × Unit
abbrev impl_EarliestTrip_l2_O := (List Int × Unit) ⊕ Empty
def impl_EarliestTrip_l2_h : Form := [(1, .v I), (3, .v I), (4, .box K_PPiSPiiqqiSSiq 0), (12, .own K_SPSiq 99), (13, .own K_Si 99), (15, .own K_Si 99), (70, .v I), (71, .v I)]
def impl_EarliestTrip_l2_o : Outs := [(.normal, [(15, .own K_Si 99)])]
noncomputable def impl_EarliestTrip_l2_r (N : Nat) (back : impl_EarliestTrip_l2_H → Option impl_EarliestTrip_l2_O) (d : impl_EarliestTrip_l2_H) : Option impl_EarliestTrip_l2_O :=
  let s1 : Int := d.1
  let s3 : Int := d.2.1
  let s4 : (Int × (List (Int × Int × Unit)) × Unit) × Int × List (List Int) × Unit := d.2.2.1
  let s12 : List (List Int × Unit) := d.2.2.2.1
  let s13 : List Int := d.2.2.2.2.1
  let s15 : List Int := d.2.2.2.2.2.1
  let s70 : Int := d.2.2.2.2.2.2.1
  let s71 : Int := d.2.2.2.2.2.2.2.1
  if (decide (s71 < s70)) = true then
    if (s4.2.1 != 0) = true then
    let x27 : Int := (IntKind.wrap .i64 (s3 + s71)).tmod s4.2.1
    if (idxIn x27 (List.length s12)) = true then
    ((F_impl_net_closed 0) ((at_ K_PSiq s12 x27.toNat, (s1, ())))).bind fun r28 =>
    let x29 : Int := IntKind.wrap .i64 (s71 + (1 : Int))
    if (idxIn x29 (List.length s13)) = true then
    let x30 : Int := bits .and .i64 r28.1 (at_ I s13 x29.toNat)
    (G_setOf (x30, ())).bind fun r31 =>
    if (idxIn (0 : Int) (List.length r31.1)) = true then
    if (decide (List.length s15 + List.length ([at_ I r31.1 (0 : Int).toNat]) ≤ lim)) = true then
    let x32 : List Int := s15 ++ ([at_ I r31.1 (0 : Int).toNat])
    let x33 : Int := IntKind.wrap .i64 (s71 + (1 : Int))
    back ((at_ I r31.1 (0 : Int).toNat, (s3, (s4, (s12, (s13, (x32, (s70, (x33, ())))))))))
    else none
    else none
    else none
    else none
    else none
  else
    some (.inl (s15, ()))
noncomputable def impl_EarliestTrip_l2 (N : Nat) : Nat → impl_EarliestTrip_l2_H → Option impl_EarliestTrip_l2_O
  | 0, _ => none
  | k + 1, d => impl_EarliestTrip_l2_r N (impl_EarliestTrip_l2 N k) d
theorem impl_EarliestTrip_l2_ok (N : Nat) (back) (d) : roundR Γ_impl_EarliestTrip (assoc []) 2 impl_EarliestTrip_l2_h impl_EarliestTrip_l2_o (loopOf Try.f59 2) back d = impl_EarliestTrip_l2_r N back d := by kernel_rfl
noncomputable def F_impl_EarliestTrip (N : Nat) (d : ((Int × (List (Int × Int × Unit)) × Unit) × Int × List (List Int) × Unit) × Int × Int × Int × Unit) : Option (List Int × Bool × Unit) :=
  let a0 : (Int × (List (Int × Int × Unit)) × Unit) × Int × List (List Int) × Unit := d.1
  let a1 : Int := d.2.1
  let a2 : Int := d.2.2.1
  let a3 : Int := d.2.2.2.1
  ((F_impl_isTimed 0) ((a0, (a3, ([a1, a2], ()))))).bind fun r1 =>
  if (!r1.1) = true then
    some ((([] : List Int), (false, ())))
  else
    (G_earliestArrival ((a0, (a1, (a2, (a3, ())))))).bind fun r2 =>
    if (!r2.2.1) = true then
      some ((([] : List Int), (false, ())))
    else
      (G_openNets (a0, ())).bind fun r3 =>
      let x4 : Int := IntKind.wrap .i64 (r2.1 + (1 : Int))
      if ((decide (0 ≤ x4) && decide (x4 ≤ x4) && decide (x4 ≤ (lim : Int)))) = true then
      let x5 : List Int := List.replicate x4.toNat (0 : Int)
      if (decide (0 ≤ a2)) = true then
      if (idxIn r2.1 (List.length x5)) = true then
      let x6 : List Int := List.set x5 r2.1.toNat (shl .i64 (1 : Int) a2)
      let x7 : Int := IntKind.wrap .i64 (r2.1 - (1 : Int))
      (impl_EarliestTrip_l0 N N ((a1, (a3, (a0, (r2.1, (r3.1, (x6, (x7, ()))))))))).bind fun o12 => match o12 with
      | .inl d13 =>
        (impl_EarliestTrip_l2 N N ((d13.1, (d13.2.1, (d13.2.2.1, (d13.2.2.2.2.1, (d13.2.2.2.2.2.1, ([d13.1], (d13.2.2.2.1, ((0 : Int), ())))))))))).bind fun o21 => match o21 with
        | .inl d22 =>
          some ((d22.1, (true, ())))
      else none
      else none
      else none
theorem F_impl_EarliestTrip_ok (N : Nat) (d) : fnR Γ_impl_EarliestTrip (assoc [(0, ⟨impl_EarliestTrip_l0_h, impl_EarliestTrip_l0_o, impl_EarliestTrip_l0 N N⟩), (2, ⟨impl_EarliestTrip_l2_h, impl_EarliestTrip_l2_o, impl_EarliestTrip_l2 N N⟩)]) true [(K_PPiSPiiqqiSSiq, false), (I, false), (I, false), (I, false)] [K_Si, .bool] Try.f59.results.toList (bodyOf Try.f59) d = F_impl_EarliestTrip N d := by kernel_rfl
noncomputable def S_impl_EarliestTrip : FSig := ⟨[(K_PPiSPiiqqiSSiq, false), (I, false), (I, false), (I, false)], [K_Si, .bool], true, (G_earliestTrip)⟩
/-! ### laws.FnExactEarliestTrip -/
noncomputable def Γ_laws_FnExactEarliestTrip : Ctx := { tk := assoc tks, ar := assoc ars, fs := assoc [(32, S_laws_szTimetable), (34, S_laws_toTimetable), (36, S_laws_eqTimetable), (39, S_laws_markTimetable), (53, S_laws_eqIntS), (54, S_laws_markIntS), (55, S_laws_heldIntS), (58, S_spec_EarliestTrip), (59, S_impl_EarliestTrip)] }
noncomputable def F_laws_FnExactEarliestTrip (N : Nat) (d : ((Int × (List (Int × Int × Unit)) × Unit) × Int × List (List Int) × Unit) × Int × Int × Int × Unit) : Option (Bool × Unit) :=
  let a0 : (Int × (List (Int × Int × Unit)) × Unit) × Int × List (List Int) × Unit := d.1
  let a1 : Int := d.2.1
  let a2 : Int := d.2.2.1
  let a3 : Int := d.2.2.2.1
  ((F_laws_szTimetable 0) ((a0, ((1048576 : Int), ())))).bind fun r1 =>
  if (decide (r1.1 < (0 : Int))) = true then
    some (true, ())
  else
    ((F_laws_toTimetable 0) (a0, ())).bind fun r2 =>
    (G_earliestTrip ((r2.1, (a1, (a2, (a3, ())))))).bind fun r3 =>
    ((F_laws_toTimetable 0) (a0, ())).bind fun r4 =>
    (G_earliestTrip ((r4.1, (a1, (a2, (a3, ())))))).bind fun r5 =>
    (G_eqIntS ((r5.1, (r3.1, ())))).bind fun r6 =>
    if (!r6.1) = true then
      some (false, ())
    else
      if (!(r5.2.1 == r3.2.1)) = true then
        some (false, ())
      else
        ((F_laws_toTimetable 0) (a0, ())).bind fun r7 =>
        ((F_laws_eqTimetable 0) ((r4.1, (r7.1, ())))).bind fun r8 =>
        if (!r8.1) = true then
          some (false, ())
        else
          ((F_laws_markTimetable 0) ((r4.1, ((1 : Int), ())))).bind fun r9 =>
          if (decide (r9.1 < (0 : Int))) = true then
            some (false, ())
          else
            (G_eqIntS ((r5.1, (r3.1, ())))).bind fun r10 =>
            if (!r10.1) = true then
              some (false, ())
            else
              if (!(r5.2.1 == r3.2.1)) = true then
                some (false, ())
              else
                (G_markIntS ((r5.1, ((1 : Int), ())))).bind fun r11 =>
                (G_heldIntS ((r11.2.1, ((1 : Int), ())))).bind fun r12 =>
                if (decide (r12.1 < (0 : Int))) = true then
                  some (false, ())
                else
                  if (r12.1 != r11.1) = true then
                    some (false, ())
                  else
                    ((F_laws_toTimetable 0) (a0, ())).bind fun r13 =>
                    (G_earliestTrip ((r13.1, (a1, (a2, (a3, ())))))).bind fun r14 =>
                    (G_eqIntS ((r14.1, (r3.1, ())))).bind fun r15 =>
                    if (!r15.1) = true then
                      some (false, ())
                    else
                      if (!(r14.2.1 == r3.2.1)) = true then
                        some (false, ())
                      else
                        (G_heldIntS ((r11.2.1, ((1 : Int), ())))).bind fun r16 =>
                        if (decide (r16.1 < (0 : Int))) = true then
                          some (false, ())
                        else
                          if (r16.1 != r11.1) = true then
                            some (false, ())
                          else
                            some (true, ())
theorem F_laws_FnExactEarliestTrip_ok (N : Nat) (d) : fnR Γ_laws_FnExactEarliestTrip (assoc []) true [(K_PPiSPiiqqiSSiq, false), (I, false), (I, false), (I, false)] [.bool] Try.f13.results.toList (bodyOf Try.f13) d = F_laws_FnExactEarliestTrip N d := by kernel_rfl
noncomputable def S_laws_FnExactEarliestTrip : FSig := ⟨[(K_PPiSPiiqqiSSiq, false), (I, false), (I, false), (I, false)], [.bool], true, (F_laws_FnExactEarliestTrip 0)⟩
/-! ### spec.l3Sign -/
noncomputable def Γ_spec_l3Sign : Ctx := { tk := assoc tks, ar := assoc ars, fs := assoc [] }
noncomputable def F_spec_l3Sign (N : Nat) (d : Bool × Unit) : Option (Int × Unit) :=
  let a0 : Bool := d.1
  if (a0) = true then
    some ((0 : Int), ())
  else
    some ((-1 : Int), ())
theorem F_spec_l3Sign_ok (N : Nat) (d) : fnR Γ_spec_l3Sign (assoc []) true [(.bool, false)] [I] Try.f151.results.toList (bodyOf Try.f151) d = F_spec_l3Sign N d := by kernel_rfl
noncomputable def g_spec_l3Sign (d : Bool × Unit) : Int × Unit :=
  let a0 : Bool := d.1
  if (a0) = true then
    ((0 : Int), ())
  else
    ((-1 : Int), ())
theorem F_spec_l3Sign_tot (N : Nat) (d) : F_spec_l3Sign N d = some (g_spec_l3Sign d) := by
  unfold F_spec_l3Sign g_spec_l3Sign
  first
    | rfl
    | (dsimp only; (repeat' split) <;> rfl)
noncomputable def S_spec_l3Sign : FSig := ⟨[(.bool, false)], [I], true, (fun d => some (g_spec_l3Sign d))⟩
/-! ### spec.l1Most -/
noncomputable def Γ_spec_l1Most : Ctx := { tk := assoc tks, ar := assoc ars, fs := assoc [] }
noncomputable def F_spec_l1Most (N : Nat) (d : Int × Int × Unit) : Option (Int × Unit) :=
  let a0 : Int := d.1
  let a1 : Int := d.2.1
  if (decide (a0 > a1)) = true then
    some (a0, ())
  else
    some (a1, ())
theorem F_spec_l1Most_ok (N : Nat) (d) : fnR Γ_spec_l1Most (assoc []) true [(I, false), (I, false)] [I] Try.f157.results.toList (bodyOf Try.f157) d = F_spec_l1Most N d := by kernel_rfl
noncomputable def g_spec_l1Most (d : Int × Int × Unit) : Int × Unit :=
  let a0 : Int := d.1
  let a1 : Int := d.2.1
  if (decide (a0 > a1)) = true then
    (a0, ())
  else
    (a1, ())
theorem F_spec_l1Most_tot (N : Nat) (d) : F_spec_l1Most N d = some (g_spec_l1Most d) := by
  unfold F_spec_l1Most g_spec_l1Most
  first
    | rfl
    | (dsimp only; (repeat' split) <;> rfl)
noncomputable def S_spec_l1Most : FSig := ⟨[(I, false), (I, false)], [I], true, (fun d => some (g_spec_l1Most d))⟩
/-! ### spec.l3Worst -/
noncomputable def Γ_spec_l3Worst : Ctx := { tk := assoc tks, ar := assoc ars, fs := assoc [(110, S_spec_l2Ball), (157, S_spec_l1Most)] }
abbrev spec_l3Worst_l0_H := List (List Int) × Int × Int × List Int × Int × Unit
abbrev spec_l3Worst_l0_O := (Int × Unit) ⊕ (Int × Unit) ⊕ Empty
def spec_l3Worst_l0_h : Form := [(1, .v K_SSi), (2, .v I), (9, .v I), (10, .v K_Si), (11, .v I)]
def spec_l3Worst_l0_o : Outs := [(.ret, [(8, .v I)]), (.normal, [(9, .v I)])]
noncomputable def spec_l3Worst_l0_r (N : Nat) (back : spec_l3Worst_l0_H → Option spec_l3Worst_l0_O) (d : spec_l3Worst_l0_H) : Option spec_l3Worst_l0_O :=
  let s1 : List (List Int) := d.1
  let s2 : Int := d.2.1
  let s9 : Int := d.2.2.1
  let s10 : List Int := d.2.2.2.1
  let s11 : Int := d.2.2.2.2.1
  if (decide (s11 < (List.length s10 : Int))) = true then
    if (idxIn s2 (List.length s1)) = true then
    if (idxIn s11 (List.length s10)) = true then
    if (idxIn (at_ I s10 s11.toNat) (List.length (at_ K_Si s1 s2.toNat))) = true then
    if (decide (at_ I (at_ K_Si s1 s2.toNat) (at_ I s10 s11.toNat).toNat < (0 : Int))) = true then
      some (.inl ((-1 : Int), ()))
    else
      if (idxIn s2 (List.length s1)) = true then
      if (idxIn s11 (List.length s10)) = true then
      if (idxIn (at_ I s10 s11.toNat) (List.length (at_ K_Si s1 s2.toNat))) = true then
      let r7 : Int × Unit := g_spec_l1Most ((s9, (at_ I (at_ K_Si s1 s2.toNat) (at_ I s10 s11.toNat).toNat, ())))
      let x8 : Int := IntKind.wrap .i64 (s11 + (1 : Int))
      back ((s1, (s2, (r7.1, (s10, (x8, ()))))))
      else none
      else none
      else none
    else none
    else none
    else none
  else
    some (.inr (.inl (s9, ())))
noncomputable def spec_l3Worst_l0 (N : Nat) : Nat → spec_l3Worst_l0_H → Option spec_l3Worst_l0_O
  | 0, _ => none
  | k + 1, d => spec_l3Worst_l0_r N (spec_l3Worst_l0 N k) d
theorem spec_l3Worst_l0_ok (N : Nat) (back) (d) : roundR Γ_spec_l3Worst (assoc []) 0 spec_l3Worst_l0_h spec_l3Worst_l0_o (loopOf Try.f172 0) back d = spec_l3Worst_l0_r N back d := by kernel_rfl
noncomputable def F_spec_l3Worst (N : Nat) (d : (Int × (List (Int × Int × Unit)) × Unit) × List (List Int) × Int × Int × Unit) : Option (Int × Unit) :=
  let a0 : Int × (List (Int × Int × Unit)) × Unit := d.1
  let a1 : List (List Int) := d.2.1
  let a2 : Int := d.2.2.1
  let a3 : Int := d.2.2.2.1
  ((F_spec_l2Ball 0) ((a0, (a3, ())))).bind fun r1 =>
  (spec_l3Worst_l0 N N ((a1, (a2, ((0 : Int), (r1.1, ((0 : Int), ()))))))).bind fun o4 => match o4 with
  | .inl d5 =>
    some (d5.1, ())
  | .inr (.inl d6) =>
    some (d6.1, ())
theorem F_spec_l3Worst_ok (N : Nat) (d) : fnR Γ_spec_l3Worst (assoc [(0, ⟨spec_l3Worst_l0_h, spec_l3Worst_l0_o, spec_l3Worst_l0 N N⟩)]) true [(K_PiSPiiqq, false), (K_SSi, false), (I, false), (I, false)] [I] Try.f172.results.toList (bodyOf Try.f172) d = F_spec_l3Worst N d := by kernel_rfl
noncomputable def S_spec_l3Worst : FSig := ⟨[(K_PiSPiiqq, false), (K_SSi, false), (I, false), (I, false)], [I], true, (G_l3Worst)⟩
/-! ### spec.l3After -/
noncomputable def Γ_spec_l3After : Ctx := { tk := assoc tks, ar := assoc ars, fs := assoc [(172, S_spec_l3Worst)] }
noncomputable def F_spec_l3After (N : Nat) (d : (Int × (List (Int × Int × Unit)) × Unit) × List (List Int) × Int × Int × Unit) : Option (Int × Unit) :=
  let a0 : Int × (List (Int × Int × Unit)) × Unit := d.1
  let a1 : List (List Int) := d.2.1
  let a2 : Int := d.2.2.1
  let a3 : Int := d.2.2.2.1
  if (a2 == a3) = true then
    some ((0 : Int), ())
  else
    (G_l3Worst ((a0, (a1, (a2, (a3, ())))))).bind fun r1 =>
    some (r1.1, ())
theorem F_spec_l3After_ok (N : Nat) (d) : fnR Γ_spec_l3After (assoc []) true [(K_PiSPiiqq, false), (K_SSi, false), (I, false), (I, false)] [I] Try.f165.results.toList (bodyOf Try.f165) d = F_spec_l3After N d := by kernel_rfl
noncomputable def S_spec_l3After : FSig := ⟨[(K_PiSPiiqq, false), (K_SSi, false), (I, false), (I, false)], [I], true, (F_spec_l3After 0)⟩
/-! ### spec.l3Best -/
noncomputable def Γ_spec_l3Best : Ctx := { tk := assoc tks, ar := assoc ars, fs := assoc [(110, S_spec_l2Ball), (165, S_spec_l3After)] }
abbrev spec_l3Best_l0_H := List (List Int) × Int × (Int × (List (Int × Int × Unit)) × Unit) × Int × List Int × Int × Unit
abbrev spec_l3Best_l0_O := (Int × Unit) ⊕ Empty
def spec_l3Best_l0_h : Form := [(1, .v K_SSi), (3, .v I), (4, .box K_PiSPiiqq 0), (9, .v I), (10, .v K_Si), (11, .v I)]
def spec_l3Best_l0_o : Outs := [(.normal, [(9, .v I)])]
noncomputable def spec_l3Best_l0_r (N : Nat) (back : spec_l3Best_l0_H → Option spec_l3Best_l0_O) (d : spec_l3Best_l0_H) : Option spec_l3Best_l0_O :=
  let s1 : List (List Int) := d.1
  let s3 : Int := d.2.1
  let s4 : Int × (List (Int × Int × Unit)) × Unit := d.2.2.1
  let s9 : Int := d.2.2.2.1
  let s10 : List Int := d.2.2.2.2.1
  let s11 : Int := d.2.2.2.2.2.1
  if (decide (s11 < (List.length s10 : Int))) = true then
    if (idxIn s11 (List.length s10)) = true then
    ((F_spec_l3After 0) ((s4, (s1, (at_ I s10 s11.toNat, (s3, ())))))).bind fun r9 =>
    if (decide (r9.1 ≥ (0 : Int))) = true then
      if (decide (s9 < (0 : Int))) = true then
        let x10 : Int := IntKind.wrap .i64 (s11 + (1 : Int))
        back ((s1, (s3, (s4, (r9.1, (s10, (x10, ())))))))
      else
        if (decide (r9.1 < s9)) = true then
          let x11 : Int := IntKind.wrap .i64 (s11 + (1 : Int))
          back ((s1, (s3, (s4, (r9.1, (s10, (x11, ())))))))
        else
          let x12 : Int := IntKind.wrap .i64 (s11 + (1 : Int))
          back ((s1, (s3, (s4, (s9, (s10, (x12, ())))))))
    else
      let x13 : Int := IntKind.wrap .i64 (s11 + (1 : Int))
      back ((s1, (s3, (s4, (s9, (s10, (x13, ())))))))
    else none
  else
    some (.inl (s9, ()))
noncomputable def spec_l3Best_l0 (N : Nat) : Nat → spec_l3Best_l0_H → Option spec_l3Best_l0_O
  | 0, _ => none
  | k + 1, d => spec_l3Best_l0_r N (spec_l3Best_l0 N k) d
theorem spec_l3Best_l0_ok (N : Nat) (back) (d) : roundR Γ_spec_l3Best (assoc []) 0 spec_l3Best_l0_h spec_l3Best_l0_o (loopOf Try.f152 0) back d = spec_l3Best_l0_r N back d := by kernel_rfl
noncomputable def F_spec_l3Best (N : Nat) (d : (Int × (List (Int × Int × Unit)) × Unit) × List (List Int) × Int × Int × Unit) : Option (Int × Unit) :=
  let a0 : Int × (List (Int × Int × Unit)) × Unit := d.1
  let a1 : List (List Int) := d.2.1
  let a2 : Int := d.2.2.1
  let a3 : Int := d.2.2.2.1
  ((F_spec_l2Ball 0) ((a0, (a2, ())))).bind fun r1 =>
  (spec_l3Best_l0 N N ((a1, (a3, (a0, ((-1 : Int), (r1.1, ((0 : Int), ())))))))).bind fun o7 => match o7 with
  | .inl d8 =>
    some (d8.1, ())
theorem F_spec_l3Best_ok (N : Nat) (d) : fnR Γ_spec_l3Best (assoc [(0, ⟨spec_l3Best_l0_h, spec_l3Best_l0_o, spec_l3Best_l0 N N⟩)]) true [(K_PiSPiiqq, false), (K_SSi, false), (I, false), (I, false)] [I] Try.f152.results.toList (bodyOf Try.f152) d = F_spec_l3Best N d := by kernel_rfl
noncomputable def S_spec_l3Best : FSig := ⟨[(K_PiSPiiqq, false), (K_SSi, false), (I, false), (I, false)], [I], true, (G_l3Best)⟩
/-! ### spec.l3Times -/
noncomputable def Γ_spec_l3Times : Ctx := { tk := assoc tks, ar := assoc ars, fs := assoc [(124, S_spec_l1Own), (151, S_spec_l3Sign), (152, S_spec_l3Best)] }
abbrev spec_l3Times_l2_H := (Int × (List (Int × Int × Unit)) × Unit) × List (List Int) × Int × List Int × Int × Unit
abbrev spec_l3Times_l2_O := ((Int × (List (Int × Int × Unit)) × Unit) × List (List Int) × Int × List Int × Unit) ⊕ Empty
def spec_l3Times_l2_h : Form := [(1, .box K_PiSPiiqq 0), (3, .own K_SSi 100), (4, .v I), (5, .own K_Si 99), (6, .v I)]
def spec_l3Times_l2_o : Outs := [(.normal, [(1, .box K_PiSPiiqq 0), (3, .own K_SSi 100), (4, .v I), (5, .own K_Si 99)])]
noncomputable def spec_l3Times_l2_r (N : Nat) (back : spec_l3Times_l2_H → Option spec_l3Times_l2_O) (d : spec_l3Times_l2_H) : Option spec_l3Times_l2_O :=
  let s1 : Int × (List (Int × Int × Unit)) × Unit := d.1
  let s3 : List (List Int) := d.2.1
  let s4 : Int := d.2.2.1
  let s5 : List Int := d.2.2.2.1
  let s6 : Int := d.2.2.2.2.1
  if (decide (s6 < s1.1)) = true then
    let r27 : Int × Unit := g_spec_l3Sign (s4 == s6, ())
    if (decide (List.length s5 + List.length ([r27.1]) ≤ lim)) = true then
    let x28 : Int := IntKind.wrap .i64 (s6 + (1 : Int))
    back ((s1, (s3, (s4, (s5 ++ ([r27.1]), (x28, ()))))))
    else none
  else
    some (.inl ((s1, (s3, (s4, (s5, ()))))))
noncomputable def spec_l3Times_l2 (N : Nat) : Nat → spec_l3Times_l2_H → Option spec_l3Times_l2_O
  | 0, _ => none
  | k + 1, d => spec_l3Times_l2_r N (spec_l3Times_l2 N k) d
theorem spec_l3Times_l2_ok (N : Nat) (back) (d) : roundR Γ_spec_l3Times (assoc []) 2 spec_l3Times_l2_h spec_l3Times_l2_o (loopOf Try.f137 2) back d = spec_l3Times_l2_r N back d := by kernel_rfl
abbrev spec_l3Times_l0_H := (Int × (List (Int × Int × Unit)) × Unit) × List (List Int) × Int × Unit
abbrev spec_l3Times_l0_O := ((Int × (List (Int × Int × Unit)) × Unit) × List (List Int) × Unit) ⊕ Empty
def spec_l3Times_l0_h : Form := [(1, .box K_PiSPiiqq 0), (3, .own K_SSi 100), (4, .v I)]
def spec_l3Times_l0_o : Outs := [(.normal, [(1, .box K_PiSPiiqq 0), (3, .own K_SSi 100)])]
noncomputable def spec_l3Times_l0_r (N : Nat) (back : spec_l3Times_l0_H → Option spec_l3Times_l0_O) (d : spec_l3Times_l0_H) : Option spec_l3Times_l0_O :=
  let s1 : Int × (List (Int × Int × Unit)) × Unit := d.1
  let s3 : List (List Int) := d.2.1
  let s4 : Int := d.2.2.1
  if (decide (s4 < s1.1)) = true then
    (spec_l3Times_l2 N N ((s1, (s3, (s4, (([] : List Int), ((0 : Int), ()))))))).bind fun o24 => match o24 with
    | .inl d25 =>
      if (decide (List.length d25.2.1 + List.length ([d25.2.2.2.1]) ≤ lim)) = true then
      let x26 : Int := IntKind.wrap .i64 (d25.2.2.1 + (1 : Int))
      back ((d25.1, (d25.2.1 ++ ([d25.2.2.2.1]), (x26, ()))))
      else none
  else
    some (.inl ((s1, (s3, ()))))
noncomputable def spec_l3Times_l0 (N : Nat) : Nat → spec_l3Times_l0_H → Option spec_l3Times_l0_O
  | 0, _ => none
  | k + 1, d => spec_l3Times_l0_r N (spec_l3Times_l0 N k) d
theorem spec_l3Times_l0_ok (N : Nat) (back) (d) : roundR Γ_spec_l3Times (assoc [(2, ⟨spec_l3Times_l2_h, spec_l3Times_l2_o, spec_l3Times_l2 N N⟩)]) 0 spec_l3Times_l0_h spec_l3Times_l0_o (loopOf Try.f137 0) back d = spec_l3Times_l0_r N back d := by kernel_rfl
abbrev spec_l3Times_l8_H := (Int × (List (Int × Int × Unit)) × Unit) × List (List Int) × Bool × List (List Int) × Int × List Int × Int × Unit
abbrev spec_l3Times_l8_O := ((Int × (List (Int × Int × Unit)) × Unit) × List (List Int) × Bool × List (List Int) × Int × List Int × Unit) ⊕ Empty
def spec_l3Times_l8_h : Form := [(1, .box K_PiSPiiqq 0), (3, .own K_SSi 100), (7, .v .bool), (8, .own K_SSi 100), (9, .v I), (10, .own K_Si 99), (11, .v I)]
def spec_l3Times_l8_o : Outs := [(.normal, [(1, .box K_PiSPiiqq 0), (3, .own K_SSi 100), (7, .v .bool), (8, .own K_SSi 100), (9, .v I), (10, .own K_Si 99)])]
noncomputable def spec_l3Times_l8_r (N : Nat) (back : spec_l3Times_l8_H → Option spec_l3Times_l8_O) (d : spec_l3Times_l8_H) : Option spec_l3Times_l8_O :=
  let s1 : Int × (List (Int × Int × Unit)) × Unit := d.1
  let s3 : List (List Int) := d.2.1
  let s7 : Bool := d.2.2.1
  let s8 : List (List Int) := d.2.2.2.1
  let s9 : Int := d.2.2.2.2.1
  let s10 : List Int := d.2.2.2.2.2.1
  let s11 : Int := d.2.2.2.2.2.2.1
  if (decide (s11 < s1.1)) = true then
    (G_l3Best ((s1, (s3, (s9, (s11, ())))))).bind fun r51 =>
    if (idxIn s11 (List.length s10)) = true then
    if (decide (at_ I s10 s11.toNat < (0 : Int))) = true then
      if (decide (r51.1 ≥ (0 : Int))) = true then
        let x52 : Int := IntKind.wrap .i64 (r51.1 + (1 : Int))
        if (idxIn s11 (List.length s10)) = true then
        let x53 : Int := IntKind.wrap .i64 (s11 + (1 : Int))
        back ((s1, (s3, (true, (s8, (s9, (List.set s10 s11.toNat x52, (x53, ()))))))))
        else none
      else
        let x54 : Int := IntKind.wrap .i64 (s11 + (1 : Int))
        back ((s1, (s3, (s7, (s8, (s9, (s10, (x54, ()))))))))
    else
      let x55 : Int := IntKind.wrap .i64 (s11 + (1 : Int))
      back ((s1, (s3, (s7, (s8, (s9, (s10, (x55, ()))))))))
    else none
  else
    some (.inl ((s1, (s3, (s7, (s8, (s9, (s10, ()))))))))
noncomputable def spec_l3Times_l8 (N : Nat) : Nat → spec_l3Times_l8_H → Option spec_l3Times_l8_O
  | 0, _ => none
  | k + 1, d => spec_l3Times_l8_r N (spec_l3Times_l8 N k) d
theorem spec_l3Times_l8_ok (N : Nat) (back) (d) : roundR Γ_spec_l3Times (assoc []) 8 spec_l3Times_l8_h spec_l3Times_l8_o (loopOf Try.f137 8) back d = spec_l3Times_l8_r N back d := by kernel_rfl
abbrev spec_l3Times_l6_H := (Int × (List (Int × Int × Unit)) × Unit) × List (List Int) × Bool × List (List Int) × Int × Unit
abbrev spec_l3Times_l6_O := ((Int × (List (Int × Int × Unit)) × Unit) × Bool × List (List Int) × Unit) ⊕ Empty
def spec_l3Times_l6_h : Form := [(1, .box K_PiSPiiqq 0), (3, .own K_SSi 100), (7, .v .bool), (8, .own K_SSi 100), (9, .v I)]
def spec_l3Times_l6_o : Outs := [(.normal, [(1, .box K_PiSPiiqq 0), (7, .v .bool), (8, .own K_SSi 100)])]
noncomputable def spec_l3Times_l6_r (N : Nat) (back : spec_l3Times_l6_H → Option spec_l3Times_l6_O) (d : spec_l3Times_l6_H) : Option spec_l3Times_l6_O :=
  let s1 : Int × (List (Int × Int × Unit)) × Unit := d.1
  let s3 : List (List Int) := d.2.1
  let s7 : Bool := d.2.2.1
  let s8 : List (List Int) := d.2.2.2.1
  let s9 : Int := d.2.2.2.2.1
  if (decide (s9 < s1.1)) = true then
    if (idxIn s9 (List.length s3)) = true then
    ((F_spec_l1Own 0) (at_ K_Si s3 s9.toNat, ())).bind fun r41 =>
    (spec_l3Times_l8 N N ((s1, (s3, (s7, (s8, (s9, (r41.1, ((0 : Int), ()))))))))).bind fun o47 => match o47 with
    | .inl d48 =>
      if (decide (List.length d48.2.2.2.1 + List.length ([d48.2.2.2.2.2.1]) ≤ lim)) = true then
      let x49 : List (List Int) := d48.2.2.2.1 ++ ([d48.2.2.2.2.2.1])
      let x50 : Int := IntKind.wrap .i64 (d48.2.2.2.2.1 + (1 : Int))
      back ((d48.1, (d48.2.1, (d48.2.2.1, (x49, (x50, ()))))))
      else none
    else none
  else
    some (.inl ((s1, (s7, (s8, ())))))
noncomputable def spec_l3Times_l6 (N : Nat) : Nat → spec_l3Times_l6_H → Option spec_l3Times_l6_O
  | 0, _ => none
  | k + 1, d => spec_l3Times_l6_r N (spec_l3Times_l6 N k) d
theorem spec_l3Times_l6_ok (N : Nat) (back) (d) : roundR Γ_spec_l3Times (assoc [(8, ⟨spec_l3Times_l8_h, spec_l3Times_l8_o, spec_l3Times_l8 N N⟩)]) 6 spec_l3Times_l6_h spec_l3Times_l6_o (loopOf Try.f137 6) back d = spec_l3Times_l6_r N back d := by kernel_rfl
abbrev spec_l3Times_l4_H := (Int × (List (Int × Int × Unit)) × Unit) × List (List Int) × Bool × Unit
abbrev spec_l3Times_l4_O := (List (List Int) × Unit) ⊕ Empty
def spec_l3Times_l4_h : Form := [(1, .box K_PiSPiiqq 0), (3, .own K_SSi 100), (7, .v .bool)]
def spec_l3Times_l4_o : Outs := [(.normal, [(3, .own K_SSi 100)])]
noncomputable def spec_l3Times_l4_r (N : Nat) (back : spec_l3Times_l4_H → Option spec_l3Times_l4_O) (d : spec_l3Times_l4_H) : Option spec_l3Times_l4_O :=
  let s1 : Int × (List (Int × Int × Unit)) × Unit := d.1
  let s3 : List (List Int) := d.2.1
  let s7 : Bool := d.2.2.1
  if (s7) = true then
    (spec_l3Times_l6 N N ((s1, (s3, (false, (([] : List (List Int)), ((0 : Int), ()))))))).bind fun o39 => match o39 with
    | .inl d40 =>
      back ((d40.1, (d40.2.2.1, (d40.2.1, ()))))
  else
    some (.inl (s3, ()))
noncomputable def spec_l3Times_l4 (N : Nat) : Nat → spec_l3Times_l4_H → Option spec_l3Times_l4_O
  | 0, _ => none
  | k + 1, d => spec_l3Times_l4_r N (spec_l3Times_l4 N k) d
theorem spec_l3Times_l4_ok (N : Nat) (back) (d) : roundR Γ_spec_l3Times (assoc [(6, ⟨spec_l3Times_l6_h, spec_l3Times_l6_o, spec_l3Times_l6 N N⟩)]) 4 spec_l3Times_l4_h spec_l3Times_l4_o (loopOf Try.f137 4) back d = spec_l3Times_l4_r N back d := by kernel_rfl
noncomputable def F_spec_l3Times (N : Nat) (d : (Int × (List (Int × Int × Unit)) × Unit) × Unit) : Option (List (List Int) × Unit) :=
  let a0 : Int × (List (Int × Int × Unit)) × Unit := d.1
  (spec_l3Times_l0 N N ((a0, (([] : List (List Int)), ((0 : Int), ()))))).bind fun o6 => match o6 with
  | .inl d7 =>
    (spec_l3Times_l4 N N ((d7.1, (d7.2.1, (true, ()))))).bind fun o20 => match o20 with
    | .inl d21 =>
      some (d21.1, ())
theorem F_spec_l3Times_ok (N : Nat) (d) : fnR Γ_spec_l3Times (assoc [(0, ⟨spec_l3Times_l0_h, spec_l3Times_l0_o, spec_l3Times_l0 N N⟩), (4, ⟨spec_l3Times_l4_h, spec_l3Times_l4_o, spec_l3Times_l4 N N⟩)]) true [(K_PiSPiiqq, false)] [K_SSi] Try.f137.results.toList (bodyOf Try.f137) d = F_spec_l3Times N d := by kernel_rfl
noncomputable def S_spec_l3Times : FSig := ⟨[(K_PiSPiiqq, false)], [K_SSi], true, (G_l3Times)⟩
/-! ### spec.l12Time -/
noncomputable def Γ_spec_l12Time : Ctx := { tk := assoc tks, ar := assoc ars, fs := assoc [(137, S_spec_l3Times)] }
noncomputable def F_spec_l12Time (N : Nat) (d : ((Int × (List (Int × Int × Unit)) × Unit) × Int × Int × List Int × Int × Unit) × Unit) : Option (Int × Bool × Unit) :=
  let a0 : (Int × (List (Int × Int × Unit)) × Unit) × Int × Int × List Int × Int × Unit := d.1
  if (decide (a0.2.1 < (0 : Int))) = true then
    some (((0 : Int), (false, ())))
  else
    if (decide (a0.2.2.1 < (0 : Int))) = true then
      some (((0 : Int), (false, ())))
    else
      (G_l3Times (a0.1, ())).bind fun r1 =>
      if (idxIn a0.2.1 (List.length r1.1)) = true then
      if (idxIn a0.2.2.1 (List.length (at_ K_Si r1.1 a0.2.1.toNat))) = true then
      some ((at_ I (at_ K_Si r1.1 a0.2.1.toNat) a0.2.2.1.toNat, (true, ())))
      else none
      else none
theorem F_spec_l12Time_ok (N : Nat) (d) : fnR Γ_spec_l12Time (assoc []) true [(K_PPiSPiiqqiiSiiq, false)] [I, .bool] Try.f107.results.toList (bodyOf Try.f107) d = F_spec_l12Time N d := by kernel_rfl
noncomputable def S_spec_l12Time : FSig := ⟨[(K_PPiSPiiqqiiSiiq, false)], [I, .bool], true, (F_spec_l12Time 0)⟩
/-! ### spec.ChaseTime -/
noncomputable def Γ_spec_ChaseTime : Ctx := { tk := assoc tks, ar := assoc ars, fs := assoc [(69, S_spec_l12Good), (107, S_spec_l12Time)] }
noncomputable def F_spec_ChaseTime (N : Nat) (d : ((Int × (List (Int × Int × Unit)) × Unit) × Int × Int × List Int × Int × Unit) × Unit) : Option (Int × Bool × Unit) :=
  let a0 : (Int × (List (Int × Int × Unit)) × Unit) × Int × Int × List Int × Int × Unit := d.1
  ((F_spec_l12Good 0) (a0, ())).bind fun r1 =>
  if (!r1.1) = true then
    some (((0 : Int), (false, ())))
  else
    ((F_spec_l12Time 0) (a0, ())).bind fun r2 =>
    some ((r2.1, (r2.2.1, ())))
theorem F_spec_ChaseTime_ok (N : Nat) (d) : fnR Γ_spec_ChaseTime (assoc []) true [(K_PPiSPiiqqiiSiiq, false)] [I, .bool] Try.f56.results.toList (bodyOf Try.f56) d = F_spec_ChaseTime N d := by kernel_rfl
noncomputable def S_spec_ChaseTime : FSig := ⟨[(K_PPiSPiiqqiiSiiq, false)], [I, .bool], true, (F_spec_ChaseTime 0)⟩
def S_slices_Repeat_Sint_int : FSig := ⟨[(K_Si, false), (I, false)], [K_Si], true, G_repeat⟩
/-! ### (impl.net).timeAfter -/
noncomputable def Γ_impl_net_timeAfter : Ctx := { tk := assoc tks, ar := assoc ars, fs := assoc [(106, S_impl_setOf), (111, S_impl_net_closed)] }
abbrev impl_net_timeAfter_l0_H := List Int × Int × List Int × Int × Int × Unit
abbrev impl_net_timeAfter_l0_O := (Int × Unit) ⊕ (Int × Unit) ⊕ Empty
def impl_net_timeAfter_l0_h : Form := [(1, .v K_Si), (7, .v I), (13, .own K_Si 99), (14, .v I), (15, .v I)]
def impl_net_timeAfter_l0_o : Outs := [(.ret, [(6, .v I)]), (.normal, [(7, .v I)])]
noncomputable def impl_net_timeAfter_l0_r (N : Nat) (back : impl_net_timeAfter_l0_H → Option impl_net_timeAfter_l0_O) (d : impl_net_timeAfter_l0_H) : Option impl_net_timeAfter_l0_O :=
  let s1 : List Int := d.1
  let s7 : Int := d.2.1
  let s13 : List Int := d.2.2.1
  let s14 : Int := d.2.2.2.1
  let s15 : Int := d.2.2.2.2.1
  if (decide (s15 < s14)) = true then
    if (idxIn s15 (List.length s13)) = true then
    if (idxIn (at_ I s13 s15.toNat) (List.length s1)) = true then
    if (decide (at_ I s1 (at_ I s13 s15.toNat).toNat < (0 : Int))) = true then
      some (.inl ((-1 : Int), ()))
    else
      if (idxIn (at_ I s13 s15.toNat) (List.length s1)) = true then
      let x8 : Int := if s7 < at_ I s1 (at_ I s13 s15.toNat).toNat then at_ I s1 (at_ I s13 s15.toNat).toNat else s7
      let x9 : Int := IntKind.wrap .i64 (s15 + (1 : Int))
      back ((s1, (x8, (s13, (s14, (x9, ()))))))
      else none
    else none
    else none
  else
    some (.inr (.inl (s7, ())))
noncomputable def impl_net_timeAfter_l0 (N : Nat) : Nat → impl_net_timeAfter_l0_H → Option impl_net_timeAfter_l0_O
  | 0, _ => none
  | k + 1, d => impl_net_timeAfter_l0_r N (impl_net_timeAfter_l0 N k) d
theorem impl_net_timeAfter_l0_ok (N : Nat) (back) (d) : roundR Γ_impl_net_timeAfter (assoc []) 0 impl_net_timeAfter_l0_h impl_net_timeAfter_l0_o (loopOf Try.f155 0) back d = impl_net_timeAfter_l0_r N back d := by kernel_rfl
noncomputable def F_impl_net_timeAfter (N : Nat) (d : (List Int × Unit) × List Int × Int × Unit) : Option (Int × Unit) :=
  let a0 : List Int × Unit := d.1
  let a1 : List Int := d.2.1
  let a2 : Int := d.2.2.1
  ((F_impl_net_closed 0) ((a0, (a2, ())))).bind fun r1 =>
  (G_setOf (r1.1, ())).bind fun r2 =>
  (impl_net_timeAfter_l0 N N ((a1, ((0 : Int), (r2.1, ((List.length r2.1 : Int), ((0 : Int), ()))))))).bind fun o5 => match o5 with
  | .inl d6 =>
    some (d6.1, ())
  | .inr (.inl d7) =>
    some (d7.1, ())
theorem F_impl_net_timeAfter_ok (N : Nat) (d) : fnR Γ_impl_net_timeAfter (assoc [(0, ⟨impl_net_timeAfter_l0_h, impl_net_timeAfter_l0_o, impl_net_timeAfter_l0 N N⟩)]) true [(K_PSiq, false), (K_Si, false), (I, false)] [I] Try.f155.results.toList (bodyOf Try.f155) d = F_impl_net_timeAfter N d := by kernel_rfl
noncomputable def S_impl_net_timeAfter : FSig := ⟨[(K_PSiq, false), (K_Si, false), (I, false)], [I], true, (G_timeAfter)⟩
/-! ### (impl.net).copCan$1 -/
noncomputable def Γ_impl_net_copCan_1 : Ctx := { tk := assoc tks, ar := assoc ars, fs := assoc [(155, S_impl_net_timeAfter)] }
noncomputable def F_impl_net_copCan_1 (N : Nat) (d : Int × Int × (List Int × Unit) × List (List Int) × Unit) : Option (Bool × Unit) :=
  let a0 : Int := d.1
  let a1 : Int := d.2.1
  let a2 : List Int × Unit := d.2.2.1
  let a3 : List (List Int) := d.2.2.2.1
  if (a0 == a1) = true then
    some (true, ())
  else
    if (idxIn a0 (List.length a3)) = true then
    (G_timeAfter ((a2, (at_ K_Si a3 a0.toNat, (a1, ()))))).bind fun r1 =>
    some ((decide (r1.1 ≥ (0 : Int)), ()))
    else none
theorem F_impl_net_copCan_1_ok (N : Nat) (d) : fnR Γ_impl_net_copCan_1 (assoc []) true [(I, false), (K_Bi, false), (K_BPSiq, false), (K_BSSi, false)] [.bool] Try.f154.results.toList (bodyOf Try.f154) d = F_impl_net_copCan_1 N d := by kernel_rfl
noncomputable def S_impl_net_copCan_1 : FSig := ⟨[(I, false), (K_Bi, false), (K_BPSiq, false), (K_BSSi, false)], [.bool], true, (F_impl_net_copCan_1 0)⟩
noncomputable def FV_impl_net_copCan_1 (d : Int × (Unit × Int × (List Int × Unit) × List (List Int) × Unit) × Unit) : Option (Bool × Unit) := (F_impl_net_copCan_1 0) (d.1, d.2.1.2)
noncomputable def SV_impl_net_copCan_1 : FSig := ⟨[(I, false), (K_F154qPBiBPSiqBSSiq, false)], [.bool], true, FV_impl_net_copCan_1⟩
/-! ### slices.IndexFunc[[]int,int] -/
noncomputable def Γ_slices_IndexFunc_Sint_int_f154 : Ctx := { tk := assoc tks, ar := assoc ars, fs := assoc [], cs := assoc [(154, SV_impl_net_copCan_1)] }
abbrev slices_IndexFunc_Sint_int_f154_l0_H := List Int × (Unit × Int × (List Int × Unit) × List (List Int) × Unit) × Int × Int × Unit
abbrev slices_IndexFunc_Sint_int_f154_l0_O := (Int × Unit) ⊕ Unit ⊕ Empty
def slices_IndexFunc_Sint_int_f154_l0_h : Form := [(0, .v K_Si), (1, .v K_F154qPBiBPSiqBSSiq), (7, .v I), (8, .v I)]
def slices_IndexFunc_Sint_int_f154_l0_o : Outs := [(.ret, [(4, .v I)]), (.normal, [])]
noncomputable def slices_IndexFunc_Sint_int_f154_l0_r (N : Nat) (back : slices_IndexFunc_Sint_int_f154_l0_H → Option slices_IndexFunc_Sint_int_f154_l0_O) (d : slices_IndexFunc_Sint_int_f154_l0_H) : Option slices_IndexFunc_Sint_int_f154_l0_O :=
  let s0 : List Int := d.1
  let s1 : Unit × Int × (List Int × Unit) × List (List Int) × Unit := d.2.1
  let s7 : Int := d.2.2.1
  let s8 : Int := d.2.2.2.1
  if (decide (s8 < s7)) = true then
    if (idxIn s8 (List.length s0)) = true then
    (FV_impl_net_copCan_1 ((at_ I s0 s8.toNat, (s1, ())))).bind fun r6 =>
    if (r6.1) = true then
      some (.inl (s8, ()))
    else
      let x7 : Int := IntKind.wrap .i64 (s8 + (1 : Int))
      back ((s0, (s1, (s7, (x7, ())))))
    else none
  else
    some (.inr (.inl ()))
noncomputable def slices_IndexFunc_Sint_int_f154_l0 (N : Nat) : Nat → slices_IndexFunc_Sint_int_f154_l0_H → Option slices_IndexFunc_Sint_int_f154_l0_O
  | 0, _ => none
  | k + 1, d => slices_IndexFunc_Sint_int_f154_l0_r N (slices_IndexFunc_Sint_int_f154_l0 N k) d
theorem slices_IndexFunc_Sint_int_f154_l0_ok (N : Nat) (back) (d) : roundR Γ_slices_IndexFunc_Sint_int_f154 (assoc []) 0 slices_IndexFunc_Sint_int_f154_l0_h slices_IndexFunc_Sint_int_f154_l0_o (loopOf Try.f158 0) back d = slices_IndexFunc_Sint_int_f154_l0_r N back d := by kernel_rfl
noncomputable def F_slices_IndexFunc_Sint_int_f154 (N : Nat) (d : List Int × (Unit × Int × (List Int × Unit) × List (List Int) × Unit) × Unit) : Option (Int × Unit) :=
  let a0 : List Int := d.1
  let a1 : Unit × Int × (List Int × Unit) × List (List Int) × Unit := d.2.1
  (slices_IndexFunc_Sint_int_f154_l0 N N ((a0, (a1, ((List.length a0 : Int), ((0 : Int), ())))))).bind fun o3 => match o3 with
  | .inl d4 =>
    some (d4.1, ())
  | .inr (.inl d5) =>
    some ((-1 : Int), ())
theorem F_slices_IndexFunc_Sint_int_f154_ok (N : Nat) (d) : fnR Γ_slices_IndexFunc_Sint_int_f154 (assoc [(0, ⟨slices_IndexFunc_Sint_int_f154_l0_h, slices_IndexFunc_Sint_int_f154_l0_o, slices_IndexFunc_Sint_int_f154_l0 N N⟩)]) true [(K_Si, false), (K_F154qPBiBPSiqBSSiq, false)] [I] Try.f158.results.toList (bodyOf Try.f158) d = F_slices_IndexFunc_Sint_int_f154 N d := by kernel_rfl
noncomputable def S_slices_IndexFunc_Sint_int_f154 : FSig := ⟨[(K_Si, false), (K_F154qPBiBPSiqBSSiq, false)], [I], true, (G_index154)⟩
/-! ### slices.ContainsFunc[[]int,int] -/
noncomputable def Γ_slices_ContainsFunc_Sint_int_f154 : Ctx := { tk := assoc tks, ar := assoc ars, fs := assoc [(158, S_slices_IndexFunc_Sint_int_f154)] }
noncomputable def F_slices_ContainsFunc_Sint_int_f154 (N : Nat) (d : List Int × (Unit × Int × (List Int × Unit) × List (List Int) × Unit) × Unit) : Option (Bool × Unit) :=
  let a0 : List Int := d.1
  let a1 : Unit × Int × (List Int × Unit) × List (List Int) × Unit := d.2.1
  (G_index154 ((a0, (a1, ())))).bind fun r1 =>
  some ((decide (r1.1 ≥ (0 : Int)), ()))
theorem F_slices_ContainsFunc_Sint_int_f154_ok (N : Nat) (d) : fnR Γ_slices_ContainsFunc_Sint_int_f154 (assoc []) true [(K_Si, false), (K_F154qPBiBPSiqBSSiq, false)] [.bool] Try.f143.results.toList (bodyOf Try.f143) d = F_slices_ContainsFunc_Sint_int_f154 N d := by kernel_rfl
noncomputable def S_slices_ContainsFunc_Sint_int_f154 : FSig := ⟨[(K_Si, false), (K_F154qPBiBPSiqBSSiq, false)], [.bool], true, (F_slices_ContainsFunc_Sint_int_f154 0)⟩
/-! ### (impl.net).copCan -/
noncomputable def Γ_impl_net_copCan : Ctx := { tk := assoc tks, ar := assoc ars, fs := assoc [(106, S_impl_setOf), (111, S_impl_net_closed), (143, S_slices_ContainsFunc_Sint_int_f154)], cs := assoc [], fz := fun t => Nat.beq t 4 || Nat.beq t 5 || Nat.beq t 7 }
noncomputable def F_impl_net_copCan (N : Nat) (d : (List Int × Unit) × List (List Int) × Int × Int × Unit) : Option (Bool × Unit) :=
  let a0 : List Int × Unit := d.1
  let a1 : List (List Int) := d.2.1
  let a2 : Int := d.2.2.1
  let a3 : Int := d.2.2.2.1
  ((F_impl_net_closed 0) ((a0, (a2, ())))).bind fun r1 =>
  (G_setOf (r1.1, ())).bind fun r2 =>
  ((F_slices_ContainsFunc_Sint_int_f154 0) ((r2.1, (((), (a3, (a0, (a1, ())))), ())))).bind fun r3 =>
  some (r3.1, ())
theorem F_impl_net_copCan_ok (N : Nat) (d) : fnR Γ_impl_net_copCan (assoc []) true [(K_PSiq, false), (K_SSi, false), (I, false), (I, false)] [.bool] Try.f139.results.toList (bodyOf Try.f139) d = F_impl_net_copCan N d := by kernel_rfl
noncomputable def S_impl_net_copCan : FSig := ⟨[(K_PSiq, false), (K_SSi, false), (I, false), (I, false)], [.bool], true, (F_impl_net_copCan 0)⟩
/-! ### (impl.net).copTimes -/
noncomputable def Γ_impl_net_copTimes : Ctx := { tk := assoc tks, ar := assoc ars, fs := assoc [(134, S_impl_net_size), (138, S_slices_Repeat_Sint_int), (139, S_impl_net_copCan)] }
abbrev impl_net_copTimes_l0_H := (List Int × Unit) × Int × List (List Int) × Int × Int × Unit
abbrev impl_net_copTimes_l0_O := ((List Int × Unit) × Int × List (List Int) × Unit) ⊕ Empty
def impl_net_copTimes_l0_h : Form := [(1, .box K_PSiq 0), (3, .v I), (4, .own K_SSi 99), (18, .v I), (19, .v I)]
def impl_net_copTimes_l0_o : Outs := [(.normal, [(1, .box K_PSiq 0), (3, .v I), (4, .own K_SSi 99)])]
noncomputable def impl_net_copTimes_l0_r (N : Nat) (back : impl_net_copTimes_l0_H → Option impl_net_copTimes_l0_O) (d : impl_net_copTimes_l0_H) : Option impl_net_copTimes_l0_O :=
  let s1 : List Int × Unit := d.1
  let s3 : Int := d.2.1
  let s4 : List (List Int) := d.2.2.1
  let s18 : Int := d.2.2.2.1
  let s19 : Int := d.2.2.2.2.1
  if (decide (s19 < s18)) = true then
    (G_repeat (([(-1 : Int)], (s3, ())))).bind fun r24 =>
    if (idxIn s19 (List.length s4)) = true then
    if (idxIn s19 (List.length (List.set s4 s19.toNat r24.1))) = true then
    if (idxIn s19 (List.length (at_ K_Si (List.set s4 s19.toNat r24.1) s19.toNat))) = true then
    let x25 : List (List Int) := List.set (List.set s4 s19.toNat r24.1) s19.toNat (List.set (at_ K_Si (List.set s4 s19.toNat r24.1) s19.toNat) s19.toNat (0 : Int))
    let x26 : Int := IntKind.wrap .i64 (s19 + (1 : Int))
    back ((s1, (s3, (x25, (s18, (x26, ()))))))
    else none
    else none
    else none
  else
    some (.inl ((s1, (s3, (s4, ())))))
noncomputable def impl_net_copTimes_l0 (N : Nat) : Nat → impl_net_copTimes_l0_H → Option impl_net_copTimes_l0_O
  | 0, _ => none
  | k + 1, d => impl_net_copTimes_l0_r N (impl_net_copTimes_l0 N k) d
theorem impl_net_copTimes_l0_ok (N : Nat) (back) (d) : roundR Γ_impl_net_copTimes (assoc []) 0 impl_net_copTimes_l0_h impl_net_copTimes_l0_o (loopOf Try.f109 0) back d = impl_net_copTimes_l0_r N back d := by kernel_rfl
abbrev impl_net_copTimes_l6_H := (List Int × Unit) × Int × List (List Int) × Int × Bool × (List (Int × Int × Unit)) × Int × Int × Int × Int × Int × Unit
abbrev impl_net_copTimes_l6_O := ((List Int × Unit) × Int × List (List Int) × Int × Bool × (List (Int × Int × Unit)) × Int × Int × Unit) ⊕ Empty
def impl_net_copTimes_l6_h : Form := [(1, .box K_PSiq 0), (3, .v I), (4, .own K_SSi 99), (6, .v I), (7, .v .bool), (8, .own K_SPiiq 99), (9, .v I), (38, .v I), (39, .v I), (42, .v I), (43, .v I)]
def impl_net_copTimes_l6_o : Outs := [(.normal, [(1, .box K_PSiq 0), (3, .v I), (4, .own K_SSi 99), (6, .v I), (7, .v .bool), (8, .own K_SPiiq 99), (38, .v I), (39, .v I)])]
noncomputable def impl_net_copTimes_l6_r (N : Nat) (back : impl_net_copTimes_l6_H → Option impl_net_copTimes_l6_O) (d : impl_net_copTimes_l6_H) : Option impl_net_copTimes_l6_O :=
  let s1 : List Int × Unit := d.1
  let s3 : Int := d.2.1
  let s4 : List (List Int) := d.2.2.1
  let s6 : Int := d.2.2.2.1
  let s7 : Bool := d.2.2.2.2.1
  let s8 : List (Int × Int × Unit) := d.2.2.2.2.2.1
  let s9 : Int := d.2.2.2.2.2.2.1
  let s38 : Int := d.2.2.2.2.2.2.2.1
  let s39 : Int := d.2.2.2.2.2.2.2.2.1
  let s42 : Int := d.2.2.2.2.2.2.2.2.2.1
  let s43 : Int := d.2.2.2.2.2.2.2.2.2.2.1
  if (decide (s43 < s42)) = true then
    if (idxIn s9 (List.length s4)) = true then
    if (idxIn s43 (List.length (at_ K_Si s4 s9.toNat))) = true then
    if (decide (at_ I (at_ K_Si s4 s9.toNat) s43.toNat < (0 : Int))) = true then
      ((F_impl_net_copCan 0) ((s1, (s4, (s9, (s43, ())))))).bind fun r48 =>
      if (r48.1) = true then
        if (decide (List.length s8 + List.length ([(s9, (s43, ()))]) ≤ lim)) = true then
        let x49 : Int := IntKind.wrap .i64 (s43 + (1 : Int))
        back ((s1, (s3, (s4, (s6, (s7, (s8 ++ ([(s9, (s43, ()))]), (s9, (s38, (s39, (s42, (x49, ()))))))))))))
        else none
      else
        let x50 : Int := IntKind.wrap .i64 (s43 + (1 : Int))
        back ((s1, (s3, (s4, (s6, (s7, (s8, (s9, (s38, (s39, (s42, (x50, ()))))))))))))
    else
      let x51 : Int := IntKind.wrap .i64 (s43 + (1 : Int))
      back ((s1, (s3, (s4, (s6, (s7, (s8, (s9, (s38, (s39, (s42, (x51, ()))))))))))))
    else none
    else none
  else
    some (.inl ((s1, (s3, (s4, (s6, (s7, (s8, (s38, (s39, ()))))))))))
noncomputable def impl_net_copTimes_l6 (N : Nat) : Nat → impl_net_copTimes_l6_H → Option impl_net_copTimes_l6_O
  | 0, _ => none
  | k + 1, d => impl_net_copTimes_l6_r N (impl_net_copTimes_l6 N k) d
theorem impl_net_copTimes_l6_ok (N : Nat) (back) (d) : roundR Γ_impl_net_copTimes (assoc []) 6 impl_net_copTimes_l6_h impl_net_copTimes_l6_o (loopOf Try.f109 6) back d = impl_net_copTimes_l6_r N back d := by kernel_rfl
abbrev impl_net_copTimes_l4_H := (List Int × Unit) × Int × List (List Int) × Int × Bool × (List (Int × Int × Unit)) × Int × Int × Unit
abbrev impl_net_copTimes_l4_O := ((List Int × Unit) × Int × List (List Int) × Int × Bool × (List (Int × Int × Unit)) × Unit) ⊕ Empty
def impl_net_copTimes_l4_h : Form := [(1, .box K_PSiq 0), (3, .v I), (4, .own K_SSi 99), (6, .v I), (7, .v .bool), (8, .own K_SPiiq 99), (38, .v I), (39, .v I)]
def impl_net_copTimes_l4_o : Outs := [(.normal, [(1, .box K_PSiq 0), (3, .v I), (4, .own K_SSi 99), (6, .v I), (7, .v .bool), (8, .own K_SPiiq 99)])]
noncomputable def impl_net_copTimes_l4_r (N : Nat) (back : impl_net_copTimes_l4_H → Option impl_net_copTimes_l4_O) (d : impl_net_copTimes_l4_H) : Option impl_net_copTimes_l4_O :=
  let s1 : List Int × Unit := d.1
  let s3 : Int := d.2.1
  let s4 : List (List Int) := d.2.2.1
  let s6 : Int := d.2.2.2.1
  let s7 : Bool := d.2.2.2.2.1
  let s8 : List (Int × Int × Unit) := d.2.2.2.2.2.1
  let s38 : Int := d.2.2.2.2.2.2.1
  let s39 : Int := d.2.2.2.2.2.2.2.1
  if (decide (s39 < s38)) = true then
    (impl_net_copTimes_l6 N N ((s1, (s3, (s4, (s6, (s7, (s8, (s39, (s38, (s39, (s3, ((0 : Int), ()))))))))))))).bind fun o45 => match o45 with
    | .inl d46 =>
      let x47 : Int := IntKind.wrap .i64 (d46.2.2.2.2.2.2.2.1 + (1 : Int))
      back ((d46.1, (d46.2.1, (d46.2.2.1, (d46.2.2.2.1, (d46.2.2.2.2.1, (d46.2.2.2.2.2.1, (d46.2.2.2.2.2.2.1, (x47, ())))))))))
  else
    some (.inl ((s1, (s3, (s4, (s6, (s7, (s8, ()))))))))
noncomputable def impl_net_copTimes_l4 (N : Nat) : Nat → impl_net_copTimes_l4_H → Option impl_net_copTimes_l4_O
  | 0, _ => none
  | k + 1, d => impl_net_copTimes_l4_r N (impl_net_copTimes_l4 N k) d
theorem impl_net_copTimes_l4_ok (N : Nat) (back) (d) : roundR Γ_impl_net_copTimes (assoc [(6, ⟨impl_net_copTimes_l6_h, impl_net_copTimes_l6_o, impl_net_copTimes_l6 N N⟩)]) 4 impl_net_copTimes_l4_h impl_net_copTimes_l4_o (loopOf Try.f109 4) back d = impl_net_copTimes_l4_r N back d := by kernel_rfl
abbrev impl_net_copTimes_l8_H := (List Int × Unit) × Int × List (List Int) × Int × Bool × (List (Int × Int × Unit)) × Int × Int × Unit
abbrev impl_net_copTimes_l8_O := ((List Int × Unit) × Int × List (List Int) × Int × Bool × Unit) ⊕ Empty
def impl_net_copTimes_l8_h : Form := [(1, .box K_PSiq 0), (3, .v I), (4, .own K_SSi 99), (6, .v I), (7, .v .bool), (69, .own K_SPiiq 99), (70, .v I), (71, .v I)]
def impl_net_copTimes_l8_o : Outs := [(.normal, [(1, .box K_PSiq 0), (3, .v I), (4, .own K_SSi 99), (6, .v I), (7, .v .bool)])]
noncomputable def impl_net_copTimes_l8_r (N : Nat) (back : impl_net_copTimes_l8_H → Option impl_net_copTimes_l8_O) (d : impl_net_copTimes_l8_H) : Option impl_net_copTimes_l8_O :=
  let s1 : List Int × Unit := d.1
  let s3 : Int := d.2.1
  let s4 : List (List Int) := d.2.2.1
  let s6 : Int := d.2.2.2.1
  let s7 : Bool := d.2.2.2.2.1
  let s69 : List (Int × Int × Unit) := d.2.2.2.2.2.1
  let s70 : Int := d.2.2.2.2.2.2.1
  let s71 : Int := d.2.2.2.2.2.2.2.1
  if (decide (s71 < s70)) = true then
    if (idxIn s71 (List.length s69)) = true then
    if (idxIn (at_ K_Piiq s69 s71.toNat).1 (List.length s4)) = true then
    if (idxIn (at_ K_Piiq s69 s71.toNat).2.1 (List.length (at_ K_Si s4 (at_ K_Piiq s69 s71.toNat).1.toNat))) = true then
    let x52 : List (List Int) := List.set s4 (at_ K_Piiq s69 s71.toNat).1.toNat (List.set (at_ K_Si s4 (at_ K_Piiq s69 s71.toNat).1.toNat) (at_ K_Piiq s69 s71.toNat).2.1.toNat s6)
    let x53 : Int := IntKind.wrap .i64 (s71 + (1 : Int))
    back ((s1, (s3, (x52, (s6, (true, (s69, (s70, (x53, ())))))))))
    else none
    else none
    else none
  else
    some (.inl ((s1, (s3, (s4, (s6, (s7, ())))))))
noncomputable def impl_net_copTimes_l8 (N : Nat) : Nat → impl_net_copTimes_l8_H → Option impl_net_copTimes_l8_O
  | 0, _ => none
  | k + 1, d => impl_net_copTimes_l8_r N (impl_net_copTimes_l8 N k) d
theorem impl_net_copTimes_l8_ok (N : Nat) (back) (d) : roundR Γ_impl_net_copTimes (assoc []) 8 impl_net_copTimes_l8_h impl_net_copTimes_l8_o (loopOf Try.f109 8) back d = impl_net_copTimes_l8_r N back d := by kernel_rfl
abbrev impl_net_copTimes_l2_H := (List Int × Unit) × Int × List (List Int) × Int × Bool × Unit
abbrev impl_net_copTimes_l2_O := (List (List Int) × Unit) ⊕ Empty
def impl_net_copTimes_l2_h : Form := [(1, .box K_PSiq 0), (3, .v I), (4, .own K_SSi 99), (6, .v I), (7, .v .bool)]
def impl_net_copTimes_l2_o : Outs := [(.normal, [(4, .own K_SSi 99)])]
noncomputable def impl_net_copTimes_l2_r (N : Nat) (back : impl_net_copTimes_l2_H → Option impl_net_copTimes_l2_O) (d : impl_net_copTimes_l2_H) : Option impl_net_copTimes_l2_O :=
  let s1 : List Int × Unit := d.1
  let s3 : Int := d.2.1
  let s4 : List (List Int) := d.2.2.1
  let s6 : Int := d.2.2.2.1
  let s7 : Bool := d.2.2.2.2.1
  if (s7) = true then
    (impl_net_copTimes_l4 N N ((s1, (s3, (s4, (s6, (false, (([] : List (Int × Int × Unit)), (s3, ((0 : Int), ())))))))))).bind fun o34 => match o34 with
    | .inl d35 =>
      (impl_net_copTimes_l8 N N ((d35.1, (d35.2.1, (d35.2.2.1, (d35.2.2.2.1, (d35.2.2.2.2.1, (d35.2.2.2.2.2.1, ((List.length d35.2.2.2.2.2.1 : Int), ((0 : Int), ())))))))))).bind fun o38 => match o38 with
      | .inl d39 =>
        let x40 : Int := IntKind.wrap .i64 (d39.2.2.2.1 + (1 : Int))
        back ((d39.1, (d39.2.1, (d39.2.2.1, (x40, (d39.2.2.2.2.1, ()))))))
  else
    some (.inl (s4, ()))
noncomputable def impl_net_copTimes_l2 (N : Nat) : Nat → impl_net_copTimes_l2_H → Option impl_net_copTimes_l2_O
  | 0, _ => none
  | k + 1, d => impl_net_copTimes_l2_r N (impl_net_copTimes_l2 N k) d
theorem impl_net_copTimes_l2_ok (N : Nat) (back) (d) : roundR Γ_impl_net_copTimes (assoc [(4, ⟨impl_net_copTimes_l4_h, impl_net_copTimes_l4_o, impl_net_copTimes_l4 N N⟩), (8, ⟨impl_net_copTimes_l8_h, impl_net_copTimes_l8_o, impl_net_copTimes_l8 N N⟩)]) 2 impl_net_copTimes_l2_h impl_net_copTimes_l2_o (loopOf Try.f109 2) back d = impl_net_copTimes_l2_r N back d := by kernel_rfl
noncomputable def F_impl_net_copTimes (N : Nat) (d : (List Int × Unit) × Unit) : Option (List (List Int) × Unit) :=
  let a0 : List Int × Unit := d.1
  let r1 : Int × Unit := g_impl_net_size (a0, ())
  if ((decide (0 ≤ r1.1) && decide (r1.1 ≤ r1.1) && decide (r1.1 ≤ (lim : Int)))) = true then
  let x2 : List (List Int) := List.replicate r1.1.toNat ([] : List Int)
  (impl_net_copTimes_l0 N N ((a0, (r1.1, (x2, ((List.length x2 : Int), ((0 : Int), ()))))))).bind fun o6 => match o6 with
  | .inl d7 =>
    (impl_net_copTimes_l2 N N ((d7.1, (d7.2.1, (d7.2.2.1, ((1 : Int), (true, ()))))))).bind fun o22 => match o22 with
    | .inl d23 =>
      some (d23.1, ())
  else none
theorem F_impl_net_copTimes_ok (N : Nat) (d) : fnR Γ_impl_net_copTimes (assoc [(0, ⟨impl_net_copTimes_l0_h, impl_net_copTimes_l0_o, impl_net_copTimes_l0 N N⟩), (2, ⟨impl_net_copTimes_l2_h, impl_net_copTimes_l2_o, impl_net_copTimes_l2 N N⟩)]) true [(K_PSiq, false)] [K_SSi] Try.f109.results.toList (bodyOf Try.f109) d = F_impl_net_copTimes N d := by kernel_rfl
noncomputable def S_impl_net_copTimes : FSig := ⟨[(K_PSiq, false)], [K_SSi], true, (G_copTimes)⟩
/-! ### impl.ChaseTime -/
noncomputable def Γ_impl_ChaseTime : Ctx := { tk := assoc tks, ar := assoc ars, fs := assoc [(22, S_impl_IsWorkshop), (108, S_impl_netOf), (109, S_impl_net_copTimes)] }
noncomputable def F_impl_ChaseTime (N : Nat) (d : ((Int × (List (Int × Int × Unit)) × Unit) × Int × Int × List Int × Int × Unit) × Unit) : Option (Int × Bool × Unit) :=
  let a0 : (Int × (List (Int × Int × Unit)) × Unit) × Int × Int × List Int × Int × Unit := d.1
  ((F_impl_IsWorkshop 0) (a0, ())).bind fun r1 =>
  if (!r1.1) = true then
    some (((0 : Int), (false, ())))
  else
    if (decide (a0.2.1 < (0 : Int))) = true then
      some (((0 : Int), (false, ())))
    else
      if (decide (a0.2.2.1 < (0 : Int))) = true then
        some (((0 : Int), (false, ())))
      else
        (G_netOf (a0.1, ())).bind fun r2 =>
        (G_copTimes (r2.1, ())).bind fun r3 =>
        if (idxIn a0.2.1 (List.length r3.1)) = true then
        if (idxIn a0.2.2.1 (List.length (at_ K_Si r3.1 a0.2.1.toNat))) = true then
        some ((at_ I (at_ K_Si r3.1 a0.2.1.toNat) a0.2.2.1.toNat, (true, ())))
        else none
        else none
theorem F_impl_ChaseTime_ok (N : Nat) (d) : fnR Γ_impl_ChaseTime (assoc []) true [(K_PPiSPiiqqiiSiiq, false)] [I, .bool] Try.f57.results.toList (bodyOf Try.f57) d = F_impl_ChaseTime N d := by kernel_rfl
noncomputable def S_impl_ChaseTime : FSig := ⟨[(K_PPiSPiiqqiiSiiq, false)], [I, .bool], true, (F_impl_ChaseTime 0)⟩
/-! ### laws.FnExactChaseTime -/
noncomputable def Γ_laws_FnExactChaseTime : Ctx := { tk := assoc tks, ar := assoc ars, fs := assoc [(19, S_laws_szWorkshop), (21, S_laws_toWorkshop), (23, S_laws_eqWorkshop), (56, S_spec_ChaseTime), (57, S_impl_ChaseTime)] }
noncomputable def F_laws_FnExactChaseTime (N : Nat) (d : ((Int × (List (Int × Int × Unit)) × Unit) × Int × Int × List Int × Int × Unit) × Unit) : Option (Bool × Unit) :=
  let a0 : (Int × (List (Int × Int × Unit)) × Unit) × Int × Int × List Int × Int × Unit := d.1
  let r1 : Int × Unit := g_laws_szWorkshop ((a0, ((1048576 : Int), ())))
  if (decide (r1.1 < (0 : Int))) = true then
    some (true, ())
  else
    ((F_laws_toWorkshop 0) (a0, ())).bind fun r2 =>
    ((F_spec_ChaseTime 0) (r2.1, ())).bind fun r3 =>
    ((F_laws_toWorkshop 0) (a0, ())).bind fun r4 =>
    ((F_impl_ChaseTime 0) (r4.1, ())).bind fun r5 =>
    if (r5.1 != r3.1) = true then
      some (false, ())
    else
      if (!(r5.2.1 == r3.2.1)) = true then
        some (false, ())
      else
        ((F_laws_toWorkshop 0) (a0, ())).bind fun r6 =>
        ((F_laws_eqWorkshop 0) ((r4.1, (r6.1, ())))).bind fun r7 =>
        if (!r7.1) = true then
          some (false, ())
        else
          some (true, ())
theorem F_laws_FnExactChaseTime_ok (N : Nat) (d) : fnR Γ_laws_FnExactChaseTime (assoc []) true [(K_PPiSPiiqqiiSiiq, false)] [.bool] Try.f12.results.toList (bodyOf Try.f12) d = F_laws_FnExactChaseTime N d := by kernel_rfl
noncomputable def S_laws_FnExactChaseTime : FSig := ⟨[(K_PPiSPiiqqiiSiiq, false)], [.bool], true, (F_laws_FnExactChaseTime 0)⟩
end Go.V.W
