/- Printed: the pure functions that the interpreter computes for the functions that FnExactIsValidRecord reaches, and that it is so. -/
import Derived.Test.YtmeglfoapdkhdaaVGen
import Derived.Test.YtmeglfoapdkhdaaProg
import Derived.Test.YtmeglfoapdkhdaaVW0
set_option linter.unusedVariables false
set_option maxRecDepth 100000
namespace Go.V.W
open Go.Proofs
abbrev I : Kd := .int .i64
abbrev K_Psq : Kd := .pair .str .unit
abbrev K_Pssq : Kd := .pair .str K_Psq
def tks : List (Nat × Kd) := [(3, I), (4, .bool), (5, (.int .u8)), (9, .str), (23, K_Pssq), (26, K_Pssq)]
def ars : List (Nat × Nat) := []
/-! ### impl.within -/
noncomputable def Γ_impl_within : Ctx := { tk := assoc tks, ar := assoc ars, fs := assoc [] }
noncomputable def F_impl_within (N : Nat) (d : Int × Int × Int × Unit) : Option (Bool × Unit) :=
  let a0 : Int := d.1
  let a1 : Int := d.2.1
  let a2 : Int := d.2.2.1
  if (decide (a0 ≥ a1)) = true then
    some (decide (a0 ≤ a2), ())
  else
    some (false, ())
theorem F_impl_within_ok (N : Nat) (d) : fnR Γ_impl_within (assoc []) true [(I, false), (I, false), (I, false)] [.bool] Try.f72.results.toList (bodyOf Try.f72) d = F_impl_within N d := by kernel_rfl
noncomputable def g_impl_within (d : Int × Int × Int × Unit) : Bool × Unit :=
  let a0 : Int := d.1
  let a1 : Int := d.2.1
  let a2 : Int := d.2.2.1
  if (decide (a0 ≥ a1)) = true then
    (decide (a0 ≤ a2), ())
  else
    (false, ())
theorem F_impl_within_tot (N : Nat) (d) : F_impl_within N d = some (g_impl_within d) := by
  unfold F_impl_within g_impl_within
  first
    | rfl
    | (dsimp only; (repeat' split) <;> rfl)
noncomputable def S_impl_within : FSig := ⟨[(I, false), (I, false), (I, false)], [.bool], true, (fun d => some (g_impl_within d))⟩
def S_strings_ContainsAny : FSig := ⟨[(.str, false), (.str, false)], [.bool], true, G_containsAny⟩
/-! ### impl.isPrinted -/
noncomputable def Γ_impl_isPrinted : Ctx := { tk := assoc tks, ar := assoc ars, fs := assoc [(118, S_strings_ContainsAny)] }
abbrev impl_isPrinted_l0_H := ByteArray × ByteArray × Int × Unit
abbrev impl_isPrinted_l0_O := (Bool × Unit) ⊕ (ByteArray × ByteArray × Unit) ⊕ Empty
def impl_isPrinted_l0_h : Form := [(0, .v .str), (1, .v .str), (5, .v I)]
def impl_isPrinted_l0_o : Outs := [(.ret, [(4, .v .bool)]), (.normal, [(0, .v .str), (1, .v .str)])]
noncomputable def impl_isPrinted_l0_r (N : Nat) (back : impl_isPrinted_l0_H → Option impl_isPrinted_l0_O) (d : impl_isPrinted_l0_H) : Option impl_isPrinted_l0_O :=
  let s0 : ByteArray := d.1
  let s1 : ByteArray := d.2.1
  let s5 : Int := d.2.2.1
  if (decide (s5 < (s0.size : Int))) = true then
    if (idxIn s5 s0.size) = true then
    if (decide ((byteAt s0 s5.toNat : Int) < (32 : Int))) = true then
      some (.inl (false, ()))
    else
      if (idxIn s5 s0.size) = true then
      if (decide ((byteAt s0 s5.toNat : Int) > (126 : Int))) = true then
        some (.inl (false, ()))
      else
        let x6 : Int := IntKind.wrap .i64 (s5 + (1 : Int))
        back ((s0, (s1, (x6, ()))))
      else none
    else none
  else
    some (.inr (.inl ((s0, (s1, ())))))
noncomputable def impl_isPrinted_l0 (N : Nat) : Nat → impl_isPrinted_l0_H → Option impl_isPrinted_l0_O
  | 0, _ => none
  | k + 1, d => impl_isPrinted_l0_r N (impl_isPrinted_l0 N k) d
theorem impl_isPrinted_l0_ok (N : Nat) (back) (d) : roundR Γ_impl_isPrinted (assoc []) 0 impl_isPrinted_l0_h impl_isPrinted_l0_o (loopOf Try.f67 0) back d = impl_isPrinted_l0_r N back d := by kernel_rfl
noncomputable def F_impl_isPrinted (N : Nat) (d : ByteArray × ByteArray × Unit) : Option (Bool × Unit) :=
  let a0 : ByteArray := d.1
  let a1 : ByteArray := d.2.1
  (impl_isPrinted_l0 N N ((a0, (a1, ((0 : Int), ()))))).bind fun o2 => match o2 with
  | .inl d3 =>
    some (d3.1, ())
  | .inr (.inl d4) =>
    (G_containsAny ((d4.1, (d4.2.1, ())))).bind fun r5 =>
    some (!r5.1, ())
theorem F_impl_isPrinted_ok (N : Nat) (d) : fnR Γ_impl_isPrinted (assoc [(0, ⟨impl_isPrinted_l0_h, impl_isPrinted_l0_o, impl_isPrinted_l0 N N⟩)]) true [(.str, false), (.str, false)] [.bool] Try.f67.results.toList (bodyOf Try.f67) d = F_impl_isPrinted N d := by kernel_rfl
noncomputable def S_impl_isPrinted : FSig := ⟨[(.str, false), (.str, false)], [.bool], true, (G_isPrinted)⟩
/-! ### impl.isCommand -/
noncomputable def Γ_impl_isCommand : Ctx := { tk := assoc tks, ar := assoc ars, fs := assoc [(67, S_impl_isPrinted), (72, S_impl_within)] }
noncomputable def F_impl_isCommand (N : Nat) (d : ByteArray × Unit) : Option (Bool × Unit) :=
  let a0 : ByteArray := d.1
  let r1 : Bool × Unit := g_impl_within (((a0.size : Int), ((1 : Int), ((160 : Int), ()))))
  if (r1.1) = true then
    ((G_isPrinted) ((a0, ((⟨#[35, 64]⟩ : ByteArray), ())))).bind fun r2 =>
    some (r2.1, ())
  else
    some (false, ())
theorem F_impl_isCommand_ok (N : Nat) (d) : fnR Γ_impl_isCommand (assoc []) true [(.str, false)] [.bool] Try.f66.results.toList (bodyOf Try.f66) d = F_impl_isCommand N d := by kernel_rfl
noncomputable def S_impl_isCommand : FSig := ⟨[(.str, false)], [.bool], true, (F_impl_isCommand 0)⟩
/-! ### impl.IsValidRecord -/
noncomputable def Γ_impl_IsValidRecord : Ctx := { tk := assoc tks, ar := assoc ars, fs := assoc [(66, S_impl_isCommand), (67, S_impl_isPrinted)] }
noncomputable def F_impl_IsValidRecord (N : Nat) (d : (ByteArray × ByteArray × Unit) × Unit) : Option (Bool × Unit) :=
  let a0 : ByteArray × ByteArray × Unit := d.1
  ((F_impl_isCommand 0) (a0.1, ())).bind fun r1 =>
  if (r1.1) = true then
    if (decide ((a0.2.1.size : Int) ≤ (200 : Int))) = true then
      ((G_isPrinted) ((a0.2.1, ((⟨#[35]⟩ : ByteArray), ())))).bind fun r2 =>
      some (r2.1, ())
    else
      some (false, ())
  else
    some (false, ())
theorem F_impl_IsValidRecord_ok (N : Nat) (d) : fnR Γ_impl_IsValidRecord (assoc []) true [(K_Pssq, false)] [.bool] Try.f18.results.toList (bodyOf Try.f18) d = F_impl_IsValidRecord N d := by kernel_rfl
noncomputable def S_impl_IsValidRecord : FSig := ⟨[(K_Pssq, false)], [.bool], true, (F_impl_IsValidRecord 0)⟩
/-! ### spec.l1In -/
noncomputable def Γ_spec_l1In : Ctx := { tk := assoc tks, ar := assoc ars, fs := assoc [] }
noncomputable def F_spec_l1In (N : Nat) (d : Int × Int × Int × Unit) : Option (Bool × Unit) :=
  let a0 : Int := d.1
  let a1 : Int := d.2.1
  let a2 : Int := d.2.2.1
  if (decide (a0 ≥ a1)) = true then
    some (decide (a0 ≤ a2), ())
  else
    some (false, ())
theorem F_spec_l1In_ok (N : Nat) (d) : fnR Γ_spec_l1In (assoc []) true [(I, false), (I, false), (I, false)] [.bool] Try.f122.results.toList (bodyOf Try.f122) d = F_spec_l1In N d := by kernel_rfl
noncomputable def g_spec_l1In (d : Int × Int × Int × Unit) : Bool × Unit :=
  let a0 : Int := d.1
  let a1 : Int := d.2.1
  let a2 : Int := d.2.2.1
  if (decide (a0 ≥ a1)) = true then
    (decide (a0 ≤ a2), ())
  else
    (false, ())
theorem F_spec_l1In_tot (N : Nat) (d) : F_spec_l1In N d = some (g_spec_l1In d) := by
  unfold F_spec_l1In g_spec_l1In
  first
    | rfl
    | (dsimp only; (repeat' split) <;> rfl)
noncomputable def S_spec_l1In : FSig := ⟨[(I, false), (I, false), (I, false)], [.bool], true, (fun d => some (g_spec_l1In d))⟩
/-! ### spec.l12Bytes -/
noncomputable def Γ_spec_l12Bytes : Ctx := { tk := assoc tks, ar := assoc ars, fs := assoc [(122, S_spec_l1In)] }
abbrev spec_l12Bytes_l0_H := ByteArray × Int × Int × Unit
abbrev spec_l12Bytes_l0_O := (Bool × Unit) ⊕ (ByteArray × Int × Unit) ⊕ Empty
def spec_l12Bytes_l0_h : Form := [(0, .v .str), (1, .v I), (5, .v I)]
def spec_l12Bytes_l0_o : Outs := [(.ret, [(4, .v .bool)]), (.normal, [(0, .v .str), (1, .v I)])]
noncomputable def spec_l12Bytes_l0_r (N : Nat) (back : spec_l12Bytes_l0_H → Option spec_l12Bytes_l0_O) (d : spec_l12Bytes_l0_H) : Option spec_l12Bytes_l0_O :=
  let s0 : ByteArray := d.1
  let s1 : Int := d.2.1
  let s5 : Int := d.2.2.1
  if (decide (s5 < (s0.size : Int))) = true then
    if (idxIn s5 s0.size) = true then
    let x7 : Int := IntKind.wrap .i64 (byteAt s0 s5.toNat : Int)
    let r8 : Bool × Unit := g_spec_l1In ((x7, ((32 : Int), ((126 : Int), ()))))
    if (!r8.1) = true then
      some (.inl (false, ()))
    else
      if (idxIn s5 s0.size) = true then
      if ((byteAt s0 s5.toNat : Int) == (35 : Int)) = true then
        some (.inl (false, ()))
      else
        let x9 : Int := IntKind.wrap .i64 (s5 + (1 : Int))
        back ((s0, (s1, (x9, ()))))
      else none
    else none
  else
    some (.inr (.inl ((s0, (s1, ())))))
noncomputable def spec_l12Bytes_l0 (N : Nat) : Nat → spec_l12Bytes_l0_H → Option spec_l12Bytes_l0_O
  | 0, _ => none
  | k + 1, d => spec_l12Bytes_l0_r N (spec_l12Bytes_l0 N k) d
theorem spec_l12Bytes_l0_ok (N : Nat) (back) (d) : roundR Γ_spec_l12Bytes (assoc []) 0 spec_l12Bytes_l0_h spec_l12Bytes_l0_o (loopOf Try.f116 0) back d = spec_l12Bytes_l0_r N back d := by kernel_rfl
noncomputable def F_spec_l12Bytes (N : Nat) (d : ByteArray × Int × Unit) : Option (Bool × Unit) :=
  let a0 : ByteArray := d.1
  let a1 : Int := d.2.1
  (spec_l12Bytes_l0 N N ((a0, (a1, ((0 : Int), ()))))).bind fun o4 => match o4 with
  | .inl d5 =>
    some (d5.1, ())
  | .inr (.inl d6) =>
    some ((decide ((d6.1.size : Int) ≤ d6.2.1), ()))
theorem F_spec_l12Bytes_ok (N : Nat) (d) : fnR Γ_spec_l12Bytes (assoc [(0, ⟨spec_l12Bytes_l0_h, spec_l12Bytes_l0_o, spec_l12Bytes_l0 N N⟩)]) true [(.str, false), (I, false)] [.bool] Try.f116.results.toList (bodyOf Try.f116) d = F_spec_l12Bytes N d := by kernel_rfl
noncomputable def S_spec_l12Bytes : FSig := ⟨[(.str, false), (I, false)], [.bool], true, (G_l12Bytes)⟩
/-! ### spec.l1Stands -/
noncomputable def Γ_spec_l1Stands : Ctx := { tk := assoc tks, ar := assoc ars, fs := assoc [] }
abbrev spec_l1Stands_l0_H := ByteArray × Int × Int × Unit
abbrev spec_l1Stands_l0_O := (Bool × Unit) ⊕ Unit ⊕ Empty
def spec_l1Stands_l0_h : Form := [(0, .v .str), (1, .v (.int .u8)), (5, .v I)]
def spec_l1Stands_l0_o : Outs := [(.ret, [(4, .v .bool)]), (.normal, [])]
noncomputable def spec_l1Stands_l0_r (N : Nat) (back : spec_l1Stands_l0_H → Option spec_l1Stands_l0_O) (d : spec_l1Stands_l0_H) : Option spec_l1Stands_l0_O :=
  let s0 : ByteArray := d.1
  let s1 : Int := d.2.1
  let s5 : Int := d.2.2.1
  if (decide (s5 < (s0.size : Int))) = true then
    if (idxIn s5 s0.size) = true then
    if ((byteAt s0 s5.toNat : Int) == s1) = true then
      some (.inl (true, ()))
    else
      let x5 : Int := IntKind.wrap .i64 (s5 + (1 : Int))
      back ((s0, (s1, (x5, ()))))
    else none
  else
    some (.inr (.inl ()))
noncomputable def spec_l1Stands_l0 (N : Nat) : Nat → spec_l1Stands_l0_H → Option spec_l1Stands_l0_O
  | 0, _ => none
  | k + 1, d => spec_l1Stands_l0_r N (spec_l1Stands_l0 N k) d
theorem spec_l1Stands_l0_ok (N : Nat) (back) (d) : roundR Γ_spec_l1Stands (assoc []) 0 spec_l1Stands_l0_h spec_l1Stands_l0_o (loopOf Try.f117 0) back d = spec_l1Stands_l0_r N back d := by kernel_rfl
noncomputable def F_spec_l1Stands (N : Nat) (d : ByteArray × Int × Unit) : Option (Bool × Unit) :=
  let a0 : ByteArray := d.1
  let a1 : Int := d.2.1
  (spec_l1Stands_l0 N N ((a0, (a1, ((0 : Int), ()))))).bind fun o2 => match o2 with
  | .inl d3 =>
    some (d3.1, ())
  | .inr (.inl d4) =>
    some (false, ())
theorem F_spec_l1Stands_ok (N : Nat) (d) : fnR Γ_spec_l1Stands (assoc [(0, ⟨spec_l1Stands_l0_h, spec_l1Stands_l0_o, spec_l1Stands_l0 N N⟩)]) true [(.str, false), ((.int .u8), false)] [.bool] Try.f117.results.toList (bodyOf Try.f117) d = F_spec_l1Stands N d := by kernel_rfl
noncomputable def S_spec_l1Stands : FSig := ⟨[(.str, false), ((.int .u8), false)], [.bool], true, (G_l1Stands)⟩
/-! ### spec.l12Record -/
noncomputable def Γ_spec_l12Record : Ctx := { tk := assoc tks, ar := assoc ars, fs := assoc [(116, S_spec_l12Bytes), (117, S_spec_l1Stands)] }
noncomputable def F_spec_l12Record (N : Nat) (d : (ByteArray × ByteArray × Unit) × Unit) : Option (Bool × Unit) :=
  let a0 : ByteArray × ByteArray × Unit := d.1
  if (!seq_ a0.1 (⟨#[]⟩ : ByteArray)) = true then
    ((G_l12Bytes) ((a0.1, ((160 : Int), ())))).bind fun r1 =>
    if (r1.1) = true then
      ((G_l1Stands) ((a0.1, ((64 : Int), ())))).bind fun r2 =>
      if (!r2.1) = true then
        ((G_l12Bytes) ((a0.2.1, ((200 : Int), ())))).bind fun r3 =>
        some (r3.1, ())
      else
        some (false, ())
    else
      some (false, ())
  else
    some (false, ())
theorem F_spec_l12Record_ok (N : Nat) (d) : fnR Γ_spec_l12Record (assoc []) true [(K_Pssq, false)] [.bool] Try.f65.results.toList (bodyOf Try.f65) d = F_spec_l12Record N d := by kernel_rfl
noncomputable def S_spec_l12Record : FSig := ⟨[(K_Pssq, false)], [.bool], true, (F_spec_l12Record 0)⟩
/-! ### spec.IsValidRecord -/
noncomputable def Γ_spec_IsValidRecord : Ctx := { tk := assoc tks, ar := assoc ars, fs := assoc [(65, S_spec_l12Record)] }
noncomputable def F_spec_IsValidRecord (N : Nat) (d : (ByteArray × ByteArray × Unit) × Unit) : Option (Bool × Unit) :=
  let a0 : ByteArray × ByteArray × Unit := d.1
  ((F_spec_l12Record 0) (a0, ())).bind fun r1 =>
  some (r1.1, ())
theorem F_spec_IsValidRecord_ok (N : Nat) (d) : fnR Γ_spec_IsValidRecord (assoc []) true [(K_Pssq, false)] [.bool] Try.f16.results.toList (bodyOf Try.f16) d = F_spec_IsValidRecord N d := by kernel_rfl
noncomputable def S_spec_IsValidRecord : FSig := ⟨[(K_Pssq, false)], [.bool], true, (F_spec_IsValidRecord 0)⟩
/-! ### laws.toLogRecord -/
noncomputable def Γ_laws_toLogRecord : Ctx := { tk := assoc tks, ar := assoc ars, fs := assoc [] }
noncomputable def F_laws_toLogRecord (N : Nat) (d : (ByteArray × ByteArray × Unit) × Unit) : Option ((ByteArray × ByteArray × Unit) × Unit) :=
  let a0 : ByteArray × ByteArray × Unit := d.1
  some (((a0.1, (a0.2.1, ())), ()))
theorem F_laws_toLogRecord_ok (N : Nat) (d) : fnR Γ_laws_toLogRecord (assoc []) true [(K_Pssq, false)] [K_Pssq] Try.f17.results.toList (bodyOf Try.f17) d = F_laws_toLogRecord N d := by kernel_rfl
noncomputable def g_laws_toLogRecord (d : (ByteArray × ByteArray × Unit) × Unit) : (ByteArray × ByteArray × Unit) × Unit :=
  let a0 : ByteArray × ByteArray × Unit := d.1
  (((a0.1, (a0.2.1, ())), ()))
theorem F_laws_toLogRecord_tot (N : Nat) (d) : F_laws_toLogRecord N d = some (g_laws_toLogRecord d) := by
  unfold F_laws_toLogRecord g_laws_toLogRecord
  first
    | rfl
    | (dsimp only; (repeat' split) <;> rfl)
noncomputable def S_laws_toLogRecord : FSig := ⟨[(K_Pssq, false)], [K_Pssq], true, (fun d => some (g_laws_toLogRecord d))⟩
/-! ### laws.szLogRecord -/
noncomputable def Γ_laws_szLogRecord : Ctx := { tk := assoc tks, ar := assoc ars, fs := assoc [] }
noncomputable def F_laws_szLogRecord (N : Nat) (d : (ByteArray × ByteArray × Unit) × Int × Unit) : Option (Int × Unit) :=
  let a0 : ByteArray × ByteArray × Unit := d.1
  let a1 : Int := d.2.1
  let x1 : Int := IntKind.wrap .i64 (a1 - (a0.1.size : Int))
  if (decide (x1 < (0 : Int))) = true then
    some ((-1 : Int), ())
  else
    let x2 : Int := IntKind.wrap .i64 (x1 - (a0.2.1.size : Int))
    if (decide (x2 < (0 : Int))) = true then
      some ((-1 : Int), ())
    else
      some (x2, ())
theorem F_laws_szLogRecord_ok (N : Nat) (d) : fnR Γ_laws_szLogRecord (assoc []) true [(K_Pssq, false), (I, false)] [I] Try.f15.results.toList (bodyOf Try.f15) d = F_laws_szLogRecord N d := by kernel_rfl
noncomputable def g_laws_szLogRecord (d : (ByteArray × ByteArray × Unit) × Int × Unit) : Int × Unit :=
  let a0 : ByteArray × ByteArray × Unit := d.1
  let a1 : Int := d.2.1
  let x1 : Int := IntKind.wrap .i64 (a1 - (a0.1.size : Int))
  if (decide (x1 < (0 : Int))) = true then
    ((-1 : Int), ())
  else
    let x2 : Int := IntKind.wrap .i64 (x1 - (a0.2.1.size : Int))
    if (decide (x2 < (0 : Int))) = true then
      ((-1 : Int), ())
    else
      (x2, ())
theorem F_laws_szLogRecord_tot (N : Nat) (d) : F_laws_szLogRecord N d = some (g_laws_szLogRecord d) := by
  unfold F_laws_szLogRecord g_laws_szLogRecord
  first
    | rfl
    | (dsimp only; (repeat' split) <;> rfl)
noncomputable def S_laws_szLogRecord : FSig := ⟨[(K_Pssq, false), (I, false)], [I], true, (fun d => some (g_laws_szLogRecord d))⟩
/-! ### laws.FnExactIsValidRecord -/
noncomputable def Γ_laws_FnExactIsValidRecord : Ctx := { tk := assoc tks, ar := assoc ars, fs := assoc [(15, S_laws_szLogRecord), (16, S_spec_IsValidRecord), (17, S_laws_toLogRecord), (18, S_impl_IsValidRecord)] }
noncomputable def F_laws_FnExactIsValidRecord (N : Nat) (d : (ByteArray × ByteArray × Unit) × Unit) : Option (Bool × Unit) :=
  let a0 : ByteArray × ByteArray × Unit := d.1
  let r1 : Int × Unit := g_laws_szLogRecord ((a0, ((1048576 : Int), ())))
  if (decide (r1.1 < (0 : Int))) = true then
    some (true, ())
  else
    let r2 : (ByteArray × ByteArray × Unit) × Unit := g_laws_toLogRecord (a0, ())
    ((F_spec_IsValidRecord 0) (r2.1, ())).bind fun r3 =>
    let r4 : (ByteArray × ByteArray × Unit) × Unit := g_laws_toLogRecord (a0, ())
    ((F_impl_IsValidRecord 0) (r4.1, ())).bind fun r5 =>
    if (!(r5.1 == r3.1)) = true then
      some (false, ())
    else
      some (true, ())
theorem F_laws_FnExactIsValidRecord_ok (N : Nat) (d) : fnR Γ_laws_FnExactIsValidRecord (assoc []) true [(K_Pssq, false)] [.bool] Try.f3.results.toList (bodyOf Try.f3) d = F_laws_FnExactIsValidRecord N d := by kernel_rfl
noncomputable def S_laws_FnExactIsValidRecord : FSig := ⟨[(K_Pssq, false)], [.bool], true, (F_laws_FnExactIsValidRecord 0)⟩
end Go.V.W
