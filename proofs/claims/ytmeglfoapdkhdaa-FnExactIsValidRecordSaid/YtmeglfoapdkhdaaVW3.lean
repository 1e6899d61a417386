/- The contracts of the functions that FnExactIsValidRecord reaches. -/
import Derived.Test.YtmeglfoapdkhdaaVW2b
import Derived.Test.YtmeglfoapdkhdaaVLib
import Derived.Shelf.Lays
import Derived.Shelf.Strings.IndexAnyAll
set_option linter.unusedVariables false
set_option maxRecDepth 100000
namespace Go.V.W
open Go.Proofs Go.Shelf
def lays150_ren : Go.Shelf.Ren :=
{
  f := fun x =>
    match x with
    | 150 => 118
    | 153 => 147
    | 152 => 160
    | 226 => 161
    | 227 => 162
    | 228 => 163
    | 137 => 168
    | 119 => 169
    | 224 => 170
    | 225 => 171
    | 217 => 173
    | 266 => 174
    | n => n,
  t := fun x =>
    match x with
    | 9 => 9
    | 4 => 4
    | 3 => 3
    | 5 => 5
    | 21 => 21
    | 117 => 158
    | 116 => 157
    | 0 => 0
    | 46 => 150
    | 124 => 169
    | n => n,
  g := fun x =>
    x }
set_option maxRecDepth 1000000 in
theorem lays150 : Go.Proofs.Lays.n150 Go.Proofs.Try.prog lays150_ren :=
{ mixed := by kernel_rfl,
  f119 := (Go.Proofs.Try.func169).trans (congrArg some (by kernel_rfl)),
  f137 := (Go.Proofs.Try.func168).trans (congrArg some (by kernel_rfl)),
  f150 := (Go.Proofs.Try.func118).trans (congrArg some (by kernel_rfl)),
  f152 := (Go.Proofs.Try.func160).trans (congrArg some (by kernel_rfl)),
  f153 := (Go.Proofs.Try.func147).trans (congrArg some (by kernel_rfl)),
  f217 := (Go.Proofs.Try.func173).trans (congrArg some (by kernel_rfl)),
  f224 := (Go.Proofs.Try.func170).trans (congrArg some (by kernel_rfl)),
  f225 := (Go.Proofs.Try.func171).trans (congrArg some (by kernel_rfl)),
  f226 := (Go.Proofs.Try.func161).trans (congrArg some (by kernel_rfl)),
  f227 := (Go.Proofs.Try.func162).trans (congrArg some (by kernel_rfl)),
  f228 := (Go.Proofs.Try.func163).trans (congrArg some (by kernel_rfl)),
  f266 := (Go.Proofs.Try.func174).trans (congrArg some (by kernel_rfl)),
  t0 := Go.Proofs.Try.underlying0, a0 := Go.Proofs.Try.isAgg0, z0 := Go.Proofs.Try.sizeOf0,
  v0 := Go.Proofs.Try.zeroValue0, t3 := Go.Proofs.Try.underlying3, a3 := Go.Proofs.Try.isAgg3,
  z3 := Go.Proofs.Try.sizeOf3, v3 := Go.Proofs.Try.zeroValue3, t4 := Go.Proofs.Try.underlying4,
  a4 := Go.Proofs.Try.isAgg4, z4 := Go.Proofs.Try.sizeOf4, v4 := Go.Proofs.Try.zeroValue4,
  t5 := Go.Proofs.Try.underlying5, a5 := Go.Proofs.Try.isAgg5, z5 := Go.Proofs.Try.sizeOf5,
  v5 := Go.Proofs.Try.zeroValue5, t9 := Go.Proofs.Try.underlying9, a9 := Go.Proofs.Try.isAgg9,
  z9 := Go.Proofs.Try.sizeOf9, v9 := Go.Proofs.Try.zeroValue9, t21 := Go.Proofs.Try.underlying21,
  a21 := Go.Proofs.Try.isAgg21, z21 := Go.Proofs.Try.sizeOf21, v21 := Go.Proofs.Try.zeroValue21,
  t46 := Go.Proofs.Try.underlying150, a46 := Go.Proofs.Try.isAgg150, z46 := Go.Proofs.Try.sizeOf150,
  v46 := Go.Proofs.Try.zeroValue150, t116 := Go.Proofs.Try.underlying157, a116 := Go.Proofs.Try.isAgg157,
  z116 := Go.Proofs.Try.sizeOf157, t117 := Go.Proofs.Try.underlying158, a117 := Go.Proofs.Try.isAgg158,
  z117 := Go.Proofs.Try.sizeOf158, v117 := Go.Proofs.Try.zeroValue158, t124 := Go.Proofs.Try.underlying169,
  a124 := Go.Proofs.Try.isAgg169, z124 := Go.Proofs.Try.sizeOf169, v124 := Go.Proofs.Try.zeroValue169 }

theorem set150 : (Try.prog.info? (lays150_ren.t 116)).map (fun i => (i.zero, i.size)) = some (some (.agg (Array.replicate 256 (.bool false))), 256) := by kernel_rfl
theorem tab : TabOk Try.prog (assoc tks) (assoc ars) := tab_of (by kernel_rfl)
theorem mixed : Try.prog.follows .mixedOrders = true := by kernel_rfl
theorem ascii_get {s : ByteArray} (h : asciiB s = true) : ∀ (j : Nat) b, s.data.toList[j]? = some b → b.toNat < 128 := fun j b hb => of_decide_eq_true (List.all_eq_true.1 h b (List.mem_of_getElem? hb))
theorem C_strings_ContainsAny : Contract Try.prog 118 S_strings_ContainsAny :=
  con_ssb (pre := fun s c => asciiB s = true ∧ asciiB c = true ∧ smallB s = true ∧ smallB c = true) (B := fun s c => Lib.containsAny s.data.toList c.data.toList) (enters_of Try.func118 (by kernel_rfl) rfl)
    (fun s c w h => Any.strings_ContainsAny_laid lays150 set150 s c w (of_decide_eq_true h.2.2.1) (of_decide_eq_true h.2.2.2) (ascii_get h.1) (ascii_get h.2.1))
    (fun d r h => by
      unfold G_containsAny at h
      split at h
      · rename_i hc
        simp only [Bool.and_eq_true] at hc
        exact ⟨⟨hc.1.1.1, hc.1.1.2, hc.1.2, hc.2⟩, (Option.some.inj h).symm⟩
      · cases h)
theorem C_impl_within_raw (N : Nat) : Contract Try.prog 72 ⟨[(I, false), (I, false), (I, false)], [.bool], true, F_impl_within N⟩ :=
  have E : Env Try.prog Γ_impl_within := env_of tab trivial
  con_of (Pc := []) E mixed Try.func72 (by kernel_rfl) (by kernel_rfl) (by kernel_rfl) (by kernel_rfl) (fun A hA => trivial) (F_impl_within_ok N)
theorem C_impl_within : Contract Try.prog 72 S_impl_within := Contract.less (fun N : Nat => F_impl_within N) C_impl_within_raw (fun d r h => ⟨0, (F_impl_within_tot 0 d).trans h⟩)
theorem C_impl_isPrinted_raw (N : Nat) : Contract Try.prog 67 ⟨[(.str, false), (.str, false)], [.bool], true, F_impl_isPrinted N⟩ :=
  have E : Env Try.prog Γ_impl_isPrinted := env_of tab ⟨C_strings_ContainsAny, trivial⟩
  con_of (Pc := [(0, ⟨impl_isPrinted_l0_h, impl_isPrinted_l0_o, impl_isPrinted_l0 N N⟩)]) E mixed Try.func67 (by kernel_rfl) (by kernel_rfl) (by kernel_rfl) (by kernel_rfl) (fun A hA => ⟨pc_of (inner := []) E mixed hA (by kernel_rfl) (by kernel_rfl) (by kernel_rfl) trivial (fun _ => rfl) (fun m d => (impl_isPrinted_l0_ok N (impl_isPrinted_l0 N m) d).symm) N, trivial⟩) (F_impl_isPrinted_ok N)
theorem C_impl_isPrinted : Contract Try.prog 67 S_impl_isPrinted := Contract.less (fun N : Nat => F_impl_isPrinted N) C_impl_isPrinted_raw isPrinted_lim
theorem C_impl_isCommand_raw (N : Nat) : Contract Try.prog 66 ⟨[(.str, false)], [.bool], true, F_impl_isCommand N⟩ :=
  have E : Env Try.prog Γ_impl_isCommand := env_of tab ⟨C_impl_isPrinted, ⟨C_impl_within, trivial⟩⟩
  con_of (Pc := []) E mixed Try.func66 (by kernel_rfl) (by kernel_rfl) (by kernel_rfl) (by kernel_rfl) (fun A hA => trivial) (F_impl_isCommand_ok N)
theorem C_impl_isCommand : Contract Try.prog 66 S_impl_isCommand := C_impl_isCommand_raw 0
theorem C_impl_IsValidRecord_raw (N : Nat) : Contract Try.prog 18 ⟨[(K_Pssq, false)], [.bool], true, F_impl_IsValidRecord N⟩ :=
  have E : Env Try.prog Γ_impl_IsValidRecord := env_of tab ⟨C_impl_isCommand, ⟨C_impl_isPrinted, trivial⟩⟩
  con_of (Pc := []) E mixed Try.func18 (by kernel_rfl) (by kernel_rfl) (by kernel_rfl) (by kernel_rfl) (fun A hA => trivial) (F_impl_IsValidRecord_ok N)
theorem C_impl_IsValidRecord : Contract Try.prog 18 S_impl_IsValidRecord := C_impl_IsValidRecord_raw 0
theorem C_spec_l1In_raw (N : Nat) : Contract Try.prog 122 ⟨[(I, false), (I, false), (I, false)], [.bool], true, F_spec_l1In N⟩ :=
  have E : Env Try.prog Γ_spec_l1In := env_of tab trivial
  con_of (Pc := []) E mixed Try.func122 (by kernel_rfl) (by kernel_rfl) (by kernel_rfl) (by kernel_rfl) (fun A hA => trivial) (F_spec_l1In_ok N)
theorem C_spec_l1In : Contract Try.prog 122 S_spec_l1In := Contract.less (fun N : Nat => F_spec_l1In N) C_spec_l1In_raw (fun d r h => ⟨0, (F_spec_l1In_tot 0 d).trans h⟩)
theorem C_spec_l12Bytes_raw (N : Nat) : Contract Try.prog 116 ⟨[(.str, false), (I, false)], [.bool], true, F_spec_l12Bytes N⟩ :=
  have E : Env Try.prog Γ_spec_l12Bytes := env_of tab ⟨C_spec_l1In, trivial⟩
  con_of (Pc := [(0, ⟨spec_l12Bytes_l0_h, spec_l12Bytes_l0_o, spec_l12Bytes_l0 N N⟩)]) E mixed Try.func116 (by kernel_rfl) (by kernel_rfl) (by kernel_rfl) (by kernel_rfl) (fun A hA => ⟨pc_of (inner := []) E mixed hA (by kernel_rfl) (by kernel_rfl) (by kernel_rfl) trivial (fun _ => rfl) (fun m d => (spec_l12Bytes_l0_ok N (spec_l12Bytes_l0 N m) d).symm) N, trivial⟩) (F_spec_l12Bytes_ok N)
theorem C_spec_l12Bytes : Contract Try.prog 116 S_spec_l12Bytes := Contract.less (fun N : Nat => F_spec_l12Bytes N) C_spec_l12Bytes_raw l12Bytes_lim
theorem C_spec_l1Stands_raw (N : Nat) : Contract Try.prog 117 ⟨[(.str, false), ((.int .u8), false)], [.bool], true, F_spec_l1Stands N⟩ :=
  have E : Env Try.prog Γ_spec_l1Stands := env_of tab trivial
  con_of (Pc := [(0, ⟨spec_l1Stands_l0_h, spec_l1Stands_l0_o, spec_l1Stands_l0 N N⟩)]) E mixed Try.func117 (by kernel_rfl) (by kernel_rfl) (by kernel_rfl) (by kernel_rfl) (fun A hA => ⟨pc_of (inner := []) E mixed hA (by kernel_rfl) (by kernel_rfl) (by kernel_rfl) trivial (fun _ => rfl) (fun m d => (spec_l1Stands_l0_ok N (spec_l1Stands_l0 N m) d).symm) N, trivial⟩) (F_spec_l1Stands_ok N)
theorem C_spec_l1Stands : Contract Try.prog 117 S_spec_l1Stands := Contract.less (fun N : Nat => F_spec_l1Stands N) C_spec_l1Stands_raw l1Stands_lim
theorem C_spec_l12Record_raw (N : Nat) : Contract Try.prog 65 ⟨[(K_Pssq, false)], [.bool], true, F_spec_l12Record N⟩ :=
  have E : Env Try.prog Γ_spec_l12Record := env_of tab ⟨C_spec_l12Bytes, ⟨C_spec_l1Stands, trivial⟩⟩
  con_of (Pc := []) E mixed Try.func65 (by kernel_rfl) (by kernel_rfl) (by kernel_rfl) (by kernel_rfl) (fun A hA => trivial) (F_spec_l12Record_ok N)
theorem C_spec_l12Record : Contract Try.prog 65 S_spec_l12Record := C_spec_l12Record_raw 0
theorem C_spec_IsValidRecord_raw (N : Nat) : Contract Try.prog 16 ⟨[(K_Pssq, false)], [.bool], true, F_spec_IsValidRecord N⟩ :=
  have E : Env Try.prog Γ_spec_IsValidRecord := env_of tab ⟨C_spec_l12Record, trivial⟩
  con_of (Pc := []) E mixed Try.func16 (by kernel_rfl) (by kernel_rfl) (by kernel_rfl) (by kernel_rfl) (fun A hA => trivial) (F_spec_IsValidRecord_ok N)
theorem C_spec_IsValidRecord : Contract Try.prog 16 S_spec_IsValidRecord := C_spec_IsValidRecord_raw 0
theorem C_laws_toLogRecord_raw (N : Nat) : Contract Try.prog 17 ⟨[(K_Pssq, false)], [K_Pssq], true, F_laws_toLogRecord N⟩ :=
  have E : Env Try.prog Γ_laws_toLogRecord := env_of tab trivial
  con_of (Pc := []) E mixed Try.func17 (by kernel_rfl) (by kernel_rfl) (by kernel_rfl) (by kernel_rfl) (fun A hA => trivial) (F_laws_toLogRecord_ok N)
theorem C_laws_toLogRecord : Contract Try.prog 17 S_laws_toLogRecord := Contract.less (fun N : Nat => F_laws_toLogRecord N) C_laws_toLogRecord_raw (fun d r h => ⟨0, (F_laws_toLogRecord_tot 0 d).trans h⟩)
theorem C_laws_szLogRecord_raw (N : Nat) : Contract Try.prog 15 ⟨[(K_Pssq, false), (I, false)], [I], true, F_laws_szLogRecord N⟩ :=
  have E : Env Try.prog Γ_laws_szLogRecord := env_of tab trivial
  con_of (Pc := []) E mixed Try.func15 (by kernel_rfl) (by kernel_rfl) (by kernel_rfl) (by kernel_rfl) (fun A hA => trivial) (F_laws_szLogRecord_ok N)
theorem C_laws_szLogRecord : Contract Try.prog 15 S_laws_szLogRecord := Contract.less (fun N : Nat => F_laws_szLogRecord N) C_laws_szLogRecord_raw (fun d r h => ⟨0, (F_laws_szLogRecord_tot 0 d).trans h⟩)
theorem C_laws_FnExactIsValidRecord_raw (N : Nat) : Contract Try.prog 3 ⟨[(K_Pssq, false)], [.bool], true, F_laws_FnExactIsValidRecord N⟩ :=
  have E : Env Try.prog Γ_laws_FnExactIsValidRecord := env_of tab ⟨C_laws_szLogRecord, ⟨C_spec_IsValidRecord, ⟨C_laws_toLogRecord, ⟨C_impl_IsValidRecord, trivial⟩⟩⟩⟩
  con_of (Pc := []) E mixed Try.func3 (by kernel_rfl) (by kernel_rfl) (by kernel_rfl) (by kernel_rfl) (fun A hA => trivial) (F_laws_FnExactIsValidRecord_ok N)
theorem C_laws_FnExactIsValidRecord : Contract Try.prog 3 S_laws_FnExactIsValidRecord := C_laws_FnExactIsValidRecord_raw 0
end Go.V.W
