/- The contracts of the functions that the rows reach. -/
import Derived.Test.YtmeglfoapdkhdaaVSM
import Derived.Test.YtmeglfoapdkhdaaVSN
import Derived.Test.YtmeglfoapdkhdaaVS2s
import Derived.Test.YtmeglfoapdkhdaaVLib
import Derived.Shelf.Lays
import Derived.Shelf.Strings.IndexAnyAll
set_option linter.unusedVariables false
set_option maxRecDepth 100000
namespace Go.V.W
open Go.Proofs Go.Shelf
def lays150_ren : Go.Shelf.Ren :=
{
  f := fun x =>
    match x with
    | 150 => 118
    | 153 => 147
    | 152 => 160
    | 226 => 161
    | 227 => 162
    | 228 => 163
    | 137 => 168
    | 119 => 169
    | 224 => 170
    | 225 => 171
    | 217 => 173
    | 266 => 174
    | n => n,
  t := fun x =>
    match x with
    | 9 => 9
    | 4 => 4
    | 3 => 3
    | 5 => 5
    | 21 => 21
    | 117 => 158
    | 116 => 157
    | 0 => 0
    | 46 => 150
    | 124 => 169
    | n => n,
  g := fun x =>
    x }
set_option maxRecDepth 1000000 in
theorem lays150 : Go.Proofs.Lays.n150 Go.Proofs.Try.prog lays150_ren :=
{ mixed := by kernel_rfl,
  f119 := (Go.Proofs.Try.func169).trans (congrArg some (by kernel_rfl)),
  f137 := (Go.Proofs.Try.func168).trans (congrArg some (by kernel_rfl)),
  f150 := (Go.Proofs.Try.func118).trans (congrArg some (by kernel_rfl)),
  f152 := (Go.Proofs.Try.func160).trans (congrArg some (by kernel_rfl)),
  f153 := (Go.Proofs.Try.func147).trans (congrArg some (by kernel_rfl)),
  f217 := (Go.Proofs.Try.func173).trans (congrArg some (by kernel_rfl)),
  f224 := (Go.Proofs.Try.func170).trans (congrArg some (by kernel_rfl)),
  f225 := (Go.Proofs.Try.func171).trans (congrArg some (by kernel_rfl)),
  f226 := (Go.Proofs.Try.func161).trans (congrArg some (by kernel_rfl)),
  f227 := (Go.Proofs.Try.func162).trans (congrArg some (by kernel_rfl)),
  f228 := (Go.Proofs.Try.func163).trans (congrArg some (by kernel_rfl)),
  f266 := (Go.Proofs.Try.func174).trans (congrArg some (by kernel_rfl)),
  t0 := Go.Proofs.Try.underlying0, a0 := Go.Proofs.Try.isAgg0, z0 := Go.Proofs.Try.sizeOf0,
  v0 := Go.Proofs.Try.zeroValue0, t3 := Go.Proofs.Try.underlying3, a3 := Go.Proofs.Try.isAgg3,
  z3 := Go.Proofs.Try.sizeOf3, v3 := Go.Proofs.Try.zeroValue3, t4 := Go.Proofs.Try.underlying4,
  a4 := Go.Proofs.Try.isAgg4, z4 := Go.Proofs.Try.sizeOf4, v4 := Go.Proofs.Try.zeroValue4,
  t5 := Go.Proofs.Try.underlying5, a5 := Go.Proofs.Try.isAgg5, z5 := Go.Proofs.Try.sizeOf5,
  v5 := Go.Proofs.Try.zeroValue5, t9 := Go.Proofs.Try.underlying9, a9 := Go.Proofs.Try.isAgg9,
  z9 := Go.Proofs.Try.sizeOf9, v9 := Go.Proofs.Try.zeroValue9, t21 := Go.Proofs.Try.underlying21,
  a21 := Go.Proofs.Try.isAgg21, z21 := Go.Proofs.Try.sizeOf21, v21 := Go.Proofs.Try.zeroValue21,
  t46 := Go.Proofs.Try.underlying150, a46 := Go.Proofs.Try.isAgg150, z46 := Go.Proofs.Try.sizeOf150,
  v46 := Go.Proofs.Try.zeroValue150, t116 := Go.Proofs.Try.underlying157, a116 := Go.Proofs.Try.isAgg157,
  z116 := Go.Proofs.Try.sizeOf157, t117 := Go.Proofs.Try.underlying158, a117 := Go.Proofs.Try.isAgg158,
  z117 := Go.Proofs.Try.sizeOf158, v117 := Go.Proofs.Try.zeroValue158, t124 := Go.Proofs.Try.underlying169,
  a124 := Go.Proofs.Try.isAgg169, z124 := Go.Proofs.Try.sizeOf169, v124 := Go.Proofs.Try.zeroValue169 }

theorem set150 : (Try.prog.info? (lays150_ren.t 116)).map (fun i => (i.zero, i.size)) = some (some (.agg (Array.replicate 256 (.bool false))), 256) := by kernel_rfl
theorem tab : TabOk Try.prog (assoc tks) (assoc ars) := tab_of (by kernel_rfl)
theorem mixed : Try.prog.follows .mixedOrders = true := by kernel_rfl
theorem ascii_get {s : ByteArray} (h : asciiB s = true) : ∀ (j : Nat) b, s.data.toList[j]? = some b → b.toNat < 128 := fun j b hb => of_decide_eq_true (List.all_eq_true.1 h b (List.mem_of_getElem? hb))
theorem C_strings_ContainsAny : Contract Try.prog 118 S_strings_ContainsAny :=
  con_ssb (pre := fun s c => asciiB s = true ∧ asciiB c = true ∧ smallB s = true ∧ smallB c = true) (B := fun s c => Lib.containsAny s.data.toList c.data.toList) (enters_of Try.func118 (by kernel_rfl) rfl)
    (fun s c w h => Any.strings_ContainsAny_laid lays150 set150 s c w (of_decide_eq_true h.2.2.1) (of_decide_eq_true h.2.2.2) (ascii_get h.1) (ascii_get h.2.1))
    (fun d r h => by
      unfold G_containsAny at h
      split at h
      · rename_i hc
        simp only [Bool.and_eq_true] at hc
        exact ⟨⟨hc.1.1.1, hc.1.1.2, hc.1.2, hc.2⟩, (Option.some.inj h).symm⟩
      · cases h)
theorem C_laws_szLogRecord_raw (N : Nat) : Contract Try.prog 15 ⟨[(K_Pssq, false), (I, false)], [I], true, F_laws_szLogRecord N⟩ :=
  have E : Env Try.prog Γ_laws_szLogRecord := env_of tab trivial
  con_of (Pc := []) E mixed Try.func15 (by kernel_rfl) (by kernel_rfl) (by kernel_rfl) (by kernel_rfl) (fun A hA => trivial) (F_laws_szLogRecord_ok N)
theorem C_laws_szLogRecord : Contract Try.prog 15 S_laws_szLogRecord := Contract.less (fun N : Nat => F_laws_szLogRecord N) C_laws_szLogRecord_raw (fun d r h => ⟨0, (F_laws_szLogRecord_tot 0 d).trans h⟩)
theorem C_laws_toLogRecord_raw (N : Nat) : Contract Try.prog 17 ⟨[(K_Pssq, false)], [K_Pssq], true, F_laws_toLogRecord N⟩ :=
  have E : Env Try.prog Γ_laws_toLogRecord := env_of tab trivial
  con_of (Pc := []) E mixed Try.func17 (by kernel_rfl) (by kernel_rfl) (by kernel_rfl) (by kernel_rfl) (fun A hA => trivial) (F_laws_toLogRecord_ok N)
theorem C_laws_toLogRecord : Contract Try.prog 17 S_laws_toLogRecord := Contract.less (fun N : Nat => F_laws_toLogRecord N) C_laws_toLogRecord_raw (fun d r h => ⟨0, (F_laws_toLogRecord_tot 0 d).trans h⟩)
theorem C_spec_l1In_raw (N : Nat) : Contract Try.prog 122 ⟨[(I, false), (I, false), (I, false)], [.bool], true, F_spec_l1In N⟩ :=
  have E : Env Try.prog Γ_spec_l1In := env_of tab trivial
  con_of (Pc := []) E mixed Try.func122 (by kernel_rfl) (by kernel_rfl) (by kernel_rfl) (by kernel_rfl) (fun A hA => trivial) (F_spec_l1In_ok N)
theorem C_spec_l1In : Contract Try.prog 122 S_spec_l1In := Contract.less (fun N : Nat => F_spec_l1In N) C_spec_l1In_raw (fun d r h => ⟨0, (F_spec_l1In_tot 0 d).trans h⟩)
theorem C_spec_l12Bytes_raw (N : Nat) : Contract Try.prog 116 ⟨[(.str, false), (I, false)], [.bool], true, F_spec_l12Bytes N⟩ :=
  have E : Env Try.prog Γ_spec_l12Bytes := env_of tab ⟨C_spec_l1In, trivial⟩
  con_of (Pc := [(0, ⟨spec_l12Bytes_l0_h, spec_l12Bytes_l0_o, spec_l12Bytes_l0 N N⟩)]) E mixed Try.func116 (by kernel_rfl) (by kernel_rfl) (by kernel_rfl) (by kernel_rfl) (fun A hA => ⟨pc_of (inner := []) E mixed hA (by kernel_rfl) (by kernel_rfl) (by kernel_rfl) trivial (fun _ => rfl) (fun m d => (spec_l12Bytes_l0_ok N (spec_l12Bytes_l0 N m) d).symm) N, trivial⟩) (F_spec_l12Bytes_ok N)
theorem C_spec_l12Bytes : Contract Try.prog 116 S_spec_l12Bytes := Contract.less (fun N : Nat => F_spec_l12Bytes N) C_spec_l12Bytes_raw l12Bytes_lim
theorem C_spec_l1Stands_raw (N : Nat) : Contract Try.prog 117 ⟨[(.str, false), ((.int .u8), false)], [.bool], true, F_spec_l1Stands N⟩ :=
  have E : Env Try.prog Γ_spec_l1Stands := env_of tab trivial
  con_of (Pc := [(0, ⟨spec_l1Stands_l0_h, spec_l1Stands_l0_o, spec_l1Stands_l0 N N⟩)]) E mixed Try.func117 (by kernel_rfl) (by kernel_rfl) (by kernel_rfl) (by kernel_rfl) (fun A hA => ⟨pc_of (inner := []) E mixed hA (by kernel_rfl) (by kernel_rfl) (by kernel_rfl) trivial (fun _ => rfl) (fun m d => (spec_l1Stands_l0_ok N (spec_l1Stands_l0 N m) d).symm) N, trivial⟩) (F_spec_l1Stands_ok N)
theorem C_spec_l1Stands : Contract Try.prog 117 S_spec_l1Stands := Contract.less (fun N : Nat => F_spec_l1Stands N) C_spec_l1Stands_raw l1Stands_lim
theorem C_spec_l12Record_raw (N : Nat) : Contract Try.prog 65 ⟨[(K_Pssq, false)], [.bool], true, F_spec_l12Record N⟩ :=
  have E : Env Try.prog Γ_spec_l12Record := env_of tab ⟨C_spec_l12Bytes, ⟨C_spec_l1Stands, trivial⟩⟩
  con_of (Pc := []) E mixed Try.func65 (by kernel_rfl) (by kernel_rfl) (by kernel_rfl) (by kernel_rfl) (fun A hA => trivial) (F_spec_l12Record_ok N)
theorem C_spec_l12Record : Contract Try.prog 65 S_spec_l12Record := C_spec_l12Record_raw 0
theorem C_spec_IsValidRecord_raw (N : Nat) : Contract Try.prog 16 ⟨[(K_Pssq, false)], [.bool], true, F_spec_IsValidRecord N⟩ :=
  have E : Env Try.prog Γ_spec_IsValidRecord := env_of tab ⟨C_spec_l12Record, trivial⟩
  con_of (Pc := []) E mixed Try.func16 (by kernel_rfl) (by kernel_rfl) (by kernel_rfl) (by kernel_rfl) (fun A hA => trivial) (F_spec_IsValidRecord_ok N)
theorem C_spec_IsValidRecord : Contract Try.prog 16 S_spec_IsValidRecord := C_spec_IsValidRecord_raw 0
theorem C_impl_within_raw (N : Nat) : Contract Try.prog 72 ⟨[(I, false), (I, false), (I, false)], [.bool], true, F_impl_within N⟩ :=
  have E : Env Try.prog Γ_impl_within := env_of tab trivial
  con_of (Pc := []) E mixed Try.func72 (by kernel_rfl) (by kernel_rfl) (by kernel_rfl) (by kernel_rfl) (fun A hA => trivial) (F_impl_within_ok N)
theorem C_impl_within : Contract Try.prog 72 S_impl_within := Contract.less (fun N : Nat => F_impl_within N) C_impl_within_raw (fun d r h => ⟨0, (F_impl_within_tot 0 d).trans h⟩)
theorem C_impl_isPrinted_raw (N : Nat) : Contract Try.prog 67 ⟨[(.str, false), (.str, false)], [.bool], true, F_impl_isPrinted N⟩ :=
  have E : Env Try.prog Γ_impl_isPrinted := env_of tab ⟨C_strings_ContainsAny, trivial⟩
  con_of (Pc := [(0, ⟨impl_isPrinted_l0_h, impl_isPrinted_l0_o, impl_isPrinted_l0 N N⟩)]) E mixed Try.func67 (by kernel_rfl) (by kernel_rfl) (by kernel_rfl) (by kernel_rfl) (fun A hA => ⟨pc_of (inner := []) E mixed hA (by kernel_rfl) (by kernel_rfl) (by kernel_rfl) trivial (fun _ => rfl) (fun m d => (impl_isPrinted_l0_ok N (impl_isPrinted_l0 N m) d).symm) N, trivial⟩) (F_impl_isPrinted_ok N)
theorem C_impl_isPrinted : Contract Try.prog 67 S_impl_isPrinted := Contract.less (fun N : Nat => F_impl_isPrinted N) C_impl_isPrinted_raw isPrinted_lim
theorem C_impl_isCommand_raw (N : Nat) : Contract Try.prog 66 ⟨[(.str, false)], [.bool], true, F_impl_isCommand N⟩ :=
  have E : Env Try.prog Γ_impl_isCommand := env_of tab ⟨C_impl_isPrinted, ⟨C_impl_within, trivial⟩⟩
  con_of (Pc := []) E mixed Try.func66 (by kernel_rfl) (by kernel_rfl) (by kernel_rfl) (by kernel_rfl) (fun A hA => trivial) (F_impl_isCommand_ok N)
theorem C_impl_isCommand : Contract Try.prog 66 S_impl_isCommand := C_impl_isCommand_raw 0
theorem C_impl_IsValidRecord_raw (N : Nat) : Contract Try.prog 18 ⟨[(K_Pssq, false)], [.bool], true, F_impl_IsValidRecord N⟩ :=
  have E : Env Try.prog Γ_impl_IsValidRecord := env_of tab ⟨C_impl_isCommand, ⟨C_impl_isPrinted, trivial⟩⟩
  con_of (Pc := []) E mixed Try.func18 (by kernel_rfl) (by kernel_rfl) (by kernel_rfl) (by kernel_rfl) (fun A hA => trivial) (F_impl_IsValidRecord_ok N)
theorem C_impl_IsValidRecord : Contract Try.prog 18 S_impl_IsValidRecord := C_impl_IsValidRecord_raw 0
theorem C_laws_FnExactIsValidRecord_raw (N : Nat) : Contract Try.prog 3 ⟨[(K_Pssq, false)], [.bool], true, F_laws_FnExactIsValidRecord N⟩ :=
  have E : Env Try.prog Γ_laws_FnExactIsValidRecord := env_of tab ⟨C_laws_szLogRecord, ⟨C_spec_IsValidRecord, ⟨C_laws_toLogRecord, ⟨C_impl_IsValidRecord, trivial⟩⟩⟩⟩
  con_of (Pc := []) E mixed Try.func3 (by kernel_rfl) (by kernel_rfl) (by kernel_rfl) (by kernel_rfl) (fun A hA => trivial) (F_laws_FnExactIsValidRecord_ok N)
theorem C_laws_FnExactIsValidRecord : Contract Try.prog 3 S_laws_FnExactIsValidRecord := C_laws_FnExactIsValidRecord_raw 0
theorem C_laws_szIntA2S_raw (N : Nat) : Contract Try.prog 73 ⟨[(K_SPiiq, false), (I, false)], [I], true, F_laws_szIntA2S N⟩ :=
  have E : Env Try.prog Γ_laws_szIntA2S := env_of tab trivial
  con_of (Pc := []) E mixed Try.func73 (by kernel_rfl) (by kernel_rfl) (by kernel_rfl) (by kernel_rfl) (fun A hA => trivial) (F_laws_szIntA2S_ok N)
theorem C_laws_szIntA2S : Contract Try.prog 73 S_laws_szIntA2S := Contract.less (fun N : Nat => F_laws_szIntA2S N) C_laws_szIntA2S_raw (fun d r h => ⟨0, (F_laws_szIntA2S_tot 0 d).trans h⟩)
theorem C_laws_szGraph_raw (N : Nat) : Contract Try.prog 24 ⟨[(K_PiSPiiqq, false), (I, false)], [I], true, F_laws_szGraph N⟩ :=
  have E : Env Try.prog Γ_laws_szGraph := env_of tab ⟨C_laws_szIntA2S, trivial⟩
  con_of (Pc := []) E mixed Try.func24 (by kernel_rfl) (by kernel_rfl) (by kernel_rfl) (by kernel_rfl) (fun A hA => trivial) (F_laws_szGraph_ok N)
theorem C_laws_szGraph : Contract Try.prog 24 S_laws_szGraph := Contract.less (fun N : Nat => F_laws_szGraph N) C_laws_szGraph_raw (fun d r h => ⟨0, (F_laws_szGraph_tot 0 d).trans h⟩)
theorem C_laws_szIntS_raw (N : Nat) : Contract Try.prog 68 ⟨[(K_Si, false), (I, false)], [I], true, F_laws_szIntS N⟩ :=
  have E : Env Try.prog Γ_laws_szIntS := env_of tab trivial
  con_of (Pc := []) E mixed Try.func68 (by kernel_rfl) (by kernel_rfl) (by kernel_rfl) (by kernel_rfl) (fun A hA => trivial) (F_laws_szIntS_ok N)
theorem C_laws_szIntS : Contract Try.prog 68 S_laws_szIntS := Contract.less (fun N : Nat => F_laws_szIntS N) C_laws_szIntS_raw (fun d r h => ⟨0, (F_laws_szIntS_tot 0 d).trans h⟩)
theorem C_laws_szWorkshop_raw (N : Nat) : Contract Try.prog 19 ⟨[(K_PPiSPiiqqiiSiiq, false), (I, false)], [I], true, F_laws_szWorkshop N⟩ :=
  have E : Env Try.prog Γ_laws_szWorkshop := env_of tab ⟨C_laws_szGraph, ⟨C_laws_szIntS, trivial⟩⟩
  con_of (Pc := []) E mixed Try.func19 (by kernel_rfl) (by kernel_rfl) (by kernel_rfl) (by kernel_rfl) (fun A hA => trivial) (F_laws_szWorkshop_ok N)
theorem C_laws_szWorkshop : Contract Try.prog 19 S_laws_szWorkshop := Contract.less (fun N : Nat => F_laws_szWorkshop N) C_laws_szWorkshop_raw (fun d r h => ⟨0, (F_laws_szWorkshop_tot 0 d).trans h⟩)
theorem C_laws_toIntA2_raw (N : Nat) : Contract Try.prog 125 ⟨[(K_Piiq, false)], [K_Piiq], true, F_laws_toIntA2 N⟩ :=
  have E : Env Try.prog Γ_laws_toIntA2 := env_of tab trivial
  con_of (Pc := [(0, ⟨laws_toIntA2_l0_h, laws_toIntA2_l0_o, laws_toIntA2_l0 N N⟩)]) E mixed Try.func125 (by kernel_rfl) (by kernel_rfl) (by kernel_rfl) (by kernel_rfl) (fun A hA => ⟨pc_of (inner := []) E mixed hA (by kernel_rfl) (by kernel_rfl) (by kernel_rfl) trivial (fun _ => rfl) (fun m d => (laws_toIntA2_l0_ok N (laws_toIntA2_l0 N m) d).symm) N, trivial⟩) (F_laws_toIntA2_ok N)
theorem C_laws_toIntA2 : Contract Try.prog 125 S_laws_toIntA2 := Contract.less (fun N : Nat => F_laws_toIntA2 N) C_laws_toIntA2_raw toIntA2_lim
theorem C_laws_toIntA2S_raw (N : Nat) : Contract Try.prog 75 ⟨[(K_SPiiq, false)], [K_SPiiq], true, F_laws_toIntA2S N⟩ :=
  have E : Env Try.prog Γ_laws_toIntA2S := env_of tab ⟨C_laws_toIntA2, trivial⟩
  con_of (Pc := [(0, ⟨laws_toIntA2S_l0_h, laws_toIntA2S_l0_o, laws_toIntA2S_l0 N N⟩)]) E mixed Try.func75 (by kernel_rfl) (by kernel_rfl) (by kernel_rfl) (by kernel_rfl) (fun A hA => ⟨pc_of (inner := []) E mixed hA (by kernel_rfl) (by kernel_rfl) (by kernel_rfl) trivial (fun _ => rfl) (fun m d => (laws_toIntA2S_l0_ok N (laws_toIntA2S_l0 N m) d).symm) N, trivial⟩) (F_laws_toIntA2S_ok N)
theorem C_laws_toIntA2S : Contract Try.prog 75 S_laws_toIntA2S := Contract.less (fun N : Nat => F_laws_toIntA2S N) C_laws_toIntA2S_raw toIntA2S_lim
theorem C_laws_toGraph_raw (N : Nat) : Contract Try.prog 26 ⟨[(K_PiSPiiqq, false)], [K_PiSPiiqq], true, F_laws_toGraph N⟩ :=
  have E : Env Try.prog Γ_laws_toGraph := env_of tab ⟨C_laws_toIntA2S, trivial⟩
  con_of (Pc := []) E mixed Try.func26 (by kernel_rfl) (by kernel_rfl) (by kernel_rfl) (by kernel_rfl) (fun A hA => trivial) (F_laws_toGraph_ok N)
theorem C_laws_toGraph : Contract Try.prog 26 S_laws_toGraph := C_laws_toGraph_raw 0
theorem C_laws_toIntS_raw (N : Nat) : Contract Try.prog 70 ⟨[(K_Si, false)], [K_Si], true, F_laws_toIntS N⟩ :=
  have E : Env Try.prog Γ_laws_toIntS := env_of tab trivial
  con_of (Pc := [(0, ⟨laws_toIntS_l0_h, laws_toIntS_l0_o, laws_toIntS_l0 N N⟩)]) E mixed Try.func70 (by kernel_rfl) (by kernel_rfl) (by kernel_rfl) (by kernel_rfl) (fun A hA => ⟨pc_of (inner := []) E mixed hA (by kernel_rfl) (by kernel_rfl) (by kernel_rfl) trivial (fun _ => rfl) (fun m d => (laws_toIntS_l0_ok N (laws_toIntS_l0 N m) d).symm) N, trivial⟩) (F_laws_toIntS_ok N)
theorem C_laws_toIntS : Contract Try.prog 70 S_laws_toIntS := Contract.less (fun N : Nat => F_laws_toIntS N) C_laws_toIntS_raw toIntS_lim
theorem C_laws_toWorkshop_raw (N : Nat) : Contract Try.prog 21 ⟨[(K_PPiSPiiqqiiSiiq, false)], [K_PPiSPiiqqiiSiiq], true, F_laws_toWorkshop N⟩ :=
  have E : Env Try.prog Γ_laws_toWorkshop := env_of tab ⟨C_laws_toGraph, ⟨C_laws_toIntS, trivial⟩⟩
  con_of (Pc := []) E mixed Try.func21 (by kernel_rfl) (by kernel_rfl) (by kernel_rfl) (by kernel_rfl) (fun A hA => trivial) (F_laws_toWorkshop_ok N)
theorem C_laws_toWorkshop : Contract Try.prog 21 S_laws_toWorkshop := C_laws_toWorkshop_raw 0
theorem C_spec_l2Before_raw (N : Nat) : Contract Try.prog 148 ⟨[(K_Piiq, false), (K_Piiq, false)], [.bool], true, F_spec_l2Before N⟩ :=
  have E : Env Try.prog Γ_spec_l2Before := env_of tab trivial
  con_of (Pc := []) E mixed Try.func148 (by kernel_rfl) (by kernel_rfl) (by kernel_rfl) (by kernel_rfl) (fun A hA => trivial) (F_spec_l2Before_ok N)
theorem C_spec_l2Before : Contract Try.prog 148 S_spec_l2Before := Contract.less (fun N : Nat => F_spec_l2Before N) C_spec_l2Before_raw (fun d r h => ⟨0, (F_spec_l2Before_tot 0 d).trans h⟩)
theorem C_spec_l2Good_raw (N : Nat) : Contract Try.prog 119 ⟨[(K_PiSPiiqq, false)], [.bool], true, F_spec_l2Good N⟩ :=
  have E : Env Try.prog Γ_spec_l2Good := env_of tab ⟨C_spec_l1In, ⟨C_spec_l2Before, trivial⟩⟩
  con_of (Pc := [(0, ⟨spec_l2Good_l0_h, spec_l2Good_l0_o, spec_l2Good_l0 N N⟩)]) E mixed Try.func119 (by kernel_rfl) (by kernel_rfl) (by kernel_rfl) (by kernel_rfl) (fun A hA => ⟨pc_of (inner := []) E mixed hA (by kernel_rfl) (by kernel_rfl) (by kernel_rfl) trivial (fun _ => rfl) (fun m d => (spec_l2Good_l0_ok N (spec_l2Good_l0 N m) d).symm) N, trivial⟩) (F_spec_l2Good_ok N)
theorem C_spec_l2Good : Contract Try.prog 119 S_spec_l2Good := Contract.less (fun N : Nat => F_spec_l2Good N) C_spec_l2Good_raw l2Good_lim
theorem C_spec_l12Spot_raw (N : Nat) : Contract Try.prog 120 ⟨[(K_PiSPiiqq, false), (I, false)], [.bool], true, F_spec_l12Spot N⟩ :=
  have E : Env Try.prog Γ_spec_l12Spot := env_of tab ⟨C_spec_l1In, trivial⟩
  con_of (Pc := []) E mixed Try.func120 (by kernel_rfl) (by kernel_rfl) (by kernel_rfl) (by kernel_rfl) (fun A hA => trivial) (F_spec_l12Spot_ok N)
theorem C_spec_l12Spot : Contract Try.prog 120 S_spec_l12Spot := Contract.less (fun N : Nat => F_spec_l12Spot N) C_spec_l12Spot_raw (fun d r h => ⟨0, (F_spec_l12Spot_tot 0 d).trans h⟩)
theorem C_spec_l1Rising_raw (N : Nat) : Contract Try.prog 128 ⟨[(K_Si, false), (I, false), (I, false)], [.bool], true, F_spec_l1Rising N⟩ :=
  have E : Env Try.prog Γ_spec_l1Rising := env_of tab ⟨C_spec_l1In, trivial⟩
  con_of (Pc := [(0, ⟨spec_l1Rising_l0_h, spec_l1Rising_l0_o, spec_l1Rising_l0 N N⟩)]) E mixed Try.func128 (by kernel_rfl) (by kernel_rfl) (by kernel_rfl) (by kernel_rfl) (fun A hA => ⟨pc_of (inner := []) E mixed hA (by kernel_rfl) (by kernel_rfl) (by kernel_rfl) trivial (fun _ => rfl) (fun m d => (spec_l1Rising_l0_ok N (spec_l1Rising_l0 N m) d).symm) N, trivial⟩) (F_spec_l1Rising_ok N)
theorem C_spec_l1Rising : Contract Try.prog 128 S_spec_l1Rising := Contract.less (fun N : Nat => F_spec_l1Rising N) C_spec_l1Rising_raw l1Rising_lim
theorem C_spec_l2Set_raw (N : Nat) : Contract Try.prog 121 ⟨[(K_PiSPiiqq, false), (K_Si, false)], [.bool], true, F_spec_l2Set N⟩ :=
  have E : Env Try.prog Γ_spec_l2Set := env_of tab ⟨C_spec_l1Rising, trivial⟩
  con_of (Pc := []) E mixed Try.func121 (by kernel_rfl) (by kernel_rfl) (by kernel_rfl) (by kernel_rfl) (fun A hA => trivial) (F_spec_l2Set_ok N)
theorem C_spec_l2Set : Contract Try.prog 121 S_spec_l2Set := C_spec_l2Set_raw 0
theorem C_spec_l12Good_raw (N : Nat) : Contract Try.prog 69 ⟨[(K_PPiSPiiqqiiSiiq, false)], [.bool], true, F_spec_l12Good N⟩ :=
  have E : Env Try.prog Γ_spec_l12Good := env_of tab ⟨C_spec_l2Good, ⟨C_spec_l12Spot, ⟨C_spec_l2Set, ⟨C_spec_l1In, trivial⟩⟩⟩⟩
  con_of (Pc := []) E mixed Try.func69 (by kernel_rfl) (by kernel_rfl) (by kernel_rfl) (by kernel_rfl) (fun A hA => trivial) (F_spec_l12Good_ok N)
theorem C_spec_l12Good : Contract Try.prog 69 S_spec_l12Good := C_spec_l12Good_raw 0
theorem C_spec_IsWorkshop_raw (N : Nat) : Contract Try.prog 20 ⟨[(K_PPiSPiiqqiiSiiq, false)], [.bool], true, F_spec_IsWorkshop N⟩ :=
  have E : Env Try.prog Γ_spec_IsWorkshop := env_of tab ⟨C_spec_l12Good, trivial⟩
  con_of (Pc := []) E mixed Try.func20 (by kernel_rfl) (by kernel_rfl) (by kernel_rfl) (by kernel_rfl) (fun A hA => trivial) (F_spec_IsWorkshop_ok N)
theorem C_spec_IsWorkshop : Contract Try.prog 20 S_spec_IsWorkshop := C_spec_IsWorkshop_raw 0
theorem C_cmp_isNaN_int_raw (N : Nat) : Contract Try.prog 164 ⟨[(I, false)], [.bool], true, F_cmp_isNaN_int N⟩ :=
  have E : Env Try.prog Γ_cmp_isNaN_int := env_of tab trivial
  con_of (Pc := []) E mixed Try.func164 (by kernel_rfl) (by kernel_rfl) (by kernel_rfl) (by kernel_rfl) (fun A hA => trivial) (F_cmp_isNaN_int_ok N)
theorem C_cmp_isNaN_int : Contract Try.prog 164 S_cmp_isNaN_int := Contract.less (fun N : Nat => F_cmp_isNaN_int N) C_cmp_isNaN_int_raw (fun d r h => ⟨0, (F_cmp_isNaN_int_tot 0 d).trans h⟩)
theorem C_cmp_Compare_int_raw (N : Nat) : Contract Try.prog 149 ⟨[(I, false), (I, false)], [I], true, F_cmp_Compare_int N⟩ :=
  have E : Env Try.prog Γ_cmp_Compare_int := env_of tab ⟨C_cmp_isNaN_int, trivial⟩
  con_of (Pc := []) E mixed Try.func149 (by kernel_rfl) (by kernel_rfl) (by kernel_rfl) (by kernel_rfl) (fun A hA => trivial) (F_cmp_Compare_int_ok N)
theorem C_cmp_Compare_int : Contract Try.prog 149 S_cmp_Compare_int := Contract.less (fun N : Nat => F_cmp_Compare_int N) C_cmp_Compare_int_raw (fun d r h => ⟨0, (F_cmp_Compare_int_tot 0 d).trans h⟩)
theorem C_slices_Compare_Sint_int_raw (N : Nat) : Contract Try.prog 126 ⟨[(K_Si, false), (K_Si, false)], [I], true, F_slices_Compare_Sint_int N⟩ :=
  have E : Env Try.prog Γ_slices_Compare_Sint_int := env_of tab ⟨C_cmp_Compare_int, trivial⟩
  con_of (Pc := [(0, ⟨slices_Compare_Sint_int_l0_h, slices_Compare_Sint_int_l0_o, slices_Compare_Sint_int_l0 N N⟩)]) E mixed Try.func126 (by kernel_rfl) (by kernel_rfl) (by kernel_rfl) (by kernel_rfl) (fun A hA => ⟨pc_of (inner := []) E mixed hA (by kernel_rfl) (by kernel_rfl) (by kernel_rfl) trivial (fun _ => rfl) (fun m d => (slices_Compare_Sint_int_l0_ok N (slices_Compare_Sint_int_l0 N m) d).symm) N, trivial⟩) (F_slices_Compare_Sint_int_ok N)
theorem C_slices_Compare_Sint_int : Contract Try.prog 126 S_slices_Compare_Sint_int := Contract.less (fun N : Nat => F_slices_Compare_Sint_int N) C_slices_Compare_Sint_int_raw compare_lim
theorem C_impl_IsGraph_raw (N : Nat) : Contract Try.prog 76 ⟨[(K_PiSPiiqq, false)], [.bool], true, F_impl_IsGraph N⟩ :=
  have E : Env Try.prog Γ_impl_IsGraph := env_of tab ⟨C_impl_within, ⟨C_slices_Compare_Sint_int, trivial⟩⟩
  con_of (Pc := [(0, ⟨impl_IsGraph_l0_h, impl_IsGraph_l0_o, impl_IsGraph_l0 N N⟩)]) E mixed Try.func76 (by kernel_rfl) (by kernel_rfl) (by kernel_rfl) (by kernel_rfl) (fun A hA => ⟨pc_of (inner := []) E mixed hA (by kernel_rfl) (by kernel_rfl) (by kernel_rfl) trivial (fun _ => rfl) (fun m d => (impl_IsGraph_l0_ok N (impl_IsGraph_l0 N m) d).symm) N, trivial⟩) (F_impl_IsGraph_ok N)
theorem C_impl_IsGraph : Contract Try.prog 76 S_impl_IsGraph := Contract.less (fun N : Nat => F_impl_IsGraph N) C_impl_IsGraph_raw IsGraph_lim
theorem C_impl_allWithin_raw (N : Nat) : Contract Try.prog 86 ⟨[(K_Si, false), (I, false), (I, false)], [.bool], true, F_impl_allWithin N⟩ :=
  have E : Env Try.prog Γ_impl_allWithin := env_of tab ⟨C_impl_within, trivial⟩
  con_of (Pc := [(0, ⟨impl_allWithin_l0_h, impl_allWithin_l0_o, impl_allWithin_l0 N N⟩)]) E mixed Try.func86 (by kernel_rfl) (by kernel_rfl) (by kernel_rfl) (by kernel_rfl) (fun A hA => ⟨pc_of (inner := []) E mixed hA (by kernel_rfl) (by kernel_rfl) (by kernel_rfl) trivial (fun _ => rfl) (fun m d => (impl_allWithin_l0_ok N (impl_allWithin_l0 N m) d).symm) N, trivial⟩) (F_impl_allWithin_ok N)
theorem C_impl_allWithin : Contract Try.prog 86 S_impl_allWithin := Contract.less (fun N : Nat => F_impl_allWithin N) C_impl_allWithin_raw allWithin_lim
theorem C_impl_hasNodes_raw (N : Nat) : Contract Try.prog 123 ⟨[(K_PiSPiiqq, false), (K_Si, false)], [.bool], true, F_impl_hasNodes N⟩ :=
  have E : Env Try.prog Γ_impl_hasNodes := env_of tab ⟨C_impl_IsGraph, ⟨C_impl_allWithin, trivial⟩⟩
  con_of (Pc := []) E mixed Try.func123 (by kernel_rfl) (by kernel_rfl) (by kernel_rfl) (by kernel_rfl) (fun A hA => trivial) (F_impl_hasNodes_ok N)
theorem C_impl_hasNodes : Contract Try.prog 123 S_impl_hasNodes := C_impl_hasNodes_raw 0
theorem C_impl_increasing_raw (N : Nat) : Contract Try.prog 85 ⟨[(K_Si, false)], [.bool], true, F_impl_increasing N⟩ :=
  have E : Env Try.prog Γ_impl_increasing := env_of tab trivial
  con_of (Pc := [(0, ⟨impl_increasing_l0_h, impl_increasing_l0_o, impl_increasing_l0 N N⟩)]) E mixed Try.func85 (by kernel_rfl) (by kernel_rfl) (by kernel_rfl) (by kernel_rfl) (fun A hA => ⟨pc_of (inner := []) E mixed hA (by kernel_rfl) (by kernel_rfl) (by kernel_rfl) trivial (fun _ => rfl) (fun m d => (impl_increasing_l0_ok N (impl_increasing_l0 N m) d).symm) N, trivial⟩) (F_impl_increasing_ok N)
theorem C_impl_increasing : Contract Try.prog 85 S_impl_increasing := Contract.less (fun N : Nat => F_impl_increasing N) C_impl_increasing_raw increasing_lim
theorem C_impl_isSet_raw (N : Nat) : Contract Try.prog 71 ⟨[(K_PiSPiiqq, false), (K_Si, false)], [.bool], true, F_impl_isSet N⟩ :=
  have E : Env Try.prog Γ_impl_isSet := env_of tab ⟨C_impl_increasing, ⟨C_impl_hasNodes, trivial⟩⟩
  con_of (Pc := []) E mixed Try.func71 (by kernel_rfl) (by kernel_rfl) (by kernel_rfl) (by kernel_rfl) (fun A hA => trivial) (F_impl_isSet_ok N)
theorem C_impl_isSet : Contract Try.prog 71 S_impl_isSet := C_impl_isSet_raw 0
theorem C_impl_IsWorkshop_raw (N : Nat) : Contract Try.prog 22 ⟨[(K_PPiSPiiqqiiSiiq, false)], [.bool], true, F_impl_IsWorkshop N⟩ :=
  have E : Env Try.prog Γ_impl_IsWorkshop := env_of tab ⟨C_impl_isSet, ⟨C_impl_within, trivial⟩⟩
  con_of (Pc := []) E mixed Try.func22 (by kernel_rfl) (by kernel_rfl) (by kernel_rfl) (by kernel_rfl) (fun A hA => trivial) (F_impl_IsWorkshop_ok N)
theorem C_impl_IsWorkshop : Contract Try.prog 22 S_impl_IsWorkshop := C_impl_IsWorkshop_raw 0
theorem C_laws_eqIntA2_raw (N : Nat) : Contract Try.prog 127 ⟨[(K_Piiq, false), (K_Piiq, false)], [.bool], true, F_laws_eqIntA2 N⟩ :=
  have E : Env Try.prog Γ_laws_eqIntA2 := env_of tab trivial
  con_of (Pc := [(0, ⟨laws_eqIntA2_l0_h, laws_eqIntA2_l0_o, laws_eqIntA2_l0 N N⟩)]) E mixed Try.func127 (by kernel_rfl) (by kernel_rfl) (by kernel_rfl) (by kernel_rfl) (fun A hA => ⟨pc_of (inner := []) E mixed hA (by kernel_rfl) (by kernel_rfl) (by kernel_rfl) trivial (fun _ => rfl) (fun m d => (laws_eqIntA2_l0_ok N (laws_eqIntA2_l0 N m) d).symm) N, trivial⟩) (F_laws_eqIntA2_ok N)
theorem C_laws_eqIntA2 : Contract Try.prog 127 S_laws_eqIntA2 := Contract.less (fun N : Nat => F_laws_eqIntA2 N) C_laws_eqIntA2_raw eqIntA2_lim
theorem C_laws_eqIntA2S_raw (N : Nat) : Contract Try.prog 78 ⟨[(K_SPiiq, false), (K_SPiiq, false)], [.bool], true, F_laws_eqIntA2S N⟩ :=
  have E : Env Try.prog Γ_laws_eqIntA2S := env_of tab ⟨C_laws_eqIntA2, trivial⟩
  con_of (Pc := [(0, ⟨laws_eqIntA2S_l0_h, laws_eqIntA2S_l0_o, laws_eqIntA2S_l0 N N⟩)]) E mixed Try.func78 (by kernel_rfl) (by kernel_rfl) (by kernel_rfl) (by kernel_rfl) (fun A hA => ⟨pc_of (inner := []) E mixed hA (by kernel_rfl) (by kernel_rfl) (by kernel_rfl) trivial (fun _ => rfl) (fun m d => (laws_eqIntA2S_l0_ok N (laws_eqIntA2S_l0 N m) d).symm) N, trivial⟩) (F_laws_eqIntA2S_ok N)
theorem C_laws_eqIntA2S : Contract Try.prog 78 S_laws_eqIntA2S := Contract.less (fun N : Nat => F_laws_eqIntA2S N) C_laws_eqIntA2S_raw eqIntA2S_lim
theorem C_laws_eqGraph_raw (N : Nat) : Contract Try.prog 28 ⟨[(K_PiSPiiqq, false), (K_PiSPiiqq, false)], [.bool], true, F_laws_eqGraph N⟩ :=
  have E : Env Try.prog Γ_laws_eqGraph := env_of tab ⟨C_laws_eqIntA2S, trivial⟩
  con_of (Pc := []) E mixed Try.func28 (by kernel_rfl) (by kernel_rfl) (by kernel_rfl) (by kernel_rfl) (fun A hA => trivial) (F_laws_eqGraph_ok N)
theorem C_laws_eqGraph : Contract Try.prog 28 S_laws_eqGraph := C_laws_eqGraph_raw 0
theorem C_laws_eqIntS_raw (N : Nat) : Contract Try.prog 53 ⟨[(K_Si, false), (K_Si, false)], [.bool], true, F_laws_eqIntS N⟩ :=
  have E : Env Try.prog Γ_laws_eqIntS := env_of tab trivial
  con_of (Pc := [(0, ⟨laws_eqIntS_l0_h, laws_eqIntS_l0_o, laws_eqIntS_l0 N N⟩)]) E mixed Try.func53 (by kernel_rfl) (by kernel_rfl) (by kernel_rfl) (by kernel_rfl) (fun A hA => ⟨pc_of (inner := []) E mixed hA (by kernel_rfl) (by kernel_rfl) (by kernel_rfl) trivial (fun _ => rfl) (fun m d => (laws_eqIntS_l0_ok N (laws_eqIntS_l0 N m) d).symm) N, trivial⟩) (F_laws_eqIntS_ok N)
theorem C_laws_eqIntS : Contract Try.prog 53 S_laws_eqIntS := Contract.less (fun N : Nat => F_laws_eqIntS N) C_laws_eqIntS_raw eqIntS_lim
theorem C_laws_eqWorkshop_raw (N : Nat) : Contract Try.prog 23 ⟨[(K_PPiSPiiqqiiSiiq, false), (K_PPiSPiiqqiiSiiq, false)], [.bool], true, F_laws_eqWorkshop N⟩ :=
  have E : Env Try.prog Γ_laws_eqWorkshop := env_of tab ⟨C_laws_eqGraph, ⟨C_laws_eqIntS, trivial⟩⟩
  con_of (Pc := []) E mixed Try.func23 (by kernel_rfl) (by kernel_rfl) (by kernel_rfl) (by kernel_rfl) (fun A hA => trivial) (F_laws_eqWorkshop_ok N)
theorem C_laws_eqWorkshop : Contract Try.prog 23 S_laws_eqWorkshop := C_laws_eqWorkshop_raw 0
theorem C_laws_FnExactIsWorkshop_raw (N : Nat) : Contract Try.prog 4 ⟨[(K_PPiSPiiqqiiSiiq, false)], [.bool], true, F_laws_FnExactIsWorkshop N⟩ :=
  have E : Env Try.prog Γ_laws_FnExactIsWorkshop := env_of tab ⟨C_laws_szWorkshop, ⟨C_spec_IsWorkshop, ⟨C_laws_toWorkshop, ⟨C_impl_IsWorkshop, ⟨C_laws_eqWorkshop, trivial⟩⟩⟩⟩⟩
  con_of (Pc := []) E mixed Try.func4 (by kernel_rfl) (by kernel_rfl) (by kernel_rfl) (by kernel_rfl) (fun A hA => trivial) (F_laws_FnExactIsWorkshop_ok N)
theorem C_laws_FnExactIsWorkshop : Contract Try.prog 4 S_laws_FnExactIsWorkshop := C_laws_FnExactIsWorkshop_raw 0
theorem C_spec_l1Own_raw (N : Nat) : Contract Try.prog 124 ⟨[(K_Si, false)], [K_Si], true, F_spec_l1Own N⟩ :=
  have E : Env Try.prog Γ_spec_l1Own := env_of tab trivial
  con_of (Pc := []) E mixed Try.func124 (by kernel_rfl) (by kernel_rfl) (by kernel_rfl) (by kernel_rfl) (fun A hA => trivial) (F_spec_l1Own_ok N)
theorem C_spec_l1Own : Contract Try.prog 124 S_spec_l1Own := C_spec_l1Own_raw 0
theorem C_spec_l12Own_raw (N : Nat) : Contract Try.prog 74 ⟨[(K_PPiSPiiqqiiSiiq, false)], [K_PPiSPiiqqiiSiiq], true, F_spec_l12Own N⟩ :=
  have E : Env Try.prog Γ_spec_l12Own := env_of tab ⟨C_spec_l1Own, trivial⟩
  con_of (Pc := []) E mixed Try.func74 (by kernel_rfl) (by kernel_rfl) (by kernel_rfl) (by kernel_rfl) (fun A hA => trivial) (F_spec_l12Own_ok N)
theorem C_spec_l12Own : Contract Try.prog 74 S_spec_l12Own := C_spec_l12Own_raw 0
theorem C_spec_NewWorkshop_raw (N : Nat) : Contract Try.prog 25 ⟨[(K_PiSPiiqq, false)], [K_PPiSPiiqqiiSiiq, .bool], true, F_spec_NewWorkshop N⟩ :=
  have E : Env Try.prog Γ_spec_NewWorkshop := env_of tab ⟨C_spec_l12Good, ⟨C_spec_l12Own, trivial⟩⟩
  con_of (Pc := []) E mixed Try.func25 (by kernel_rfl) (by kernel_rfl) (by kernel_rfl) (by kernel_rfl) (fun A hA => trivial) (F_spec_NewWorkshop_ok N)
theorem C_spec_NewWorkshop : Contract Try.prog 25 S_spec_NewWorkshop := C_spec_NewWorkshop_raw 0
theorem C_slices_Clone_S_2_int_2_int_raw (N : Nat) : Contract Try.prog 77 ⟨[(K_SPiiq, false)], [K_SPiiq], true, F_slices_Clone_S_2_int_2_int N⟩ :=
  have E : Env Try.prog Γ_slices_Clone_S_2_int_2_int := env_of tab trivial
  con_of (Pc := []) E mixed Try.func77 (by kernel_rfl) (by kernel_rfl) (by kernel_rfl) (by kernel_rfl) (fun A hA => trivial) (F_slices_Clone_S_2_int_2_int_ok N)
theorem C_slices_Clone_S_2_int_2_int : Contract Try.prog 77 S_slices_Clone_S_2_int_2_int := Contract.less (fun N : Nat => F_slices_Clone_S_2_int_2_int N) C_slices_Clone_S_2_int_2_int_raw cloneA2_lim
theorem C_impl_NewWorkshop_raw (N : Nat) : Contract Try.prog 27 ⟨[(K_PiSPiiqq, false)], [K_PPiSPiiqqiiSiiq, .bool], true, F_impl_NewWorkshop N⟩ :=
  have E : Env Try.prog Γ_impl_NewWorkshop := env_of tab ⟨C_impl_IsGraph, ⟨C_slices_Clone_S_2_int_2_int, trivial⟩⟩
  con_of (Pc := []) E mixed Try.func27 (by kernel_rfl) (by kernel_rfl) (by kernel_rfl) (by kernel_rfl) (fun A hA => trivial) (F_impl_NewWorkshop_ok N)
theorem C_impl_NewWorkshop : Contract Try.prog 27 S_impl_NewWorkshop := C_impl_NewWorkshop_raw 0
theorem C_laws_markIntA2S_raw (N : Nat) : Contract Try.prog 79 ⟨[(K_SPiiq, true), (I, false)], [I], true, F_laws_markIntA2S N⟩ :=
  have E : Env Try.prog Γ_laws_markIntA2S := env_of tab trivial
  con_of (Pc := [(0, ⟨laws_markIntA2S_l0_h, laws_markIntA2S_l0_o, laws_markIntA2S_l0 N N⟩)]) E mixed Try.func79 (by kernel_rfl) (by kernel_rfl) (by kernel_rfl) (by kernel_rfl) (fun A hA => ⟨pc_of (inner := [(2, ⟨laws_markIntA2S_l2_h, laws_markIntA2S_l2_o, laws_markIntA2S_l2 N N⟩)]) E mixed hA (by kernel_rfl) (by kernel_rfl) (by kernel_rfl) ⟨pc_of (inner := []) E mixed hA (by kernel_rfl) (by kernel_rfl) (by kernel_rfl) trivial (fun _ => rfl) (fun m d => (laws_markIntA2S_l2_ok N (laws_markIntA2S_l2 N m) d).symm) N, trivial⟩ (fun _ => rfl) (fun m d => (laws_markIntA2S_l0_ok N (laws_markIntA2S_l0 N m) d).symm) N, trivial⟩) (F_laws_markIntA2S_ok N)
theorem C_laws_markIntA2S : Contract Try.prog 79 S_laws_markIntA2S := Contract.less (fun N : Nat => F_laws_markIntA2S N) C_laws_markIntA2S_raw markIntA2S_lim
theorem C_laws_markGraph_raw (N : Nat) : Contract Try.prog 29 ⟨[(K_PiSPiiqq, true), (I, false)], [I], true, F_laws_markGraph N⟩ :=
  have E : Env Try.prog Γ_laws_markGraph := env_of tab ⟨C_laws_markIntA2S, trivial⟩
  con_of (Pc := []) E mixed Try.func29 (by kernel_rfl) (by kernel_rfl) (by kernel_rfl) (by kernel_rfl) (fun A hA => trivial) (F_laws_markGraph_ok N)
theorem C_laws_markGraph : Contract Try.prog 29 S_laws_markGraph := C_laws_markGraph_raw 0
theorem C_laws_markIntS_raw (N : Nat) : Contract Try.prog 54 ⟨[(K_Si, true), (I, false)], [I], true, F_laws_markIntS N⟩ :=
  have E : Env Try.prog Γ_laws_markIntS := env_of tab trivial
  con_of (Pc := [(0, ⟨laws_markIntS_l0_h, laws_markIntS_l0_o, laws_markIntS_l0 N N⟩)]) E mixed Try.func54 (by kernel_rfl) (by kernel_rfl) (by kernel_rfl) (by kernel_rfl) (fun A hA => ⟨pc_of (inner := []) E mixed hA (by kernel_rfl) (by kernel_rfl) (by kernel_rfl) trivial (fun _ => rfl) (fun m d => (laws_markIntS_l0_ok N (laws_markIntS_l0 N m) d).symm) N, trivial⟩) (F_laws_markIntS_ok N)
theorem C_laws_markIntS : Contract Try.prog 54 S_laws_markIntS := Contract.less (fun N : Nat => F_laws_markIntS N) C_laws_markIntS_raw markIntS_lim
theorem C_laws_markWorkshop_raw (N : Nat) : Contract Try.prog 30 ⟨[(K_PPiSPiiqqiiSiiq, true), (I, false)], [I], true, F_laws_markWorkshop N⟩ :=
  have E : Env Try.prog Γ_laws_markWorkshop := env_of tab ⟨C_laws_markGraph, ⟨C_laws_markIntS, trivial⟩⟩
  con_of (Pc := []) E mixed Try.func30 (by kernel_rfl) (by kernel_rfl) (by kernel_rfl) (by kernel_rfl) (fun A hA => trivial) (F_laws_markWorkshop_ok N)
theorem C_laws_markWorkshop : Contract Try.prog 30 S_laws_markWorkshop := C_laws_markWorkshop_raw 0
theorem C_laws_heldIntA2S_raw (N : Nat) : Contract Try.prog 98 ⟨[(K_SPiiq, false), (I, false)], [I], true, F_laws_heldIntA2S N⟩ :=
  have E : Env Try.prog Γ_laws_heldIntA2S := env_of tab trivial
  con_of (Pc := [(0, ⟨laws_heldIntA2S_l0_h, laws_heldIntA2S_l0_o, laws_heldIntA2S_l0 N N⟩)]) E mixed Try.func98 (by kernel_rfl) (by kernel_rfl) (by kernel_rfl) (by kernel_rfl) (fun A hA => ⟨pc_of (inner := [(2, ⟨laws_heldIntA2S_l2_h, laws_heldIntA2S_l2_o, laws_heldIntA2S_l2 N N⟩)]) E mixed hA (by kernel_rfl) (by kernel_rfl) (by kernel_rfl) ⟨pc_of (inner := []) E mixed hA (by kernel_rfl) (by kernel_rfl) (by kernel_rfl) trivial (fun _ => rfl) (fun m d => (laws_heldIntA2S_l2_ok N (laws_heldIntA2S_l2 N m) d).symm) N, trivial⟩ (fun _ => rfl) (fun m d => (laws_heldIntA2S_l0_ok N (laws_heldIntA2S_l0 N m) d).symm) N, trivial⟩) (F_laws_heldIntA2S_ok N)
theorem C_laws_heldIntA2S : Contract Try.prog 98 S_laws_heldIntA2S := Contract.less (fun N : Nat => F_laws_heldIntA2S N) C_laws_heldIntA2S_raw heldIntA2S_lim
theorem C_laws_heldGraph_raw (N : Nat) : Contract Try.prog 48 ⟨[(K_PiSPiiqq, false), (I, false)], [I], true, F_laws_heldGraph N⟩ :=
  have E : Env Try.prog Γ_laws_heldGraph := env_of tab ⟨C_laws_heldIntA2S, trivial⟩
  con_of (Pc := []) E mixed Try.func48 (by kernel_rfl) (by kernel_rfl) (by kernel_rfl) (by kernel_rfl) (fun A hA => trivial) (F_laws_heldGraph_ok N)
theorem C_laws_heldGraph : Contract Try.prog 48 S_laws_heldGraph := C_laws_heldGraph_raw 0
theorem C_laws_heldIntS_raw (N : Nat) : Contract Try.prog 55 ⟨[(K_Si, false), (I, false)], [I], true, F_laws_heldIntS N⟩ :=
  have E : Env Try.prog Γ_laws_heldIntS := env_of tab trivial
  con_of (Pc := [(0, ⟨laws_heldIntS_l0_h, laws_heldIntS_l0_o, laws_heldIntS_l0 N N⟩)]) E mixed Try.func55 (by kernel_rfl) (by kernel_rfl) (by kernel_rfl) (by kernel_rfl) (fun A hA => ⟨pc_of (inner := []) E mixed hA (by kernel_rfl) (by kernel_rfl) (by kernel_rfl) trivial (fun _ => rfl) (fun m d => (laws_heldIntS_l0_ok N (laws_heldIntS_l0 N m) d).symm) N, trivial⟩) (F_laws_heldIntS_ok N)
theorem C_laws_heldIntS : Contract Try.prog 55 S_laws_heldIntS := Contract.less (fun N : Nat => F_laws_heldIntS N) C_laws_heldIntS_raw heldIntS_lim
theorem C_laws_heldWorkshop_raw (N : Nat) : Contract Try.prog 31 ⟨[(K_PPiSPiiqqiiSiiq, false), (I, false)], [I], true, F_laws_heldWorkshop N⟩ :=
  have E : Env Try.prog Γ_laws_heldWorkshop := env_of tab ⟨C_laws_heldGraph, ⟨C_laws_heldIntS, trivial⟩⟩
  con_of (Pc := []) E mixed Try.func31 (by kernel_rfl) (by kernel_rfl) (by kernel_rfl) (by kernel_rfl) (fun A hA => trivial) (F_laws_heldWorkshop_ok N)
theorem C_laws_heldWorkshop : Contract Try.prog 31 S_laws_heldWorkshop := C_laws_heldWorkshop_raw 0
theorem C_laws_FnExactNewWorkshop_raw (N : Nat) : Contract Try.prog 5 ⟨[(K_PiSPiiqq, false)], [.bool], true, F_laws_FnExactNewWorkshop N⟩ :=
  have E : Env Try.prog Γ_laws_FnExactNewWorkshop := env_of tab ⟨C_laws_eqWorkshop, ⟨C_laws_szGraph, ⟨C_spec_NewWorkshop, ⟨C_laws_toGraph, ⟨C_impl_NewWorkshop, ⟨C_laws_eqGraph, ⟨C_laws_markGraph, ⟨C_laws_markWorkshop, ⟨C_laws_heldWorkshop, trivial⟩⟩⟩⟩⟩⟩⟩⟩⟩
  con_of (Pc := []) E mixed Try.func5 (by kernel_rfl) (by kernel_rfl) (by kernel_rfl) (by kernel_rfl) (fun A hA => trivial) (F_laws_FnExactNewWorkshop_ok N)
theorem C_laws_FnExactNewWorkshop : Contract Try.prog 5 S_laws_FnExactNewWorkshop := C_laws_FnExactNewWorkshop_raw 0
theorem C_laws_szIntSS_raw (N : Nat) : Contract Try.prog 80 ⟨[(K_SSi, false), (I, false)], [I], true, F_laws_szIntSS N⟩ :=
  have E : Env Try.prog Γ_laws_szIntSS := env_of tab ⟨C_laws_szIntS, trivial⟩
  con_of (Pc := [(0, ⟨laws_szIntSS_l0_h, laws_szIntSS_l0_o, laws_szIntSS_l0 N N⟩)]) E mixed Try.func80 (by kernel_rfl) (by kernel_rfl) (by kernel_rfl) (by kernel_rfl) (fun A hA => ⟨pc_of (inner := []) E mixed hA (by kernel_rfl) (by kernel_rfl) (by kernel_rfl) trivial (fun _ => rfl) (fun m d => (laws_szIntSS_l0_ok N (laws_szIntSS_l0 N m) d).symm) N, trivial⟩) (F_laws_szIntSS_ok N)
theorem C_laws_szIntSS : Contract Try.prog 80 S_laws_szIntSS := Contract.less (fun N : Nat => F_laws_szIntSS N) C_laws_szIntSS_raw szIntSS_lim
theorem C_laws_szTimetable_raw (N : Nat) : Contract Try.prog 32 ⟨[(K_PPiSPiiqqiSSiq, false), (I, false)], [I], true, F_laws_szTimetable N⟩ :=
  have E : Env Try.prog Γ_laws_szTimetable := env_of tab ⟨C_laws_szGraph, ⟨C_laws_szIntSS, trivial⟩⟩
  con_of (Pc := []) E mixed Try.func32 (by kernel_rfl) (by kernel_rfl) (by kernel_rfl) (by kernel_rfl) (fun A hA => trivial) (F_laws_szTimetable_ok N)
theorem C_laws_szTimetable : Contract Try.prog 32 S_laws_szTimetable := C_laws_szTimetable_raw 0
theorem C_laws_toIntSS_raw (N : Nat) : Contract Try.prog 82 ⟨[(K_SSi, false)], [K_SSi], true, F_laws_toIntSS N⟩ :=
  have E : Env Try.prog Γ_laws_toIntSS := env_of tab ⟨C_laws_toIntS, trivial⟩
  con_of (Pc := [(0, ⟨laws_toIntSS_l0_h, laws_toIntSS_l0_o, laws_toIntSS_l0 N N⟩)]) E mixed Try.func82 (by kernel_rfl) (by kernel_rfl) (by kernel_rfl) (by kernel_rfl) (fun A hA => ⟨pc_of (inner := []) E mixed hA (by kernel_rfl) (by kernel_rfl) (by kernel_rfl) trivial (fun _ => rfl) (fun m d => (laws_toIntSS_l0_ok N (laws_toIntSS_l0 N m) d).symm) N, trivial⟩) (F_laws_toIntSS_ok N)
theorem C_laws_toIntSS : Contract Try.prog 82 S_laws_toIntSS := Contract.less (fun N : Nat => F_laws_toIntSS N) C_laws_toIntSS_raw toIntSS_lim
theorem C_laws_toTimetable_raw (N : Nat) : Contract Try.prog 34 ⟨[(K_PPiSPiiqqiSSiq, false)], [K_PPiSPiiqqiSSiq], true, F_laws_toTimetable N⟩ :=
  have E : Env Try.prog Γ_laws_toTimetable := env_of tab ⟨C_laws_toGraph, ⟨C_laws_toIntSS, trivial⟩⟩
  con_of (Pc := []) E mixed Try.func34 (by kernel_rfl) (by kernel_rfl) (by kernel_rfl) (by kernel_rfl) (fun A hA => trivial) (F_laws_toTimetable_ok N)
theorem C_laws_toTimetable : Contract Try.prog 34 S_laws_toTimetable := C_laws_toTimetable_raw 0
theorem C_spec_l4Field_raw (N : Nat) : Contract Try.prog 88 ⟨[(K_PiSPiiqq, false), (I, false)], [.bool], true, F_spec_l4Field N⟩ :=
  have E : Env Try.prog Γ_spec_l4Field := env_of tab ⟨C_spec_l2Good, ⟨C_spec_l1In, trivial⟩⟩
  con_of (Pc := []) E mixed Try.func88 (by kernel_rfl) (by kernel_rfl) (by kernel_rfl) (by kernel_rfl) (fun A hA => trivial) (F_spec_l4Field_ok N)
theorem C_spec_l4Field : Contract Try.prog 88 S_spec_l4Field := C_spec_l4Field_raw 0
theorem C_spec_l11Good_raw (N : Nat) : Contract Try.prog 81 ⟨[(K_PPiSPiiqqiSSiq, false)], [.bool], true, F_spec_l11Good N⟩ :=
  have E : Env Try.prog Γ_spec_l11Good := env_of tab ⟨C_spec_l4Field, ⟨C_spec_l1In, ⟨C_spec_l1Rising, trivial⟩⟩⟩
  con_of (Pc := [(0, ⟨spec_l11Good_l0_h, spec_l11Good_l0_o, spec_l11Good_l0 N N⟩)]) E mixed Try.func81 (by kernel_rfl) (by kernel_rfl) (by kernel_rfl) (by kernel_rfl) (fun A hA => ⟨pc_of (inner := []) E mixed hA (by kernel_rfl) (by kernel_rfl) (by kernel_rfl) trivial (fun _ => rfl) (fun m d => (spec_l11Good_l0_ok N (spec_l11Good_l0 N m) d).symm) N, trivial⟩) (F_spec_l11Good_ok N)
theorem C_spec_l11Good : Contract Try.prog 81 S_spec_l11Good := Contract.less (fun N : Nat => F_spec_l11Good N) C_spec_l11Good_raw l11Good_lim
theorem C_spec_IsTimetable_raw (N : Nat) : Contract Try.prog 33 ⟨[(K_PPiSPiiqqiSSiq, false)], [.bool], true, F_spec_IsTimetable N⟩ :=
  have E : Env Try.prog Γ_spec_IsTimetable := env_of tab ⟨C_spec_l11Good, trivial⟩
  con_of (Pc := []) E mixed Try.func33 (by kernel_rfl) (by kernel_rfl) (by kernel_rfl) (by kernel_rfl) (fun A hA => trivial) (F_spec_IsTimetable_ok N)
theorem C_spec_IsTimetable : Contract Try.prog 33 S_spec_IsTimetable := C_spec_IsTimetable_raw 0
theorem C_impl_IsTimetable_1_raw (N : Nat) : Contract Try.prog 84 ⟨[(K_Si, false), (K_BPPiSPiiqqiSSiq, false)], [.bool], true, F_impl_IsTimetable_1 N⟩ :=
  have E : Env Try.prog Γ_impl_IsTimetable_1 := env_of tab ⟨C_impl_increasing, ⟨C_impl_allWithin, trivial⟩⟩
  con_of (Pc := []) E mixed Try.func84 (by kernel_rfl) (by kernel_rfl) (by kernel_rfl) (by kernel_rfl) (fun A hA => trivial) (F_impl_IsTimetable_1_ok N)
theorem C_impl_IsTimetable_1 : Contract Try.prog 84 S_impl_IsTimetable_1 := C_impl_IsTimetable_1_raw 0
theorem CV_impl_IsTimetable_1 : ContractV Try.prog SV_impl_IsTimetable_1 := conV_0_1_1 C_impl_IsTimetable_1
theorem C_slices_IndexFunc_SSint_Sint_f84_raw (N : Nat) : Contract Try.prog 129 ⟨[(K_SSi, false), (K_F84qPBPPiSPiiqqiSSiqq, false)], [I], true, F_slices_IndexFunc_SSint_Sint_f84 N⟩ :=
  have E : Env Try.prog Γ_slices_IndexFunc_SSint_Sint_f84 := env_ofV tab trivial ⟨CV_impl_IsTimetable_1, trivial⟩
  con_of (Pc := [(0, ⟨slices_IndexFunc_SSint_Sint_f84_l0_h, slices_IndexFunc_SSint_Sint_f84_l0_o, slices_IndexFunc_SSint_Sint_f84_l0 N N⟩)]) E mixed Try.func129 (by kernel_rfl) (by kernel_rfl) (by kernel_rfl) (by kernel_rfl) (fun A hA => ⟨pc_of (inner := []) E mixed hA (by kernel_rfl) (by kernel_rfl) (by kernel_rfl) trivial (fun _ => rfl) (fun m d => (slices_IndexFunc_SSint_Sint_f84_l0_ok N (slices_IndexFunc_SSint_Sint_f84_l0 N m) d).symm) N, trivial⟩) (F_slices_IndexFunc_SSint_Sint_f84_ok N)
theorem C_slices_IndexFunc_SSint_Sint_f84 : Contract Try.prog 129 S_slices_IndexFunc_SSint_Sint_f84 := Contract.less (fun N : Nat => F_slices_IndexFunc_SSint_Sint_f84 N) C_slices_IndexFunc_SSint_Sint_f84_raw index84_lim
theorem C_slices_ContainsFunc_SSint_Sint_f84_raw (N : Nat) : Contract Try.prog 83 ⟨[(K_SSi, false), (K_F84qPBPPiSPiiqqiSSiqq, false)], [.bool], true, F_slices_ContainsFunc_SSint_Sint_f84 N⟩ :=
  have E : Env Try.prog Γ_slices_ContainsFunc_SSint_Sint_f84 := env_of tab ⟨C_slices_IndexFunc_SSint_Sint_f84, trivial⟩
  con_of (Pc := []) E mixed Try.func83 (by kernel_rfl) (by kernel_rfl) (by kernel_rfl) (by kernel_rfl) (fun A hA => trivial) (F_slices_ContainsFunc_SSint_Sint_f84_ok N)
theorem C_slices_ContainsFunc_SSint_Sint_f84 : Contract Try.prog 83 S_slices_ContainsFunc_SSint_Sint_f84 := C_slices_ContainsFunc_SSint_Sint_f84_raw 0
theorem C_impl_IsTimetable_raw (N : Nat) : Contract Try.prog 35 ⟨[(K_PPiSPiiqqiSSiq, false)], [.bool], true, F_impl_IsTimetable N⟩ :=
  have E : Env Try.prog Γ_impl_IsTimetable := env_ofV tab ⟨C_impl_within, ⟨C_impl_IsGraph, ⟨C_slices_ContainsFunc_SSint_Sint_f84, trivial⟩⟩⟩ trivial
  con_of (Pc := []) E mixed Try.func35 (by kernel_rfl) (by kernel_rfl) (by kernel_rfl) (by kernel_rfl) (fun A hA => trivial) (F_impl_IsTimetable_ok N)
theorem C_impl_IsTimetable : Contract Try.prog 35 S_impl_IsTimetable := C_impl_IsTimetable_raw 0
theorem C_laws_eqIntSS_raw (N : Nat) : Contract Try.prog 87 ⟨[(K_SSi, false), (K_SSi, false)], [.bool], true, F_laws_eqIntSS N⟩ :=
  have E : Env Try.prog Γ_laws_eqIntSS := env_of tab ⟨C_laws_eqIntS, trivial⟩
  con_of (Pc := [(0, ⟨laws_eqIntSS_l0_h, laws_eqIntSS_l0_o, laws_eqIntSS_l0 N N⟩)]) E mixed Try.func87 (by kernel_rfl) (by kernel_rfl) (by kernel_rfl) (by kernel_rfl) (fun A hA => ⟨pc_of (inner := []) E mixed hA (by kernel_rfl) (by kernel_rfl) (by kernel_rfl) trivial (fun _ => rfl) (fun m d => (laws_eqIntSS_l0_ok N (laws_eqIntSS_l0 N m) d).symm) N, trivial⟩) (F_laws_eqIntSS_ok N)
theorem C_laws_eqIntSS : Contract Try.prog 87 S_laws_eqIntSS := Contract.less (fun N : Nat => F_laws_eqIntSS N) C_laws_eqIntSS_raw eqIntSS_lim
theorem C_laws_eqTimetable_raw (N : Nat) : Contract Try.prog 36 ⟨[(K_PPiSPiiqqiSSiq, false), (K_PPiSPiiqqiSSiq, false)], [.bool], true, F_laws_eqTimetable N⟩ :=
  have E : Env Try.prog Γ_laws_eqTimetable := env_of tab ⟨C_laws_eqGraph, ⟨C_laws_eqIntSS, trivial⟩⟩
  con_of (Pc := []) E mixed Try.func36 (by kernel_rfl) (by kernel_rfl) (by kernel_rfl) (by kernel_rfl) (fun A hA => trivial) (F_laws_eqTimetable_ok N)
theorem C_laws_eqTimetable : Contract Try.prog 36 S_laws_eqTimetable := C_laws_eqTimetable_raw 0
theorem C_laws_FnExactIsTimetable_raw (N : Nat) : Contract Try.prog 6 ⟨[(K_PPiSPiiqqiSSiq, false)], [.bool], true, F_laws_FnExactIsTimetable N⟩ :=
  have E : Env Try.prog Γ_laws_FnExactIsTimetable := env_of tab ⟨C_laws_szTimetable, ⟨C_spec_IsTimetable, ⟨C_laws_toTimetable, ⟨C_impl_IsTimetable, ⟨C_laws_eqTimetable, trivial⟩⟩⟩⟩⟩
  con_of (Pc := []) E mixed Try.func6 (by kernel_rfl) (by kernel_rfl) (by kernel_rfl) (by kernel_rfl) (fun A hA => trivial) (F_laws_FnExactIsTimetable_ok N)
theorem C_laws_FnExactIsTimetable : Contract Try.prog 6 S_laws_FnExactIsTimetable := C_laws_FnExactIsTimetable_raw 0
theorem C_spec_StaticTimetable_raw (N : Nat) : Contract Try.prog 37 ⟨[(K_PiSPiiqq, false)], [K_PPiSPiiqqiSSiq, .bool], true, F_spec_StaticTimetable N⟩ :=
  have E : Env Try.prog Γ_spec_StaticTimetable := env_of tab ⟨C_spec_l4Field, trivial⟩
  con_of (Pc := [(0, ⟨spec_StaticTimetable_l0_h, spec_StaticTimetable_l0_o, spec_StaticTimetable_l0 N N⟩)]) E mixed Try.func37 (by kernel_rfl) (by kernel_rfl) (by kernel_rfl) (by kernel_rfl) (fun A hA => ⟨pc_of (inner := []) E mixed hA (by kernel_rfl) (by kernel_rfl) (by kernel_rfl) trivial (fun _ => rfl) (fun m d => (spec_StaticTimetable_l0_ok N (spec_StaticTimetable_l0 N m) d).symm) N, trivial⟩) (F_spec_StaticTimetable_ok N)
theorem C_spec_StaticTimetable : Contract Try.prog 37 S_spec_StaticTimetable := Contract.less (fun N : Nat => F_spec_StaticTimetable N) C_spec_StaticTimetable_raw specStatic_lim
theorem C_impl_StaticTimetable_raw (N : Nat) : Contract Try.prog 38 ⟨[(K_PiSPiiqq, false)], [K_PPiSPiiqqiSSiq, .bool], true, F_impl_StaticTimetable N⟩ :=
  have E : Env Try.prog Γ_impl_StaticTimetable := env_of tab ⟨C_impl_IsGraph, ⟨C_slices_Clone_S_2_int_2_int, trivial⟩⟩
  con_of (Pc := [(0, ⟨impl_StaticTimetable_l0_h, impl_StaticTimetable_l0_o, impl_StaticTimetable_l0 N N⟩)]) E mixed Try.func38 (by kernel_rfl) (by kernel_rfl) (by kernel_rfl) (by kernel_rfl) (fun A hA => ⟨pc_of (inner := []) E mixed hA (by kernel_rfl) (by kernel_rfl) (by kernel_rfl) trivial (fun _ => rfl) (fun m d => (impl_StaticTimetable_l0_ok N (impl_StaticTimetable_l0 N m) d).symm) N, trivial⟩) (F_impl_StaticTimetable_ok N)
theorem C_impl_StaticTimetable : Contract Try.prog 38 S_impl_StaticTimetable := Contract.less (fun N : Nat => F_impl_StaticTimetable N) C_impl_StaticTimetable_raw implStatic_lim
theorem C_laws_markIntSS_raw (N : Nat) : Contract Try.prog 89 ⟨[(K_SSi, true), (I, false)], [I], true, F_laws_markIntSS N⟩ :=
  have E : Env Try.prog Γ_laws_markIntSS := env_of tab ⟨C_laws_markIntS, trivial⟩
  con_of (Pc := [(0, ⟨laws_markIntSS_l0_h, laws_markIntSS_l0_o, laws_markIntSS_l0 N N⟩)]) E mixed Try.func89 (by kernel_rfl) (by kernel_rfl) (by kernel_rfl) (by kernel_rfl) (fun A hA => ⟨pc_of (inner := []) E mixed hA (by kernel_rfl) (by kernel_rfl) (by kernel_rfl) trivial (fun _ => rfl) (fun m d => (laws_markIntSS_l0_ok N (laws_markIntSS_l0 N m) d).symm) N, trivial⟩) (F_laws_markIntSS_ok N)
theorem C_laws_markIntSS : Contract Try.prog 89 S_laws_markIntSS := Contract.less (fun N : Nat => F_laws_markIntSS N) C_laws_markIntSS_raw markIntSS_lim
theorem C_laws_markTimetable_raw (N : Nat) : Contract Try.prog 39 ⟨[(K_PPiSPiiqqiSSiq, true), (I, false)], [I], true, F_laws_markTimetable N⟩ :=
  have E : Env Try.prog Γ_laws_markTimetable := env_of tab ⟨C_laws_markGraph, ⟨C_laws_markIntSS, trivial⟩⟩
  con_of (Pc := []) E mixed Try.func39 (by kernel_rfl) (by kernel_rfl) (by kernel_rfl) (by kernel_rfl) (fun A hA => trivial) (F_laws_markTimetable_ok N)
theorem C_laws_markTimetable : Contract Try.prog 39 S_laws_markTimetable := C_laws_markTimetable_raw 0
theorem C_laws_heldIntSS_raw (N : Nat) : Contract Try.prog 90 ⟨[(K_SSi, false), (I, false)], [I], true, F_laws_heldIntSS N⟩ :=
  have E : Env Try.prog Γ_laws_heldIntSS := env_of tab ⟨C_laws_heldIntS, trivial⟩
  con_of (Pc := [(0, ⟨laws_heldIntSS_l0_h, laws_heldIntSS_l0_o, laws_heldIntSS_l0 N N⟩)]) E mixed Try.func90 (by kernel_rfl) (by kernel_rfl) (by kernel_rfl) (by kernel_rfl) (fun A hA => ⟨pc_of (inner := []) E mixed hA (by kernel_rfl) (by kernel_rfl) (by kernel_rfl) trivial (fun _ => rfl) (fun m d => (laws_heldIntSS_l0_ok N (laws_heldIntSS_l0 N m) d).symm) N, trivial⟩) (F_laws_heldIntSS_ok N)
theorem C_laws_heldIntSS : Contract Try.prog 90 S_laws_heldIntSS := Contract.less (fun N : Nat => F_laws_heldIntSS N) C_laws_heldIntSS_raw heldIntSS_lim
theorem C_laws_heldTimetable_raw (N : Nat) : Contract Try.prog 40 ⟨[(K_PPiSPiiqqiSSiq, false), (I, false)], [I], true, F_laws_heldTimetable N⟩ :=
  have E : Env Try.prog Γ_laws_heldTimetable := env_of tab ⟨C_laws_heldGraph, ⟨C_laws_heldIntSS, trivial⟩⟩
  con_of (Pc := []) E mixed Try.func40 (by kernel_rfl) (by kernel_rfl) (by kernel_rfl) (by kernel_rfl) (fun A hA => trivial) (F_laws_heldTimetable_ok N)
theorem C_laws_heldTimetable : Contract Try.prog 40 S_laws_heldTimetable := C_laws_heldTimetable_raw 0
theorem C_laws_FnExactStaticTimetable_raw (N : Nat) : Contract Try.prog 7 ⟨[(K_PiSPiiqq, false)], [.bool], true, F_laws_FnExactStaticTimetable N⟩ :=
  have E : Env Try.prog Γ_laws_FnExactStaticTimetable := env_of tab ⟨C_laws_szGraph, ⟨C_laws_toGraph, ⟨C_laws_eqGraph, ⟨C_laws_markGraph, ⟨C_laws_eqTimetable, ⟨C_spec_StaticTimetable, ⟨C_impl_StaticTimetable, ⟨C_laws_markTimetable, ⟨C_laws_heldTimetable, trivial⟩⟩⟩⟩⟩⟩⟩⟩⟩
  con_of (Pc := []) E mixed Try.func7 (by kernel_rfl) (by kernel_rfl) (by kernel_rfl) (by kernel_rfl) (fun A hA => trivial) (F_laws_FnExactStaticTimetable_ok N)
theorem C_laws_FnExactStaticTimetable : Contract Try.prog 7 S_laws_FnExactStaticTimetable := C_laws_FnExactStaticTimetable_raw 0
theorem C_spec_l11Clock_raw (N : Nat) : Contract Try.prog 93 ⟨[(I, false)], [.bool], true, F_spec_l11Clock N⟩ :=
  have E : Env Try.prog Γ_spec_l11Clock := env_of tab ⟨C_spec_l1In, trivial⟩
  con_of (Pc := []) E mixed Try.func93 (by kernel_rfl) (by kernel_rfl) (by kernel_rfl) (by kernel_rfl) (fun A hA => trivial) (F_spec_l11Clock_ok N)
theorem C_spec_l11Clock : Contract Try.prog 93 S_spec_l11Clock := Contract.less (fun N : Nat => F_spec_l11Clock N) C_spec_l11Clock_raw (fun d r h => ⟨0, (F_spec_l11Clock_tot 0 d).trans h⟩)
theorem C_spec_l1Has_raw (N : Nat) : Contract Try.prog 131 ⟨[(K_Si, false), (I, false)], [.bool], true, F_spec_l1Has N⟩ :=
  have E : Env Try.prog Γ_spec_l1Has := env_of tab trivial
  con_of (Pc := [(0, ⟨spec_l1Has_l0_h, spec_l1Has_l0_o, spec_l1Has_l0 N N⟩)]) E mixed Try.func131 (by kernel_rfl) (by kernel_rfl) (by kernel_rfl) (by kernel_rfl) (fun A hA => ⟨pc_of (inner := []) E mixed hA (by kernel_rfl) (by kernel_rfl) (by kernel_rfl) trivial (fun _ => rfl) (fun m d => (spec_l1Has_l0_ok N (spec_l1Has_l0 N m) d).symm) N, trivial⟩) (F_spec_l1Has_ok N)
theorem C_spec_l1Has : Contract Try.prog 131 S_spec_l1Has := Contract.less (fun N : Nat => F_spec_l1Has N) C_spec_l1Has_raw l1Has_lim
theorem C_spec_l11Open_raw (N : Nat) : Contract Try.prog 94 ⟨[(K_PPiSPiiqqiSSiq, false), (I, false)], [K_PiSPiiqq], true, F_spec_l11Open N⟩ :=
  have E : Env Try.prog Γ_spec_l11Open := env_of tab ⟨C_spec_l1Has, trivial⟩
  con_of (Pc := [(0, ⟨spec_l11Open_l0_h, spec_l11Open_l0_o, spec_l11Open_l0 N N⟩)]) E mixed Try.func94 (by kernel_rfl) (by kernel_rfl) (by kernel_rfl) (by kernel_rfl) (fun A hA => ⟨pc_of (inner := []) E mixed hA (by kernel_rfl) (by kernel_rfl) (by kernel_rfl) trivial (fun _ => rfl) (fun m d => (spec_l11Open_l0_ok N (spec_l11Open_l0 N m) d).symm) N, trivial⟩) (F_spec_l11Open_ok N)
theorem C_spec_l11Open : Contract Try.prog 94 S_spec_l11Open := Contract.less (fun N : Nat => F_spec_l11Open N) C_spec_l11Open_raw l11Open_lim
theorem C_spec_OpenGraph_raw (N : Nat) : Contract Try.prog 46 ⟨[(K_PPiSPiiqqiSSiq, false), (I, false)], [K_PiSPiiqq, .bool], true, F_spec_OpenGraph N⟩ :=
  have E : Env Try.prog Γ_spec_OpenGraph := env_of tab ⟨C_spec_l11Good, ⟨C_spec_l11Clock, ⟨C_spec_l11Open, trivial⟩⟩⟩
  con_of (Pc := []) E mixed Try.func46 (by kernel_rfl) (by kernel_rfl) (by kernel_rfl) (by kernel_rfl) (fun A hA => trivial) (F_spec_OpenGraph_ok N)
theorem C_spec_OpenGraph : Contract Try.prog 46 S_spec_OpenGraph := C_spec_OpenGraph_raw 0
theorem C_impl_isClock_raw (N : Nat) : Contract Try.prog 95 ⟨[(I, false)], [.bool], true, F_impl_isClock N⟩ :=
  have E : Env Try.prog Γ_impl_isClock := env_of tab ⟨C_impl_within, trivial⟩
  con_of (Pc := []) E mixed Try.func95 (by kernel_rfl) (by kernel_rfl) (by kernel_rfl) (by kernel_rfl) (fun A hA => trivial) (F_impl_isClock_ok N)
theorem C_impl_isClock : Contract Try.prog 95 S_impl_isClock := Contract.less (fun N : Nat => F_impl_isClock N) C_impl_isClock_raw (fun d r h => ⟨0, (F_impl_isClock_tot 0 d).trans h⟩)
theorem C_impl_netOf_raw (N : Nat) : Contract Try.prog 108 ⟨[(K_PiSPiiqq, false)], [K_PSiq], true, F_impl_netOf N⟩ :=
  have E : Env Try.prog Γ_impl_netOf := env_of tab trivial
  con_of (Pc := [(0, ⟨impl_netOf_l0_h, impl_netOf_l0_o, impl_netOf_l0 N N⟩)]) E mixed Try.func108 (by kernel_rfl) (by kernel_rfl) (by kernel_rfl) (by kernel_rfl) (fun A hA => ⟨pc_of (inner := []) E mixed hA (by kernel_rfl) (by kernel_rfl) (by kernel_rfl) trivial (fun _ => rfl) (fun m d => (impl_netOf_l0_ok N (impl_netOf_l0 N m) d).symm) N, trivial⟩) (F_impl_netOf_ok N)
theorem C_impl_netOf : Contract Try.prog 108 S_impl_netOf := Contract.less (fun N : Nat => F_impl_netOf N) C_impl_netOf_raw netOf_lim
theorem C_slices_Index_Sint_int_raw (N : Nat) : Contract Try.prog 150 ⟨[(K_Si, false), (I, false)], [I], true, F_slices_Index_Sint_int N⟩ :=
  have E : Env Try.prog Γ_slices_Index_Sint_int := env_of tab trivial
  con_of (Pc := [(0, ⟨slices_Index_Sint_int_l0_h, slices_Index_Sint_int_l0_o, slices_Index_Sint_int_l0 N N⟩)]) E mixed Try.func150 (by kernel_rfl) (by kernel_rfl) (by kernel_rfl) (by kernel_rfl) (fun A hA => ⟨pc_of (inner := []) E mixed hA (by kernel_rfl) (by kernel_rfl) (by kernel_rfl) trivial (fun _ => rfl) (fun m d => (slices_Index_Sint_int_l0_ok N (slices_Index_Sint_int_l0 N m) d).symm) N, trivial⟩) (F_slices_Index_Sint_int_ok N)
theorem C_slices_Index_Sint_int : Contract Try.prog 150 S_slices_Index_Sint_int := Contract.less (fun N : Nat => F_slices_Index_Sint_int N) C_slices_Index_Sint_int_raw index_lim
theorem C_slices_Contains_Sint_int_raw (N : Nat) : Contract Try.prog 132 ⟨[(K_Si, false), (I, false)], [.bool], true, F_slices_Contains_Sint_int N⟩ :=
  have E : Env Try.prog Γ_slices_Contains_Sint_int := env_of tab ⟨C_slices_Index_Sint_int, trivial⟩
  con_of (Pc := []) E mixed Try.func132 (by kernel_rfl) (by kernel_rfl) (by kernel_rfl) (by kernel_rfl) (fun A hA => trivial) (F_slices_Contains_Sint_int_ok N)
theorem C_slices_Contains_Sint_int : Contract Try.prog 132 S_slices_Contains_Sint_int := C_slices_Contains_Sint_int_raw 0
theorem C_impl_openNets_raw (N : Nat) : Contract Try.prog 96 ⟨[(K_PPiSPiiqqiSSiq, false)], [K_SPSiq], true, F_impl_openNets N⟩ :=
  have E : Env Try.prog Γ_impl_openNets := env_of tab ⟨C_impl_netOf, ⟨C_slices_Contains_Sint_int, trivial⟩⟩
  con_of (Pc := [(0, ⟨impl_openNets_l0_h, impl_openNets_l0_o, impl_openNets_l0 N N⟩)]) E mixed Try.func96 (by kernel_rfl) (by kernel_rfl) (by kernel_rfl) (by kernel_rfl) (fun A hA => ⟨pc_of (inner := [(2, ⟨impl_openNets_l2_h, impl_openNets_l2_o, impl_openNets_l2 N N⟩)]) E mixed hA (by kernel_rfl) (by kernel_rfl) (by kernel_rfl) ⟨pc_of (inner := []) E mixed hA (by kernel_rfl) (by kernel_rfl) (by kernel_rfl) trivial (fun _ => rfl) (fun m d => (impl_openNets_l2_ok N (impl_openNets_l2 N m) d).symm) N, trivial⟩ (fun _ => rfl) (fun m d => (impl_openNets_l0_ok N (impl_openNets_l0 N m) d).symm) N, trivial⟩) (F_impl_openNets_ok N)
theorem C_impl_openNets : Contract Try.prog 96 S_impl_openNets := Contract.less (fun N : Nat => F_impl_openNets N) C_impl_openNets_raw openNets_lim
theorem C_impl_net_size_raw (N : Nat) : Contract Try.prog 134 ⟨[(K_PSiq, false)], [I], true, F_impl_net_size N⟩ :=
  have E : Env Try.prog Γ_impl_net_size := env_of tab trivial
  con_of (Pc := []) E mixed Try.func134 (by kernel_rfl) (by kernel_rfl) (by kernel_rfl) (by kernel_rfl) (fun A hA => trivial) (F_impl_net_size_ok N)
theorem C_impl_net_size : Contract Try.prog 134 S_impl_net_size := Contract.less (fun N : Nat => F_impl_net_size N) C_impl_net_size_raw (fun d r h => ⟨0, (F_impl_net_size_tot 0 d).trans h⟩)
theorem C_impl_net_has_raw (N : Nat) : Contract Try.prog 135 ⟨[(K_PSiq, false), (I, false), (I, false)], [.bool], true, F_impl_net_has N⟩ :=
  have E : Env Try.prog Γ_impl_net_has := env_of tab trivial
  con_of (Pc := []) E mixed Try.func135 (by kernel_rfl) (by kernel_rfl) (by kernel_rfl) (by kernel_rfl) (fun A hA => trivial) (F_impl_net_has_ok N)
theorem C_impl_net_has : Contract Try.prog 135 S_impl_net_has := C_impl_net_has_raw 0
theorem CV_impl_net_has : ContractV Try.prog SV_impl_net_has := conV_1_2_0 C_impl_net_has
theorem C_impl_graphBy_f135_raw (N : Nat) : Contract Try.prog 133 ⟨[(I, false), (K_F135PPSiqqq, false)], [K_PiSPiiqq], true, F_impl_graphBy_f135 N⟩ :=
  have E : Env Try.prog Γ_impl_graphBy_f135 := env_ofV tab trivial ⟨CV_impl_net_has, trivial⟩
  con_of (Pc := [(0, ⟨impl_graphBy_f135_l0_h, impl_graphBy_f135_l0_o, impl_graphBy_f135_l0 N N⟩)]) E mixed Try.func133 (by kernel_rfl) (by kernel_rfl) (by kernel_rfl) (by kernel_rfl) (fun A hA => ⟨pc_of (inner := [(2, ⟨impl_graphBy_f135_l2_h, impl_graphBy_f135_l2_o, impl_graphBy_f135_l2 N N⟩)]) E mixed hA (by kernel_rfl) (by kernel_rfl) (by kernel_rfl) ⟨pc_of (inner := []) E mixed hA (by kernel_rfl) (by kernel_rfl) (by kernel_rfl) trivial (fun _ => rfl) (fun m d => (impl_graphBy_f135_l2_ok N (impl_graphBy_f135_l2 N m) d).symm) N, trivial⟩ (fun _ => rfl) (fun m d => (impl_graphBy_f135_l0_ok N (impl_graphBy_f135_l0 N m) d).symm) N, trivial⟩) (F_impl_graphBy_f135_ok N)
theorem C_impl_graphBy_f135 : Contract Try.prog 133 S_impl_graphBy_f135 := Contract.less (fun N : Nat => F_impl_graphBy_f135 N) C_impl_graphBy_f135_raw graphBy135_lim
theorem C_impl_net_graph_raw (N : Nat) : Contract Try.prog 97 ⟨[(K_PSiq, false)], [K_PiSPiiqq], true, F_impl_net_graph N⟩ :=
  have E : Env Try.prog Γ_impl_net_graph := env_of tab ⟨C_impl_graphBy_f135, ⟨C_impl_net_size, trivial⟩⟩
  con_of (Pc := []) E mixed Try.func97 (by kernel_rfl) (by kernel_rfl) (by kernel_rfl) (by kernel_rfl) (fun A hA => trivial) (F_impl_net_graph_ok N)
theorem C_impl_net_graph : Contract Try.prog 97 S_impl_net_graph := C_impl_net_graph_raw 0
theorem C_impl_OpenGraph_raw (N : Nat) : Contract Try.prog 47 ⟨[(K_PPiSPiiqqiSSiq, false), (I, false)], [K_PiSPiiqq, .bool], true, F_impl_OpenGraph N⟩ :=
  have E : Env Try.prog Γ_impl_OpenGraph := env_of tab ⟨C_impl_IsTimetable, ⟨C_impl_isClock, ⟨C_impl_openNets, ⟨C_impl_net_graph, trivial⟩⟩⟩⟩
  con_of (Pc := []) E mixed Try.func47 (by kernel_rfl) (by kernel_rfl) (by kernel_rfl) (by kernel_rfl) (fun A hA => trivial) (F_impl_OpenGraph_ok N)
theorem C_impl_OpenGraph : Contract Try.prog 47 S_impl_OpenGraph := C_impl_OpenGraph_raw 0
theorem C_laws_FnExactOpenGraph_raw (N : Nat) : Contract Try.prog 9 ⟨[(K_PPiSPiiqqiSSiq, false), (I, false)], [.bool], true, F_laws_FnExactOpenGraph N⟩ :=
  have E : Env Try.prog Γ_laws_FnExactOpenGraph := env_of tab ⟨C_laws_eqGraph, ⟨C_laws_markGraph, ⟨C_laws_szTimetable, ⟨C_laws_toTimetable, ⟨C_laws_eqTimetable, ⟨C_laws_markTimetable, ⟨C_spec_OpenGraph, ⟨C_impl_OpenGraph, ⟨C_laws_heldGraph, trivial⟩⟩⟩⟩⟩⟩⟩⟩⟩
  con_of (Pc := []) E mixed Try.func9 (by kernel_rfl) (by kernel_rfl) (by kernel_rfl) (by kernel_rfl) (fun A hA => trivial) (F_laws_FnExactOpenGraph_ok N)
theorem C_laws_FnExactOpenGraph : Contract Try.prog 9 S_laws_FnExactOpenGraph := C_laws_FnExactOpenGraph_raw 0
theorem C_spec_l2Node_raw (N : Nat) : Contract Try.prog 103 ⟨[(K_PiSPiiqq, false), (I, false)], [.bool], true, F_spec_l2Node N⟩ :=
  have E : Env Try.prog Γ_spec_l2Node := env_of tab ⟨C_spec_l1In, trivial⟩
  con_of (Pc := []) E mixed Try.func103 (by kernel_rfl) (by kernel_rfl) (by kernel_rfl) (by kernel_rfl) (fun A hA => trivial) (F_spec_l2Node_ok N)
theorem C_spec_l2Node : Contract Try.prog 103 S_spec_l2Node := Contract.less (fun N : Nat => F_spec_l2Node N) C_spec_l2Node_raw (fun d r h => ⟨0, (F_spec_l2Node_tot 0 d).trans h⟩)
theorem C_spec_l2Near_raw (N : Nat) : Contract Try.prog 156 ⟨[(K_PiSPiiqq, false), (I, false), (I, false)], [.bool], true, F_spec_l2Near N⟩ :=
  have E : Env Try.prog Γ_spec_l2Near := env_of tab trivial
  con_of (Pc := [(0, ⟨spec_l2Near_l0_h, spec_l2Near_l0_o, spec_l2Near_l0 N N⟩)]) E mixed Try.func156 (by kernel_rfl) (by kernel_rfl) (by kernel_rfl) (by kernel_rfl) (fun A hA => ⟨pc_of (inner := []) E mixed hA (by kernel_rfl) (by kernel_rfl) (by kernel_rfl) trivial (fun _ => rfl) (fun m d => (spec_l2Near_l0_ok N (spec_l2Near_l0 N m) d).symm) N, trivial⟩) (F_spec_l2Near_ok N)
theorem C_spec_l2Near : Contract Try.prog 156 S_spec_l2Near := Contract.less (fun N : Nat => F_spec_l2Near N) C_spec_l2Near_raw l2Near_lim
theorem C_spec_l2Neighbors_raw (N : Nat) : Contract Try.prog 140 ⟨[(K_PiSPiiqq, false), (I, false)], [K_Si], true, F_spec_l2Neighbors N⟩ :=
  have E : Env Try.prog Γ_spec_l2Neighbors := env_of tab ⟨C_spec_l2Near, trivial⟩
  con_of (Pc := [(0, ⟨spec_l2Neighbors_l0_h, spec_l2Neighbors_l0_o, spec_l2Neighbors_l0 N N⟩)]) E mixed Try.func140 (by kernel_rfl) (by kernel_rfl) (by kernel_rfl) (by kernel_rfl) (fun A hA => ⟨pc_of (inner := []) E mixed hA (by kernel_rfl) (by kernel_rfl) (by kernel_rfl) trivial (fun _ => rfl) (fun m d => (spec_l2Neighbors_l0_ok N (spec_l2Neighbors_l0 N m) d).symm) N, trivial⟩) (F_spec_l2Neighbors_ok N)
theorem C_spec_l2Neighbors : Contract Try.prog 140 S_spec_l2Neighbors := Contract.less (fun N : Nat => F_spec_l2Neighbors N) C_spec_l2Neighbors_raw l2Neighbors_lim
theorem C_spec_l1Put_raw (N : Nat) : Contract Try.prog 136 ⟨[(K_Si, false), (I, false)], [K_Si], false, F_spec_l1Put N⟩ :=
  have E : Env Try.prog Γ_spec_l1Put := env_of tab trivial
  con_of (Pc := [(0, ⟨spec_l1Put_l0_h, spec_l1Put_l0_o, spec_l1Put_l0 N N⟩)]) E mixed Try.func136 (by kernel_rfl) (by kernel_rfl) (by kernel_rfl) (by kernel_rfl) (fun A hA => ⟨pc_of (inner := []) E mixed hA (by kernel_rfl) (by kernel_rfl) (by kernel_rfl) trivial (fun _ => rfl) (fun m d => (spec_l1Put_l0_ok N (spec_l1Put_l0 N m) d).symm) N, trivial⟩) (F_spec_l1Put_ok N)
theorem C_spec_l1Put : Contract Try.prog 136 S_spec_l1Put := Contract.less (fun N : Nat => F_spec_l1Put N) C_spec_l1Put_raw l1Put_lim
theorem C_spec_l2Ball_raw (N : Nat) : Contract Try.prog 110 ⟨[(K_PiSPiiqq, false), (I, false)], [K_Si], false, F_spec_l2Ball N⟩ :=
  have E : Env Try.prog Γ_spec_l2Ball := env_of tab ⟨C_spec_l1Put, ⟨C_spec_l2Neighbors, trivial⟩⟩
  con_of (Pc := []) E mixed Try.func110 (by kernel_rfl) (by kernel_rfl) (by kernel_rfl) (by kernel_rfl) (fun A hA => trivial) (F_spec_l2Ball_ok N)
theorem C_spec_l2Ball : Contract Try.prog 110 S_spec_l2Ball := C_spec_l2Ball_raw 0
theorem C_spec_l11Reached_raw (N : Nat) : Contract Try.prog 104 ⟨[(K_PPiSPiiqqiSSiq, false), (K_Si, false), (I, false)], [K_Si], false, F_spec_l11Reached N⟩ :=
  have E : Env Try.prog Γ_spec_l11Reached := env_ofV tab ⟨C_spec_l11Open, ⟨C_spec_l2Ball, ⟨C_spec_l1Put, trivial⟩⟩⟩ trivial
  con_of (Pc := [(0, ⟨spec_l11Reached_l0_h, spec_l11Reached_l0_o, spec_l11Reached_l0 N N⟩)]) E mixed Try.func104 (by kernel_rfl) (by kernel_rfl) (by kernel_rfl) (by kernel_rfl) (fun A hA => ⟨pc_of (inner := [(2, ⟨spec_l11Reached_l2_h, spec_l11Reached_l2_o, spec_l11Reached_l2 N N⟩)]) E mixed hA (by kernel_rfl) (by kernel_rfl) (by kernel_rfl) ⟨pc_of (inner := []) E mixed hA (by kernel_rfl) (by kernel_rfl) (by kernel_rfl) trivial (fun _ => rfl) (fun m d => (spec_l11Reached_l2_ok N (spec_l11Reached_l2 N m) d).symm) N, trivial⟩ (fun _ => rfl) (fun m d => (spec_l11Reached_l0_ok N (spec_l11Reached_l0 N m) d).symm) N, trivial⟩) (F_spec_l11Reached_ok N)
theorem C_spec_l11Reached : Contract Try.prog 104 S_spec_l11Reached := Contract.less (fun N : Nat => F_spec_l11Reached N) C_spec_l11Reached_raw l11Reached_lim
theorem C_spec_ReachedBy_raw (N : Nat) : Contract Try.prog 51 ⟨[(K_PPiSPiiqqiSSiq, false), (I, false), (I, false), (I, false)], [K_Si, .bool], false, F_spec_ReachedBy N⟩ :=
  have E : Env Try.prog Γ_spec_ReachedBy := env_ofV tab ⟨C_spec_l11Good, ⟨C_spec_l11Clock, ⟨C_spec_l2Node, ⟨C_spec_l11Reached, trivial⟩⟩⟩⟩ trivial
  con_of (Pc := [(0, ⟨spec_ReachedBy_l0_h, spec_ReachedBy_l0_o, spec_ReachedBy_l0 N N⟩)]) E mixed Try.func51 (by kernel_rfl) (by kernel_rfl) (by kernel_rfl) (by kernel_rfl) (fun A hA => ⟨pc_of (inner := []) E mixed hA (by kernel_rfl) (by kernel_rfl) (by kernel_rfl) trivial (fun _ => rfl) (fun m d => (spec_ReachedBy_l0_ok N (spec_ReachedBy_l0 N m) d).symm) N, trivial⟩) (F_spec_ReachedBy_ok N)
theorem C_spec_ReachedBy : Contract Try.prog 51 S_spec_ReachedBy := Contract.less (fun N : Nat => F_spec_ReachedBy N) C_spec_ReachedBy_raw specRB_lim
theorem C_impl_isTimed_raw (N : Nat) : Contract Try.prog 101 ⟨[(K_PPiSPiiqqiSSiq, false), (I, false), (K_Si, false)], [.bool], true, F_impl_isTimed N⟩ :=
  have E : Env Try.prog Γ_impl_isTimed := env_of tab ⟨C_impl_IsTimetable, ⟨C_impl_allWithin, ⟨C_impl_isClock, trivial⟩⟩⟩
  con_of (Pc := []) E mixed Try.func101 (by kernel_rfl) (by kernel_rfl) (by kernel_rfl) (by kernel_rfl) (fun A hA => trivial) (F_impl_isTimed_ok N)
theorem C_impl_isTimed : Contract Try.prog 101 S_impl_isTimed := C_impl_isTimed_raw 0
theorem C_impl_net_around_raw (N : Nat) : Contract Try.prog 105 ⟨[(K_PSiq, false), (I, false)], [I], true, F_impl_net_around N⟩ :=
  have E : Env Try.prog Γ_impl_net_around := env_of tab trivial
  con_of (Pc := [(0, ⟨impl_net_around_l0_h, impl_net_around_l0_o, impl_net_around_l0 N N⟩)]) E mixed Try.func105 (by kernel_rfl) (by kernel_rfl) (by kernel_rfl) (by kernel_rfl) (fun A hA => ⟨pc_of (inner := []) E mixed hA (by kernel_rfl) (by kernel_rfl) (by kernel_rfl) trivial (fun _ => rfl) (fun m d => (impl_net_around_l0_ok N (impl_net_around_l0 N m) d).symm) N, trivial⟩) (F_impl_net_around_ok N)
theorem C_impl_net_around : Contract Try.prog 105 S_impl_net_around := Contract.less (fun N : Nat => F_impl_net_around N) C_impl_net_around_raw around_lim
theorem C_impl_setOf_raw (N : Nat) : Contract Try.prog 106 ⟨[(I, false)], [K_Si], true, F_impl_setOf N⟩ :=
  have E : Env Try.prog Γ_impl_setOf := env_of tab trivial
  con_of (Pc := [(0, ⟨impl_setOf_l0_h, impl_setOf_l0_o, impl_setOf_l0 N N⟩)]) E mixed Try.func106 (by kernel_rfl) (by kernel_rfl) (by kernel_rfl) (by kernel_rfl) (fun A hA => ⟨pc_of (inner := []) E mixed hA (by kernel_rfl) (by kernel_rfl) (by kernel_rfl) trivial (fun _ => rfl) (fun m d => (impl_setOf_l0_ok N (impl_setOf_l0 N m) d).symm) N, trivial⟩) (F_impl_setOf_ok N)
theorem C_impl_setOf : Contract Try.prog 106 S_impl_setOf := Contract.less (fun N : Nat => F_impl_setOf N) C_impl_setOf_raw setOf_lim
theorem C_impl_ReachedBy_raw (N : Nat) : Contract Try.prog 52 ⟨[(K_PPiSPiiqqiSSiq, false), (I, false), (I, false), (I, false)], [K_Si, .bool], true, F_impl_ReachedBy N⟩ :=
  have E : Env Try.prog Γ_impl_ReachedBy := env_of tab ⟨C_impl_isClock, ⟨C_impl_openNets, ⟨C_impl_isTimed, ⟨C_impl_net_around, ⟨C_impl_setOf, trivial⟩⟩⟩⟩⟩
  con_of (Pc := [(0, ⟨impl_ReachedBy_l0_h, impl_ReachedBy_l0_o, impl_ReachedBy_l0 N N⟩)]) E mixed Try.func52 (by kernel_rfl) (by kernel_rfl) (by kernel_rfl) (by kernel_rfl) (fun A hA => ⟨pc_of (inner := []) E mixed hA (by kernel_rfl) (by kernel_rfl) (by kernel_rfl) trivial (fun _ => rfl) (fun m d => (impl_ReachedBy_l0_ok N (impl_ReachedBy_l0 N m) d).symm) N, trivial⟩) (F_impl_ReachedBy_ok N)
theorem C_impl_ReachedBy : Contract Try.prog 52 S_impl_ReachedBy := Contract.less (fun N : Nat => F_impl_ReachedBy N) C_impl_ReachedBy_raw implRB_lim
theorem C_laws_FnExactReachedBy_raw (N : Nat) : Contract Try.prog 11 ⟨[(K_PPiSPiiqqiSSiq, false), (I, false), (I, false), (I, false)], [.bool], true, F_laws_FnExactReachedBy N⟩ :=
  have E : Env Try.prog Γ_laws_FnExactReachedBy := env_of tab ⟨C_laws_szTimetable, ⟨C_laws_toTimetable, ⟨C_laws_eqTimetable, ⟨C_laws_markTimetable, ⟨C_spec_ReachedBy, ⟨C_impl_ReachedBy, ⟨C_laws_eqIntS, ⟨C_laws_markIntS, ⟨C_laws_heldIntS, trivial⟩⟩⟩⟩⟩⟩⟩⟩⟩
  con_of (Pc := []) E mixed Try.func11 (by kernel_rfl) (by kernel_rfl) (by kernel_rfl) (by kernel_rfl) (fun A hA => trivial) (F_laws_FnExactReachedBy_ok N)
theorem C_laws_FnExactReachedBy : Contract Try.prog 11 S_laws_FnExactReachedBy := C_laws_FnExactReachedBy_raw 0
theorem C_spec_l11Ends_raw (N : Nat) : Contract Try.prog 99 ⟨[(K_PPiSPiiqqiSSiq, false), (I, false), (I, false), (I, false)], [.bool], true, F_spec_l11Ends N⟩ :=
  have E : Env Try.prog Γ_spec_l11Ends := env_of tab ⟨C_spec_l11Good, ⟨C_spec_l11Clock, ⟨C_spec_l2Node, trivial⟩⟩⟩
  con_of (Pc := []) E mixed Try.func99 (by kernel_rfl) (by kernel_rfl) (by kernel_rfl) (by kernel_rfl) (fun A hA => trivial) (F_spec_l11Ends_ok N)
theorem C_spec_l11Ends : Contract Try.prog 99 S_spec_l11Ends := C_spec_l11Ends_raw 0
theorem C_spec_l11Arrive_raw (N : Nat) : Contract Try.prog 100 ⟨[(K_PPiSPiiqqiSSiq, false), (I, false), (I, false), (I, false)], [I], true, F_spec_l11Arrive N⟩ :=
  have E : Env Try.prog Γ_spec_l11Arrive := env_ofV tab ⟨C_spec_l11Reached, ⟨C_spec_l1Has, trivial⟩⟩ trivial
  con_of (Pc := [(0, ⟨spec_l11Arrive_l0_h, spec_l11Arrive_l0_o, spec_l11Arrive_l0 N N⟩)]) E mixed Try.func100 (by kernel_rfl) (by kernel_rfl) (by kernel_rfl) (by kernel_rfl) (fun A hA => ⟨pc_of (inner := []) E mixed hA (by kernel_rfl) (by kernel_rfl) (by kernel_rfl) trivial (fun _ => rfl) (fun m d => (spec_l11Arrive_l0_ok N (spec_l11Arrive_l0 N m) d).symm) N, trivial⟩) (F_spec_l11Arrive_ok N)
theorem C_spec_l11Arrive : Contract Try.prog 100 S_spec_l11Arrive := Contract.less (fun N : Nat => F_spec_l11Arrive N) C_spec_l11Arrive_raw l11Arrive_lim
theorem C_spec_EarliestArrival_raw (N : Nat) : Contract Try.prog 49 ⟨[(K_PPiSPiiqqiSSiq, false), (I, false), (I, false), (I, false)], [I, .bool], true, F_spec_EarliestArrival N⟩ :=
  have E : Env Try.prog Γ_spec_EarliestArrival := env_of tab ⟨C_spec_l11Ends, ⟨C_spec_l11Arrive, trivial⟩⟩
  con_of (Pc := []) E mixed Try.func49 (by kernel_rfl) (by kernel_rfl) (by kernel_rfl) (by kernel_rfl) (fun A hA => trivial) (F_spec_EarliestArrival_ok N)
theorem C_spec_EarliestArrival : Contract Try.prog 49 S_spec_EarliestArrival := C_spec_EarliestArrival_raw 0
theorem C_impl_earliestArrival_raw (N : Nat) : Contract Try.prog 102 ⟨[(K_PPiSPiiqqiSSiq, false), (I, false), (I, false), (I, false)], [I, .bool], true, F_impl_earliestArrival N⟩ :=
  have E : Env Try.prog Γ_impl_earliestArrival := env_of tab ⟨C_impl_openNets, ⟨C_impl_net_around, trivial⟩⟩
  con_of (Pc := [(0, ⟨impl_earliestArrival_l0_h, impl_earliestArrival_l0_o, impl_earliestArrival_l0 N N⟩)]) E mixed Try.func102 (by kernel_rfl) (by kernel_rfl) (by kernel_rfl) (by kernel_rfl) (fun A hA => ⟨pc_of (inner := []) E mixed hA (by kernel_rfl) (by kernel_rfl) (by kernel_rfl) trivial (fun _ => rfl) (fun m d => (impl_earliestArrival_l0_ok N (impl_earliestArrival_l0 N m) d).symm) N, trivial⟩) (F_impl_earliestArrival_ok N)
theorem C_impl_earliestArrival : Contract Try.prog 102 S_impl_earliestArrival := Contract.less (fun N : Nat => F_impl_earliestArrival N) C_impl_earliestArrival_raw earliestArrival_lim
theorem C_impl_EarliestArrival_raw (N : Nat) : Contract Try.prog 50 ⟨[(K_PPiSPiiqqiSSiq, false), (I, false), (I, false), (I, false)], [I, .bool], true, F_impl_EarliestArrival N⟩ :=
  have E : Env Try.prog Γ_impl_EarliestArrival := env_of tab ⟨C_impl_isTimed, ⟨C_impl_earliestArrival, trivial⟩⟩
  con_of (Pc := []) E mixed Try.func50 (by kernel_rfl) (by kernel_rfl) (by kernel_rfl) (by kernel_rfl) (fun A hA => trivial) (F_impl_EarliestArrival_ok N)
theorem C_impl_EarliestArrival : Contract Try.prog 50 S_impl_EarliestArrival := C_impl_EarliestArrival_raw 0
theorem C_laws_FnExactEarliestArrival_raw (N : Nat) : Contract Try.prog 10 ⟨[(K_PPiSPiiqqiSSiq, false), (I, false), (I, false), (I, false)], [.bool], true, F_laws_FnExactEarliestArrival N⟩ :=
  have E : Env Try.prog Γ_laws_FnExactEarliestArrival := env_of tab ⟨C_laws_szTimetable, ⟨C_laws_toTimetable, ⟨C_laws_eqTimetable, ⟨C_spec_EarliestArrival, ⟨C_impl_EarliestArrival, trivial⟩⟩⟩⟩⟩
  con_of (Pc := []) E mixed Try.func10 (by kernel_rfl) (by kernel_rfl) (by kernel_rfl) (by kernel_rfl) (fun A hA => trivial) (F_laws_FnExactEarliestArrival_ok N)
theorem C_laws_FnExactEarliestArrival : Contract Try.prog 10 S_laws_FnExactEarliestArrival := C_laws_FnExactEarliestArrival_raw 0
theorem C_spec_EarliestTrip_raw (N : Nat) : Contract Try.prog 58 ⟨[(K_PPiSPiiqqiSSiq, false), (I, false), (I, false), (I, false)], [K_Si, .bool], true, F_spec_EarliestTrip N⟩ :=
  have E : Env Try.prog Γ_spec_EarliestTrip := env_of tab ⟨C_spec_l11Open, ⟨C_spec_l11Ends, ⟨C_spec_l11Arrive, ⟨C_spec_l2Ball, trivial⟩⟩⟩⟩
  con_of (Pc := [(0, ⟨spec_EarliestTrip_l0_h, spec_EarliestTrip_l0_o, spec_EarliestTrip_l0 N N⟩)]) E mixed Try.func58 (by kernel_rfl) (by kernel_rfl) (by kernel_rfl) (by kernel_rfl) (fun A hA => ⟨pc_of (inner := [(2, ⟨spec_EarliestTrip_l2_h, spec_EarliestTrip_l2_o, spec_EarliestTrip_l2 N N⟩)]) E mixed hA (by kernel_rfl) (by kernel_rfl) (by kernel_rfl) ⟨pc_of (inner := []) E mixed hA (by kernel_rfl) (by kernel_rfl) (by kernel_rfl) trivial (fun _ => rfl) (fun m d => (spec_EarliestTrip_l2_ok N (spec_EarliestTrip_l2 N m) d).symm) N, trivial⟩ (fun _ => rfl) (fun m d => (spec_EarliestTrip_l0_ok N (spec_EarliestTrip_l0 N m) d).symm) N, trivial⟩) (F_spec_EarliestTrip_ok N)
theorem C_spec_EarliestTrip : Contract Try.prog 58 S_spec_EarliestTrip := Contract.less (fun N : Nat => F_spec_EarliestTrip N) C_spec_EarliestTrip_raw specTrip_lim
theorem C_impl_net_closed_raw (N : Nat) : Contract Try.prog 111 ⟨[(K_PSiq, false), (I, false)], [I], true, F_impl_net_closed N⟩ :=
  have E : Env Try.prog Γ_impl_net_closed := env_of tab trivial
  con_of (Pc := []) E mixed Try.func111 (by kernel_rfl) (by kernel_rfl) (by kernel_rfl) (by kernel_rfl) (fun A hA => trivial) (F_impl_net_closed_ok N)
theorem C_impl_net_closed : Contract Try.prog 111 S_impl_net_closed := C_impl_net_closed_raw 0
theorem C_impl_EarliestTrip_raw (N : Nat) : Contract Try.prog 59 ⟨[(K_PPiSPiiqqiSSiq, false), (I, false), (I, false), (I, false)], [K_Si, .bool], true, F_impl_EarliestTrip N⟩ :=
  have E : Env Try.prog Γ_impl_EarliestTrip := env_of tab ⟨C_impl_openNets, ⟨C_impl_isTimed, ⟨C_impl_earliestArrival, ⟨C_impl_net_around, ⟨C_impl_setOf, ⟨C_impl_net_closed, trivial⟩⟩⟩⟩⟩⟩
  con_of (Pc := [(0, ⟨impl_EarliestTrip_l0_h, impl_EarliestTrip_l0_o, impl_EarliestTrip_l0 N N⟩), (2, ⟨impl_EarliestTrip_l2_h, impl_EarliestTrip_l2_o, impl_EarliestTrip_l2 N N⟩)]) E mixed Try.func59 (by kernel_rfl) (by kernel_rfl) (by kernel_rfl) (by kernel_rfl) (fun A hA => ⟨pc_of (inner := []) E mixed hA (by kernel_rfl) (by kernel_rfl) (by kernel_rfl) trivial (fun _ => rfl) (fun m d => (impl_EarliestTrip_l0_ok N (impl_EarliestTrip_l0 N m) d).symm) N, ⟨pc_of (inner := []) E mixed hA (by kernel_rfl) (by kernel_rfl) (by kernel_rfl) trivial (fun _ => rfl) (fun m d => (impl_EarliestTrip_l2_ok N (impl_EarliestTrip_l2 N m) d).symm) N, trivial⟩⟩) (F_impl_EarliestTrip_ok N)
theorem C_impl_EarliestTrip : Contract Try.prog 59 S_impl_EarliestTrip := Contract.less (fun N : Nat => F_impl_EarliestTrip N) C_impl_EarliestTrip_raw implTrip_lim
theorem C_laws_FnExactEarliestTrip_raw (N : Nat) : Contract Try.prog 13 ⟨[(K_PPiSPiiqqiSSiq, false), (I, false), (I, false), (I, false)], [.bool], true, F_laws_FnExactEarliestTrip N⟩ :=
  have E : Env Try.prog Γ_laws_FnExactEarliestTrip := env_of tab ⟨C_laws_szTimetable, ⟨C_laws_toTimetable, ⟨C_laws_eqTimetable, ⟨C_laws_markTimetable, ⟨C_laws_eqIntS, ⟨C_laws_markIntS, ⟨C_laws_heldIntS, ⟨C_spec_EarliestTrip, ⟨C_impl_EarliestTrip, trivial⟩⟩⟩⟩⟩⟩⟩⟩⟩
  con_of (Pc := []) E mixed Try.func13 (by kernel_rfl) (by kernel_rfl) (by kernel_rfl) (by kernel_rfl) (fun A hA => trivial) (F_laws_FnExactEarliestTrip_ok N)
theorem C_laws_FnExactEarliestTrip : Contract Try.prog 13 S_laws_FnExactEarliestTrip := C_laws_FnExactEarliestTrip_raw 0
theorem C_spec_l3Sign_raw (N : Nat) : Contract Try.prog 151 ⟨[(.bool, false)], [I], true, F_spec_l3Sign N⟩ :=
  have E : Env Try.prog Γ_spec_l3Sign := env_of tab trivial
  con_of (Pc := []) E mixed Try.func151 (by kernel_rfl) (by kernel_rfl) (by kernel_rfl) (by kernel_rfl) (fun A hA => trivial) (F_spec_l3Sign_ok N)
theorem C_spec_l3Sign : Contract Try.prog 151 S_spec_l3Sign := Contract.less (fun N : Nat => F_spec_l3Sign N) C_spec_l3Sign_raw (fun d r h => ⟨0, (F_spec_l3Sign_tot 0 d).trans h⟩)
theorem C_spec_l1Most_raw (N : Nat) : Contract Try.prog 157 ⟨[(I, false), (I, false)], [I], true, F_spec_l1Most N⟩ :=
  have E : Env Try.prog Γ_spec_l1Most := env_of tab trivial
  con_of (Pc := []) E mixed Try.func157 (by kernel_rfl) (by kernel_rfl) (by kernel_rfl) (by kernel_rfl) (fun A hA => trivial) (F_spec_l1Most_ok N)
theorem C_spec_l1Most : Contract Try.prog 157 S_spec_l1Most := Contract.less (fun N : Nat => F_spec_l1Most N) C_spec_l1Most_raw (fun d r h => ⟨0, (F_spec_l1Most_tot 0 d).trans h⟩)
theorem C_spec_l3Worst_raw (N : Nat) : Contract Try.prog 172 ⟨[(K_PiSPiiqq, false), (K_SSi, false), (I, false), (I, false)], [I], true, F_spec_l3Worst N⟩ :=
  have E : Env Try.prog Γ_spec_l3Worst := env_of tab ⟨C_spec_l2Ball, ⟨C_spec_l1Most, trivial⟩⟩
  con_of (Pc := [(0, ⟨spec_l3Worst_l0_h, spec_l3Worst_l0_o, spec_l3Worst_l0 N N⟩)]) E mixed Try.func172 (by kernel_rfl) (by kernel_rfl) (by kernel_rfl) (by kernel_rfl) (fun A hA => ⟨pc_of (inner := []) E mixed hA (by kernel_rfl) (by kernel_rfl) (by kernel_rfl) trivial (fun _ => rfl) (fun m d => (spec_l3Worst_l0_ok N (spec_l3Worst_l0 N m) d).symm) N, trivial⟩) (F_spec_l3Worst_ok N)
theorem C_spec_l3Worst : Contract Try.prog 172 S_spec_l3Worst := Contract.less (fun N : Nat => F_spec_l3Worst N) C_spec_l3Worst_raw l3Worst_lim
theorem C_spec_l3After_raw (N : Nat) : Contract Try.prog 165 ⟨[(K_PiSPiiqq, false), (K_SSi, false), (I, false), (I, false)], [I], true, F_spec_l3After N⟩ :=
  have E : Env Try.prog Γ_spec_l3After := env_of tab ⟨C_spec_l3Worst, trivial⟩
  con_of (Pc := []) E mixed Try.func165 (by kernel_rfl) (by kernel_rfl) (by kernel_rfl) (by kernel_rfl) (fun A hA => trivial) (F_spec_l3After_ok N)
theorem C_spec_l3After : Contract Try.prog 165 S_spec_l3After := C_spec_l3After_raw 0
theorem C_spec_l3Best_raw (N : Nat) : Contract Try.prog 152 ⟨[(K_PiSPiiqq, false), (K_SSi, false), (I, false), (I, false)], [I], true, F_spec_l3Best N⟩ :=
  have E : Env Try.prog Γ_spec_l3Best := env_of tab ⟨C_spec_l2Ball, ⟨C_spec_l3After, trivial⟩⟩
  con_of (Pc := [(0, ⟨spec_l3Best_l0_h, spec_l3Best_l0_o, spec_l3Best_l0 N N⟩)]) E mixed Try.func152 (by kernel_rfl) (by kernel_rfl) (by kernel_rfl) (by kernel_rfl) (fun A hA => ⟨pc_of (inner := []) E mixed hA (by kernel_rfl) (by kernel_rfl) (by kernel_rfl) trivial (fun _ => rfl) (fun m d => (spec_l3Best_l0_ok N (spec_l3Best_l0 N m) d).symm) N, trivial⟩) (F_spec_l3Best_ok N)
theorem C_spec_l3Best : Contract Try.prog 152 S_spec_l3Best := Contract.less (fun N : Nat => F_spec_l3Best N) C_spec_l3Best_raw l3Best_lim
theorem C_spec_l3Times_raw (N : Nat) : Contract Try.prog 137 ⟨[(K_PiSPiiqq, false)], [K_SSi], true, F_spec_l3Times N⟩ :=
  have E : Env Try.prog Γ_spec_l3Times := env_of tab ⟨C_spec_l1Own, ⟨C_spec_l3Sign, ⟨C_spec_l3Best, trivial⟩⟩⟩
  con_of (Pc := [(0, ⟨spec_l3Times_l0_h, spec_l3Times_l0_o, spec_l3Times_l0 N N⟩), (4, ⟨spec_l3Times_l4_h, spec_l3Times_l4_o, spec_l3Times_l4 N N⟩)]) E mixed Try.func137 (by kernel_rfl) (by kernel_rfl) (by kernel_rfl) (by kernel_rfl) (fun A hA => ⟨pc_of (inner := [(2, ⟨spec_l3Times_l2_h, spec_l3Times_l2_o, spec_l3Times_l2 N N⟩)]) E mixed hA (by kernel_rfl) (by kernel_rfl) (by kernel_rfl) ⟨pc_of (inner := []) E mixed hA (by kernel_rfl) (by kernel_rfl) (by kernel_rfl) trivial (fun _ => rfl) (fun m d => (spec_l3Times_l2_ok N (spec_l3Times_l2 N m) d).symm) N, trivial⟩ (fun _ => rfl) (fun m d => (spec_l3Times_l0_ok N (spec_l3Times_l0 N m) d).symm) N, ⟨pc_of (inner := [(6, ⟨spec_l3Times_l6_h, spec_l3Times_l6_o, spec_l3Times_l6 N N⟩)]) E mixed hA (by kernel_rfl) (by kernel_rfl) (by kernel_rfl) ⟨pc_of (inner := [(8, ⟨spec_l3Times_l8_h, spec_l3Times_l8_o, spec_l3Times_l8 N N⟩)]) E mixed hA (by kernel_rfl) (by kernel_rfl) (by kernel_rfl) ⟨pc_of (inner := []) E mixed hA (by kernel_rfl) (by kernel_rfl) (by kernel_rfl) trivial (fun _ => rfl) (fun m d => (spec_l3Times_l8_ok N (spec_l3Times_l8 N m) d).symm) N, trivial⟩ (fun _ => rfl) (fun m d => (spec_l3Times_l6_ok N (spec_l3Times_l6 N m) d).symm) N, trivial⟩ (fun _ => rfl) (fun m d => (spec_l3Times_l4_ok N (spec_l3Times_l4 N m) d).symm) N, trivial⟩⟩) (F_spec_l3Times_ok N)
theorem C_spec_l3Times : Contract Try.prog 137 S_spec_l3Times := Contract.less (fun N : Nat => F_spec_l3Times N) C_spec_l3Times_raw l3Times_lim
theorem C_spec_l12Time_raw (N : Nat) : Contract Try.prog 107 ⟨[(K_PPiSPiiqqiiSiiq, false)], [I, .bool], true, F_spec_l12Time N⟩ :=
  have E : Env Try.prog Γ_spec_l12Time := env_of tab ⟨C_spec_l3Times, trivial⟩
  con_of (Pc := []) E mixed Try.func107 (by kernel_rfl) (by kernel_rfl) (by kernel_rfl) (by kernel_rfl) (fun A hA => trivial) (F_spec_l12Time_ok N)
theorem C_spec_l12Time : Contract Try.prog 107 S_spec_l12Time := C_spec_l12Time_raw 0
theorem C_spec_ChaseTime_raw (N : Nat) : Contract Try.prog 56 ⟨[(K_PPiSPiiqqiiSiiq, false)], [I, .bool], true, F_spec_ChaseTime N⟩ :=
  have E : Env Try.prog Γ_spec_ChaseTime := env_of tab ⟨C_spec_l12Good, ⟨C_spec_l12Time, trivial⟩⟩
  con_of (Pc := []) E mixed Try.func56 (by kernel_rfl) (by kernel_rfl) (by kernel_rfl) (by kernel_rfl) (fun A hA => trivial) (F_spec_ChaseTime_ok N)
theorem C_spec_ChaseTime : Contract Try.prog 56 S_spec_ChaseTime := C_spec_ChaseTime_raw 0
theorem C_impl_net_timeAfter_raw (N : Nat) : Contract Try.prog 155 ⟨[(K_PSiq, false), (K_Si, false), (I, false)], [I], true, F_impl_net_timeAfter N⟩ :=
  have E : Env Try.prog Γ_impl_net_timeAfter := env_of tab ⟨C_impl_setOf, ⟨C_impl_net_closed, trivial⟩⟩
  con_of (Pc := [(0, ⟨impl_net_timeAfter_l0_h, impl_net_timeAfter_l0_o, impl_net_timeAfter_l0 N N⟩)]) E mixed Try.func155 (by kernel_rfl) (by kernel_rfl) (by kernel_rfl) (by kernel_rfl) (fun A hA => ⟨pc_of (inner := []) E mixed hA (by kernel_rfl) (by kernel_rfl) (by kernel_rfl) trivial (fun _ => rfl) (fun m d => (impl_net_timeAfter_l0_ok N (impl_net_timeAfter_l0 N m) d).symm) N, trivial⟩) (F_impl_net_timeAfter_ok N)
theorem C_impl_net_timeAfter : Contract Try.prog 155 S_impl_net_timeAfter := Contract.less (fun N : Nat => F_impl_net_timeAfter N) C_impl_net_timeAfter_raw timeAfter_lim
theorem C_impl_net_copCan_1_raw (N : Nat) : Contract Try.prog 154 ⟨[(I, false), (K_Bi, false), (K_BPSiq, false), (K_BSSi, false)], [.bool], true, F_impl_net_copCan_1 N⟩ :=
  have E : Env Try.prog Γ_impl_net_copCan_1 := env_of tab ⟨C_impl_net_timeAfter, trivial⟩
  con_of (Pc := []) E mixed Try.func154 (by kernel_rfl) (by kernel_rfl) (by kernel_rfl) (by kernel_rfl) (fun A hA => trivial) (F_impl_net_copCan_1_ok N)
theorem C_impl_net_copCan_1 : Contract Try.prog 154 S_impl_net_copCan_1 := C_impl_net_copCan_1_raw 0
theorem CV_impl_net_copCan_1 : ContractV Try.prog SV_impl_net_copCan_1 := conV_0_1_3 C_impl_net_copCan_1
theorem C_slices_IndexFunc_Sint_int_f154_raw (N : Nat) : Contract Try.prog 158 ⟨[(K_Si, false), (K_F154qPBiBPSiqBSSiq, false)], [I], true, F_slices_IndexFunc_Sint_int_f154 N⟩ :=
  have E : Env Try.prog Γ_slices_IndexFunc_Sint_int_f154 := env_ofV tab trivial ⟨CV_impl_net_copCan_1, trivial⟩
  con_of (Pc := [(0, ⟨slices_IndexFunc_Sint_int_f154_l0_h, slices_IndexFunc_Sint_int_f154_l0_o, slices_IndexFunc_Sint_int_f154_l0 N N⟩)]) E mixed Try.func158 (by kernel_rfl) (by kernel_rfl) (by kernel_rfl) (by kernel_rfl) (fun A hA => ⟨pc_of (inner := []) E mixed hA (by kernel_rfl) (by kernel_rfl) (by kernel_rfl) trivial (fun _ => rfl) (fun m d => (slices_IndexFunc_Sint_int_f154_l0_ok N (slices_IndexFunc_Sint_int_f154_l0 N m) d).symm) N, trivial⟩) (F_slices_IndexFunc_Sint_int_f154_ok N)
theorem C_slices_IndexFunc_Sint_int_f154 : Contract Try.prog 158 S_slices_IndexFunc_Sint_int_f154 := Contract.less (fun N : Nat => F_slices_IndexFunc_Sint_int_f154 N) C_slices_IndexFunc_Sint_int_f154_raw index154_lim
theorem C_slices_ContainsFunc_Sint_int_f154_raw (N : Nat) : Contract Try.prog 143 ⟨[(K_Si, false), (K_F154qPBiBPSiqBSSiq, false)], [.bool], true, F_slices_ContainsFunc_Sint_int_f154 N⟩ :=
  have E : Env Try.prog Γ_slices_ContainsFunc_Sint_int_f154 := env_of tab ⟨C_slices_IndexFunc_Sint_int_f154, trivial⟩
  con_of (Pc := []) E mixed Try.func143 (by kernel_rfl) (by kernel_rfl) (by kernel_rfl) (by kernel_rfl) (fun A hA => trivial) (F_slices_ContainsFunc_Sint_int_f154_ok N)
theorem C_slices_ContainsFunc_Sint_int_f154 : Contract Try.prog 143 S_slices_ContainsFunc_Sint_int_f154 := C_slices_ContainsFunc_Sint_int_f154_raw 0
theorem C_impl_net_copCan_raw (N : Nat) : Contract Try.prog 139 ⟨[(K_PSiq, false), (K_SSi, false), (I, false), (I, false)], [.bool], true, F_impl_net_copCan N⟩ :=
  have E : Env Try.prog Γ_impl_net_copCan := env_ofV tab ⟨C_impl_setOf, ⟨C_impl_net_closed, ⟨C_slices_ContainsFunc_Sint_int_f154, trivial⟩⟩⟩ trivial
  con_of (Pc := []) E mixed Try.func139 (by kernel_rfl) (by kernel_rfl) (by kernel_rfl) (by kernel_rfl) (fun A hA => trivial) (F_impl_net_copCan_ok N)
theorem C_impl_net_copCan : Contract Try.prog 139 S_impl_net_copCan := C_impl_net_copCan_raw 0
theorem C_impl_net_copTimes_raw (N : Nat) : Contract Try.prog 109 ⟨[(K_PSiq, false)], [K_SSi], true, F_impl_net_copTimes N⟩ :=
  have E : Env Try.prog Γ_impl_net_copTimes := env_of tab ⟨C_impl_net_size, ⟨C_slices_Repeat_Sint_int, ⟨C_impl_net_copCan, trivial⟩⟩⟩
  con_of (Pc := [(0, ⟨impl_net_copTimes_l0_h, impl_net_copTimes_l0_o, impl_net_copTimes_l0 N N⟩), (2, ⟨impl_net_copTimes_l2_h, impl_net_copTimes_l2_o, impl_net_copTimes_l2 N N⟩)]) E mixed Try.func109 (by kernel_rfl) (by kernel_rfl) (by kernel_rfl) (by kernel_rfl) (fun A hA => ⟨pc_of (inner := []) E mixed hA (by kernel_rfl) (by kernel_rfl) (by kernel_rfl) trivial (fun _ => rfl) (fun m d => (impl_net_copTimes_l0_ok N (impl_net_copTimes_l0 N m) d).symm) N, ⟨pc_of (inner := [(4, ⟨impl_net_copTimes_l4_h, impl_net_copTimes_l4_o, impl_net_copTimes_l4 N N⟩), (8, ⟨impl_net_copTimes_l8_h, impl_net_copTimes_l8_o, impl_net_copTimes_l8 N N⟩)]) E mixed hA (by kernel_rfl) (by kernel_rfl) (by kernel_rfl) ⟨pc_of (inner := [(6, ⟨impl_net_copTimes_l6_h, impl_net_copTimes_l6_o, impl_net_copTimes_l6 N N⟩)]) E mixed hA (by kernel_rfl) (by kernel_rfl) (by kernel_rfl) ⟨pc_of (inner := []) E mixed hA (by kernel_rfl) (by kernel_rfl) (by kernel_rfl) trivial (fun _ => rfl) (fun m d => (impl_net_copTimes_l6_ok N (impl_net_copTimes_l6 N m) d).symm) N, trivial⟩ (fun _ => rfl) (fun m d => (impl_net_copTimes_l4_ok N (impl_net_copTimes_l4 N m) d).symm) N, ⟨pc_of (inner := []) E mixed hA (by kernel_rfl) (by kernel_rfl) (by kernel_rfl) trivial (fun _ => rfl) (fun m d => (impl_net_copTimes_l8_ok N (impl_net_copTimes_l8 N m) d).symm) N, trivial⟩⟩ (fun _ => rfl) (fun m d => (impl_net_copTimes_l2_ok N (impl_net_copTimes_l2 N m) d).symm) N, trivial⟩⟩) (F_impl_net_copTimes_ok N)
theorem C_impl_net_copTimes : Contract Try.prog 109 S_impl_net_copTimes := Contract.less (fun N : Nat => F_impl_net_copTimes N) C_impl_net_copTimes_raw copTimes_lim
theorem C_impl_ChaseTime_raw (N : Nat) : Contract Try.prog 57 ⟨[(K_PPiSPiiqqiiSiiq, false)], [I, .bool], true, F_impl_ChaseTime N⟩ :=
  have E : Env Try.prog Γ_impl_ChaseTime := env_of tab ⟨C_impl_IsWorkshop, ⟨C_impl_netOf, ⟨C_impl_net_copTimes, trivial⟩⟩⟩
  con_of (Pc := []) E mixed Try.func57 (by kernel_rfl) (by kernel_rfl) (by kernel_rfl) (by kernel_rfl) (fun A hA => trivial) (F_impl_ChaseTime_ok N)
theorem C_impl_ChaseTime : Contract Try.prog 57 S_impl_ChaseTime := C_impl_ChaseTime_raw 0
theorem C_laws_FnExactChaseTime_raw (N : Nat) : Contract Try.prog 12 ⟨[(K_PPiSPiiqqiiSiiq, false)], [.bool], true, F_laws_FnExactChaseTime N⟩ :=
  have E : Env Try.prog Γ_laws_FnExactChaseTime := env_of tab ⟨C_laws_szWorkshop, ⟨C_laws_toWorkshop, ⟨C_laws_eqWorkshop, ⟨C_spec_ChaseTime, ⟨C_impl_ChaseTime, trivial⟩⟩⟩⟩⟩
  con_of (Pc := []) E mixed Try.func12 (by kernel_rfl) (by kernel_rfl) (by kernel_rfl) (by kernel_rfl) (fun A hA => trivial) (F_laws_FnExactChaseTime_ok N)
theorem C_laws_FnExactChaseTime : Contract Try.prog 12 S_laws_FnExactChaseTime := C_laws_FnExactChaseTime_raw 0
end Go.V.W
