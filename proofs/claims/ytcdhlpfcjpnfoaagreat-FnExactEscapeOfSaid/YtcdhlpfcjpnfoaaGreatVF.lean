/- What the law FnExactEscapeOf leans on, part 6: an interpreter of the model as plain data, its soundness, the functions as it tells them, and their laws. -/
import Derived.Shelf.Lays
import Derived.Shelf.LaysM
import Derived.Shelf.SortM.Plain
import Derived.Shelf.SortM.SortNone
import Derived.Shelf.SlSortCmp.NoneTotal
import Derived.Test.YtcdhlpfcjpnfoaaGreatVE
set_option linter.unusedVariables false
set_option linter.unusedSimpArgs false
set_option maxRecDepth 100000
namespace Go.V.W
open Go.Proofs Go.Shelf Go.RowKit
-- import Derived.Shelf.Lays
-- import Derived.Shelf.LaysM
-- import Derived.Test.XvLib3
-- import Derived.Shelf.SortM.Plain
-- import Derived.Shelf.SortM.SortNone
-- import Derived.Shelf.SlSortCmp.NoneTotal
def layg5_ren : Go.Shelf.Ren :=
{
  f := fun x =>
    match x with
    | 5 => 121
    | 8 => 133
    | 7 => 132
    | 19 => 147
    | 20 => 148
    | 10 => 139
    | 11 => 140
    | 12 => 141
    | 13 => 142
    | 14 => 143
    | 15 => 144
    | 16 => 129
    | 17 => 145
    | 18 => 146
    | 30 => 157
    | 31 => 158
    | 32 => 159
    | 33 => 160
    | 34 => 161
    | 35 => 138
    | 40 => 165
    | n => n,
  t := fun x =>
    match x with
    | 23 => 37
    | 25 => 3
    | 3 => 3
    | 32 => 114
    | 22 => 37
    | 0 => 0
    | 44 => 122
    | 46 => 125
    | 4 => 4
    | 36 => 131
    | 35 => 130
    | 41 => 44
    | 5 => 5
    | 9 => 9
    | 53 => 142
    | 57 => 146
    | 63 => 150
    | 64 => 151
    | n => n,
  g := fun x =>
    x }
set_option maxRecDepth 1000000 in
theorem layg5 : Go.Proofs.SlLaysM.n5 Go.Proofs.Tryz.prog layg5_ren :=
{ mixed := by kernel_rfl,
  f5 := ⟨Go.Proofs.Tryz.f121.name, of_decide_eq_true (by kernel_rfl), (Go.Proofs.Tryz.func121).trans (congrArg some (by kernel_rfl))⟩,
  f7 := ⟨Go.Proofs.Tryz.f132.name, of_decide_eq_true (by kernel_rfl), (Go.Proofs.Tryz.func132).trans (congrArg some (by kernel_rfl))⟩,
  f8 := (Go.Proofs.Tryz.func133).trans (congrArg some (by kernel_rfl)),
  f10 := ⟨Go.Proofs.Tryz.f139.name, of_decide_eq_true (by kernel_rfl), (Go.Proofs.Tryz.func139).trans (congrArg some (by kernel_rfl))⟩,
  f11 := ⟨Go.Proofs.Tryz.f140.name, of_decide_eq_true (by kernel_rfl), (Go.Proofs.Tryz.func140).trans (congrArg some (by kernel_rfl))⟩,
  f12 := ⟨Go.Proofs.Tryz.f141.name, of_decide_eq_true (by kernel_rfl), (Go.Proofs.Tryz.func141).trans (congrArg some (by kernel_rfl))⟩,
  f13 := ⟨Go.Proofs.Tryz.f142.name, of_decide_eq_true (by kernel_rfl), (Go.Proofs.Tryz.func142).trans (congrArg some (by kernel_rfl))⟩,
  f14 := ⟨Go.Proofs.Tryz.f143.name, of_decide_eq_true (by kernel_rfl), (Go.Proofs.Tryz.func143).trans (congrArg some (by kernel_rfl))⟩,
  f15 := ⟨Go.Proofs.Tryz.f144.name, of_decide_eq_true (by kernel_rfl), (Go.Proofs.Tryz.func144).trans (congrArg some (by kernel_rfl))⟩,
  f16 := ⟨Go.Proofs.Tryz.f129.name, of_decide_eq_true (by kernel_rfl), (Go.Proofs.Tryz.func129).trans (congrArg some (by kernel_rfl))⟩,
  f17 := ⟨Go.Proofs.Tryz.f145.name, of_decide_eq_true (by kernel_rfl), (Go.Proofs.Tryz.func145).trans (congrArg some (by kernel_rfl))⟩,
  f18 := ⟨Go.Proofs.Tryz.f146.name, of_decide_eq_true (by kernel_rfl), (Go.Proofs.Tryz.func146).trans (congrArg some (by kernel_rfl))⟩,
  f19 := (Go.Proofs.Tryz.func147).trans (congrArg some (by kernel_rfl)),
  f20 := (Go.Proofs.Tryz.func148).trans (congrArg some (by kernel_rfl)),
  f30 := ⟨Go.Proofs.Tryz.f157.name, of_decide_eq_true (by kernel_rfl), (Go.Proofs.Tryz.func157).trans (congrArg some (by kernel_rfl))⟩,
  f31 := (Go.Proofs.Tryz.func158).trans (congrArg some (by kernel_rfl)),
  f32 := (Go.Proofs.Tryz.func159).trans (congrArg some (by kernel_rfl)),
  f33 := ⟨Go.Proofs.Tryz.f160.name, of_decide_eq_true (by kernel_rfl), (Go.Proofs.Tryz.func160).trans (congrArg some (by kernel_rfl))⟩,
  f34 := ⟨Go.Proofs.Tryz.f161.name, of_decide_eq_true (by kernel_rfl), (Go.Proofs.Tryz.func161).trans (congrArg some (by kernel_rfl))⟩,
  f35 := ⟨Go.Proofs.Tryz.f138.name, of_decide_eq_true (by kernel_rfl), (Go.Proofs.Tryz.func138).trans (congrArg some (by kernel_rfl))⟩,
  f40 := ⟨Go.Proofs.Tryz.f165.name, of_decide_eq_true (by kernel_rfl), (Go.Proofs.Tryz.func165).trans (congrArg some (by kernel_rfl))⟩,
  t0 := Go.Proofs.Tryz.underlying0,
  a0 := Go.Proofs.Tryz.isAgg0,
  z0 := Go.Proofs.Tryz.sizeOf0,
  v0 := Go.Proofs.Tryz.zeroValue0,
  t3 := Go.Proofs.Tryz.underlying3,
  a3 := Go.Proofs.Tryz.isAgg3,
  z3 := Go.Proofs.Tryz.sizeOf3,
  v3 := Go.Proofs.Tryz.zeroValue3,
  t4 := Go.Proofs.Tryz.underlying4,
  a4 := Go.Proofs.Tryz.isAgg4,
  z4 := Go.Proofs.Tryz.sizeOf4,
  v4 := Go.Proofs.Tryz.zeroValue4,
  t5 := Go.Proofs.Tryz.underlying5,
  a5 := Go.Proofs.Tryz.isAgg5,
  z5 := Go.Proofs.Tryz.sizeOf5,
  v5 := Go.Proofs.Tryz.zeroValue5,
  t9 := Go.Proofs.Tryz.underlying9,
  a9 := Go.Proofs.Tryz.isAgg9,
  z9 := Go.Proofs.Tryz.sizeOf9,
  v9 := Go.Proofs.Tryz.zeroValue9,
  t22 := Go.Proofs.Tryz.underlying37,
  a22 := Go.Proofs.Tryz.isAgg37,
  z22 := Go.Proofs.Tryz.sizeOf37,
  v22 := Go.Proofs.Tryz.zeroValue37,
  t23 := Go.Proofs.Tryz.underlying37,
  a23 := Go.Proofs.Tryz.isAgg37,
  z23 := Go.Proofs.Tryz.sizeOf37,
  v23 := Go.Proofs.Tryz.zeroValue37,
  t25 := Go.Proofs.Tryz.underlying3,
  a25 := Go.Proofs.Tryz.isAgg3,
  z25 := Go.Proofs.Tryz.sizeOf3,
  v25 := Go.Proofs.Tryz.zeroValue3,
  t32 := Go.Proofs.Tryz.underlying114,
  a32 := Go.Proofs.Tryz.isAgg114,
  z32 := Go.Proofs.Tryz.sizeOf114,
  v32 := Go.Proofs.Tryz.zeroValue114,
  t35 := Go.Proofs.Tryz.underlying130,
  a35 := Go.Proofs.Tryz.isAgg130,
  z35 := Go.Proofs.Tryz.sizeOf130,
  v35 := Go.Proofs.Tryz.zeroValue130,
  t36 := Go.Proofs.Tryz.underlying131,
  a36 := Go.Proofs.Tryz.isAgg131,
  z36 := Go.Proofs.Tryz.sizeOf131,
  v36 := Go.Proofs.Tryz.zeroValue131,
  t41 := Go.Proofs.Tryz.underlying44,
  a41 := Go.Proofs.Tryz.isAgg44,
  z41 := Go.Proofs.Tryz.sizeOf44,
  v41 := Go.Proofs.Tryz.zeroValue44,
  t44 := Go.Proofs.Tryz.underlying122,
  a44 := Go.Proofs.Tryz.isAgg122,
  z44 := Go.Proofs.Tryz.sizeOf122,
  v44 := Go.Proofs.Tryz.zeroValue122,
  t46 := Go.Proofs.Tryz.underlying125,
  a46 := Go.Proofs.Tryz.isAgg125,
  z46 := Go.Proofs.Tryz.sizeOf125,
  v46 := Go.Proofs.Tryz.zeroValue125,
  t53 := Go.Proofs.Tryz.underlying142,
  a53 := Go.Proofs.Tryz.isAgg142,
  z53 := Go.Proofs.Tryz.sizeOf142,
  v53 := Go.Proofs.Tryz.zeroValue142,
  t57 := Go.Proofs.Tryz.underlying146,
  a57 := Go.Proofs.Tryz.isAgg146,
  z57 := Go.Proofs.Tryz.sizeOf146,
  v57 := Go.Proofs.Tryz.zeroValue146,
  t63 := Go.Proofs.Tryz.underlying150,
  a63 := Go.Proofs.Tryz.isAgg150,
  z63 := Go.Proofs.Tryz.sizeOf150,
  v63 := Go.Proofs.Tryz.zeroValue150,
  t64 := Go.Proofs.Tryz.underlying151,
  a64 := Go.Proofs.Tryz.isAgg151,
  z64 := Go.Proofs.Tryz.sizeOf151,
  v64 := Go.Proofs.Tryz.zeroValue151 }
def layg6_ren : Go.Shelf.Ren :=
{
  f := fun x =>
    match x with
    | 6 => 122
    | 15 => 133
    | 14 => 134
    | 28 => 147
    | 29 => 148
    | 20 => 149
    | 21 => 150
    | 22 => 151
    | 23 => 152
    | 24 => 153
    | 25 => 154
    | 26 => 155
    | 27 => 156
    | 46 => 162
    | 47 => 158
    | 48 => 159
    | 49 => 163
    | 50 => 164
    | 57 => 166
    | n => n,
  t := fun x =>
    match x with
    | 22 => 25
    | 24 => 37
    | 25 => 105
    | 3 => 3
    | 39 => 114
    | 0 => 0
    | 53 => 122
    | 55 => 125
    | 4 => 4
    | 46 => 131
    | 45 => 130
    | 50 => 44
    | 5 => 5
    | 9 => 9
    | 66 => 142
    | 70 => 146
    | 76 => 150
    | 77 => 151
    | n => n,
  g := fun x =>
    x }
set_option maxRecDepth 1000000 in
theorem layg6 : Go.Proofs.SlLaysF.n6 Go.Proofs.Tryz.prog layg6_ren :=
{ mixed := by kernel_rfl,
  f6 := ⟨Go.Proofs.Tryz.f122.name, of_decide_eq_true (by kernel_rfl), (Go.Proofs.Tryz.func122).trans (congrArg some (by kernel_rfl))⟩,
  f14 := ⟨Go.Proofs.Tryz.f134.name, of_decide_eq_true (by kernel_rfl), (Go.Proofs.Tryz.func134).trans (congrArg some (by kernel_rfl))⟩,
  f15 := (Go.Proofs.Tryz.func133).trans (congrArg some (by kernel_rfl)),
  f20 := ⟨Go.Proofs.Tryz.f149.name, of_decide_eq_true (by kernel_rfl), (Go.Proofs.Tryz.func149).trans (congrArg some (by kernel_rfl))⟩,
  f21 := ⟨Go.Proofs.Tryz.f150.name, of_decide_eq_true (by kernel_rfl), (Go.Proofs.Tryz.func150).trans (congrArg some (by kernel_rfl))⟩,
  f22 := ⟨Go.Proofs.Tryz.f151.name, of_decide_eq_true (by kernel_rfl), (Go.Proofs.Tryz.func151).trans (congrArg some (by kernel_rfl))⟩,
  f23 := ⟨Go.Proofs.Tryz.f152.name, of_decide_eq_true (by kernel_rfl), (Go.Proofs.Tryz.func152).trans (congrArg some (by kernel_rfl))⟩,
  f24 := ⟨Go.Proofs.Tryz.f153.name, of_decide_eq_true (by kernel_rfl), (Go.Proofs.Tryz.func153).trans (congrArg some (by kernel_rfl))⟩,
  f25 := ⟨Go.Proofs.Tryz.f154.name, of_decide_eq_true (by kernel_rfl), (Go.Proofs.Tryz.func154).trans (congrArg some (by kernel_rfl))⟩,
  f26 := ⟨Go.Proofs.Tryz.f155.name, of_decide_eq_true (by kernel_rfl), (Go.Proofs.Tryz.func155).trans (congrArg some (by kernel_rfl))⟩,
  f27 := ⟨Go.Proofs.Tryz.f156.name, of_decide_eq_true (by kernel_rfl), (Go.Proofs.Tryz.func156).trans (congrArg some (by kernel_rfl))⟩,
  f28 := (Go.Proofs.Tryz.func147).trans (congrArg some (by kernel_rfl)),
  f29 := (Go.Proofs.Tryz.func148).trans (congrArg some (by kernel_rfl)),
  f46 := ⟨Go.Proofs.Tryz.f162.name, of_decide_eq_true (by kernel_rfl), (Go.Proofs.Tryz.func162).trans (congrArg some (by kernel_rfl))⟩,
  f47 := (Go.Proofs.Tryz.func158).trans (congrArg some (by kernel_rfl)),
  f48 := (Go.Proofs.Tryz.func159).trans (congrArg some (by kernel_rfl)),
  f49 := ⟨Go.Proofs.Tryz.f163.name, of_decide_eq_true (by kernel_rfl), (Go.Proofs.Tryz.func163).trans (congrArg some (by kernel_rfl))⟩,
  f50 := ⟨Go.Proofs.Tryz.f164.name, of_decide_eq_true (by kernel_rfl), (Go.Proofs.Tryz.func164).trans (congrArg some (by kernel_rfl))⟩,
  f57 := ⟨Go.Proofs.Tryz.f166.name, of_decide_eq_true (by kernel_rfl), (Go.Proofs.Tryz.func166).trans (congrArg some (by kernel_rfl))⟩,
  t0 := Go.Proofs.Tryz.underlying0,
  a0 := Go.Proofs.Tryz.isAgg0,
  z0 := Go.Proofs.Tryz.sizeOf0,
  v0 := Go.Proofs.Tryz.zeroValue0,
  t3 := Go.Proofs.Tryz.underlying3,
  a3 := Go.Proofs.Tryz.isAgg3,
  z3 := Go.Proofs.Tryz.sizeOf3,
  v3 := Go.Proofs.Tryz.zeroValue3,
  t4 := Go.Proofs.Tryz.underlying4,
  a4 := Go.Proofs.Tryz.isAgg4,
  z4 := Go.Proofs.Tryz.sizeOf4,
  v4 := Go.Proofs.Tryz.zeroValue4,
  t5 := Go.Proofs.Tryz.underlying5,
  a5 := Go.Proofs.Tryz.isAgg5,
  z5 := Go.Proofs.Tryz.sizeOf5,
  v5 := Go.Proofs.Tryz.zeroValue5,
  t9 := Go.Proofs.Tryz.underlying9,
  a9 := Go.Proofs.Tryz.isAgg9,
  z9 := Go.Proofs.Tryz.sizeOf9,
  v9 := Go.Proofs.Tryz.zeroValue9,
  t22 := Go.Proofs.Tryz.underlying25,
  a22 := Go.Proofs.Tryz.isAgg25,
  z22 := Go.Proofs.Tryz.sizeOf25,
  v22 := Go.Proofs.Tryz.zeroValue25,
  a24 := Go.Proofs.Tryz.isAgg37,
  z24 := Go.Proofs.Tryz.sizeOf37,
  t25 := Go.Proofs.Tryz.underlying105,
  a25 := Go.Proofs.Tryz.isAgg105,
  z25 := Go.Proofs.Tryz.sizeOf105,
  v25 := Go.Proofs.Tryz.zeroValue105,
  t39 := Go.Proofs.Tryz.underlying114,
  a39 := Go.Proofs.Tryz.isAgg114,
  z39 := Go.Proofs.Tryz.sizeOf114,
  v39 := Go.Proofs.Tryz.zeroValue114,
  t45 := Go.Proofs.Tryz.underlying130,
  a45 := Go.Proofs.Tryz.isAgg130,
  z45 := Go.Proofs.Tryz.sizeOf130,
  v45 := Go.Proofs.Tryz.zeroValue130,
  t46 := Go.Proofs.Tryz.underlying131,
  a46 := Go.Proofs.Tryz.isAgg131,
  z46 := Go.Proofs.Tryz.sizeOf131,
  v46 := Go.Proofs.Tryz.zeroValue131,
  t50 := Go.Proofs.Tryz.underlying44,
  a50 := Go.Proofs.Tryz.isAgg44,
  z50 := Go.Proofs.Tryz.sizeOf44,
  v50 := Go.Proofs.Tryz.zeroValue44,
  t53 := Go.Proofs.Tryz.underlying122,
  a53 := Go.Proofs.Tryz.isAgg122,
  z53 := Go.Proofs.Tryz.sizeOf122,
  v53 := Go.Proofs.Tryz.zeroValue122,
  t55 := Go.Proofs.Tryz.underlying125,
  a55 := Go.Proofs.Tryz.isAgg125,
  z55 := Go.Proofs.Tryz.sizeOf125,
  v55 := Go.Proofs.Tryz.zeroValue125,
  t66 := Go.Proofs.Tryz.underlying142,
  a66 := Go.Proofs.Tryz.isAgg142,
  z66 := Go.Proofs.Tryz.sizeOf142,
  v66 := Go.Proofs.Tryz.zeroValue142,
  t70 := Go.Proofs.Tryz.underlying146,
  a70 := Go.Proofs.Tryz.isAgg146,
  z70 := Go.Proofs.Tryz.sizeOf146,
  v70 := Go.Proofs.Tryz.zeroValue146,
  t76 := Go.Proofs.Tryz.underlying150,
  a76 := Go.Proofs.Tryz.isAgg150,
  z76 := Go.Proofs.Tryz.sizeOf150,
  v76 := Go.Proofs.Tryz.zeroValue150,
  t77 := Go.Proofs.Tryz.underlying151,
  a77 := Go.Proofs.Tryz.isAgg151,
  z77 := Go.Proofs.Tryz.sizeOf151,
  v77 := Go.Proofs.Tryz.zeroValue151 }
theorem tab : TabOk Tryz.prog (assoc tks) (assoc ars) := tab_of (by kernel_rfl)
theorem mixed : Tryz.prog.follows .mixedOrders = true := by kernel_rfl
theorem C_slices_SortFunc_SSint_Sint_by_slices_Compare_Sint_int : Contract Tryz.prog 122 S_slices_SortFunc_SSint_Sint_by_slices_Compare_Sint_int :=
  con_sortF (enters_of Tryz.func122 (by kernel_rfl) rfl) (fun w v1 v2 xs ys h1 h2 l1 l2 => cmpH h1 h2 l1 l2) (fun n enc cf blk off cap w h1 hO hcmp hH hb hs => Any.slices_SortFunc layg6 enc h1 cf hO 113 #[] blk off cap (idA n) w (enters_of Tryz.func113 (by kernel_rfl) rfl) hcmp hH hb hs) (AnyF.slices_SortFunc_none { layg6 with })
theorem C_slices_Sort_Sint_int : Contract Tryz.prog 121 S_slices_Sort_Sint_int :=
  con_sortI (enters_of Tryz.func121 (by kernel_rfl) rfl) (fun blk off cap zs w h1 h2 h3 => AnyM.slices_Sort_int layg5 blk off cap zs w h1 h2 h3) (fun p cap w => AnyM.slices_Sort_int_none layg5 p cap w)
theorem C_laws_szIntA2S_raw (N : Nat) : Contract Tryz.prog 43 ⟨[(K_SPiiq, false), (I, false)], [I], true, F_laws_szIntA2S N⟩ :=
  have E : Env Tryz.prog Γ_laws_szIntA2S := env_of tab trivial
  con_of (Pc := []) E rfl mixed Tryz.func43 (by kernel_rfl) (by kernel_rfl) (by kernel_rfl) (by kernel_rfl) (fun A hA => trivial) (F_laws_szIntA2S_ok N)
theorem C_laws_szIntA2S : Contract Tryz.prog 43 S_laws_szIntA2S := Contract.less (fun N : Nat => F_laws_szIntA2S N) C_laws_szIntA2S_raw (fun d r h => ⟨0, (F_laws_szIntA2S_tot 0 d).trans h⟩)
theorem C_laws_szGraph_raw (N : Nat) : Contract Tryz.prog 12 ⟨[(K_PiSPiiqq, false), (I, false)], [I], true, F_laws_szGraph N⟩ :=
  have E : Env Tryz.prog Γ_laws_szGraph := env_of tab ⟨C_laws_szIntA2S, trivial⟩
  con_of (Pc := []) E rfl mixed Tryz.func12 (by kernel_rfl) (by kernel_rfl) (by kernel_rfl) (by kernel_rfl) (fun A hA => trivial) (F_laws_szGraph_ok N)
theorem C_laws_szGraph : Contract Tryz.prog 12 S_laws_szGraph := Contract.less (fun N : Nat => F_laws_szGraph N) C_laws_szGraph_raw (fun d r h => ⟨0, (F_laws_szGraph_tot 0 d).trans h⟩)
theorem C_laws_szIntS_raw (N : Nat) : Contract Tryz.prog 44 ⟨[(K_Si, false), (I, false)], [I], true, F_laws_szIntS N⟩ :=
  have E : Env Tryz.prog Γ_laws_szIntS := env_of tab trivial
  con_of (Pc := []) E rfl mixed Tryz.func44 (by kernel_rfl) (by kernel_rfl) (by kernel_rfl) (by kernel_rfl) (fun A hA => trivial) (F_laws_szIntS_ok N)
theorem C_laws_szIntS : Contract Tryz.prog 44 S_laws_szIntS := Contract.less (fun N : Nat => F_laws_szIntS N) C_laws_szIntS_raw (fun d r h => ⟨0, (F_laws_szIntS_tot 0 d).trans h⟩)
theorem C_laws_szIntSS_raw (N : Nat) : Contract Tryz.prog 13 ⟨[(K_SSi, false), (I, false)], [I], true, F_laws_szIntSS N⟩ :=
  have E : Env Tryz.prog Γ_laws_szIntSS := env_of tab ⟨C_laws_szIntS, trivial⟩
  con_of (Pc := [(0, ⟨laws_szIntSS_l0_h, laws_szIntSS_l0_o, laws_szIntSS_l0 N N⟩)]) E rfl mixed Tryz.func13 (by kernel_rfl) (by kernel_rfl) (by kernel_rfl) (by kernel_rfl) (fun A hA => ⟨pc_of (inner := []) E mixed hA (by kernel_rfl) (by kernel_rfl) (by kernel_rfl) trivial (fun _ => rfl) (fun m d => (laws_szIntSS_l0_ok N (laws_szIntSS_l0 N m) d).symm) N, trivial⟩) (F_laws_szIntSS_ok N)
theorem C_laws_szIntSS : Contract Tryz.prog 13 S_laws_szIntSS := Contract.less (fun N : Nat => F_laws_szIntSS N) C_laws_szIntSS_raw szIntSS_lim
theorem C_laws_toIntA2_raw (N : Nat) : Contract Tryz.prog 87 ⟨[(K_Piiq, false)], [K_Piiq], true, F_laws_toIntA2 N⟩ :=
  have E : Env Tryz.prog Γ_laws_toIntA2 := env_of tab trivial
  con_of (Pc := [(0, ⟨laws_toIntA2_l0_h, laws_toIntA2_l0_o, laws_toIntA2_l0 N N⟩)]) E rfl mixed Tryz.func87 (by kernel_rfl) (by kernel_rfl) (by kernel_rfl) (by kernel_rfl) (fun A hA => ⟨pc_of (inner := []) E mixed hA (by kernel_rfl) (by kernel_rfl) (by kernel_rfl) trivial (fun _ => rfl) (fun m d => (laws_toIntA2_l0_ok N (laws_toIntA2_l0 N m) d).symm) N, trivial⟩) (F_laws_toIntA2_ok N)
theorem C_laws_toIntA2 : Contract Tryz.prog 87 S_laws_toIntA2 := Contract.less (fun N : Nat => F_laws_toIntA2 N) C_laws_toIntA2_raw toIntA2_lim
theorem C_laws_toIntA2S_raw (N : Nat) : Contract Tryz.prog 48 ⟨[(K_SPiiq, false)], [K_SPiiq], true, F_laws_toIntA2S N⟩ :=
  have E : Env Tryz.prog Γ_laws_toIntA2S := env_of tab ⟨C_laws_toIntA2, trivial⟩
  con_of (Pc := [(0, ⟨laws_toIntA2S_l0_h, laws_toIntA2S_l0_o, laws_toIntA2S_l0 N N⟩)]) E rfl mixed Tryz.func48 (by kernel_rfl) (by kernel_rfl) (by kernel_rfl) (by kernel_rfl) (fun A hA => ⟨pc_of (inner := []) E mixed hA (by kernel_rfl) (by kernel_rfl) (by kernel_rfl) trivial (fun _ => rfl) (fun m d => (laws_toIntA2S_l0_ok N (laws_toIntA2S_l0 N m) d).symm) N, trivial⟩) (F_laws_toIntA2S_ok N)
theorem C_laws_toIntA2S : Contract Tryz.prog 48 S_laws_toIntA2S := Contract.less (fun N : Nat => F_laws_toIntA2S N) C_laws_toIntA2S_raw toIntA2S_lim
theorem C_laws_toGraph_raw (N : Nat) : Contract Tryz.prog 15 ⟨[(K_PiSPiiqq, false)], [K_PiSPiiqq], true, F_laws_toGraph N⟩ :=
  have E : Env Tryz.prog Γ_laws_toGraph := env_of tab ⟨C_laws_toIntA2S, trivial⟩
  con_of (Pc := []) E rfl mixed Tryz.func15 (by kernel_rfl) (by kernel_rfl) (by kernel_rfl) (by kernel_rfl) (fun A hA => trivial) (F_laws_toGraph_ok N)
theorem C_laws_toGraph : Contract Tryz.prog 15 S_laws_toGraph := C_laws_toGraph_raw 0
theorem C_laws_toIntS_raw (N : Nat) : Contract Tryz.prog 31 ⟨[(K_Si, false)], [K_Si], true, F_laws_toIntS N⟩ :=
  have E : Env Tryz.prog Γ_laws_toIntS := env_of tab trivial
  con_of (Pc := [(0, ⟨laws_toIntS_l0_h, laws_toIntS_l0_o, laws_toIntS_l0 N N⟩)]) E rfl mixed Tryz.func31 (by kernel_rfl) (by kernel_rfl) (by kernel_rfl) (by kernel_rfl) (fun A hA => ⟨pc_of (inner := []) E mixed hA (by kernel_rfl) (by kernel_rfl) (by kernel_rfl) trivial (fun _ => rfl) (fun m d => (laws_toIntS_l0_ok N (laws_toIntS_l0 N m) d).symm) N, trivial⟩) (F_laws_toIntS_ok N)
theorem C_laws_toIntS : Contract Tryz.prog 31 S_laws_toIntS := Contract.less (fun N : Nat => F_laws_toIntS N) C_laws_toIntS_raw toIntS_lim
theorem C_laws_toIntSS_raw (N : Nat) : Contract Tryz.prog 16 ⟨[(K_SSi, false)], [K_SSi], true, F_laws_toIntSS N⟩ :=
  have E : Env Tryz.prog Γ_laws_toIntSS := env_of tab ⟨C_laws_toIntS, trivial⟩
  con_of (Pc := [(0, ⟨laws_toIntSS_l0_h, laws_toIntSS_l0_o, laws_toIntSS_l0 N N⟩)]) E rfl mixed Tryz.func16 (by kernel_rfl) (by kernel_rfl) (by kernel_rfl) (by kernel_rfl) (fun A hA => ⟨pc_of (inner := []) E mixed hA (by kernel_rfl) (by kernel_rfl) (by kernel_rfl) trivial (fun _ => rfl) (fun m d => (laws_toIntSS_l0_ok N (laws_toIntSS_l0 N m) d).symm) N, trivial⟩) (F_laws_toIntSS_ok N)
theorem C_laws_toIntSS : Contract Tryz.prog 16 S_laws_toIntSS := Contract.less (fun N : Nat => F_laws_toIntSS N) C_laws_toIntSS_raw toIntSS_lim
theorem C_spec_l1In_raw (N : Nat) : Contract Tryz.prog 77 ⟨[(I, false), (I, false), (I, false)], [.bool], true, F_spec_l1In N⟩ :=
  have E : Env Tryz.prog Γ_spec_l1In := env_of tab trivial
  con_of (Pc := []) E rfl mixed Tryz.func77 (by kernel_rfl) (by kernel_rfl) (by kernel_rfl) (by kernel_rfl) (fun A hA => trivial) (F_spec_l1In_ok N)
theorem C_spec_l1In : Contract Tryz.prog 77 S_spec_l1In := Contract.less (fun N : Nat => F_spec_l1In N) C_spec_l1In_raw (fun d r h => ⟨0, (F_spec_l1In_tot 0 d).trans h⟩)
theorem C_spec_l2Before_raw (N : Nat) : Contract Tryz.prog 82 ⟨[(K_Piiq, false), (K_Piiq, false)], [.bool], true, F_spec_l2Before N⟩ :=
  have E : Env Tryz.prog Γ_spec_l2Before := env_of tab trivial
  con_of (Pc := []) E rfl mixed Tryz.func82 (by kernel_rfl) (by kernel_rfl) (by kernel_rfl) (by kernel_rfl) (fun A hA => trivial) (F_spec_l2Before_ok N)
theorem C_spec_l2Before : Contract Tryz.prog 82 S_spec_l2Before := Contract.less (fun N : Nat => F_spec_l2Before N) C_spec_l2Before_raw (fun d r h => ⟨0, (F_spec_l2Before_tot 0 d).trans h⟩)
theorem C_spec_l2Good_raw (N : Nat) : Contract Tryz.prog 45 ⟨[(K_PiSPiiqq, false)], [.bool], true, F_spec_l2Good N⟩ :=
  have E : Env Tryz.prog Γ_spec_l2Good := env_of tab ⟨C_spec_l1In, ⟨C_spec_l2Before, trivial⟩⟩
  con_of (Pc := [(0, ⟨spec_l2Good_l0_h, spec_l2Good_l0_o, spec_l2Good_l0 N N⟩)]) E rfl mixed Tryz.func45 (by kernel_rfl) (by kernel_rfl) (by kernel_rfl) (by kernel_rfl) (fun A hA => ⟨pc_of (inner := []) E mixed hA (by kernel_rfl) (by kernel_rfl) (by kernel_rfl) trivial (fun _ => rfl) (fun m d => (spec_l2Good_l0_ok N (spec_l2Good_l0 N m) d).symm) N, trivial⟩) (F_spec_l2Good_ok N)
theorem C_spec_l2Good : Contract Tryz.prog 45 S_spec_l2Good := Contract.less (fun N : Nat => F_spec_l2Good N) C_spec_l2Good_raw l2Good_lim
theorem C_spec_l4Field_raw (N : Nat) : Contract Tryz.prog 59 ⟨[(K_PiSPiiqq, false), (I, false)], [.bool], true, F_spec_l4Field N⟩ :=
  have E : Env Tryz.prog Γ_spec_l4Field := env_of tab ⟨C_spec_l2Good, ⟨C_spec_l1In, trivial⟩⟩
  con_of (Pc := []) E rfl mixed Tryz.func59 (by kernel_rfl) (by kernel_rfl) (by kernel_rfl) (by kernel_rfl) (fun A hA => trivial) (F_spec_l4Field_ok N)
theorem C_spec_l4Field : Contract Tryz.prog 59 S_spec_l4Field := C_spec_l4Field_raw 0
theorem C_spec_l2Node_raw (N : Nat) : Contract Tryz.prog 107 ⟨[(K_PiSPiiqq, false), (I, false)], [.bool], true, F_spec_l2Node N⟩ :=
  have E : Env Tryz.prog Γ_spec_l2Node := env_of tab ⟨C_spec_l1In, trivial⟩
  con_of (Pc := []) E rfl mixed Tryz.func107 (by kernel_rfl) (by kernel_rfl) (by kernel_rfl) (by kernel_rfl) (fun A hA => trivial) (F_spec_l2Node_ok N)
theorem C_spec_l2Node : Contract Tryz.prog 107 S_spec_l2Node := Contract.less (fun N : Nat => F_spec_l2Node N) C_spec_l2Node_raw (fun d r h => ⟨0, (F_spec_l2Node_tot 0 d).trans h⟩)
theorem C_spec_l4Cops_raw (N : Nat) : Contract Tryz.prog 76 ⟨[(K_PiSPiiqq, false), (K_Si, false)], [.bool], true, F_spec_l4Cops N⟩ :=
  have E : Env Tryz.prog Γ_spec_l4Cops := env_of tab ⟨C_spec_l2Node, trivial⟩
  con_of (Pc := [(0, ⟨spec_l4Cops_l0_h, spec_l4Cops_l0_o, spec_l4Cops_l0 N N⟩)]) E rfl mixed Tryz.func76 (by kernel_rfl) (by kernel_rfl) (by kernel_rfl) (by kernel_rfl) (fun A hA => ⟨pc_of (inner := []) E mixed hA (by kernel_rfl) (by kernel_rfl) (by kernel_rfl) trivial (fun _ => rfl) (fun m d => (spec_l4Cops_l0_ok N (spec_l4Cops_l0 N m) d).symm) N, trivial⟩) (F_spec_l4Cops_ok N)
theorem C_spec_l4Cops : Contract Tryz.prog 76 S_spec_l4Cops := Contract.less (fun N : Nat => F_spec_l4Cops N) C_spec_l4Cops_raw l4Cops_lim
theorem C_spec_l2Near_raw (N : Nat) : Contract Tryz.prog 124 ⟨[(K_PiSPiiqq, false), (I, false), (I, false)], [.bool], true, F_spec_l2Near N⟩ :=
  have E : Env Tryz.prog Γ_spec_l2Near := env_of tab trivial
  con_of (Pc := [(0, ⟨spec_l2Near_l0_h, spec_l2Near_l0_o, spec_l2Near_l0 N N⟩)]) E rfl mixed Tryz.func124 (by kernel_rfl) (by kernel_rfl) (by kernel_rfl) (by kernel_rfl) (fun A hA => ⟨pc_of (inner := []) E mixed hA (by kernel_rfl) (by kernel_rfl) (by kernel_rfl) trivial (fun _ => rfl) (fun m d => (spec_l2Near_l0_ok N (spec_l2Near_l0 N m) d).symm) N, trivial⟩) (F_spec_l2Near_ok N)
theorem C_spec_l2Near : Contract Tryz.prog 124 S_spec_l2Near := Contract.less (fun N : Nat => F_spec_l2Near N) C_spec_l2Near_raw l2Near_lim
theorem C_spec_l2Neighbors_raw (N : Nat) : Contract Tryz.prog 98 ⟨[(K_PiSPiiqq, false), (I, false)], [K_Si], true, F_spec_l2Neighbors N⟩ :=
  have E : Env Tryz.prog Γ_spec_l2Neighbors := env_of tab ⟨C_spec_l2Near, trivial⟩
  con_of (Pc := [(0, ⟨spec_l2Neighbors_l0_h, spec_l2Neighbors_l0_o, spec_l2Neighbors_l0 N N⟩)]) E rfl mixed Tryz.func98 (by kernel_rfl) (by kernel_rfl) (by kernel_rfl) (by kernel_rfl) (fun A hA => ⟨pc_of (inner := []) E mixed hA (by kernel_rfl) (by kernel_rfl) (by kernel_rfl) trivial (fun _ => rfl) (fun m d => (spec_l2Neighbors_l0_ok N (spec_l2Neighbors_l0 N m) d).symm) N, trivial⟩) (F_spec_l2Neighbors_ok N)
theorem C_spec_l2Neighbors : Contract Tryz.prog 98 S_spec_l2Neighbors := Contract.less (fun N : Nat => F_spec_l2Neighbors N) C_spec_l2Neighbors_raw l2Neighbors_lim
theorem C_spec_l1Put_raw (N : Nat) : Contract Tryz.prog 97 ⟨[(K_Si, false), (I, false)], [K_Si], false, F_spec_l1Put N⟩ :=
  have E : Env Tryz.prog Γ_spec_l1Put := env_of tab trivial
  con_of (Pc := [(0, ⟨spec_l1Put_l0_h, spec_l1Put_l0_o, spec_l1Put_l0 N N⟩)]) E rfl mixed Tryz.func97 (by kernel_rfl) (by kernel_rfl) (by kernel_rfl) (by kernel_rfl) (fun A hA => ⟨pc_of (inner := []) E mixed hA (by kernel_rfl) (by kernel_rfl) (by kernel_rfl) trivial (fun _ => rfl) (fun m d => (spec_l1Put_l0_ok N (spec_l1Put_l0 N m) d).symm) N, trivial⟩) (F_spec_l1Put_ok N)
theorem C_spec_l1Put : Contract Tryz.prog 97 S_spec_l1Put := Contract.less (fun N : Nat => F_spec_l1Put N) C_spec_l1Put_raw l1Put_lim
theorem C_spec_l2Ball_raw (N : Nat) : Contract Tryz.prog 56 ⟨[(K_PiSPiiqq, false), (I, false)], [K_Si], false, F_spec_l2Ball N⟩ :=
  have E : Env Tryz.prog Γ_spec_l2Ball := env_of tab ⟨C_spec_l1Put, ⟨C_spec_l2Neighbors, trivial⟩⟩
  con_of (Pc := []) E rfl mixed Tryz.func56 (by kernel_rfl) (by kernel_rfl) (by kernel_rfl) (by kernel_rfl) (fun A hA => trivial) (F_spec_l2Ball_ok N)
theorem C_spec_l2Ball : Contract Tryz.prog 56 S_spec_l2Ball := C_spec_l2Ball_raw 0
theorem C_spec_l1Own_raw (N : Nat) : Contract Tryz.prog 73 ⟨[(K_Si, false)], [K_Si], true, F_spec_l1Own N⟩ :=
  have E : Env Tryz.prog Γ_spec_l1Own := env_of tab trivial
  con_of (Pc := []) E rfl mixed Tryz.func73 (by kernel_rfl) (by kernel_rfl) (by kernel_rfl) (by kernel_rfl) (fun A hA => trivial) (F_spec_l1Own_ok N)
theorem C_spec_l1Own : Contract Tryz.prog 73 S_spec_l1Own := C_spec_l1Own_raw 0
theorem C_spec_l4Sorted_raw (N : Nat) : Contract Tryz.prog 118 ⟨[(K_Si, false)], [K_Si], false, F_spec_l4Sorted N⟩ :=
  have E : Env Tryz.prog Γ_spec_l4Sorted := env_ofV tab trivial trivial (fun _ h => by cases h)
  con_of (Pc := [(0, ⟨spec_l4Sorted_l0_h, spec_l4Sorted_l0_o, spec_l4Sorted_l0 N N⟩)]) E rfl mixed Tryz.func118 (by kernel_rfl) (by kernel_rfl) (by kernel_rfl) (by kernel_rfl) (fun A hA => ⟨pc_of (inner := [(2, ⟨spec_l4Sorted_l2_h, spec_l4Sorted_l2_o, spec_l4Sorted_l2 N N⟩)]) E mixed hA (by kernel_rfl) (by kernel_rfl) (by kernel_rfl) ⟨pc_of (inner := []) E mixed hA (by kernel_rfl) (by kernel_rfl) (by kernel_rfl) trivial (fun _ => rfl) (fun m d => (spec_l4Sorted_l2_ok N (spec_l4Sorted_l2 N m) d).symm) N, trivial⟩ (fun _ => rfl) (fun m d => (spec_l4Sorted_l0_ok N (spec_l4Sorted_l0 N m) d).symm) N, trivial⟩) (F_spec_l4Sorted_ok N)
theorem C_spec_l4Sorted : Contract Tryz.prog 118 S_spec_l4Sorted := Contract.less (fun N : Nat => F_spec_l4Sorted N) C_spec_l4Sorted_raw l4Sorted_lim
theorem C_spec_l4Less_raw (N : Nat) : Contract Tryz.prog 131 ⟨[(K_Si, false), (K_Si, false)], [.bool], true, F_spec_l4Less N⟩ :=
  have E : Env Tryz.prog Γ_spec_l4Less := env_of tab trivial
  con_of (Pc := [(0, ⟨spec_l4Less_l0_h, spec_l4Less_l0_o, spec_l4Less_l0 N N⟩)]) E rfl mixed Tryz.func131 (by kernel_rfl) (by kernel_rfl) (by kernel_rfl) (by kernel_rfl) (fun A hA => ⟨pc_of (inner := []) E mixed hA (by kernel_rfl) (by kernel_rfl) (by kernel_rfl) trivial (fun _ => rfl) (fun m d => (spec_l4Less_l0_ok N (spec_l4Less_l0 N m) d).symm) N, trivial⟩) (F_spec_l4Less_ok N)
theorem C_spec_l4Less : Contract Tryz.prog 131 S_spec_l4Less := Contract.less (fun N : Nat => F_spec_l4Less N) C_spec_l4Less_raw l4Less_lim
theorem C_spec_l1Same_raw (N : Nat) : Contract Tryz.prog 108 ⟨[(K_Si, false), (K_Si, false)], [.bool], true, F_spec_l1Same N⟩ :=
  have E : Env Tryz.prog Γ_spec_l1Same := env_of tab trivial
  con_of (Pc := [(0, ⟨spec_l1Same_l0_h, spec_l1Same_l0_o, spec_l1Same_l0 N N⟩)]) E rfl mixed Tryz.func108 (by kernel_rfl) (by kernel_rfl) (by kernel_rfl) (by kernel_rfl) (fun A hA => ⟨pc_of (inner := []) E mixed hA (by kernel_rfl) (by kernel_rfl) (by kernel_rfl) trivial (fun _ => rfl) (fun m d => (spec_l1Same_l0_ok N (spec_l1Same_l0 N m) d).symm) N, trivial⟩) (F_spec_l1Same_ok N)
theorem C_spec_l1Same : Contract Tryz.prog 108 S_spec_l1Same := Contract.less (fun N : Nat => F_spec_l1Same N) C_spec_l1Same_raw l1Same_lim
theorem C_spec_l4Put_raw (N : Nat) : Contract Tryz.prog 117 ⟨[(K_SSi, false), (K_Si, false)], [K_SSi], false, F_spec_l4Put N⟩ :=
  have E : Env Tryz.prog Γ_spec_l4Put := env_of tab ⟨C_spec_l1Same, ⟨C_spec_l4Less, trivial⟩⟩
  con_of (Pc := [(0, ⟨spec_l4Put_l0_h, spec_l4Put_l0_o, spec_l4Put_l0 N N⟩)]) E rfl mixed Tryz.func117 (by kernel_rfl) (by kernel_rfl) (by kernel_rfl) (by kernel_rfl) (fun A hA => ⟨pc_of (inner := []) E mixed hA (by kernel_rfl) (by kernel_rfl) (by kernel_rfl) trivial (fun _ => rfl) (fun m d => (spec_l4Put_l0_ok N (spec_l4Put_l0 N m) d).symm) N, trivial⟩) (F_spec_l4Put_ok N)
theorem C_spec_l4Put : Contract Tryz.prog 117 S_spec_l4Put := Contract.less (fun N : Nat => F_spec_l4Put N) C_spec_l4Put_raw l4Put_lim
theorem C_spec_l4Moves_raw (N : Nat) : Contract Tryz.prog 83 ⟨[(K_PiSPiiqq, false), (K_Si, false)], [K_SSi], false, F_spec_l4Moves N⟩ :=
  have E : Env Tryz.prog Γ_spec_l4Moves := env_ofV tab ⟨C_spec_l2Ball, ⟨C_spec_l1Own, ⟨C_spec_l4Put, ⟨C_spec_l4Sorted, trivial⟩⟩⟩⟩ trivial (fun _ h => by cases h)
  con_of (Pc := [(0, ⟨spec_l4Moves_l0_h, spec_l4Moves_l0_o, spec_l4Moves_l0 N N⟩), (6, ⟨spec_l4Moves_l6_h, spec_l4Moves_l6_o, spec_l4Moves_l6 N N⟩)]) E rfl mixed Tryz.func83 (by kernel_rfl) (by kernel_rfl) (by kernel_rfl) (by kernel_rfl) (fun A hA => ⟨pc_of (inner := [(2, ⟨spec_l4Moves_l2_h, spec_l4Moves_l2_o, spec_l4Moves_l2 N N⟩)]) E mixed hA (by kernel_rfl) (by kernel_rfl) (by kernel_rfl) ⟨pc_of (inner := [(4, ⟨spec_l4Moves_l4_h, spec_l4Moves_l4_o, spec_l4Moves_l4 N N⟩)]) E mixed hA (by kernel_rfl) (by kernel_rfl) (by kernel_rfl) ⟨pc_of (inner := []) E mixed hA (by kernel_rfl) (by kernel_rfl) (by kernel_rfl) trivial (fun _ => rfl) (fun m d => (spec_l4Moves_l4_ok N (spec_l4Moves_l4 N m) d).symm) N, trivial⟩ (fun _ => rfl) (fun m d => (spec_l4Moves_l2_ok N (spec_l4Moves_l2 N m) d).symm) N, trivial⟩ (fun _ => rfl) (fun m d => (spec_l4Moves_l0_ok N (spec_l4Moves_l0 N m) d).symm) N, ⟨pc_of (inner := []) E mixed hA (by kernel_rfl) (by kernel_rfl) (by kernel_rfl) trivial (fun _ => rfl) (fun m d => (spec_l4Moves_l6_ok N (spec_l4Moves_l6 N m) d).symm) N, trivial⟩⟩) (F_spec_l4Moves_ok N)
theorem C_spec_l4Moves : Contract Tryz.prog 83 S_spec_l4Moves := Contract.less (fun N : Nat => F_spec_l4Moves N) C_spec_l4Moves_raw l4Moves_lim
theorem C_spec_l4At_raw (N : Nat) : Contract Tryz.prog 66 ⟨[(K_SSi, false), (K_Si, false)], [I], true, F_spec_l4At N⟩ :=
  have E : Env Tryz.prog Γ_spec_l4At := env_of tab ⟨C_spec_l1Same, trivial⟩
  con_of (Pc := [(0, ⟨spec_l4At_l0_h, spec_l4At_l0_o, spec_l4At_l0 N N⟩)]) E rfl mixed Tryz.func66 (by kernel_rfl) (by kernel_rfl) (by kernel_rfl) (by kernel_rfl) (fun A hA => ⟨pc_of (inner := []) E mixed hA (by kernel_rfl) (by kernel_rfl) (by kernel_rfl) trivial (fun _ => rfl) (fun m d => (spec_l4At_l0_ok N (spec_l4At_l0 N m) d).symm) N, trivial⟩) (F_spec_l4At_ok N)
theorem C_spec_l4At : Contract Tryz.prog 66 S_spec_l4At := Contract.less (fun N : Nat => F_spec_l4At N) C_spec_l4At_raw l4At_lim
theorem C_spec_l11Walk_raw (N : Nat) : Contract Tryz.prog 46 ⟨[(K_PiSPiiqq, false), (K_SSi, false)], [.bool], true, F_spec_l11Walk N⟩ :=
  have E : Env Tryz.prog Γ_spec_l11Walk := env_of tab ⟨C_spec_l4Field, ⟨C_spec_l4At, ⟨C_spec_l4Cops, ⟨C_spec_l1In, ⟨C_spec_l4Moves, trivial⟩⟩⟩⟩⟩
  con_of (Pc := [(0, ⟨spec_l11Walk_l0_h, spec_l11Walk_l0_o, spec_l11Walk_l0 N N⟩)]) E rfl mixed Tryz.func46 (by kernel_rfl) (by kernel_rfl) (by kernel_rfl) (by kernel_rfl) (fun A hA => ⟨pc_of (inner := []) E mixed hA (by kernel_rfl) (by kernel_rfl) (by kernel_rfl) trivial (fun _ => rfl) (fun m d => (spec_l11Walk_l0_ok N (spec_l11Walk_l0 N m) d).symm) N, trivial⟩) (F_spec_l11Walk_ok N)
theorem C_spec_l11Walk : Contract Tryz.prog 46 S_spec_l11Walk := Contract.less (fun N : Nat => F_spec_l11Walk N) C_spec_l11Walk_raw l11Walk_lim
theorem C_spec_l2Bits_raw (N : Nat) : Contract Tryz.prog 119 ⟨[(I, false), (I, false)], [K_Si], true, F_spec_l2Bits N⟩ :=
  have E : Env Tryz.prog Γ_spec_l2Bits := env_of tab trivial
  con_of (Pc := [(0, ⟨spec_l2Bits_l0_h, spec_l2Bits_l0_o, spec_l2Bits_l0 N N⟩)]) E rfl mixed Tryz.func119 (by kernel_rfl) (by kernel_rfl) (by kernel_rfl) (by kernel_rfl) (fun A hA => ⟨pc_of (inner := []) E mixed hA (by kernel_rfl) (by kernel_rfl) (by kernel_rfl) trivial (fun _ => rfl) (fun m d => (spec_l2Bits_l0_ok N (spec_l2Bits_l0 N m) d).symm) N, trivial⟩) (F_spec_l2Bits_ok N)
theorem C_spec_l2Bits : Contract Tryz.prog 119 S_spec_l2Bits := Contract.less (fun N : Nat => F_spec_l2Bits N) C_spec_l2Bits_raw l2Bits_lim
theorem C_spec_l2All_raw (N : Nat) : Contract Tryz.prog 85 ⟨[(K_PiSPiiqq, false)], [K_Si], true, F_spec_l2All N⟩ :=
  have E : Env Tryz.prog Γ_spec_l2All := env_of tab ⟨C_spec_l2Bits, trivial⟩
  con_of (Pc := []) E rfl mixed Tryz.func85 (by kernel_rfl) (by kernel_rfl) (by kernel_rfl) (by kernel_rfl) (fun A hA => trivial) (F_spec_l2All_ok N)
theorem C_spec_l2All : Contract Tryz.prog 85 S_spec_l2All := C_spec_l2All_raw 0
theorem C_spec_l1Has_raw (N : Nat) : Contract Tryz.prog 57 ⟨[(K_Si, false), (I, false)], [.bool], true, F_spec_l1Has N⟩ :=
  have E : Env Tryz.prog Γ_spec_l1Has := env_of tab trivial
  con_of (Pc := [(0, ⟨spec_l1Has_l0_h, spec_l1Has_l0_o, spec_l1Has_l0 N N⟩)]) E rfl mixed Tryz.func57 (by kernel_rfl) (by kernel_rfl) (by kernel_rfl) (by kernel_rfl) (fun A hA => ⟨pc_of (inner := []) E mixed hA (by kernel_rfl) (by kernel_rfl) (by kernel_rfl) trivial (fun _ => rfl) (fun m d => (spec_l1Has_l0_ok N (spec_l1Has_l0 N m) d).symm) N, trivial⟩) (F_spec_l1Has_ok N)
theorem C_spec_l1Has : Contract Tryz.prog 57 S_spec_l1Has := Contract.less (fun N : Nat => F_spec_l1Has N) C_spec_l1Has_raw l1Has_lim
theorem C_spec_l11Rest_raw (N : Nat) : Contract Tryz.prog 84 ⟨[(K_Si, false), (K_Si, false)], [K_Si], true, F_spec_l11Rest N⟩ :=
  have E : Env Tryz.prog Γ_spec_l11Rest := env_of tab ⟨C_spec_l1Has, trivial⟩
  con_of (Pc := [(0, ⟨spec_l11Rest_l0_h, spec_l11Rest_l0_o, spec_l11Rest_l0 N N⟩)]) E rfl mixed Tryz.func84 (by kernel_rfl) (by kernel_rfl) (by kernel_rfl) (by kernel_rfl) (fun A hA => ⟨pc_of (inner := []) E mixed hA (by kernel_rfl) (by kernel_rfl) (by kernel_rfl) trivial (fun _ => rfl) (fun m d => (spec_l11Rest_l0_ok N (spec_l11Rest_l0 N m) d).symm) N, trivial⟩) (F_spec_l11Rest_ok N)
theorem C_spec_l11Rest : Contract Tryz.prog 84 S_spec_l11Rest := Contract.less (fun N : Nat => F_spec_l11Rest N) C_spec_l11Rest_raw l11Rest_lim
theorem C_spec_l11Back_raw (N : Nat) : Contract Tryz.prog 55 ⟨[(K_PiSPiiqq, false), (K_SSi, false)], [K_SSi], false, F_spec_l11Back N⟩ :=
  have E : Env Tryz.prog Γ_spec_l11Back := env_ofV tab ⟨C_spec_l2Ball, ⟨C_spec_l1Has, ⟨C_spec_l11Rest, ⟨C_spec_l2All, trivial⟩⟩⟩⟩ trivial (fun _ h => by cases h)
  con_of (Pc := [(0, ⟨spec_l11Back_l0_h, spec_l11Back_l0_o, spec_l11Back_l0 N N⟩)]) E rfl mixed Tryz.func55 (by kernel_rfl) (by kernel_rfl) (by kernel_rfl) (by kernel_rfl) (fun A hA => ⟨pc_of (inner := [(2, ⟨spec_l11Back_l2_h, spec_l11Back_l2_o, spec_l11Back_l2 N N⟩)]) E mixed hA (by kernel_rfl) (by kernel_rfl) (by kernel_rfl) ⟨pc_of (inner := [(4, ⟨spec_l11Back_l4_h, spec_l11Back_l4_o, spec_l11Back_l4 N N⟩)]) E mixed hA (by kernel_rfl) (by kernel_rfl) (by kernel_rfl) ⟨pc_of (inner := []) E mixed hA (by kernel_rfl) (by kernel_rfl) (by kernel_rfl) trivial (fun _ => rfl) (fun m d => (spec_l11Back_l4_ok N (spec_l11Back_l4 N m) d).symm) N, trivial⟩ (fun _ => rfl) (fun m d => (spec_l11Back_l2_ok N (spec_l11Back_l2 N m) d).symm) N, trivial⟩ (fun _ => rfl) (fun m d => (spec_l11Back_l0_ok N (spec_l11Back_l0 N m) d).symm) N, trivial⟩) (F_spec_l11Back_ok N)
theorem C_spec_l11Back : Contract Tryz.prog 55 S_spec_l11Back := Contract.less (fun N : Nat => F_spec_l11Back N) C_spec_l11Back_raw l11Back_lim
theorem C_spec_EscapeOf_raw (N : Nat) : Contract Tryz.prog 23 ⟨[(K_PiSPiiqq, false), (K_SSi, false)], [K_Si, .bool], true, F_spec_EscapeOf N⟩ :=
  have E : Env Tryz.prog Γ_spec_EscapeOf := env_of tab ⟨C_spec_l2Good, ⟨C_spec_l11Walk, ⟨C_spec_l11Back, ⟨C_spec_l2Ball, ⟨C_spec_l1Has, trivial⟩⟩⟩⟩⟩
  con_of (Pc := [(0, ⟨spec_EscapeOf_l0_h, spec_EscapeOf_l0_o, spec_EscapeOf_l0 N N⟩)]) E rfl mixed Tryz.func23 (by kernel_rfl) (by kernel_rfl) (by kernel_rfl) (by kernel_rfl) (fun A hA => ⟨pc_of (inner := [(2, ⟨spec_EscapeOf_l2_h, spec_EscapeOf_l2_o, spec_EscapeOf_l2 N N⟩)]) E mixed hA (by kernel_rfl) (by kernel_rfl) (by kernel_rfl) ⟨pc_of (inner := []) E mixed hA (by kernel_rfl) (by kernel_rfl) (by kernel_rfl) trivial (fun _ => rfl) (fun m d => (spec_EscapeOf_l2_ok N (spec_EscapeOf_l2 N m) d).symm) N, trivial⟩ (fun _ => rfl) (fun m d => (spec_EscapeOf_l0_ok N (spec_EscapeOf_l0 N m) d).symm) N, trivial⟩) (F_spec_EscapeOf_ok N)
theorem C_spec_EscapeOf : Contract Tryz.prog 23 S_spec_EscapeOf := Contract.less (fun N : Nat => F_spec_EscapeOf N) C_spec_EscapeOf_raw specEO_lim
theorem C_impl_within_raw (N : Nat) : Contract Tryz.prog 78 ⟨[(I, false), (I, false), (I, false)], [.bool], true, F_impl_within N⟩ :=
  have E : Env Tryz.prog Γ_impl_within := env_of tab trivial
  con_of (Pc := []) E rfl mixed Tryz.func78 (by kernel_rfl) (by kernel_rfl) (by kernel_rfl) (by kernel_rfl) (fun A hA => trivial) (F_impl_within_ok N)
theorem C_impl_within : Contract Tryz.prog 78 S_impl_within := Contract.less (fun N : Nat => F_impl_within N) C_impl_within_raw (fun d r h => ⟨0, (F_impl_within_tot 0 d).trans h⟩)
theorem C_cmp_isNaN_int_raw (N : Nat) : Contract Tryz.prog 138 ⟨[(I, false)], [.bool], true, F_cmp_isNaN_int N⟩ :=
  have E : Env Tryz.prog Γ_cmp_isNaN_int := env_of tab trivial
  con_of (Pc := []) E rfl mixed Tryz.func138 (by kernel_rfl) (by kernel_rfl) (by kernel_rfl) (by kernel_rfl) (fun A hA => trivial) (F_cmp_isNaN_int_ok N)
theorem C_cmp_isNaN_int : Contract Tryz.prog 138 S_cmp_isNaN_int := Contract.less (fun N : Nat => F_cmp_isNaN_int N) C_cmp_isNaN_int_raw (fun d r h => ⟨0, (F_cmp_isNaN_int_tot 0 d).trans h⟩)
theorem C_cmp_Compare_int_raw (N : Nat) : Contract Tryz.prog 130 ⟨[(I, false), (I, false)], [I], true, F_cmp_Compare_int N⟩ :=
  have E : Env Tryz.prog Γ_cmp_Compare_int := env_of tab ⟨C_cmp_isNaN_int, trivial⟩
  con_of (Pc := []) E rfl mixed Tryz.func130 (by kernel_rfl) (by kernel_rfl) (by kernel_rfl) (by kernel_rfl) (fun A hA => trivial) (F_cmp_Compare_int_ok N)
theorem C_cmp_Compare_int : Contract Tryz.prog 130 S_cmp_Compare_int := Contract.less (fun N : Nat => F_cmp_Compare_int N) C_cmp_Compare_int_raw (fun d r h => ⟨0, (F_cmp_Compare_int_tot 0 d).trans h⟩)
theorem C_slices_Compare_Sint_int_raw (N : Nat) : Contract Tryz.prog 113 ⟨[(K_Si, false), (K_Si, false)], [I], true, F_slices_Compare_Sint_int N⟩ :=
  have E : Env Tryz.prog Γ_slices_Compare_Sint_int := env_of tab ⟨C_cmp_Compare_int, trivial⟩
  con_of (Pc := [(0, ⟨slices_Compare_Sint_int_l0_h, slices_Compare_Sint_int_l0_o, slices_Compare_Sint_int_l0 N N⟩)]) E rfl mixed Tryz.func113 (by kernel_rfl) (by kernel_rfl) (by kernel_rfl) (by kernel_rfl) (fun A hA => ⟨pc_of (inner := []) E mixed hA (by kernel_rfl) (by kernel_rfl) (by kernel_rfl) trivial (fun _ => rfl) (fun m d => (slices_Compare_Sint_int_l0_ok N (slices_Compare_Sint_int_l0 N m) d).symm) N, trivial⟩) (F_slices_Compare_Sint_int_ok N)
theorem C_slices_Compare_Sint_int : Contract Tryz.prog 113 S_slices_Compare_Sint_int := Contract.less (fun N : Nat => F_slices_Compare_Sint_int N) C_slices_Compare_Sint_int_raw compare_lim
theorem C_impl_IsGraph_raw (N : Nat) : Contract Tryz.prog 88 ⟨[(K_PiSPiiqq, false)], [.bool], true, F_impl_IsGraph N⟩ :=
  have E : Env Tryz.prog Γ_impl_IsGraph := env_of tab ⟨C_impl_within, ⟨C_slices_Compare_Sint_int, trivial⟩⟩
  con_of (Pc := [(0, ⟨impl_IsGraph_l0_h, impl_IsGraph_l0_o, impl_IsGraph_l0 N N⟩)]) E rfl mixed Tryz.func88 (by kernel_rfl) (by kernel_rfl) (by kernel_rfl) (by kernel_rfl) (fun A hA => ⟨pc_of (inner := []) E mixed hA (by kernel_rfl) (by kernel_rfl) (by kernel_rfl) trivial (fun _ => rfl) (fun m d => (impl_IsGraph_l0_ok N (impl_IsGraph_l0 N m) d).symm) N, trivial⟩) (F_impl_IsGraph_ok N)
theorem C_impl_IsGraph : Contract Tryz.prog 88 S_impl_IsGraph := Contract.less (fun N : Nat => F_impl_IsGraph N) C_impl_IsGraph_raw IsGraph_lim
theorem C_impl_netOf_raw (N : Nat) : Contract Tryz.prog 50 ⟨[(K_PiSPiiqq, false)], [K_PSiq], true, F_impl_netOf N⟩ :=
  have E : Env Tryz.prog Γ_impl_netOf := env_of tab trivial
  con_of (Pc := [(0, ⟨impl_netOf_l0_h, impl_netOf_l0_o, impl_netOf_l0 N N⟩)]) E rfl mixed Tryz.func50 (by kernel_rfl) (by kernel_rfl) (by kernel_rfl) (by kernel_rfl) (fun A hA => ⟨pc_of (inner := []) E mixed hA (by kernel_rfl) (by kernel_rfl) (by kernel_rfl) trivial (fun _ => rfl) (fun m d => (impl_netOf_l0_ok N (impl_netOf_l0 N m) d).symm) N, trivial⟩) (F_impl_netOf_ok N)
theorem C_impl_netOf : Contract Tryz.prog 50 S_impl_netOf := Contract.less (fun N : Nat => F_impl_netOf N) C_impl_netOf_raw netOf_lim
theorem C_impl_isCopGame_raw (N : Nat) : Contract Tryz.prog 62 ⟨[(K_PiSPiiqq, false), (I, false)], [.bool], true, F_impl_isCopGame N⟩ :=
  have E : Env Tryz.prog Γ_impl_isCopGame := env_of tab ⟨C_impl_within, ⟨C_impl_IsGraph, trivial⟩⟩
  con_of (Pc := []) E rfl mixed Tryz.func62 (by kernel_rfl) (by kernel_rfl) (by kernel_rfl) (by kernel_rfl) (fun A hA => trivial) (F_impl_isCopGame_ok N)
theorem C_impl_isCopGame : Contract Tryz.prog 62 S_impl_isCopGame := C_impl_isCopGame_raw 0
theorem C_impl_allWithin_raw (N : Nat) : Contract Tryz.prog 110 ⟨[(K_Si, false), (I, false), (I, false)], [.bool], true, F_impl_allWithin N⟩ :=
  have E : Env Tryz.prog Γ_impl_allWithin := env_of tab ⟨C_impl_within, trivial⟩
  con_of (Pc := [(0, ⟨impl_allWithin_l0_h, impl_allWithin_l0_o, impl_allWithin_l0 N N⟩)]) E rfl mixed Tryz.func110 (by kernel_rfl) (by kernel_rfl) (by kernel_rfl) (by kernel_rfl) (fun A hA => ⟨pc_of (inner := []) E mixed hA (by kernel_rfl) (by kernel_rfl) (by kernel_rfl) trivial (fun _ => rfl) (fun m d => (impl_allWithin_l0_ok N (impl_allWithin_l0 N m) d).symm) N, trivial⟩) (F_impl_allWithin_ok N)
theorem C_impl_allWithin : Contract Tryz.prog 110 S_impl_allWithin := Contract.less (fun N : Nat => F_impl_allWithin N) C_impl_allWithin_raw allWithin_lim
theorem C_impl_hasNodes_raw (N : Nat) : Contract Tryz.prog 68 ⟨[(K_PiSPiiqq, false), (K_Si, false)], [.bool], true, F_impl_hasNodes N⟩ :=
  have E : Env Tryz.prog Γ_impl_hasNodes := env_of tab ⟨C_impl_IsGraph, ⟨C_impl_allWithin, trivial⟩⟩
  con_of (Pc := []) E rfl mixed Tryz.func68 (by kernel_rfl) (by kernel_rfl) (by kernel_rfl) (by kernel_rfl) (fun A hA => trivial) (F_impl_hasNodes_ok N)
theorem C_impl_hasNodes : Contract Tryz.prog 68 S_impl_hasNodes := C_impl_hasNodes_raw 0
theorem C_cmp_Less_int_raw (N : Nat) : Contract Tryz.prog 129 ⟨[(I, false), (I, false)], [.bool], true, F_cmp_Less_int N⟩ :=
  have E : Env Tryz.prog Γ_cmp_Less_int := env_of tab ⟨C_cmp_isNaN_int, trivial⟩
  con_of (Pc := []) E rfl mixed Tryz.func129 (by kernel_rfl) (by kernel_rfl) (by kernel_rfl) (by kernel_rfl) (fun A hA => trivial) (F_cmp_Less_int_ok N)
theorem C_cmp_Less_int : Contract Tryz.prog 129 S_cmp_Less_int := Contract.less (fun N : Nat => F_cmp_Less_int N) C_cmp_Less_int_raw (fun d r h => ⟨0, (F_cmp_Less_int_tot 0 d).trans h⟩)
theorem C_slices_IsSorted_Sint_int_raw (N : Nat) : Contract Tryz.prog 109 ⟨[(K_Si, false)], [.bool], true, F_slices_IsSorted_Sint_int N⟩ :=
  have E : Env Tryz.prog Γ_slices_IsSorted_Sint_int := env_of tab ⟨C_cmp_Less_int, trivial⟩
  con_of (Pc := [(0, ⟨slices_IsSorted_Sint_int_l0_h, slices_IsSorted_Sint_int_l0_o, slices_IsSorted_Sint_int_l0 N N⟩)]) E rfl mixed Tryz.func109 (by kernel_rfl) (by kernel_rfl) (by kernel_rfl) (by kernel_rfl) (fun A hA => ⟨pc_of (inner := []) E mixed hA (by kernel_rfl) (by kernel_rfl) (by kernel_rfl) trivial (fun _ => rfl) (fun m d => (slices_IsSorted_Sint_int_l0_ok N (slices_IsSorted_Sint_int_l0 N m) d).symm) N, trivial⟩) (F_slices_IsSorted_Sint_int_ok N)
theorem C_slices_IsSorted_Sint_int : Contract Tryz.prog 109 S_slices_IsSorted_Sint_int := Contract.less (fun N : Nat => F_slices_IsSorted_Sint_int N) C_slices_IsSorted_Sint_int_raw isSorted_lim
theorem C_impl_areCops_raw (N : Nat) : Contract Tryz.prog 67 ⟨[(K_PiSPiiqq, false), (K_Si, false)], [.bool], true, F_impl_areCops N⟩ :=
  have E : Env Tryz.prog Γ_impl_areCops := env_of tab ⟨C_impl_isCopGame, ⟨C_impl_hasNodes, ⟨C_slices_IsSorted_Sint_int, trivial⟩⟩⟩
  con_of (Pc := []) E rfl mixed Tryz.func67 (by kernel_rfl) (by kernel_rfl) (by kernel_rfl) (by kernel_rfl) (fun A hA => trivial) (F_impl_areCops_ok N)
theorem C_impl_areCops : Contract Tryz.prog 67 S_impl_areCops := C_impl_areCops_raw 0
theorem C_impl_net_closed_raw (N : Nat) : Contract Tryz.prog 100 ⟨[(K_PSiq, false), (I, false)], [I], true, F_impl_net_closed N⟩ :=
  have E : Env Tryz.prog Γ_impl_net_closed := env_of tab trivial
  con_of (Pc := []) E rfl mixed Tryz.func100 (by kernel_rfl) (by kernel_rfl) (by kernel_rfl) (by kernel_rfl) (fun A hA => trivial) (F_impl_net_closed_ok N)
theorem C_impl_net_closed : Contract Tryz.prog 100 S_impl_net_closed := C_impl_net_closed_raw 0
theorem C_impl_setOf_raw (N : Nat) : Contract Tryz.prog 52 ⟨[(I, false)], [K_Si], true, F_impl_setOf N⟩ :=
  have E : Env Tryz.prog Γ_impl_setOf := env_of tab trivial
  con_of (Pc := [(0, ⟨impl_setOf_l0_h, impl_setOf_l0_o, impl_setOf_l0 N N⟩)]) E rfl mixed Tryz.func52 (by kernel_rfl) (by kernel_rfl) (by kernel_rfl) (by kernel_rfl) (fun A hA => ⟨pc_of (inner := []) E mixed hA (by kernel_rfl) (by kernel_rfl) (by kernel_rfl) trivial (fun _ => rfl) (fun m d => (impl_setOf_l0_ok N (impl_setOf_l0 N m) d).symm) N, trivial⟩) (F_impl_setOf_ok N)
theorem C_impl_setOf : Contract Tryz.prog 52 S_impl_setOf := Contract.less (fun N : Nat => F_impl_setOf N) C_impl_setOf_raw setOf_lim
theorem C_slices_Clone_Sint_int_raw (N : Nat) : Contract Tryz.prog 80 ⟨[(K_Si, false)], [K_Si], true, F_slices_Clone_Sint_int N⟩ :=
  have E : Env Tryz.prog Γ_slices_Clone_Sint_int := env_of tab trivial
  con_of (Pc := []) E rfl mixed Tryz.func80 (by kernel_rfl) (by kernel_rfl) (by kernel_rfl) (by kernel_rfl) (fun A hA => trivial) (F_slices_Clone_Sint_int_ok N)
theorem C_slices_Clone_Sint_int : Contract Tryz.prog 80 S_slices_Clone_Sint_int := Contract.less (fun N : Nat => F_slices_Clone_Sint_int N) C_slices_Clone_Sint_int_raw cloneI_lim
theorem C_slices_Equal_Sint_int_raw (N : Nat) : Contract Tryz.prog 92 ⟨[(K_Si, false), (K_Si, false)], [.bool], true, F_slices_Equal_Sint_int N⟩ :=
  have E : Env Tryz.prog Γ_slices_Equal_Sint_int := env_of tab trivial
  con_of (Pc := [(0, ⟨slices_Equal_Sint_int_l0_h, slices_Equal_Sint_int_l0_o, slices_Equal_Sint_int_l0 N N⟩)]) E rfl mixed Tryz.func92 (by kernel_rfl) (by kernel_rfl) (by kernel_rfl) (by kernel_rfl) (fun A hA => ⟨pc_of (inner := []) E mixed hA (by kernel_rfl) (by kernel_rfl) (by kernel_rfl) trivial (fun _ => rfl) (fun m d => (slices_Equal_Sint_int_l0_ok N (slices_Equal_Sint_int_l0 N m) d).symm) N, trivial⟩) (F_slices_Equal_Sint_int_ok N)
theorem C_slices_Equal_Sint_int : Contract Tryz.prog 92 S_slices_Equal_Sint_int := Contract.less (fun N : Nat => F_slices_Equal_Sint_int N) C_slices_Equal_Sint_int_raw equalI_lim
theorem C_slices_CompactFunc_SSint_Sint_by_slices_Equal_Sint_int : ContractG Tryz.prog 123 (S_slices_CompactFunc_SSint_Sint_by_slices_Equal_Sint_int, { gone := [0], deep := [] }) := con_compactF (enters_of Tryz.func123 (by kernel_rfl) rfl) (fun w v1 v2 xs ys h1 h2 l1 l2 => eqH h1 h2 l1 l2) compact74 compact74_small
theorem C_impl_net_copMoves_raw (N : Nat) : Contract Tryz.prog 90 ⟨[(K_PSiq, false), (K_Si, false)], [K_SSi], true, F_impl_net_copMoves N⟩ :=
  have E : Env Tryz.prog Γ_impl_net_copMoves := env_ofG tab ⟨C_impl_setOf, ⟨C_slices_Clone_Sint_int, ⟨C_impl_net_closed, ⟨C_slices_Sort_Sint_int, ⟨C_slices_SortFunc_SSint_Sint_by_slices_Compare_Sint_int, trivial⟩⟩⟩⟩⟩ trivial (fun _ h => by cases h) ⟨C_slices_CompactFunc_SSint_Sint_by_slices_Equal_Sint_int, trivial⟩ (by kernel_rfl)
  con_of (Pc := [(0, ⟨impl_net_copMoves_l0_h, impl_net_copMoves_l0_o, impl_net_copMoves_l0 N N⟩), (6, ⟨impl_net_copMoves_l6_h, impl_net_copMoves_l6_o, impl_net_copMoves_l6 N N⟩)]) E rfl mixed Tryz.func90 (by kernel_rfl) (by kernel_rfl) (by kernel_rfl) (by kernel_rfl) (fun A hA => ⟨pc_of (inner := [(2, ⟨impl_net_copMoves_l2_h, impl_net_copMoves_l2_o, impl_net_copMoves_l2 N N⟩)]) E mixed hA (by kernel_rfl) (by kernel_rfl) (by kernel_rfl) ⟨pc_of (inner := [(4, ⟨impl_net_copMoves_l4_h, impl_net_copMoves_l4_o, impl_net_copMoves_l4 N N⟩)]) E mixed hA (by kernel_rfl) (by kernel_rfl) (by kernel_rfl) ⟨pc_of (inner := []) E mixed hA (by kernel_rfl) (by kernel_rfl) (by kernel_rfl) trivial (fun _ => rfl) (fun m d => (impl_net_copMoves_l4_ok N (impl_net_copMoves_l4 N m) d).symm) N, trivial⟩ (fun _ => rfl) (fun m d => (impl_net_copMoves_l2_ok N (impl_net_copMoves_l2 N m) d).symm) N, trivial⟩ (fun _ => rfl) (fun m d => (impl_net_copMoves_l0_ok N (impl_net_copMoves_l0 N m) d).symm) N, ⟨pc_of (inner := []) E mixed hA (by kernel_rfl) (by kernel_rfl) (by kernel_rfl) trivial (fun _ => rfl) (fun m d => (impl_net_copMoves_l6_ok N (impl_net_copMoves_l6 N m) d).symm) N, trivial⟩⟩) (F_impl_net_copMoves_ok N)
theorem C_impl_net_copMoves : Contract Tryz.prog 90 S_impl_net_copMoves := Contract.less (fun N : Nat => F_impl_net_copMoves N) C_impl_net_copMoves_raw copMoves47_lim
theorem C_impl_isWalk_1_raw (N : Nat) : Contract Tryz.prog 91 ⟨[(K_Si, false), (K_BSi, false)], [.bool], true, F_impl_isWalk_1 N⟩ :=
  have E : Env Tryz.prog Γ_impl_isWalk_1 := env_of tab ⟨C_slices_Equal_Sint_int, trivial⟩
  con_of (Pc := []) E rfl mixed Tryz.func91 (by kernel_rfl) (by kernel_rfl) (by kernel_rfl) (by kernel_rfl) (fun A hA => trivial) (F_impl_isWalk_1_ok N)
theorem C_impl_isWalk_1 : Contract Tryz.prog 91 S_impl_isWalk_1 := C_impl_isWalk_1_raw 0
theorem CV_impl_isWalk_1 : ContractV Tryz.prog SV_impl_isWalk_1 := conV_0_1_1 C_impl_isWalk_1
theorem C_slices_IndexFunc_SSint_Sint_by_impl_isWalk_1_raw (N : Nat) : Contract Tryz.prog 120 ⟨[(K_SSi, false), (K_F_impl_isWalk_1_qPBSiq, false)], [I], true, F_slices_IndexFunc_SSint_Sint_by_impl_isWalk_1 N⟩ :=
  have E : Env Tryz.prog Γ_slices_IndexFunc_SSint_Sint_by_impl_isWalk_1 := env_ofV tab trivial ⟨CV_impl_isWalk_1, trivial⟩ (fun _ h => by cases h)
  con_of (Pc := [(0, ⟨slices_IndexFunc_SSint_Sint_by_impl_isWalk_1_l0_h, slices_IndexFunc_SSint_Sint_by_impl_isWalk_1_l0_o, slices_IndexFunc_SSint_Sint_by_impl_isWalk_1_l0 N N⟩)]) E rfl mixed Tryz.func120 (by kernel_rfl) (by kernel_rfl) (by kernel_rfl) (by kernel_rfl) (fun A hA => ⟨pc_of (inner := []) E mixed hA (by kernel_rfl) (by kernel_rfl) (by kernel_rfl) trivial (fun _ => rfl) (fun m d => (slices_IndexFunc_SSint_Sint_by_impl_isWalk_1_l0_ok N (slices_IndexFunc_SSint_Sint_by_impl_isWalk_1_l0 N m) d).symm) N, trivial⟩) (F_slices_IndexFunc_SSint_Sint_by_impl_isWalk_1_ok N)
theorem C_slices_IndexFunc_SSint_Sint_by_impl_isWalk_1 : Contract Tryz.prog 120 S_slices_IndexFunc_SSint_Sint_by_impl_isWalk_1 := Contract.less (fun N : Nat => F_slices_IndexFunc_SSint_Sint_by_impl_isWalk_1 N) C_slices_IndexFunc_SSint_Sint_by_impl_isWalk_1_raw idxWalk_lim
theorem C_slices_ContainsFunc_SSint_Sint_by_impl_isWalk_1_raw (N : Nat) : Contract Tryz.prog 89 ⟨[(K_SSi, false), (K_F_impl_isWalk_1_qPBSiq, false)], [.bool], true, F_slices_ContainsFunc_SSint_Sint_by_impl_isWalk_1 N⟩ :=
  have E : Env Tryz.prog Γ_slices_ContainsFunc_SSint_Sint_by_impl_isWalk_1 := env_of tab ⟨C_slices_IndexFunc_SSint_Sint_by_impl_isWalk_1, trivial⟩
  con_of (Pc := []) E rfl mixed Tryz.func89 (by kernel_rfl) (by kernel_rfl) (by kernel_rfl) (by kernel_rfl) (fun A hA => trivial) (F_slices_ContainsFunc_SSint_Sint_by_impl_isWalk_1_ok N)
theorem C_slices_ContainsFunc_SSint_Sint_by_impl_isWalk_1 : Contract Tryz.prog 89 S_slices_ContainsFunc_SSint_Sint_by_impl_isWalk_1 := C_slices_ContainsFunc_SSint_Sint_by_impl_isWalk_1_raw 0
theorem C_impl_isWalk_raw (N : Nat) : Contract Tryz.prog 49 ⟨[(K_PiSPiiqq, false), (K_SSi, false)], [.bool], true, F_impl_isWalk N⟩ :=
  have E : Env Tryz.prog Γ_impl_isWalk := env_ofV tab ⟨C_impl_netOf, ⟨C_impl_areCops, ⟨C_impl_within, ⟨C_impl_IsGraph, ⟨C_slices_ContainsFunc_SSint_Sint_by_impl_isWalk_1, ⟨C_impl_net_copMoves, trivial⟩⟩⟩⟩⟩⟩ trivial (fun _ h => by cases h)
  con_of (Pc := [(0, ⟨impl_isWalk_l0_h, impl_isWalk_l0_o, impl_isWalk_l0 N N⟩)]) E rfl mixed Tryz.func49 (by kernel_rfl) (by kernel_rfl) (by kernel_rfl) (by kernel_rfl) (fun A hA => ⟨pc_of (inner := []) E mixed hA (by kernel_rfl) (by kernel_rfl) (by kernel_rfl) trivial (fun _ => rfl) (fun m d => (impl_isWalk_l0_ok N (impl_isWalk_l0 N m) d).symm) N, trivial⟩) (F_impl_isWalk_ok N)
theorem C_impl_isWalk : Contract Tryz.prog 49 S_impl_isWalk := Contract.less (fun N : Nat => F_impl_isWalk N) C_impl_isWalk_raw isWalk_lim
theorem C_impl_net_all_raw (N : Nat) : Contract Tryz.prog 93 ⟨[(K_PSiq, false)], [I], true, F_impl_net_all N⟩ :=
  have E : Env Tryz.prog Γ_impl_net_all := env_of tab trivial
  con_of (Pc := []) E rfl mixed Tryz.func93 (by kernel_rfl) (by kernel_rfl) (by kernel_rfl) (by kernel_rfl) (fun A hA => trivial) (F_impl_net_all_ok N)
theorem C_impl_net_all : Contract Tryz.prog 93 S_impl_net_all := C_impl_net_all_raw 0
theorem C_impl_maskOf_raw (N : Nat) : Contract Tryz.prog 94 ⟨[(K_Si, false)], [I], true, F_impl_maskOf N⟩ :=
  have E : Env Tryz.prog Γ_impl_maskOf := env_of tab trivial
  con_of (Pc := [(0, ⟨impl_maskOf_l0_h, impl_maskOf_l0_o, impl_maskOf_l0 N N⟩)]) E rfl mixed Tryz.func94 (by kernel_rfl) (by kernel_rfl) (by kernel_rfl) (by kernel_rfl) (fun A hA => ⟨pc_of (inner := []) E mixed hA (by kernel_rfl) (by kernel_rfl) (by kernel_rfl) trivial (fun _ => rfl) (fun m d => (impl_maskOf_l0_ok N (impl_maskOf_l0 N m) d).symm) N, trivial⟩) (F_impl_maskOf_ok N)
theorem C_impl_maskOf : Contract Tryz.prog 94 S_impl_maskOf := Contract.less (fun N : Nat => F_impl_maskOf N) C_impl_maskOf_raw maskOf_lim
theorem C_impl_net_around_raw (N : Nat) : Contract Tryz.prog 99 ⟨[(K_PSiq, false), (I, false)], [I], true, F_impl_net_around N⟩ :=
  have E : Env Tryz.prog Γ_impl_net_around := env_of tab trivial
  con_of (Pc := [(0, ⟨impl_net_around_l0_h, impl_net_around_l0_o, impl_net_around_l0 N N⟩)]) E rfl mixed Tryz.func99 (by kernel_rfl) (by kernel_rfl) (by kernel_rfl) (by kernel_rfl) (fun A hA => ⟨pc_of (inner := []) E mixed hA (by kernel_rfl) (by kernel_rfl) (by kernel_rfl) trivial (fun _ => rfl) (fun m d => (impl_net_around_l0_ok N (impl_net_around_l0 N m) d).symm) N, trivial⟩) (F_impl_net_around_ok N)
theorem C_impl_net_around : Contract Tryz.prog 99 S_impl_net_around := Contract.less (fun N : Nat => F_impl_net_around N) C_impl_net_around_raw around_lim
theorem C_impl_net_escape_raw (N : Nat) : Contract Tryz.prog 58 ⟨[(K_PSiq, false), (K_SSi, false)], [K_Si, .bool], true, F_impl_net_escape N⟩ :=
  have E : Env Tryz.prog Γ_impl_net_escape := env_of tab ⟨C_impl_setOf, ⟨C_impl_net_all, ⟨C_impl_maskOf, ⟨C_impl_net_around, ⟨C_impl_net_closed, trivial⟩⟩⟩⟩⟩
  con_of (Pc := [(0, ⟨impl_net_escape_l0_h, impl_net_escape_l0_o, impl_net_escape_l0 N N⟩), (2, ⟨impl_net_escape_l2_h, impl_net_escape_l2_o, impl_net_escape_l2 N N⟩)]) E rfl mixed Tryz.func58 (by kernel_rfl) (by kernel_rfl) (by kernel_rfl) (by kernel_rfl) (fun A hA => ⟨pc_of (inner := []) E mixed hA (by kernel_rfl) (by kernel_rfl) (by kernel_rfl) trivial (fun _ => rfl) (fun m d => (impl_net_escape_l0_ok N (impl_net_escape_l0 N m) d).symm) N, ⟨pc_of (inner := []) E mixed hA (by kernel_rfl) (by kernel_rfl) (by kernel_rfl) trivial (fun _ => rfl) (fun m d => (impl_net_escape_l2_ok N (impl_net_escape_l2 N m) d).symm) N, trivial⟩⟩) (F_impl_net_escape_ok N)
theorem C_impl_net_escape : Contract Tryz.prog 58 S_impl_net_escape := Contract.less (fun N : Nat => F_impl_net_escape N) C_impl_net_escape_raw netEsc_lim
theorem C_impl_EscapeOf_raw (N : Nat) : Contract Tryz.prog 24 ⟨[(K_PiSPiiqq, false), (K_SSi, false)], [K_Si, .bool], true, F_impl_EscapeOf N⟩ :=
  have E : Env Tryz.prog Γ_impl_EscapeOf := env_of tab ⟨C_impl_isWalk, ⟨C_impl_netOf, ⟨C_impl_net_escape, trivial⟩⟩⟩
  con_of (Pc := []) E rfl mixed Tryz.func24 (by kernel_rfl) (by kernel_rfl) (by kernel_rfl) (by kernel_rfl) (fun A hA => trivial) (F_impl_EscapeOf_ok N)
theorem C_impl_EscapeOf : Contract Tryz.prog 24 S_impl_EscapeOf := C_impl_EscapeOf_raw 0
theorem C_laws_eqIntS_raw (N : Nat) : Contract Tryz.prog 25 ⟨[(K_Si, false), (K_Si, false)], [.bool], true, F_laws_eqIntS N⟩ :=
  have E : Env Tryz.prog Γ_laws_eqIntS := env_of tab trivial
  con_of (Pc := [(0, ⟨laws_eqIntS_l0_h, laws_eqIntS_l0_o, laws_eqIntS_l0 N N⟩)]) E rfl mixed Tryz.func25 (by kernel_rfl) (by kernel_rfl) (by kernel_rfl) (by kernel_rfl) (fun A hA => ⟨pc_of (inner := []) E mixed hA (by kernel_rfl) (by kernel_rfl) (by kernel_rfl) trivial (fun _ => rfl) (fun m d => (laws_eqIntS_l0_ok N (laws_eqIntS_l0 N m) d).symm) N, trivial⟩) (F_laws_eqIntS_ok N)
theorem C_laws_eqIntS : Contract Tryz.prog 25 S_laws_eqIntS := Contract.less (fun N : Nat => F_laws_eqIntS N) C_laws_eqIntS_raw eqIntS_lim
theorem C_laws_eqIntA2_raw (N : Nat) : Contract Tryz.prog 96 ⟨[(K_Piiq, false), (K_Piiq, false)], [.bool], true, F_laws_eqIntA2 N⟩ :=
  have E : Env Tryz.prog Γ_laws_eqIntA2 := env_of tab trivial
  con_of (Pc := [(0, ⟨laws_eqIntA2_l0_h, laws_eqIntA2_l0_o, laws_eqIntA2_l0 N N⟩)]) E rfl mixed Tryz.func96 (by kernel_rfl) (by kernel_rfl) (by kernel_rfl) (by kernel_rfl) (fun A hA => ⟨pc_of (inner := []) E mixed hA (by kernel_rfl) (by kernel_rfl) (by kernel_rfl) trivial (fun _ => rfl) (fun m d => (laws_eqIntA2_l0_ok N (laws_eqIntA2_l0 N m) d).symm) N, trivial⟩) (F_laws_eqIntA2_ok N)
theorem C_laws_eqIntA2 : Contract Tryz.prog 96 S_laws_eqIntA2 := Contract.less (fun N : Nat => F_laws_eqIntA2 N) C_laws_eqIntA2_raw eqIntA2_lim
theorem C_laws_eqIntA2S_raw (N : Nat) : Contract Tryz.prog 53 ⟨[(K_SPiiq, false), (K_SPiiq, false)], [.bool], true, F_laws_eqIntA2S N⟩ :=
  have E : Env Tryz.prog Γ_laws_eqIntA2S := env_of tab ⟨C_laws_eqIntA2, trivial⟩
  con_of (Pc := [(0, ⟨laws_eqIntA2S_l0_h, laws_eqIntA2S_l0_o, laws_eqIntA2S_l0 N N⟩)]) E rfl mixed Tryz.func53 (by kernel_rfl) (by kernel_rfl) (by kernel_rfl) (by kernel_rfl) (fun A hA => ⟨pc_of (inner := []) E mixed hA (by kernel_rfl) (by kernel_rfl) (by kernel_rfl) trivial (fun _ => rfl) (fun m d => (laws_eqIntA2S_l0_ok N (laws_eqIntA2S_l0 N m) d).symm) N, trivial⟩) (F_laws_eqIntA2S_ok N)
theorem C_laws_eqIntA2S : Contract Tryz.prog 53 S_laws_eqIntA2S := Contract.less (fun N : Nat => F_laws_eqIntA2S N) C_laws_eqIntA2S_raw eqIntA2S_lim
theorem C_laws_eqGraph_raw (N : Nat) : Contract Tryz.prog 19 ⟨[(K_PiSPiiqq, false), (K_PiSPiiqq, false)], [.bool], true, F_laws_eqGraph N⟩ :=
  have E : Env Tryz.prog Γ_laws_eqGraph := env_of tab ⟨C_laws_eqIntA2S, trivial⟩
  con_of (Pc := []) E rfl mixed Tryz.func19 (by kernel_rfl) (by kernel_rfl) (by kernel_rfl) (by kernel_rfl) (fun A hA => trivial) (F_laws_eqGraph_ok N)
theorem C_laws_eqGraph : Contract Tryz.prog 19 S_laws_eqGraph := C_laws_eqGraph_raw 0
theorem C_laws_eqIntSS_raw (N : Nat) : Contract Tryz.prog 18 ⟨[(K_SSi, false), (K_SSi, false)], [.bool], true, F_laws_eqIntSS N⟩ :=
  have E : Env Tryz.prog Γ_laws_eqIntSS := env_of tab ⟨C_laws_eqIntS, trivial⟩
  con_of (Pc := [(0, ⟨laws_eqIntSS_l0_h, laws_eqIntSS_l0_o, laws_eqIntSS_l0 N N⟩)]) E rfl mixed Tryz.func18 (by kernel_rfl) (by kernel_rfl) (by kernel_rfl) (by kernel_rfl) (fun A hA => ⟨pc_of (inner := []) E mixed hA (by kernel_rfl) (by kernel_rfl) (by kernel_rfl) trivial (fun _ => rfl) (fun m d => (laws_eqIntSS_l0_ok N (laws_eqIntSS_l0 N m) d).symm) N, trivial⟩) (F_laws_eqIntSS_ok N)
theorem C_laws_eqIntSS : Contract Tryz.prog 18 S_laws_eqIntSS := Contract.less (fun N : Nat => F_laws_eqIntSS N) C_laws_eqIntSS_raw eqIntSS_lim
theorem C_laws_markIntA2S_raw (N : Nat) : Contract Tryz.prog 54 ⟨[(K_SPiiq, true), (I, false)], [I], true, F_laws_markIntA2S N⟩ :=
  have E : Env Tryz.prog Γ_laws_markIntA2S := env_of tab trivial
  con_of (Pc := [(0, ⟨laws_markIntA2S_l0_h, laws_markIntA2S_l0_o, laws_markIntA2S_l0 N N⟩)]) E rfl mixed Tryz.func54 (by kernel_rfl) (by kernel_rfl) (by kernel_rfl) (by kernel_rfl) (fun A hA => ⟨pc_of (inner := [(2, ⟨laws_markIntA2S_l2_h, laws_markIntA2S_l2_o, laws_markIntA2S_l2 N N⟩)]) E mixed hA (by kernel_rfl) (by kernel_rfl) (by kernel_rfl) ⟨pc_of (inner := []) E mixed hA (by kernel_rfl) (by kernel_rfl) (by kernel_rfl) trivial (fun _ => rfl) (fun m d => (laws_markIntA2S_l2_ok N (laws_markIntA2S_l2 N m) d).symm) N, trivial⟩ (fun _ => rfl) (fun m d => (laws_markIntA2S_l0_ok N (laws_markIntA2S_l0 N m) d).symm) N, trivial⟩) (F_laws_markIntA2S_ok N)
theorem C_laws_markIntA2S : Contract Tryz.prog 54 S_laws_markIntA2S := Contract.less (fun N : Nat => F_laws_markIntA2S N) C_laws_markIntA2S_raw markIntA2S_lim
theorem C_laws_markGraph_raw (N : Nat) : Contract Tryz.prog 20 ⟨[(K_PiSPiiqq, true), (I, false)], [I], true, F_laws_markGraph N⟩ :=
  have E : Env Tryz.prog Γ_laws_markGraph := env_of tab ⟨C_laws_markIntA2S, trivial⟩
  con_of (Pc := []) E rfl mixed Tryz.func20 (by kernel_rfl) (by kernel_rfl) (by kernel_rfl) (by kernel_rfl) (fun A hA => trivial) (F_laws_markGraph_ok N)
theorem C_laws_markGraph : Contract Tryz.prog 20 S_laws_markGraph := C_laws_markGraph_raw 0
theorem C_laws_markIntS_raw (N : Nat) : Contract Tryz.prog 26 ⟨[(K_Si, true), (I, false)], [I], true, F_laws_markIntS N⟩ :=
  have E : Env Tryz.prog Γ_laws_markIntS := env_of tab trivial
  con_of (Pc := [(0, ⟨laws_markIntS_l0_h, laws_markIntS_l0_o, laws_markIntS_l0 N N⟩)]) E rfl mixed Tryz.func26 (by kernel_rfl) (by kernel_rfl) (by kernel_rfl) (by kernel_rfl) (fun A hA => ⟨pc_of (inner := []) E mixed hA (by kernel_rfl) (by kernel_rfl) (by kernel_rfl) trivial (fun _ => rfl) (fun m d => (laws_markIntS_l0_ok N (laws_markIntS_l0 N m) d).symm) N, trivial⟩) (F_laws_markIntS_ok N)
theorem C_laws_markIntS : Contract Tryz.prog 26 S_laws_markIntS := Contract.less (fun N : Nat => F_laws_markIntS N) C_laws_markIntS_raw markIntS_lim
theorem C_laws_markIntSS_raw (N : Nat) : Contract Tryz.prog 21 ⟨[(K_SSi, true), (I, false)], [I], true, F_laws_markIntSS N⟩ :=
  have E : Env Tryz.prog Γ_laws_markIntSS := env_of tab ⟨C_laws_markIntS, trivial⟩
  con_of (Pc := [(0, ⟨laws_markIntSS_l0_h, laws_markIntSS_l0_o, laws_markIntSS_l0 N N⟩)]) E rfl mixed Tryz.func21 (by kernel_rfl) (by kernel_rfl) (by kernel_rfl) (by kernel_rfl) (fun A hA => ⟨pc_of (inner := []) E mixed hA (by kernel_rfl) (by kernel_rfl) (by kernel_rfl) trivial (fun _ => rfl) (fun m d => (laws_markIntSS_l0_ok N (laws_markIntSS_l0 N m) d).symm) N, trivial⟩) (F_laws_markIntSS_ok N)
theorem C_laws_markIntSS : Contract Tryz.prog 21 S_laws_markIntSS := Contract.less (fun N : Nat => F_laws_markIntSS N) C_laws_markIntSS_raw markIntSS_lim
theorem C_laws_heldIntS_raw (N : Nat) : Contract Tryz.prog 27 ⟨[(K_Si, false), (I, false)], [I], true, F_laws_heldIntS N⟩ :=
  have E : Env Tryz.prog Γ_laws_heldIntS := env_of tab trivial
  con_of (Pc := [(0, ⟨laws_heldIntS_l0_h, laws_heldIntS_l0_o, laws_heldIntS_l0 N N⟩)]) E rfl mixed Tryz.func27 (by kernel_rfl) (by kernel_rfl) (by kernel_rfl) (by kernel_rfl) (fun A hA => ⟨pc_of (inner := []) E mixed hA (by kernel_rfl) (by kernel_rfl) (by kernel_rfl) trivial (fun _ => rfl) (fun m d => (laws_heldIntS_l0_ok N (laws_heldIntS_l0 N m) d).symm) N, trivial⟩) (F_laws_heldIntS_ok N)
theorem C_laws_heldIntS : Contract Tryz.prog 27 S_laws_heldIntS := Contract.less (fun N : Nat => F_laws_heldIntS N) C_laws_heldIntS_raw heldIntS_lim
theorem C_laws_FnExactEscapeOf_raw (N : Nat) : Contract Tryz.prog 4 ⟨[(K_PiSPiiqq, false), (K_SSi, false)], [.bool], true, F_laws_FnExactEscapeOf N⟩ :=
  have E : Env Tryz.prog Γ_laws_FnExactEscapeOf := env_of tab ⟨C_laws_szGraph, ⟨C_laws_szIntSS, ⟨C_laws_toGraph, ⟨C_laws_toIntSS, ⟨C_laws_eqIntSS, ⟨C_laws_eqGraph, ⟨C_laws_markGraph, ⟨C_laws_markIntSS, ⟨C_spec_EscapeOf, ⟨C_impl_EscapeOf, ⟨C_laws_eqIntS, ⟨C_laws_markIntS, ⟨C_laws_heldIntS, trivial⟩⟩⟩⟩⟩⟩⟩⟩⟩⟩⟩⟩⟩
  con_of (Pc := []) E rfl mixed Tryz.func4 (by kernel_rfl) (by kernel_rfl) (by kernel_rfl) (by kernel_rfl) (fun A hA => trivial) (F_laws_FnExactEscapeOf_ok N)
theorem C_laws_FnExactEscapeOf : Contract Tryz.prog 4 S_laws_FnExactEscapeOf := C_laws_FnExactEscapeOf_raw 0
end Go.V.W
