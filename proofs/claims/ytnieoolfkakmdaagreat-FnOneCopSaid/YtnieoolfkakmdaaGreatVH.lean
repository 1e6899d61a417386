/- What the law FnOneCop leans on, part 8: an interpreter of the model as plain data, its soundness, the functions as it tells them, and their laws. -/
import Derived.Shelf.Lays
import Derived.Shelf.LaysM
import Derived.Shelf.SortM.Plain
import Derived.Shelf.SortM.SortNone
import Derived.Shelf.SlSortCmp.NoneTotal
import Derived.Test.YtnieoolfkakmdaaGreatVG
set_option linter.unusedVariables false
set_option linter.unusedSimpArgs false
set_option maxRecDepth 100000
namespace Go.V.W
open Go.Proofs Go.Shelf Go.RowKit
-- import Derived.Shelf.Lays
-- import Derived.Shelf.LaysM
-- import Derived.Test.XvLib3
-- import Derived.Shelf.SortM.Plain
-- import Derived.Shelf.SortM.SortNone
-- import Derived.Shelf.SlSortCmp.NoneTotal
def layg5_ren:Go.Shelf.Ren:=
{
  f:=fun x=>
    match x with
    | 5=>221
    | 8=>252
    | 7=>251
    | 19=>268
    | 20=>269
    | 10=>260
    | 11=>261
    | 12=>262
    | 13=>263
    | 14=>264
    | 15=>265
    | 16=>250
    | 17=>266
    | 18=>267
    | 30=>280
    | 31=>281
    | 32=>282
    | 33=>283
    | 34=>284
    | 35=>258
    | 40=>288
    | n=>n,
  t:=fun x=>
    match x with
    | 23=>36
    | 25=>3
    | 3=>3
    | 32=>192
    | 22=>36
    | 0=>0
    | 44=>199
    | 46=>94
    | 4=>4
    | 36=>206
    | 35=>205
    | 41=>39
    | 5=>5
    | 9=>9
    | 53=>222
    | 57=>226
    | 63=>230
    | 64=>231
    | n=>n,
  g:=fun x=>
    x }
set_option maxRecDepth 1000000 in
theorem layg5:Go.Proofs.SlLaysM.n5 Go.Proofs.Tryz.prog layg5_ren:=
{ mixed:=by kernel_rfl,
  f5:=⟨Go.Proofs.Tryz.f221.name,of_decide_eq_true (by kernel_rfl),(Go.Proofs.Tryz.func221).trans (congrArg some (by kernel_rfl))⟩,
  f7:=⟨Go.Proofs.Tryz.f251.name,of_decide_eq_true (by kernel_rfl),(Go.Proofs.Tryz.func251).trans (congrArg some (by kernel_rfl))⟩,
  f8:=(Go.Proofs.Tryz.func252).trans (congrArg some (by kernel_rfl)),
  f10:=⟨Go.Proofs.Tryz.f260.name,of_decide_eq_true (by kernel_rfl),(Go.Proofs.Tryz.func260).trans (congrArg some (by kernel_rfl))⟩,
  f11:=⟨Go.Proofs.Tryz.f261.name,of_decide_eq_true (by kernel_rfl),(Go.Proofs.Tryz.func261).trans (congrArg some (by kernel_rfl))⟩,
  f12:=⟨Go.Proofs.Tryz.f262.name,of_decide_eq_true (by kernel_rfl),(Go.Proofs.Tryz.func262).trans (congrArg some (by kernel_rfl))⟩,
  f13:=⟨Go.Proofs.Tryz.f263.name,of_decide_eq_true (by kernel_rfl),(Go.Proofs.Tryz.func263).trans (congrArg some (by kernel_rfl))⟩,
  f14:=⟨Go.Proofs.Tryz.f264.name,of_decide_eq_true (by kernel_rfl),(Go.Proofs.Tryz.func264).trans (congrArg some (by kernel_rfl))⟩,
  f15:=⟨Go.Proofs.Tryz.f265.name,of_decide_eq_true (by kernel_rfl),(Go.Proofs.Tryz.func265).trans (congrArg some (by kernel_rfl))⟩,
  f16:=⟨Go.Proofs.Tryz.f250.name,of_decide_eq_true (by kernel_rfl),(Go.Proofs.Tryz.func250).trans (congrArg some (by kernel_rfl))⟩,
  f17:=⟨Go.Proofs.Tryz.f266.name,of_decide_eq_true (by kernel_rfl),(Go.Proofs.Tryz.func266).trans (congrArg some (by kernel_rfl))⟩,
  f18:=⟨Go.Proofs.Tryz.f267.name,of_decide_eq_true (by kernel_rfl),(Go.Proofs.Tryz.func267).trans (congrArg some (by kernel_rfl))⟩,
  f19:=(Go.Proofs.Tryz.func268).trans (congrArg some (by kernel_rfl)),
  f20:=(Go.Proofs.Tryz.func269).trans (congrArg some (by kernel_rfl)),
  f30:=⟨Go.Proofs.Tryz.f280.name,of_decide_eq_true (by kernel_rfl),(Go.Proofs.Tryz.func280).trans (congrArg some (by kernel_rfl))⟩,
  f31:=(Go.Proofs.Tryz.func281).trans (congrArg some (by kernel_rfl)),
  f32:=(Go.Proofs.Tryz.func282).trans (congrArg some (by kernel_rfl)),
  f33:=⟨Go.Proofs.Tryz.f283.name,of_decide_eq_true (by kernel_rfl),(Go.Proofs.Tryz.func283).trans (congrArg some (by kernel_rfl))⟩,
  f34:=⟨Go.Proofs.Tryz.f284.name,of_decide_eq_true (by kernel_rfl),(Go.Proofs.Tryz.func284).trans (congrArg some (by kernel_rfl))⟩,
  f35:=⟨Go.Proofs.Tryz.f258.name,of_decide_eq_true (by kernel_rfl),(Go.Proofs.Tryz.func258).trans (congrArg some (by kernel_rfl))⟩,
  f40:=⟨Go.Proofs.Tryz.f288.name,of_decide_eq_true (by kernel_rfl),(Go.Proofs.Tryz.func288).trans (congrArg some (by kernel_rfl))⟩,
  t0:=Go.Proofs.Tryz.underlying0,
  a0:=Go.Proofs.Tryz.isAgg0,
  z0:=Go.Proofs.Tryz.sizeOf0,
  v0:=Go.Proofs.Tryz.zeroValue0,
  t3:=Go.Proofs.Tryz.underlying3,
  a3:=Go.Proofs.Tryz.isAgg3,
  z3:=Go.Proofs.Tryz.sizeOf3,
  v3:=Go.Proofs.Tryz.zeroValue3,
  t4:=Go.Proofs.Tryz.underlying4,
  a4:=Go.Proofs.Tryz.isAgg4,
  z4:=Go.Proofs.Tryz.sizeOf4,
  v4:=Go.Proofs.Tryz.zeroValue4,
  t5:=Go.Proofs.Tryz.underlying5,
  a5:=Go.Proofs.Tryz.isAgg5,
  z5:=Go.Proofs.Tryz.sizeOf5,
  v5:=Go.Proofs.Tryz.zeroValue5,
  t9:=Go.Proofs.Tryz.underlying9,
  a9:=Go.Proofs.Tryz.isAgg9,
  z9:=Go.Proofs.Tryz.sizeOf9,
  v9:=Go.Proofs.Tryz.zeroValue9,
  t22:=Go.Proofs.Tryz.underlying36,
  a22:=Go.Proofs.Tryz.isAgg36,
  z22:=Go.Proofs.Tryz.sizeOf36,
  v22:=Go.Proofs.Tryz.zeroValue36,
  t23:=Go.Proofs.Tryz.underlying36,
  a23:=Go.Proofs.Tryz.isAgg36,
  z23:=Go.Proofs.Tryz.sizeOf36,
  v23:=Go.Proofs.Tryz.zeroValue36,
  t25:=Go.Proofs.Tryz.underlying3,
  a25:=Go.Proofs.Tryz.isAgg3,
  z25:=Go.Proofs.Tryz.sizeOf3,
  v25:=Go.Proofs.Tryz.zeroValue3,
  t32:=Go.Proofs.Tryz.underlying192,
  a32:=Go.Proofs.Tryz.isAgg192,
  z32:=Go.Proofs.Tryz.sizeOf192,
  v32:=Go.Proofs.Tryz.zeroValue192,
  t35:=Go.Proofs.Tryz.underlying205,
  a35:=Go.Proofs.Tryz.isAgg205,
  z35:=Go.Proofs.Tryz.sizeOf205,
  v35:=Go.Proofs.Tryz.zeroValue205,
  t36:=Go.Proofs.Tryz.underlying206,
  a36:=Go.Proofs.Tryz.isAgg206,
  z36:=Go.Proofs.Tryz.sizeOf206,
  v36:=Go.Proofs.Tryz.zeroValue206,
  t41:=Go.Proofs.Tryz.underlying39,
  a41:=Go.Proofs.Tryz.isAgg39,
  z41:=Go.Proofs.Tryz.sizeOf39,
  v41:=Go.Proofs.Tryz.zeroValue39,
  t44:=Go.Proofs.Tryz.underlying199,
  a44:=Go.Proofs.Tryz.isAgg199,
  z44:=Go.Proofs.Tryz.sizeOf199,
  v44:=Go.Proofs.Tryz.zeroValue199,
  t46:=Go.Proofs.Tryz.underlying94,
  a46:=Go.Proofs.Tryz.isAgg94,
  z46:=Go.Proofs.Tryz.sizeOf94,
  v46:=Go.Proofs.Tryz.zeroValue94,
  t53:=Go.Proofs.Tryz.underlying222,
  a53:=Go.Proofs.Tryz.isAgg222,
  z53:=Go.Proofs.Tryz.sizeOf222,
  v53:=Go.Proofs.Tryz.zeroValue222,
  t57:=Go.Proofs.Tryz.underlying226,
  a57:=Go.Proofs.Tryz.isAgg226,
  z57:=Go.Proofs.Tryz.sizeOf226,
  v57:=Go.Proofs.Tryz.zeroValue226,
  t63:=Go.Proofs.Tryz.underlying230,
  a63:=Go.Proofs.Tryz.isAgg230,
  z63:=Go.Proofs.Tryz.sizeOf230,
  v63:=Go.Proofs.Tryz.zeroValue230,
  t64:=Go.Proofs.Tryz.underlying231,
  a64:=Go.Proofs.Tryz.isAgg231,
  z64:=Go.Proofs.Tryz.sizeOf231,
  v64:=Go.Proofs.Tryz.zeroValue231 }
def layg6_ren:Go.Shelf.Ren:=
{
  f:=fun x=>
    match x with
    | 6=>222
    | 15=>252
    | 14=>253
    | 28=>268
    | 29=>269
    | 20=>270
    | 21=>271
    | 22=>272
    | 23=>273
    | 24=>274
    | 25=>275
    | 26=>276
    | 27=>277
    | 46=>285
    | 47=>281
    | 48=>282
    | 49=>286
    | 50=>287
    | 57=>289
    | n=>n,
  t:=fun x=>
    match x with
    | 22=>27
    | 24=>36
    | 25=>167
    | 3=>3
    | 39=>192
    | 0=>0
    | 53=>199
    | 55=>94
    | 4=>4
    | 46=>206
    | 45=>205
    | 50=>39
    | 5=>5
    | 9=>9
    | 66=>222
    | 70=>226
    | 76=>230
    | 77=>231
    | n=>n,
  g:=fun x=>
    x }
set_option maxRecDepth 1000000 in
theorem layg6:Go.Proofs.SlLaysF.n6 Go.Proofs.Tryz.prog layg6_ren:=
{ mixed:=by kernel_rfl,
  f6:=⟨Go.Proofs.Tryz.f222.name,of_decide_eq_true (by kernel_rfl),(Go.Proofs.Tryz.func222).trans (congrArg some (by kernel_rfl))⟩,
  f14:=⟨Go.Proofs.Tryz.f253.name,of_decide_eq_true (by kernel_rfl),(Go.Proofs.Tryz.func253).trans (congrArg some (by kernel_rfl))⟩,
  f15:=(Go.Proofs.Tryz.func252).trans (congrArg some (by kernel_rfl)),
  f20:=⟨Go.Proofs.Tryz.f270.name,of_decide_eq_true (by kernel_rfl),(Go.Proofs.Tryz.func270).trans (congrArg some (by kernel_rfl))⟩,
  f21:=⟨Go.Proofs.Tryz.f271.name,of_decide_eq_true (by kernel_rfl),(Go.Proofs.Tryz.func271).trans (congrArg some (by kernel_rfl))⟩,
  f22:=⟨Go.Proofs.Tryz.f272.name,of_decide_eq_true (by kernel_rfl),(Go.Proofs.Tryz.func272).trans (congrArg some (by kernel_rfl))⟩,
  f23:=⟨Go.Proofs.Tryz.f273.name,of_decide_eq_true (by kernel_rfl),(Go.Proofs.Tryz.func273).trans (congrArg some (by kernel_rfl))⟩,
  f24:=⟨Go.Proofs.Tryz.f274.name,of_decide_eq_true (by kernel_rfl),(Go.Proofs.Tryz.func274).trans (congrArg some (by kernel_rfl))⟩,
  f25:=⟨Go.Proofs.Tryz.f275.name,of_decide_eq_true (by kernel_rfl),(Go.Proofs.Tryz.func275).trans (congrArg some (by kernel_rfl))⟩,
  f26:=⟨Go.Proofs.Tryz.f276.name,of_decide_eq_true (by kernel_rfl),(Go.Proofs.Tryz.func276).trans (congrArg some (by kernel_rfl))⟩,
  f27:=⟨Go.Proofs.Tryz.f277.name,of_decide_eq_true (by kernel_rfl),(Go.Proofs.Tryz.func277).trans (congrArg some (by kernel_rfl))⟩,
  f28:=(Go.Proofs.Tryz.func268).trans (congrArg some (by kernel_rfl)),
  f29:=(Go.Proofs.Tryz.func269).trans (congrArg some (by kernel_rfl)),
  f46:=⟨Go.Proofs.Tryz.f285.name,of_decide_eq_true (by kernel_rfl),(Go.Proofs.Tryz.func285).trans (congrArg some (by kernel_rfl))⟩,
  f47:=(Go.Proofs.Tryz.func281).trans (congrArg some (by kernel_rfl)),
  f48:=(Go.Proofs.Tryz.func282).trans (congrArg some (by kernel_rfl)),
  f49:=⟨Go.Proofs.Tryz.f286.name,of_decide_eq_true (by kernel_rfl),(Go.Proofs.Tryz.func286).trans (congrArg some (by kernel_rfl))⟩,
  f50:=⟨Go.Proofs.Tryz.f287.name,of_decide_eq_true (by kernel_rfl),(Go.Proofs.Tryz.func287).trans (congrArg some (by kernel_rfl))⟩,
  f57:=⟨Go.Proofs.Tryz.f289.name,of_decide_eq_true (by kernel_rfl),(Go.Proofs.Tryz.func289).trans (congrArg some (by kernel_rfl))⟩,
  t0:=Go.Proofs.Tryz.underlying0,
  a0:=Go.Proofs.Tryz.isAgg0,
  z0:=Go.Proofs.Tryz.sizeOf0,
  v0:=Go.Proofs.Tryz.zeroValue0,
  t3:=Go.Proofs.Tryz.underlying3,
  a3:=Go.Proofs.Tryz.isAgg3,
  z3:=Go.Proofs.Tryz.sizeOf3,
  v3:=Go.Proofs.Tryz.zeroValue3,
  t4:=Go.Proofs.Tryz.underlying4,
  a4:=Go.Proofs.Tryz.isAgg4,
  z4:=Go.Proofs.Tryz.sizeOf4,
  v4:=Go.Proofs.Tryz.zeroValue4,
  t5:=Go.Proofs.Tryz.underlying5,
  a5:=Go.Proofs.Tryz.isAgg5,
  z5:=Go.Proofs.Tryz.sizeOf5,
  v5:=Go.Proofs.Tryz.zeroValue5,
  t9:=Go.Proofs.Tryz.underlying9,
  a9:=Go.Proofs.Tryz.isAgg9,
  z9:=Go.Proofs.Tryz.sizeOf9,
  v9:=Go.Proofs.Tryz.zeroValue9,
  t22:=Go.Proofs.Tryz.underlying27,
  a22:=Go.Proofs.Tryz.isAgg27,
  z22:=Go.Proofs.Tryz.sizeOf27,
  v22:=Go.Proofs.Tryz.zeroValue27,
  a24:=Go.Proofs.Tryz.isAgg36,
  z24:=Go.Proofs.Tryz.sizeOf36,
  t25:=Go.Proofs.Tryz.underlying167,
  a25:=Go.Proofs.Tryz.isAgg167,
  z25:=Go.Proofs.Tryz.sizeOf167,
  v25:=Go.Proofs.Tryz.zeroValue167,
  t39:=Go.Proofs.Tryz.underlying192,
  a39:=Go.Proofs.Tryz.isAgg192,
  z39:=Go.Proofs.Tryz.sizeOf192,
  v39:=Go.Proofs.Tryz.zeroValue192,
  t45:=Go.Proofs.Tryz.underlying205,
  a45:=Go.Proofs.Tryz.isAgg205,
  z45:=Go.Proofs.Tryz.sizeOf205,
  v45:=Go.Proofs.Tryz.zeroValue205,
  t46:=Go.Proofs.Tryz.underlying206,
  a46:=Go.Proofs.Tryz.isAgg206,
  z46:=Go.Proofs.Tryz.sizeOf206,
  v46:=Go.Proofs.Tryz.zeroValue206,
  t50:=Go.Proofs.Tryz.underlying39,
  a50:=Go.Proofs.Tryz.isAgg39,
  z50:=Go.Proofs.Tryz.sizeOf39,
  v50:=Go.Proofs.Tryz.zeroValue39,
  t53:=Go.Proofs.Tryz.underlying199,
  a53:=Go.Proofs.Tryz.isAgg199,
  z53:=Go.Proofs.Tryz.sizeOf199,
  v53:=Go.Proofs.Tryz.zeroValue199,
  t55:=Go.Proofs.Tryz.underlying94,
  a55:=Go.Proofs.Tryz.isAgg94,
  z55:=Go.Proofs.Tryz.sizeOf94,
  v55:=Go.Proofs.Tryz.zeroValue94,
  t66:=Go.Proofs.Tryz.underlying222,
  a66:=Go.Proofs.Tryz.isAgg222,
  z66:=Go.Proofs.Tryz.sizeOf222,
  v66:=Go.Proofs.Tryz.zeroValue222,
  t70:=Go.Proofs.Tryz.underlying226,
  a70:=Go.Proofs.Tryz.isAgg226,
  z70:=Go.Proofs.Tryz.sizeOf226,
  v70:=Go.Proofs.Tryz.zeroValue226,
  t76:=Go.Proofs.Tryz.underlying230,
  a76:=Go.Proofs.Tryz.isAgg230,
  z76:=Go.Proofs.Tryz.sizeOf230,
  v76:=Go.Proofs.Tryz.zeroValue230,
  t77:=Go.Proofs.Tryz.underlying231,
  a77:=Go.Proofs.Tryz.isAgg231,
  z77:=Go.Proofs.Tryz.sizeOf231,
  v77:=Go.Proofs.Tryz.zeroValue231 }
theorem tab:TabOk Tryz.prog (assoc tks) (assoc ars):=tab_of (by kernel_rfl)
theorem mixed:Tryz.prog.follows .mixedOrders=true:=by kernel_rfl
theorem C_q2q:Contract Tryz.prog 222 S_q2q:=
  con_sortF (enters_of Tryz.func222 (by kernel_rfl) rfl) (fun w v1 v2 xs ys h1 h2 l1 l2=>cmpH h1 h2 l1 l2) (fun n enc cf blk off cap w h1 hO hcmp hH hb hs=>Any.slices_SortFunc layg6 enc h1 cf hO 199 #[] blk off cap (idA n) w (enters_of Tryz.func199 (by kernel_rfl) rfl) hcmp hH hb hs) (AnyF.slices_SortFunc_none { layg6 with })
theorem C_q13q:Contract Tryz.prog 221 S_q13q:=
  con_sortI (enters_of Tryz.func221 (by kernel_rfl) rfl) (fun blk off cap zs w h1 h2 h3=>AnyM.slices_Sort_int layg5 blk off cap zs w h1 h2 h3) (fun p cap w=>AnyM.slices_Sort_int_none layg5 p cap w)
theorem C_laws_vBig_raw (N:Nat):Contract Tryz.prog 16 ⟨[(K_Su8,false)],[.bool],true,F_laws_vBig N⟩:=
  have E:Env Tryz.prog Γ_laws_vBig:=env_of tab trivial
  con_of (body:=bodyOf Tryz.f16) (Pc:=[]) E rfl mixed Tryz.func16 (by kernel_rfl) (by kernel_rfl) (by kernel_rfl) (by kernel_rfl) (fun A hA=>trivial) (fun _=>by kernel_rfl)
theorem C_laws_vBig:Contract Tryz.prog 16 S_laws_vBig:=Contract.less (fun N:Nat=>F_laws_vBig N) C_laws_vBig_raw (fun d r h=>⟨0,(F_laws_vBig_tot 0 d).trans h⟩)
theorem C_q44q_raw (N:Nat):Contract Tryz.prog 187 ⟨[(K_BPSu8iu64q,true)],[I],true,F_q44q N⟩:=
  have E:Env Tryz.prog Γ_q44q:=env_of tab trivial
  con_of (body:=bodyOf Tryz.f187) (Pc:=[]) E rfl mixed Tryz.func187 (by kernel_rfl) (by kernel_rfl) (by kernel_rfl) (by kernel_rfl) (fun A hA=>trivial) (fun _=>by kernel_rfl)
theorem C_q44q:Contract Tryz.prog 187 S_q44q:=C_q44q_raw 0
theorem C_q39q_raw (N:Nat):Contract Tryz.prog 91 ⟨[(K_BPSu8iu64q,true),(I,false)],[I],true,F_q39q N⟩:=
  have E:Env Tryz.prog Γ_q39q:=env_of tab ⟨C_q44q,trivial⟩
  con_of (body:=bodyOf Tryz.f91) (Pc:=[]) E rfl mixed Tryz.func91 (by kernel_rfl) (by kernel_rfl) (by kernel_rfl) (by kernel_rfl) (fun A hA=>trivial) (fun _=>by kernel_rfl)
theorem C_q39q:Contract Tryz.prog 91 S_q39q:=C_q39q_raw 0
theorem C_q49q_raw (N:Nat):Contract Tryz.prog 89 ⟨[(K_BPSu8iu64q,true),(I,false)],[.bool],true,F_q49q N⟩:=
  have E:Env Tryz.prog Γ_q49q:=env_of tab ⟨C_q39q,trivial⟩
  con_of (body:=bodyOf Tryz.f89) (Pc:=[]) E rfl mixed Tryz.func89 (by kernel_rfl) (by kernel_rfl) (by kernel_rfl) (by kernel_rfl) (fun A hA=>trivial) (fun _=>by kernel_rfl)
theorem C_q49q:Contract Tryz.prog 89 S_q49q:=C_q49q_raw 0
theorem C_q80q_raw (N:Nat):Contract Tryz.prog 240 ⟨[(K_PiSPiiqq,false),(I,false),(I,false)],[.bool],true,F_q80q N⟩:=
  have E:Env Tryz.prog Γ_q80q:=env_of tab trivial
  con_of (body:=bodyOf Tryz.f240) (Pc:=[(0,⟨q80q_l0_h,q80q_l0_o,q80q_l0 N N⟩)]) E rfl mixed Tryz.func240 (by kernel_rfl) (by kernel_rfl) (by kernel_rfl) (by kernel_rfl) (fun A hA=>⟨pc_of (body:=loopOf Tryz.f240 0) (inner:=[]) E mixed hA (by kernel_rfl) (by kernel_rfl) (by kernel_rfl) trivial (fun _=>rfl) (fun _ _=>by kernel_rfl) N,trivial⟩) (fun _=>by kernel_rfl)
theorem C_q80q:Contract Tryz.prog 240 S_q80q:=Contract.less (fun N:Nat=>F_q80q N) C_q80q_raw l2Near_lim
theorem C_q32q_raw (N:Nat):Contract Tryz.prog 208 ⟨[(K_PiSPiiqq,false),(I,false)],[K_Si],true,F_q32q N⟩:=
  have E:Env Tryz.prog Γ_q32q:=env_of tab ⟨C_q80q,trivial⟩
  con_of (body:=bodyOf Tryz.f208) (Pc:=[(0,⟨q32q_l0_h,q32q_l0_o,q32q_l0 N N⟩)]) E rfl mixed Tryz.func208 (by kernel_rfl) (by kernel_rfl) (by kernel_rfl) (by kernel_rfl) (fun A hA=>⟨pc_of (body:=loopOf Tryz.f208 0) (inner:=[]) E mixed hA (by kernel_rfl) (by kernel_rfl) (by kernel_rfl) trivial (fun _=>rfl) (fun _ _=>by kernel_rfl) N,trivial⟩) (fun _=>by kernel_rfl)
theorem C_q32q:Contract Tryz.prog 208 S_q32q:=Contract.less (fun N:Nat=>F_q32q N) C_q32q_raw l2Neighbors_lim
theorem C_q70q_raw (N:Nat):ContractG Tryz.prog 92 (⟨[(K_Si,true),(I,false)],[K_Si],true,F_q70q N⟩,{ gone:=[0],deep:=[] }):=
  have E:Env Tryz.prog Γ_q70q:=env_ofG tab trivial trivial (fun _ h=>by cases h) trivial (by kernel_rfl)
  con_ofG (body:=bodyOf Tryz.f92) (Pc:=[(0,⟨q70q_l0_h,q70q_l0_o,q70q_l0 N N⟩)]) E mixed Tryz.func92 (by kernel_rfl) (by kernel_rfl) (by kernel_rfl) (by kernel_rfl) (fun A hA=>⟨pc_of (body:=loopOf Tryz.f92 0) (inner:=[]) E mixed hA (by kernel_rfl) (by kernel_rfl) (by kernel_rfl) trivial (fun _=>rfl) (fun _ _=>by kernel_rfl) N,trivial⟩) (fun _=>by kernel_rfl)
theorem C_q70q:ContractG Tryz.prog 92 (S_q70q,{ gone:=[0],deep:=[] }):=ContractG.less (fun N:Nat=>F_q70q N) C_q70q_raw l1PutW_lim
theorem C_q71q_raw (N:Nat):Contract Tryz.prog 124 ⟨[(K_PiSPiiqq,false),(I,false)],[K_Si],true,F_q71q N⟩:=
  have E:Env Tryz.prog Γ_q71q:=env_ofG tab ⟨C_q32q,trivial⟩ trivial (fun _ h=>by cases h) ⟨C_q70q,trivial⟩ (by kernel_rfl)
  con_of (body:=bodyOf Tryz.f124) (Pc:=[]) E rfl mixed Tryz.func124 (by kernel_rfl) (by kernel_rfl) (by kernel_rfl) (by kernel_rfl) (fun A hA=>trivial) (fun _=>by kernel_rfl)
theorem C_q71q:Contract Tryz.prog 124 S_q71q:=C_q71q_raw 0
theorem C_q53q_raw (N:Nat):Contract Tryz.prog 200 ⟨[(K_Piiq,false),(K_Piiq,false)],[.bool],true,F_q53q N⟩:=
  have E:Env Tryz.prog Γ_q53q:=env_of tab trivial
  con_of (body:=bodyOf Tryz.f200) (Pc:=[]) E rfl mixed Tryz.func200 (by kernel_rfl) (by kernel_rfl) (by kernel_rfl) (by kernel_rfl) (fun A hA=>trivial) (fun _=>by kernel_rfl)
theorem C_q53q:Contract Tryz.prog 200 S_q53q:=Contract.less (fun N:Nat=>F_q53q N) C_q53q_raw (fun d r h=>⟨0,(F_q53q_tot 0 d).trans h⟩)
theorem C_spec_l2Put_raw (N:Nat):Contract Tryz.prog 186 ⟨[(K_SPiiq,false),(K_Piiq,false)],[K_SPiiq],true,F_spec_l2Put N⟩:=
  have E:Env Tryz.prog Γ_spec_l2Put:=env_of tab ⟨C_q53q,trivial⟩
  con_of (body:=bodyOf Tryz.f186) (Pc:=[(0,⟨spec_l2Put_l0_h,spec_l2Put_l0_o,spec_l2Put_l0 N N⟩)]) E rfl mixed Tryz.func186 (by kernel_rfl) (by kernel_rfl) (by kernel_rfl) (by kernel_rfl) (fun A hA=>⟨pc_of (body:=loopOf Tryz.f186 0) (inner:=[]) E mixed hA (by kernel_rfl) (by kernel_rfl) (by kernel_rfl) trivial (fun _=>rfl) (fun _ _=>by kernel_rfl) N,trivial⟩) (fun _=>by kernel_rfl)
theorem C_spec_l2Put:Contract Tryz.prog 186 S_spec_l2Put:=Contract.less (fun N:Nat=>F_spec_l2Put N) C_spec_l2Put_raw l2Put_lim
theorem C_q35q_raw (N:Nat):Contract Tryz.prog 133 ⟨[(K_BPSu8iu64q,true),(K_Si,false)],[I],true,F_q35q N⟩:=
  have E:Env Tryz.prog Γ_q35q:=env_of tab ⟨C_q39q,trivial⟩
  con_of (body:=bodyOf Tryz.f133) (Pc:=[]) E rfl mixed Tryz.func133 (by kernel_rfl) (by kernel_rfl) (by kernel_rfl) (by kernel_rfl) (fun A hA=>trivial) (fun _=>by kernel_rfl)
theorem C_q35q:Contract Tryz.prog 133 S_q35q:=C_q35q_raw 0
theorem C_q26q_raw (N:Nat):ContractG Tryz.prog 241 (⟨[(K_BPSu8iu64q,true),(K_PiSPiiqq,true)],[K_PiSPiiqq],true,F_q26q N⟩,{ gone:=[1],deep:=[] }):=
  have E:Env Tryz.prog Γ_q26q:=env_ofG tab ⟨C_q39q,⟨C_q35q,trivial⟩⟩ trivial (fun _ h=>by cases h) trivial (by kernel_rfl)
  con_ofG (body:=bodyOf Tryz.f241) (Pc:=[]) E mixed Tryz.func241 (by kernel_rfl) (by kernel_rfl) (by kernel_rfl) (by kernel_rfl) (fun A hA=>trivial) (fun _=>by kernel_rfl)
theorem C_q26q:ContractG Tryz.prog 241 (S_q26q,{ gone:=[1],deep:=[] }):=C_q26q_raw 0
theorem C_q46q_raw (N:Nat):Contract Tryz.prog 193 ⟨[(K_BPSu8iu64q,true),(I,false)],[K_PiSPiiqq],true,F_q46q N⟩:=
  have E:Env Tryz.prog Γ_q46q:=env_ofG tab ⟨C_q49q,⟨C_q39q,⟨C_q71q,⟨C_spec_l2Put,trivial⟩⟩⟩⟩ trivial (fun _ h=>by cases h) ⟨C_q26q,trivial⟩ (by kernel_rfl)
  con_of (body:=bodyOf Tryz.f193) (Pc:=[(0,⟨q46q_l0_h,q46q_l0_o,q46q_l0 N N⟩)]) E rfl mixed Tryz.func193 (by kernel_rfl) (by kernel_rfl) (by kernel_rfl) (by kernel_rfl) (fun A hA=>⟨pc_of (body:=loopOf Tryz.f193 0) (inner:=[(2,⟨q46q_l2_h,q46q_l2_o,q46q_l2 N N⟩)]) E mixed hA (by kernel_rfl) (by kernel_rfl) (by kernel_rfl) ⟨pc_of (body:=loopOf Tryz.f193 2) (inner:=[]) E mixed hA (by kernel_rfl) (by kernel_rfl) (by kernel_rfl) trivial (fun _=>rfl) (fun _ _=>by kernel_rfl) N,trivial⟩ (fun _=>rfl) (fun _ _=>by kernel_rfl) N,trivial⟩) (fun _=>by kernel_rfl)
theorem C_q46q:Contract Tryz.prog 193 S_q46q:=Contract.less (fun N:Nat=>F_q46q N) C_q46q_raw pickF_lim
theorem C_q61q_raw (N:Nat):Contract Tryz.prog 238 ⟨[(I,false),(I,false)],[I],true,F_q61q N⟩:=
  have E:Env Tryz.prog Γ_q61q:=env_of tab trivial
  con_of (body:=bodyOf Tryz.f238) (Pc:=[]) E rfl mixed Tryz.func238 (by kernel_rfl) (by kernel_rfl) (by kernel_rfl) (by kernel_rfl) (fun A hA=>trivial) (fun _=>by kernel_rfl)
theorem C_q61q:Contract Tryz.prog 238 S_q61q:=Contract.less (fun N:Nat=>F_q61q N) C_q61q_raw (fun d r h=>⟨0,(F_q61q_tot 0 d).trans h⟩)
theorem C_q76q_raw (N:Nat):Contract Tryz.prog 185 ⟨[(I,false)],[K_PiSPiiqq],true,F_q76q N⟩:=
  have E:Env Tryz.prog Γ_q76q:=env_of tab trivial
  con_of (body:=bodyOf Tryz.f185) (Pc:=[(0,⟨q76q_l0_h,q76q_l0_o,q76q_l0 N N⟩)]) E rfl mixed Tryz.func185 (by kernel_rfl) (by kernel_rfl) (by kernel_rfl) (by kernel_rfl) (fun A hA=>⟨pc_of (body:=loopOf Tryz.f185 0) (inner:=[]) E mixed hA (by kernel_rfl) (by kernel_rfl) (by kernel_rfl) trivial (fun _=>rfl) (fun _ _=>by kernel_rfl) N,trivial⟩) (fun _=>by kernel_rfl)
theorem C_q76q:Contract Tryz.prog 185 S_q76q:=Contract.less (fun N:Nat=>F_q76q N) C_q76q_raw pickF_lim
theorem C_q67q_raw (N:Nat):Contract Tryz.prog 90 ⟨[(I,false)],[K_PiSPiiqq],true,F_q67q N⟩:=
  have E:Env Tryz.prog Γ_q67q:=env_of tab ⟨C_q76q,⟨C_spec_l2Put,trivial⟩⟩
  con_of (body:=bodyOf Tryz.f90) (Pc:=[]) E rfl mixed Tryz.func90 (by kernel_rfl) (by kernel_rfl) (by kernel_rfl) (by kernel_rfl) (fun A hA=>trivial) (fun _=>by kernel_rfl)
theorem C_q67q:Contract Tryz.prog 90 S_q67q:=C_q67q_raw 0
theorem C_q38q_raw (N:Nat):Contract Tryz.prog 239 ⟨[(I,false)],[K_PiSPiiqq],true,F_q38q N⟩:=
  have E:Env Tryz.prog Γ_q38q:=env_of tab trivial
  con_of (body:=bodyOf Tryz.f239) (Pc:=[(0,⟨q38q_l0_h,q38q_l0_o,q38q_l0 N N⟩)]) E rfl mixed Tryz.func239 (by kernel_rfl) (by kernel_rfl) (by kernel_rfl) (by kernel_rfl) (fun A hA=>⟨pc_of (body:=loopOf Tryz.f239 0) (inner:=[(2,⟨q38q_l2_h,q38q_l2_o,q38q_l2 N N⟩)]) E mixed hA (by kernel_rfl) (by kernel_rfl) (by kernel_rfl) ⟨pc_of (body:=loopOf Tryz.f239 2) (inner:=[]) E mixed hA (by kernel_rfl) (by kernel_rfl) (by kernel_rfl) trivial (fun _=>rfl) (fun _ _=>by kernel_rfl) N,trivial⟩ (fun _=>rfl) (fun _ _=>by kernel_rfl) N,trivial⟩) (fun _=>by kernel_rfl)
theorem C_q38q:Contract Tryz.prog 239 S_q38q:=Contract.less (fun N:Nat=>F_q38q N) C_q38q_raw pickF_lim
theorem C_q77q_raw (N:Nat):Contract Tryz.prog 201 ⟨[(I,false),(I,false)],[I],true,F_q77q N⟩:=
  have E:Env Tryz.prog Γ_q77q:=env_of tab trivial
  con_of (body:=bodyOf Tryz.f201) (Pc:=[]) E rfl mixed Tryz.func201 (by kernel_rfl) (by kernel_rfl) (by kernel_rfl) (by kernel_rfl) (fun A hA=>trivial) (fun _=>by kernel_rfl)
theorem C_q77q:Contract Tryz.prog 201 S_q77q:=Contract.less (fun N:Nat=>F_q77q N) C_q77q_raw (fun d r h=>⟨0,(F_q77q_tot 0 d).trans h⟩)
theorem C_q12q_raw (N:Nat):Contract Tryz.prog 183 ⟨[(K_BPSu8iu64q,true),(I,false)],[K_PiSPiiqq],true,F_q12q N⟩:=
  have E:Env Tryz.prog Γ_q12q:=env_ofG tab ⟨C_q49q,⟨C_q67q,⟨C_q39q,⟨C_q35q,⟨C_q76q,⟨C_spec_l2Put,⟨C_q77q,⟨C_q61q,⟨C_q38q,⟨C_q80q,trivial⟩⟩⟩⟩⟩⟩⟩⟩⟩⟩ trivial (fun _ h=>by cases h) ⟨C_q26q,trivial⟩ (by kernel_rfl)
  con_of (body:=bodyOf Tryz.f183) (Pc:=[(1,⟨q12q_l1_h,q12q_l1_o,q12q_l1 N N⟩)]) E rfl mixed Tryz.func183 (by kernel_rfl) (by kernel_rfl) (by kernel_rfl) (by kernel_rfl) (fun A hA=>⟨pc_of (body:=loopOf Tryz.f183 1) (inner:=[(3,⟨q12q_l3_h,q12q_l3_o,q12q_l3 N N⟩)]) E mixed hA (by kernel_rfl) (by kernel_rfl) (by kernel_rfl) ⟨pc_of (body:=loopOf Tryz.f183 3) (inner:=[]) E mixed hA (by kernel_rfl) (by kernel_rfl) (by kernel_rfl) trivial (fun _=>rfl) (fun _ _=>by kernel_rfl) N,trivial⟩ (fun _=>rfl) (fun _ _=>by kernel_rfl) N,trivial⟩) (fun _=>by kernel_rfl)
theorem C_q12q:Contract Tryz.prog 183 S_q12q:=Contract.less (fun N:Nat=>F_q12q N) C_q12q_raw pickF_lim
theorem C_q28q_raw (N:Nat):Contract Tryz.prog 194 ⟨[(K_BPSu8iu64q,true)],[K_PiSPiiqq],true,F_q28q N⟩:=
  have E:Env Tryz.prog Γ_q28q:=env_of tab ⟨C_q12q,trivial⟩
  con_of (body:=bodyOf Tryz.f194) (Pc:=[]) E rfl mixed Tryz.func194 (by kernel_rfl) (by kernel_rfl) (by kernel_rfl) (by kernel_rfl) (fun A hA=>trivial) (fun _=>by kernel_rfl)
theorem C_q28q:Contract Tryz.prog 194 S_q28q:=C_q28q_raw 0
theorem C_q23q_raw (N:Nat):Contract Tryz.prog 105 ⟨[(K_BPSu8iu64q,true)],[K_PiSPiiqq],true,F_q23q N⟩:=
  have E:Env Tryz.prog Γ_q23q:=env_of tab ⟨C_q49q,⟨C_q46q,⟨C_q28q,trivial⟩⟩⟩
  con_of (body:=bodyOf Tryz.f105) (Pc:=[]) E rfl mixed Tryz.func105 (by kernel_rfl) (by kernel_rfl) (by kernel_rfl) (by kernel_rfl) (fun A hA=>trivial) (fun _=>by kernel_rfl)
theorem C_q23q:Contract Tryz.prog 105 S_q23q:=C_q23q_raw 0
theorem C_q45q_raw (N:Nat):Contract Tryz.prog 93 ⟨[(K_BPSu8iu64q,true),(K_PiSPiiqq,false)],[I],true,F_q45q N⟩:=
  have E:Env Tryz.prog Γ_q45q:=env_of tab ⟨C_q49q,⟨C_q39q,⟨C_q35q,trivial⟩⟩⟩
  con_of (body:=bodyOf Tryz.f93) (Pc:=[]) E rfl mixed Tryz.func93 (by kernel_rfl) (by kernel_rfl) (by kernel_rfl) (by kernel_rfl) (fun A hA=>trivial) (fun _=>by kernel_rfl)
theorem C_q45q:Contract Tryz.prog 93 S_q45q:=C_q45q_raw 0
theorem C_q31q_raw (N:Nat):Contract Tryz.prog 17 ⟨[(K_Su8,false)],[K_PiSPiiqq,I,I],false,F_q31q N⟩:=
  have E:Env Tryz.prog Γ_q31q:=env_ofG tab ⟨C_q45q,⟨C_q23q,trivial⟩⟩ trivial (fun _ h=>by cases h) trivial (by kernel_rfl)
  con_of (body:=bodyOf Tryz.f17) (Pc:=[]) E rfl mixed Tryz.func17 (by kernel_rfl) (by kernel_rfl) (by kernel_rfl) (by kernel_rfl) (fun A hA=>trivial) (fun _=>by kernel_rfl)
theorem C_q31q:Contract Tryz.prog 17 S_q31q:=C_q31q_raw 0
theorem C_q74q_raw (N:Nat):Contract Tryz.prog 143 ⟨[(I,false),(I,false),(I,false)],[.bool],true,F_q74q N⟩:=
  have E:Env Tryz.prog Γ_q74q:=env_of tab trivial
  con_of (body:=bodyOf Tryz.f143) (Pc:=[]) E rfl mixed Tryz.func143 (by kernel_rfl) (by kernel_rfl) (by kernel_rfl) (by kernel_rfl) (fun A hA=>trivial) (fun _=>by kernel_rfl)
theorem C_q74q:Contract Tryz.prog 143 S_q74q:=Contract.less (fun N:Nat=>F_q74q N) C_q74q_raw (fun d r h=>⟨0,(F_q74q_tot 0 d).trans h⟩)
theorem C_q51q_raw (N:Nat):Contract Tryz.prog 258 ⟨[(I,false)],[.bool],true,F_q51q N⟩:=
  have E:Env Tryz.prog Γ_q51q:=env_of tab trivial
  con_of (body:=bodyOf Tryz.f258) (Pc:=[]) E rfl mixed Tryz.func258 (by kernel_rfl) (by kernel_rfl) (by kernel_rfl) (by kernel_rfl) (fun A hA=>trivial) (fun _=>by kernel_rfl)
theorem C_q51q:Contract Tryz.prog 258 S_q51q:=Contract.less (fun N:Nat=>F_q51q N) C_q51q_raw (fun d r h=>⟨0,(F_q51q_tot 0 d).trans h⟩)
theorem C_q41q_raw (N:Nat):Contract Tryz.prog 246 ⟨[(I,false),(I,false)],[I],true,F_q41q N⟩:=
  have E:Env Tryz.prog Γ_q41q:=env_of tab ⟨C_q51q,trivial⟩
  con_of (body:=bodyOf Tryz.f246) (Pc:=[]) E rfl mixed Tryz.func246 (by kernel_rfl) (by kernel_rfl) (by kernel_rfl) (by kernel_rfl) (fun A hA=>trivial) (fun _=>by kernel_rfl)
theorem C_q41q:Contract Tryz.prog 246 S_q41q:=Contract.less (fun N:Nat=>F_q41q N) C_q41q_raw (fun d r h=>⟨0,(F_q41q_tot 0 d).trans h⟩)
theorem C_q8q_raw (N:Nat):Contract Tryz.prog 199 ⟨[(K_Si,false),(K_Si,false)],[I],true,F_q8q N⟩:=
  have E:Env Tryz.prog Γ_q8q:=env_of tab ⟨C_q41q,trivial⟩
  con_of (body:=bodyOf Tryz.f199) (Pc:=[(0,⟨q8q_l0_h,q8q_l0_o,q8q_l0 N N⟩)]) E rfl mixed Tryz.func199 (by kernel_rfl) (by kernel_rfl) (by kernel_rfl) (by kernel_rfl) (fun A hA=>⟨pc_of (body:=loopOf Tryz.f199 0) (inner:=[]) E mixed hA (by kernel_rfl) (by kernel_rfl) (by kernel_rfl) trivial (fun _=>rfl) (fun _ _=>by kernel_rfl) N,trivial⟩) (fun _=>by kernel_rfl)
theorem C_q8q:Contract Tryz.prog 199 S_q8q:=Contract.less (fun N:Nat=>F_q8q N) C_q8q_raw compare_lim
theorem C_q60q_raw (N:Nat):Contract Tryz.prog 114 ⟨[(K_PiSPiiqq,false)],[.bool],true,F_q60q N⟩:=
  have E:Env Tryz.prog Γ_q60q:=env_of tab ⟨C_q74q,⟨C_q8q,trivial⟩⟩
  con_of (body:=bodyOf Tryz.f114) (Pc:=[(0,⟨q60q_l0_h,q60q_l0_o,q60q_l0 N N⟩)]) E rfl mixed Tryz.func114 (by kernel_rfl) (by kernel_rfl) (by kernel_rfl) (by kernel_rfl) (fun A hA=>⟨pc_of (body:=loopOf Tryz.f114 0) (inner:=[]) E mixed hA (by kernel_rfl) (by kernel_rfl) (by kernel_rfl) trivial (fun _=>rfl) (fun _ _=>by kernel_rfl) N,trivial⟩) (fun _=>by kernel_rfl)
theorem C_q60q:Contract Tryz.prog 114 S_q60q:=Contract.less (fun N:Nat=>F_q60q N) C_q60q_raw IsGraph_lim
theorem C_q47q_raw (N:Nat):Contract Tryz.prog 128 ⟨[(K_Si,false),(I,false),(I,false)],[.bool],true,F_q47q N⟩:=
  have E:Env Tryz.prog Γ_q47q:=env_of tab ⟨C_q74q,trivial⟩
  con_of (body:=bodyOf Tryz.f128) (Pc:=[(0,⟨q47q_l0_h,q47q_l0_o,q47q_l0 N N⟩)]) E rfl mixed Tryz.func128 (by kernel_rfl) (by kernel_rfl) (by kernel_rfl) (by kernel_rfl) (fun A hA=>⟨pc_of (body:=loopOf Tryz.f128 0) (inner:=[]) E mixed hA (by kernel_rfl) (by kernel_rfl) (by kernel_rfl) trivial (fun _=>rfl) (fun _ _=>by kernel_rfl) N,trivial⟩) (fun _=>by kernel_rfl)
theorem C_q47q:Contract Tryz.prog 128 S_q47q:=Contract.less (fun N:Nat=>F_q47q N) C_q47q_raw allWithin_lim
theorem C_q50q_raw (N:Nat):Contract Tryz.prog 106 ⟨[(K_PiSPiiqq,false),(K_Si,false)],[.bool],true,F_q50q N⟩:=
  have E:Env Tryz.prog Γ_q50q:=env_of tab ⟨C_q60q,⟨C_q47q,trivial⟩⟩
  con_of (body:=bodyOf Tryz.f106) (Pc:=[]) E rfl mixed Tryz.func106 (by kernel_rfl) (by kernel_rfl) (by kernel_rfl) (by kernel_rfl) (fun A hA=>trivial) (fun _=>by kernel_rfl)
theorem C_q50q:Contract Tryz.prog 106 S_q50q:=C_q50q_raw 0
theorem C_impl_netOf_raw (N:Nat):Contract Tryz.prog 95 ⟨[(K_PiSPiiqq,false)],[K_PSiq],true,F_impl_netOf N⟩:=
  have E:Env Tryz.prog Γ_impl_netOf:=env_of tab trivial
  con_of (body:=bodyOf Tryz.f95) (Pc:=[(0,⟨impl_netOf_l0_h,impl_netOf_l0_o,impl_netOf_l0 N N⟩)]) E rfl mixed Tryz.func95 (by kernel_rfl) (by kernel_rfl) (by kernel_rfl) (by kernel_rfl) (fun A hA=>⟨pc_of (body:=loopOf Tryz.f95 0) (inner:=[]) E mixed hA (by kernel_rfl) (by kernel_rfl) (by kernel_rfl) trivial (fun _=>rfl) (fun _ _=>by kernel_rfl) N,trivial⟩) (fun _=>by kernel_rfl)
theorem C_impl_netOf:Contract Tryz.prog 95 S_impl_netOf:=Contract.less (fun N:Nat=>F_impl_netOf N) C_impl_netOf_raw netOf_lim
theorem C_q55q_raw (N:Nat):Contract Tryz.prog 188 ⟨[(K_PSiq,false)],[I],true,F_q55q N⟩:=
  have E:Env Tryz.prog Γ_q55q:=env_of tab trivial
  con_of (body:=bodyOf Tryz.f188) (Pc:=[]) E rfl mixed Tryz.func188 (by kernel_rfl) (by kernel_rfl) (by kernel_rfl) (by kernel_rfl) (fun A hA=>trivial) (fun _=>by kernel_rfl)
theorem C_q55q:Contract Tryz.prog 188 S_q55q:=Contract.less (fun N:Nat=>F_q55q N) C_q55q_raw (fun d r h=>⟨0,(F_q55q_tot 0 d).trans h⟩)
theorem C_q40q_raw (N:Nat):Contract Tryz.prog 130 ⟨[(K_PSiq,false),(I,false)],[I],true,F_q40q N⟩:=
  have E:Env Tryz.prog Γ_q40q:=env_of tab trivial
  con_of (body:=bodyOf Tryz.f130) (Pc:=[]) E rfl mixed Tryz.func130 (by kernel_rfl) (by kernel_rfl) (by kernel_rfl) (by kernel_rfl) (fun A hA=>trivial) (fun _=>by kernel_rfl)
theorem C_q40q:Contract Tryz.prog 130 S_q40q:=C_q40q_raw 0
theorem C_impl_setOf_raw (N:Nat):Contract Tryz.prog 127 ⟨[(I,false)],[K_Si],true,F_impl_setOf N⟩:=
  have E:Env Tryz.prog Γ_impl_setOf:=env_of tab trivial
  con_of (body:=bodyOf Tryz.f127) (Pc:=[(0,⟨impl_setOf_l0_h,impl_setOf_l0_o,impl_setOf_l0 N N⟩)]) E rfl mixed Tryz.func127 (by kernel_rfl) (by kernel_rfl) (by kernel_rfl) (by kernel_rfl) (fun A hA=>⟨pc_of (body:=loopOf Tryz.f127 0) (inner:=[]) E mixed hA (by kernel_rfl) (by kernel_rfl) (by kernel_rfl) trivial (fun _=>rfl) (fun _ _=>by kernel_rfl) N,trivial⟩) (fun _=>by kernel_rfl)
theorem C_impl_setOf:Contract Tryz.prog 127 S_impl_setOf:=Contract.less (fun N:Nat=>F_impl_setOf N) C_impl_setOf_raw setOf_lim
theorem C_q16q_raw (N:Nat):Contract Tryz.prog 179 ⟨[(K_PSiq,false),(K_Si,false),(I,false)],[I],true,F_q16q N⟩:=
  have E:Env Tryz.prog Γ_q16q:=env_of tab ⟨C_impl_setOf,⟨C_q40q,trivial⟩⟩
  con_of (body:=bodyOf Tryz.f179) (Pc:=[(0,⟨q16q_l0_h,q16q_l0_o,q16q_l0 N N⟩)]) E rfl mixed Tryz.func179 (by kernel_rfl) (by kernel_rfl) (by kernel_rfl) (by kernel_rfl) (fun A hA=>⟨pc_of (body:=loopOf Tryz.f179 0) (inner:=[]) E mixed hA (by kernel_rfl) (by kernel_rfl) (by kernel_rfl) trivial (fun _=>rfl) (fun _ _=>by kernel_rfl) N,trivial⟩) (fun _=>by kernel_rfl)
theorem C_q16q:Contract Tryz.prog 179 S_q16q:=Contract.less (fun N:Nat=>F_q16q N) C_q16q_raw timeAfter_lim
theorem C_q20q_raw (N:Nat):Contract Tryz.prog 244 ⟨[(I,false),(K_Bi,false),(K_BPSiq,false),(K_BSSi,false)],[.bool],true,F_q20q N⟩:=
  have E:Env Tryz.prog Γ_q20q:=env_of tab ⟨C_q16q,trivial⟩
  con_of (body:=bodyOf Tryz.f244) (Pc:=[]) E rfl mixed Tryz.func244 (by kernel_rfl) (by kernel_rfl) (by kernel_rfl) (by kernel_rfl) (fun A hA=>trivial) (fun _=>by kernel_rfl)
theorem C_q20q:Contract Tryz.prog 244 S_q20q:=C_q20q_raw 0
theorem CV_q20q:ContractV Tryz.prog SV_q20q:=conV_0_1_3 C_q20q
theorem C_q6q_raw (N:Nat):Contract Tryz.prog 248 ⟨[(K_Si,false),(K_F_q20q_qPBiBPSiqBSSiq,false)],[I],true,F_q6q N⟩:=
  have E:Env Tryz.prog Γ_q6q:=env_ofV tab trivial ⟨CV_q20q,trivial⟩ (fun _ h=>by cases h)
  con_of (body:=bodyOf Tryz.f248) (Pc:=[(0,⟨q6q_l0_h,q6q_l0_o,q6q_l0 N N⟩)]) E rfl mixed Tryz.func248 (by kernel_rfl) (by kernel_rfl) (by kernel_rfl) (by kernel_rfl) (fun A hA=>⟨pc_of (body:=loopOf Tryz.f248 0) (inner:=[]) E mixed hA (by kernel_rfl) (by kernel_rfl) (by kernel_rfl) trivial (fun _=>rfl) (fun _ _=>by kernel_rfl) N,trivial⟩) (fun _=>by kernel_rfl)
theorem C_q6q:Contract Tryz.prog 248 S_q6q:=Contract.less (fun N:Nat=>F_q6q N) C_q6q_raw index154_lim
theorem C_q4q_raw (N:Nat):Contract Tryz.prog 214 ⟨[(K_Si,false),(K_F_q20q_qPBiBPSiqBSSiq,false)],[.bool],true,F_q4q N⟩:=
  have E:Env Tryz.prog Γ_q4q:=env_of tab ⟨C_q6q,trivial⟩
  con_of (body:=bodyOf Tryz.f214) (Pc:=[]) E rfl mixed Tryz.func214 (by kernel_rfl) (by kernel_rfl) (by kernel_rfl) (by kernel_rfl) (fun A hA=>trivial) (fun _=>by kernel_rfl)
theorem C_q4q:Contract Tryz.prog 214 S_q4q:=C_q4q_raw 0
theorem C_q42q_raw (N:Nat):Contract Tryz.prog 195 ⟨[(K_PSiq,false),(K_SSi,false),(I,false),(I,false)],[.bool],true,F_q42q N⟩:=
  have E:Env Tryz.prog Γ_q42q:=env_ofV tab ⟨C_impl_setOf,⟨C_q40q,⟨C_q4q,trivial⟩⟩⟩ trivial (fun _ h=>by cases h)
  con_of (body:=bodyOf Tryz.f195) (Pc:=[]) E rfl mixed Tryz.func195 (by kernel_rfl) (by kernel_rfl) (by kernel_rfl) (by kernel_rfl) (fun A hA=>trivial) (fun _=>by kernel_rfl)
theorem C_q42q:Contract Tryz.prog 195 S_q42q:=C_q42q_raw 0
theorem C_q24q_raw (N:Nat):Contract Tryz.prog 107 ⟨[(K_PSiq,false)],[K_SSi],true,F_q24q N⟩:=
  have E:Env Tryz.prog Γ_q24q:=env_of tab ⟨C_q55q,⟨C_q9q,⟨C_q42q,trivial⟩⟩⟩
  con_of (body:=bodyOf Tryz.f107) (Pc:=[(0,⟨q24q_l0_h,q24q_l0_o,q24q_l0 N N⟩),(2,⟨q24q_l2_h,q24q_l2_o,q24q_l2 N N⟩)]) E rfl mixed Tryz.func107 (by kernel_rfl) (by kernel_rfl) (by kernel_rfl) (by kernel_rfl) (fun A hA=>⟨pc_of (body:=loopOf Tryz.f107 0) (inner:=[]) E mixed hA (by kernel_rfl) (by kernel_rfl) (by kernel_rfl) trivial (fun _=>rfl) (fun _ _=>by kernel_rfl) N,⟨pc_of (body:=loopOf Tryz.f107 2) (inner:=[(4,⟨q24q_l4_h,q24q_l4_o,q24q_l4 N N⟩),(8,⟨q24q_l8_h,q24q_l8_o,q24q_l8 N N⟩)]) E mixed hA (by kernel_rfl) (by kernel_rfl) (by kernel_rfl) ⟨pc_of (body:=loopOf Tryz.f107 4) (inner:=[(6,⟨q24q_l6_h,q24q_l6_o,q24q_l6 N N⟩)]) E mixed hA (by kernel_rfl) (by kernel_rfl) (by kernel_rfl) ⟨pc_of (body:=loopOf Tryz.f107 6) (inner:=[]) E mixed hA (by kernel_rfl) (by kernel_rfl) (by kernel_rfl) trivial (fun _=>rfl) (fun _ _=>by kernel_rfl) N,trivial⟩ (fun _=>rfl) (fun _ _=>by kernel_rfl) N,⟨pc_of (body:=loopOf Tryz.f107 8) (inner:=[]) E mixed hA (by kernel_rfl) (by kernel_rfl) (by kernel_rfl) trivial (fun _=>rfl) (fun _ _=>by kernel_rfl) N,trivial⟩⟩ (fun _=>rfl) (fun _ _=>by kernel_rfl) N,trivial⟩⟩) (fun _=>by kernel_rfl)
theorem C_q24q:Contract Tryz.prog 107 S_q24q:=Contract.less (fun N:Nat=>F_q24q N) C_q24q_raw copTimes_lim
theorem C_q34q_raw (N:Nat):Contract Tryz.prog 108 ⟨[(K_PSiq,false),(K_SSi,false),(I,false),(I,false)],[I],true,F_q34q N⟩:=
  have E:Env Tryz.prog Γ_q34q:=env_of tab ⟨C_impl_setOf,⟨C_q40q,⟨C_q16q,trivial⟩⟩⟩
  con_of (body:=bodyOf Tryz.f108) (Pc:=[(0,⟨q34q_l0_h,q34q_l0_o,q34q_l0 N N⟩)]) E rfl mixed Tryz.func108 (by kernel_rfl) (by kernel_rfl) (by kernel_rfl) (by kernel_rfl) (fun A hA=>⟨pc_of (body:=loopOf Tryz.f108 0) (inner:=[]) E mixed hA (by kernel_rfl) (by kernel_rfl) (by kernel_rfl) trivial (fun _=>rfl) (fun _ _=>by kernel_rfl) N,trivial⟩) (fun _=>by kernel_rfl)
theorem C_q34q:Contract Tryz.prog 108 S_q34q:=Contract.less (fun N:Nat=>F_q34q N) C_q34q_raw copMove_lim
theorem C_q62q_raw (N:Nat):Contract Tryz.prog 18 ⟨[(K_PiSPiiqq,false),(I,false),(I,false)],[I,.bool],true,F_q62q N⟩:=
  have E:Env Tryz.prog Γ_q62q:=env_of tab ⟨C_impl_netOf,⟨C_q50q,⟨C_q24q,⟨C_q34q,trivial⟩⟩⟩⟩
  con_of (body:=bodyOf Tryz.f18) (Pc:=[]) E rfl mixed Tryz.func18 (by kernel_rfl) (by kernel_rfl) (by kernel_rfl) (by kernel_rfl) (fun A hA=>trivial) (fun _=>by kernel_rfl)
theorem C_q62q:Contract Tryz.prog 18 S_q62q:=C_q62q_raw 0
theorem C_spec_l1In_raw (N:Nat):Contract Tryz.prog 148 ⟨[(I,false),(I,false),(I,false)],[.bool],true,F_spec_l1In N⟩:=
  have E:Env Tryz.prog Γ_spec_l1In:=env_of tab trivial
  con_of (body:=bodyOf Tryz.f148) (Pc:=[]) E rfl mixed Tryz.func148 (by kernel_rfl) (by kernel_rfl) (by kernel_rfl) (by kernel_rfl) (fun A hA=>trivial) (fun _=>by kernel_rfl)
theorem C_spec_l1In:Contract Tryz.prog 148 S_spec_l1In:=Contract.less (fun N:Nat=>F_spec_l1In N) C_spec_l1In_raw (fun d r h=>⟨0,(F_spec_l1In_tot 0 d).trans h⟩)
theorem C_q79q_raw (N:Nat):Contract Tryz.prog 115 ⟨[(K_PiSPiiqq,false)],[.bool],true,F_q79q N⟩:=
  have E:Env Tryz.prog Γ_q79q:=env_of tab ⟨C_spec_l1In,⟨C_q53q,trivial⟩⟩
  con_of (body:=bodyOf Tryz.f115) (Pc:=[(0,⟨q79q_l0_h,q79q_l0_o,q79q_l0 N N⟩)]) E rfl mixed Tryz.func115 (by kernel_rfl) (by kernel_rfl) (by kernel_rfl) (by kernel_rfl) (fun A hA=>⟨pc_of (body:=loopOf Tryz.f115 0) (inner:=[]) E mixed hA (by kernel_rfl) (by kernel_rfl) (by kernel_rfl) trivial (fun _=>rfl) (fun _ _=>by kernel_rfl) N,trivial⟩) (fun _=>by kernel_rfl)
theorem C_q79q:Contract Tryz.prog 115 S_q79q:=Contract.less (fun N:Nat=>F_q79q N) C_q79q_raw l2Good_lim
theorem C_q72q_raw (N:Nat):Contract Tryz.prog 132 ⟨[(K_PiSPiiqq,false),(I,false)],[.bool],true,F_q72q N⟩:=
  have E:Env Tryz.prog Γ_q72q:=env_of tab ⟨C_spec_l1In,trivial⟩
  con_of (body:=bodyOf Tryz.f132) (Pc:=[]) E rfl mixed Tryz.func132 (by kernel_rfl) (by kernel_rfl) (by kernel_rfl) (by kernel_rfl) (fun A hA=>trivial) (fun _=>by kernel_rfl)
theorem C_q72q:Contract Tryz.prog 132 S_q72q:=Contract.less (fun N:Nat=>F_q72q N) C_q72q_raw (fun d r h=>⟨0,(F_q72q_tot 0 d).trans h⟩)
theorem C_spec_l3Two_raw (N:Nat):Contract Tryz.prog 109 ⟨[(K_PiSPiiqq,false),(I,false),(I,false)],[.bool],true,F_spec_l3Two N⟩:=
  have E:Env Tryz.prog Γ_spec_l3Two:=env_of tab ⟨C_q79q,⟨C_q72q,trivial⟩⟩
  con_of (body:=bodyOf Tryz.f109) (Pc:=[]) E rfl mixed Tryz.func109 (by kernel_rfl) (by kernel_rfl) (by kernel_rfl) (by kernel_rfl) (fun A hA=>trivial) (fun _=>by kernel_rfl)
theorem C_spec_l3Two:Contract Tryz.prog 109 S_spec_l3Two:=C_spec_l3Two_raw 0
theorem C_q78q_raw (N:Nat):Contract Tryz.prog 196 ⟨[(.bool,false)],[I],true,F_q78q N⟩:=
  have E:Env Tryz.prog Γ_q78q:=env_of tab trivial
  con_of (body:=bodyOf Tryz.f196) (Pc:=[]) E rfl mixed Tryz.func196 (by kernel_rfl) (by kernel_rfl) (by kernel_rfl) (by kernel_rfl) (fun A hA=>trivial) (fun _=>by kernel_rfl)
theorem C_q78q:Contract Tryz.prog 196 S_q78q:=Contract.less (fun N:Nat=>F_q78q N) C_q78q_raw (fun d r h=>⟨0,(F_q78q_tot 0 d).trans h⟩)
theorem C_spec_l1Own_raw (N:Nat):Contract Tryz.prog 151 ⟨[(K_Si,false)],[K_Si],true,F_spec_l1Own N⟩:=
  have E:Env Tryz.prog Γ_spec_l1Own:=env_of tab trivial
  con_of (body:=bodyOf Tryz.f151) (Pc:=[]) E rfl mixed Tryz.func151 (by kernel_rfl) (by kernel_rfl) (by kernel_rfl) (by kernel_rfl) (fun A hA=>trivial) (fun _=>by kernel_rfl)
theorem C_spec_l1Own:Contract Tryz.prog 151 S_spec_l1Own:=C_spec_l1Own_raw 0
theorem C_q59q_raw (N:Nat):Contract Tryz.prog 245 ⟨[(K_PiSPiiqq,false),(K_SSi,false),(I,false),(I,false)],[I],true,F_q59q N⟩:=
  have E:Env Tryz.prog Γ_q59q:=env_of tab ⟨C_q71q,⟨C_q77q,trivial⟩⟩
  con_of (body:=bodyOf Tryz.f245) (Pc:=[(0,⟨q59q_l0_h,q59q_l0_o,q59q_l0 N N⟩)]) E rfl mixed Tryz.func245 (by kernel_rfl) (by kernel_rfl) (by kernel_rfl) (by kernel_rfl) (fun A hA=>⟨pc_of (body:=loopOf Tryz.f245 0) (inner:=[]) E mixed hA (by kernel_rfl) (by kernel_rfl) (by kernel_rfl) trivial (fun _=>rfl) (fun _ _=>by kernel_rfl) N,trivial⟩) (fun _=>by kernel_rfl)
theorem C_q59q:Contract Tryz.prog 245 S_q59q:=Contract.less (fun N:Nat=>F_q59q N) C_q59q_raw l3Worst_lim
theorem C_q68q_raw (N:Nat):Contract Tryz.prog 198 ⟨[(K_PiSPiiqq,false),(K_SSi,false),(I,false),(I,false)],[I],true,F_q68q N⟩:=
  have E:Env Tryz.prog Γ_q68q:=env_of tab ⟨C_q59q,trivial⟩
  con_of (body:=bodyOf Tryz.f198) (Pc:=[]) E rfl mixed Tryz.func198 (by kernel_rfl) (by kernel_rfl) (by kernel_rfl) (by kernel_rfl) (fun A hA=>trivial) (fun _=>by kernel_rfl)
theorem C_q68q:Contract Tryz.prog 198 S_q68q:=C_q68q_raw 0
theorem C_q81q_raw (N:Nat):Contract Tryz.prog 197 ⟨[(K_PiSPiiqq,false),(K_SSi,false),(I,false),(I,false)],[I],true,F_q81q N⟩:=
  have E:Env Tryz.prog Γ_q81q:=env_of tab ⟨C_q71q,⟨C_q68q,trivial⟩⟩
  con_of (body:=bodyOf Tryz.f197) (Pc:=[(0,⟨q81q_l0_h,q81q_l0_o,q81q_l0 N N⟩)]) E rfl mixed Tryz.func197 (by kernel_rfl) (by kernel_rfl) (by kernel_rfl) (by kernel_rfl) (fun A hA=>⟨pc_of (body:=loopOf Tryz.f197 0) (inner:=[]) E mixed hA (by kernel_rfl) (by kernel_rfl) (by kernel_rfl) trivial (fun _=>rfl) (fun _ _=>by kernel_rfl) N,trivial⟩) (fun _=>by kernel_rfl)
theorem C_q81q:Contract Tryz.prog 197 S_q81q:=Contract.less (fun N:Nat=>F_q81q N) C_q81q_raw l3Best_lim
theorem C_q58q_raw (N:Nat):Contract Tryz.prog 110 ⟨[(K_PiSPiiqq,false)],[K_SSi],true,F_q58q N⟩:=
  have E:Env Tryz.prog Γ_q58q:=env_of tab ⟨C_spec_l1Own,⟨C_q78q,⟨C_q81q,trivial⟩⟩⟩
  con_of (body:=bodyOf Tryz.f110) (Pc:=[(0,⟨q58q_l0_h,q58q_l0_o,q58q_l0 N N⟩),(4,⟨q58q_l4_h,q58q_l4_o,q58q_l4 N N⟩)]) E rfl mixed Tryz.func110 (by kernel_rfl) (by kernel_rfl) (by kernel_rfl) (by kernel_rfl) (fun A hA=>⟨pc_of (body:=loopOf Tryz.f110 0) (inner:=[(2,⟨q58q_l2_h,q58q_l2_o,q58q_l2 N N⟩)]) E mixed hA (by kernel_rfl) (by kernel_rfl) (by kernel_rfl) ⟨pc_of (body:=loopOf Tryz.f110 2) (inner:=[]) E mixed hA (by kernel_rfl) (by kernel_rfl) (by kernel_rfl) trivial (fun _=>rfl) (fun _ _=>by kernel_rfl) N,trivial⟩ (fun _=>rfl) (fun _ _=>by kernel_rfl) N,⟨pc_of (body:=loopOf Tryz.f110 4) (inner:=[(6,⟨q58q_l6_h,q58q_l6_o,q58q_l6 N N⟩)]) E mixed hA (by kernel_rfl) (by kernel_rfl) (by kernel_rfl) ⟨pc_of (body:=loopOf Tryz.f110 6) (inner:=[(8,⟨q58q_l8_h,q58q_l8_o,q58q_l8 N N⟩)]) E mixed hA (by kernel_rfl) (by kernel_rfl) (by kernel_rfl) ⟨pc_of (body:=loopOf Tryz.f110 8) (inner:=[]) E mixed hA (by kernel_rfl) (by kernel_rfl) (by kernel_rfl) trivial (fun _=>rfl) (fun _ _=>by kernel_rfl) N,trivial⟩ (fun _=>rfl) (fun _ _=>by kernel_rfl) N,trivial⟩ (fun _=>rfl) (fun _ _=>by kernel_rfl) N,trivial⟩⟩) (fun _=>by kernel_rfl)
theorem C_q58q:Contract Tryz.prog 110 S_q58q:=Contract.less (fun N:Nat=>F_q58q N) C_q58q_raw l3Times_lim
theorem C_q69q_raw (N:Nat):Contract Tryz.prog 111 ⟨[(K_PiSPiiqq,false),(K_SSi,false),(I,false),(I,false)],[I],true,F_q69q N⟩:=
  have E:Env Tryz.prog Γ_q69q:=env_of tab ⟨C_q71q,⟨C_q68q,trivial⟩⟩
  con_of (body:=bodyOf Tryz.f111) (Pc:=[(0,⟨q69q_l0_h,q69q_l0_o,q69q_l0 N N⟩)]) E rfl mixed Tryz.func111 (by kernel_rfl) (by kernel_rfl) (by kernel_rfl) (by kernel_rfl) (fun A hA=>⟨pc_of (body:=loopOf Tryz.f111 0) (inner:=[]) E mixed hA (by kernel_rfl) (by kernel_rfl) (by kernel_rfl) trivial (fun _=>rfl) (fun _ _=>by kernel_rfl) N,trivial⟩) (fun _=>by kernel_rfl)
theorem C_q69q:Contract Tryz.prog 111 S_q69q:=Contract.less (fun N:Nat=>F_q69q N) C_q69q_raw l3Chase_lim
theorem C_q66q_raw (N:Nat):Contract Tryz.prog 19 ⟨[(K_PiSPiiqq,false),(I,false),(I,false)],[I,.bool],true,F_q66q N⟩:=
  have E:Env Tryz.prog Γ_q66q:=env_of tab ⟨C_spec_l3Two,⟨C_q58q,⟨C_q69q,trivial⟩⟩⟩
  con_of (body:=bodyOf Tryz.f19) (Pc:=[]) E rfl mixed Tryz.func19 (by kernel_rfl) (by kernel_rfl) (by kernel_rfl) (by kernel_rfl) (fun A hA=>trivial) (fun _=>by kernel_rfl)
theorem C_q66q:Contract Tryz.prog 19 S_q66q:=C_q66q_raw 0
theorem C_q15q_raw (N:Nat):Contract Tryz.prog 112 ⟨[(K_PSiq,false),(K_Si,false),(I,false)],[I],true,F_q15q N⟩:=
  have E:Env Tryz.prog Γ_q15q:=env_of tab ⟨C_impl_setOf,⟨C_q40q,trivial⟩⟩
  con_of (body:=bodyOf Tryz.f112) (Pc:=[(0,⟨q15q_l0_h,q15q_l0_o,q15q_l0 N N⟩)]) E rfl mixed Tryz.func112 (by kernel_rfl) (by kernel_rfl) (by kernel_rfl) (by kernel_rfl) (fun A hA=>⟨pc_of (body:=loopOf Tryz.f112 0) (inner:=[]) E mixed hA (by kernel_rfl) (by kernel_rfl) (by kernel_rfl) trivial (fun _=>rfl) (fun _ _=>by kernel_rfl) N,trivial⟩) (fun _=>by kernel_rfl)
theorem C_q15q:Contract Tryz.prog 112 S_q15q:=Contract.less (fun N:Nat=>F_q15q N) C_q15q_raw robberMove_lim
theorem C_q43q_raw (N:Nat):Contract Tryz.prog 20 ⟨[(K_PiSPiiqq,false),(I,false),(I,false)],[I,.bool],true,F_q43q N⟩:=
  have E:Env Tryz.prog Γ_q43q:=env_of tab ⟨C_impl_netOf,⟨C_q50q,⟨C_q24q,⟨C_q15q,trivial⟩⟩⟩⟩
  con_of (body:=bodyOf Tryz.f20) (Pc:=[]) E rfl mixed Tryz.func20 (by kernel_rfl) (by kernel_rfl) (by kernel_rfl) (by kernel_rfl) (fun A hA=>trivial) (fun _=>by kernel_rfl)
theorem C_q43q:Contract Tryz.prog 20 S_q43q:=C_q43q_raw 0
theorem C_q83q_raw (N:Nat):Contract Tryz.prog 113 ⟨[(K_PiSPiiqq,false),(K_SSi,false),(I,false),(I,false)],[I],true,F_q83q N⟩:=
  have E:Env Tryz.prog Γ_q83q:=env_of tab ⟨C_q71q,trivial⟩
  con_of (body:=bodyOf Tryz.f113) (Pc:=[(0,⟨q83q_l0_h,q83q_l0_o,q83q_l0 N N⟩)]) E rfl mixed Tryz.func113 (by kernel_rfl) (by kernel_rfl) (by kernel_rfl) (by kernel_rfl) (fun A hA=>⟨pc_of (body:=loopOf Tryz.f113 0) (inner:=[]) E mixed hA (by kernel_rfl) (by kernel_rfl) (by kernel_rfl) trivial (fun _=>rfl) (fun _ _=>by kernel_rfl) N,trivial⟩) (fun _=>by kernel_rfl)
theorem C_q83q:Contract Tryz.prog 113 S_q83q:=Contract.less (fun N:Nat=>F_q83q N) C_q83q_raw l3Flee_lim
theorem C_q37q_raw (N:Nat):Contract Tryz.prog 21 ⟨[(K_PiSPiiqq,false),(I,false),(I,false)],[I,.bool],true,F_q37q N⟩:=
  have E:Env Tryz.prog Γ_q37q:=env_of tab ⟨C_spec_l3Two,⟨C_q58q,⟨C_q83q,trivial⟩⟩⟩
  con_of (body:=bodyOf Tryz.f21) (Pc:=[]) E rfl mixed Tryz.func21 (by kernel_rfl) (by kernel_rfl) (by kernel_rfl) (by kernel_rfl) (fun A hA=>trivial) (fun _=>by kernel_rfl)
theorem C_q37q:Contract Tryz.prog 21 S_q37q:=C_q37q_raw 0
theorem C_q64q_raw (N:Nat):Contract Tryz.prog 22 ⟨[(K_PiSPiiqq,false),(I,false),(I,false)],[K_SPiiq,.bool],true,F_q64q N⟩:=
  have E:Env Tryz.prog Γ_q64q:=env_of tab ⟨C_impl_netOf,⟨C_q50q,⟨C_q24q,⟨C_q34q,⟨C_q15q,trivial⟩⟩⟩⟩⟩
  con_of (body:=bodyOf Tryz.f22) (Pc:=[(0,⟨q64q_l0_h,q64q_l0_o,q64q_l0 N N⟩)]) E rfl mixed Tryz.func22 (by kernel_rfl) (by kernel_rfl) (by kernel_rfl) (by kernel_rfl) (fun A hA=>⟨pc_of (body:=loopOf Tryz.f22 0) (inner:=[]) E mixed hA (by kernel_rfl) (by kernel_rfl) (by kernel_rfl) trivial (fun _=>rfl) (fun _ _=>by kernel_rfl) N,trivial⟩) (fun _=>by kernel_rfl)
theorem C_q64q:Contract Tryz.prog 22 S_q64q:=Contract.less (fun N:Nat=>F_q64q N) C_q64q_raw implPlayOut_lim
theorem C_q65q_raw (N:Nat):Contract Tryz.prog 23 ⟨[(K_PiSPiiqq,false),(I,false),(I,false)],[K_SPiiq,.bool],true,F_q65q N⟩:=
  have E:Env Tryz.prog Γ_q65q:=env_of tab ⟨C_spec_l3Two,⟨C_q58q,⟨C_q69q,⟨C_q83q,trivial⟩⟩⟩⟩
  con_of (body:=bodyOf Tryz.f23) (Pc:=[(0,⟨q65q_l0_h,q65q_l0_o,q65q_l0 N N⟩)]) E rfl mixed Tryz.func23 (by kernel_rfl) (by kernel_rfl) (by kernel_rfl) (by kernel_rfl) (fun A hA=>⟨pc_of (body:=loopOf Tryz.f23 0) (inner:=[]) E mixed hA (by kernel_rfl) (by kernel_rfl) (by kernel_rfl) trivial (fun _=>rfl) (fun _ _=>by kernel_rfl) N,trivial⟩) (fun _=>by kernel_rfl)
theorem C_q65q:Contract Tryz.prog 23 S_q65q:=Contract.less (fun N:Nat=>F_q65q N) C_q65q_raw specPlayOut_lim
theorem C_q54q_raw (N:Nat):Contract Tryz.prog 24 ⟨[(K_PiSPiiqq,false)],[K_SSi,.bool],true,F_q54q N⟩:=
  have E:Env Tryz.prog Γ_q54q:=env_of tab ⟨C_impl_netOf,⟨C_q24q,⟨C_q60q,trivial⟩⟩⟩
  con_of (body:=bodyOf Tryz.f24) (Pc:=[]) E rfl mixed Tryz.func24 (by kernel_rfl) (by kernel_rfl) (by kernel_rfl) (by kernel_rfl) (fun A hA=>trivial) (fun _=>by kernel_rfl)
theorem C_q54q:Contract Tryz.prog 24 S_q54q:=C_q54q_raw 0
theorem C_q56q_raw (N:Nat):Contract Tryz.prog 25 ⟨[(K_PiSPiiqq,false)],[K_SSi,.bool],true,F_q56q N⟩:=
  have E:Env Tryz.prog Γ_q56q:=env_of tab ⟨C_q58q,⟨C_q79q,trivial⟩⟩
  con_of (body:=bodyOf Tryz.f25) (Pc:=[]) E rfl mixed Tryz.func25 (by kernel_rfl) (by kernel_rfl) (by kernel_rfl) (by kernel_rfl) (fun A hA=>trivial) (fun _=>by kernel_rfl)
theorem C_q56q:Contract Tryz.prog 25 S_q56q:=C_q56q_raw 0
theorem C_q10q_raw (N:Nat):Contract Tryz.prog 211 ⟨[(K_Si,false),(I,false)],[I],true,F_q10q N⟩:=
  have E:Env Tryz.prog Γ_q10q:=env_of tab trivial
  con_of (body:=bodyOf Tryz.f211) (Pc:=[(0,⟨q10q_l0_h,q10q_l0_o,q10q_l0 N N⟩)]) E rfl mixed Tryz.func211 (by kernel_rfl) (by kernel_rfl) (by kernel_rfl) (by kernel_rfl) (fun A hA=>⟨pc_of (body:=loopOf Tryz.f211 0) (inner:=[]) E mixed hA (by kernel_rfl) (by kernel_rfl) (by kernel_rfl) trivial (fun _=>rfl) (fun _ _=>by kernel_rfl) N,trivial⟩) (fun _=>by kernel_rfl)
theorem C_q10q:Contract Tryz.prog 211 S_q10q:=Contract.less (fun N:Nat=>F_q10q N) C_q10q_raw index_lim
theorem C_q7q_raw (N:Nat):Contract Tryz.prog 129 ⟨[(K_Si,false),(I,false)],[.bool],true,F_q7q N⟩:=
  have E:Env Tryz.prog Γ_q7q:=env_of tab ⟨C_q10q,trivial⟩
  con_of (body:=bodyOf Tryz.f129) (Pc:=[]) E rfl mixed Tryz.func129 (by kernel_rfl) (by kernel_rfl) (by kernel_rfl) (by kernel_rfl) (fun A hA=>trivial) (fun _=>by kernel_rfl)
theorem C_q7q:Contract Tryz.prog 129 S_q7q:=C_q7q_raw 0
theorem C_q14q_raw (N:Nat):Contract Tryz.prog 175 ⟨[(K_Si,false)],[I],true,F_q14q N⟩:=
  have E:Env Tryz.prog Γ_q14q:=env_of tab trivial
  con_of (body:=bodyOf Tryz.f175) (Pc:=[(0,⟨q14q_l0_h,q14q_l0_o,q14q_l0 N N⟩)]) E rfl mixed Tryz.func175 (by kernel_rfl) (by kernel_rfl) (by kernel_rfl) (by kernel_rfl) (fun A hA=>⟨pc_of (body:=loopOf Tryz.f175 0) (inner:=[]) E mixed hA (by kernel_rfl) (by kernel_rfl) (by kernel_rfl) trivial (fun _=>rfl) (fun _ _=>by kernel_rfl) N,trivial⟩) (fun _=>by kernel_rfl)
theorem C_q14q:Contract Tryz.prog 175 S_q14q:=Contract.less (fun N:Nat=>F_q14q N) C_q14q_raw max_lim
theorem C_q29q_raw (N:Nat):Contract Tryz.prog 116 ⟨[(K_PSiq,false)],[I,I,.bool],true,F_q29q N⟩:=
  have E:Env Tryz.prog Γ_q29q:=env_of tab ⟨C_q24q,⟨C_q7q,⟨C_q14q,trivial⟩⟩⟩
  con_of (body:=bodyOf Tryz.f116) (Pc:=[(0,⟨q29q_l0_h,q29q_l0_o,q29q_l0 N N⟩)]) E rfl mixed Tryz.func116 (by kernel_rfl) (by kernel_rfl) (by kernel_rfl) (by kernel_rfl) (fun A hA=>⟨pc_of (body:=loopOf Tryz.f116 0) (inner:=[]) E mixed hA (by kernel_rfl) (by kernel_rfl) (by kernel_rfl) trivial (fun _=>rfl) (fun _ _=>by kernel_rfl) N,trivial⟩) (fun _=>by kernel_rfl)
theorem C_q29q:Contract Tryz.prog 116 S_q29q:=Contract.less (fun N:Nat=>F_q29q N) C_q29q_raw bestCop_lim
theorem C_q30q_raw (N:Nat):Contract Tryz.prog 26 ⟨[(K_PiSPiiqq,false)],[I,I,.bool],true,F_q30q N⟩:=
  have E:Env Tryz.prog Γ_q30q:=env_of tab ⟨C_impl_netOf,⟨C_q60q,⟨C_q29q,trivial⟩⟩⟩
  con_of (body:=bodyOf Tryz.f26) (Pc:=[]) E rfl mixed Tryz.func26 (by kernel_rfl) (by kernel_rfl) (by kernel_rfl) (by kernel_rfl) (fun A hA=>trivial) (fun _=>by kernel_rfl)
theorem C_q30q:Contract Tryz.prog 26 S_q30q:=C_q30q_raw 0
theorem C_q75q_raw (N:Nat):Contract Tryz.prog 117 ⟨[(K_PiSPiiqq,false)],[.bool],true,F_q75q N⟩:=
  have E:Env Tryz.prog Γ_q75q:=env_of tab ⟨C_q79q,trivial⟩
  con_of (body:=bodyOf Tryz.f117) (Pc:=[]) E rfl mixed Tryz.func117 (by kernel_rfl) (by kernel_rfl) (by kernel_rfl) (by kernel_rfl) (fun A hA=>trivial) (fun _=>by kernel_rfl)
theorem C_q75q:Contract Tryz.prog 117 S_q75q:=C_q75q_raw 0
theorem C_q63q_raw (N:Nat):Contract Tryz.prog 118 ⟨[(K_SSi,false),(I,false)],[I],true,F_q63q N⟩:=
  have E:Env Tryz.prog Γ_q63q:=env_of tab ⟨C_q77q,trivial⟩
  con_of (body:=bodyOf Tryz.f118) (Pc:=[(0,⟨q63q_l0_h,q63q_l0_o,q63q_l0 N N⟩)]) E rfl mixed Tryz.func118 (by kernel_rfl) (by kernel_rfl) (by kernel_rfl) (by kernel_rfl) (fun A hA=>⟨pc_of (body:=loopOf Tryz.f118 0) (inner:=[]) E mixed hA (by kernel_rfl) (by kernel_rfl) (by kernel_rfl) trivial (fun _=>rfl) (fun _ _=>by kernel_rfl) N,trivial⟩) (fun _=>by kernel_rfl)
theorem C_q63q:Contract Tryz.prog 118 S_q63q:=Contract.less (fun N:Nat=>F_q63q N) C_q63q_raw l3Start_lim
theorem C_q27q_raw (N:Nat):Contract Tryz.prog 27 ⟨[(K_PiSPiiqq,false)],[I,I,.bool],true,F_q27q N⟩:=
  have E:Env Tryz.prog Γ_q27q:=env_of tab ⟨C_q58q,⟨C_q75q,⟨C_q63q,trivial⟩⟩⟩
  con_of (body:=bodyOf Tryz.f27) (Pc:=[(0,⟨q27q_l0_h,q27q_l0_o,q27q_l0 N N⟩)]) E rfl mixed Tryz.func27 (by kernel_rfl) (by kernel_rfl) (by kernel_rfl) (by kernel_rfl) (fun A hA=>⟨pc_of (body:=loopOf Tryz.f27 0) (inner:=[]) E mixed hA (by kernel_rfl) (by kernel_rfl) (by kernel_rfl) trivial (fun _=>rfl) (fun _ _=>by kernel_rfl) N,trivial⟩) (fun _=>by kernel_rfl)
theorem C_q27q:Contract Tryz.prog 27 S_q27q:=Contract.less (fun N:Nat=>F_q27q N) C_q27q_raw specCapOne_lim
theorem C_q73q_raw (N:Nat):Contract Tryz.prog 28 ⟨[(K_SPiiq,false),(K_SPiiq,false)],[.bool],true,F_q73q N⟩:=
  have E:Env Tryz.prog Γ_q73q:=env_ofG tab trivial trivial (fun _ h=>by cases h) trivial (by kernel_rfl)
  con_of (body:=bodyOf Tryz.f28) (Pc:=[(0,⟨q73q_l0_h,q73q_l0_o,q73q_l0 N N⟩)]) E rfl mixed Tryz.func28 (by kernel_rfl) (by kernel_rfl) (by kernel_rfl) (by kernel_rfl) (fun A hA=>⟨pc_of (body:=loopOf Tryz.f28 0) (inner:=[]) E mixed hA (by kernel_rfl) (by kernel_rfl) (by kernel_rfl) trivial (fun _=>rfl) (fun _ _=>by kernel_rfl) N,trivial⟩) (fun _=>by kernel_rfl)
theorem C_q73q:Contract Tryz.prog 28 S_q73q:=Contract.less (fun N:Nat=>F_q73q N) C_q73q_raw vPairs_lim
theorem C_laws_vInts_raw (N:Nat):Contract Tryz.prog 32 ⟨[(K_Si,false),(K_Si,false)],[.bool],true,F_laws_vInts N⟩:=
  have E:Env Tryz.prog Γ_laws_vInts:=env_of tab trivial
  con_of (body:=bodyOf Tryz.f32) (Pc:=[(0,⟨laws_vInts_l0_h,laws_vInts_l0_o,laws_vInts_l0 N N⟩)]) E rfl mixed Tryz.func32 (by kernel_rfl) (by kernel_rfl) (by kernel_rfl) (by kernel_rfl) (fun A hA=>⟨pc_of (body:=loopOf Tryz.f32 0) (inner:=[]) E mixed hA (by kernel_rfl) (by kernel_rfl) (by kernel_rfl) trivial (fun _=>rfl) (fun _ _=>by kernel_rfl) N,trivial⟩) (fun _=>by kernel_rfl)
theorem C_laws_vInts:Contract Tryz.prog 32 S_laws_vInts:=Contract.less (fun N:Nat=>F_laws_vInts N) C_laws_vInts_raw vInts_lim
theorem C_q82q_raw (N:Nat):Contract Tryz.prog 29 ⟨[(K_SSi,false),(K_SSi,false)],[.bool],true,F_q82q N⟩:=
  have E:Env Tryz.prog Γ_q82q:=env_of tab ⟨C_laws_vInts,trivial⟩
  con_of (body:=bodyOf Tryz.f29) (Pc:=[(0,⟨q82q_l0_h,q82q_l0_o,q82q_l0 N N⟩)]) E rfl mixed Tryz.func29 (by kernel_rfl) (by kernel_rfl) (by kernel_rfl) (by kernel_rfl) (fun A hA=>⟨pc_of (body:=loopOf Tryz.f29 0) (inner:=[]) E mixed hA (by kernel_rfl) (by kernel_rfl) (by kernel_rfl) trivial (fun _=>rfl) (fun _ _=>by kernel_rfl) N,trivial⟩) (fun _=>by kernel_rfl)
theorem C_q82q:Contract Tryz.prog 29 S_q82q:=Contract.less (fun N:Nat=>F_q82q N) C_q82q_raw vTable_lim
theorem C_q48q_raw (N:Nat):Contract Tryz.prog 94 ⟨[(K_PiSPiiqq,false),(I,false)],[.bool],true,F_q48q N⟩:=
  have E:Env Tryz.prog Γ_q48q:=env_of tab ⟨C_q60q,⟨C_q74q,trivial⟩⟩
  con_of (body:=bodyOf Tryz.f94) (Pc:=[]) E rfl mixed Tryz.func94 (by kernel_rfl) (by kernel_rfl) (by kernel_rfl) (by kernel_rfl) (fun A hA=>trivial) (fun _=>by kernel_rfl)
theorem C_q48q:Contract Tryz.prog 94 S_q48q:=C_q48q_raw 0
theorem C_q11q_raw (N:Nat):Contract Tryz.prog 146 ⟨[(K_Si,false)],[K_Si],true,F_q11q N⟩:=
  have E:Env Tryz.prog Γ_q11q:=env_of tab trivial
  con_of (body:=bodyOf Tryz.f146) (Pc:=[]) E rfl mixed Tryz.func146 (by kernel_rfl) (by kernel_rfl) (by kernel_rfl) (by kernel_rfl) (fun A hA=>trivial) (fun _=>by kernel_rfl)
theorem C_q11q:Contract Tryz.prog 146 S_q11q:=Contract.less (fun N:Nat=>F_q11q N) C_q11q_raw cloneI_lim
theorem C_q57q_raw (N:Nat):Contract Tryz.prog 158 ⟨[(I,false),(I,false)],[K_SSi],true,F_q57q N⟩:=
  have E:Env Tryz.prog Γ_q57q:=env_ofV tab ⟨C_q11q,trivial⟩ trivial (fun _ h=>by cases h)
  con_of (body:=bodyOf Tryz.f158) (Pc:=[(0,⟨q57q_l0_h,q57q_l0_o,q57q_l0 N N⟩)]) E rfl mixed Tryz.func158 (by kernel_rfl) (by kernel_rfl) (by kernel_rfl) (by kernel_rfl) (fun A hA=>⟨pc_of (body:=loopOf Tryz.f158 0) (inner:=[(2,⟨q57q_l2_h,q57q_l2_o,q57q_l2 N N⟩)]) E mixed hA (by kernel_rfl) (by kernel_rfl) (by kernel_rfl) ⟨pc_of (body:=loopOf Tryz.f158 2) (inner:=[(4,⟨q57q_l4_h,q57q_l4_o,q57q_l4 N N⟩)]) E mixed hA (by kernel_rfl) (by kernel_rfl) (by kernel_rfl) ⟨pc_of (body:=loopOf Tryz.f158 4) (inner:=[]) E mixed hA (by kernel_rfl) (by kernel_rfl) (by kernel_rfl) trivial (fun _=>rfl) (fun _ _=>by kernel_rfl) N,trivial⟩ (fun _=>rfl) (fun _ _=>by kernel_rfl) N,trivial⟩ (fun _=>rfl) (fun _ _=>by kernel_rfl) N,trivial⟩) (fun _=>by kernel_rfl)
theorem C_q57q:Contract Tryz.prog 158 S_q57q:=Contract.less (fun N:Nat=>F_q57q N) C_q57q_raw copLists_lim
theorem C_q1q:ContractG Tryz.prog 223 (S_q1q,{ gone:=[0],deep:=[] }):=con_compactF (enters_of Tryz.func223 (by kernel_rfl) rfl) (fun w v1 v2 xs ys h1 h2 l1 l2=>eqH h1 h2 l1 l2) compact74 compact74_small
theorem C_q21q_raw (N:Nat):Contract Tryz.prog 153 ⟨[(K_PSiq,false),(K_Si,false)],[K_SSi],true,F_q21q N⟩:=
  have E:Env Tryz.prog Γ_q21q:=env_ofG tab ⟨C_impl_setOf,⟨C_q40q,⟨C_q11q,⟨C_q13q,⟨C_q2q,trivial⟩⟩⟩⟩⟩ trivial (fun _ h=>by cases h) ⟨C_q1q,trivial⟩ (by kernel_rfl)
  con_of (body:=bodyOf Tryz.f153) (Pc:=[(0,⟨q21q_l0_h,q21q_l0_o,q21q_l0 N N⟩),(6,⟨q21q_l6_h,q21q_l6_o,q21q_l6 N N⟩)]) E rfl mixed Tryz.func153 (by kernel_rfl) (by kernel_rfl) (by kernel_rfl) (by kernel_rfl) (fun A hA=>⟨pc_of (body:=loopOf Tryz.f153 0) (inner:=[(2,⟨q21q_l2_h,q21q_l2_o,q21q_l2 N N⟩)]) E mixed hA (by kernel_rfl) (by kernel_rfl) (by kernel_rfl) ⟨pc_of (body:=loopOf Tryz.f153 2) (inner:=[(4,⟨q21q_l4_h,q21q_l4_o,q21q_l4 N N⟩)]) E mixed hA (by kernel_rfl) (by kernel_rfl) (by kernel_rfl) ⟨pc_of (body:=loopOf Tryz.f153 4) (inner:=[]) E mixed hA (by kernel_rfl) (by kernel_rfl) (by kernel_rfl) trivial (fun _=>rfl) (fun _ _=>by kernel_rfl) N,trivial⟩ (fun _=>rfl) (fun _ _=>by kernel_rfl) N,trivial⟩ (fun _=>rfl) (fun _ _=>by kernel_rfl) N,⟨pc_of (body:=loopOf Tryz.f153 6) (inner:=[]) E mixed hA (by kernel_rfl) (by kernel_rfl) (by kernel_rfl) trivial (fun _=>rfl) (fun _ _=>by kernel_rfl) N,trivial⟩⟩) (fun _=>by kernel_rfl)
theorem C_q21q:Contract Tryz.prog 153 S_q21q:=Contract.less (fun N:Nat=>F_q21q N) C_q21q_raw copMoves47_lim
theorem CV_q8q:ContractV Tryz.prog SV_q8q:=conV_0_2_0 C_q8q
theorem C_q0q_raw (N:Nat):Contract Tryz.prog 219 ⟨[(K_SSi,false),(K_Si,false),(K_F_q8q_qq,false)],[I,.bool],true,F_q0q N⟩:=
  have E:Env Tryz.prog Γ_q0q:=env_ofV tab trivial ⟨CV_q8q,trivial⟩ (fun _ h=>by cases h)
  con_of (body:=bodyOf Tryz.f219) (Pc:=[(0,⟨q0q_l0_h,q0q_l0_o,q0q_l0 N N⟩)]) E rfl mixed Tryz.func219 (by kernel_rfl) (by kernel_rfl) (by kernel_rfl) (by kernel_rfl) (fun A hA=>⟨pc_of (body:=loopOf Tryz.f219 0) (inner:=[]) E mixed hA (by kernel_rfl) (by kernel_rfl) (by kernel_rfl) trivial (fun _=>rfl) (fun _ _=>by kernel_rfl) N,trivial⟩) (fun _=>by kernel_rfl)
theorem C_q0q:Contract Tryz.prog 219 S_q0q:=Contract.less (fun N:Nat=>F_q0q N) C_q0q_raw binSearch_lim
theorem C_q18q_raw (N:Nat):Contract Tryz.prog 144 ⟨[(K_BPPZiqZSiSSiSSiq,false),(K_Si,false)],[I],true,F_q18q N⟩:=
  have E:Env Tryz.prog Γ_q18q:=env_of tab ⟨C_q0q,trivial⟩
  con_of (body:=bodyOf Tryz.f144) (Pc:=[]) E rfl mixed Tryz.func144 (by kernel_rfl) (by kernel_rfl) (by kernel_rfl) (by kernel_rfl) (fun A hA=>trivial) (fun _=>by kernel_rfl)
theorem C_q18q:Contract Tryz.prog 144 S_q18q:=C_q18q_raw 0
theorem C_q19q_raw (N:Nat):ContractG Tryz.prog 96 (⟨[(K_PSiq,false),(I,false)],[K_BPPZiqZSiSSiSSiq],true,F_q19q N⟩,md0):=
  have E:Env Tryz.prog Γ_q19q:=env_of tab ⟨C_q18q,⟨C_q21q,⟨C_q57q,⟨C_q55q,trivial⟩⟩⟩⟩
  con_ofG (body:=bodyOf Tryz.f96) (Pc:=[(0,⟨q19q_l0_h,q19q_l0_o,q19q_l0 N N⟩)]) E mixed Tryz.func96 (by kernel_rfl) (by kernel_rfl) (by kernel_rfl) (by kernel_rfl) (fun A hA=>⟨pc_of (body:=loopOf Tryz.f96 0) (inner:=[(2,⟨q19q_l2_h,q19q_l2_o,q19q_l2 N N⟩)]) E mixed hA (by kernel_rfl) (by kernel_rfl) (by kernel_rfl) ⟨pc_of (body:=loopOf Tryz.f96 2) (inner:=[]) E mixed hA (by kernel_rfl) (by kernel_rfl) (by kernel_rfl) trivial (fun _=>rfl) (fun _ _=>by kernel_rfl) N,trivial⟩ (fun _=>rfl) (fun _ _=>by kernel_rfl) N,trivial⟩) (fun _=>by kernel_rfl)
theorem C_q19q:ContractG Tryz.prog 96 (S_q19q,md0):=ContractG.less (fun N:Nat=>F_q19q N) C_q19q_raw copBoard_lim
theorem C_q17q_raw (N:Nat):Contract Tryz.prog 243 ⟨[(I,false),(K_BBPPZiqZSiSSiSSiq,false),(K_Bi,false)],[.bool],true,F_q17q N⟩:=
  have E:Env Tryz.prog Γ_q17q:=env_ofV tab ⟨C_q7q,⟨C_q16q,trivial⟩⟩ trivial (w1_of (by kernel_rfl))
  con_of (body:=bodyOf Tryz.f243) (Pc:=[]) E rfl mixed Tryz.func243 (by kernel_rfl) (by kernel_rfl) (by kernel_rfl) (by kernel_rfl) (fun A hA=>trivial) (fun _=>by kernel_rfl)
theorem C_q17q:Contract Tryz.prog 243 S_q17q:=C_q17q_raw 0
theorem CV_q17q:ContractV Tryz.prog SV_q17q:=conV_0_1_2 C_q17q
theorem C_q5q_raw (N:Nat):Contract Tryz.prog 248 ⟨[(K_Si,false),(K_F_q17q_qPBBPPZiqZSiSSiSSiqBiq,false)],[I],true,F_q5q N⟩:=
  have E:Env Tryz.prog Γ_q5q:=env_ofV tab trivial ⟨CV_q17q,trivial⟩ (fun _ h=>by cases h)
  con_of (body:=bodyOf Tryz.f248) (Pc:=[(0,⟨q5q_l0_h,q5q_l0_o,q5q_l0 N N⟩)]) E rfl mixed Tryz.func248 (by kernel_rfl) (by kernel_rfl) (by kernel_rfl) (by kernel_rfl) (fun A hA=>⟨pc_of (body:=loopOf Tryz.f248 0) (inner:=[]) E mixed hA (by kernel_rfl) (by kernel_rfl) (by kernel_rfl) trivial (fun _=>rfl) (fun _ _=>by kernel_rfl) N,trivial⟩) (fun _=>by kernel_rfl)
theorem C_q5q:Contract Tryz.prog 248 S_q5q:=Contract.less (fun N:Nat=>F_q5q N) C_q5q_raw gameCan_lim
theorem C_q3q_raw (N:Nat):Contract Tryz.prog 214 ⟨[(K_Si,false),(K_F_q17q_qPBBPPZiqZSiSSiSSiqBiq,false)],[.bool],true,F_q3q N⟩:=
  have E:Env Tryz.prog Γ_q3q:=env_of tab ⟨C_q5q,trivial⟩
  con_of (body:=bodyOf Tryz.f214) (Pc:=[]) E rfl mixed Tryz.func214 (by kernel_rfl) (by kernel_rfl) (by kernel_rfl) (by kernel_rfl) (fun A hA=>trivial) (fun _=>by kernel_rfl)
theorem C_q3q:Contract Tryz.prog 214 S_q3q:=C_q3q_raw 0
theorem C_q33q_raw (N:Nat):Contract Tryz.prog 192 ⟨[(K_BPPZiqZSiSSiSSiq,false),(I,false),(I,false)],[.bool],true,F_q33q N⟩:=
  have E:Env Tryz.prog Γ_q33q:=env_ofV tab ⟨C_q3q,trivial⟩ trivial (w1_of (by kernel_rfl))
  con_of (body:=bodyOf Tryz.f192) (Pc:=[]) E rfl mixed Tryz.func192 (by kernel_rfl) (by kernel_rfl) (by kernel_rfl) (by kernel_rfl) (fun A hA=>trivial) (fun _=>by kernel_rfl)
theorem C_q33q:Contract Tryz.prog 192 S_q33q:=C_q33q_raw 0
theorem C_q36q_raw (N:Nat):ContractG Tryz.prog 103 (⟨[(K_PSiq,false),(I,false)],[K_BPPZiqZSiSSiSSiq],true,F_q36q N⟩,md0):=
  have E:Env Tryz.prog Γ_q36q:=env_ofG tab ⟨C_q55q,⟨C_q9q,⟨C_q33q,trivial⟩⟩⟩ trivial (fun _ h=>by cases h) ⟨C_q19q,trivial⟩ (by kernel_rfl)
  con_ofG (body:=bodyOf Tryz.f103) (Pc:=[(0,⟨q36q_l0_h,q36q_l0_o,q36q_l0 N N⟩),(4,⟨q36q_l4_h,q36q_l4_o,q36q_l4 N N⟩)]) E mixed Tryz.func103 (by kernel_rfl) (by kernel_rfl) (by kernel_rfl) (by kernel_rfl) (fun A hA=>⟨pc_of (body:=loopOf Tryz.f103 0) (inner:=[(2,⟨q36q_l2_h,q36q_l2_o,q36q_l2 N N⟩)]) E mixed hA (by kernel_rfl) (by kernel_rfl) (by kernel_rfl) ⟨pc_of (body:=loopOf Tryz.f103 2) (inner:=[]) E mixed hA (by kernel_rfl) (by kernel_rfl) (by kernel_rfl) trivial (fun _=>rfl) (fun _ _=>by kernel_rfl) N,trivial⟩ (fun _=>rfl) (fun _ _=>by kernel_rfl) N,⟨pc_of (body:=loopOf Tryz.f103 4) (inner:=[(6,⟨q36q_l6_h,q36q_l6_o,q36q_l6 N N⟩),(10,⟨q36q_l10_h,q36q_l10_o,q36q_l10 N N⟩)]) E mixed hA (by kernel_rfl) (by kernel_rfl) (by kernel_rfl) ⟨pc_of (body:=loopOf Tryz.f103 6) (inner:=[(8,⟨q36q_l8_h,q36q_l8_o,q36q_l8 N N⟩)]) E mixed hA (by kernel_rfl) (by kernel_rfl) (by kernel_rfl) ⟨pc_of (body:=loopOf Tryz.f103 8) (inner:=[]) E mixed hA (by kernel_rfl) (by kernel_rfl) (by kernel_rfl) trivial (fun _=>rfl) (fun _ _=>by kernel_rfl) N,trivial⟩ (fun _=>rfl) (fun _ _=>by kernel_rfl) N,⟨pc_of (body:=loopOf Tryz.f103 10) (inner:=[]) E mixed hA (by kernel_rfl) (by kernel_rfl) (by kernel_rfl) trivial (fun _=>rfl) (fun _ _=>by kernel_rfl) N,trivial⟩⟩ (fun _=>rfl) (fun _ _=>by kernel_rfl) N,trivial⟩⟩) (fun _=>by kernel_rfl)
theorem C_q36q:ContractG Tryz.prog 103 (S_q36q,md0):=ContractG.less (fun N:Nat=>F_q36q N) C_q36q_raw copGame_lim
theorem C_q22q_raw (N:Nat):Contract Tryz.prog 30 ⟨[(K_PiSPiiqq,false),(I,false)],[K_SSi,.bool],true,F_q22q N⟩:=
  have E:Env Tryz.prog Γ_q22q:=env_ofG tab ⟨C_q48q,⟨C_impl_netOf,trivial⟩⟩ trivial (fun _ h=>by cases h) ⟨C_q36q,trivial⟩ (by kernel_rfl)
  con_of (body:=bodyOf Tryz.f30) (Pc:=[]) E rfl mixed Tryz.func30 (by kernel_rfl) (by kernel_rfl) (by kernel_rfl) (by kernel_rfl) (fun A hA=>trivial) (fun _=>by kernel_rfl)
theorem C_q22q:Contract Tryz.prog 30 S_q22q:=C_q22q_raw 0
theorem C_q25q_raw (N:Nat):Contract Tryz.prog 104 ⟨[(K_BPPZiqZSiSSiSSiq,false)],[K_Si,I,.bool],true,F_q25q N⟩:=
  have E:Env Tryz.prog Γ_q25q:=env_of tab ⟨C_q7q,⟨C_q11q,⟨C_q14q,trivial⟩⟩⟩
  con_of (body:=bodyOf Tryz.f104) (Pc:=[(0,⟨q25q_l0_h,q25q_l0_o,q25q_l0 N N⟩)]) E rfl mixed Tryz.func104 (by kernel_rfl) (by kernel_rfl) (by kernel_rfl) (by kernel_rfl) (fun A hA=>⟨pc_of (body:=loopOf Tryz.f104 0) (inner:=[]) E mixed hA (by kernel_rfl) (by kernel_rfl) (by kernel_rfl) trivial (fun _=>rfl) (fun _ _=>by kernel_rfl) N,trivial⟩) (fun _=>by kernel_rfl)
theorem C_q25q:Contract Tryz.prog 104 S_q25q:=Contract.less (fun N:Nat=>F_q25q N) C_q25q_raw gameBest_lim
theorem C_q52q_raw (N:Nat):Contract Tryz.prog 31 ⟨[(K_PiSPiiqq,false),(I,false)],[K_Si,I,.bool],true,F_q52q N⟩:=
  have E:Env Tryz.prog Γ_q52q:=env_ofG tab ⟨C_q48q,⟨C_impl_netOf,⟨C_q25q,trivial⟩⟩⟩ trivial (fun _ h=>by cases h) ⟨C_q36q,trivial⟩ (by kernel_rfl)
  con_of (body:=bodyOf Tryz.f31) (Pc:=[]) E rfl mixed Tryz.func31 (by kernel_rfl) (by kernel_rfl) (by kernel_rfl) (by kernel_rfl) (fun A hA=>trivial) (fun _=>by kernel_rfl)
theorem C_q52q:Contract Tryz.prog 31 S_q52q:=C_q52q_raw 0
theorem C_laws_vMost_raw (N:Nat):Contract Tryz.prog 33 ⟨[(K_Si,false)],[I],true,F_laws_vMost N⟩:=
  have E:Env Tryz.prog Γ_laws_vMost:=env_of tab trivial
  con_of (body:=bodyOf Tryz.f33) (Pc:=[(0,⟨laws_vMost_l0_h,laws_vMost_l0_o,laws_vMost_l0 N N⟩)]) E rfl mixed Tryz.func33 (by kernel_rfl) (by kernel_rfl) (by kernel_rfl) (by kernel_rfl) (fun A hA=>⟨pc_of (body:=loopOf Tryz.f33 0) (inner:=[]) E mixed hA (by kernel_rfl) (by kernel_rfl) (by kernel_rfl) trivial (fun _=>rfl) (fun _ _=>by kernel_rfl) N,trivial⟩) (fun _=>by kernel_rfl)
theorem C_laws_vMost:Contract Tryz.prog 33 S_laws_vMost:=Contract.less (fun N:Nat=>F_laws_vMost N) C_laws_vMost_raw vMost_lim
theorem C_laws_vNear_raw (N:Nat):Contract Tryz.prog 34 ⟨[(K_PiSPiiqq,false),(I,false),(I,false)],[.bool],true,F_laws_vNear N⟩:=
  have E:Env Tryz.prog Γ_laws_vNear:=env_ofG tab trivial trivial (fun _ h=>by cases h) trivial (by kernel_rfl)
  con_of (body:=bodyOf Tryz.f34) (Pc:=[(0,⟨laws_vNear_l0_h,laws_vNear_l0_o,laws_vNear_l0 N N⟩)]) E rfl mixed Tryz.func34 (by kernel_rfl) (by kernel_rfl) (by kernel_rfl) (by kernel_rfl) (fun A hA=>⟨pc_of (body:=loopOf Tryz.f34 0) (inner:=[]) E mixed hA (by kernel_rfl) (by kernel_rfl) (by kernel_rfl) trivial (fun _=>rfl) (fun _ _=>by kernel_rfl) N,trivial⟩) (fun _=>by kernel_rfl)
theorem C_laws_vNear:Contract Tryz.prog 34 S_laws_vNear:=Contract.less (fun N:Nat=>F_laws_vNear N) C_laws_vNear_raw vNear_lim
theorem C_laws_FnOneCop_raw (N:Nat):Contract Tryz.prog 4 ⟨[(K_Su8,false)],[.bool],true,F_laws_FnOneCop N⟩:=
  have E:Env Tryz.prog Γ_laws_FnOneCop:=env_of tab ⟨C_laws_vBig,⟨C_q31q,⟨C_q62q,⟨C_q66q,⟨C_q43q,⟨C_q37q,⟨C_q64q,⟨C_q65q,⟨C_q54q,⟨C_q56q,⟨C_q30q,⟨C_q27q,⟨C_q73q,⟨C_q82q,⟨C_q22q,⟨C_q52q,⟨C_laws_vInts,⟨C_laws_vMost,⟨C_laws_vNear,trivial⟩⟩⟩⟩⟩⟩⟩⟩⟩⟩⟩⟩⟩⟩⟩⟩⟩⟩⟩
  con_of (body:=bodyOf Tryz.f4) (Pc:=[(0,⟨laws_FnOneCop_l0_h,laws_FnOneCop_l0_o,laws_FnOneCop_l0 N N⟩)]) E rfl mixed Tryz.func4 (by kernel_rfl) (by kernel_rfl) (by kernel_rfl) (by kernel_rfl) (fun A hA=>⟨pc_of (body:=loopOf Tryz.f4 0) (inner:=[]) E mixed hA (by kernel_rfl) (by kernel_rfl) (by kernel_rfl) trivial (fun _=>rfl) (fun _ _=>by kernel_rfl) N,trivial⟩) (fun _=>by kernel_rfl)
theorem C_laws_FnOneCop:Contract Tryz.prog 4 S_laws_FnOneCop:=Contract.less (fun N:Nat=>F_laws_FnOneCop N) C_laws_FnOneCop_raw lawOne_lim
end Go.V.W
