/- What the law FnTimedGame leans on, part 9: an interpreter of the model as plain data, its soundness, the functions as it tells them, and their laws. -/
import Derived.Shelf.Lays
import Derived.Shelf.LaysM
import Derived.Shelf.SortM.Plain
import Derived.Shelf.SortM.SortNone
import Derived.Shelf.SlSortCmp.NoneTotal
import Derived.Test.YtnieoolfkakmdaaGreatVH
set_option linter.unusedVariables false
set_option linter.unusedSimpArgs false
set_option maxRecDepth 100000
noncomputable section
namespace Go.V.W
open Go.Proofs Go.Shelf Go.RowKit
-- import Derived.Shelf.Lays
-- import Derived.Shelf.LaysM
-- import Derived.Test.XvLib3
-- import Derived.Shelf.SortM.Plain
-- import Derived.Shelf.SortM.SortNone
-- import Derived.Shelf.SlSortCmp.NoneTotal
def Aiu:Go.Shelf.Ren:=
{
  f:=fun x=>
    match x with
    | 5=>221
    | 8=>252
    | 7=>251
    | 19=>268
    | 20=>269
    | 10=>260
    | 11=>261
    | 12=>262
    | 13=>263
    | 14=>264
    | 15=>265
    | 16=>250
    | 17=>266
    | 18=>267
    | 30=>280
    | 31=>281
    | 32=>282
    | 33=>283
    | 34=>284
    | 35=>258
    | 40=>288
    | n=>n,
  t:=fun x=>
    match x with
    | 23=>36
    | 25=>3
    | 3=>3
    | 32=>192
    | 22=>36
    | 0=>0
    | 44=>199
    | 46=>94
    | 4=>4
    | 36=>206
    | 35=>205
    | 41=>39
    | 5=>5
    | 9=>9
    | 53=>222
    | 57=>226
    | 63=>230
    | 64=>231
    | n=>n,
  g:=fun x=>
    x }
set_option maxRecDepth 1000000 in
theorem Az3:Go.Proofs.SlLaysM.n5 Go.Proofs.Tryz.prog Aiu:=
{ mixed:=by kernel_rfl,
  f5:=⟨Go.Proofs.Tryz.f221.name,of_decide_eq_true (by kernel_rfl),(Go.Proofs.Tryz.func221).trans (congrArg some (by kernel_rfl))⟩,
  f7:=⟨Go.Proofs.Tryz.f251.name,of_decide_eq_true (by kernel_rfl),(Go.Proofs.Tryz.func251).trans (congrArg some (by kernel_rfl))⟩,
  f8:=(Go.Proofs.Tryz.func252).trans (congrArg some (by kernel_rfl)),
  f10:=⟨Go.Proofs.Tryz.f260.name,of_decide_eq_true (by kernel_rfl),(Go.Proofs.Tryz.func260).trans (congrArg some (by kernel_rfl))⟩,
  f11:=⟨Go.Proofs.Tryz.f261.name,of_decide_eq_true (by kernel_rfl),(Go.Proofs.Tryz.func261).trans (congrArg some (by kernel_rfl))⟩,
  f12:=⟨Go.Proofs.Tryz.f262.name,of_decide_eq_true (by kernel_rfl),(Go.Proofs.Tryz.func262).trans (congrArg some (by kernel_rfl))⟩,
  f13:=⟨Go.Proofs.Tryz.f263.name,of_decide_eq_true (by kernel_rfl),(Go.Proofs.Tryz.func263).trans (congrArg some (by kernel_rfl))⟩,
  f14:=⟨Go.Proofs.Tryz.f264.name,of_decide_eq_true (by kernel_rfl),(Go.Proofs.Tryz.func264).trans (congrArg some (by kernel_rfl))⟩,
  f15:=⟨Go.Proofs.Tryz.f265.name,of_decide_eq_true (by kernel_rfl),(Go.Proofs.Tryz.func265).trans (congrArg some (by kernel_rfl))⟩,
  f16:=⟨Go.Proofs.Tryz.f250.name,of_decide_eq_true (by kernel_rfl),(Go.Proofs.Tryz.func250).trans (congrArg some (by kernel_rfl))⟩,
  f17:=⟨Go.Proofs.Tryz.f266.name,of_decide_eq_true (by kernel_rfl),(Go.Proofs.Tryz.func266).trans (congrArg some (by kernel_rfl))⟩,
  f18:=⟨Go.Proofs.Tryz.f267.name,of_decide_eq_true (by kernel_rfl),(Go.Proofs.Tryz.func267).trans (congrArg some (by kernel_rfl))⟩,
  f19:=(Go.Proofs.Tryz.func268).trans (congrArg some (by kernel_rfl)),
  f20:=(Go.Proofs.Tryz.func269).trans (congrArg some (by kernel_rfl)),
  f30:=⟨Go.Proofs.Tryz.f280.name,of_decide_eq_true (by kernel_rfl),(Go.Proofs.Tryz.func280).trans (congrArg some (by kernel_rfl))⟩,
  f31:=(Go.Proofs.Tryz.func281).trans (congrArg some (by kernel_rfl)),
  f32:=(Go.Proofs.Tryz.func282).trans (congrArg some (by kernel_rfl)),
  f33:=⟨Go.Proofs.Tryz.f283.name,of_decide_eq_true (by kernel_rfl),(Go.Proofs.Tryz.func283).trans (congrArg some (by kernel_rfl))⟩,
  f34:=⟨Go.Proofs.Tryz.f284.name,of_decide_eq_true (by kernel_rfl),(Go.Proofs.Tryz.func284).trans (congrArg some (by kernel_rfl))⟩,
  f35:=⟨Go.Proofs.Tryz.f258.name,of_decide_eq_true (by kernel_rfl),(Go.Proofs.Tryz.func258).trans (congrArg some (by kernel_rfl))⟩,
  f40:=⟨Go.Proofs.Tryz.f288.name,of_decide_eq_true (by kernel_rfl),(Go.Proofs.Tryz.func288).trans (congrArg some (by kernel_rfl))⟩,
  t0:=Go.Proofs.Tryz.underlying0,
  a0:=Go.Proofs.Tryz.isAgg0,
  z0:=Go.Proofs.Tryz.sizeOf0,
  v0:=Go.Proofs.Tryz.zeroValue0,
  t3:=Go.Proofs.Tryz.underlying3,
  a3:=Go.Proofs.Tryz.isAgg3,
  z3:=Go.Proofs.Tryz.sizeOf3,
  v3:=Go.Proofs.Tryz.zeroValue3,
  t4:=Go.Proofs.Tryz.underlying4,
  a4:=Go.Proofs.Tryz.isAgg4,
  z4:=Go.Proofs.Tryz.sizeOf4,
  v4:=Go.Proofs.Tryz.zeroValue4,
  t5:=Go.Proofs.Tryz.underlying5,
  a5:=Go.Proofs.Tryz.isAgg5,
  z5:=Go.Proofs.Tryz.sizeOf5,
  v5:=Go.Proofs.Tryz.zeroValue5,
  t9:=Go.Proofs.Tryz.underlying9,
  a9:=Go.Proofs.Tryz.isAgg9,
  z9:=Go.Proofs.Tryz.sizeOf9,
  v9:=Go.Proofs.Tryz.zeroValue9,
  t22:=Go.Proofs.Tryz.underlying36,
  a22:=Go.Proofs.Tryz.isAgg36,
  z22:=Go.Proofs.Tryz.sizeOf36,
  v22:=Go.Proofs.Tryz.zeroValue36,
  t23:=Go.Proofs.Tryz.underlying36,
  a23:=Go.Proofs.Tryz.isAgg36,
  z23:=Go.Proofs.Tryz.sizeOf36,
  v23:=Go.Proofs.Tryz.zeroValue36,
  t25:=Go.Proofs.Tryz.underlying3,
  a25:=Go.Proofs.Tryz.isAgg3,
  z25:=Go.Proofs.Tryz.sizeOf3,
  v25:=Go.Proofs.Tryz.zeroValue3,
  t32:=Go.Proofs.Tryz.underlying192,
  a32:=Go.Proofs.Tryz.isAgg192,
  z32:=Go.Proofs.Tryz.sizeOf192,
  v32:=Go.Proofs.Tryz.zeroValue192,
  t35:=Go.Proofs.Tryz.underlying205,
  a35:=Go.Proofs.Tryz.isAgg205,
  z35:=Go.Proofs.Tryz.sizeOf205,
  v35:=Go.Proofs.Tryz.zeroValue205,
  t36:=Go.Proofs.Tryz.underlying206,
  a36:=Go.Proofs.Tryz.isAgg206,
  z36:=Go.Proofs.Tryz.sizeOf206,
  v36:=Go.Proofs.Tryz.zeroValue206,
  t41:=Go.Proofs.Tryz.underlying39,
  a41:=Go.Proofs.Tryz.isAgg39,
  z41:=Go.Proofs.Tryz.sizeOf39,
  v41:=Go.Proofs.Tryz.zeroValue39,
  t44:=Go.Proofs.Tryz.underlying199,
  a44:=Go.Proofs.Tryz.isAgg199,
  z44:=Go.Proofs.Tryz.sizeOf199,
  v44:=Go.Proofs.Tryz.zeroValue199,
  t46:=Go.Proofs.Tryz.underlying94,
  a46:=Go.Proofs.Tryz.isAgg94,
  z46:=Go.Proofs.Tryz.sizeOf94,
  v46:=Go.Proofs.Tryz.zeroValue94,
  t53:=Go.Proofs.Tryz.underlying222,
  a53:=Go.Proofs.Tryz.isAgg222,
  z53:=Go.Proofs.Tryz.sizeOf222,
  v53:=Go.Proofs.Tryz.zeroValue222,
  t57:=Go.Proofs.Tryz.underlying226,
  a57:=Go.Proofs.Tryz.isAgg226,
  z57:=Go.Proofs.Tryz.sizeOf226,
  v57:=Go.Proofs.Tryz.zeroValue226,
  t63:=Go.Proofs.Tryz.underlying230,
  a63:=Go.Proofs.Tryz.isAgg230,
  z63:=Go.Proofs.Tryz.sizeOf230,
  v63:=Go.Proofs.Tryz.zeroValue230,
  t64:=Go.Proofs.Tryz.underlying231,
  a64:=Go.Proofs.Tryz.isAgg231,
  z64:=Go.Proofs.Tryz.sizeOf231,
  v64:=Go.Proofs.Tryz.zeroValue231 }
def Ao9:Go.Shelf.Ren:=
{
  f:=fun x=>
    match x with
    | 6=>222
    | 15=>252
    | 14=>253
    | 28=>268
    | 29=>269
    | 20=>270
    | 21=>271
    | 22=>272
    | 23=>273
    | 24=>274
    | 25=>275
    | 26=>276
    | 27=>277
    | 46=>285
    | 47=>281
    | 48=>282
    | 49=>286
    | 50=>287
    | 57=>289
    | n=>n,
  t:=fun x=>
    match x with
    | 22=>27
    | 24=>36
    | 25=>167
    | 3=>3
    | 39=>192
    | 0=>0
    | 53=>199
    | 55=>94
    | 4=>4
    | 46=>206
    | 45=>205
    | 50=>39
    | 5=>5
    | 9=>9
    | 66=>222
    | 70=>226
    | 76=>230
    | 77=>231
    | n=>n,
  g:=fun x=>
    x }
set_option maxRecDepth 1000000 in
theorem Azl:Go.Proofs.SlLaysF.n6 Go.Proofs.Tryz.prog Ao9:=
{ mixed:=by kernel_rfl,
  f6:=⟨Go.Proofs.Tryz.f222.name,of_decide_eq_true (by kernel_rfl),(Go.Proofs.Tryz.func222).trans (congrArg some (by kernel_rfl))⟩,
  f14:=⟨Go.Proofs.Tryz.f253.name,of_decide_eq_true (by kernel_rfl),(Go.Proofs.Tryz.func253).trans (congrArg some (by kernel_rfl))⟩,
  f15:=(Go.Proofs.Tryz.func252).trans (congrArg some (by kernel_rfl)),
  f20:=⟨Go.Proofs.Tryz.f270.name,of_decide_eq_true (by kernel_rfl),(Go.Proofs.Tryz.func270).trans (congrArg some (by kernel_rfl))⟩,
  f21:=⟨Go.Proofs.Tryz.f271.name,of_decide_eq_true (by kernel_rfl),(Go.Proofs.Tryz.func271).trans (congrArg some (by kernel_rfl))⟩,
  f22:=⟨Go.Proofs.Tryz.f272.name,of_decide_eq_true (by kernel_rfl),(Go.Proofs.Tryz.func272).trans (congrArg some (by kernel_rfl))⟩,
  f23:=⟨Go.Proofs.Tryz.f273.name,of_decide_eq_true (by kernel_rfl),(Go.Proofs.Tryz.func273).trans (congrArg some (by kernel_rfl))⟩,
  f24:=⟨Go.Proofs.Tryz.f274.name,of_decide_eq_true (by kernel_rfl),(Go.Proofs.Tryz.func274).trans (congrArg some (by kernel_rfl))⟩,
  f25:=⟨Go.Proofs.Tryz.f275.name,of_decide_eq_true (by kernel_rfl),(Go.Proofs.Tryz.func275).trans (congrArg some (by kernel_rfl))⟩,
  f26:=⟨Go.Proofs.Tryz.f276.name,of_decide_eq_true (by kernel_rfl),(Go.Proofs.Tryz.func276).trans (congrArg some (by kernel_rfl))⟩,
  f27:=⟨Go.Proofs.Tryz.f277.name,of_decide_eq_true (by kernel_rfl),(Go.Proofs.Tryz.func277).trans (congrArg some (by kernel_rfl))⟩,
  f28:=(Go.Proofs.Tryz.func268).trans (congrArg some (by kernel_rfl)),
  f29:=(Go.Proofs.Tryz.func269).trans (congrArg some (by kernel_rfl)),
  f46:=⟨Go.Proofs.Tryz.f285.name,of_decide_eq_true (by kernel_rfl),(Go.Proofs.Tryz.func285).trans (congrArg some (by kernel_rfl))⟩,
  f47:=(Go.Proofs.Tryz.func281).trans (congrArg some (by kernel_rfl)),
  f48:=(Go.Proofs.Tryz.func282).trans (congrArg some (by kernel_rfl)),
  f49:=⟨Go.Proofs.Tryz.f286.name,of_decide_eq_true (by kernel_rfl),(Go.Proofs.Tryz.func286).trans (congrArg some (by kernel_rfl))⟩,
  f50:=⟨Go.Proofs.Tryz.f287.name,of_decide_eq_true (by kernel_rfl),(Go.Proofs.Tryz.func287).trans (congrArg some (by kernel_rfl))⟩,
  f57:=⟨Go.Proofs.Tryz.f289.name,of_decide_eq_true (by kernel_rfl),(Go.Proofs.Tryz.func289).trans (congrArg some (by kernel_rfl))⟩,
  t0:=Go.Proofs.Tryz.underlying0,
  a0:=Go.Proofs.Tryz.isAgg0,
  z0:=Go.Proofs.Tryz.sizeOf0,
  v0:=Go.Proofs.Tryz.zeroValue0,
  t3:=Go.Proofs.Tryz.underlying3,
  a3:=Go.Proofs.Tryz.isAgg3,
  z3:=Go.Proofs.Tryz.sizeOf3,
  v3:=Go.Proofs.Tryz.zeroValue3,
  t4:=Go.Proofs.Tryz.underlying4,
  a4:=Go.Proofs.Tryz.isAgg4,
  z4:=Go.Proofs.Tryz.sizeOf4,
  v4:=Go.Proofs.Tryz.zeroValue4,
  t5:=Go.Proofs.Tryz.underlying5,
  a5:=Go.Proofs.Tryz.isAgg5,
  z5:=Go.Proofs.Tryz.sizeOf5,
  v5:=Go.Proofs.Tryz.zeroValue5,
  t9:=Go.Proofs.Tryz.underlying9,
  a9:=Go.Proofs.Tryz.isAgg9,
  z9:=Go.Proofs.Tryz.sizeOf9,
  v9:=Go.Proofs.Tryz.zeroValue9,
  t22:=Go.Proofs.Tryz.underlying27,
  a22:=Go.Proofs.Tryz.isAgg27,
  z22:=Go.Proofs.Tryz.sizeOf27,
  v22:=Go.Proofs.Tryz.zeroValue27,
  a24:=Go.Proofs.Tryz.isAgg36,
  z24:=Go.Proofs.Tryz.sizeOf36,
  t25:=Go.Proofs.Tryz.underlying167,
  a25:=Go.Proofs.Tryz.isAgg167,
  z25:=Go.Proofs.Tryz.sizeOf167,
  v25:=Go.Proofs.Tryz.zeroValue167,
  t39:=Go.Proofs.Tryz.underlying192,
  a39:=Go.Proofs.Tryz.isAgg192,
  z39:=Go.Proofs.Tryz.sizeOf192,
  v39:=Go.Proofs.Tryz.zeroValue192,
  t45:=Go.Proofs.Tryz.underlying205,
  a45:=Go.Proofs.Tryz.isAgg205,
  z45:=Go.Proofs.Tryz.sizeOf205,
  v45:=Go.Proofs.Tryz.zeroValue205,
  t46:=Go.Proofs.Tryz.underlying206,
  a46:=Go.Proofs.Tryz.isAgg206,
  z46:=Go.Proofs.Tryz.sizeOf206,
  v46:=Go.Proofs.Tryz.zeroValue206,
  t50:=Go.Proofs.Tryz.underlying39,
  a50:=Go.Proofs.Tryz.isAgg39,
  z50:=Go.Proofs.Tryz.sizeOf39,
  v50:=Go.Proofs.Tryz.zeroValue39,
  t53:=Go.Proofs.Tryz.underlying199,
  a53:=Go.Proofs.Tryz.isAgg199,
  z53:=Go.Proofs.Tryz.sizeOf199,
  v53:=Go.Proofs.Tryz.zeroValue199,
  t55:=Go.Proofs.Tryz.underlying94,
  a55:=Go.Proofs.Tryz.isAgg94,
  z55:=Go.Proofs.Tryz.sizeOf94,
  v55:=Go.Proofs.Tryz.zeroValue94,
  t66:=Go.Proofs.Tryz.underlying222,
  a66:=Go.Proofs.Tryz.isAgg222,
  z66:=Go.Proofs.Tryz.sizeOf222,
  v66:=Go.Proofs.Tryz.zeroValue222,
  t70:=Go.Proofs.Tryz.underlying226,
  a70:=Go.Proofs.Tryz.isAgg226,
  z70:=Go.Proofs.Tryz.sizeOf226,
  v70:=Go.Proofs.Tryz.zeroValue226,
  t76:=Go.Proofs.Tryz.underlying230,
  a76:=Go.Proofs.Tryz.isAgg230,
  z76:=Go.Proofs.Tryz.sizeOf230,
  v76:=Go.Proofs.Tryz.zeroValue230,
  t77:=Go.Proofs.Tryz.underlying231,
  a77:=Go.Proofs.Tryz.isAgg231,
  z77:=Go.Proofs.Tryz.sizeOf231,
  v77:=Go.Proofs.Tryz.zeroValue231 }
theorem tab:Cf Tryz.prog (Ac tks) (Ac ars):=Apx (by kernel_rfl)
theorem mixed:Tryz.prog.follows .mixedOrders=true:=by kernel_rfl
theorem AE8:Aa Tryz.prog 222 Azx:=
  Al5 (enters_of Tryz.func222 (by kernel_rfl) rfl) (fun w v1 v2 xs ys h1 h2 l1 l2=>AF4 h1 h2 l1 l2) (fun n enc cf blk off cap w h1 hO hcmp hH hb hs=>Any.slices_SortFunc Azl enc h1 cf hO 199 #[] blk off cap (idA n) w (enters_of Tryz.func199 (by kernel_rfl) rfl) hcmp hH hb hs) (AnyF.slices_SortFunc_none { Azl with })
theorem AC6:Aa Tryz.prog 221 Asm:=
  An4 (enters_of Tryz.func221 (by kernel_rfl) rfl) (fun blk off cap zs w h1 h2 h3=>AnyM.slices_Sort_int Az3 blk off cap zs w h1 h2 h3) (fun p cap w=>AnyM.slices_Sort_int_none Az3 p cap w)
theorem Ru (N:Nat):Aa Tryz.prog 9 ⟨[(K_Su8,false)],[.bool],true,Hc N⟩:=
  have E:Env Tryz.prog Xc:=Av tab trivial
  Ar (body:=Ap Tryz.f9) (Pc:=[]) E rfl mixed Tryz.func9 (by kernel_rfl) (by kernel_rfl) (by kernel_rfl) (by kernel_rfl) (fun A hA=>trivial) (fun _=>by kernel_rfl)
theorem ZT:Aa Tryz.prog 9 Q4:=Aa.less (fun N:Nat=>Hc N) Ru (fun d r h=>⟨0,(RE 0 d).trans h⟩)
theorem Afc (N:Nat):Aa Tryz.prog 187 ⟨[(AY,true)],[I],true,OH N⟩:=
  have E:Env Tryz.prog Axq:=Av tab trivial
  Ar (body:=Ap Tryz.f187) (Pc:=[]) E rfl mixed Tryz.func187 (by kernel_rfl) (by kernel_rfl) (by kernel_rfl) (by kernel_rfl) (fun A hA=>trivial) (fun _=>by kernel_rfl)
theorem ABt:Aa Tryz.prog 187 As1:=Afc 0
theorem Ae9 (N:Nat):Aa Tryz.prog 91 ⟨[(AY,true),(I,false)],[I],true,BU N⟩:=
  have E:Env Tryz.prog Axk:=Av tab ⟨ABt,trivial⟩
  Ar (body:=Ap Tryz.f91) (Pc:=[]) E rfl mixed Tryz.func91 (by kernel_rfl) (by kernel_rfl) (by kernel_rfl) (by kernel_rfl) (fun A hA=>trivial) (fun _=>by kernel_rfl)
theorem L2:Aa Tryz.prog 91 JL:=Ae9 0
theorem Ae1 (N:Nat):Aa Tryz.prog 133 ⟨[(AY,true),(Ai,false)],[I],true,CA N⟩:=
  have E:Env Tryz.prog Awj:=Av tab ⟨L2,trivial⟩
  Ar (body:=Ap Tryz.f133) (Pc:=[]) E rfl mixed Tryz.func133 (by kernel_rfl) (by kernel_rfl) (by kernel_rfl) (by kernel_rfl) (fun A hA=>trivial) (fun _=>by kernel_rfl)
theorem Ov:Aa Tryz.prog 133 Mz:=Ae1 0
theorem Afr (N:Nat):Aa Tryz.prog 89 ⟨[(AY,true),(I,false)],[.bool],true,F2 N⟩:=
  have E:Env Tryz.prog Aza:=Av tab ⟨L2,trivial⟩
  Ar (body:=Ap Tryz.f89) (Pc:=[]) E rfl mixed Tryz.func89 (by kernel_rfl) (by kernel_rfl) (by kernel_rfl) (by kernel_rfl) (fun A hA=>trivial) (fun _=>by kernel_rfl)
theorem Afy:Aa Tryz.prog 89 VG:=Afr 0
theorem Ac6 (N:Nat):Aa Tryz.prog 238 ⟨[(I,false),(I,false)],[I],true,XL N⟩:=
  have E:Env Tryz.prog Aw7:=Av tab trivial
  Ar (body:=Ap Tryz.f238) (Pc:=[]) E rfl mixed Tryz.func238 (by kernel_rfl) (by kernel_rfl) (by kernel_rfl) (by kernel_rfl) (fun A hA=>trivial) (fun _=>by kernel_rfl)
theorem ACr:Aa Tryz.prog 238 Apn:=Aa.less (fun N:Nat=>XL N) Ac6 (fun d r h=>⟨0,(Aba 0 d).trans h⟩)
theorem Zu (N:Nat):Aa Tryz.prog 185 ⟨[(I,false)],[Aj],true,Fs N⟩:=
  have E:Env Tryz.prog Aru:=Av tab trivial
  Ar (body:=Ap Tryz.f185) (Pc:=[(0,⟨Adf,Aey,Nl N N⟩)]) E rfl mixed Tryz.func185 (by kernel_rfl) (by kernel_rfl) (by kernel_rfl) (by kernel_rfl) (fun A hA=>⟨AI (body:=At Tryz.f185 0) (inner:=[]) E mixed hA (by kernel_rfl) (by kernel_rfl) (by kernel_rfl) trivial (fun _=>rfl) (fun _ _=>by kernel_rfl) N,trivial⟩) (fun _=>by kernel_rfl)
theorem Ah7:Aa Tryz.prog 185 Xu:=Aa.less (fun N:Nat=>Fs N) Zu K1
theorem Ac3 (N:Nat):Aa Tryz.prog 200 ⟨[(Am,false),(Am,false)],[.bool],true,We N⟩:=
  have E:Env Tryz.prog Awg:=Av tab trivial
  Ar (body:=Ap Tryz.f200) (Pc:=[]) E rfl mixed Tryz.func200 (by kernel_rfl) (by kernel_rfl) (by kernel_rfl) (by kernel_rfl) (fun A hA=>trivial) (fun _=>by kernel_rfl)
theorem Aqp:Aa Tryz.prog 200 Abk:=Aa.less (fun N:Nat=>We N) Ac3 (fun d r h=>⟨0,(Aca 0 d).trans h⟩)
theorem OL (N:Nat):Aa Tryz.prog 186 ⟨[(Cb,false),(Am,false)],[Cb],true,Gw N⟩:=
  have E:Env Tryz.prog UF:=Av tab ⟨Aqp,trivial⟩
  Ar (body:=Ap Tryz.f186) (Pc:=[(0,⟨Rt,Rv,Fx N N⟩)]) E rfl mixed Tryz.func186 (by kernel_rfl) (by kernel_rfl) (by kernel_rfl) (by kernel_rfl) (fun A hA=>⟨AI (body:=At Tryz.f186 0) (inner:=[]) E mixed hA (by kernel_rfl) (by kernel_rfl) (by kernel_rfl) trivial (fun _=>rfl) (fun _ _=>by kernel_rfl) N,trivial⟩) (fun _=>by kernel_rfl)
theorem MM:Aa Tryz.prog 186 I9:=Aa.less (fun N:Nat=>Gw N) OL Akd
theorem Aag (N:Nat):Aa Tryz.prog 90 ⟨[(I,false)],[Aj],true,JO N⟩:=
  have E:Env Tryz.prog Axa:=Av tab ⟨Ah7,⟨MM,trivial⟩⟩
  Ar (body:=Ap Tryz.f90) (Pc:=[]) E rfl mixed Tryz.func90 (by kernel_rfl) (by kernel_rfl) (by kernel_rfl) (by kernel_rfl) (fun A hA=>trivial) (fun _=>by kernel_rfl)
theorem ABg:Aa Tryz.prog 90 Ar1:=Aag 0
theorem Aah (N:Nat):Aa Tryz.prog 239 ⟨[(I,false)],[Aj],true,IH N⟩:=
  have E:Env Tryz.prog Ax5:=Av tab trivial
  Ar (body:=Ap Tryz.f239) (Pc:=[(0,⟨Akw,Alg,Sz N N⟩)]) E rfl mixed Tryz.func239 (by kernel_rfl) (by kernel_rfl) (by kernel_rfl) (by kernel_rfl) (fun A hA=>⟨AI (body:=At Tryz.f239 0) (inner:=[(2,⟨Aiw,Ans,Sy N N⟩)]) E mixed hA (by kernel_rfl) (by kernel_rfl) (by kernel_rfl) ⟨AI (body:=At Tryz.f239 2) (inner:=[]) E mixed hA (by kernel_rfl) (by kernel_rfl) (by kernel_rfl) trivial (fun _=>rfl) (fun _ _=>by kernel_rfl) N,trivial⟩ (fun _=>rfl) (fun _ _=>by kernel_rfl) N,trivial⟩) (fun _=>by kernel_rfl)
theorem ABa:Aa Tryz.prog 239 Ata:=Aa.less (fun N:Nat=>IH N) Aah K1
theorem ZY (N:Nat):Aa Tryz.prog 201 ⟨[(I,false),(I,false)],[I],true,SD N⟩:=
  have E:Env Tryz.prog Aqs:=Av tab trivial
  Ar (body:=Ap Tryz.f201) (Pc:=[]) E rfl mixed Tryz.func201 (by kernel_rfl) (by kernel_rfl) (by kernel_rfl) (by kernel_rfl) (fun A hA=>trivial) (fun _=>by kernel_rfl)
theorem VZ:Aa Tryz.prog 201 RT:=Aa.less (fun N:Nat=>SD N) ZY (fun d r h=>⟨0,(Yu 0 d).trans h⟩)
theorem Yh (N:Nat):Aa Tryz.prog 240 ⟨[(Aj,false),(I,false),(I,false)],[.bool],true,Sg N⟩:=
  have E:Env Tryz.prog Au2:=Av tab trivial
  Ar (body:=Ap Tryz.f240) (Pc:=[(0,⟨Abj,Ae5,Nf N N⟩)]) E rfl mixed Tryz.func240 (by kernel_rfl) (by kernel_rfl) (by kernel_rfl) (by kernel_rfl) (fun A hA=>⟨AI (body:=At Tryz.f240 0) (inner:=[]) E mixed hA (by kernel_rfl) (by kernel_rfl) (by kernel_rfl) trivial (fun _=>rfl) (fun _ _=>by kernel_rfl) N,trivial⟩) (fun _=>by kernel_rfl)
theorem Ahh:Aa Tryz.prog 240 Xd:=Aa.less (fun N:Nat=>Sg N) Yh Afn
theorem Ac4 (N:Nat):A3 Tryz.prog 241 (⟨[(AY,true),(Aj,true)],[Aj],true,Cp N⟩,{ gone:=[1],deep:=[] }):=
  have E:Env Tryz.prog Av4:=G9 tab ⟨L2,⟨Ov,trivial⟩⟩ trivial (fun _ h=>by cases h) trivial (by kernel_rfl)
  Sf (body:=Ap Tryz.f241) (Pc:=[]) E mixed Tryz.func241 (by kernel_rfl) (by kernel_rfl) (by kernel_rfl) (by kernel_rfl) (fun A hA=>trivial) (fun _=>by kernel_rfl)
theorem AC8:A3 Tryz.prog 241 (Ast,{ gone:=[1],deep:=[] }):=Ac4 0
theorem Aed (N:Nat):Aa Tryz.prog 183 ⟨[(AY,true),(I,false)],[Aj],true,MC N⟩:=
  have E:Env Tryz.prog Ayf:=G9 tab ⟨Afy,⟨ABg,⟨L2,⟨Ov,⟨Ah7,⟨MM,⟨VZ,⟨ACr,⟨ABa,⟨Ahh,trivial⟩⟩⟩⟩⟩⟩⟩⟩⟩⟩ trivial (fun _ h=>by cases h) ⟨AC8,trivial⟩ (by kernel_rfl)
  Ar (body:=Ap Tryz.f183) (Pc:=[(1,⟨Aj6,Ak5,Hg N N⟩)]) E rfl mixed Tryz.func183 (by kernel_rfl) (by kernel_rfl) (by kernel_rfl) (by kernel_rfl) (fun A hA=>⟨AI (body:=At Tryz.f183 1) (inner:=[(3,⟨Akc,Ami,RL N N⟩)]) E mixed hA (by kernel_rfl) (by kernel_rfl) (by kernel_rfl) ⟨AI (body:=At Tryz.f183 3) (inner:=[]) E mixed hA (by kernel_rfl) (by kernel_rfl) (by kernel_rfl) trivial (fun _=>rfl) (fun _ _=>by kernel_rfl) N,trivial⟩ (fun _=>rfl) (fun _ _=>by kernel_rfl) N,trivial⟩) (fun _=>by kernel_rfl)
theorem Aqc:Aa Tryz.prog 183 Ae0:=Aa.less (fun N:Nat=>MC N) Aed K1
theorem Ae6 (N:Nat):Aa Tryz.prog 182 ⟨[(AY,true)],[Aj],true,Tk N⟩:=
  have E:Env Tryz.prog Aya:=Av tab ⟨Aqc,trivial⟩
  Ar (body:=Ap Tryz.f182) (Pc:=[]) E rfl mixed Tryz.func182 (by kernel_rfl) (by kernel_rfl) (by kernel_rfl) (by kernel_rfl) (fun A hA=>trivial) (fun _=>by kernel_rfl)
theorem AB6:Aa Tryz.prog 182 Asu:=Ae6 0
theorem X8 (N:Nat):Aa Tryz.prog 226 ⟨[(I,false),(I,false)],[Ai],true,Se N⟩:=
  have E:Env Tryz.prog As5:=Av tab trivial
  Ar (body:=Ap Tryz.f226) (Pc:=[(0,⟨Adq,Adp,Ns N N⟩)]) E rfl mixed Tryz.func226 (by kernel_rfl) (by kernel_rfl) (by kernel_rfl) (by kernel_rfl) (fun A hA=>⟨AI (body:=At Tryz.f226 0) (inner:=[]) E mixed hA (by kernel_rfl) (by kernel_rfl) (by kernel_rfl) trivial (fun _=>rfl) (fun _ _=>by kernel_rfl) N,trivial⟩) (fun _=>by kernel_rfl)
theorem Awo:Aa Tryz.prog 226 Aie:=Aa.less (fun N:Nat=>Se N) X8 Ado
theorem AD3:Cf Tryz.prog (Ac Azu) (Ac Azp):=Apx (by kernel_rfl)
theorem Agq (N:Nat):Aa Tryz.prog 160 ⟨[(AY,true)],[B5],true,IU N⟩:=
  have E:Env Tryz.prog Ayp:=Av AD3 ⟨Afy,⟨L2,⟨Ov,⟨AB6,⟨Aqc,⟨Awo,trivial⟩⟩⟩⟩⟩⟩
  Ar (body:=Ap Tryz.f160) (Pc:=[(0,⟨Alk,Akf,Jf N N⟩)]) E rfl mixed Tryz.func160 (by kernel_rfl) (by kernel_rfl) (by kernel_rfl) (by kernel_rfl) (fun A hA=>⟨AI (body:=At Tryz.f160 0) (inner:=[]) E mixed hA (by kernel_rfl) (by kernel_rfl) (by kernel_rfl) trivial (fun _=>rfl) (fun _ _=>by kernel_rfl) N,trivial⟩) (fun _=>by kernel_rfl)
theorem Adc:Aa Tryz.prog 160 WV:=Aa.same (Aa.hard (k:=B5) (Aa.less (fun N:Nat=>IU N) Agq K1)) (fun d=>Azg ((CX IU Hf) d) _ fun _=>rfl)
theorem Rl (N:Nat):Aa Tryz.prog 148 ⟨[(I,false),(I,false),(I,false)],[.bool],true,G8 N⟩:=
  have E:Env Tryz.prog WL:=Av tab trivial
  Ar (body:=Ap Tryz.f148) (Pc:=[]) E rfl mixed Tryz.func148 (by kernel_rfl) (by kernel_rfl) (by kernel_rfl) (by kernel_rfl) (fun A hA=>trivial) (fun _=>by kernel_rfl)
theorem DW:Aa Tryz.prog 148 Df:=Aa.less (fun N:Nat=>G8 N) Rl (fun d r h=>⟨0,(Rq 0 d).trans h⟩)
theorem Ads (N:Nat):Aa Tryz.prog 190 ⟨[(Ai,false),(I,false),(I,false)],[.bool],true,Xi N⟩:=
  have E:Env Tryz.prog Av1:=Av tab ⟨DW,trivial⟩
  Ar (body:=Ap Tryz.f190) (Pc:=[(0,⟨Aj9,Ane,RM N N⟩)]) E rfl mixed Tryz.func190 (by kernel_rfl) (by kernel_rfl) (by kernel_rfl) (by kernel_rfl) (fun A hA=>⟨AI (body:=At Tryz.f190 0) (inner:=[]) E mixed hA (by kernel_rfl) (by kernel_rfl) (by kernel_rfl) trivial (fun _=>rfl) (fun _ _=>by kernel_rfl) N,trivial⟩) (fun _=>by kernel_rfl)
theorem AAa:Aa Tryz.prog 190 Aqb:=Aa.less (fun N:Nat=>Xi N) Ads Wf
theorem YR (N:Nat):Aa Tryz.prog 115 ⟨[(Aj,false)],[.bool],true,Sa N⟩:=
  have E:Env Tryz.prog Asz:=Av tab ⟨DW,⟨Aqp,trivial⟩⟩
  Ar (body:=Ap Tryz.f115) (Pc:=[(0,⟨Afh,Acn,MH N N⟩)]) E rfl mixed Tryz.func115 (by kernel_rfl) (by kernel_rfl) (by kernel_rfl) (by kernel_rfl) (fun A hA=>⟨AI (body:=At Tryz.f115 0) (inner:=[]) E mixed hA (by kernel_rfl) (by kernel_rfl) (by kernel_rfl) trivial (fun _=>rfl) (fun _ _=>by kernel_rfl) N,trivial⟩) (fun _=>by kernel_rfl)
theorem Axv:Aa Tryz.prog 115 Ah8:=Aa.less (fun N:Nat=>Sa N) YR Ad9
theorem Acl (N:Nat):Aa Tryz.prog 98 ⟨[(Aj,false),(I,false)],[.bool],true,Un N⟩:=
  have E:Env Tryz.prog Ay6:=Av tab ⟨Axv,⟨DW,trivial⟩⟩
  Ar (body:=Ap Tryz.f98) (Pc:=[]) E rfl mixed Tryz.func98 (by kernel_rfl) (by kernel_rfl) (by kernel_rfl) (by kernel_rfl) (fun A hA=>trivial) (fun _=>by kernel_rfl)
theorem ABn:Aa Tryz.prog 98 Atk:=Acl 0
theorem Afw (N:Nat):Aa Tryz.prog 163 ⟨[(Ae,false)],[.bool],true,VK N⟩:=
  have E:Env Tryz.prog Awq:=Av tab ⟨ABn,⟨DW,⟨AAa,trivial⟩⟩⟩
  Ar (body:=Ap Tryz.f163) (Pc:=[(0,⟨Air,Ala,RZ N N⟩)]) E rfl mixed Tryz.func163 (by kernel_rfl) (by kernel_rfl) (by kernel_rfl) (by kernel_rfl) (fun A hA=>⟨AI (body:=At Tryz.f163 0) (inner:=[]) E mixed hA (by kernel_rfl) (by kernel_rfl) (by kernel_rfl) trivial (fun _=>rfl) (fun _ _=>by kernel_rfl) N,trivial⟩) (fun _=>by kernel_rfl)
theorem WP:Aa Tryz.prog 163 TY:=Aa.less (fun N:Nat=>VK N) Afw ZW
theorem PD (N:Nat):Aa Tryz.prog 101 ⟨[(Ai,false),(I,false)],[.bool],true,Gg N⟩:=
  have E:Env Tryz.prog Uu:=Av tab trivial
  Ar (body:=Ap Tryz.f101) (Pc:=[(0,⟨Rz,RD,Fw N N⟩)]) E rfl mixed Tryz.func101 (by kernel_rfl) (by kernel_rfl) (by kernel_rfl) (by kernel_rfl) (fun A hA=>⟨AI (body:=At Tryz.f101 0) (inner:=[]) E mixed hA (by kernel_rfl) (by kernel_rfl) (by kernel_rfl) trivial (fun _=>rfl) (fun _ _=>by kernel_rfl) N,trivial⟩) (fun _=>by kernel_rfl)
theorem VV:Aa Tryz.prog 101 MI:=Aa.less (fun N:Nat=>Gg N) PD Akn
theorem Abo (N:Nat):Aa Tryz.prog 231 ⟨[(Ae,false),(I,false)],[Aj],true,VQ N⟩:=
  have E:Env Tryz.prog Aws:=Av tab ⟨VV,trivial⟩
  Ar (body:=Ap Tryz.f231) (Pc:=[(0,⟨Ako,Aip,Jd N N⟩)]) E rfl mixed Tryz.func231 (by kernel_rfl) (by kernel_rfl) (by kernel_rfl) (by kernel_rfl) (fun A hA=>⟨AI (body:=At Tryz.f231 0) (inner:=[]) E mixed hA (by kernel_rfl) (by kernel_rfl) (by kernel_rfl) trivial (fun _=>rfl) (fun _ _=>by kernel_rfl) N,trivial⟩) (fun _=>by kernel_rfl)
theorem ABd:Aa Tryz.prog 231 Ar6:=Aa.less (fun N:Nat=>VQ N) Abo Y3
theorem Ab0 (N:Nat):Aa Tryz.prog 208 ⟨[(Aj,false),(I,false)],[Ai],true,Wr N⟩:=
  have E:Env Tryz.prog Avu:=Av tab ⟨Ahh,trivial⟩
  Ar (body:=Ap Tryz.f208) (Pc:=[(0,⟨Ams,Amj,Lu N N⟩)]) E rfl mixed Tryz.func208 (by kernel_rfl) (by kernel_rfl) (by kernel_rfl) (by kernel_rfl) (fun A hA=>⟨AI (body:=At Tryz.f208 0) (inner:=[]) E mixed hA (by kernel_rfl) (by kernel_rfl) (by kernel_rfl) trivial (fun _=>rfl) (fun _ _=>by kernel_rfl) N,trivial⟩) (fun _=>by kernel_rfl)
theorem AAr:Aa Tryz.prog 208 Arx:=Aa.less (fun N:Nat=>Wr N) Ab0 Rn
theorem Aao (N:Nat):A3 Tryz.prog 92 (⟨[(Ai,true),(I,false)],[Ai],true,V4 N⟩,{ gone:=[0],deep:=[] }):=
  have E:Env Tryz.prog Avv:=G9 tab trivial trivial (fun _ h=>by cases h) trivial (by kernel_rfl)
  Sf (body:=Ap Tryz.f92) (Pc:=[(0,⟨Am8,Alz,K7 N N⟩)]) E mixed Tryz.func92 (by kernel_rfl) (by kernel_rfl) (by kernel_rfl) (by kernel_rfl) (fun A hA=>⟨AI (body:=At Tryz.f92 0) (inner:=[]) E mixed hA (by kernel_rfl) (by kernel_rfl) (by kernel_rfl) trivial (fun _=>rfl) (fun _ _=>by kernel_rfl) N,trivial⟩) (fun _=>by kernel_rfl)
theorem ACu:A3 Tryz.prog 92 (Asx,{ gone:=[0],deep:=[] }):=A3.less (fun N:Nat=>V4 N) Aao Adl
theorem Z6 (N:Nat):Aa Tryz.prog 124 ⟨[(Aj,false),(I,false)],[Ai],true,I7 N⟩:=
  have E:Env Tryz.prog Aqg:=G9 tab ⟨AAr,trivial⟩ trivial (fun _ h=>by cases h) ⟨ACu,trivial⟩ (by kernel_rfl)
  Ar (body:=Ap Tryz.f124) (Pc:=[]) E rfl mixed Tryz.func124 (by kernel_rfl) (by kernel_rfl) (by kernel_rfl) (by kernel_rfl) (fun A hA=>trivial) (fun _=>by kernel_rfl)
theorem Awk:Aa Tryz.prog 124 Agz:=Z6 0
theorem Ac0 (N:Nat):Aa Tryz.prog 165 ⟨[(Ae,false)],[An],true,WX N⟩:=
  have E:Env Tryz.prog Au8:=Av tab ⟨Awk,⟨ABd,trivial⟩⟩
  Ar (body:=Ap Tryz.f165) (Pc:=[(0,⟨Ak2,Ai4,RX N N⟩)]) E rfl mixed Tryz.func165 (by kernel_rfl) (by kernel_rfl) (by kernel_rfl) (by kernel_rfl) (fun A hA=>⟨AI (body:=At Tryz.f165 0) (inner:=[(2,⟨Ajb,Akm,MY N N⟩)]) E mixed hA (by kernel_rfl) (by kernel_rfl) (by kernel_rfl) ⟨AI (body:=At Tryz.f165 2) (inner:=[]) E mixed hA (by kernel_rfl) (by kernel_rfl) (by kernel_rfl) trivial (fun _=>rfl) (fun _ _=>by kernel_rfl) N,trivial⟩ (fun _=>rfl) (fun _ _=>by kernel_rfl) N,trivial⟩) (fun _=>by kernel_rfl)
theorem Ad0:Aa Tryz.prog 165 WS:=Aa.less (fun N:Nat=>WX N) Ac0 Xb
theorem Af4 (N:Nat):Aa Tryz.prog 234 ⟨[(I,false),(I,false)],[An],true,VP N⟩:=
  have E:Env Tryz.prog Axu:=Av tab trivial
  Ar (body:=Ap Tryz.f234) (Pc:=[(0,⟨Al6,Aob,Si N N⟩)]) E rfl mixed Tryz.func234 (by kernel_rfl) (by kernel_rfl) (by kernel_rfl) (by kernel_rfl) (fun A hA=>⟨AI (body:=At Tryz.f234 0) (inner:=[(2,⟨Anx,Ai1,Nr N N⟩)]) E mixed hA (by kernel_rfl) (by kernel_rfl) (by kernel_rfl) ⟨AI (body:=At Tryz.f234 2) (inner:=[(4,⟨Amg,Amw,MO N N⟩)]) E mixed hA (by kernel_rfl) (by kernel_rfl) (by kernel_rfl) ⟨AI (body:=At Tryz.f234 4) (inner:=[]) E mixed hA (by kernel_rfl) (by kernel_rfl) (by kernel_rfl) trivial (fun _=>rfl) (fun _ _=>by kernel_rfl) N,trivial⟩ (fun _=>rfl) (fun _ _=>by kernel_rfl) N,trivial⟩ (fun _=>rfl) (fun _ _=>by kernel_rfl) N,trivial⟩) (fun _=>by kernel_rfl)
theorem ABc:Aa Tryz.prog 234 Asd:=Aa.less (fun N:Nat=>VP N) Af4 XA
theorem Aa9 (N:Nat):Aa Tryz.prog 180 ⟨[(An,false),(An,false),(I,false),(I,false),(I,false)],[I],true,Wq N⟩:=
  have E:Env Tryz.prog Ayr:=Av tab ⟨VZ,trivial⟩
  Ar (body:=Ap Tryz.f180) (Pc:=[(0,⟨Ak4,Ao3,Gi N N⟩)]) E rfl mixed Tryz.func180 (by kernel_rfl) (by kernel_rfl) (by kernel_rfl) (by kernel_rfl) (fun A hA=>⟨AI (body:=At Tryz.f180 0) (inner:=[]) E mixed hA (by kernel_rfl) (by kernel_rfl) (by kernel_rfl) trivial (fun _=>rfl) (fun _ _=>by kernel_rfl) N,trivial⟩) (fun _=>by kernel_rfl)
theorem Aaq:Aa Tryz.prog 180 V3:=Aa.less (fun N:Nat=>Wq N) Aa9 Xf
theorem ZD (N:Nat):Aa Tryz.prog 235 ⟨[(An,false),(An,false),(I,false),(I,false),(I,false)],[.bool],true,SF N⟩:=
  have E:Env Tryz.prog Aqx:=Av tab ⟨Aaq,trivial⟩
  Ar (body:=Ap Tryz.f235) (Pc:=[(0,⟨Ab8,Acb,ML N N⟩)]) E rfl mixed Tryz.func235 (by kernel_rfl) (by kernel_rfl) (by kernel_rfl) (by kernel_rfl) (fun A hA=>⟨AI (body:=At Tryz.f235 0) (inner:=[]) E mixed hA (by kernel_rfl) (by kernel_rfl) (by kernel_rfl) trivial (fun _=>rfl) (fun _ _=>by kernel_rfl) N,trivial⟩) (fun _=>by kernel_rfl)
theorem Awt:Aa Tryz.prog 235 Agw:=Aa.less (fun N:Nat=>SF N) ZD Age
theorem Agj (N:Nat):Aa Tryz.prog 171 ⟨[(Ae,false)],[An],true,XE N⟩:=
  have E:Env Tryz.prog Azd:=Av tab ⟨Ad0,⟨ABc,⟨Awt,trivial⟩⟩⟩
  Ar (body:=Ap Tryz.f171) (Pc:=[(0,⟨Ak9,Amh,NB N N⟩)]) E rfl mixed Tryz.func171 (by kernel_rfl) (by kernel_rfl) (by kernel_rfl) (by kernel_rfl) (fun A hA=>⟨AI (body:=At Tryz.f171 0) (inner:=[(2,⟨Ai0,Am5,NC N N⟩)]) E mixed hA (by kernel_rfl) (by kernel_rfl) (by kernel_rfl) ⟨AI (body:=At Tryz.f171 2) (inner:=[(4,⟨Apb,An9,MN N N⟩)]) E mixed hA (by kernel_rfl) (by kernel_rfl) (by kernel_rfl) ⟨AI (body:=At Tryz.f171 4) (inner:=[(6,⟨Akr,Aky,NI N N⟩)]) E mixed hA (by kernel_rfl) (by kernel_rfl) (by kernel_rfl) ⟨AI (body:=At Tryz.f171 6) (inner:=[]) E mixed hA (by kernel_rfl) (by kernel_rfl) (by kernel_rfl) trivial (fun _=>rfl) (fun _ _=>by kernel_rfl) N,trivial⟩ (fun _=>rfl) (fun _ _=>by kernel_rfl) N,trivial⟩ (fun _=>rfl) (fun _ _=>by kernel_rfl) N,trivial⟩ (fun _=>rfl) (fun _ _=>by kernel_rfl) N,trivial⟩) (fun _=>by kernel_rfl)
theorem Abx:Aa Tryz.prog 171 Xg:=Aa.less (fun N:Nat=>XE N) Agj WT
theorem Aby (N:Nat):Aa Tryz.prog 78 ⟨[(Ae,false)],[An,.bool],true,Jq N⟩:=
  have E:Env Tryz.prog Ax2:=Av tab ⟨WP,⟨Abx,trivial⟩⟩
  Ar (body:=Ap Tryz.f78) (Pc:=[]) E rfl mixed Tryz.func78 (by kernel_rfl) (by kernel_rfl) (by kernel_rfl) (by kernel_rfl) (fun A hA=>trivial) (fun _=>by kernel_rfl)
theorem Asn:Aa Tryz.prog 78 Abs:=Aby 0
theorem Ac1 (N:Nat):Aa Tryz.prog 73 ⟨[(K_Su8,false)],[Ae,An],false,NR N⟩:=
  have E:Env Tryz.prog Axg:=G9 tab ⟨Asn,⟨L2,⟨Ov,⟨Adc,trivial⟩⟩⟩⟩ trivial (fun _ h=>by cases h) trivial (by kernel_rfl)
  Ar (body:=Ap Tryz.f73) (Pc:=[]) E rfl mixed Tryz.func73 (by kernel_rfl) (by kernel_rfl) (by kernel_rfl) (by kernel_rfl) (fun A hA=>trivial) (fun _=>by kernel_rfl)
theorem ADf:Aa Tryz.prog 73 Aq0:=Ac1 0
theorem ZM (N:Nat):Aa Tryz.prog 143 ⟨[(I,false),(I,false),(I,false)],[.bool],true,RP N⟩:=
  have E:Env Tryz.prog Apk:=Av tab trivial
  Ar (body:=Ap Tryz.f143) (Pc:=[]) E rfl mixed Tryz.func143 (by kernel_rfl) (by kernel_rfl) (by kernel_rfl) (by kernel_rfl) (fun A hA=>trivial) (fun _=>by kernel_rfl)
theorem M9:Aa Tryz.prog 143 Lg:=Aa.less (fun N:Nat=>RP N) ZM (fun d r h=>⟨0,(ZV 0 d).trans h⟩)
theorem Aem (N:Nat):Aa Tryz.prog 258 ⟨[(I,false)],[.bool],true,Xo N⟩:=
  have E:Env Tryz.prog Awr:=Av tab trivial
  Ar (body:=Ap Tryz.f258) (Pc:=[]) E rfl mixed Tryz.func258 (by kernel_rfl) (by kernel_rfl) (by kernel_rfl) (by kernel_rfl) (fun A hA=>trivial) (fun _=>by kernel_rfl)
theorem ADg:Aa Tryz.prog 258 Auu:=Aa.less (fun N:Nat=>Xo N) Aem (fun d r h=>⟨0,(Afz 0 d).trans h⟩)
theorem Aec (N:Nat):Aa Tryz.prog 246 ⟨[(I,false),(I,false)],[I],true,W4 N⟩:=
  have E:Env Tryz.prog Av2:=Av tab ⟨ADg,trivial⟩
  Ar (body:=Ap Tryz.f246) (Pc:=[]) E rfl mixed Tryz.func246 (by kernel_rfl) (by kernel_rfl) (by kernel_rfl) (by kernel_rfl) (fun A hA=>trivial) (fun _=>by kernel_rfl)
theorem AC2:Aa Tryz.prog 246 Arg:=Aa.less (fun N:Nat=>W4 N) Aec (fun d r h=>⟨0,(Ab2 0 d).trans h⟩)
theorem Ac5 (N:Nat):Aa Tryz.prog 199 ⟨[(Ai,false),(Ai,false)],[I],true,Wp N⟩:=
  have E:Env Tryz.prog Ay4:=Av tab ⟨AC2,trivial⟩
  Ar (body:=Ap Tryz.f199) (Pc:=[(0,⟨Ao0,Aop,IP N N⟩)]) E rfl mixed Tryz.func199 (by kernel_rfl) (by kernel_rfl) (by kernel_rfl) (by kernel_rfl) (fun A hA=>⟨AI (body:=At Tryz.f199 0) (inner:=[]) E mixed hA (by kernel_rfl) (by kernel_rfl) (by kernel_rfl) trivial (fun _=>rfl) (fun _ _=>by kernel_rfl) N,trivial⟩) (fun _=>by kernel_rfl)
theorem Aq8:Aa Tryz.prog 199 Atz:=Aa.less (fun N:Nat=>Wp N) Ac5 ZC
theorem Ae2 (N:Nat):Aa Tryz.prog 114 ⟨[(Aj,false)],[.bool],true,WQ N⟩:=
  have E:Env Tryz.prog Avt:=Av tab ⟨M9,⟨Aq8,trivial⟩⟩
  Ar (body:=Ap Tryz.f114) (Pc:=[(0,⟨Ank,Aja,Sj N N⟩)]) E rfl mixed Tryz.func114 (by kernel_rfl) (by kernel_rfl) (by kernel_rfl) (by kernel_rfl) (fun A hA=>⟨AI (body:=At Tryz.f114 0) (inner:=[]) E mixed hA (by kernel_rfl) (by kernel_rfl) (by kernel_rfl) trivial (fun _=>rfl) (fun _ _=>by kernel_rfl) N,trivial⟩) (fun _=>by kernel_rfl)
theorem WO:Aa Tryz.prog 114 TR:=Aa.less (fun N:Nat=>WQ N) Ae2 YX
theorem Ack (N:Nat):Aa Tryz.prog 169 ⟨[(Ai,false)],[.bool],true,WK N⟩:=
  have E:Env Tryz.prog Awh:=Av tab trivial
  Ar (body:=Ap Tryz.f169) (Pc:=[(0,⟨Api,Am1,R3 N N⟩)]) E rfl mixed Tryz.func169 (by kernel_rfl) (by kernel_rfl) (by kernel_rfl) (by kernel_rfl) (fun A hA=>⟨AI (body:=At Tryz.f169 0) (inner:=[]) E mixed hA (by kernel_rfl) (by kernel_rfl) (by kernel_rfl) trivial (fun _=>rfl) (fun _ _=>by kernel_rfl) N,trivial⟩) (fun _=>by kernel_rfl)
theorem Az6:Aa Tryz.prog 169 At1:=Aa.less (fun N:Nat=>WK N) Ack Tu
theorem Aeo (N:Nat):Aa Tryz.prog 128 ⟨[(Ai,false),(I,false),(I,false)],[.bool],true,WY N⟩:=
  have E:Env Tryz.prog Av0:=Av tab ⟨M9,trivial⟩
  Ar (body:=Ap Tryz.f128) (Pc:=[(0,⟨Aj1,Ajr,Sm N N⟩)]) E rfl mixed Tryz.func128 (by kernel_rfl) (by kernel_rfl) (by kernel_rfl) (by kernel_rfl) (fun A hA=>⟨AI (body:=At Tryz.f128 0) (inner:=[]) E mixed hA (by kernel_rfl) (by kernel_rfl) (by kernel_rfl) trivial (fun _=>rfl) (fun _ _=>by kernel_rfl) N,trivial⟩) (fun _=>by kernel_rfl)
theorem Afk:Aa Tryz.prog 128 Wl:=Aa.less (fun N:Nat=>WY N) Aeo Uz
theorem Aa1 (N:Nat):Aa Tryz.prog 168 ⟨[(Ai,false),(EV,false)],[.bool],true,VW N⟩:=
  have E:Env Tryz.prog Axs:=Av tab ⟨Afk,⟨Az6,trivial⟩⟩
  Ar (body:=Ap Tryz.f168) (Pc:=[]) E rfl mixed Tryz.func168 (by kernel_rfl) (by kernel_rfl) (by kernel_rfl) (by kernel_rfl) (fun A hA=>trivial) (fun _=>by kernel_rfl)
theorem AB0:Aa Tryz.prog 168 ACo:=Aa1 0
theorem Awu:Bt Tryz.prog Ahp:=L1 AB0
theorem Ad2 (N:Nat):Aa Tryz.prog 232 ⟨[(Ag,false),(Bc,false)],[I],true,Pu N⟩:=
  have E:Env Tryz.prog Azf:=Cj tab trivial ⟨Awu,trivial⟩ (fun _ h=>by cases h)
  Ar (body:=Ap Tryz.f232) (Pc:=[(0,⟨Akz,Aoa,RN N N⟩)]) E rfl mixed Tryz.func232 (by kernel_rfl) (by kernel_rfl) (by kernel_rfl) (by kernel_rfl) (fun A hA=>⟨AI (body:=At Tryz.f232 0) (inner:=[]) E mixed hA (by kernel_rfl) (by kernel_rfl) (by kernel_rfl) trivial (fun _=>rfl) (fun _ _=>by kernel_rfl) N,trivial⟩) (fun _=>by kernel_rfl)
theorem AB9:Aa Tryz.prog 232 Atl:=Aa.less (fun N:Nat=>Pu N) Ad2 Z3
theorem Amf (N:Nat):Aa Tryz.prog 167 ⟨[(Ag,false),(Bc,false)],[.bool],true,Yk N⟩:=
  have E:Env Tryz.prog AAg:=Av tab ⟨AB9,trivial⟩
  Ar (body:=Ap Tryz.f167) (Pc:=[]) E rfl mixed Tryz.func167 (by kernel_rfl) (by kernel_rfl) (by kernel_rfl) (by kernel_rfl) (fun A hA=>trivial) (fun _=>by kernel_rfl)
theorem ADr:Aa Tryz.prog 167 Azs:=Amf 0
theorem Acr (N:Nat):Aa Tryz.prog 76 ⟨[(Ae,false)],[.bool],true,Hn N⟩:=
  have E:Env Tryz.prog Azh:=Cj tab ⟨WO,⟨M9,⟨ADr,trivial⟩⟩⟩ trivial (fun _ h=>by cases h)
  Ar (body:=Ap Tryz.f76) (Pc:=[]) E rfl mixed Tryz.func76 (by kernel_rfl) (by kernel_rfl) (by kernel_rfl) (by kernel_rfl) (fun A hA=>trivial) (fun _=>by kernel_rfl)
theorem O0:Aa Tryz.prog 76 Mx:=Acr 0
theorem PG (N:Nat):Aa Tryz.prog 95 ⟨[(Aj,false)],[AA],true,Gu N⟩:=
  have E:Env Tryz.prog UC:=Av tab trivial
  Ar (body:=Ap Tryz.f95) (Pc:=[(0,⟨Rr,RG,CR N N⟩)]) E rfl mixed Tryz.func95 (by kernel_rfl) (by kernel_rfl) (by kernel_rfl) (by kernel_rfl) (fun A hA=>⟨AI (body:=At Tryz.f95 0) (inner:=[]) E mixed hA (by kernel_rfl) (by kernel_rfl) (by kernel_rfl) trivial (fun _=>rfl) (fun _ _=>by kernel_rfl) N,trivial⟩) (fun _=>by kernel_rfl)
theorem IW:Aa Tryz.prog 95 Gf:=Aa.less (fun N:Nat=>Gu N) PG Alx
theorem Ad1 (N:Nat):Aa Tryz.prog 211 ⟨[(Ai,false),(I,false)],[I],true,W8 N⟩:=
  have E:Env Tryz.prog Avd:=Av tab trivial
  Ar (body:=Ap Tryz.f211) (Pc:=[(0,⟨Ajf,Am0,RU N N⟩)]) E rfl mixed Tryz.func211 (by kernel_rfl) (by kernel_rfl) (by kernel_rfl) (by kernel_rfl) (fun A hA=>⟨AI (body:=At Tryz.f211 0) (inner:=[]) E mixed hA (by kernel_rfl) (by kernel_rfl) (by kernel_rfl) trivial (fun _=>rfl) (fun _ _=>by kernel_rfl) N,trivial⟩) (fun _=>by kernel_rfl)
theorem AAq:Aa Tryz.prog 211 Aty:=Aa.less (fun N:Nat=>W8 N) Ad1 Ant
theorem Adk (N:Nat):Aa Tryz.prog 129 ⟨[(Ai,false),(I,false)],[.bool],true,Jk N⟩:=
  have E:Env Tryz.prog Aw3:=Av tab ⟨AAq,trivial⟩
  Ar (body:=Ap Tryz.f129) (Pc:=[]) E rfl mixed Tryz.func129 (by kernel_rfl) (by kernel_rfl) (by kernel_rfl) (by kernel_rfl) (fun A hA=>trivial) (fun _=>by kernel_rfl)
theorem Af2:Aa Tryz.prog 129 VE:=Adk 0
theorem Aa0 (N:Nat):Aa Tryz.prog 162 ⟨[(Ae,false)],[AU],true,V0 N⟩:=
  have E:Env Tryz.prog Ayt:=Av tab ⟨IW,⟨Af2,trivial⟩⟩
  Ar (body:=Ap Tryz.f162) (Pc:=[(0,⟨Ai8,Ama,Lc N N⟩)]) E rfl mixed Tryz.func162 (by kernel_rfl) (by kernel_rfl) (by kernel_rfl) (by kernel_rfl) (fun A hA=>⟨AI (body:=At Tryz.f162 0) (inner:=[(2,⟨Am7,Alv,Jo N N⟩)]) E mixed hA (by kernel_rfl) (by kernel_rfl) (by kernel_rfl) ⟨AI (body:=At Tryz.f162 2) (inner:=[]) E mixed hA (by kernel_rfl) (by kernel_rfl) (by kernel_rfl) trivial (fun _=>rfl) (fun _ _=>by kernel_rfl) N,trivial⟩ (fun _=>rfl) (fun _ _=>by kernel_rfl) N,trivial⟩) (fun _=>by kernel_rfl)
theorem Tn:Aa Tryz.prog 162 ON:=Aa.less (fun N:Nat=>V0 N) Aa0 WJ
theorem Agm (N:Nat):Aa Tryz.prog 188 ⟨[(AA,false)],[I],true,Xt N⟩:=
  have E:Env Tryz.prog Awp:=Av tab trivial
  Ar (body:=Ap Tryz.f188) (Pc:=[]) E rfl mixed Tryz.func188 (by kernel_rfl) (by kernel_rfl) (by kernel_rfl) (by kernel_rfl) (fun A hA=>trivial) (fun _=>by kernel_rfl)
theorem Tv:Aa Tryz.prog 188 PC:=Aa.less (fun N:Nat=>Xt N) Agm (fun d r h=>⟨0,(Abe 0 d).trans h⟩)
theorem Aen (N:Nat):Aa Tryz.prog 228 ⟨[(I,false)],[.bool],true,XH N⟩:=
  have E:Env Tryz.prog Awd:=Av tab trivial
  Ar (body:=Ap Tryz.f228) (Pc:=[]) E rfl mixed Tryz.func228 (by kernel_rfl) (by kernel_rfl) (by kernel_rfl) (by kernel_rfl) (fun A hA=>trivial) (fun _=>by kernel_rfl)
theorem AA1:Aa Tryz.prog 228 ADo:=Aa.less (fun N:Nat=>XH N) Aen (fun d r h=>⟨0,(Agh 0 d).trans h⟩)
theorem Abg (N:Nat):Aa Tryz.prog 130 ⟨[(AA,false),(I,false)],[I],true,IL N⟩:=
  have E:Env Tryz.prog Avw:=Av tab trivial
  Ar (body:=Ap Tryz.f130) (Pc:=[]) E rfl mixed Tryz.func130 (by kernel_rfl) (by kernel_rfl) (by kernel_rfl) (by kernel_rfl) (fun A hA=>trivial) (fun _=>by kernel_rfl)
theorem SV:Aa Tryz.prog 130 Oc:=Abg 0
theorem Qp (N:Nat):Aa Tryz.prog 127 ⟨[(I,false)],[Ai],true,Gj N⟩:=
  have E:Env Tryz.prog UI:=Av tab trivial
  Ar (body:=Ap Tryz.f127) (Pc:=[(0,⟨Rp,RF,DB N N⟩)]) E rfl mixed Tryz.func127 (by kernel_rfl) (by kernel_rfl) (by kernel_rfl) (by kernel_rfl) (fun A hA=>⟨AI (body:=At Tryz.f127 0) (inner:=[]) E mixed hA (by kernel_rfl) (by kernel_rfl) (by kernel_rfl) trivial (fun _=>rfl) (fun _ _=>by kernel_rfl) N,trivial⟩) (fun _=>by kernel_rfl)
theorem D6:Aa Tryz.prog 127 Dg:=Aa.less (fun N:Nat=>Gj N) Qp Ai2
theorem Ac9 (N:Nat):Aa Tryz.prog 179 ⟨[(AA,false),(Ai,false),(I,false)],[I],true,WC N⟩:=
  have E:Env Tryz.prog Ayj:=Av tab ⟨D6,⟨SV,trivial⟩⟩
  Ar (body:=Ap Tryz.f179) (Pc:=[(0,⟨Aji,Alt,Gn N N⟩)]) E rfl mixed Tryz.func179 (by kernel_rfl) (by kernel_rfl) (by kernel_rfl) (by kernel_rfl) (fun A hA=>⟨AI (body:=At Tryz.f179 0) (inner:=[]) E mixed hA (by kernel_rfl) (by kernel_rfl) (by kernel_rfl) trivial (fun _=>rfl) (fun _ _=>by kernel_rfl) N,trivial⟩) (fun _=>by kernel_rfl)
theorem WA:Aa Tryz.prog 179 Uo:=Aa.less (fun N:Nat=>WC N) Ac9 UO
theorem Aw2:Bt Tryz.prog Ahz:=T6 AA1
theorem Afx (N:Nat):Aa Tryz.prog 248 ⟨[(Ai,false),(EQ,false)],[I],true,Wu N⟩:=
  have E:Env Tryz.prog Avq:=Cj tab trivial ⟨Aw2,trivial⟩ (fun _ h=>by cases h)
  Ar (body:=Ap Tryz.f248) (Pc:=[(0,⟨Anw,Ajc,RH N N⟩)]) E rfl mixed Tryz.func248 (by kernel_rfl) (by kernel_rfl) (by kernel_rfl) (by kernel_rfl) (fun A hA=>⟨AI (body:=At Tryz.f248 0) (inner:=[]) E mixed hA (by kernel_rfl) (by kernel_rfl) (by kernel_rfl) trivial (fun _=>rfl) (fun _ _=>by kernel_rfl) N,trivial⟩) (fun _=>by kernel_rfl)
theorem ADc:Aa Tryz.prog 248 At8:=Aa.less (fun N:Nat=>Wu N) Afx VY
theorem Ai7 (N:Nat):Aa Tryz.prog 214 ⟨[(Ai,false),(EQ,false)],[.bool],true,Ahf N⟩:=
  have E:Env Tryz.prog ACj:=Av tab ⟨ADc,trivial⟩
  Ar (body:=Ap Tryz.f214) (Pc:=[]) E rfl mixed Tryz.func214 (by kernel_rfl) (by kernel_rfl) (by kernel_rfl) (by kernel_rfl) (fun A hA=>trivial) (fun _=>by kernel_rfl)
theorem AFi:Aa Tryz.prog 214 Az0:=Ai7 0
theorem Acg (N:Nat):Aa Tryz.prog 227 ⟨[(Ai,false),(OQ,false)],[.bool],true,Wx N⟩:=
  have E:Env Tryz.prog Av3:=Av tab ⟨AFi,trivial⟩
  Ar (body:=Ap Tryz.f227) (Pc:=[]) E rfl mixed Tryz.func227 (by kernel_rfl) (by kernel_rfl) (by kernel_rfl) (by kernel_rfl) (fun A hA=>trivial) (fun _=>by kernel_rfl)
theorem ABw:Aa Tryz.prog 227 AAt:=Acg 0
theorem Ay3:Bt Tryz.prog Aia:=L1 ABw
theorem Abv (N:Nat):Aa Tryz.prog 232 ⟨[(Ag,false),(Db,false)],[I],true,XP N⟩:=
  have E:Env Tryz.prog Aw5:=Cj tab trivial ⟨Ay3,trivial⟩ (fun _ h=>by cases h)
  Ar (body:=Ap Tryz.f232) (Pc:=[(0,⟨An6,Alr,Sk N N⟩)]) E rfl mixed Tryz.func232 (by kernel_rfl) (by kernel_rfl) (by kernel_rfl) (by kernel_rfl) (fun A hA=>⟨AI (body:=At Tryz.f232 0) (inner:=[]) E mixed hA (by kernel_rfl) (by kernel_rfl) (by kernel_rfl) trivial (fun _=>rfl) (fun _ _=>by kernel_rfl) N,trivial⟩) (fun _=>by kernel_rfl)
theorem Az9:Aa Tryz.prog 232 Apt:=Aa.less (fun N:Nat=>XP N) Abv VD
theorem Aod (N:Nat):Aa Tryz.prog 167 ⟨[(Ag,false),(Db,false)],[.bool],true,Aic N⟩:=
  have E:Env Tryz.prog AA3:=Av tab ⟨Az9,trivial⟩
  Ar (body:=Ap Tryz.f167) (Pc:=[]) E rfl mixed Tryz.func167 (by kernel_rfl) (by kernel_rfl) (by kernel_rfl) (by kernel_rfl) (fun A hA=>trivial) (fun _=>by kernel_rfl)
theorem ADx:Aa Tryz.prog 167 Azq:=Aod 0
theorem Aa3 (N:Nat):Aa Tryz.prog 230 ⟨[(I,false),(OQ,false)],[.bool],true,VN N⟩:=
  have E:Env Tryz.prog Axw:=Av tab trivial
  Ar (body:=Ap Tryz.f230) (Pc:=[]) E rfl mixed Tryz.func230 (by kernel_rfl) (by kernel_rfl) (by kernel_rfl) (by kernel_rfl) (fun A hA=>trivial) (fun _=>by kernel_rfl)
theorem AAm:Aa Tryz.prog 230 ACy:=Aa.less (fun N:Nat=>VN N) Aa3 (fun d r h=>⟨0,(Agg 0 d).trans h⟩)
theorem Aw8:Bt Tryz.prog Aij:=L1 AAm
theorem Aea (N:Nat):Aa Tryz.prog 255 ⟨[(I,false),(OQ,false),(Lt,false),(QI,false),(FU,false)],[.bool],true,W9 N⟩:=
  have E:Env Tryz.prog Ax7:=Cj tab ⟨WA,trivial⟩ ⟨Aw8,trivial⟩ (Ahu (by kernel_rfl))
  Ar (body:=Ap Tryz.f255) (Pc:=[]) E rfl mixed Tryz.func255 (by kernel_rfl) (by kernel_rfl) (by kernel_rfl) (by kernel_rfl) (fun A hA=>trivial) (fun _=>by kernel_rfl)
theorem AAb:Aa Tryz.prog 255 AC0:=Aea 0
theorem Axe:Bt Tryz.prog Ahy:=SP AAb
theorem Al2 (N:Nat):Aa Tryz.prog 248 ⟨[(Ai,false),(AB,false)],[I],true,Ag6 N⟩:=
  have E:Env Tryz.prog AB1:=Cj tab trivial ⟨Axe,trivial⟩ (fun _ h=>by cases h)
  Ar (body:=Ap Tryz.f248) (Pc:=[(0,⟨Ati,Atr,WR N N⟩)]) E rfl mixed Tryz.func248 (by kernel_rfl) (by kernel_rfl) (by kernel_rfl) (by kernel_rfl) (fun A hA=>⟨AI (body:=At Tryz.f248 0) (inner:=[]) E mixed hA (by kernel_rfl) (by kernel_rfl) (by kernel_rfl) trivial (fun _=>rfl) (fun _ _=>by kernel_rfl) N,trivial⟩) (fun _=>by kernel_rfl)
theorem AFh:Aa Tryz.prog 248 Az1:=Aa.less (fun N:Nat=>Ag6 N) Al2 XF
theorem Ajw (N:Nat):Aa Tryz.prog 214 ⟨[(Ai,false),(AB,false)],[.bool],true,Aha N⟩:=
  have E:Env Tryz.prog ABm:=Av tab ⟨AFh,trivial⟩
  Ar (body:=Ap Tryz.f214) (Pc:=[]) E rfl mixed Tryz.func214 (by kernel_rfl) (by kernel_rfl) (by kernel_rfl) (by kernel_rfl) (fun A hA=>trivial) (fun _=>by kernel_rfl)
theorem AE5:Aa Tryz.prog 214 Azv:=Ajw 0
theorem Aau (N:Nat):Aa Tryz.prog 229 ⟨[(AA,false),(Ag,false),(I,false),(I,false),(EX,false)],[.bool],true,OD N⟩:=
  have E:Env Tryz.prog Aze:=Cj tab ⟨D6,⟨SV,⟨AE5,trivial⟩⟩⟩ trivial (fun _ h=>by cases h)
  Ar (body:=Ap Tryz.f229) (Pc:=[]) E rfl mixed Tryz.func229 (by kernel_rfl) (by kernel_rfl) (by kernel_rfl) (by kernel_rfl) (fun A hA=>trivial) (fun _=>by kernel_rfl)
theorem AAo:Aa Tryz.prog 229 Asg:=Aau 0
theorem Acs (N:Nat):Aa Tryz.prog 161 ⟨[(AU,false),(An,false)],[.bool],true,VF N⟩:=
  have E:Env Tryz.prog Axl:=Cj tab ⟨ADx,⟨Tv,⟨AAo,trivial⟩⟩⟩ trivial (fun _ h=>by cases h)
  Ar (body:=Ap Tryz.f161) (Pc:=[(0,⟨Amu,Apc,R8 N N⟩),(2,⟨Aju,Aiy,No N N⟩)]) E rfl mixed Tryz.func161 (by kernel_rfl) (by kernel_rfl) (by kernel_rfl) (by kernel_rfl) (fun A hA=>⟨AI (body:=At Tryz.f161 0) (inner:=[]) E mixed hA (by kernel_rfl) (by kernel_rfl) (by kernel_rfl) trivial (fun _=>rfl) (fun _ _=>by kernel_rfl) N,⟨AI (body:=At Tryz.f161 2) (inner:=[(4,⟨Ajz,Ald,MK N N⟩)]) E mixed hA (by kernel_rfl) (by kernel_rfl) (by kernel_rfl) ⟨AI (body:=At Tryz.f161 4) (inner:=[(6,⟨Anf,Anb,NA N N⟩)]) E mixed hA (by kernel_rfl) (by kernel_rfl) (by kernel_rfl) ⟨AI (body:=At Tryz.f161 6) (inner:=[]) E mixed hA (by kernel_rfl) (by kernel_rfl) (by kernel_rfl) trivial (fun _=>rfl) (fun _ _=>by kernel_rfl) N,trivial⟩ (fun _=>rfl) (fun _ _=>by kernel_rfl) N,trivial⟩ (fun _=>rfl) (fun _ _=>by kernel_rfl) N,trivial⟩⟩) (fun _=>by kernel_rfl)
theorem AC5:Aa Tryz.prog 161 Aue:=Aa.less (fun N:Nat=>VF N) Acs OC
theorem Aer (N:Nat):Aa Tryz.prog 74 ⟨[(Ae,false),(An,false)],[.bool,.bool],true,Qw N⟩:=
  have E:Env Tryz.prog Avj:=Av tab ⟨O0,⟨AC5,⟨Tn,trivial⟩⟩⟩
  Ar (body:=Ap Tryz.f74) (Pc:=[]) E rfl mixed Tryz.func74 (by kernel_rfl) (by kernel_rfl) (by kernel_rfl) (by kernel_rfl) (fun A hA=>trivial) (fun _=>by kernel_rfl)
theorem AAn:Aa Tryz.prog 74 Asw:=Aer 0
theorem Ab1 (N:Nat):Aa Tryz.prog 164 ⟨[(Ae,false),(An,false)],[.bool],true,XK N⟩:=
  have E:Env Tryz.prog Ayl:=Av tab trivial
  Ar (body:=Ap Tryz.f164) (Pc:=[(0,⟨Apf,Akg,RV N N⟩)]) E rfl mixed Tryz.func164 (by kernel_rfl) (by kernel_rfl) (by kernel_rfl) (by kernel_rfl) (fun A hA=>⟨AI (body:=At Tryz.f164 0) (inner:=[(2,⟨Ali,Ame,MU N N⟩)]) E mixed hA (by kernel_rfl) (by kernel_rfl) (by kernel_rfl) ⟨AI (body:=At Tryz.f164 2) (inner:=[(4,⟨Amd,Ajv,MX N N⟩)]) E mixed hA (by kernel_rfl) (by kernel_rfl) (by kernel_rfl) ⟨AI (body:=At Tryz.f164 4) (inner:=[]) E mixed hA (by kernel_rfl) (by kernel_rfl) (by kernel_rfl) trivial (fun _=>rfl) (fun _ _=>by kernel_rfl) N,trivial⟩ (fun _=>rfl) (fun _ _=>by kernel_rfl) N,trivial⟩ (fun _=>rfl) (fun _ _=>by kernel_rfl) N,trivial⟩) (fun _=>by kernel_rfl)
theorem AB2:Aa Tryz.prog 164 Ap9:=Aa.less (fun N:Nat=>XK N) Ab1 Zb
theorem Ad7 (N:Nat):Aa Tryz.prog 166 ⟨[(An,false),(An,false),(I,false),(I,false),(I,false)],[.bool],true,VJ N⟩:=
  have E:Env Tryz.prog Awv:=Av tab ⟨DW,⟨Aaq,trivial⟩⟩
  Ar (body:=Ap Tryz.f166) (Pc:=[(0,⟨Ao8,All,RK N N⟩)]) E rfl mixed Tryz.func166 (by kernel_rfl) (by kernel_rfl) (by kernel_rfl) (by kernel_rfl) (fun A hA=>⟨AI (body:=At Tryz.f166 0) (inner:=[]) E mixed hA (by kernel_rfl) (by kernel_rfl) (by kernel_rfl) trivial (fun _=>rfl) (fun _ _=>by kernel_rfl) N,trivial⟩) (fun _=>by kernel_rfl)
theorem ACq:Aa Tryz.prog 166 Atc:=Aa.less (fun N:Nat=>VJ N) Ad7 UN
theorem Ady (N:Nat):Aa Tryz.prog 75 ⟨[(Ae,false),(An,false)],[.bool,.bool],true,V1 N⟩:=
  have E:Env Tryz.prog Awf:=Av tab ⟨WP,⟨AB2,⟨Ad0,⟨ACq,trivial⟩⟩⟩⟩
  Ar (body:=Ap Tryz.f75) (Pc:=[(0,⟨Amr,Aly,RY N N⟩)]) E rfl mixed Tryz.func75 (by kernel_rfl) (by kernel_rfl) (by kernel_rfl) (by kernel_rfl) (fun A hA=>⟨AI (body:=At Tryz.f75 0) (inner:=[(2,⟨Am2,Aks,Nq N N⟩)]) E mixed hA (by kernel_rfl) (by kernel_rfl) (by kernel_rfl) ⟨AI (body:=At Tryz.f75 2) (inner:=[(4,⟨Ani,Alw,Nb N N⟩)]) E mixed hA (by kernel_rfl) (by kernel_rfl) (by kernel_rfl) ⟨AI (body:=At Tryz.f75 4) (inner:=[]) E mixed hA (by kernel_rfl) (by kernel_rfl) (by kernel_rfl) trivial (fun _=>rfl) (fun _ _=>by kernel_rfl) N,trivial⟩ (fun _=>rfl) (fun _ _=>by kernel_rfl) N,trivial⟩ (fun _=>rfl) (fun _ _=>by kernel_rfl) N,trivial⟩) (fun _=>by kernel_rfl)
theorem ACs:Aa Tryz.prog 75 Ari:=Aa.less (fun N:Nat=>V1 N) Ady Abn
theorem Adb (N:Nat):Aa Tryz.prog 233 ⟨[(I,false)],[.bool],true,XQ N⟩:=
  have E:Env Tryz.prog Ax0:=Av tab trivial
  Ar (body:=Ap Tryz.f233) (Pc:=[]) E rfl mixed Tryz.func233 (by kernel_rfl) (by kernel_rfl) (by kernel_rfl) (by kernel_rfl) (fun A hA=>trivial) (fun _=>by kernel_rfl)
theorem AB3:Aa Tryz.prog 233 ACv:=Aa.less (fun N:Nat=>XQ N) Adb (fun d r h=>⟨0,(Aa8 0 d).trans h⟩)
theorem Avz:Bt Tryz.prog Agr:=T6 AB3
theorem Afq (N:Nat):Aa Tryz.prog 255 ⟨[(I,false),(OQ,false),(Lt,false),(QI,false),(IO,false)],[.bool],true,Xq N⟩:=
  have E:Env Tryz.prog Awi:=Cj tab ⟨WA,trivial⟩ ⟨Avz,trivial⟩ (Ahu (by kernel_rfl))
  Ar (body:=Ap Tryz.f255) (Pc:=[]) E rfl mixed Tryz.func255 (by kernel_rfl) (by kernel_rfl) (by kernel_rfl) (by kernel_rfl) (fun A hA=>trivial) (fun _=>by kernel_rfl)
theorem ACc:Aa Tryz.prog 255 ADj:=Afq 0
theorem Au7:Bt Tryz.prog Aih:=SP ACc
theorem Aka (N:Nat):Aa Tryz.prog 248 ⟨[(Ai,false),(AC,false)],[I],true,Ahv N⟩:=
  have E:Env Tryz.prog ACn:=Cj tab trivial ⟨Au7,trivial⟩ (fun _ h=>by cases h)
  Ar (body:=Ap Tryz.f248) (Pc:=[(0,⟨Ash,Ask,Xn N N⟩)]) E rfl mixed Tryz.func248 (by kernel_rfl) (by kernel_rfl) (by kernel_rfl) (by kernel_rfl) (fun A hA=>⟨AI (body:=At Tryz.f248 0) (inner:=[]) E mixed hA (by kernel_rfl) (by kernel_rfl) (by kernel_rfl) trivial (fun _=>rfl) (fun _ _=>by kernel_rfl) N,trivial⟩) (fun _=>by kernel_rfl)
theorem AEc:Aa Tryz.prog 248 Azk:=Aa.less (fun N:Nat=>Ahv N) Aka YO
theorem Aj0 (N:Nat):Aa Tryz.prog 214 ⟨[(Ai,false),(AC,false)],[.bool],true,Ag9 N⟩:=
  have E:Env Tryz.prog AAh:=Av tab ⟨AEc,trivial⟩
  Ar (body:=Ap Tryz.f214) (Pc:=[]) E rfl mixed Tryz.func214 (by kernel_rfl) (by kernel_rfl) (by kernel_rfl) (by kernel_rfl) (fun A hA=>trivial) (fun _=>by kernel_rfl)
theorem AEn:Aa Tryz.prog 214 Azr:=Aj0 0
theorem Adx (N:Nat):Aa Tryz.prog 229 ⟨[(AA,false),(Ag,false),(I,false),(I,false),(Hb,false)],[.bool],true,ST N⟩:=
  have E:Env Tryz.prog Azc:=Cj tab ⟨D6,⟨SV,⟨AEn,trivial⟩⟩⟩ trivial (fun _ h=>by cases h)
  Ar (body:=Ap Tryz.f229) (Pc:=[]) E rfl mixed Tryz.func229 (by kernel_rfl) (by kernel_rfl) (by kernel_rfl) (by kernel_rfl) (fun A hA=>trivial) (fun _=>by kernel_rfl)
theorem ACi:Aa Tryz.prog 229 Aqt:=Adx 0
theorem Aav (N:Nat):Aa Tryz.prog 170 ⟨[(AU,false)],[An],true,W5 N⟩:=
  have E:Env Tryz.prog Axd:=Av tab ⟨Tv,⟨Au1,⟨ACi,trivial⟩⟩⟩
  Ar (body:=Ap Tryz.f170) (Pc:=[(0,⟨Apa,Ake,M0 N N⟩),(4,⟨Aoj,Alo,MR N N⟩)]) E rfl mixed Tryz.func170 (by kernel_rfl) (by kernel_rfl) (by kernel_rfl) (by kernel_rfl) (fun A hA=>⟨AI (body:=At Tryz.f170 0) (inner:=[(2,⟨Akh,An1,Ny N N⟩)]) E mixed hA (by kernel_rfl) (by kernel_rfl) (by kernel_rfl) ⟨AI (body:=At Tryz.f170 2) (inner:=[]) E mixed hA (by kernel_rfl) (by kernel_rfl) (by kernel_rfl) trivial (fun _=>rfl) (fun _ _=>by kernel_rfl) N,trivial⟩ (fun _=>rfl) (fun _ _=>by kernel_rfl) N,⟨AI (body:=At Tryz.f170 4) (inner:=[(6,⟨Aok,Aj4,NG N N⟩),(12,⟨Aci,Aar,JX N N⟩)]) E mixed hA (by kernel_rfl) (by kernel_rfl) (by kernel_rfl) ⟨AI (body:=At Tryz.f170 6) (inner:=[(8,⟨Ai5,Al4,MZ N N⟩)]) E mixed hA (by kernel_rfl) (by kernel_rfl) (by kernel_rfl) ⟨AI (body:=At Tryz.f170 8) (inner:=[(10,⟨Afd,Af6,Kn N N⟩)]) E mixed hA (by kernel_rfl) (by kernel_rfl) (by kernel_rfl) ⟨AI (body:=At Tryz.f170 10) (inner:=[]) E mixed hA (by kernel_rfl) (by kernel_rfl) (by kernel_rfl) trivial (fun _=>rfl) (fun _ _=>by kernel_rfl) N,trivial⟩ (fun _=>rfl) (fun _ _=>by kernel_rfl) N,trivial⟩ (fun _=>rfl) (fun _ _=>by kernel_rfl) N,⟨AI (body:=At Tryz.f170 12) (inner:=[]) E mixed hA (by kernel_rfl) (by kernel_rfl) (by kernel_rfl) trivial (fun _=>rfl) (fun _ _=>by kernel_rfl) N,trivial⟩⟩ (fun _=>rfl) (fun _ _=>by kernel_rfl) N,trivial⟩⟩) (fun _=>by kernel_rfl)
theorem Acz:Aa Tryz.prog 170 XN:=Aa.less (fun N:Nat=>W5 N) Aav Tm
theorem Afv (N:Nat):Aa Tryz.prog 77 ⟨[(Ae,false)],[An,.bool],true,ID N⟩:=
  have E:Env Tryz.prog Au9:=Av tab ⟨O0,⟨Tn,⟨Acz,trivial⟩⟩⟩
  Ar (body:=Ap Tryz.f77) (Pc:=[]) E rfl mixed Tryz.func77 (by kernel_rfl) (by kernel_rfl) (by kernel_rfl) (by kernel_rfl) (fun A hA=>trivial) (fun _=>by kernel_rfl)
theorem ACm:Aa Tryz.prog 77 Aq7:=Afv 0
theorem OX (N:Nat):Aa Tryz.prog 38 ⟨[(Ai,false),(Ai,false)],[.bool],true,Gt N⟩:=
  have E:Env Tryz.prog UR:=Av tab trivial
  Ar (body:=Ap Tryz.f38) (Pc:=[(0,⟨RA,Rm,DC N N⟩)]) E rfl mixed Tryz.func38 (by kernel_rfl) (by kernel_rfl) (by kernel_rfl) (by kernel_rfl) (fun A hA=>⟨AI (body:=At Tryz.f38 0) (inner:=[]) E mixed hA (by kernel_rfl) (by kernel_rfl) (by kernel_rfl) trivial (fun _=>rfl) (fun _ _=>by kernel_rfl) N,trivial⟩) (fun _=>by kernel_rfl)
theorem V5:Aa Tryz.prog 38 M4:=Aa.less (fun N:Nat=>Gt N) OX Akj
theorem Yw (N:Nat):Aa Tryz.prog 43 ⟨[(Ag,false),(Ag,false)],[.bool],true,Sx N⟩:=
  have E:Env Tryz.prog Apy:=Av tab ⟨V5,trivial⟩
  Ar (body:=Ap Tryz.f43) (Pc:=[(0,⟨Aai,Acw,HM N N⟩)]) E rfl mixed Tryz.func43 (by kernel_rfl) (by kernel_rfl) (by kernel_rfl) (by kernel_rfl) (fun A hA=>⟨AI (body:=At Tryz.f43 0) (inner:=[]) E mixed hA (by kernel_rfl) (by kernel_rfl) (by kernel_rfl) trivial (fun _=>rfl) (fun _ _=>by kernel_rfl) N,trivial⟩) (fun _=>by kernel_rfl)
theorem Ahg:Aa Tryz.prog 43 XZ:=Aa.less (fun N:Nat=>Sx N) Yw Ab3
theorem Oz (N:Nat):Aa Tryz.prog 79 ⟨[(An,false),(An,false)],[.bool],true,Gp N⟩:=
  have E:Env Tryz.prog UB:=Av tab ⟨Ahg,trivial⟩
  Ar (body:=Ap Tryz.f79) (Pc:=[(0,⟨Ri,RB,DA N N⟩)]) E rfl mixed Tryz.func79 (by kernel_rfl) (by kernel_rfl) (by kernel_rfl) (by kernel_rfl) (fun A hA=>⟨AI (body:=At Tryz.f79 0) (inner:=[]) E mixed hA (by kernel_rfl) (by kernel_rfl) (by kernel_rfl) trivial (fun _=>rfl) (fun _ _=>by kernel_rfl) N,trivial⟩) (fun _=>by kernel_rfl)
theorem VX:Aa Tryz.prog 79 Ng:=Aa.less (fun N:Nat=>Gp N) Oz Aki
theorem Aa5 (N:Nat):Aa Tryz.prog 172 ⟨[(Cb,false)],[Cb],true,Xz N⟩:=
  have E:Env Tryz.prog Ayv:=Av tab trivial
  Ar (body:=Ap Tryz.f172) (Pc:=[]) E rfl mixed Tryz.func172 (by kernel_rfl) (by kernel_rfl) (by kernel_rfl) (by kernel_rfl) (fun A hA=>trivial) (fun _=>by kernel_rfl)
theorem ADm:Aa Tryz.prog 172 Ap0:=Aa.less (fun N:Nat=>Xz N) Aa5 Yn
theorem Aeb (N:Nat):Aa Tryz.prog 80 ⟨[(Aj,false)],[Ae,.bool],true,Xy N⟩:=
  have E:Env Tryz.prog Awm:=Av tab ⟨WO,⟨ADm,trivial⟩⟩
  Ar (body:=Ap Tryz.f80) (Pc:=[(0,⟨Ann,Ajy,IG N N⟩)]) E rfl mixed Tryz.func80 (by kernel_rfl) (by kernel_rfl) (by kernel_rfl) (by kernel_rfl) (fun A hA=>⟨AI (body:=At Tryz.f80 0) (inner:=[]) E mixed hA (by kernel_rfl) (by kernel_rfl) (by kernel_rfl) trivial (fun _=>rfl) (fun _ _=>by kernel_rfl) N,trivial⟩) (fun _=>by kernel_rfl)
theorem ACe:Aa Tryz.prog 80 Ato:=Aa.less (fun N:Nat=>Xy N) Aeb To
theorem Af5 (N:Nat):Aa Tryz.prog 94 ⟨[(Aj,false),(I,false)],[.bool],true,SJ N⟩:=
  have E:Env Tryz.prog Avp:=Av tab ⟨WO,⟨M9,trivial⟩⟩
  Ar (body:=Ap Tryz.f94) (Pc:=[]) E rfl mixed Tryz.func94 (by kernel_rfl) (by kernel_rfl) (by kernel_rfl) (by kernel_rfl) (fun A hA=>trivial) (fun _=>by kernel_rfl)
theorem AAz:Aa Tryz.prog 94 Ap6:=Af5 0
theorem Agk (N:Nat):Aa Tryz.prog 146 ⟨[(Ai,false)],[Ai],true,Wm N⟩:=
  have E:Env Tryz.prog Ay1:=Av tab trivial
  Ar (body:=Ap Tryz.f146) (Pc:=[]) E rfl mixed Tryz.func146 (by kernel_rfl) (by kernel_rfl) (by kernel_rfl) (by kernel_rfl) (fun A hA=>trivial) (fun _=>by kernel_rfl)
theorem Ar8:Aa Tryz.prog 146 Acu:=Aa.less (fun N:Nat=>Wm N) Agk Ad6
theorem Abf (N:Nat):Aa Tryz.prog 158 ⟨[(I,false),(I,false)],[Ag],true,XM N⟩:=
  have E:Env Tryz.prog Ay2:=Cj tab ⟨Ar8,trivial⟩ trivial (fun _ h=>by cases h)
  Ar (body:=Ap Tryz.f158) (Pc:=[(0,⟨An0,Ale,R4 N N⟩)]) E rfl mixed Tryz.func158 (by kernel_rfl) (by kernel_rfl) (by kernel_rfl) (by kernel_rfl) (fun A hA=>⟨AI (body:=At Tryz.f158 0) (inner:=[(2,⟨Amm,Aog,RS N N⟩)]) E mixed hA (by kernel_rfl) (by kernel_rfl) (by kernel_rfl) ⟨AI (body:=At Tryz.f158 2) (inner:=[(4,⟨Am3,Ao6,MT N N⟩)]) E mixed hA (by kernel_rfl) (by kernel_rfl) (by kernel_rfl) ⟨AI (body:=At Tryz.f158 4) (inner:=[]) E mixed hA (by kernel_rfl) (by kernel_rfl) (by kernel_rfl) trivial (fun _=>rfl) (fun _ _=>by kernel_rfl) N,trivial⟩ (fun _=>rfl) (fun _ _=>by kernel_rfl) N,trivial⟩ (fun _=>rfl) (fun _ _=>by kernel_rfl) N,trivial⟩) (fun _=>by kernel_rfl)
theorem ACw:Aa Tryz.prog 158 Auj:=Aa.less (fun N:Nat=>XM N) Abf XY
theorem ADy:A3 Tryz.prog 223 (Az2,{ gone:=[0],deep:=[] }):=VU (enters_of Tryz.func223 (by kernel_rfl) rfl) (fun w v1 v2 xs ys h1 h2 l1 l2=>eqH h1 h2 l1 l2) Al1 Ry
theorem Afl (N:Nat):Aa Tryz.prog 153 ⟨[(AA,false),(Ai,false)],[Ag],true,Xv N⟩:=
  have E:Env Tryz.prog Avi:=G9 tab ⟨D6,⟨SV,⟨Ar8,⟨AC6,⟨AE8,trivial⟩⟩⟩⟩⟩ trivial (fun _ h=>by cases h) ⟨ADy,trivial⟩ (by kernel_rfl)
  Ar (body:=Ap Tryz.f153) (Pc:=[(0,⟨An5,Anv,SC N N⟩),(6,⟨Aku,Aoq,Sd N N⟩)]) E rfl mixed Tryz.func153 (by kernel_rfl) (by kernel_rfl) (by kernel_rfl) (by kernel_rfl) (fun A hA=>⟨AI (body:=At Tryz.f153 0) (inner:=[(2,⟨Akv,Alc,Su N N⟩)]) E mixed hA (by kernel_rfl) (by kernel_rfl) (by kernel_rfl) ⟨AI (body:=At Tryz.f153 2) (inner:=[(4,⟨Aj2,Aoi,Sl N N⟩)]) E mixed hA (by kernel_rfl) (by kernel_rfl) (by kernel_rfl) ⟨AI (body:=At Tryz.f153 4) (inner:=[]) E mixed hA (by kernel_rfl) (by kernel_rfl) (by kernel_rfl) trivial (fun _=>rfl) (fun _ _=>by kernel_rfl) N,trivial⟩ (fun _=>rfl) (fun _ _=>by kernel_rfl) N,trivial⟩ (fun _=>rfl) (fun _ _=>by kernel_rfl) N,⟨AI (body:=At Tryz.f153 6) (inner:=[]) E mixed hA (by kernel_rfl) (by kernel_rfl) (by kernel_rfl) trivial (fun _=>rfl) (fun _ _=>by kernel_rfl) N,trivial⟩⟩) (fun _=>by kernel_rfl)
theorem ABi:Aa Tryz.prog 153 Ass:=Aa.less (fun N:Nat=>Xv N) Afl TE
theorem Aw0:Bt Tryz.prog Ah1:=Adr Aq8
theorem Aof (N:Nat):Aa Tryz.prog 219 ⟨[(Ag,false),(Ai,false),(EE,false)],[I,.bool],true,Ag1 N⟩:=
  have E:Env Tryz.prog ACf:=Cj tab trivial ⟨Aw0,trivial⟩ (fun _ h=>by cases h)
  Ar (body:=Ap Tryz.f219) (Pc:=[(0,⟨Aum,Asq,WZ N N⟩)]) E rfl mixed Tryz.func219 (by kernel_rfl) (by kernel_rfl) (by kernel_rfl) (by kernel_rfl) (fun A hA=>⟨AI (body:=At Tryz.f219 0) (inner:=[]) E mixed hA (by kernel_rfl) (by kernel_rfl) (by kernel_rfl) trivial (fun _=>rfl) (fun _ _=>by kernel_rfl) N,trivial⟩) (fun _=>by kernel_rfl)
theorem AEd:Aa Tryz.prog 219 Azy:=Aa.less (fun N:Nat=>Ag1 N) Aof UM
theorem Agp (N:Nat):Aa Tryz.prog 144 ⟨[(Bg,false),(Ai,false)],[I],true,TC N⟩:=
  have E:Env Tryz.prog Awx:=Av tab ⟨AEd,trivial⟩
  Ar (body:=Ap Tryz.f144) (Pc:=[]) E rfl mixed Tryz.func144 (by kernel_rfl) (by kernel_rfl) (by kernel_rfl) (by kernel_rfl) (fun A hA=>trivial) (fun _=>by kernel_rfl)
theorem ADh:Aa Tryz.prog 144 Aqz:=Agp 0
theorem Ad5 (N:Nat):A3 Tryz.prog 96 (⟨[(AA,false),(I,false)],[Bg],true,WG N⟩,md0):=
  have E:Env Tryz.prog Avc:=Av tab ⟨ADh,⟨ABi,⟨ACw,⟨Tv,trivial⟩⟩⟩⟩
  Sf (body:=Ap Tryz.f96) (Pc:=[(0,⟨Anr,Amb,RW N N⟩)]) E mixed Tryz.func96 (by kernel_rfl) (by kernel_rfl) (by kernel_rfl) (by kernel_rfl) (fun A hA=>⟨AI (body:=At Tryz.f96 0) (inner:=[(2,⟨Ape,Am6,RR N N⟩)]) E mixed hA (by kernel_rfl) (by kernel_rfl) (by kernel_rfl) ⟨AI (body:=At Tryz.f96 2) (inner:=[]) E mixed hA (by kernel_rfl) (by kernel_rfl) (by kernel_rfl) trivial (fun _=>rfl) (fun _ _=>by kernel_rfl) N,trivial⟩ (fun _=>rfl) (fun _ _=>by kernel_rfl) N,trivial⟩) (fun _=>by kernel_rfl)
theorem ABe:A3 Tryz.prog 96 (Aur,md0):=A3.less (fun N:Nat=>WG N) Ad5 Wt
theorem Ac2 (N:Nat):Aa Tryz.prog 243 ⟨[(I,false),(Ec,false),(OQ,false)],[.bool],true,VT N⟩:=
  have E:Env Tryz.prog Awa:=Cj tab ⟨Af2,⟨WA,trivial⟩⟩ trivial (Ahu (by kernel_rfl))
  Ar (body:=Ap Tryz.f243) (Pc:=[]) E rfl mixed Tryz.func243 (by kernel_rfl) (by kernel_rfl) (by kernel_rfl) (by kernel_rfl) (fun A hA=>trivial) (fun _=>by kernel_rfl)
theorem ABr:Aa Tryz.prog 243 AC3:=Ac2 0
theorem Avf:Bt Tryz.prog Agy:=Aaf ABr
theorem Acx (N:Nat):Aa Tryz.prog 248 ⟨[(Ai,false),(A4,false)],[I],true,VM N⟩:=
  have E:Env Tryz.prog Au6:=Cj tab trivial ⟨Avf,trivial⟩ (fun _ h=>by cases h)
  Ar (body:=Ap Tryz.f248) (Pc:=[(0,⟨Am9,Alp,RI N N⟩)]) E rfl mixed Tryz.func248 (by kernel_rfl) (by kernel_rfl) (by kernel_rfl) (by kernel_rfl) (fun A hA=>⟨AI (body:=At Tryz.f248 0) (inner:=[]) E mixed hA (by kernel_rfl) (by kernel_rfl) (by kernel_rfl) trivial (fun _=>rfl) (fun _ _=>by kernel_rfl) N,trivial⟩) (fun _=>by kernel_rfl)
theorem ABv:Aa Tryz.prog 248 Atx:=Aa.less (fun N:Nat=>VM N) Acx Yp
theorem Afj (N:Nat):Aa Tryz.prog 214 ⟨[(Ai,false),(A4,false)],[.bool],true,XB N⟩:=
  have E:Env Tryz.prog Avx:=Av tab ⟨ABv,trivial⟩
  Ar (body:=Ap Tryz.f214) (Pc:=[]) E rfl mixed Tryz.func214 (by kernel_rfl) (by kernel_rfl) (by kernel_rfl) (by kernel_rfl) (fun A hA=>trivial) (fun _=>by kernel_rfl)
theorem AA4:Aa Tryz.prog 214 Au3:=Afj 0
theorem Afi (N:Nat):Aa Tryz.prog 192 ⟨[(Bg,false),(I,false),(I,false)],[.bool],true,TO N⟩:=
  have E:Env Tryz.prog Avy:=Cj tab ⟨AA4,trivial⟩ trivial (Ahu (by kernel_rfl))
  Ar (body:=Ap Tryz.f192) (Pc:=[]) E rfl mixed Tryz.func192 (by kernel_rfl) (by kernel_rfl) (by kernel_rfl) (by kernel_rfl) (fun A hA=>trivial) (fun _=>by kernel_rfl)
theorem ADi:Aa Tryz.prog 192 Auv:=Afi 0
theorem Abh (N:Nat):A3 Tryz.prog 103 (⟨[(AA,false),(I,false)],[Bg],true,V7 N⟩,md0):=
  have E:Env Tryz.prog Aw1:=G9 tab ⟨Tv,⟨Au1,⟨ADi,trivial⟩⟩⟩ trivial (fun _ h=>by cases h) ⟨ABe,trivial⟩ (by kernel_rfl)
  Sf (body:=Ap Tryz.f103) (Pc:=[(0,⟨Anc,Aiz,R7 N N⟩),(4,⟨Aje,Ai6,R2 N N⟩)]) E mixed Tryz.func103 (by kernel_rfl) (by kernel_rfl) (by kernel_rfl) (by kernel_rfl) (fun A hA=>⟨AI (body:=At Tryz.f103 0) (inner:=[(2,⟨Amo,Aoz,Sw N N⟩)]) E mixed hA (by kernel_rfl) (by kernel_rfl) (by kernel_rfl) ⟨AI (body:=At Tryz.f103 2) (inner:=[]) E mixed hA (by kernel_rfl) (by kernel_rfl) (by kernel_rfl) trivial (fun _=>rfl) (fun _ _=>by kernel_rfl) N,trivial⟩ (fun _=>rfl) (fun _ _=>by kernel_rfl) N,⟨AI (body:=At Tryz.f103 4) (inner:=[(6,⟨Anq,Alm,Sb N N⟩),(10,⟨Aez,Adt,Nd N N⟩)]) E mixed hA (by kernel_rfl) (by kernel_rfl) (by kernel_rfl) ⟨AI (body:=At Tryz.f103 6) (inner:=[(8,⟨Ajg,Anh,Ss N N⟩)]) E mixed hA (by kernel_rfl) (by kernel_rfl) (by kernel_rfl) ⟨AI (body:=At Tryz.f103 8) (inner:=[]) E mixed hA (by kernel_rfl) (by kernel_rfl) (by kernel_rfl) trivial (fun _=>rfl) (fun _ _=>by kernel_rfl) N,trivial⟩ (fun _=>rfl) (fun _ _=>by kernel_rfl) N,⟨AI (body:=At Tryz.f103 10) (inner:=[]) E mixed hA (by kernel_rfl) (by kernel_rfl) (by kernel_rfl) trivial (fun _=>rfl) (fun _ _=>by kernel_rfl) N,trivial⟩⟩ (fun _=>rfl) (fun _ _=>by kernel_rfl) N,trivial⟩⟩) (fun _=>by kernel_rfl)
theorem ABy:A3 Tryz.prog 103 (Asf,md0):=A3.less (fun N:Nat=>V7 N) Abh ZI
theorem Abl (N:Nat):Aa Tryz.prog 30 ⟨[(Aj,false),(I,false)],[Ag,.bool],true,PX N⟩:=
  have E:Env Tryz.prog Axo:=G9 tab ⟨AAz,⟨IW,trivial⟩⟩ trivial (fun _ h=>by cases h) ⟨ABy,trivial⟩ (by kernel_rfl)
  Ar (body:=Ap Tryz.f30) (Pc:=[]) E rfl mixed Tryz.func30 (by kernel_rfl) (by kernel_rfl) (by kernel_rfl) (by kernel_rfl) (fun A hA=>trivial) (fun _=>by kernel_rfl)
theorem AA6:Aa Tryz.prog 30 Auf:=Abl 0
theorem Abr (N:Nat):Aa Tryz.prog 177 ⟨[(AY,true)],[I],true,QP N⟩:=
  have E:Env Tryz.prog Avm:=Av tab ⟨Ov,trivial⟩
  Ar (body:=Ap Tryz.f177) (Pc:=[]) E rfl mixed Tryz.func177 (by kernel_rfl) (by kernel_rfl) (by kernel_rfl) (by kernel_rfl) (fun A hA=>trivial) (fun _=>by kernel_rfl)
theorem At4:Aa Tryz.prog 177 Aax:=Abr 0
theorem Acv (N:Nat):Aa Tryz.prog 173 ⟨[(K_Su8,false)],[Ae,I],false,SG N⟩:=
  have E:Env Tryz.prog Aw4:=Av tab ⟨Adc,⟨At4,trivial⟩⟩
  Ar (body:=Ap Tryz.f173) (Pc:=[]) E rfl mixed Tryz.func173 (by kernel_rfl) (by kernel_rfl) (by kernel_rfl) (by kernel_rfl) (fun A hA=>trivial) (fun _=>by kernel_rfl)
theorem ABs:Aa Tryz.prog 173 Atm:=Acv 0
theorem Afu (N:Nat):Aa Tryz.prog 81 ⟨[(K_Su8,false)],[Ae,I],false,IY N⟩:=
  have E:Env Tryz.prog Aye:=Av tab ⟨ABs,trivial⟩
  Ar (body:=Ap Tryz.f81) (Pc:=[]) E rfl mixed Tryz.func81 (by kernel_rfl) (by kernel_rfl) (by kernel_rfl) (by kernel_rfl) (fun A hA=>trivial) (fun _=>by kernel_rfl)
theorem AB4:Aa Tryz.prog 81 Arm:=Afu 0
theorem Acj (N:Nat):Aa Tryz.prog 174 ⟨[(I,false)],[.bool],true,X0 N⟩:=
  have E:Env Tryz.prog Azb:=Av tab ⟨M9,trivial⟩
  Ar (body:=Ap Tryz.f174) (Pc:=[]) E rfl mixed Tryz.func174 (by kernel_rfl) (by kernel_rfl) (by kernel_rfl) (by kernel_rfl) (fun A hA=>trivial) (fun _=>by kernel_rfl)
theorem Aex:Aa Tryz.prog 174 WH:=Aa.less (fun N:Nat=>X0 N) Acj (fun d r h=>⟨0,(Aaj 0 d).trans h⟩)
theorem Aa2 (N:Nat):Aa Tryz.prog 175 ⟨[(Ai,false)],[I],true,Wc N⟩:=
  have E:Env Tryz.prog Avk:=Av tab trivial
  Ar (body:=Ap Tryz.f175) (Pc:=[(0,⟨Apd,Aiq,KJ N N⟩)]) E rfl mixed Tryz.func175 (by kernel_rfl) (by kernel_rfl) (by kernel_rfl) (by kernel_rfl) (fun A hA=>⟨AI (body:=At Tryz.f175 0) (inner:=[]) E mixed hA (by kernel_rfl) (by kernel_rfl) (by kernel_rfl) trivial (fun _=>rfl) (fun _ _=>by kernel_rfl) N,trivial⟩) (fun _=>by kernel_rfl)
theorem ABp:Aa Tryz.prog 175 Asy:=Aa.less (fun N:Nat=>Wc N) Aa2 Av8
theorem Af9 (N:Nat):Aa Tryz.prog 82 ⟨[(Ae,false),(I,false)],[I,I,.bool],true,Xx N⟩:=
  have E:Env Tryz.prog Au4:=Cj tab ⟨O0,⟨Af2,⟨Tn,⟨Acz,⟨Aex,⟨ABp,trivial⟩⟩⟩⟩⟩⟩ trivial (fun _ h=>by cases h)
  Ar (body:=Ap Tryz.f82) (Pc:=[(0,⟨Al7,An7,I4 N N⟩)]) E rfl mixed Tryz.func82 (by kernel_rfl) (by kernel_rfl) (by kernel_rfl) (by kernel_rfl) (fun A hA=>⟨AI (body:=At Tryz.f82 0) (inner:=[]) E mixed hA (by kernel_rfl) (by kernel_rfl) (by kernel_rfl) trivial (fun _=>rfl) (fun _ _=>by kernel_rfl) N,trivial⟩) (fun _=>by kernel_rfl)
theorem ADk:Aa Tryz.prog 82 Ar7:=Aa.less (fun N:Nat=>Xx N) Af9 Za
theorem Afg (N:Nat):Aa Tryz.prog 176 ⟨[(I,false)],[.bool],true,XX N⟩:=
  have E:Env Tryz.prog Axz:=Av tab ⟨DW,trivial⟩
  Ar (body:=Ap Tryz.f176) (Pc:=[]) E rfl mixed Tryz.func176 (by kernel_rfl) (by kernel_rfl) (by kernel_rfl) (by kernel_rfl) (fun A hA=>trivial) (fun _=>by kernel_rfl)
theorem Apu:Aa Tryz.prog 176 Afa:=Aa.less (fun N:Nat=>XX N) Afg (fun d r h=>⟨0,(Af8 0 d).trans h⟩)
theorem Z2 (N:Nat):Aa Tryz.prog 137 ⟨[(Ai,false)],[I],true,R9 N⟩:=
  have E:Env Tryz.prog Atu:=Av tab ⟨VZ,trivial⟩
  Ar (body:=Ap Tryz.f137) (Pc:=[(0,⟨Aej,Agf,ES N N⟩)]) E rfl mixed Tryz.func137 (by kernel_rfl) (by kernel_rfl) (by kernel_rfl) (by kernel_rfl) (fun A hA=>⟨AI (body:=At Tryz.f137 0) (inner:=[]) E mixed hA (by kernel_rfl) (by kernel_rfl) (by kernel_rfl) trivial (fun _=>rfl) (fun _ _=>by kernel_rfl) N,trivial⟩) (fun _=>by kernel_rfl)
theorem Au5:Aa Tryz.prog 137 Ag4:=Aa.less (fun N:Nat=>R9 N) Z2 YP
theorem Agc (N:Nat):Aa Tryz.prog 83 ⟨[(Ae,false),(I,false)],[I,I,.bool],true,X4 N⟩:=
  have E:Env Tryz.prog Awb:=Cj tab ⟨Au5,⟨WP,⟨Abx,⟨Apu,trivial⟩⟩⟩⟩ trivial (fun _ h=>by cases h)
  Ar (body:=Ap Tryz.f83) (Pc:=[(0,⟨Ajt,Al9,Lj N N⟩)]) E rfl mixed Tryz.func83 (by kernel_rfl) (by kernel_rfl) (by kernel_rfl) (by kernel_rfl) (fun A hA=>⟨AI (body:=At Tryz.f83 0) (inner:=[]) E mixed hA (by kernel_rfl) (by kernel_rfl) (by kernel_rfl) trivial (fun _=>rfl) (fun _ _=>by kernel_rfl) N,trivial⟩) (fun _=>by kernel_rfl)
theorem Az5:Aa Tryz.prog 83 Aqv:=Aa.less (fun N:Nat=>X4 N) Agc ZR
theorem Aew (N:Nat):Aa Tryz.prog 93 ⟨[(AY,true),(Aj,false)],[I],true,PZ N⟩:=
  have E:Env Tryz.prog Ayq:=Av tab ⟨Afy,⟨L2,⟨Ov,trivial⟩⟩⟩
  Ar (body:=Ap Tryz.f93) (Pc:=[]) E rfl mixed Tryz.func93 (by kernel_rfl) (by kernel_rfl) (by kernel_rfl) (by kernel_rfl) (fun A hA=>trivial) (fun _=>by kernel_rfl)
theorem AC9:Aa Tryz.prog 93 Aut:=Aew 0
theorem Afe (N:Nat):Aa Tryz.prog 84 ⟨[(K_Su8,false)],[Ae,I,I,I],false,Ji N⟩:=
  have E:Env Tryz.prog Ay0:=Av tab ⟨AC9,⟨Adc,⟨At4,trivial⟩⟩⟩
  Ar (body:=Ap Tryz.f84) (Pc:=[]) E rfl mixed Tryz.func84 (by kernel_rfl) (by kernel_rfl) (by kernel_rfl) (by kernel_rfl) (fun A hA=>trivial) (fun _=>by kernel_rfl)
theorem AAl:Aa Tryz.prog 84 Aqw:=Afe 0
theorem Aep (N:Nat):Aa Tryz.prog 178 ⟨[(Ae,false),(I,false),(Ai,false)],[.bool],true,Up N⟩:=
  have E:Env Tryz.prog Axt:=Av tab ⟨O0,⟨Afk,⟨Aex,trivial⟩⟩⟩
  Ar (body:=Ap Tryz.f178) (Pc:=[]) E rfl mixed Tryz.func178 (by kernel_rfl) (by kernel_rfl) (by kernel_rfl) (by kernel_rfl) (fun A hA=>trivial) (fun _=>by kernel_rfl)
theorem AAv:Aa Tryz.prog 178 Arn:=Aep 0
theorem Ab6 (N:Nat):Aa Tryz.prog 85 ⟨[(Ae,false),(I,false),(I,false),(I,false)],[I,.bool],true,XG N⟩:=
  have E:Env Tryz.prog Av6:=Av tab ⟨D6,⟨SV,⟨Tn,⟨Acz,⟨AAv,⟨WA,trivial⟩⟩⟩⟩⟩⟩
  Ar (body:=Ap Tryz.f85) (Pc:=[(0,⟨Ak8,Aov,Ky N N⟩)]) E rfl mixed Tryz.func85 (by kernel_rfl) (by kernel_rfl) (by kernel_rfl) (by kernel_rfl) (fun A hA=>⟨AI (body:=At Tryz.f85 0) (inner:=[]) E mixed hA (by kernel_rfl) (by kernel_rfl) (by kernel_rfl) trivial (fun _=>rfl) (fun _ _=>by kernel_rfl) N,trivial⟩) (fun _=>by kernel_rfl)
theorem AAu:Aa Tryz.prog 85 Arr:=Aa.less (fun N:Nat=>XG N) Ab6 UQ
theorem Z8 (N:Nat):Aa Tryz.prog 132 ⟨[(Aj,false),(I,false)],[.bool],true,SE N⟩:=
  have E:Env Tryz.prog Aso:=Av tab ⟨DW,trivial⟩
  Ar (body:=Ap Tryz.f132) (Pc:=[]) E rfl mixed Tryz.func132 (by kernel_rfl) (by kernel_rfl) (by kernel_rfl) (by kernel_rfl) (fun A hA=>trivial) (fun _=>by kernel_rfl)
theorem Ax9:Aa Tryz.prog 132 Ah0:=Aa.less (fun N:Nat=>SE N) Z8 (fun d r h=>⟨0,(Zi 0 d).trans h⟩)
theorem Aee (N:Nat):Aa Tryz.prog 86 ⟨[(Ae,false),(I,false),(I,false),(I,false)],[I,.bool],true,XV N⟩:=
  have E:Env Tryz.prog Awc:=Av tab ⟨Ax9,⟨WP,⟨Ad0,⟨Abx,⟨Apu,⟨Aaq,trivial⟩⟩⟩⟩⟩⟩
  Ar (body:=Ap Tryz.f86) (Pc:=[(0,⟨Alu,Akt,KT N N⟩)]) E rfl mixed Tryz.func86 (by kernel_rfl) (by kernel_rfl) (by kernel_rfl) (by kernel_rfl) (fun A hA=>⟨AI (body:=At Tryz.f86 0) (inner:=[]) E mixed hA (by kernel_rfl) (by kernel_rfl) (by kernel_rfl) trivial (fun _=>rfl) (fun _ _=>by kernel_rfl) N,trivial⟩) (fun _=>by kernel_rfl)
theorem AAd:Aa Tryz.prog 86 Ars:=Aa.less (fun N:Nat=>XV N) Aee UA
theorem YQ (N:Nat):Aa Tryz.prog 237 ⟨[(AA,false),(I,false),(I,false)],[.bool],true,R0 N⟩:=
  have E:Env Tryz.prog Apl:=Av tab trivial
  Ar (body:=Ap Tryz.f237) (Pc:=[]) E rfl mixed Tryz.func237 (by kernel_rfl) (by kernel_rfl) (by kernel_rfl) (by kernel_rfl) (fun A hA=>trivial) (fun _=>by kernel_rfl)
theorem Ayk:Aa Tryz.prog 237 Ave:=YQ 0
theorem At9:Bt Tryz.prog Zk:=Ade Ayk
theorem Ae7 (N:Nat):Aa Tryz.prog 236 ⟨[(I,false),(Ch,false)],[Aj],true,Wd N⟩:=
  have E:Env Tryz.prog Avh:=Cj tab trivial ⟨At9,trivial⟩ (fun _ h=>by cases h)
  Ar (body:=Ap Tryz.f236) (Pc:=[(0,⟨Ain,Apg,KB N N⟩)]) E rfl mixed Tryz.func236 (by kernel_rfl) (by kernel_rfl) (by kernel_rfl) (by kernel_rfl) (fun A hA=>⟨AI (body:=At Tryz.f236 0) (inner:=[(2,⟨Aj3,Aim,KW N N⟩)]) E mixed hA (by kernel_rfl) (by kernel_rfl) (by kernel_rfl) ⟨AI (body:=At Tryz.f236 2) (inner:=[]) E mixed hA (by kernel_rfl) (by kernel_rfl) (by kernel_rfl) trivial (fun _=>rfl) (fun _ _=>by kernel_rfl) N,trivial⟩ (fun _=>rfl) (fun _ _=>by kernel_rfl) N,trivial⟩) (fun _=>by kernel_rfl)
theorem ACb:Aa Tryz.prog 236 Aro:=Aa.less (fun N:Nat=>Wd N) Ae7 T3
theorem Ac8 (N:Nat):Aa Tryz.prog 181 ⟨[(AA,false)],[Aj],true,TV N⟩:=
  have E:Env Tryz.prog Axr:=Av tab ⟨Tv,⟨ACb,trivial⟩⟩
  Ar (body:=Ap Tryz.f181) (Pc:=[]) E rfl mixed Tryz.func181 (by kernel_rfl) (by kernel_rfl) (by kernel_rfl) (by kernel_rfl) (fun A hA=>trivial) (fun _=>by kernel_rfl)
theorem AAj:Aa Tryz.prog 181 Aui:=Ac8 0
theorem Abd (N:Nat):Aa Tryz.prog 87 ⟨[(Ae,false),(I,false)],[Aj,.bool],true,JM N⟩:=
  have E:Env Tryz.prog Ayw:=Av tab ⟨O0,⟨Tn,⟨Aex,⟨AAj,trivial⟩⟩⟩⟩
  Ar (body:=Ap Tryz.f87) (Pc:=[]) E rfl mixed Tryz.func87 (by kernel_rfl) (by kernel_rfl) (by kernel_rfl) (by kernel_rfl) (fun A hA=>trivial) (fun _=>by kernel_rfl)
theorem ACh:Aa Tryz.prog 87 Atg:=Abd 0
theorem Aet (N:Nat):Aa Tryz.prog 106 ⟨[(Aj,false),(Ai,false)],[.bool],true,Tb N⟩:=
  have E:Env Tryz.prog Axf:=Av tab ⟨WO,⟨Afk,trivial⟩⟩
  Ar (body:=Ap Tryz.f106) (Pc:=[]) E rfl mixed Tryz.func106 (by kernel_rfl) (by kernel_rfl) (by kernel_rfl) (by kernel_rfl) (fun A hA=>trivial) (fun _=>by kernel_rfl)
theorem ABl:Aa Tryz.prog 106 Atb:=Aet 0
theorem Aft (N:Nat):Aa Tryz.prog 72 ⟨[(Aj,false),(I,false)],[Ai,.bool],true,Mm N⟩:=
  have E:Env Tryz.prog Ayo:=Av tab ⟨IW,⟨ABl,⟨D6,trivial⟩⟩⟩
  Ar (body:=Ap Tryz.f72) (Pc:=[]) E rfl mixed Tryz.func72 (by kernel_rfl) (by kernel_rfl) (by kernel_rfl) (by kernel_rfl) (fun A hA=>trivial) (fun _=>by kernel_rfl)
theorem ABf:Aa Tryz.prog 72 Atj:=Aft 0
theorem IX (N:Nat):Aa Tryz.prog 8 ⟨[(K_Su8,false)],[.bool],true,B6 N⟩:=
  have E:Env Tryz.prog LB:=Cj tab ⟨ZT,⟨AA6,⟨Ahg,⟨ABf,⟨ADf,⟨AAn,⟨ACs,⟨O0,⟨ACm,⟨Asn,⟨VX,⟨ACe,⟨AB4,⟨ADk,⟨Az5,⟨AAl,⟨AAu,⟨AAd,⟨ACh,trivial⟩⟩⟩⟩⟩⟩⟩⟩⟩⟩⟩⟩⟩⟩⟩⟩⟩⟩⟩ trivial (fun _ h=>by cases h)
  Ar (body:=Ap Tryz.f8) (Pc:=[(0,⟨JH,JI,C3 N N⟩),(6,⟨JD,Jy,BQ N N⟩)]) E rfl mixed Tryz.func8 (by kernel_rfl) (by kernel_rfl) (by kernel_rfl) (by kernel_rfl) (fun A hA=>⟨AI (body:=At Tryz.f8 0) (inner:=[(2,⟨JC,JB,C1 N N⟩)]) E mixed hA (by kernel_rfl) (by kernel_rfl) (by kernel_rfl) ⟨AI (body:=At Tryz.f8 2) (inner:=[(4,⟨JA,JF,CZ N N⟩)]) E mixed hA (by kernel_rfl) (by kernel_rfl) (by kernel_rfl) ⟨AI (body:=At Tryz.f8 4) (inner:=[]) E mixed hA (by kernel_rfl) (by kernel_rfl) (by kernel_rfl) trivial (fun _=>rfl) (fun _ _=>by kernel_rfl) N,trivial⟩ (fun _=>rfl) (fun _ _=>by kernel_rfl) N,trivial⟩ (fun _=>rfl) (fun _ _=>by kernel_rfl) N,⟨AI (body:=At Tryz.f8 6) (inner:=[]) E mixed hA (by kernel_rfl) (by kernel_rfl) (by kernel_rfl) trivial (fun _=>rfl) (fun _ _=>by kernel_rfl) N,trivial⟩⟩) (fun _=>by kernel_rfl)
theorem C_laws_FnTimedGame:Aa Tryz.prog 8 LR:=Aa.less (fun N:Nat=>B6 N) IX Xh
end Go.V.W
end
