/- What the law FnTimedGame leans on, part 9: an interpreter of the model as plain data, its soundness, the functions as it tells them, and their laws. -/
import Derived.Shelf.Lays
import Derived.Shelf.LaysM
import Derived.Shelf.SortM.Plain
import Derived.Shelf.SortM.SortNone
import Derived.Shelf.SlSortCmp.NoneTotal
import Derived.Test.YtnieoolfkakmdaaGreatVH
set_option linter.unusedVariables false
set_option linter.unusedSimpArgs false
set_option maxRecDepth 100000
noncomputable section
namespace Go.V.W
open Go.Proofs Go.Shelf Go.RowKit
-- import Derived.Shelf.Lays
-- import Derived.Shelf.LaysM
-- import Derived.Test.XvLib3
-- import Derived.Shelf.SortM.Plain
-- import Derived.Shelf.SortM.SortNone
-- import Derived.Shelf.SlSortCmp.NoneTotal
def Ang:Go.Shelf.Ren:=
{
  f:=fun x=>
    match x with
    | 5=>221
    | 8=>252
    | 7=>251
    | 19=>268
    | 20=>269
    | 10=>260
    | 11=>261
    | 12=>262
    | 13=>263
    | 14=>264
    | 15=>265
    | 16=>250
    | 17=>266
    | 18=>267
    | 30=>280
    | 31=>281
    | 32=>282
    | 33=>283
    | 34=>284
    | 35=>258
    | 40=>288
    | n=>n,
  t:=fun x=>
    match x with
    | 23=>36
    | 25=>3
    | 3=>3
    | 32=>192
    | 22=>36
    | 0=>0
    | 44=>199
    | 46=>94
    | 4=>4
    | 36=>206
    | 35=>205
    | 41=>39
    | 5=>5
    | 9=>9
    | 53=>222
    | 57=>226
    | 63=>230
    | 64=>231
    | n=>n,
  g:=fun x=>
    x }
set_option maxRecDepth 1000000 in
theorem Azm:Go.Proofs.SlLaysM.n5 Go.Proofs.Tryz.prog Ang:=
{ mixed:=by kernel_rfl,
  f5:=⟨Go.Proofs.Tryz.f221.name,of_decide_eq_true (by kernel_rfl),(Go.Proofs.Tryz.func221).trans (congrArg some (by kernel_rfl))⟩,
  f7:=⟨Go.Proofs.Tryz.f251.name,of_decide_eq_true (by kernel_rfl),(Go.Proofs.Tryz.func251).trans (congrArg some (by kernel_rfl))⟩,
  f8:=(Go.Proofs.Tryz.func252).trans (congrArg some (by kernel_rfl)),
  f10:=⟨Go.Proofs.Tryz.f260.name,of_decide_eq_true (by kernel_rfl),(Go.Proofs.Tryz.func260).trans (congrArg some (by kernel_rfl))⟩,
  f11:=⟨Go.Proofs.Tryz.f261.name,of_decide_eq_true (by kernel_rfl),(Go.Proofs.Tryz.func261).trans (congrArg some (by kernel_rfl))⟩,
  f12:=⟨Go.Proofs.Tryz.f262.name,of_decide_eq_true (by kernel_rfl),(Go.Proofs.Tryz.func262).trans (congrArg some (by kernel_rfl))⟩,
  f13:=⟨Go.Proofs.Tryz.f263.name,of_decide_eq_true (by kernel_rfl),(Go.Proofs.Tryz.func263).trans (congrArg some (by kernel_rfl))⟩,
  f14:=⟨Go.Proofs.Tryz.f264.name,of_decide_eq_true (by kernel_rfl),(Go.Proofs.Tryz.func264).trans (congrArg some (by kernel_rfl))⟩,
  f15:=⟨Go.Proofs.Tryz.f265.name,of_decide_eq_true (by kernel_rfl),(Go.Proofs.Tryz.func265).trans (congrArg some (by kernel_rfl))⟩,
  f16:=⟨Go.Proofs.Tryz.f250.name,of_decide_eq_true (by kernel_rfl),(Go.Proofs.Tryz.func250).trans (congrArg some (by kernel_rfl))⟩,
  f17:=⟨Go.Proofs.Tryz.f266.name,of_decide_eq_true (by kernel_rfl),(Go.Proofs.Tryz.func266).trans (congrArg some (by kernel_rfl))⟩,
  f18:=⟨Go.Proofs.Tryz.f267.name,of_decide_eq_true (by kernel_rfl),(Go.Proofs.Tryz.func267).trans (congrArg some (by kernel_rfl))⟩,
  f19:=(Go.Proofs.Tryz.func268).trans (congrArg some (by kernel_rfl)),
  f20:=(Go.Proofs.Tryz.func269).trans (congrArg some (by kernel_rfl)),
  f30:=⟨Go.Proofs.Tryz.f280.name,of_decide_eq_true (by kernel_rfl),(Go.Proofs.Tryz.func280).trans (congrArg some (by kernel_rfl))⟩,
  f31:=(Go.Proofs.Tryz.func281).trans (congrArg some (by kernel_rfl)),
  f32:=(Go.Proofs.Tryz.func282).trans (congrArg some (by kernel_rfl)),
  f33:=⟨Go.Proofs.Tryz.f283.name,of_decide_eq_true (by kernel_rfl),(Go.Proofs.Tryz.func283).trans (congrArg some (by kernel_rfl))⟩,
  f34:=⟨Go.Proofs.Tryz.f284.name,of_decide_eq_true (by kernel_rfl),(Go.Proofs.Tryz.func284).trans (congrArg some (by kernel_rfl))⟩,
  f35:=⟨Go.Proofs.Tryz.f258.name,of_decide_eq_true (by kernel_rfl),(Go.Proofs.Tryz.func258).trans (congrArg some (by kernel_rfl))⟩,
  f40:=⟨Go.Proofs.Tryz.f288.name,of_decide_eq_true (by kernel_rfl),(Go.Proofs.Tryz.func288).trans (congrArg some (by kernel_rfl))⟩,
  t0:=Go.Proofs.Tryz.underlying0,
  a0:=Go.Proofs.Tryz.isAgg0,
  z0:=Go.Proofs.Tryz.sizeOf0,
  v0:=Go.Proofs.Tryz.zeroValue0,
  t3:=Go.Proofs.Tryz.underlying3,
  a3:=Go.Proofs.Tryz.isAgg3,
  z3:=Go.Proofs.Tryz.sizeOf3,
  v3:=Go.Proofs.Tryz.zeroValue3,
  t4:=Go.Proofs.Tryz.underlying4,
  a4:=Go.Proofs.Tryz.isAgg4,
  z4:=Go.Proofs.Tryz.sizeOf4,
  v4:=Go.Proofs.Tryz.zeroValue4,
  t5:=Go.Proofs.Tryz.underlying5,
  a5:=Go.Proofs.Tryz.isAgg5,
  z5:=Go.Proofs.Tryz.sizeOf5,
  v5:=Go.Proofs.Tryz.zeroValue5,
  t9:=Go.Proofs.Tryz.underlying9,
  a9:=Go.Proofs.Tryz.isAgg9,
  z9:=Go.Proofs.Tryz.sizeOf9,
  v9:=Go.Proofs.Tryz.zeroValue9,
  t22:=Go.Proofs.Tryz.underlying36,
  a22:=Go.Proofs.Tryz.isAgg36,
  z22:=Go.Proofs.Tryz.sizeOf36,
  v22:=Go.Proofs.Tryz.zeroValue36,
  t23:=Go.Proofs.Tryz.underlying36,
  a23:=Go.Proofs.Tryz.isAgg36,
  z23:=Go.Proofs.Tryz.sizeOf36,
  v23:=Go.Proofs.Tryz.zeroValue36,
  t25:=Go.Proofs.Tryz.underlying3,
  a25:=Go.Proofs.Tryz.isAgg3,
  z25:=Go.Proofs.Tryz.sizeOf3,
  v25:=Go.Proofs.Tryz.zeroValue3,
  t32:=Go.Proofs.Tryz.underlying192,
  a32:=Go.Proofs.Tryz.isAgg192,
  z32:=Go.Proofs.Tryz.sizeOf192,
  v32:=Go.Proofs.Tryz.zeroValue192,
  t35:=Go.Proofs.Tryz.underlying205,
  a35:=Go.Proofs.Tryz.isAgg205,
  z35:=Go.Proofs.Tryz.sizeOf205,
  v35:=Go.Proofs.Tryz.zeroValue205,
  t36:=Go.Proofs.Tryz.underlying206,
  a36:=Go.Proofs.Tryz.isAgg206,
  z36:=Go.Proofs.Tryz.sizeOf206,
  v36:=Go.Proofs.Tryz.zeroValue206,
  t41:=Go.Proofs.Tryz.underlying39,
  a41:=Go.Proofs.Tryz.isAgg39,
  z41:=Go.Proofs.Tryz.sizeOf39,
  v41:=Go.Proofs.Tryz.zeroValue39,
  t44:=Go.Proofs.Tryz.underlying199,
  a44:=Go.Proofs.Tryz.isAgg199,
  z44:=Go.Proofs.Tryz.sizeOf199,
  v44:=Go.Proofs.Tryz.zeroValue199,
  t46:=Go.Proofs.Tryz.underlying94,
  a46:=Go.Proofs.Tryz.isAgg94,
  z46:=Go.Proofs.Tryz.sizeOf94,
  v46:=Go.Proofs.Tryz.zeroValue94,
  t53:=Go.Proofs.Tryz.underlying222,
  a53:=Go.Proofs.Tryz.isAgg222,
  z53:=Go.Proofs.Tryz.sizeOf222,
  v53:=Go.Proofs.Tryz.zeroValue222,
  t57:=Go.Proofs.Tryz.underlying226,
  a57:=Go.Proofs.Tryz.isAgg226,
  z57:=Go.Proofs.Tryz.sizeOf226,
  v57:=Go.Proofs.Tryz.zeroValue226,
  t63:=Go.Proofs.Tryz.underlying230,
  a63:=Go.Proofs.Tryz.isAgg230,
  z63:=Go.Proofs.Tryz.sizeOf230,
  v63:=Go.Proofs.Tryz.zeroValue230,
  t64:=Go.Proofs.Tryz.underlying231,
  a64:=Go.Proofs.Tryz.isAgg231,
  z64:=Go.Proofs.Tryz.sizeOf231,
  v64:=Go.Proofs.Tryz.zeroValue231 }
def Am8:Go.Shelf.Ren:=
{
  f:=fun x=>
    match x with
    | 6=>222
    | 15=>252
    | 14=>253
    | 28=>268
    | 29=>269
    | 20=>270
    | 21=>271
    | 22=>272
    | 23=>273
    | 24=>274
    | 25=>275
    | 26=>276
    | 27=>277
    | 46=>285
    | 47=>281
    | 48=>282
    | 49=>286
    | 50=>287
    | 57=>289
    | n=>n,
  t:=fun x=>
    match x with
    | 22=>27
    | 24=>36
    | 25=>167
    | 3=>3
    | 39=>192
    | 0=>0
    | 53=>199
    | 55=>94
    | 4=>4
    | 46=>206
    | 45=>205
    | 50=>39
    | 5=>5
    | 9=>9
    | 66=>222
    | 70=>226
    | 76=>230
    | 77=>231
    | n=>n,
  g:=fun x=>
    x }
set_option maxRecDepth 1000000 in
theorem Az3:Go.Proofs.SlLaysF.n6 Go.Proofs.Tryz.prog Am8:=
{ mixed:=by kernel_rfl,
  f6:=⟨Go.Proofs.Tryz.f222.name,of_decide_eq_true (by kernel_rfl),(Go.Proofs.Tryz.func222).trans (congrArg some (by kernel_rfl))⟩,
  f14:=⟨Go.Proofs.Tryz.f253.name,of_decide_eq_true (by kernel_rfl),(Go.Proofs.Tryz.func253).trans (congrArg some (by kernel_rfl))⟩,
  f15:=(Go.Proofs.Tryz.func252).trans (congrArg some (by kernel_rfl)),
  f20:=⟨Go.Proofs.Tryz.f270.name,of_decide_eq_true (by kernel_rfl),(Go.Proofs.Tryz.func270).trans (congrArg some (by kernel_rfl))⟩,
  f21:=⟨Go.Proofs.Tryz.f271.name,of_decide_eq_true (by kernel_rfl),(Go.Proofs.Tryz.func271).trans (congrArg some (by kernel_rfl))⟩,
  f22:=⟨Go.Proofs.Tryz.f272.name,of_decide_eq_true (by kernel_rfl),(Go.Proofs.Tryz.func272).trans (congrArg some (by kernel_rfl))⟩,
  f23:=⟨Go.Proofs.Tryz.f273.name,of_decide_eq_true (by kernel_rfl),(Go.Proofs.Tryz.func273).trans (congrArg some (by kernel_rfl))⟩,
  f24:=⟨Go.Proofs.Tryz.f274.name,of_decide_eq_true (by kernel_rfl),(Go.Proofs.Tryz.func274).trans (congrArg some (by kernel_rfl))⟩,
  f25:=⟨Go.Proofs.Tryz.f275.name,of_decide_eq_true (by kernel_rfl),(Go.Proofs.Tryz.func275).trans (congrArg some (by kernel_rfl))⟩,
  f26:=⟨Go.Proofs.Tryz.f276.name,of_decide_eq_true (by kernel_rfl),(Go.Proofs.Tryz.func276).trans (congrArg some (by kernel_rfl))⟩,
  f27:=⟨Go.Proofs.Tryz.f277.name,of_decide_eq_true (by kernel_rfl),(Go.Proofs.Tryz.func277).trans (congrArg some (by kernel_rfl))⟩,
  f28:=(Go.Proofs.Tryz.func268).trans (congrArg some (by kernel_rfl)),
  f29:=(Go.Proofs.Tryz.func269).trans (congrArg some (by kernel_rfl)),
  f46:=⟨Go.Proofs.Tryz.f285.name,of_decide_eq_true (by kernel_rfl),(Go.Proofs.Tryz.func285).trans (congrArg some (by kernel_rfl))⟩,
  f47:=(Go.Proofs.Tryz.func281).trans (congrArg some (by kernel_rfl)),
  f48:=(Go.Proofs.Tryz.func282).trans (congrArg some (by kernel_rfl)),
  f49:=⟨Go.Proofs.Tryz.f286.name,of_decide_eq_true (by kernel_rfl),(Go.Proofs.Tryz.func286).trans (congrArg some (by kernel_rfl))⟩,
  f50:=⟨Go.Proofs.Tryz.f287.name,of_decide_eq_true (by kernel_rfl),(Go.Proofs.Tryz.func287).trans (congrArg some (by kernel_rfl))⟩,
  f57:=⟨Go.Proofs.Tryz.f289.name,of_decide_eq_true (by kernel_rfl),(Go.Proofs.Tryz.func289).trans (congrArg some (by kernel_rfl))⟩,
  t0:=Go.Proofs.Tryz.underlying0,
  a0:=Go.Proofs.Tryz.isAgg0,
  z0:=Go.Proofs.Tryz.sizeOf0,
  v0:=Go.Proofs.Tryz.zeroValue0,
  t3:=Go.Proofs.Tryz.underlying3,
  a3:=Go.Proofs.Tryz.isAgg3,
  z3:=Go.Proofs.Tryz.sizeOf3,
  v3:=Go.Proofs.Tryz.zeroValue3,
  t4:=Go.Proofs.Tryz.underlying4,
  a4:=Go.Proofs.Tryz.isAgg4,
  z4:=Go.Proofs.Tryz.sizeOf4,
  v4:=Go.Proofs.Tryz.zeroValue4,
  t5:=Go.Proofs.Tryz.underlying5,
  a5:=Go.Proofs.Tryz.isAgg5,
  z5:=Go.Proofs.Tryz.sizeOf5,
  v5:=Go.Proofs.Tryz.zeroValue5,
  t9:=Go.Proofs.Tryz.underlying9,
  a9:=Go.Proofs.Tryz.isAgg9,
  z9:=Go.Proofs.Tryz.sizeOf9,
  v9:=Go.Proofs.Tryz.zeroValue9,
  t22:=Go.Proofs.Tryz.underlying27,
  a22:=Go.Proofs.Tryz.isAgg27,
  z22:=Go.Proofs.Tryz.sizeOf27,
  v22:=Go.Proofs.Tryz.zeroValue27,
  a24:=Go.Proofs.Tryz.isAgg36,
  z24:=Go.Proofs.Tryz.sizeOf36,
  t25:=Go.Proofs.Tryz.underlying167,
  a25:=Go.Proofs.Tryz.isAgg167,
  z25:=Go.Proofs.Tryz.sizeOf167,
  v25:=Go.Proofs.Tryz.zeroValue167,
  t39:=Go.Proofs.Tryz.underlying192,
  a39:=Go.Proofs.Tryz.isAgg192,
  z39:=Go.Proofs.Tryz.sizeOf192,
  v39:=Go.Proofs.Tryz.zeroValue192,
  t45:=Go.Proofs.Tryz.underlying205,
  a45:=Go.Proofs.Tryz.isAgg205,
  z45:=Go.Proofs.Tryz.sizeOf205,
  v45:=Go.Proofs.Tryz.zeroValue205,
  t46:=Go.Proofs.Tryz.underlying206,
  a46:=Go.Proofs.Tryz.isAgg206,
  z46:=Go.Proofs.Tryz.sizeOf206,
  v46:=Go.Proofs.Tryz.zeroValue206,
  t50:=Go.Proofs.Tryz.underlying39,
  a50:=Go.Proofs.Tryz.isAgg39,
  z50:=Go.Proofs.Tryz.sizeOf39,
  v50:=Go.Proofs.Tryz.zeroValue39,
  t53:=Go.Proofs.Tryz.underlying199,
  a53:=Go.Proofs.Tryz.isAgg199,
  z53:=Go.Proofs.Tryz.sizeOf199,
  v53:=Go.Proofs.Tryz.zeroValue199,
  t55:=Go.Proofs.Tryz.underlying94,
  a55:=Go.Proofs.Tryz.isAgg94,
  z55:=Go.Proofs.Tryz.sizeOf94,
  v55:=Go.Proofs.Tryz.zeroValue94,
  t66:=Go.Proofs.Tryz.underlying222,
  a66:=Go.Proofs.Tryz.isAgg222,
  z66:=Go.Proofs.Tryz.sizeOf222,
  v66:=Go.Proofs.Tryz.zeroValue222,
  t70:=Go.Proofs.Tryz.underlying226,
  a70:=Go.Proofs.Tryz.isAgg226,
  z70:=Go.Proofs.Tryz.sizeOf226,
  v70:=Go.Proofs.Tryz.zeroValue226,
  t76:=Go.Proofs.Tryz.underlying230,
  a76:=Go.Proofs.Tryz.isAgg230,
  z76:=Go.Proofs.Tryz.sizeOf230,
  v76:=Go.Proofs.Tryz.zeroValue230,
  t77:=Go.Proofs.Tryz.underlying231,
  a77:=Go.Proofs.Tryz.isAgg231,
  z77:=Go.Proofs.Tryz.sizeOf231,
  v77:=Go.Proofs.Tryz.zeroValue231 }
theorem tab:Cf Tryz.prog (Ac tks) (Ac ars):=Asn (by kernel_rfl)
theorem mixed:Tryz.prog.follows .mixedOrders=true:=by kernel_rfl
theorem AE1:Aa Tryz.prog 222 Az0:=
  Alc (enters_of Tryz.func222 (by kernel_rfl) rfl) (fun w v1 v2 xs ys h1 h2 l1 l2=>AFz h1 h2 l1 l2) (fun n enc cf blk off cap w h1 hO hcmp hH hb hs=>Any.slices_SortFunc Az3 enc h1 cf hO 199 #[] blk off cap (idA n) w (enters_of Tryz.func199 (by kernel_rfl) rfl) hcmp hH hb hs) (AnyF.slices_SortFunc_none { Az3 with })
theorem ADl:Aa Tryz.prog 221 Apw:=
  Amf (enters_of Tryz.func221 (by kernel_rfl) rfl) (fun blk off cap zs w h1 h2 h3=>AnyM.slices_Sort_int Azm blk off cap zs w h1 h2 h3) (fun p cap w=>AnyM.slices_Sort_int_none Azm p cap w)
theorem RE (N:Nat):Aa Tryz.prog 9 ⟨[(K_Su8,false)],[.bool],true,G6 N⟩:=
  have E:Env Tryz.prog X1:=Av tab trivial
  Ar (body:=Ap Tryz.f9) (Pc:=[]) E rfl mixed Tryz.func9 (by kernel_rfl) (by kernel_rfl) (by kernel_rfl) (by kernel_rfl) (fun A hA=>trivial) (fun _=>by kernel_rfl)
theorem Yw:Aa Tryz.prog 9 Q4:=Aa.less (fun N:Nat=>G6 N) RE (fun d r h=>⟨0,(RC 0 d).trans h⟩)
theorem Aas (N:Nat):Aa Tryz.prog 187 ⟨[(AZ,true)],[I],true,P6 N⟩:=
  have E:Env Tryz.prog Avz:=Av tab trivial
  Ar (body:=Ap Tryz.f187) (Pc:=[]) E rfl mixed Tryz.func187 (by kernel_rfl) (by kernel_rfl) (by kernel_rfl) (by kernel_rfl) (fun A hA=>trivial) (fun _=>by kernel_rfl)
theorem ABm:Aa Tryz.prog 187 Atc:=Aas 0
theorem Ac6 (N:Nat):Aa Tryz.prog 91 ⟨[(AZ,true),(I,false)],[I],true,BU N⟩:=
  have E:Env Tryz.prog Av4:=Av tab ⟨ABm,trivial⟩
  Ar (body:=Ap Tryz.f91) (Pc:=[]) E rfl mixed Tryz.func91 (by kernel_rfl) (by kernel_rfl) (by kernel_rfl) (by kernel_rfl) (fun A hA=>trivial) (fun _=>by kernel_rfl)
theorem Mn:Aa Tryz.prog 91 Ko:=Ac6 0
theorem Agu (N:Nat):Aa Tryz.prog 133 ⟨[(AZ,true),(Ai,false)],[I],true,CD N⟩:=
  have E:Env Tryz.prog Ayi:=Av tab ⟨Mn,trivial⟩
  Ar (body:=Ap Tryz.f133) (Pc:=[]) E rfl mixed Tryz.func133 (by kernel_rfl) (by kernel_rfl) (by kernel_rfl) (by kernel_rfl) (fun A hA=>trivial) (fun _=>by kernel_rfl)
theorem Qu:Aa Tryz.prog 133 L2:=Agu 0
theorem Afm (N:Nat):Aa Tryz.prog 89 ⟨[(AZ,true),(I,false)],[.bool],true,F4 N⟩:=
  have E:Env Tryz.prog Ayh:=Av tab ⟨Mn,trivial⟩
  Ar (body:=Ap Tryz.f89) (Pc:=[]) E rfl mixed Tryz.func89 (by kernel_rfl) (by kernel_rfl) (by kernel_rfl) (by kernel_rfl) (fun A hA=>trivial) (fun _=>by kernel_rfl)
theorem Aav:Aa Tryz.prog 89 V9:=Afm 0
theorem Z0 (N:Nat):Aa Tryz.prog 238 ⟨[(I,false),(I,false)],[I],true,RN N⟩:=
  have E:Env Tryz.prog Asb:=Av tab trivial
  Ar (body:=Ap Tryz.f238) (Pc:=[]) E rfl mixed Tryz.func238 (by kernel_rfl) (by kernel_rfl) (by kernel_rfl) (by kernel_rfl) (fun A hA=>trivial) (fun _=>by kernel_rfl)
theorem Awa:Aa Tryz.prog 238 Aie:=Aa.less (fun N:Nat=>RN N) Z0 (fun d r h=>⟨0,(Zd 0 d).trans h⟩)
theorem ZP (N:Nat):Aa Tryz.prog 185 ⟨[(I,false)],[Aj],true,Fu N⟩:=
  have E:Env Tryz.prog Ata:=Av tab trivial
  Ar (body:=Ap Tryz.f185) (Pc:=[(0,⟨Aer,Aai,Nj N N⟩)]) E rfl mixed Tryz.func185 (by kernel_rfl) (by kernel_rfl) (by kernel_rfl) (by kernel_rfl) (fun A hA=>⟨AI (body:=At Tryz.f185 0) (inner:=[]) E mixed hA (by kernel_rfl) (by kernel_rfl) (by kernel_rfl) trivial (fun _=>rfl) (fun _ _=>by kernel_rfl) N,trivial⟩) (fun _=>by kernel_rfl)
theorem Ahm:Aa Tryz.prog 185 Xl:=Aa.less (fun N:Nat=>Fu N) ZP Kz
theorem Ad2 (N:Nat):Aa Tryz.prog 200 ⟨[(Am,false),(Am,false)],[.bool],true,WP N⟩:=
  have E:Env Tryz.prog Ay4:=Av tab trivial
  Ar (body:=Ap Tryz.f200) (Pc:=[]) E rfl mixed Tryz.func200 (by kernel_rfl) (by kernel_rfl) (by kernel_rfl) (by kernel_rfl) (fun A hA=>trivial) (fun _=>by kernel_rfl)
theorem Aqm:Aa Tryz.prog 200 Afq:=Aa.less (fun N:Nat=>WP N) Ad2 (fun d r h=>⟨0,(Abn 0 d).trans h⟩)
theorem PF (N:Nat):Aa Tryz.prog 186 ⟨[(Cb,false),(Am,false)],[Cb],true,Gq N⟩:=
  have E:Env Tryz.prog UC:=Av tab ⟨Aqm,trivial⟩
  Ar (body:=Ap Tryz.f186) (Pc:=[(0,⟨Rs,Ry,Fs N N⟩)]) E rfl mixed Tryz.func186 (by kernel_rfl) (by kernel_rfl) (by kernel_rfl) (by kernel_rfl) (fun A hA=>⟨AI (body:=At Tryz.f186 0) (inner:=[]) E mixed hA (by kernel_rfl) (by kernel_rfl) (by kernel_rfl) trivial (fun _=>rfl) (fun _ _=>by kernel_rfl) N,trivial⟩) (fun _=>by kernel_rfl)
theorem Nd:Aa Tryz.prog 186 I6:=Aa.less (fun N:Nat=>Gq N) PF Akg
theorem Agl (N:Nat):Aa Tryz.prog 90 ⟨[(I,false)],[Aj],true,J7 N⟩:=
  have E:Env Tryz.prog Aw2:=Av tab ⟨Ahm,⟨Nd,trivial⟩⟩
  Ar (body:=Ap Tryz.f90) (Pc:=[]) E rfl mixed Tryz.func90 (by kernel_rfl) (by kernel_rfl) (by kernel_rfl) (by kernel_rfl) (fun A hA=>trivial) (fun _=>by kernel_rfl)
theorem AB3:Aa Tryz.prog 90 Aur:=Agl 0
theorem Afv (N:Nat):Aa Tryz.prog 239 ⟨[(I,false)],[Aj],true,Je N⟩:=
  have E:Env Tryz.prog Axk:=Av tab trivial
  Ar (body:=Ap Tryz.f239) (Pc:=[(0,⟨Ajw,Air,Sl N N⟩)]) E rfl mixed Tryz.func239 (by kernel_rfl) (by kernel_rfl) (by kernel_rfl) (by kernel_rfl) (fun A hA=>⟨AI (body:=At Tryz.f239 0) (inner:=[(2,⟨Aks,Aom,SD N N⟩)]) E mixed hA (by kernel_rfl) (by kernel_rfl) (by kernel_rfl) ⟨AI (body:=At Tryz.f239 2) (inner:=[]) E mixed hA (by kernel_rfl) (by kernel_rfl) (by kernel_rfl) trivial (fun _=>rfl) (fun _ _=>by kernel_rfl) N,trivial⟩ (fun _=>rfl) (fun _ _=>by kernel_rfl) N,trivial⟩) (fun _=>by kernel_rfl)
theorem AC3:Aa Tryz.prog 239 Asd:=Aa.less (fun N:Nat=>Je N) Afv Kz
theorem Zf (N:Nat):Aa Tryz.prog 201 ⟨[(I,false),(I,false)],[I],true,Ss N⟩:=
  have E:Env Tryz.prog Aq0:=Av tab trivial
  Ar (body:=Ap Tryz.f201) (Pc:=[]) E rfl mixed Tryz.func201 (by kernel_rfl) (by kernel_rfl) (by kernel_rfl) (by kernel_rfl) (fun A hA=>trivial) (fun _=>by kernel_rfl)
theorem XA:Aa Tryz.prog 201 RQ:=Aa.less (fun N:Nat=>Ss N) Zf (fun d r h=>⟨0,(Zr 0 d).trans h⟩)
theorem Y2 (N:Nat):Aa Tryz.prog 240 ⟨[(Aj,false),(I,false),(I,false)],[.bool],true,Si N⟩:=
  have E:Env Tryz.prog Ap7:=Av tab trivial
  Ar (body:=Ap Tryz.f240) (Pc:=[(0,⟨Aaq,Aaj,NL N N⟩)]) E rfl mixed Tryz.func240 (by kernel_rfl) (by kernel_rfl) (by kernel_rfl) (by kernel_rfl) (fun A hA=>⟨AI (body:=At Tryz.f240 0) (inner:=[]) E mixed hA (by kernel_rfl) (by kernel_rfl) (by kernel_rfl) trivial (fun _=>rfl) (fun _ _=>by kernel_rfl) N,trivial⟩) (fun _=>by kernel_rfl)
theorem Aih:Aa Tryz.prog 240 Xi:=Aa.less (fun N:Nat=>Si N) Y2 Ac4
theorem Afy (N:Nat):A3 Tryz.prog 241 (⟨[(AZ,true),(Aj,true)],[Aj],true,Cm N⟩,{ gone:=[1],deep:=[] }):=
  have E:Env Tryz.prog Aya:=G9 tab ⟨Mn,⟨Qu,trivial⟩⟩ trivial (fun _ h=>by cases h) trivial (by kernel_rfl)
  Sf (body:=Ap Tryz.f241) (Pc:=[]) E mixed Tryz.func241 (by kernel_rfl) (by kernel_rfl) (by kernel_rfl) (by kernel_rfl) (fun A hA=>trivial) (fun _=>by kernel_rfl)
theorem AAg:A3 Tryz.prog 241 (Aq4,{ gone:=[1],deep:=[] }):=Afy 0
theorem Abp (N:Nat):Aa Tryz.prog 183 ⟨[(AZ,true),(I,false)],[Aj],true,MB N⟩:=
  have E:Env Tryz.prog Ax7:=G9 tab ⟨Aav,⟨AB3,⟨Mn,⟨Qu,⟨Ahm,⟨Nd,⟨XA,⟨Awa,⟨AC3,⟨Aih,trivial⟩⟩⟩⟩⟩⟩⟩⟩⟩⟩ trivial (fun _ h=>by cases h) ⟨AAg,trivial⟩ (by kernel_rfl)
  Ar (body:=Ap Tryz.f183) (Pc:=[(1,⟨Aj0,Akv,G5 N N⟩)]) E rfl mixed Tryz.func183 (by kernel_rfl) (by kernel_rfl) (by kernel_rfl) (by kernel_rfl) (fun A hA=>⟨AI (body:=At Tryz.f183 1) (inner:=[(3,⟨Aj8,Aoj,Sr N N⟩)]) E mixed hA (by kernel_rfl) (by kernel_rfl) (by kernel_rfl) ⟨AI (body:=At Tryz.f183 3) (inner:=[]) E mixed hA (by kernel_rfl) (by kernel_rfl) (by kernel_rfl) trivial (fun _=>rfl) (fun _ _=>by kernel_rfl) N,trivial⟩ (fun _=>rfl) (fun _ _=>by kernel_rfl) N,trivial⟩) (fun _=>by kernel_rfl)
theorem At7:Aa Tryz.prog 183 Afl:=Aa.less (fun N:Nat=>MB N) Abp Kz
theorem Aag (N:Nat):Aa Tryz.prog 182 ⟨[(AZ,true)],[Aj],true,Td N⟩:=
  have E:Env Tryz.prog Awv:=Av tab ⟨At7,trivial⟩
  Ar (body:=Ap Tryz.f182) (Pc:=[]) E rfl mixed Tryz.func182 (by kernel_rfl) (by kernel_rfl) (by kernel_rfl) (by kernel_rfl) (fun A hA=>trivial) (fun _=>by kernel_rfl)
theorem ADm:Aa Tryz.prog 182 Arz:=Aag 0
theorem Zx (N:Nat):Aa Tryz.prog 226 ⟨[(I,false),(I,false)],[Ai],true,R8 N⟩:=
  have E:Env Tryz.prog Au0:=Av tab trivial
  Ar (body:=Ap Tryz.f226) (Pc:=[(0,⟨Aba,Af1,Na N N⟩)]) E rfl mixed Tryz.func226 (by kernel_rfl) (by kernel_rfl) (by kernel_rfl) (by kernel_rfl) (fun A hA=>⟨AI (body:=At Tryz.f226 0) (inner:=[]) E mixed hA (by kernel_rfl) (by kernel_rfl) (by kernel_rfl) trivial (fun _=>rfl) (fun _ _=>by kernel_rfl) N,trivial⟩) (fun _=>by kernel_rfl)
theorem Awb:Aa Tryz.prog 226 Ahu:=Aa.less (fun N:Nat=>R8 N) Zx Ae4
theorem AD8:Cf Tryz.prog (Ac Azp) (Ac Azx):=Asn (by kernel_rfl)
theorem Aa9 (N:Nat):Aa Tryz.prog 160 ⟨[(AZ,true)],[B9],true,Js N⟩:=
  have E:Env Tryz.prog Axs:=Av AD8 ⟨Aav,⟨Mn,⟨Qu,⟨ADm,⟨At7,⟨Awb,trivial⟩⟩⟩⟩⟩⟩
  Ar (body:=Ap Tryz.f160) (Pc:=[(0,⟨An4,Ak8,I9 N N⟩)]) E rfl mixed Tryz.func160 (by kernel_rfl) (by kernel_rfl) (by kernel_rfl) (by kernel_rfl) (fun A hA=>⟨AI (body:=At Tryz.f160 0) (inner:=[]) E mixed hA (by kernel_rfl) (by kernel_rfl) (by kernel_rfl) trivial (fun _=>rfl) (fun _ _=>by kernel_rfl) N,trivial⟩) (fun _=>by kernel_rfl)
theorem Ab1:Aa Tryz.prog 160 Xb:=Aa.same (Aa.hard (k:=B9) (Aa.less (fun N:Nat=>Js N) Aa9 Kz)) (fun d=>Ay8 ((CW Js G8) d) _ fun _=>rfl)
theorem RH (N:Nat):Aa Tryz.prog 148 ⟨[(I,false),(I,false),(I,false)],[.bool],true,G7 N⟩:=
  have E:Env Tryz.prog Xj:=Av tab trivial
  Ar (body:=Ap Tryz.f148) (Pc:=[]) E rfl mixed Tryz.func148 (by kernel_rfl) (by kernel_rfl) (by kernel_rfl) (by kernel_rfl) (fun A hA=>trivial) (fun _=>by kernel_rfl)
theorem DQ:Aa Tryz.prog 148 Df:=Aa.less (fun N:Nat=>G7 N) RH (fun d r h=>⟨0,(RG 0 d).trans h⟩)
theorem Ab9 (N:Nat):Aa Tryz.prog 190 ⟨[(Ai,false),(I,false),(I,false)],[.bool],true,VK N⟩:=
  have E:Env Tryz.prog Axv:=Av tab ⟨DQ,trivial⟩
  Ar (body:=Ap Tryz.f190) (Pc:=[(0,⟨Alw,Als,Sx N N⟩)]) E rfl mixed Tryz.func190 (by kernel_rfl) (by kernel_rfl) (by kernel_rfl) (by kernel_rfl) (fun A hA=>⟨AI (body:=At Tryz.f190 0) (inner:=[]) E mixed hA (by kernel_rfl) (by kernel_rfl) (by kernel_rfl) trivial (fun _=>rfl) (fun _ _=>by kernel_rfl) N,trivial⟩) (fun _=>by kernel_rfl)
theorem ADf:Aa Tryz.prog 190 Ar0:=Aa.less (fun N:Nat=>VK N) Ab9 Wi
theorem Z9 (N:Nat):Aa Tryz.prog 115 ⟨[(Aj,false)],[.bool],true,Sm N⟩:=
  have E:Env Tryz.prog Ap6:=Av tab ⟨DQ,⟨Aqm,trivial⟩⟩
  Ar (body:=Ap Tryz.f115) (Pc:=[(0,⟨Agt,Acs,NE N N⟩)]) E rfl mixed Tryz.func115 (by kernel_rfl) (by kernel_rfl) (by kernel_rfl) (by kernel_rfl) (fun A hA=>⟨AI (body:=At Tryz.f115 0) (inner:=[]) E mixed hA (by kernel_rfl) (by kernel_rfl) (by kernel_rfl) trivial (fun _=>rfl) (fun _ _=>by kernel_rfl) N,trivial⟩) (fun _=>by kernel_rfl)
theorem Awg:Aa Tryz.prog 115 Ahd:=Aa.less (fun N:Nat=>Sm N) Z9 Afp
theorem Aa6 (N:Nat):Aa Tryz.prog 98 ⟨[(Aj,false),(I,false)],[.bool],true,SP N⟩:=
  have E:Env Tryz.prog Axx:=Av tab ⟨Awg,⟨DQ,trivial⟩⟩
  Ar (body:=Ap Tryz.f98) (Pc:=[]) E rfl mixed Tryz.func98 (by kernel_rfl) (by kernel_rfl) (by kernel_rfl) (by kernel_rfl) (fun A hA=>trivial) (fun _=>by kernel_rfl)
theorem ABn:Aa Tryz.prog 98 Aua:=Aa6 0
theorem Aeq (N:Nat):Aa Tryz.prog 163 ⟨[(Ae,false)],[.bool],true,V2 N⟩:=
  have E:Env Tryz.prog Au8:=Av tab ⟨ABn,⟨DQ,⟨ADf,trivial⟩⟩⟩
  Ar (body:=Ap Tryz.f163) (Pc:=[(0,⟨Ak6,An5,RS N N⟩)]) E rfl mixed Tryz.func163 (by kernel_rfl) (by kernel_rfl) (by kernel_rfl) (by kernel_rfl) (fun A hA=>⟨AI (body:=At Tryz.f163 0) (inner:=[]) E mixed hA (by kernel_rfl) (by kernel_rfl) (by kernel_rfl) trivial (fun _=>rfl) (fun _ _=>by kernel_rfl) N,trivial⟩) (fun _=>by kernel_rfl)
theorem WU:Aa Tryz.prog 163 Tn:=Aa.less (fun N:Nat=>V2 N) Aeq Yh
theorem QX (N:Nat):Aa Tryz.prog 101 ⟨[(Ai,false),(I,false)],[.bool],true,Gk N⟩:=
  have E:Env Tryz.prog Uy:=Av tab trivial
  Ar (body:=Ap Tryz.f101) (Pc:=[(0,⟨RB,Rm,Fw N N⟩)]) E rfl mixed Tryz.func101 (by kernel_rfl) (by kernel_rfl) (by kernel_rfl) (by kernel_rfl) (fun A hA=>⟨AI (body:=At Tryz.f101 0) (inner:=[]) E mixed hA (by kernel_rfl) (by kernel_rfl) (by kernel_rfl) trivial (fun _=>rfl) (fun _ _=>by kernel_rfl) N,trivial⟩) (fun _=>by kernel_rfl)
theorem Xh:Aa Tryz.prog 101 Nf:=Aa.less (fun N:Nat=>Gk N) QX Amn
theorem Abk (N:Nat):Aa Tryz.prog 231 ⟨[(Ae,false),(I,false)],[Aj],true,WJ N⟩:=
  have E:Env Tryz.prog Axa:=Av tab ⟨Xh,trivial⟩
  Ar (body:=Ap Tryz.f231) (Pc:=[(0,⟨Aog,Ao7,IB N N⟩)]) E rfl mixed Tryz.func231 (by kernel_rfl) (by kernel_rfl) (by kernel_rfl) (by kernel_rfl) (fun A hA=>⟨AI (body:=At Tryz.f231 0) (inner:=[]) E mixed hA (by kernel_rfl) (by kernel_rfl) (by kernel_rfl) trivial (fun _=>rfl) (fun _ _=>by kernel_rfl) N,trivial⟩) (fun _=>by kernel_rfl)
theorem ABg:Aa Tryz.prog 231 Arp:=Aa.less (fun N:Nat=>WJ N) Abk Zk
theorem Ac2 (N:Nat):Aa Tryz.prog 208 ⟨[(Aj,false),(I,false)],[Ai],true,X3 N⟩:=
  have E:Env Tryz.prog Aze:=Av tab ⟨Aih,trivial⟩
  Ar (body:=Ap Tryz.f208) (Pc:=[(0,⟨Aov,Anj,Lh N N⟩)]) E rfl mixed Tryz.func208 (by kernel_rfl) (by kernel_rfl) (by kernel_rfl) (by kernel_rfl) (fun A hA=>⟨AI (body:=At Tryz.f208 0) (inner:=[]) E mixed hA (by kernel_rfl) (by kernel_rfl) (by kernel_rfl) trivial (fun _=>rfl) (fun _ _=>by kernel_rfl) N,trivial⟩) (fun _=>by kernel_rfl)
theorem ACf:Aa Tryz.prog 208 Aul:=Aa.less (fun N:Nat=>X3 N) Ac2 Rl
theorem Abw (N:Nat):A3 Tryz.prog 92 (⟨[(Ai,true),(I,false)],[Ai],true,Wo N⟩,{ gone:=[0],deep:=[] }):=
  have E:Env Tryz.prog Azc:=G9 tab trivial trivial (fun _ h=>by cases h) trivial (by kernel_rfl)
  Sf (body:=Ap Tryz.f92) (Pc:=[(0,⟨Ajf,Aku,Kx N N⟩)]) E mixed Tryz.func92 (by kernel_rfl) (by kernel_rfl) (by kernel_rfl) (by kernel_rfl) (fun A hA=>⟨AI (body:=At Tryz.f92 0) (inner:=[]) E mixed hA (by kernel_rfl) (by kernel_rfl) (by kernel_rfl) trivial (fun _=>rfl) (fun _ _=>by kernel_rfl) N,trivial⟩) (fun _=>by kernel_rfl)
theorem ACo:A3 Tryz.prog 92 (Aqa,{ gone:=[0],deep:=[] }):=A3.less (fun N:Nat=>Wo N) Abw Adm
theorem ZR (N:Nat):Aa Tryz.prog 124 ⟨[(Aj,false),(I,false)],[Ai],true,IG N⟩:=
  have E:Env Tryz.prog Atu:=G9 tab ⟨ACf,trivial⟩ trivial (fun _ h=>by cases h) ⟨ACo,trivial⟩ (by kernel_rfl)
  Ar (body:=Ap Tryz.f124) (Pc:=[]) E rfl mixed Tryz.func124 (by kernel_rfl) (by kernel_rfl) (by kernel_rfl) (by kernel_rfl) (fun A hA=>trivial) (fun _=>by kernel_rfl)
theorem Axd:Aa Tryz.prog 124 Ahp:=ZR 0
theorem Aee (N:Nat):Aa Tryz.prog 165 ⟨[(Ae,false)],[An],true,W7 N⟩:=
  have E:Env Tryz.prog Au4:=Av tab ⟨Axd,⟨ABg,trivial⟩⟩
  Ar (body:=Ap Tryz.f165) (Pc:=[(0,⟨Aor,Anz,R9 N N⟩)]) E rfl mixed Tryz.func165 (by kernel_rfl) (by kernel_rfl) (by kernel_rfl) (by kernel_rfl) (fun A hA=>⟨AI (body:=At Tryz.f165 0) (inner:=[(2,⟨Am4,Amt,Nv N N⟩)]) E mixed hA (by kernel_rfl) (by kernel_rfl) (by kernel_rfl) ⟨AI (body:=At Tryz.f165 2) (inner:=[]) E mixed hA (by kernel_rfl) (by kernel_rfl) (by kernel_rfl) trivial (fun _=>rfl) (fun _ _=>by kernel_rfl) N,trivial⟩ (fun _=>rfl) (fun _ _=>by kernel_rfl) N,trivial⟩) (fun _=>by kernel_rfl)
theorem Ace:Aa Tryz.prog 165 Xr:=Aa.less (fun N:Nat=>W7 N) Aee VC
theorem Agp (N:Nat):Aa Tryz.prog 234 ⟨[(I,false),(I,false)],[An],true,XZ N⟩:=
  have E:Env Tryz.prog Awr:=Av tab trivial
  Ar (body:=Ap Tryz.f234) (Pc:=[(0,⟨Ak2,Apf,SG N N⟩)]) E rfl mixed Tryz.func234 (by kernel_rfl) (by kernel_rfl) (by kernel_rfl) (by kernel_rfl) (fun A hA=>⟨AI (body:=At Tryz.f234 0) (inner:=[(2,⟨Amu,Ajh,NQ N N⟩)]) E mixed hA (by kernel_rfl) (by kernel_rfl) (by kernel_rfl) ⟨AI (body:=At Tryz.f234 2) (inner:=[(4,⟨Al7,Amh,NR N N⟩)]) E mixed hA (by kernel_rfl) (by kernel_rfl) (by kernel_rfl) ⟨AI (body:=At Tryz.f234 4) (inner:=[]) E mixed hA (by kernel_rfl) (by kernel_rfl) (by kernel_rfl) trivial (fun _=>rfl) (fun _ _=>by kernel_rfl) N,trivial⟩ (fun _=>rfl) (fun _ _=>by kernel_rfl) N,trivial⟩ (fun _=>rfl) (fun _ _=>by kernel_rfl) N,trivial⟩) (fun _=>by kernel_rfl)
theorem ACd:Aa Tryz.prog 234 Aq9:=Aa.less (fun N:Nat=>XZ N) Agp XG
theorem Adh (N:Nat):Aa Tryz.prog 180 ⟨[(An,false),(An,false),(I,false),(I,false),(I,false)],[I],true,Xc N⟩:=
  have E:Env Tryz.prog Axm:=Av tab ⟨XA,trivial⟩
  Ar (body:=Ap Tryz.f180) (Pc:=[(0,⟨Aoi,Aob,Gj N N⟩)]) E rfl mixed Tryz.func180 (by kernel_rfl) (by kernel_rfl) (by kernel_rfl) (by kernel_rfl) (fun A hA=>⟨AI (body:=At Tryz.f180 0) (inner:=[]) E mixed hA (by kernel_rfl) (by kernel_rfl) (by kernel_rfl) trivial (fun _=>rfl) (fun _ _=>by kernel_rfl) N,trivial⟩) (fun _=>by kernel_rfl)
theorem Aeb:Aa Tryz.prog 180 Xf:=Aa.less (fun N:Nat=>Xc N) Adh XX
theorem YM (N:Nat):Aa Tryz.prog 235 ⟨[(An,false),(An,false),(I,false),(I,false),(I,false)],[.bool],true,SE N⟩:=
  have E:Env Tryz.prog Asw:=Av tab ⟨Aeb,trivial⟩
  Ar (body:=Ap Tryz.f235) (Pc:=[(0,⟨Ad8,Aao,NA N N⟩)]) E rfl mixed Tryz.func235 (by kernel_rfl) (by kernel_rfl) (by kernel_rfl) (by kernel_rfl) (fun A hA=>⟨AI (body:=At Tryz.f235 0) (inner:=[]) E mixed hA (by kernel_rfl) (by kernel_rfl) (by kernel_rfl) trivial (fun _=>rfl) (fun _ _=>by kernel_rfl) N,trivial⟩) (fun _=>by kernel_rfl)
theorem Ay3:Aa Tryz.prog 235 Ag2:=Aa.less (fun N:Nat=>SE N) YM Aea
theorem Add (N:Nat):Aa Tryz.prog 171 ⟨[(Ae,false)],[An],true,XI N⟩:=
  have E:Env Tryz.prog Axg:=Av tab ⟨Ace,⟨ACd,⟨Ay3,trivial⟩⟩⟩
  Ar (body:=Ap Tryz.f171) (Pc:=[(0,⟨Akw,Akk,Ni N N⟩)]) E rfl mixed Tryz.func171 (by kernel_rfl) (by kernel_rfl) (by kernel_rfl) (by kernel_rfl) (fun A hA=>⟨AI (body:=At Tryz.f171 0) (inner:=[(2,⟨Anv,Akf,No N N⟩)]) E mixed hA (by kernel_rfl) (by kernel_rfl) (by kernel_rfl) ⟨AI (body:=At Tryz.f171 2) (inner:=[(4,⟨Aj6,Ams,MT N N⟩)]) E mixed hA (by kernel_rfl) (by kernel_rfl) (by kernel_rfl) ⟨AI (body:=At Tryz.f171 4) (inner:=[(6,⟨Ajo,Amv,Nn N N⟩)]) E mixed hA (by kernel_rfl) (by kernel_rfl) (by kernel_rfl) ⟨AI (body:=At Tryz.f171 6) (inner:=[]) E mixed hA (by kernel_rfl) (by kernel_rfl) (by kernel_rfl) trivial (fun _=>rfl) (fun _ _=>by kernel_rfl) N,trivial⟩ (fun _=>rfl) (fun _ _=>by kernel_rfl) N,trivial⟩ (fun _=>rfl) (fun _ _=>by kernel_rfl) N,trivial⟩ (fun _=>rfl) (fun _ _=>by kernel_rfl) N,trivial⟩) (fun _=>by kernel_rfl)
theorem Adz:Aa Tryz.prog 171 Xo:=Aa.less (fun N:Nat=>XI N) Add XT
theorem Ae0 (N:Nat):Aa Tryz.prog 78 ⟨[(Ae,false)],[An,.bool],true,Jr N⟩:=
  have E:Env Tryz.prog Azd:=Av tab ⟨WU,⟨Adz,trivial⟩⟩
  Ar (body:=Ap Tryz.f78) (Pc:=[]) E rfl mixed Tryz.func78 (by kernel_rfl) (by kernel_rfl) (by kernel_rfl) (by kernel_rfl) (fun A hA=>trivial) (fun _=>by kernel_rfl)
theorem Atk:Aa Tryz.prog 78 Afh:=Ae0 0
theorem Aed (N:Nat):Aa Tryz.prog 73 ⟨[(K_Su8,false)],[Ae,An],false,Ql N⟩:=
  have E:Env Tryz.prog Ayl:=G9 tab ⟨Atk,⟨Mn,⟨Qu,⟨Ab1,trivial⟩⟩⟩⟩ trivial (fun _ h=>by cases h) trivial (by kernel_rfl)
  Ar (body:=Ap Tryz.f73) (Pc:=[]) E rfl mixed Tryz.func73 (by kernel_rfl) (by kernel_rfl) (by kernel_rfl) (by kernel_rfl) (fun A hA=>trivial) (fun _=>by kernel_rfl)
theorem AAh:Aa Tryz.prog 73 Aut:=Aed 0
theorem Y0 (N:Nat):Aa Tryz.prog 143 ⟨[(I,false),(I,false),(I,false)],[.bool],true,R1 N⟩:=
  have E:Env Tryz.prog Arf:=Av tab trivial
  Ar (body:=Ap Tryz.f143) (Pc:=[]) E rfl mixed Tryz.func143 (by kernel_rfl) (by kernel_rfl) (by kernel_rfl) (by kernel_rfl) (fun A hA=>trivial) (fun _=>by kernel_rfl)
theorem M0:Aa Tryz.prog 143 KE:=Aa.less (fun N:Nat=>R1 N) Y0 (fun d r h=>⟨0,(Yi 0 d).trans h⟩)
theorem Aa2 (N:Nat):Aa Tryz.prog 258 ⟨[(I,false)],[.bool],true,VD N⟩:=
  have E:Env Tryz.prog Aw6:=Av tab trivial
  Ar (body:=Ap Tryz.f258) (Pc:=[]) E rfl mixed Tryz.func258 (by kernel_rfl) (by kernel_rfl) (by kernel_rfl) (by kernel_rfl) (fun A hA=>trivial) (fun _=>by kernel_rfl)
theorem AC5:Aa Tryz.prog 258 Ap8:=Aa.less (fun N:Nat=>VD N) Aa2 (fun d r h=>⟨0,(Adu 0 d).trans h⟩)
theorem Ab5 (N:Nat):Aa Tryz.prog 246 ⟨[(I,false),(I,false)],[I],true,Xy N⟩:=
  have E:Env Tryz.prog Avt:=Av tab ⟨AC5,trivial⟩
  Ar (body:=Ap Tryz.f246) (Pc:=[]) E rfl mixed Tryz.func246 (by kernel_rfl) (by kernel_rfl) (by kernel_rfl) (by kernel_rfl) (fun A hA=>trivial) (fun _=>by kernel_rfl)
theorem ABq:Aa Tryz.prog 246 Auv:=Aa.less (fun N:Nat=>Xy N) Ab5 (fun d r h=>⟨0,(Abe 0 d).trans h⟩)
theorem Aej (N:Nat):Aa Tryz.prog 199 ⟨[(Ai,false),(Ai,false)],[I],true,Wz N⟩:=
  have E:Env Tryz.prog Axz:=Av tab ⟨ABq,trivial⟩
  Ar (body:=Ap Tryz.f199) (Pc:=[(0,⟨Ape,Am5,IL N N⟩)]) E rfl mixed Tryz.func199 (by kernel_rfl) (by kernel_rfl) (by kernel_rfl) (by kernel_rfl) (fun A hA=>⟨AI (body:=At Tryz.f199 0) (inner:=[]) E mixed hA (by kernel_rfl) (by kernel_rfl) (by kernel_rfl) trivial (fun _=>rfl) (fun _ _=>by kernel_rfl) N,trivial⟩) (fun _=>by kernel_rfl)
theorem Ap9:Aa Tryz.prog 199 Aro:=Aa.less (fun N:Nat=>Wz N) Aej Zw
theorem Aap (N:Nat):Aa Tryz.prog 114 ⟨[(Aj,false)],[.bool],true,Ww N⟩:=
  have E:Env Tryz.prog Ayq:=Av tab ⟨M0,⟨Ap9,trivial⟩⟩
  Ar (body:=Ap Tryz.f114) (Pc:=[(0,⟨Anx,Aiu,Sc N N⟩)]) E rfl mixed Tryz.func114 (by kernel_rfl) (by kernel_rfl) (by kernel_rfl) (by kernel_rfl) (fun A hA=>⟨AI (body:=At Tryz.f114 0) (inner:=[]) E mixed hA (by kernel_rfl) (by kernel_rfl) (by kernel_rfl) trivial (fun _=>rfl) (fun _ _=>by kernel_rfl) N,trivial⟩) (fun _=>by kernel_rfl)
theorem Wc:Aa Tryz.prog 114 SH:=Aa.less (fun N:Nat=>Ww N) Aap Zj
theorem Aal (N:Nat):Aa Tryz.prog 169 ⟨[(Ai,false)],[.bool],true,Wn N⟩:=
  have E:Env Tryz.prog Awq:=Av tab trivial
  Ar (body:=Ap Tryz.f169) (Pc:=[(0,⟨Ake,Anl,R3 N N⟩)]) E rfl mixed Tryz.func169 (by kernel_rfl) (by kernel_rfl) (by kernel_rfl) (by kernel_rfl) (fun A hA=>⟨AI (body:=At Tryz.f169 0) (inner:=[]) E mixed hA (by kernel_rfl) (by kernel_rfl) (by kernel_rfl) trivial (fun _=>rfl) (fun _ _=>by kernel_rfl) N,trivial⟩) (fun _=>by kernel_rfl)
theorem ABa:Aa Tryz.prog 169 Aq6:=Aa.less (fun N:Nat=>Wn N) Aal S9
theorem Afa (N:Nat):Aa Tryz.prog 128 ⟨[(Ai,false),(I,false),(I,false)],[.bool],true,V6 N⟩:=
  have E:Env Tryz.prog Azb:=Av tab ⟨M0,trivial⟩
  Ar (body:=Ap Tryz.f128) (Pc:=[(0,⟨Al3,Aly,R4 N N⟩)]) E rfl mixed Tryz.func128 (by kernel_rfl) (by kernel_rfl) (by kernel_rfl) (by kernel_rfl) (fun A hA=>⟨AI (body:=At Tryz.f128 0) (inner:=[]) E mixed hA (by kernel_rfl) (by kernel_rfl) (by kernel_rfl) trivial (fun _=>rfl) (fun _ _=>by kernel_rfl) N,trivial⟩) (fun _=>by kernel_rfl)
theorem Abi:Aa Tryz.prog 128 V3:=Aa.less (fun N:Nat=>V6 N) Afa UB
theorem Af2 (N:Nat):Aa Tryz.prog 168 ⟨[(Ai,false),(E5,false)],[.bool],true,VF N⟩:=
  have E:Env Tryz.prog Ayt:=Av tab ⟨Abi,⟨ABa,trivial⟩⟩
  Ar (body:=Ap Tryz.f168) (Pc:=[]) E rfl mixed Tryz.func168 (by kernel_rfl) (by kernel_rfl) (by kernel_rfl) (by kernel_rfl) (fun A hA=>trivial) (fun _=>by kernel_rfl)
theorem AB0:Aa Tryz.prog 168 ACh:=Af2 0
theorem Awu:Bs Tryz.prog Agw:=Mg AB0
theorem Ae6 (N:Nat):Aa Tryz.prog 232 ⟨[(Ag,false),(Bc,false)],[I],true,PV N⟩:=
  have E:Env Tryz.prog Awn:=Cl tab trivial ⟨Awu,trivial⟩ (fun _ h=>by cases h)
  Ar (body:=Ap Tryz.f232) (Pc:=[(0,⟨Aou,Amd,RX N N⟩)]) E rfl mixed Tryz.func232 (by kernel_rfl) (by kernel_rfl) (by kernel_rfl) (by kernel_rfl) (fun A hA=>⟨AI (body:=At Tryz.f232 0) (inner:=[]) E mixed hA (by kernel_rfl) (by kernel_rfl) (by kernel_rfl) trivial (fun _=>rfl) (fun _ _=>by kernel_rfl) N,trivial⟩) (fun _=>by kernel_rfl)
theorem ACs:Aa Tryz.prog 232 Art:=Aa.less (fun N:Nat=>PV N) Ae6 ZU
theorem Al5 (N:Nat):Aa Tryz.prog 167 ⟨[(Ag,false),(Bc,false)],[.bool],true,ZQ N⟩:=
  have E:Env Tryz.prog ACe:=Av tab ⟨ACs,trivial⟩
  Ar (body:=Ap Tryz.f167) (Pc:=[]) E rfl mixed Tryz.func167 (by kernel_rfl) (by kernel_rfl) (by kernel_rfl) (by kernel_rfl) (fun A hA=>trivial) (fun _=>by kernel_rfl)
theorem AEc:Aa Tryz.prog 167 Azj:=Al5 0
theorem Af0 (N:Nat):Aa Tryz.prog 76 ⟨[(Ae,false)],[.bool],true,Hk N⟩:=
  have E:Env Tryz.prog Awc:=Cl tab ⟨Wc,⟨M0,⟨AEc,trivial⟩⟩⟩ trivial (fun _ h=>by cases h)
  Ar (body:=Ap Tryz.f76) (Pc:=[]) E rfl mixed Tryz.func76 (by kernel_rfl) (by kernel_rfl) (by kernel_rfl) (by kernel_rfl) (fun A hA=>trivial) (fun _=>by kernel_rfl)
theorem Qi:Aa Tryz.prog 76 L8:=Af0 0
theorem PE (N:Nat):Aa Tryz.prog 95 ⟨[(Aj,false)],[AA],true,Gy N⟩:=
  have E:Env Tryz.prog UN:=Av tab trivial
  Ar (body:=Ap Tryz.f95) (Pc:=[(0,⟨RD,Rj,CV N N⟩)]) E rfl mixed Tryz.func95 (by kernel_rfl) (by kernel_rfl) (by kernel_rfl) (by kernel_rfl) (fun A hA=>⟨AI (body:=At Tryz.f95 0) (inner:=[]) E mixed hA (by kernel_rfl) (by kernel_rfl) (by kernel_rfl) trivial (fun _=>rfl) (fun _ _=>by kernel_rfl) N,trivial⟩) (fun _=>by kernel_rfl)
theorem IV:Aa Tryz.prog 95 Gv:=Aa.less (fun N:Nat=>Gy N) PE Akm
theorem Ab2 (N:Nat):Aa Tryz.prog 211 ⟨[(Ai,false),(I,false)],[I],true,VJ N⟩:=
  have E:Env Tryz.prog Avh:=Av tab trivial
  Ar (body:=Ap Tryz.f211) (Pc:=[(0,⟨Ak5,Amq,Sv N N⟩)]) E rfl mixed Tryz.func211 (by kernel_rfl) (by kernel_rfl) (by kernel_rfl) (by kernel_rfl) (fun A hA=>⟨AI (body:=At Tryz.f211 0) (inner:=[]) E mixed hA (by kernel_rfl) (by kernel_rfl) (by kernel_rfl) trivial (fun _=>rfl) (fun _ _=>by kernel_rfl) N,trivial⟩) (fun _=>by kernel_rfl)
theorem ABb:Aa Tryz.prog 211 Aq8:=Aa.less (fun N:Nat=>VJ N) Ab2 Amo
theorem Aeu (N:Nat):Aa Tryz.prog 129 ⟨[(Ai,false),(I,false)],[.bool],true,Jn N⟩:=
  have E:Env Tryz.prog Ay0:=Av tab ⟨ABb,trivial⟩
  Ar (body:=Ap Tryz.f129) (Pc:=[]) E rfl mixed Tryz.func129 (by kernel_rfl) (by kernel_rfl) (by kernel_rfl) (by kernel_rfl) (fun A hA=>trivial) (fun _=>by kernel_rfl)
theorem Aa4:Aa Tryz.prog 129 X0:=Aeu 0
theorem Abu (N:Nat):Aa Tryz.prog 162 ⟨[(Ae,false)],[AU],true,V1 N⟩:=
  have E:Env Tryz.prog Av9:=Av tab ⟨IV,⟨Aa4,trivial⟩⟩
  Ar (body:=Ap Tryz.f162) (Pc:=[(0,⟨Aix,Apk,Ky N N⟩)]) E rfl mixed Tryz.func162 (by kernel_rfl) (by kernel_rfl) (by kernel_rfl) (by kernel_rfl) (fun A hA=>⟨AI (body:=At Tryz.f162 0) (inner:=[(2,⟨Ait,Akr,Jf N N⟩)]) E mixed hA (by kernel_rfl) (by kernel_rfl) (by kernel_rfl) ⟨AI (body:=At Tryz.f162 2) (inner:=[]) E mixed hA (by kernel_rfl) (by kernel_rfl) (by kernel_rfl) trivial (fun _=>rfl) (fun _ _=>by kernel_rfl) N,trivial⟩ (fun _=>rfl) (fun _ _=>by kernel_rfl) N,trivial⟩) (fun _=>by kernel_rfl)
theorem Ul:Aa Tryz.prog 162 Pv:=Aa.less (fun N:Nat=>V1 N) Abu VS
theorem Adn (N:Nat):Aa Tryz.prog 188 ⟨[(AA,false)],[I],true,X4 N⟩:=
  have E:Env Tryz.prog Ava:=Av tab trivial
  Ar (body:=Ap Tryz.f188) (Pc:=[]) E rfl mixed Tryz.func188 (by kernel_rfl) (by kernel_rfl) (by kernel_rfl) (by kernel_rfl) (fun A hA=>trivial) (fun _=>by kernel_rfl)
theorem Ti:Aa Tryz.prog 188 Qa:=Aa.less (fun N:Nat=>X4 N) Adn (fun d r h=>⟨0,(Aa0 0 d).trans h⟩)
theorem Agr (N:Nat):Aa Tryz.prog 228 ⟨[(I,false)],[.bool],true,Wt N⟩:=
  have E:Env Tryz.prog Axw:=Av tab trivial
  Ar (body:=Ap Tryz.f228) (Pc:=[]) E rfl mixed Tryz.func228 (by kernel_rfl) (by kernel_rfl) (by kernel_rfl) (by kernel_rfl) (fun A hA=>trivial) (fun _=>by kernel_rfl)
theorem AAq:Aa Tryz.prog 228 AA5:=Aa.less (fun N:Nat=>Wt N) Agr (fun d r h=>⟨0,(Aes 0 d).trans h⟩)
theorem Acc (N:Nat):Aa Tryz.prog 130 ⟨[(AA,false),(I,false)],[I],true,IS N⟩:=
  have E:Env Tryz.prog Ax8:=Av tab trivial
  Ar (body:=Ap Tryz.f130) (Pc:=[]) E rfl mixed Tryz.func130 (by kernel_rfl) (by kernel_rfl) (by kernel_rfl) (by kernel_rfl) (fun A hA=>trivial) (fun _=>by kernel_rfl)
theorem TG:Aa Tryz.prog 130 Oc:=Acc 0
theorem OE (N:Nat):Aa Tryz.prog 127 ⟨[(I,false)],[Ai],true,Gn N⟩:=
  have E:Env Tryz.prog UI:=Av tab trivial
  Ar (body:=Ap Tryz.f127) (Pc:=[(0,⟨Rr,Rn,DC N N⟩)]) E rfl mixed Tryz.func127 (by kernel_rfl) (by kernel_rfl) (by kernel_rfl) (by kernel_rfl) (fun A hA=>⟨AI (body:=At Tryz.f127 0) (inner:=[]) E mixed hA (by kernel_rfl) (by kernel_rfl) (by kernel_rfl) trivial (fun _=>rfl) (fun _ _=>by kernel_rfl) N,trivial⟩) (fun _=>by kernel_rfl)
theorem D7:Aa Tryz.prog 127 Dp:=Aa.less (fun N:Nat=>Gn N) OE And
theorem Aem (N:Nat):Aa Tryz.prog 179 ⟨[(AA,false),(Ai,false),(I,false)],[I],true,VM N⟩:=
  have E:Env Tryz.prog Avx:=Av tab ⟨D7,⟨TG,trivial⟩⟩
  Ar (body:=Ap Tryz.f179) (Pc:=[(0,⟨Amg,Alu,Gw N N⟩)]) E rfl mixed Tryz.func179 (by kernel_rfl) (by kernel_rfl) (by kernel_rfl) (by kernel_rfl) (fun A hA=>⟨AI (body:=At Tryz.f179 0) (inner:=[]) E mixed hA (by kernel_rfl) (by kernel_rfl) (by kernel_rfl) trivial (fun _=>rfl) (fun _ _=>by kernel_rfl) N,trivial⟩) (fun _=>by kernel_rfl)
theorem WG:Aa Tryz.prog 179 Tk:=Aa.less (fun N:Nat=>VM N) Aem UO
theorem Avu:Bs Tryz.prog Ahb:=T8 AAq
theorem Ae3 (N:Nat):Aa Tryz.prog 248 ⟨[(Ai,false),(EM,false)],[I],true,Wl N⟩:=
  have E:Env Tryz.prog Azg:=Cl tab trivial ⟨Avu,trivial⟩ (fun _ h=>by cases h)
  Ar (body:=Ap Tryz.f248) (Pc:=[(0,⟨Aki,Am2,RI N N⟩)]) E rfl mixed Tryz.func248 (by kernel_rfl) (by kernel_rfl) (by kernel_rfl) (by kernel_rfl) (fun A hA=>⟨AI (body:=At Tryz.f248 0) (inner:=[]) E mixed hA (by kernel_rfl) (by kernel_rfl) (by kernel_rfl) trivial (fun _=>rfl) (fun _ _=>by kernel_rfl) N,trivial⟩) (fun _=>by kernel_rfl)
theorem ACm:Aa Tryz.prog 248 Aqv:=Aa.less (fun N:Nat=>Wl N) Ae3 XJ
theorem Aok (N:Nat):Aa Tryz.prog 214 ⟨[(Ai,false),(EM,false)],[.bool],true,Ag4 N⟩:=
  have E:Env Tryz.prog AAv:=Av tab ⟨ACm,trivial⟩
  Ar (body:=Ap Tryz.f214) (Pc:=[]) E rfl mixed Tryz.func214 (by kernel_rfl) (by kernel_rfl) (by kernel_rfl) (by kernel_rfl) (fun A hA=>trivial) (fun _=>by kernel_rfl)
theorem AEx:Aa Tryz.prog 214 Azl:=Aok 0
theorem Ae7 (N:Nat):Aa Tryz.prog 227 ⟨[(Ai,false),(OZ,false)],[.bool],true,Xe N⟩:=
  have E:Env Tryz.prog Ay2:=Av tab ⟨AEx,trivial⟩
  Ar (body:=Ap Tryz.f227) (Pc:=[]) E rfl mixed Tryz.func227 (by kernel_rfl) (by kernel_rfl) (by kernel_rfl) (by kernel_rfl) (fun A hA=>trivial) (fun _=>by kernel_rfl)
theorem ABe:Aa Tryz.prog 227 ACk:=Ae7 0
theorem Aw9:Bs Tryz.prog Ah0:=Mg ABe
theorem Abo (N:Nat):Aa Tryz.prog 232 ⟨[(Ag,false),(C5,false)],[I],true,WH N⟩:=
  have E:Env Tryz.prog Avs:=Cl tab trivial ⟨Aw9,trivial⟩ (fun _ h=>by cases h)
  Ar (body:=Ap Tryz.f232) (Pc:=[(0,⟨Ale,Ans,Sh N N⟩)]) E rfl mixed Tryz.func232 (by kernel_rfl) (by kernel_rfl) (by kernel_rfl) (by kernel_rfl) (fun A hA=>⟨AI (body:=At Tryz.f232 0) (inner:=[]) E mixed hA (by kernel_rfl) (by kernel_rfl) (by kernel_rfl) trivial (fun _=>rfl) (fun _ _=>by kernel_rfl) N,trivial⟩) (fun _=>by kernel_rfl)
theorem ABd:Aa Tryz.prog 232 Aql:=Aa.less (fun N:Nat=>WH N) Abo VN
theorem Ao8 (N:Nat):Aa Tryz.prog 167 ⟨[(Ag,false),(C5,false)],[.bool],true,Aiq N⟩:=
  have E:Env Tryz.prog ADo:=Av tab ⟨ABd,trivial⟩
  Ar (body:=Ap Tryz.f167) (Pc:=[]) E rfl mixed Tryz.func167 (by kernel_rfl) (by kernel_rfl) (by kernel_rfl) (by kernel_rfl) (fun A hA=>trivial) (fun _=>by kernel_rfl)
theorem AEi:Aa Tryz.prog 167 Azr:=Ao8 0
theorem Acj (N:Nat):Aa Tryz.prog 230 ⟨[(I,false),(OZ,false)],[.bool],true,VU N⟩:=
  have E:Env Tryz.prog Axp:=Av tab trivial
  Ar (body:=Ap Tryz.f230) (Pc:=[]) E rfl mixed Tryz.func230 (by kernel_rfl) (by kernel_rfl) (by kernel_rfl) (by kernel_rfl) (fun A hA=>trivial) (fun _=>by kernel_rfl)
theorem Az8:Aa Tryz.prog 230 ACp:=Aa.less (fun N:Nat=>VU N) Acj (fun d r h=>⟨0,(Aff 0 d).trans h⟩)
theorem Awe:Bs Tryz.prog Aid:=Mg Az8
theorem Afw (N:Nat):Aa Tryz.prog 255 ⟨[(I,false),(OZ,false),(KX,false),(QT,false),(F5,false)],[.bool],true,XF N⟩:=
  have E:Env Tryz.prog Avm:=Cl tab ⟨WG,trivial⟩ ⟨Awe,trivial⟩ (Aip (by kernel_rfl))
  Ar (body:=Ap Tryz.f255) (Pc:=[]) E rfl mixed Tryz.func255 (by kernel_rfl) (by kernel_rfl) (by kernel_rfl) (by kernel_rfl) (fun A hA=>trivial) (fun _=>by kernel_rfl)
theorem AB9:Aa Tryz.prog 255 ACl:=Afw 0
theorem Avb:Bs Tryz.prog Aij:=TD AB9
theorem Amj (N:Nat):Aa Tryz.prog 248 ⟨[(Ai,false),(AB,false)],[I],true,Ag9 N⟩:=
  have E:Env Tryz.prog ACi:=Cl tab trivial ⟨Avb,trivial⟩ (fun _ h=>by cases h)
  Ar (body:=Ap Tryz.f248) (Pc:=[(0,⟨Aq2,Asr,WA N N⟩)]) E rfl mixed Tryz.func248 (by kernel_rfl) (by kernel_rfl) (by kernel_rfl) (by kernel_rfl) (fun A hA=>⟨AI (body:=At Tryz.f248 0) (inner:=[]) E mixed hA (by kernel_rfl) (by kernel_rfl) (by kernel_rfl) trivial (fun _=>rfl) (fun _ _=>by kernel_rfl) N,trivial⟩) (fun _=>by kernel_rfl)
theorem AE3:Aa Tryz.prog 248 Azt:=Aa.less (fun N:Nat=>Ag9 N) Amj Xn
theorem Akx (N:Nat):Aa Tryz.prog 214 ⟨[(Ai,false),(AB,false)],[.bool],true,Aho N⟩:=
  have E:Env Tryz.prog AB1:=Av tab ⟨AE3,trivial⟩
  Ar (body:=Ap Tryz.f214) (Pc:=[]) E rfl mixed Tryz.func214 (by kernel_rfl) (by kernel_rfl) (by kernel_rfl) (by kernel_rfl) (fun A hA=>trivial) (fun _=>by kernel_rfl)
theorem AE9:Aa Tryz.prog 214 Azo:=Akx 0
theorem Agc (N:Nat):Aa Tryz.prog 229 ⟨[(AA,false),(Ag,false),(I,false),(I,false),(E0,false)],[.bool],true,O8 N⟩:=
  have E:Env Tryz.prog Aw0:=Cl tab ⟨D7,⟨TG,⟨AE9,trivial⟩⟩⟩ trivial (fun _ h=>by cases h)
  Ar (body:=Ap Tryz.f229) (Pc:=[]) E rfl mixed Tryz.func229 (by kernel_rfl) (by kernel_rfl) (by kernel_rfl) (by kernel_rfl) (fun A hA=>trivial) (fun _=>by kernel_rfl)
theorem ABy:Aa Tryz.prog 229 Aux:=Agc 0
theorem Afi (N:Nat):Aa Tryz.prog 161 ⟨[(AU,false),(An,false)],[.bool],true,VQ N⟩:=
  have E:Env Tryz.prog Avc:=Cl tab ⟨AEi,⟨Ti,⟨ABy,trivial⟩⟩⟩ trivial (fun _ h=>by cases h)
  Ar (body:=Ap Tryz.f161) (Pc:=[(0,⟨Ali,Ai6,R7 N N⟩),(2,⟨Ai3,Alt,M7 N N⟩)]) E rfl mixed Tryz.func161 (by kernel_rfl) (by kernel_rfl) (by kernel_rfl) (by kernel_rfl) (fun A hA=>⟨AI (body:=At Tryz.f161 0) (inner:=[]) E mixed hA (by kernel_rfl) (by kernel_rfl) (by kernel_rfl) trivial (fun _=>rfl) (fun _ _=>by kernel_rfl) N,⟨AI (body:=At Tryz.f161 2) (inner:=[(4,⟨Akj,Akc,M4 N N⟩)]) E mixed hA (by kernel_rfl) (by kernel_rfl) (by kernel_rfl) ⟨AI (body:=At Tryz.f161 4) (inner:=[(6,⟨Al1,Ann,Ny N N⟩)]) E mixed hA (by kernel_rfl) (by kernel_rfl) (by kernel_rfl) ⟨AI (body:=At Tryz.f161 6) (inner:=[]) E mixed hA (by kernel_rfl) (by kernel_rfl) (by kernel_rfl) trivial (fun _=>rfl) (fun _ _=>by kernel_rfl) N,trivial⟩ (fun _=>rfl) (fun _ _=>by kernel_rfl) N,trivial⟩ (fun _=>rfl) (fun _ _=>by kernel_rfl) N,trivial⟩⟩) (fun _=>by kernel_rfl)
theorem ACc:Aa Tryz.prog 161 Atx:=Aa.less (fun N:Nat=>VQ N) Afi Po
theorem Ac8 (N:Nat):Aa Tryz.prog 74 ⟨[(Ae,false),(An,false)],[.bool,.bool],true,PZ N⟩:=
  have E:Env Tryz.prog Ax9:=Av tab ⟨Qi,⟨ACc,⟨Ul,trivial⟩⟩⟩
  Ar (body:=Ap Tryz.f74) (Pc:=[]) E rfl mixed Tryz.func74 (by kernel_rfl) (by kernel_rfl) (by kernel_rfl) (by kernel_rfl) (fun A hA=>trivial) (fun _=>by kernel_rfl)
theorem AAw:Aa Tryz.prog 74 Atb:=Ac8 0
theorem YI (N:Nat):Aa Tryz.prog 164 ⟨[(Ae,false),(An,false)],[.bool],true,Su N⟩:=
  have E:Env Tryz.prog Aqe:=Av tab trivial
  Ar (body:=Ap Tryz.f164) (Pc:=[(0,⟨Aax,Af9,MX N N⟩)]) E rfl mixed Tryz.func164 (by kernel_rfl) (by kernel_rfl) (by kernel_rfl) (by kernel_rfl) (fun A hA=>⟨AI (body:=At Tryz.f164 0) (inner:=[(2,⟨Abv,Aeo,Ku N N⟩)]) E mixed hA (by kernel_rfl) (by kernel_rfl) (by kernel_rfl) ⟨AI (body:=At Tryz.f164 2) (inner:=[(4,⟨Agm,Acd,JV N N⟩)]) E mixed hA (by kernel_rfl) (by kernel_rfl) (by kernel_rfl) ⟨AI (body:=At Tryz.f164 4) (inner:=[]) E mixed hA (by kernel_rfl) (by kernel_rfl) (by kernel_rfl) trivial (fun _=>rfl) (fun _ _=>by kernel_rfl) N,trivial⟩ (fun _=>rfl) (fun _ _=>by kernel_rfl) N,trivial⟩ (fun _=>rfl) (fun _ _=>by kernel_rfl) N,trivial⟩) (fun _=>by kernel_rfl)
theorem Aws:Aa Tryz.prog 164 Ahe:=Aa.less (fun N:Nat=>Su N) YI Yj
theorem Afx (N:Nat):Aa Tryz.prog 166 ⟨[(An,false),(An,false),(I,false),(I,false),(I,false)],[.bool],true,VG N⟩:=
  have E:Env Tryz.prog Axu:=Av tab ⟨DQ,⟨Aeb,trivial⟩⟩
  Ar (body:=Ap Tryz.f166) (Pc:=[(0,⟨Amw,Aji,R5 N N⟩)]) E rfl mixed Tryz.func166 (by kernel_rfl) (by kernel_rfl) (by kernel_rfl) (by kernel_rfl) (fun A hA=>⟨AI (body:=At Tryz.f166 0) (inner:=[]) E mixed hA (by kernel_rfl) (by kernel_rfl) (by kernel_rfl) trivial (fun _=>rfl) (fun _ _=>by kernel_rfl) N,trivial⟩) (fun _=>by kernel_rfl)
theorem ADh:Aa Tryz.prog 166 Apu:=Aa.less (fun N:Nat=>VG N) Afx Uv
theorem Ac3 (N:Nat):Aa Tryz.prog 75 ⟨[(Ae,false),(An,false)],[.bool,.bool],true,WN N⟩:=
  have E:Env Tryz.prog Ax1:=Av tab ⟨WU,⟨Aws,⟨Ace,⟨ADh,trivial⟩⟩⟩⟩
  Ar (body:=Ap Tryz.f75) (Pc:=[(0,⟨Ak9,Ant,RT N N⟩)]) E rfl mixed Tryz.func75 (by kernel_rfl) (by kernel_rfl) (by kernel_rfl) (by kernel_rfl) (fun A hA=>⟨AI (body:=At Tryz.f75 0) (inner:=[(2,⟨Amp,Ajz,ND N N⟩)]) E mixed hA (by kernel_rfl) (by kernel_rfl) (by kernel_rfl) ⟨AI (body:=At Tryz.f75 2) (inner:=[(4,⟨Alo,Ajt,MV N N⟩)]) E mixed hA (by kernel_rfl) (by kernel_rfl) (by kernel_rfl) ⟨AI (body:=At Tryz.f75 4) (inner:=[]) E mixed hA (by kernel_rfl) (by kernel_rfl) (by kernel_rfl) trivial (fun _=>rfl) (fun _ _=>by kernel_rfl) N,trivial⟩ (fun _=>rfl) (fun _ _=>by kernel_rfl) N,trivial⟩ (fun _=>rfl) (fun _ _=>by kernel_rfl) N,trivial⟩) (fun _=>by kernel_rfl)
theorem AC0:Aa Tryz.prog 75 Arw:=Aa.less (fun N:Nat=>WN N) Ac3 Aay
theorem Ab6 (N:Nat):Aa Tryz.prog 233 ⟨[(I,false)],[.bool],true,W5 N⟩:=
  have E:Env Tryz.prog Awl:=Av tab trivial
  Ar (body:=Ap Tryz.f233) (Pc:=[]) E rfl mixed Tryz.func233 (by kernel_rfl) (by kernel_rfl) (by kernel_rfl) (by kernel_rfl) (fun A hA=>trivial) (fun _=>by kernel_rfl)
theorem Az6:Aa Tryz.prog 233 AB2:=Aa.less (fun N:Nat=>W5 N) Ab6 (fun d r h=>⟨0,(Ad5 0 d).trans h⟩)
theorem Axc:Bs Tryz.prog Ah1:=T8 Az6
theorem Afg (N:Nat):Aa Tryz.prog 255 ⟨[(I,false),(OZ,false),(KX,false),(QT,false),(I4,false)],[.bool],true,W3 N⟩:=
  have E:Env Tryz.prog Aym:=Cl tab ⟨WG,trivial⟩ ⟨Axc,trivial⟩ (Aip (by kernel_rfl))
  Ar (body:=Ap Tryz.f255) (Pc:=[]) E rfl mixed Tryz.func255 (by kernel_rfl) (by kernel_rfl) (by kernel_rfl) (by kernel_rfl) (fun A hA=>trivial) (fun _=>by kernel_rfl)
theorem ADj:Aa Tryz.prog 255 ABj:=Afg 0
theorem Au5:Bs Tryz.prog Ahf:=TD ADj
theorem Amk (N:Nat):Aa Tryz.prog 248 ⟨[(Ai,false),(AC,false)],[I],true,Ah2 N⟩:=
  have E:Env Tryz.prog AC6:=Cl tab trivial ⟨Au5,trivial⟩ (fun _ h=>by cases h)
  Ar (body:=Ap Tryz.f248) (Pc:=[(0,⟨Aqq,Aq3,XL N N⟩)]) E rfl mixed Tryz.func248 (by kernel_rfl) (by kernel_rfl) (by kernel_rfl) (by kernel_rfl) (fun A hA=>⟨AI (body:=At Tryz.f248 0) (inner:=[]) E mixed hA (by kernel_rfl) (by kernel_rfl) (by kernel_rfl) trivial (fun _=>rfl) (fun _ _=>by kernel_rfl) N,trivial⟩) (fun _=>by kernel_rfl)
theorem ADs:Aa Tryz.prog 248 Azq:=Aa.less (fun N:Nat=>Ah2 N) Amk Yd
theorem Anb (N:Nat):Aa Tryz.prog 214 ⟨[(Ai,false),(AC,false)],[.bool],true,Aht N⟩:=
  have E:Env Tryz.prog AB7:=Av tab ⟨ADs,trivial⟩
  Ar (body:=Ap Tryz.f214) (Pc:=[]) E rfl mixed Tryz.func214 (by kernel_rfl) (by kernel_rfl) (by kernel_rfl) (by kernel_rfl) (fun A hA=>trivial) (fun _=>by kernel_rfl)
theorem AD2:Aa Tryz.prog 214 Azz:=Anb 0
theorem Ab7 (N:Nat):Aa Tryz.prog 229 ⟨[(AA,false),(Ag,false),(I,false),(I,false),(Hh,false)],[.bool],true,TB N⟩:=
  have E:Env Tryz.prog Au9:=Cl tab ⟨D7,⟨TG,⟨AD2,trivial⟩⟩⟩ trivial (fun _ h=>by cases h)
  Ar (body:=Ap Tryz.f229) (Pc:=[]) E rfl mixed Tryz.func229 (by kernel_rfl) (by kernel_rfl) (by kernel_rfl) (by kernel_rfl) (fun A hA=>trivial) (fun _=>by kernel_rfl)
theorem ACj:Aa Tryz.prog 229 Aqr:=Ab7 0
theorem Af7 (N:Nat):Aa Tryz.prog 170 ⟨[(AU,false)],[An],true,Xk N⟩:=
  have E:Env Tryz.prog Axh:=Av tab ⟨Ti,⟨Aqn,⟨ACj,trivial⟩⟩⟩
  Ar (body:=Ap Tryz.f170) (Pc:=[(0,⟨Akh,Alq,NJ N N⟩),(4,⟨Alp,Aoc,NO N N⟩)]) E rfl mixed Tryz.func170 (by kernel_rfl) (by kernel_rfl) (by kernel_rfl) (by kernel_rfl) (fun A hA=>⟨AI (body:=At Tryz.f170 0) (inner:=[(2,⟨Ak1,Akq,M6 N N⟩)]) E mixed hA (by kernel_rfl) (by kernel_rfl) (by kernel_rfl) ⟨AI (body:=At Tryz.f170 2) (inner:=[]) E mixed hA (by kernel_rfl) (by kernel_rfl) (by kernel_rfl) trivial (fun _=>rfl) (fun _ _=>by kernel_rfl) N,trivial⟩ (fun _=>rfl) (fun _ _=>by kernel_rfl) N,⟨AI (body:=At Tryz.f170 4) (inner:=[(6,⟨Anq,Anm,MP N N⟩),(12,⟨Abs,Abh,Kq N N⟩)]) E mixed hA (by kernel_rfl) (by kernel_rfl) (by kernel_rfl) ⟨AI (body:=At Tryz.f170 6) (inner:=[(8,⟨Ao9,Al9,NN N N⟩)]) E mixed hA (by kernel_rfl) (by kernel_rfl) (by kernel_rfl) ⟨AI (body:=At Tryz.f170 8) (inner:=[(10,⟨Abq,Ac9,JO N N⟩)]) E mixed hA (by kernel_rfl) (by kernel_rfl) (by kernel_rfl) ⟨AI (body:=At Tryz.f170 10) (inner:=[]) E mixed hA (by kernel_rfl) (by kernel_rfl) (by kernel_rfl) trivial (fun _=>rfl) (fun _ _=>by kernel_rfl) N,trivial⟩ (fun _=>rfl) (fun _ _=>by kernel_rfl) N,trivial⟩ (fun _=>rfl) (fun _ _=>by kernel_rfl) N,⟨AI (body:=At Tryz.f170 12) (inner:=[]) E mixed hA (by kernel_rfl) (by kernel_rfl) (by kernel_rfl) trivial (fun _=>rfl) (fun _ _=>by kernel_rfl) N,trivial⟩⟩ (fun _=>rfl) (fun _ _=>by kernel_rfl) N,trivial⟩⟩) (fun _=>by kernel_rfl)
theorem Agk:Aa Tryz.prog 170 XP:=Aa.less (fun N:Nat=>Xk N) Af7 T3
theorem Adp (N:Nat):Aa Tryz.prog 77 ⟨[(Ae,false)],[An,.bool],true,Jq N⟩:=
  have E:Env Tryz.prog Ayj:=Av tab ⟨Qi,⟨Ul,⟨Agk,trivial⟩⟩⟩
  Ar (body:=Ap Tryz.f77) (Pc:=[]) E rfl mixed Tryz.func77 (by kernel_rfl) (by kernel_rfl) (by kernel_rfl) (by kernel_rfl) (fun A hA=>trivial) (fun _=>by kernel_rfl)
theorem AAl:Aa Tryz.prog 77 Apy:=Adp 0
theorem PL (N:Nat):Aa Tryz.prog 38 ⟨[(Ai,false),(Ai,false)],[.bool],true,Gt N⟩:=
  have E:Env Tryz.prog UR:=Av tab trivial
  Ar (body:=Ap Tryz.f38) (Pc:=[(0,⟨RF,Ru,Dz N N⟩)]) E rfl mixed Tryz.func38 (by kernel_rfl) (by kernel_rfl) (by kernel_rfl) (by kernel_rfl) (fun A hA=>⟨AI (body:=At Tryz.f38 0) (inner:=[]) E mixed hA (by kernel_rfl) (by kernel_rfl) (by kernel_rfl) trivial (fun _=>rfl) (fun _ _=>by kernel_rfl) N,trivial⟩) (fun _=>by kernel_rfl)
theorem VX:Aa Tryz.prog 38 NP:=Aa.less (fun N:Nat=>Gt N) PL Al4
theorem YY (N:Nat):Aa Tryz.prog 43 ⟨[(Ag,false),(Ag,false)],[.bool],true,Sa N⟩:=
  have E:Env Tryz.prog Ask:=Av tab ⟨VX,trivial⟩
  Ar (body:=Ap Tryz.f43) (Pc:=[(0,⟨Ade,Adg,Im N N⟩)]) E rfl mixed Tryz.func43 (by kernel_rfl) (by kernel_rfl) (by kernel_rfl) (by kernel_rfl) (fun A hA=>⟨AI (body:=At Tryz.f43 0) (inner:=[]) E mixed hA (by kernel_rfl) (by kernel_rfl) (by kernel_rfl) trivial (fun _=>rfl) (fun _ _=>by kernel_rfl) N,trivial⟩) (fun _=>by kernel_rfl)
theorem Ag0:Aa Tryz.prog 43 Wy:=Aa.less (fun N:Nat=>Sa N) YY Ac5
theorem Ob (N:Nat):Aa Tryz.prog 79 ⟨[(An,false),(An,false)],[.bool],true,Gf N⟩:=
  have E:Env Tryz.prog UF:=Av tab ⟨Ag0,trivial⟩
  Ar (body:=Ap Tryz.f79) (Pc:=[(0,⟨RA,Rv,Dy N N⟩)]) E rfl mixed Tryz.func79 (by kernel_rfl) (by kernel_rfl) (by kernel_rfl) (by kernel_rfl) (fun A hA=>⟨AI (body:=At Tryz.f79 0) (inner:=[]) E mixed hA (by kernel_rfl) (by kernel_rfl) (by kernel_rfl) trivial (fun _=>rfl) (fun _ _=>by kernel_rfl) N,trivial⟩) (fun _=>by kernel_rfl)
theorem Xg:Aa Tryz.prog 79 NM:=Aa.less (fun N:Nat=>Gf N) Ob Aln
theorem Aa8 (N:Nat):Aa Tryz.prog 172 ⟨[(Cb,false)],[Cb],true,W8 N⟩:=
  have E:Env Tryz.prog Axj:=Av tab trivial
  Ar (body:=Ap Tryz.f172) (Pc:=[]) E rfl mixed Tryz.func172 (by kernel_rfl) (by kernel_rfl) (by kernel_rfl) (by kernel_rfl) (fun A hA=>trivial) (fun _=>by kernel_rfl)
theorem ACx:Aa Tryz.prog 172 Ase:=Aa.less (fun N:Nat=>W8 N) Aa8 ZB
theorem Abm (N:Nat):Aa Tryz.prog 80 ⟨[(Aj,false)],[Ae,.bool],true,V4 N⟩:=
  have E:Env Tryz.prog Ayp:=Av tab ⟨Wc,⟨ACx,trivial⟩⟩
  Ar (body:=Ap Tryz.f80) (Pc:=[(0,⟨Ais,Am1,IQ N N⟩)]) E rfl mixed Tryz.func80 (by kernel_rfl) (by kernel_rfl) (by kernel_rfl) (by kernel_rfl) (fun A hA=>⟨AI (body:=At Tryz.f80 0) (inner:=[]) E mixed hA (by kernel_rfl) (by kernel_rfl) (by kernel_rfl) trivial (fun _=>rfl) (fun _ _=>by kernel_rfl) N,trivial⟩) (fun _=>by kernel_rfl)
theorem ACv:Aa Tryz.prog 80 Ara:=Aa.less (fun N:Nat=>V4 N) Abm Uk
theorem Afs (N:Nat):Aa Tryz.prog 94 ⟨[(Aj,false),(I,false)],[.bool],true,Tv N⟩:=
  have E:Env Tryz.prog Av5:=Av tab ⟨Wc,⟨M0,trivial⟩⟩
  Ar (body:=Ap Tryz.f94) (Pc:=[]) E rfl mixed Tryz.func94 (by kernel_rfl) (by kernel_rfl) (by kernel_rfl) (by kernel_rfl) (fun A hA=>trivial) (fun _=>by kernel_rfl)
theorem ABv:Aa Tryz.prog 94 Ap1:=Afs 0
theorem Ad0 (N:Nat):Aa Tryz.prog 146 ⟨[(Ai,false)],[Ai],true,XM N⟩:=
  have E:Env Tryz.prog Awo:=Av tab trivial
  Ar (body:=Ap Tryz.f146) (Pc:=[]) E rfl mixed Tryz.func146 (by kernel_rfl) (by kernel_rfl) (by kernel_rfl) (by kernel_rfl) (fun A hA=>trivial) (fun _=>by kernel_rfl)
theorem Atl:Aa Tryz.prog 146 Aek:=Aa.less (fun N:Nat=>XM N) Ad0 Afb
theorem Afd (N:Nat):Aa Tryz.prog 158 ⟨[(I,false),(I,false)],[Ag],true,WS N⟩:=
  have E:Env Tryz.prog Azf:=Cl tab ⟨Atl,trivial⟩ trivial (fun _ h=>by cases h)
  Ar (body:=Ap Tryz.f158) (Pc:=[(0,⟨An3,Amz,SC N N⟩)]) E rfl mixed Tryz.func158 (by kernel_rfl) (by kernel_rfl) (by kernel_rfl) (by kernel_rfl) (fun A hA=>⟨AI (body:=At Tryz.f158 0) (inner:=[(2,⟨Ajl,Ao0,Sz N N⟩)]) E mixed hA (by kernel_rfl) (by kernel_rfl) (by kernel_rfl) ⟨AI (body:=At Tryz.f158 2) (inner:=[(4,⟨Am6,Alx,Ng N N⟩)]) E mixed hA (by kernel_rfl) (by kernel_rfl) (by kernel_rfl) ⟨AI (body:=At Tryz.f158 4) (inner:=[]) E mixed hA (by kernel_rfl) (by kernel_rfl) (by kernel_rfl) trivial (fun _=>rfl) (fun _ _=>by kernel_rfl) N,trivial⟩ (fun _=>rfl) (fun _ _=>by kernel_rfl) N,trivial⟩ (fun _=>rfl) (fun _ _=>by kernel_rfl) N,trivial⟩) (fun _=>by kernel_rfl)
theorem AAt:Aa Tryz.prog 158 Ap2:=Aa.less (fun N:Nat=>WS N) Afd VW
theorem AEj:A3 Tryz.prog 223 (Azw,{ gone:=[0],deep:=[] }):=Xm (enters_of Tryz.func223 (by kernel_rfl) rfl) (fun w v1 v2 xs ys h1 h2 l1 l2=>eqH h1 h2 l1 l2) Ala Rt
theorem Ad6 (N:Nat):Aa Tryz.prog 153 ⟨[(AA,false),(Ai,false)],[Ag],true,Xx N⟩:=
  have E:Env Tryz.prog Awz:=G9 tab ⟨D7,⟨TG,⟨Atl,⟨ADl,⟨AE1,trivial⟩⟩⟩⟩⟩ trivial (fun _ h=>by cases h) ⟨AEj,trivial⟩ (by kernel_rfl)
  Ar (body:=Ap Tryz.f153) (Pc:=[(0,⟨Aod,Amr,SB N N⟩),(6,⟨Aos,Ak7,Sd N N⟩)]) E rfl mixed Tryz.func153 (by kernel_rfl) (by kernel_rfl) (by kernel_rfl) (by kernel_rfl) (fun A hA=>⟨AI (body:=At Tryz.f153 0) (inner:=[(2,⟨Aof,Apa,Sy N N⟩)]) E mixed hA (by kernel_rfl) (by kernel_rfl) (by kernel_rfl) ⟨AI (body:=At Tryz.f153 2) (inner:=[(4,⟨Akl,Aoo,Sq N N⟩)]) E mixed hA (by kernel_rfl) (by kernel_rfl) (by kernel_rfl) ⟨AI (body:=At Tryz.f153 4) (inner:=[]) E mixed hA (by kernel_rfl) (by kernel_rfl) (by kernel_rfl) trivial (fun _=>rfl) (fun _ _=>by kernel_rfl) N,trivial⟩ (fun _=>rfl) (fun _ _=>by kernel_rfl) N,trivial⟩ (fun _=>rfl) (fun _ _=>by kernel_rfl) N,⟨AI (body:=At Tryz.f153 6) (inner:=[]) E mixed hA (by kernel_rfl) (by kernel_rfl) (by kernel_rfl) trivial (fun _=>rfl) (fun _ _=>by kernel_rfl) N,trivial⟩⟩) (fun _=>by kernel_rfl)
theorem AAp:Aa Tryz.prog 153 Apn:=Aa.less (fun N:Nat=>Xx N) Ad6 SY
theorem Av2:Bs Tryz.prog Ah4:=Acb Ap9
theorem Ajq (N:Nat):Aa Tryz.prog 219 ⟨[(Ag,false),(Ai,false),(EJ,false)],[I,.bool],true,Ah5 N⟩:=
  have E:Env Tryz.prog AAu:=Cl tab trivial ⟨Av2,trivial⟩ (fun _ h=>by cases h)
  Ar (body:=Ap Tryz.f219) (Pc:=[(0,⟨At8,Arc,XR N N⟩)]) E rfl mixed Tryz.func219 (by kernel_rfl) (by kernel_rfl) (by kernel_rfl) (by kernel_rfl) (fun A hA=>⟨AI (body:=At Tryz.f219 0) (inner:=[]) E mixed hA (by kernel_rfl) (by kernel_rfl) (by kernel_rfl) trivial (fun _=>rfl) (fun _ _=>by kernel_rfl) N,trivial⟩) (fun _=>by kernel_rfl)
theorem AD5:Aa Tryz.prog 219 Azi:=Aa.less (fun N:Nat=>Ah5 N) Ajq Ux
theorem Abj (N:Nat):Aa Tryz.prog 144 ⟨[(Bh,false),(Ai,false)],[I],true,T6 N⟩:=
  have E:Env Tryz.prog Ayu:=Av tab ⟨AD5,trivial⟩
  Ar (body:=Ap Tryz.f144) (Pc:=[]) E rfl mixed Tryz.func144 (by kernel_rfl) (by kernel_rfl) (by kernel_rfl) (by kernel_rfl) (fun A hA=>trivial) (fun _=>by kernel_rfl)
theorem AB6:Aa Tryz.prog 144 Aub:=Abj 0
theorem Ago (N:Nat):A3 Tryz.prog 96 (⟨[(AA,false),(I,false)],[Bh],true,WI N⟩,md0):=
  have E:Env Tryz.prog Au7:=Av tab ⟨AB6,⟨AAp,⟨AAt,⟨Ti,trivial⟩⟩⟩⟩
  Sf (body:=Ap Tryz.f96) (Pc:=[(0,⟨Alk,Akp,RO N N⟩)]) E mixed Tryz.func96 (by kernel_rfl) (by kernel_rfl) (by kernel_rfl) (by kernel_rfl) (fun A hA=>⟨AI (body:=At Tryz.f96 0) (inner:=[(2,⟨Ao3,Amy,R2 N N⟩)]) E mixed hA (by kernel_rfl) (by kernel_rfl) (by kernel_rfl) ⟨AI (body:=At Tryz.f96 2) (inner:=[]) E mixed hA (by kernel_rfl) (by kernel_rfl) (by kernel_rfl) trivial (fun _=>rfl) (fun _ _=>by kernel_rfl) N,trivial⟩ (fun _=>rfl) (fun _ _=>by kernel_rfl) N,trivial⟩) (fun _=>by kernel_rfl)
theorem Az9:A3 Tryz.prog 96 (Aqs,md0):=A3.less (fun N:Nat=>WI N) Ago Xt
theorem Aam (N:Nat):Aa Tryz.prog 243 ⟨[(I,false),(Ed,false),(OZ,false)],[.bool],true,WE N⟩:=
  have E:Env Tryz.prog Avq:=Cl tab ⟨Aa4,⟨WG,trivial⟩⟩ trivial (Aip (by kernel_rfl))
  Ar (body:=Ap Tryz.f243) (Pc:=[]) E rfl mixed Tryz.func243 (by kernel_rfl) (by kernel_rfl) (by kernel_rfl) (by kernel_rfl) (fun A hA=>trivial) (fun _=>by kernel_rfl)
theorem AAs:Aa Tryz.prog 243 ABk:=Aam 0
theorem Axf:Bs Tryz.prog Ahv:=Afo AAs
theorem Aar (N:Nat):Aa Tryz.prog 248 ⟨[(Ai,false),(A4,false)],[I],true,VT N⟩:=
  have E:Env Tryz.prog Ay5:=Cl tab trivial ⟨Axf,trivial⟩ (fun _ h=>by cases h)
  Ar (body:=Ap Tryz.f248) (Pc:=[(0,⟨Aj1,Anr,RW N N⟩)]) E rfl mixed Tryz.func248 (by kernel_rfl) (by kernel_rfl) (by kernel_rfl) (by kernel_rfl) (fun A hA=>⟨AI (body:=At Tryz.f248 0) (inner:=[]) E mixed hA (by kernel_rfl) (by kernel_rfl) (by kernel_rfl) trivial (fun _=>rfl) (fun _ _=>by kernel_rfl) N,trivial⟩) (fun _=>by kernel_rfl)
theorem ABp:Aa Tryz.prog 248 Ar1:=Aa.less (fun N:Nat=>VT N) Aar ZO
theorem Aco (N:Nat):Aa Tryz.prog 214 ⟨[(Ai,false),(A4,false)],[.bool],true,Xp N⟩:=
  have E:Env Tryz.prog Awi:=Av tab ⟨ABp,trivial⟩
  Ar (body:=Ap Tryz.f214) (Pc:=[]) E rfl mixed Tryz.func214 (by kernel_rfl) (by kernel_rfl) (by kernel_rfl) (by kernel_rfl) (fun A hA=>trivial) (fun _=>by kernel_rfl)
theorem ABx:Aa Tryz.prog 214 Aqp:=Aco 0
theorem Af5 (N:Nat):Aa Tryz.prog 192 ⟨[(Bh,false),(I,false),(I,false)],[.bool],true,Up N⟩:=
  have E:Env Tryz.prog Aw4:=Cl tab ⟨ABx,trivial⟩ trivial (Aip (by kernel_rfl))
  Ar (body:=Ap Tryz.f192) (Pc:=[]) E rfl mixed Tryz.func192 (by kernel_rfl) (by kernel_rfl) (by kernel_rfl) (by kernel_rfl) (fun A hA=>trivial) (fun _=>by kernel_rfl)
theorem ABw:Aa Tryz.prog 192 Arg:=Af5 0
theorem Abx (N:Nat):A3 Tryz.prog 103 (⟨[(AA,false),(I,false)],[Bh],true,Xq N⟩,md0):=
  have E:Env Tryz.prog Ayn:=G9 tab ⟨Ti,⟨Aqn,⟨ABw,trivial⟩⟩⟩ trivial (fun _ h=>by cases h) ⟨Az9,trivial⟩ (by kernel_rfl)
  Sf (body:=Ap Tryz.f103) (Pc:=[(0,⟨Aox,Ajn,RR N N⟩),(4,⟨Aml,Anu,Sb N N⟩)]) E mixed Tryz.func103 (by kernel_rfl) (by kernel_rfl) (by kernel_rfl) (by kernel_rfl) (fun A hA=>⟨AI (body:=At Tryz.f103 0) (inner:=[(2,⟨Ao2,Ald,RP N N⟩)]) E mixed hA (by kernel_rfl) (by kernel_rfl) (by kernel_rfl) ⟨AI (body:=At Tryz.f103 2) (inner:=[]) E mixed hA (by kernel_rfl) (by kernel_rfl) (by kernel_rfl) trivial (fun _=>rfl) (fun _ _=>by kernel_rfl) N,trivial⟩ (fun _=>rfl) (fun _ _=>by kernel_rfl) N,⟨AI (body:=At Tryz.f103 4) (inner:=[(6,⟨Aon,Ajy,So N N⟩),(10,⟨Ac7,Acv,MO N N⟩)]) E mixed hA (by kernel_rfl) (by kernel_rfl) (by kernel_rfl) ⟨AI (body:=At Tryz.f103 6) (inner:=[(8,⟨Am9,Ank,Sp N N⟩)]) E mixed hA (by kernel_rfl) (by kernel_rfl) (by kernel_rfl) ⟨AI (body:=At Tryz.f103 8) (inner:=[]) E mixed hA (by kernel_rfl) (by kernel_rfl) (by kernel_rfl) trivial (fun _=>rfl) (fun _ _=>by kernel_rfl) N,trivial⟩ (fun _=>rfl) (fun _ _=>by kernel_rfl) N,⟨AI (body:=At Tryz.f103 10) (inner:=[]) E mixed hA (by kernel_rfl) (by kernel_rfl) (by kernel_rfl) trivial (fun _=>rfl) (fun _ _=>by kernel_rfl) N,trivial⟩⟩ (fun _=>rfl) (fun _ _=>by kernel_rfl) N,trivial⟩⟩) (fun _=>by kernel_rfl)
theorem AA4:A3 Tryz.prog 103 (As1,md0):=A3.less (fun N:Nat=>Xq N) Abx ZK
theorem Aft (N:Nat):Aa Tryz.prog 30 ⟨[(Aj,false),(I,false)],[Ag,.bool],true,P7 N⟩:=
  have E:Env Tryz.prog Ayo:=G9 tab ⟨ABv,⟨IV,trivial⟩⟩ trivial (fun _ h=>by cases h) ⟨AA4,trivial⟩ (by kernel_rfl)
  Ar (body:=Ap Tryz.f30) (Pc:=[]) E rfl mixed Tryz.func30 (by kernel_rfl) (by kernel_rfl) (by kernel_rfl) (by kernel_rfl) (fun A hA=>trivial) (fun _=>by kernel_rfl)
theorem AB5:Aa Tryz.prog 30 Ap4:=Aft 0
theorem Ac0 (N:Nat):Aa Tryz.prog 177 ⟨[(AZ,true)],[I],true,PB N⟩:=
  have E:Env Tryz.prog Ax0:=Av tab ⟨Qu,trivial⟩
  Ar (body:=Ap Tryz.f177) (Pc:=[]) E rfl mixed Tryz.func177 (by kernel_rfl) (by kernel_rfl) (by kernel_rfl) (by kernel_rfl) (fun A hA=>trivial) (fun _=>by kernel_rfl)
theorem Au2:Aa Tryz.prog 177 Ach:=Ac0 0
theorem Aep (N:Nat):Aa Tryz.prog 173 ⟨[(K_Su8,false)],[Ae,I],false,Tu N⟩:=
  have E:Env Tryz.prog Ay6:=Av tab ⟨Ab1,⟨Au2,trivial⟩⟩
  Ar (body:=Ap Tryz.f173) (Pc:=[]) E rfl mixed Tryz.func173 (by kernel_rfl) (by kernel_rfl) (by kernel_rfl) (by kernel_rfl) (fun A hA=>trivial) (fun _=>by kernel_rfl)
theorem ADg:Aa Tryz.prog 173 Asp:=Aep 0
theorem Agj (N:Nat):Aa Tryz.prog 81 ⟨[(K_Su8,false)],[Ae,I],false,IK N⟩:=
  have E:Env Tryz.prog Axt:=Av tab ⟨ADg,trivial⟩
  Ar (body:=Ap Tryz.f81) (Pc:=[]) E rfl mixed Tryz.func81 (by kernel_rfl) (by kernel_rfl) (by kernel_rfl) (by kernel_rfl) (fun A hA=>trivial) (fun _=>by kernel_rfl)
theorem ADp:Aa Tryz.prog 81 Arr:=Agj 0
theorem Agb (N:Nat):Aa Tryz.prog 174 ⟨[(I,false)],[.bool],true,WX N⟩:=
  have E:Env Tryz.prog Avr:=Av tab ⟨M0,trivial⟩
  Ar (body:=Ap Tryz.f174) (Pc:=[]) E rfl mixed Tryz.func174 (by kernel_rfl) (by kernel_rfl) (by kernel_rfl) (by kernel_rfl) (fun A hA=>trivial) (fun _=>by kernel_rfl)
theorem Ad4:Aa Tryz.prog 174 Xz:=Aa.less (fun N:Nat=>WX N) Agb (fun d r h=>⟨0,(Adc 0 d).trans h⟩)
theorem Abl (N:Nat):Aa Tryz.prog 175 ⟨[(Ai,false)],[I],true,Wa N⟩:=
  have E:Env Tryz.prog Axe:=Av tab trivial
  Ar (body:=Ap Tryz.f175) (Pc:=[(0,⟨Am7,Akt,Lq N N⟩)]) E rfl mixed Tryz.func175 (by kernel_rfl) (by kernel_rfl) (by kernel_rfl) (by kernel_rfl) (fun A hA=>⟨AI (body:=At Tryz.f175 0) (inner:=[]) E mixed hA (by kernel_rfl) (by kernel_rfl) (by kernel_rfl) trivial (fun _=>rfl) (fun _ _=>by kernel_rfl) N,trivial⟩) (fun _=>by kernel_rfl)
theorem AC9:Aa Tryz.prog 175 At6:=Aa.less (fun N:Nat=>Wa N) Abl Av1
theorem Ab4 (N:Nat):Aa Tryz.prog 82 ⟨[(Ae,false),(I,false)],[I,I,.bool],true,XY N⟩:=
  have E:Env Tryz.prog Avn:=Cl tab ⟨Qi,⟨Aa4,⟨Ul,⟨Agk,⟨Ad4,⟨AC9,trivial⟩⟩⟩⟩⟩⟩ trivial (fun _ h=>by cases h)
  Ar (body:=Ap Tryz.f82) (Pc:=[(0,⟨Anp,Ani,IJ N N⟩)]) E rfl mixed Tryz.func82 (by kernel_rfl) (by kernel_rfl) (by kernel_rfl) (by kernel_rfl) (fun A hA=>⟨AI (body:=At Tryz.f82 0) (inner:=[]) E mixed hA (by kernel_rfl) (by kernel_rfl) (by kernel_rfl) trivial (fun _=>rfl) (fun _ _=>by kernel_rfl) N,trivial⟩) (fun _=>by kernel_rfl)
theorem ADk:Aa Tryz.prog 82 Atg:=Aa.less (fun N:Nat=>XY N) Ab4 ZG
theorem Acr (N:Nat):Aa Tryz.prog 176 ⟨[(I,false)],[.bool],true,X2 N⟩:=
  have E:Env Tryz.prog Avk:=Av tab ⟨DQ,trivial⟩
  Ar (body:=Ap Tryz.f176) (Pc:=[]) E rfl mixed Tryz.func176 (by kernel_rfl) (by kernel_rfl) (by kernel_rfl) (by kernel_rfl) (fun A hA=>trivial) (fun _=>by kernel_rfl)
theorem Aqt:Aa Tryz.prog 176 Aeg:=Aa.less (fun N:Nat=>X2 N) Acr (fun d r h=>⟨0,(Adj 0 d).trans h⟩)
theorem Abz (N:Nat):Aa Tryz.prog 137 ⟨[(Ai,false)],[I],true,XN N⟩:=
  have E:Env Tryz.prog Azh:=Av tab ⟨XA,trivial⟩
  Ar (body:=Ap Tryz.f137) (Pc:=[(0,⟨An9,Aiv,Gm N N⟩)]) E rfl mixed Tryz.func137 (by kernel_rfl) (by kernel_rfl) (by kernel_rfl) (by kernel_rfl) (fun A hA=>⟨AI (body:=At Tryz.f137 0) (inner:=[]) E mixed hA (by kernel_rfl) (by kernel_rfl) (by kernel_rfl) trivial (fun _=>rfl) (fun _ _=>by kernel_rfl) N,trivial⟩) (fun _=>by kernel_rfl)
theorem ABs:Aa Tryz.prog 137 Ate:=Aa.less (fun N:Nat=>XN N) Abz Zb
theorem Adx (N:Nat):Aa Tryz.prog 83 ⟨[(Ae,false),(I,false)],[I,I,.bool],true,WT N⟩:=
  have E:Env Tryz.prog Axr:=Cl tab ⟨ABs,⟨WU,⟨Adz,⟨Aqt,trivial⟩⟩⟩⟩ trivial (fun _ h=>by cases h)
  Ar (body:=Ap Tryz.f83) (Pc:=[(0,⟨Amc,Akn,KT N N⟩)]) E rfl mixed Tryz.func83 (by kernel_rfl) (by kernel_rfl) (by kernel_rfl) (by kernel_rfl) (fun A hA=>⟨AI (body:=At Tryz.f83 0) (inner:=[]) E mixed hA (by kernel_rfl) (by kernel_rfl) (by kernel_rfl) trivial (fun _=>rfl) (fun _ _=>by kernel_rfl) N,trivial⟩) (fun _=>by kernel_rfl)
theorem ADb:Aa Tryz.prog 83 Aqw:=Aa.less (fun N:Nat=>WT N) Adx Zo
theorem Acp (N:Nat):Aa Tryz.prog 93 ⟨[(AZ,true),(Aj,false)],[I],true,Qp N⟩:=
  have E:Env Tryz.prog Ayw:=Av tab ⟨Aav,⟨Mn,⟨Qu,trivial⟩⟩⟩
  Ar (body:=Ap Tryz.f93) (Pc:=[]) E rfl mixed Tryz.func93 (by kernel_rfl) (by kernel_rfl) (by kernel_rfl) (by kernel_rfl) (fun A hA=>trivial) (fun _=>by kernel_rfl)
theorem AA9:Aa Tryz.prog 93 Auk:=Acp 0
theorem Ab0 (N:Nat):Aa Tryz.prog 84 ⟨[(K_Su8,false)],[Ae,I,I,I],false,I7 N⟩:=
  have E:Env Tryz.prog Awx:=Av tab ⟨AA9,⟨Ab1,⟨Au2,trivial⟩⟩⟩
  Ar (body:=Ap Tryz.f84) (Pc:=[]) E rfl mixed Tryz.func84 (by kernel_rfl) (by kernel_rfl) (by kernel_rfl) (by kernel_rfl) (fun A hA=>trivial) (fun _=>by kernel_rfl)
theorem AB4:Aa Tryz.prog 84 Ats:=Ab0 0
theorem Af3 (N:Nat):Aa Tryz.prog 178 ⟨[(Ae,false),(I,false),(Ai,false)],[.bool],true,TL N⟩:=
  have E:Env Tryz.prog Ay9:=Av tab ⟨Qi,⟨Abi,⟨Ad4,trivial⟩⟩⟩
  Ar (body:=Ap Tryz.f178) (Pc:=[]) E rfl mixed Tryz.func178 (by kernel_rfl) (by kernel_rfl) (by kernel_rfl) (by kernel_rfl) (fun A hA=>trivial) (fun _=>by kernel_rfl)
theorem ACg:Aa Tryz.prog 178 Arx:=Af3 0
theorem Ads (N:Nat):Aa Tryz.prog 85 ⟨[(Ae,false),(I,false),(I,false),(I,false)],[I,.bool],true,W4 N⟩:=
  have E:Env Tryz.prog Avy:=Av tab ⟨D7,⟨TG,⟨Ul,⟨Agk,⟨ACg,⟨WG,trivial⟩⟩⟩⟩⟩⟩
  Ar (body:=Ap Tryz.f85) (Pc:=[(0,⟨Aj9,Ai1,KW N N⟩)]) E rfl mixed Tryz.func85 (by kernel_rfl) (by kernel_rfl) (by kernel_rfl) (by kernel_rfl) (fun A hA=>⟨AI (body:=At Tryz.f85 0) (inner:=[]) E mixed hA (by kernel_rfl) (by kernel_rfl) (by kernel_rfl) trivial (fun _=>rfl) (fun _ _=>by kernel_rfl) N,trivial⟩) (fun _=>by kernel_rfl)
theorem ADi:Aa Tryz.prog 85 Aqb:=Aa.less (fun N:Nat=>W4 N) Ads UJ
theorem ZE (N:Nat):Aa Tryz.prog 132 ⟨[(Aj,false),(I,false)],[.bool],true,R6 N⟩:=
  have E:Env Tryz.prog Auu:=Av tab ⟨DQ,trivial⟩
  Ar (body:=Ap Tryz.f132) (Pc:=[]) E rfl mixed Tryz.func132 (by kernel_rfl) (by kernel_rfl) (by kernel_rfl) (by kernel_rfl) (fun A hA=>trivial) (fun _=>by kernel_rfl)
theorem Avf:Aa Tryz.prog 132 Aif:=Aa.less (fun N:Nat=>R6 N) ZE (fun d r h=>⟨0,(Zm 0 d).trans h⟩)
theorem Abg (N:Nat):Aa Tryz.prog 86 ⟨[(Ae,false),(I,false),(I,false),(I,false)],[I,.bool],true,Wf N⟩:=
  have E:Env Tryz.prog Aw8:=Av tab ⟨Avf,⟨WU,⟨Ace,⟨Adz,⟨Aqt,⟨Aeb,trivial⟩⟩⟩⟩⟩⟩
  Ar (body:=Ap Tryz.f86) (Pc:=[(0,⟨Alz,Aiw,KQ N N⟩)]) E rfl mixed Tryz.func86 (by kernel_rfl) (by kernel_rfl) (by kernel_rfl) (by kernel_rfl) (fun A hA=>⟨AI (body:=At Tryz.f86 0) (inner:=[]) E mixed hA (by kernel_rfl) (by kernel_rfl) (by kernel_rfl) trivial (fun _=>rfl) (fun _ _=>by kernel_rfl) N,trivial⟩) (fun _=>by kernel_rfl)
theorem Az4:Aa Tryz.prog 86 Ar4:=Aa.less (fun N:Nat=>Wf N) Abg UM
theorem Afe (N:Nat):Aa Tryz.prog 237 ⟨[(AA,false),(I,false),(I,false)],[.bool],true,Xu N⟩:=
  have E:Env Tryz.prog Ays:=Av tab trivial
  Ar (body:=Ap Tryz.f237) (Pc:=[]) E rfl mixed Tryz.func237 (by kernel_rfl) (by kernel_rfl) (by kernel_rfl) (by kernel_rfl) (fun A hA=>trivial) (fun _=>by kernel_rfl)
theorem AAr:Aa Tryz.prog 237 AA2:=Afe 0
theorem Ayk:Bs Tryz.prog Ag6:=Aez AAr
theorem Agq (N:Nat):Aa Tryz.prog 236 ⟨[(I,false),(Cz,false)],[Aj],true,Wg N⟩:=
  have E:Env Tryz.prog Ayc:=Cl tab trivial ⟨Ayk,trivial⟩ (fun _ h=>by cases h)
  Ar (body:=Ap Tryz.f236) (Pc:=[(0,⟨An8,Ak4,KN N N⟩)]) E rfl mixed Tryz.func236 (by kernel_rfl) (by kernel_rfl) (by kernel_rfl) (by kernel_rfl) (fun A hA=>⟨AI (body:=At Tryz.f236 0) (inner:=[(2,⟨Al6,Aoz,K7 N N⟩)]) E mixed hA (by kernel_rfl) (by kernel_rfl) (by kernel_rfl) ⟨AI (body:=At Tryz.f236 2) (inner:=[]) E mixed hA (by kernel_rfl) (by kernel_rfl) (by kernel_rfl) trivial (fun _=>rfl) (fun _ _=>by kernel_rfl) N,trivial⟩ (fun _=>rfl) (fun _ _=>by kernel_rfl) N,trivial⟩) (fun _=>by kernel_rfl)
theorem AAc:Aa Tryz.prog 236 Auf:=Aa.less (fun N:Nat=>Wg N) Agq SS
theorem Agn (N:Nat):Aa Tryz.prog 181 ⟨[(AA,false)],[Aj],true,Tx N⟩:=
  have E:Env Tryz.prog Ayg:=Av tab ⟨Ti,⟨AAc,trivial⟩⟩
  Ar (body:=Ap Tryz.f181) (Pc:=[]) E rfl mixed Tryz.func181 (by kernel_rfl) (by kernel_rfl) (by kernel_rfl) (by kernel_rfl) (fun A hA=>trivial) (fun _=>by kernel_rfl)
theorem ABf:Aa Tryz.prog 181 Auz:=Agn 0
theorem Acm (N:Nat):Aa Tryz.prog 87 ⟨[(Ae,false),(I,false)],[Aj,.bool],true,J1 N⟩:=
  have E:Env Tryz.prog Ayb:=Av tab ⟨Qi,⟨Ul,⟨Ad4,⟨ABf,trivial⟩⟩⟩⟩
  Ar (body:=Ap Tryz.f87) (Pc:=[]) E rfl mixed Tryz.func87 (by kernel_rfl) (by kernel_rfl) (by kernel_rfl) (by kernel_rfl) (fun A hA=>trivial) (fun _=>by kernel_rfl)
theorem ADe:Aa Tryz.prog 87 Aqk:=Acm 0
theorem Agh (N:Nat):Aa Tryz.prog 106 ⟨[(Aj,false),(Ai,false)],[.bool],true,T5 N⟩:=
  have E:Env Tryz.prog Awp:=Av tab ⟨Wc,⟨Abi,trivial⟩⟩
  Ar (body:=Ap Tryz.f106) (Pc:=[]) E rfl mixed Tryz.func106 (by kernel_rfl) (by kernel_rfl) (by kernel_rfl) (by kernel_rfl) (fun A hA=>trivial) (fun _=>by kernel_rfl)
theorem AA0:Aa Tryz.prog 106 Aqy:=Agh 0
theorem Adl (N:Nat):Aa Tryz.prog 72 ⟨[(Aj,false),(I,false)],[Ai,.bool],true,MM N⟩:=
  have E:Env Tryz.prog Ax6:=Av tab ⟨IV,⟨AA0,⟨D7,trivial⟩⟩⟩
  Ar (body:=Ap Tryz.f72) (Pc:=[]) E rfl mixed Tryz.func72 (by kernel_rfl) (by kernel_rfl) (by kernel_rfl) (by kernel_rfl) (fun A hA=>trivial) (fun _=>by kernel_rfl)
theorem AAm:Aa Tryz.prog 72 Aps:=Adl 0
theorem Jc (N:Nat):Aa Tryz.prog 8 ⟨[(K_Su8,false)],[.bool],true,B5 N⟩:=
  have E:Env Tryz.prog LE:=Cl tab ⟨Yw,⟨AB5,⟨Ag0,⟨AAm,⟨AAh,⟨AAw,⟨AC0,⟨Qi,⟨AAl,⟨Atk,⟨Xg,⟨ACv,⟨ADp,⟨ADk,⟨ADb,⟨AB4,⟨ADi,⟨Az4,⟨ADe,trivial⟩⟩⟩⟩⟩⟩⟩⟩⟩⟩⟩⟩⟩⟩⟩⟩⟩⟩⟩ trivial (fun _ h=>by cases h)
  Ar (body:=Ap Tryz.f8) (Pc:=[(0,⟨JK,JI,C4 N N⟩),(6,⟨JH,JG,BQ N N⟩)]) E rfl mixed Tryz.func8 (by kernel_rfl) (by kernel_rfl) (by kernel_rfl) (by kernel_rfl) (fun A hA=>⟨AI (body:=At Tryz.f8 0) (inner:=[(2,⟨JD,JL,CZ N N⟩)]) E mixed hA (by kernel_rfl) (by kernel_rfl) (by kernel_rfl) ⟨AI (body:=At Tryz.f8 2) (inner:=[(4,⟨JB,JJ,C1 N N⟩)]) E mixed hA (by kernel_rfl) (by kernel_rfl) (by kernel_rfl) ⟨AI (body:=At Tryz.f8 4) (inner:=[]) E mixed hA (by kernel_rfl) (by kernel_rfl) (by kernel_rfl) trivial (fun _=>rfl) (fun _ _=>by kernel_rfl) N,trivial⟩ (fun _=>rfl) (fun _ _=>by kernel_rfl) N,trivial⟩ (fun _=>rfl) (fun _ _=>by kernel_rfl) N,⟨AI (body:=At Tryz.f8 6) (inner:=[]) E mixed hA (by kernel_rfl) (by kernel_rfl) (by kernel_rfl) trivial (fun _=>rfl) (fun _ _=>by kernel_rfl) N,trivial⟩⟩) (fun _=>by kernel_rfl)
theorem C_laws_FnTimedGame:Aa Tryz.prog 8 Mm:=Aa.less (fun N:Nat=>B5 N) Jc XV
end Go.V.W
end
