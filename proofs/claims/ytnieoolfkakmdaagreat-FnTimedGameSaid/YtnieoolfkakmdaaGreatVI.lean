/- What the law FnTimedGame leans on, part 9: an interpreter of the model as plain data, its soundness, the functions as it tells them, and their laws. -/
import Derived.Shelf.Lays
import Derived.Shelf.LaysM
import Derived.Shelf.SortM.Plain
import Derived.Shelf.SortM.SortNone
import Derived.Shelf.SlSortCmp.NoneTotal
import Derived.Test.YtnieoolfkakmdaaGreatVH
set_option linter.unusedVariables false
set_option linter.unusedSimpArgs false
set_option maxRecDepth 100000
noncomputable section
namespace Go.V.W
open Go.Proofs Go.Shelf Go.RowKit
-- import Derived.Shelf.Lays
-- import Derived.Shelf.LaysM
-- import Derived.Test.XvLib3
-- import Derived.Shelf.SortM.Plain
-- import Derived.Shelf.SortM.SortNone
-- import Derived.Shelf.SlSortCmp.NoneTotal
def Ajy:Go.Shelf.Ren:=
{
  f:=fun x=>
    match x with
    | 5=>221
    | 8=>252
    | 7=>251
    | 19=>268
    | 20=>269
    | 10=>260
    | 11=>261
    | 12=>262
    | 13=>263
    | 14=>264
    | 15=>265
    | 16=>250
    | 17=>266
    | 18=>267
    | 30=>280
    | 31=>281
    | 32=>282
    | 33=>283
    | 34=>284
    | 35=>258
    | 40=>288
    | n=>n,
  t:=fun x=>
    match x with
    | 23=>36
    | 25=>3
    | 3=>3
    | 32=>192
    | 22=>36
    | 0=>0
    | 44=>199
    | 46=>94
    | 4=>4
    | 36=>206
    | 35=>205
    | 41=>39
    | 5=>5
    | 9=>9
    | 53=>222
    | 57=>226
    | 63=>230
    | 64=>231
    | n=>n,
  g:=fun x=>
    x }
set_option maxRecDepth 1000000 in
theorem Azk:Go.Proofs.SlLaysM.n5 Go.Proofs.Tryz.prog Ajy:=
{ mixed:=by kernel_rfl,
  f5:=⟨Go.Proofs.Tryz.f221.name,of_decide_eq_true (by kernel_rfl),(Go.Proofs.Tryz.func221).trans (congrArg some (by kernel_rfl))⟩,
  f7:=⟨Go.Proofs.Tryz.f251.name,of_decide_eq_true (by kernel_rfl),(Go.Proofs.Tryz.func251).trans (congrArg some (by kernel_rfl))⟩,
  f8:=(Go.Proofs.Tryz.func252).trans (congrArg some (by kernel_rfl)),
  f10:=⟨Go.Proofs.Tryz.f260.name,of_decide_eq_true (by kernel_rfl),(Go.Proofs.Tryz.func260).trans (congrArg some (by kernel_rfl))⟩,
  f11:=⟨Go.Proofs.Tryz.f261.name,of_decide_eq_true (by kernel_rfl),(Go.Proofs.Tryz.func261).trans (congrArg some (by kernel_rfl))⟩,
  f12:=⟨Go.Proofs.Tryz.f262.name,of_decide_eq_true (by kernel_rfl),(Go.Proofs.Tryz.func262).trans (congrArg some (by kernel_rfl))⟩,
  f13:=⟨Go.Proofs.Tryz.f263.name,of_decide_eq_true (by kernel_rfl),(Go.Proofs.Tryz.func263).trans (congrArg some (by kernel_rfl))⟩,
  f14:=⟨Go.Proofs.Tryz.f264.name,of_decide_eq_true (by kernel_rfl),(Go.Proofs.Tryz.func264).trans (congrArg some (by kernel_rfl))⟩,
  f15:=⟨Go.Proofs.Tryz.f265.name,of_decide_eq_true (by kernel_rfl),(Go.Proofs.Tryz.func265).trans (congrArg some (by kernel_rfl))⟩,
  f16:=⟨Go.Proofs.Tryz.f250.name,of_decide_eq_true (by kernel_rfl),(Go.Proofs.Tryz.func250).trans (congrArg some (by kernel_rfl))⟩,
  f17:=⟨Go.Proofs.Tryz.f266.name,of_decide_eq_true (by kernel_rfl),(Go.Proofs.Tryz.func266).trans (congrArg some (by kernel_rfl))⟩,
  f18:=⟨Go.Proofs.Tryz.f267.name,of_decide_eq_true (by kernel_rfl),(Go.Proofs.Tryz.func267).trans (congrArg some (by kernel_rfl))⟩,
  f19:=(Go.Proofs.Tryz.func268).trans (congrArg some (by kernel_rfl)),
  f20:=(Go.Proofs.Tryz.func269).trans (congrArg some (by kernel_rfl)),
  f30:=⟨Go.Proofs.Tryz.f280.name,of_decide_eq_true (by kernel_rfl),(Go.Proofs.Tryz.func280).trans (congrArg some (by kernel_rfl))⟩,
  f31:=(Go.Proofs.Tryz.func281).trans (congrArg some (by kernel_rfl)),
  f32:=(Go.Proofs.Tryz.func282).trans (congrArg some (by kernel_rfl)),
  f33:=⟨Go.Proofs.Tryz.f283.name,of_decide_eq_true (by kernel_rfl),(Go.Proofs.Tryz.func283).trans (congrArg some (by kernel_rfl))⟩,
  f34:=⟨Go.Proofs.Tryz.f284.name,of_decide_eq_true (by kernel_rfl),(Go.Proofs.Tryz.func284).trans (congrArg some (by kernel_rfl))⟩,
  f35:=⟨Go.Proofs.Tryz.f258.name,of_decide_eq_true (by kernel_rfl),(Go.Proofs.Tryz.func258).trans (congrArg some (by kernel_rfl))⟩,
  f40:=⟨Go.Proofs.Tryz.f288.name,of_decide_eq_true (by kernel_rfl),(Go.Proofs.Tryz.func288).trans (congrArg some (by kernel_rfl))⟩,
  t0:=Go.Proofs.Tryz.underlying0,
  a0:=Go.Proofs.Tryz.isAgg0,
  z0:=Go.Proofs.Tryz.sizeOf0,
  v0:=Go.Proofs.Tryz.zeroValue0,
  t3:=Go.Proofs.Tryz.underlying3,
  a3:=Go.Proofs.Tryz.isAgg3,
  z3:=Go.Proofs.Tryz.sizeOf3,
  v3:=Go.Proofs.Tryz.zeroValue3,
  t4:=Go.Proofs.Tryz.underlying4,
  a4:=Go.Proofs.Tryz.isAgg4,
  z4:=Go.Proofs.Tryz.sizeOf4,
  v4:=Go.Proofs.Tryz.zeroValue4,
  t5:=Go.Proofs.Tryz.underlying5,
  a5:=Go.Proofs.Tryz.isAgg5,
  z5:=Go.Proofs.Tryz.sizeOf5,
  v5:=Go.Proofs.Tryz.zeroValue5,
  t9:=Go.Proofs.Tryz.underlying9,
  a9:=Go.Proofs.Tryz.isAgg9,
  z9:=Go.Proofs.Tryz.sizeOf9,
  v9:=Go.Proofs.Tryz.zeroValue9,
  t22:=Go.Proofs.Tryz.underlying36,
  a22:=Go.Proofs.Tryz.isAgg36,
  z22:=Go.Proofs.Tryz.sizeOf36,
  v22:=Go.Proofs.Tryz.zeroValue36,
  t23:=Go.Proofs.Tryz.underlying36,
  a23:=Go.Proofs.Tryz.isAgg36,
  z23:=Go.Proofs.Tryz.sizeOf36,
  v23:=Go.Proofs.Tryz.zeroValue36,
  t25:=Go.Proofs.Tryz.underlying3,
  a25:=Go.Proofs.Tryz.isAgg3,
  z25:=Go.Proofs.Tryz.sizeOf3,
  v25:=Go.Proofs.Tryz.zeroValue3,
  t32:=Go.Proofs.Tryz.underlying192,
  a32:=Go.Proofs.Tryz.isAgg192,
  z32:=Go.Proofs.Tryz.sizeOf192,
  v32:=Go.Proofs.Tryz.zeroValue192,
  t35:=Go.Proofs.Tryz.underlying205,
  a35:=Go.Proofs.Tryz.isAgg205,
  z35:=Go.Proofs.Tryz.sizeOf205,
  v35:=Go.Proofs.Tryz.zeroValue205,
  t36:=Go.Proofs.Tryz.underlying206,
  a36:=Go.Proofs.Tryz.isAgg206,
  z36:=Go.Proofs.Tryz.sizeOf206,
  v36:=Go.Proofs.Tryz.zeroValue206,
  t41:=Go.Proofs.Tryz.underlying39,
  a41:=Go.Proofs.Tryz.isAgg39,
  z41:=Go.Proofs.Tryz.sizeOf39,
  v41:=Go.Proofs.Tryz.zeroValue39,
  t44:=Go.Proofs.Tryz.underlying199,
  a44:=Go.Proofs.Tryz.isAgg199,
  z44:=Go.Proofs.Tryz.sizeOf199,
  v44:=Go.Proofs.Tryz.zeroValue199,
  t46:=Go.Proofs.Tryz.underlying94,
  a46:=Go.Proofs.Tryz.isAgg94,
  z46:=Go.Proofs.Tryz.sizeOf94,
  v46:=Go.Proofs.Tryz.zeroValue94,
  t53:=Go.Proofs.Tryz.underlying222,
  a53:=Go.Proofs.Tryz.isAgg222,
  z53:=Go.Proofs.Tryz.sizeOf222,
  v53:=Go.Proofs.Tryz.zeroValue222,
  t57:=Go.Proofs.Tryz.underlying226,
  a57:=Go.Proofs.Tryz.isAgg226,
  z57:=Go.Proofs.Tryz.sizeOf226,
  v57:=Go.Proofs.Tryz.zeroValue226,
  t63:=Go.Proofs.Tryz.underlying230,
  a63:=Go.Proofs.Tryz.isAgg230,
  z63:=Go.Proofs.Tryz.sizeOf230,
  v63:=Go.Proofs.Tryz.zeroValue230,
  t64:=Go.Proofs.Tryz.underlying231,
  a64:=Go.Proofs.Tryz.isAgg231,
  z64:=Go.Proofs.Tryz.sizeOf231,
  v64:=Go.Proofs.Tryz.zeroValue231 }
def Amb:Go.Shelf.Ren:=
{
  f:=fun x=>
    match x with
    | 6=>222
    | 15=>252
    | 14=>253
    | 28=>268
    | 29=>269
    | 20=>270
    | 21=>271
    | 22=>272
    | 23=>273
    | 24=>274
    | 25=>275
    | 26=>276
    | 27=>277
    | 46=>285
    | 47=>281
    | 48=>282
    | 49=>286
    | 50=>287
    | 57=>289
    | n=>n,
  t:=fun x=>
    match x with
    | 22=>27
    | 24=>36
    | 25=>167
    | 3=>3
    | 39=>192
    | 0=>0
    | 53=>199
    | 55=>94
    | 4=>4
    | 46=>206
    | 45=>205
    | 50=>39
    | 5=>5
    | 9=>9
    | 66=>222
    | 70=>226
    | 76=>230
    | 77=>231
    | n=>n,
  g:=fun x=>
    x }
set_option maxRecDepth 1000000 in
theorem Azm:Go.Proofs.SlLaysF.n6 Go.Proofs.Tryz.prog Amb:=
{ mixed:=by kernel_rfl,
  f6:=⟨Go.Proofs.Tryz.f222.name,of_decide_eq_true (by kernel_rfl),(Go.Proofs.Tryz.func222).trans (congrArg some (by kernel_rfl))⟩,
  f14:=⟨Go.Proofs.Tryz.f253.name,of_decide_eq_true (by kernel_rfl),(Go.Proofs.Tryz.func253).trans (congrArg some (by kernel_rfl))⟩,
  f15:=(Go.Proofs.Tryz.func252).trans (congrArg some (by kernel_rfl)),
  f20:=⟨Go.Proofs.Tryz.f270.name,of_decide_eq_true (by kernel_rfl),(Go.Proofs.Tryz.func270).trans (congrArg some (by kernel_rfl))⟩,
  f21:=⟨Go.Proofs.Tryz.f271.name,of_decide_eq_true (by kernel_rfl),(Go.Proofs.Tryz.func271).trans (congrArg some (by kernel_rfl))⟩,
  f22:=⟨Go.Proofs.Tryz.f272.name,of_decide_eq_true (by kernel_rfl),(Go.Proofs.Tryz.func272).trans (congrArg some (by kernel_rfl))⟩,
  f23:=⟨Go.Proofs.Tryz.f273.name,of_decide_eq_true (by kernel_rfl),(Go.Proofs.Tryz.func273).trans (congrArg some (by kernel_rfl))⟩,
  f24:=⟨Go.Proofs.Tryz.f274.name,of_decide_eq_true (by kernel_rfl),(Go.Proofs.Tryz.func274).trans (congrArg some (by kernel_rfl))⟩,
  f25:=⟨Go.Proofs.Tryz.f275.name,of_decide_eq_true (by kernel_rfl),(Go.Proofs.Tryz.func275).trans (congrArg some (by kernel_rfl))⟩,
  f26:=⟨Go.Proofs.Tryz.f276.name,of_decide_eq_true (by kernel_rfl),(Go.Proofs.Tryz.func276).trans (congrArg some (by kernel_rfl))⟩,
  f27:=⟨Go.Proofs.Tryz.f277.name,of_decide_eq_true (by kernel_rfl),(Go.Proofs.Tryz.func277).trans (congrArg some (by kernel_rfl))⟩,
  f28:=(Go.Proofs.Tryz.func268).trans (congrArg some (by kernel_rfl)),
  f29:=(Go.Proofs.Tryz.func269).trans (congrArg some (by kernel_rfl)),
  f46:=⟨Go.Proofs.Tryz.f285.name,of_decide_eq_true (by kernel_rfl),(Go.Proofs.Tryz.func285).trans (congrArg some (by kernel_rfl))⟩,
  f47:=(Go.Proofs.Tryz.func281).trans (congrArg some (by kernel_rfl)),
  f48:=(Go.Proofs.Tryz.func282).trans (congrArg some (by kernel_rfl)),
  f49:=⟨Go.Proofs.Tryz.f286.name,of_decide_eq_true (by kernel_rfl),(Go.Proofs.Tryz.func286).trans (congrArg some (by kernel_rfl))⟩,
  f50:=⟨Go.Proofs.Tryz.f287.name,of_decide_eq_true (by kernel_rfl),(Go.Proofs.Tryz.func287).trans (congrArg some (by kernel_rfl))⟩,
  f57:=⟨Go.Proofs.Tryz.f289.name,of_decide_eq_true (by kernel_rfl),(Go.Proofs.Tryz.func289).trans (congrArg some (by kernel_rfl))⟩,
  t0:=Go.Proofs.Tryz.underlying0,
  a0:=Go.Proofs.Tryz.isAgg0,
  z0:=Go.Proofs.Tryz.sizeOf0,
  v0:=Go.Proofs.Tryz.zeroValue0,
  t3:=Go.Proofs.Tryz.underlying3,
  a3:=Go.Proofs.Tryz.isAgg3,
  z3:=Go.Proofs.Tryz.sizeOf3,
  v3:=Go.Proofs.Tryz.zeroValue3,
  t4:=Go.Proofs.Tryz.underlying4,
  a4:=Go.Proofs.Tryz.isAgg4,
  z4:=Go.Proofs.Tryz.sizeOf4,
  v4:=Go.Proofs.Tryz.zeroValue4,
  t5:=Go.Proofs.Tryz.underlying5,
  a5:=Go.Proofs.Tryz.isAgg5,
  z5:=Go.Proofs.Tryz.sizeOf5,
  v5:=Go.Proofs.Tryz.zeroValue5,
  t9:=Go.Proofs.Tryz.underlying9,
  a9:=Go.Proofs.Tryz.isAgg9,
  z9:=Go.Proofs.Tryz.sizeOf9,
  v9:=Go.Proofs.Tryz.zeroValue9,
  t22:=Go.Proofs.Tryz.underlying27,
  a22:=Go.Proofs.Tryz.isAgg27,
  z22:=Go.Proofs.Tryz.sizeOf27,
  v22:=Go.Proofs.Tryz.zeroValue27,
  a24:=Go.Proofs.Tryz.isAgg36,
  z24:=Go.Proofs.Tryz.sizeOf36,
  t25:=Go.Proofs.Tryz.underlying167,
  a25:=Go.Proofs.Tryz.isAgg167,
  z25:=Go.Proofs.Tryz.sizeOf167,
  v25:=Go.Proofs.Tryz.zeroValue167,
  t39:=Go.Proofs.Tryz.underlying192,
  a39:=Go.Proofs.Tryz.isAgg192,
  z39:=Go.Proofs.Tryz.sizeOf192,
  v39:=Go.Proofs.Tryz.zeroValue192,
  t45:=Go.Proofs.Tryz.underlying205,
  a45:=Go.Proofs.Tryz.isAgg205,
  z45:=Go.Proofs.Tryz.sizeOf205,
  v45:=Go.Proofs.Tryz.zeroValue205,
  t46:=Go.Proofs.Tryz.underlying206,
  a46:=Go.Proofs.Tryz.isAgg206,
  z46:=Go.Proofs.Tryz.sizeOf206,
  v46:=Go.Proofs.Tryz.zeroValue206,
  t50:=Go.Proofs.Tryz.underlying39,
  a50:=Go.Proofs.Tryz.isAgg39,
  z50:=Go.Proofs.Tryz.sizeOf39,
  v50:=Go.Proofs.Tryz.zeroValue39,
  t53:=Go.Proofs.Tryz.underlying199,
  a53:=Go.Proofs.Tryz.isAgg199,
  z53:=Go.Proofs.Tryz.sizeOf199,
  v53:=Go.Proofs.Tryz.zeroValue199,
  t55:=Go.Proofs.Tryz.underlying94,
  a55:=Go.Proofs.Tryz.isAgg94,
  z55:=Go.Proofs.Tryz.sizeOf94,
  v55:=Go.Proofs.Tryz.zeroValue94,
  t66:=Go.Proofs.Tryz.underlying222,
  a66:=Go.Proofs.Tryz.isAgg222,
  z66:=Go.Proofs.Tryz.sizeOf222,
  v66:=Go.Proofs.Tryz.zeroValue222,
  t70:=Go.Proofs.Tryz.underlying226,
  a70:=Go.Proofs.Tryz.isAgg226,
  z70:=Go.Proofs.Tryz.sizeOf226,
  v70:=Go.Proofs.Tryz.zeroValue226,
  t76:=Go.Proofs.Tryz.underlying230,
  a76:=Go.Proofs.Tryz.isAgg230,
  z76:=Go.Proofs.Tryz.sizeOf230,
  v76:=Go.Proofs.Tryz.zeroValue230,
  t77:=Go.Proofs.Tryz.underlying231,
  a77:=Go.Proofs.Tryz.isAgg231,
  z77:=Go.Proofs.Tryz.sizeOf231,
  v77:=Go.Proofs.Tryz.zeroValue231 }
theorem tab:Ch Tryz.prog (Ac tks) (Ac ars):=Ar3 (by kernel_rfl)
theorem mixed:Tryz.prog.follows .mixedOrders=true:=by kernel_rfl
theorem AE3:Aa Tryz.prog 222 Azo:=
  Aoy (enters_of Tryz.func222 (by kernel_rfl) rfl) (fun w v1 v2 xs ys h1 h2 l1 l2=>AGa h1 h2 l1 l2) (fun n enc cf blk off cap w h1 hO hcmp hH hb hs=>Any.slices_SortFunc Azm enc h1 cf hO 199 #[] blk off cap (idA n) w (enters_of Tryz.func199 (by kernel_rfl) rfl) hcmp hH hb hs) (AnyF.slices_SortFunc_none { Azm with })
theorem ABh:Aa Tryz.prog 221 Arw:=
  Amg (enters_of Tryz.func221 (by kernel_rfl) rfl) (fun blk off cap zs w h1 h2 h3=>AnyM.slices_Sort_int Azk blk off cap zs w h1 h2 h3) (fun p cap w=>AnyM.slices_Sort_int_none Azk p cap w)
theorem Rr (N:Nat):Aa Tryz.prog 9 ⟨[(K_Su8,false)],[.bool],true,Ha N⟩:=
  have E:Env Tryz.prog WV:=Av tab trivial
  Ar (body:=Ap Tryz.f9) (Pc:=[]) E rfl mixed Tryz.func9 (by kernel_rfl) (by kernel_rfl) (by kernel_rfl) (by kernel_rfl) (fun A hA=>trivial) (fun _=>by kernel_rfl)
theorem Zh:Aa Tryz.prog 9 Re:=Aa.less (fun N:Nat=>Ha N) Rr (fun d r h=>⟨0,(Rm 0 d).trans h⟩)
theorem Agw (N:Nat):Aa Tryz.prog 187 ⟨[(AX,true)],[I],true,QP N⟩:=
  have E:Env Tryz.prog Ay3:=Av tab trivial
  Ar (body:=Ap Tryz.f187) (Pc:=[]) E rfl mixed Tryz.func187 (by kernel_rfl) (by kernel_rfl) (by kernel_rfl) (by kernel_rfl) (fun A hA=>trivial) (fun _=>by kernel_rfl)
theorem AB4:Aa Tryz.prog 187 Aqq:=Agw 0
theorem Abj (N:Nat):Aa Tryz.prog 91 ⟨[(AX,true),(I,false)],[I],true,BT N⟩:=
  have E:Env Tryz.prog Axs:=Av tab ⟨AB4,trivial⟩
  Ar (body:=Ap Tryz.f91) (Pc:=[]) E rfl mixed Tryz.func91 (by kernel_rfl) (by kernel_rfl) (by kernel_rfl) (by kernel_rfl) (fun A hA=>trivial) (fun _=>by kernel_rfl)
theorem Mq:Aa Tryz.prog 91 Ke:=Abj 0
theorem Ago (N:Nat):Aa Tryz.prog 133 ⟨[(AX,true),(Ai,false)],[I],true,CD N⟩:=
  have E:Env Tryz.prog Avr:=Av tab ⟨Mq,trivial⟩
  Ar (body:=Ap Tryz.f133) (Pc:=[]) E rfl mixed Tryz.func133 (by kernel_rfl) (by kernel_rfl) (by kernel_rfl) (by kernel_rfl) (fun A hA=>trivial) (fun _=>by kernel_rfl)
theorem QE:Aa Tryz.prog 133 L3:=Ago 0
theorem Acg (N:Nat):Aa Tryz.prog 89 ⟨[(AX,true),(I,false)],[.bool],true,F1 N⟩:=
  have E:Env Tryz.prog Aw1:=Av tab ⟨Mq,trivial⟩
  Ar (body:=Ap Tryz.f89) (Pc:=[]) E rfl mixed Tryz.func89 (by kernel_rfl) (by kernel_rfl) (by kernel_rfl) (by kernel_rfl) (fun A hA=>trivial) (fun _=>by kernel_rfl)
theorem Adf:Aa Tryz.prog 89 Xt:=Acg 0
theorem Adt (N:Nat):Aa Tryz.prog 238 ⟨[(I,false),(I,false)],[I],true,Ww N⟩:=
  have E:Env Tryz.prog Ayo:=Av tab trivial
  Ar (body:=Ap Tryz.f238) (Pc:=[]) E rfl mixed Tryz.func238 (by kernel_rfl) (by kernel_rfl) (by kernel_rfl) (by kernel_rfl) (fun A hA=>trivial) (fun _=>by kernel_rfl)
theorem ACr:Aa Tryz.prog 238 Aq5:=Aa.less (fun N:Nat=>Ww N) Adt (fun d r h=>⟨0,(Adb 0 d).trans h⟩)
theorem YD (N:Nat):Aa Tryz.prog 185 ⟨[(I,false)],[Aj],true,Fs N⟩:=
  have E:Env Tryz.prog Apv:=Av tab trivial
  Ar (body:=Ap Tryz.f185) (Pc:=[(0,⟨Aa1,Aaj,NS N N⟩)]) E rfl mixed Tryz.func185 (by kernel_rfl) (by kernel_rfl) (by kernel_rfl) (by kernel_rfl) (fun A hA=>⟨AI (body:=At Tryz.f185 0) (inner:=[]) E mixed hA (by kernel_rfl) (by kernel_rfl) (by kernel_rfl) trivial (fun _=>rfl) (fun _ _=>by kernel_rfl) N,trivial⟩) (fun _=>by kernel_rfl)
theorem Ahs:Aa Tryz.prog 185 Xi:=Aa.less (fun N:Nat=>Fs N) YD LA
theorem Agv (N:Nat):Aa Tryz.prog 200 ⟨[(Am,false),(Am,false)],[.bool],true,V5 N⟩:=
  have E:Env Tryz.prog Av9:=Av tab trivial
  Ar (body:=Ap Tryz.f200) (Pc:=[]) E rfl mixed Tryz.func200 (by kernel_rfl) (by kernel_rfl) (by kernel_rfl) (by kernel_rfl) (fun A hA=>trivial) (fun _=>by kernel_rfl)
theorem Asr:Aa Tryz.prog 200 Ae8:=Aa.less (fun N:Nat=>V5 N) Agv (fun d r h=>⟨0,(Aaq 0 d).trans h⟩)
theorem PG (N:Nat):Aa Tryz.prog 186 ⟨[(Cc,false),(Am,false)],[Cc],true,Gt N⟩:=
  have E:Env Tryz.prog UD:=Av tab ⟨Asr,trivial⟩
  Ar (body:=Ap Tryz.f186) (Pc:=[(0,⟨Rw,Rv,Fy N N⟩)]) E rfl mixed Tryz.func186 (by kernel_rfl) (by kernel_rfl) (by kernel_rfl) (by kernel_rfl) (fun A hA=>⟨AI (body:=At Tryz.f186 0) (inner:=[]) E mixed hA (by kernel_rfl) (by kernel_rfl) (by kernel_rfl) trivial (fun _=>rfl) (fun _ _=>by kernel_rfl) N,trivial⟩) (fun _=>by kernel_rfl)
theorem Ng:Aa Tryz.prog 186 I3:=Aa.less (fun N:Nat=>Gt N) PG Aju
theorem Aay (N:Nat):Aa Tryz.prog 90 ⟨[(I,false)],[Aj],true,J3 N⟩:=
  have E:Env Tryz.prog Av6:=Av tab ⟨Ahs,⟨Ng,trivial⟩⟩
  Ar (body:=Ap Tryz.f90) (Pc:=[]) E rfl mixed Tryz.func90 (by kernel_rfl) (by kernel_rfl) (by kernel_rfl) (by kernel_rfl) (fun A hA=>trivial) (fun _=>by kernel_rfl)
theorem ABp:Aa Tryz.prog 90 Asv:=Aay 0
theorem Afp (N:Nat):Aa Tryz.prog 239 ⟨[(I,false)],[Aj],true,I5 N⟩:=
  have E:Env Tryz.prog Ayx:=Av tab trivial
  Ar (body:=Ap Tryz.f239) (Pc:=[(0,⟨Ans,Apd,RW N N⟩)]) E rfl mixed Tryz.func239 (by kernel_rfl) (by kernel_rfl) (by kernel_rfl) (by kernel_rfl) (fun A hA=>⟨AI (body:=At Tryz.f239 0) (inner:=[(2,⟨Ai6,Anp,RS N N⟩)]) E mixed hA (by kernel_rfl) (by kernel_rfl) (by kernel_rfl) ⟨AI (body:=At Tryz.f239 2) (inner:=[]) E mixed hA (by kernel_rfl) (by kernel_rfl) (by kernel_rfl) trivial (fun _=>rfl) (fun _ _=>by kernel_rfl) N,trivial⟩ (fun _=>rfl) (fun _ _=>by kernel_rfl) N,trivial⟩) (fun _=>by kernel_rfl)
theorem AC9:Aa Tryz.prog 239 Au2:=Aa.less (fun N:Nat=>I5 N) Afp LA
theorem Y2 (N:Nat):Aa Tryz.prog 201 ⟨[(I,false),(I,false)],[I],true,Sz N⟩:=
  have E:Env Tryz.prog Ar5:=Av tab trivial
  Ar (body:=Ap Tryz.f201) (Pc:=[]) E rfl mixed Tryz.func201 (by kernel_rfl) (by kernel_rfl) (by kernel_rfl) (by kernel_rfl) (fun A hA=>trivial) (fun _=>by kernel_rfl)
theorem Wf:Aa Tryz.prog 201 Su:=Aa.less (fun N:Nat=>Sz N) Y2 (fun d r h=>⟨0,(Z7 0 d).trans h⟩)
theorem Zp (N:Nat):Aa Tryz.prog 240 ⟨[(Aj,false),(I,false),(I,false)],[.bool],true,R5 N⟩:=
  have E:Env Tryz.prog Ask:=Av tab trivial
  Ar (body:=Ap Tryz.f240) (Pc:=[(0,⟨Aei,Adu,MP N N⟩)]) E rfl mixed Tryz.func240 (by kernel_rfl) (by kernel_rfl) (by kernel_rfl) (by kernel_rfl) (fun A hA=>⟨AI (body:=At Tryz.f240 0) (inner:=[]) E mixed hA (by kernel_rfl) (by kernel_rfl) (by kernel_rfl) trivial (fun _=>rfl) (fun _ _=>by kernel_rfl) N,trivial⟩) (fun _=>by kernel_rfl)
theorem Agy:Aa Tryz.prog 240 WF:=Aa.less (fun N:Nat=>R5 N) Zp Acz
theorem Adz (N:Nat):A4 Tryz.prog 241 (⟨[(AX,true),(Aj,true)],[Aj],true,Cn N⟩,{ gone:=[1],deep:=[] }):=
  have E:Env Tryz.prog Ayw:=G5 tab ⟨Mq,⟨QE,trivial⟩⟩ trivial (fun _ h=>by cases h) trivial (by kernel_rfl)
  RU (body:=Ap Tryz.f241) (Pc:=[]) E mixed Tryz.func241 (by kernel_rfl) (by kernel_rfl) (by kernel_rfl) (by kernel_rfl) (fun A hA=>trivial) (fun _=>by kernel_rfl)
theorem AAe:A4 Tryz.prog 241 (As4,{ gone:=[1],deep:=[] }):=Adz 0
theorem Af2 (N:Nat):Aa Tryz.prog 183 ⟨[(AX,true),(I,false)],[Aj],true,Mb N⟩:=
  have E:Env Tryz.prog Av3:=G5 tab ⟨Adf,⟨ABp,⟨Mq,⟨QE,⟨Ahs,⟨Ng,⟨Wf,⟨ACr,⟨AC9,⟨Agy,trivial⟩⟩⟩⟩⟩⟩⟩⟩⟩⟩ trivial (fun _ h=>by cases h) ⟨AAe,trivial⟩ (by kernel_rfl)
  Ar (body:=Ap Tryz.f183) (Pc:=[(1,⟨Ajq,Aoi,Hc N N⟩)]) E rfl mixed Tryz.func183 (by kernel_rfl) (by kernel_rfl) (by kernel_rfl) (by kernel_rfl) (fun A hA=>⟨AI (body:=At Tryz.f183 1) (inner:=[(3,⟨Aiz,Aj1,RL N N⟩)]) E mixed hA (by kernel_rfl) (by kernel_rfl) (by kernel_rfl) ⟨AI (body:=At Tryz.f183 3) (inner:=[]) E mixed hA (by kernel_rfl) (by kernel_rfl) (by kernel_rfl) trivial (fun _=>rfl) (fun _ _=>by kernel_rfl) N,trivial⟩ (fun _=>rfl) (fun _ _=>by kernel_rfl) N,trivial⟩) (fun _=>by kernel_rfl)
theorem At5:Aa Tryz.prog 183 Aa3:=Aa.less (fun N:Nat=>Mb N) Af2 LA
theorem Aep (N:Nat):Aa Tryz.prog 182 ⟨[(AX,true)],[Aj],true,SN N⟩:=
  have E:Env Tryz.prog Aw8:=Av tab ⟨At5,trivial⟩
  Ar (body:=Ap Tryz.f182) (Pc:=[]) E rfl mixed Tryz.func182 (by kernel_rfl) (by kernel_rfl) (by kernel_rfl) (by kernel_rfl) (fun A hA=>trivial) (fun _=>by kernel_rfl)
theorem ABd:Aa Tryz.prog 182 Aql:=Aep 0
theorem Yr (N:Nat):Aa Tryz.prog 226 ⟨[(I,false),(I,false)],[Ai],true,R6 N⟩:=
  have E:Env Tryz.prog Asq:=Av tab trivial
  Ar (body:=Ap Tryz.f226) (Pc:=[(0,⟨Aew,Abp,Na N N⟩)]) E rfl mixed Tryz.func226 (by kernel_rfl) (by kernel_rfl) (by kernel_rfl) (by kernel_rfl) (fun A hA=>⟨AI (body:=At Tryz.f226 0) (inner:=[]) E mixed hA (by kernel_rfl) (by kernel_rfl) (by kernel_rfl) trivial (fun _=>rfl) (fun _ _=>by kernel_rfl) N,trivial⟩) (fun _=>by kernel_rfl)
theorem Ay9:Aa Tryz.prog 226 Ahq:=Aa.less (fun N:Nat=>R6 N) Yr Acm
theorem AD6:Ch Tryz.prog (Ac Az2) (Ac Azj):=Ar3 (by kernel_rfl)
theorem Adm (N:Nat):Aa Tryz.prog 160 ⟨[(AX,true)],[B7],true,Js N⟩:=
  have E:Env Tryz.prog Avt:=Av AD6 ⟨Adf,⟨Mq,⟨QE,⟨ABd,⟨At5,⟨Ay9,trivial⟩⟩⟩⟩⟩⟩
  Ar (body:=Ap Tryz.f160) (Pc:=[(0,⟨Ajn,Ajz,IW N N⟩)]) E rfl mixed Tryz.func160 (by kernel_rfl) (by kernel_rfl) (by kernel_rfl) (by kernel_rfl) (fun A hA=>⟨AI (body:=At Tryz.f160 0) (inner:=[]) E mixed hA (by kernel_rfl) (by kernel_rfl) (by kernel_rfl) trivial (fun _=>rfl) (fun _ _=>by kernel_rfl) N,trivial⟩) (fun _=>by kernel_rfl)
theorem Afd:Aa Tryz.prog 160 Wo:=Aa.same (Aa.hard (k:=B7) (Aa.less (fun N:Nat=>Js N) Adm LA)) (fun d=>Axk ((CX Js Hf) d) _ fun _=>rfl)
theorem RJ (N:Nat):Aa Tryz.prog 148 ⟨[(I,false),(I,false),(I,false)],[.bool],true,G6 N⟩:=
  have E:Env Tryz.prog XQ:=Av tab trivial
  Ar (body:=Ap Tryz.f148) (Pc:=[]) E rfl mixed Tryz.func148 (by kernel_rfl) (by kernel_rfl) (by kernel_rfl) (by kernel_rfl) (fun A hA=>trivial) (fun _=>by kernel_rfl)
theorem DX:Aa Tryz.prog 148 De:=Aa.less (fun N:Nat=>G6 N) RJ (fun d r h=>⟨0,(Rs 0 d).trans h⟩)
theorem Adr (N:Nat):Aa Tryz.prog 190 ⟨[(Ai,false),(I,false),(I,false)],[.bool],true,V1 N⟩:=
  have E:Env Tryz.prog Ayr:=Av tab ⟨DX,trivial⟩
  Ar (body:=Ap Tryz.f190) (Pc:=[(0,⟨Ak3,Alv,RY N N⟩)]) E rfl mixed Tryz.func190 (by kernel_rfl) (by kernel_rfl) (by kernel_rfl) (by kernel_rfl) (fun A hA=>⟨AI (body:=At Tryz.f190 0) (inner:=[]) E mixed hA (by kernel_rfl) (by kernel_rfl) (by kernel_rfl) trivial (fun _=>rfl) (fun _ _=>by kernel_rfl) N,trivial⟩) (fun _=>by kernel_rfl)
theorem ACg:Aa Tryz.prog 190 Ark:=Aa.less (fun N:Nat=>V1 N) Adr WO
theorem Zt (N:Nat):Aa Tryz.prog 115 ⟨[(Aj,false)],[.bool],true,Sn N⟩:=
  have E:Env Tryz.prog Aqb:=Av tab ⟨DX,⟨Asr,trivial⟩⟩
  Ar (body:=Ap Tryz.f115) (Pc:=[(0,⟨Afh,Aas,M6 N N⟩)]) E rfl mixed Tryz.func115 (by kernel_rfl) (by kernel_rfl) (by kernel_rfl) (by kernel_rfl) (fun A hA=>⟨AI (body:=At Tryz.f115 0) (inner:=[]) E mixed hA (by kernel_rfl) (by kernel_rfl) (by kernel_rfl) trivial (fun _=>rfl) (fun _ _=>by kernel_rfl) N,trivial⟩) (fun _=>by kernel_rfl)
theorem Awk:Aa Tryz.prog 115 Ag2:=Aa.less (fun N:Nat=>Sn N) Zt Abl
theorem Ad0 (N:Nat):Aa Tryz.prog 98 ⟨[(Aj,false),(I,false)],[.bool],true,Tq N⟩:=
  have E:Env Tryz.prog Axh:=Av tab ⟨Awk,⟨DX,trivial⟩⟩
  Ar (body:=Ap Tryz.f98) (Pc:=[]) E rfl mixed Tryz.func98 (by kernel_rfl) (by kernel_rfl) (by kernel_rfl) (by kernel_rfl) (fun A hA=>trivial) (fun _=>by kernel_rfl)
theorem ABq:Aa Tryz.prog 98 Asy:=Ad0 0
theorem Abd (N:Nat):Aa Tryz.prog 163 ⟨[(Ae,false)],[.bool],true,VR N⟩:=
  have E:Env Tryz.prog Aze:=Av tab ⟨ABq,⟨DX,⟨ACg,trivial⟩⟩⟩
  Ar (body:=Ap Tryz.f163) (Pc:=[(0,⟨Ai4,Aj0,Sf N N⟩)]) E rfl mixed Tryz.func163 (by kernel_rfl) (by kernel_rfl) (by kernel_rfl) (by kernel_rfl) (fun A hA=>⟨AI (body:=At Tryz.f163 0) (inner:=[]) E mixed hA (by kernel_rfl) (by kernel_rfl) (by kernel_rfl) trivial (fun _=>rfl) (fun _ _=>by kernel_rfl) N,trivial⟩) (fun _=>by kernel_rfl)
theorem Xo:Aa Tryz.prog 163 SQ:=Aa.less (fun N:Nat=>VR N) Abd Z2
theorem OT (N:Nat):Aa Tryz.prog 101 ⟨[(Ai,false),(I,false)],[.bool],true,Gw N⟩:=
  have E:Env Tryz.prog UL:=Av tab trivial
  Ar (body:=Ap Tryz.f101) (Pc:=[(0,⟨RG,RH,Fz N N⟩)]) E rfl mixed Tryz.func101 (by kernel_rfl) (by kernel_rfl) (by kernel_rfl) (by kernel_rfl) (fun A hA=>⟨AI (body:=At Tryz.f101 0) (inner:=[]) E mixed hA (by kernel_rfl) (by kernel_rfl) (by kernel_rfl) trivial (fun _=>rfl) (fun _ _=>by kernel_rfl) N,trivial⟩) (fun _=>by kernel_rfl)
theorem Xz:Aa Tryz.prog 101 Nz:=Aa.less (fun N:Nat=>Gw N) OT Anm
theorem Acb (N:Nat):Aa Tryz.prog 231 ⟨[(Ae,false),(I,false)],[Aj],true,X2 N⟩:=
  have E:Env Tryz.prog Azg:=Av tab ⟨Xz,trivial⟩
  Ar (body:=Ap Tryz.f231) (Pc:=[(0,⟨Ali,Ang,Jq N N⟩)]) E rfl mixed Tryz.func231 (by kernel_rfl) (by kernel_rfl) (by kernel_rfl) (by kernel_rfl) (fun A hA=>⟨AI (body:=At Tryz.f231 0) (inner:=[]) E mixed hA (by kernel_rfl) (by kernel_rfl) (by kernel_rfl) trivial (fun _=>rfl) (fun _ _=>by kernel_rfl) N,trivial⟩) (fun _=>by kernel_rfl)
theorem AAq:Aa Tryz.prog 231 Asf:=Aa.less (fun N:Nat=>X2 N) Acb Yn
theorem Ad7 (N:Nat):Aa Tryz.prog 208 ⟨[(Aj,false),(I,false)],[Ai],true,We N⟩:=
  have E:Env Tryz.prog Avb:=Av tab ⟨Agy,trivial⟩
  Ar (body:=Ap Tryz.f208) (Pc:=[(0,⟨Aos,Ama,KL N N⟩)]) E rfl mixed Tryz.func208 (by kernel_rfl) (by kernel_rfl) (by kernel_rfl) (by kernel_rfl) (fun A hA=>⟨AI (body:=At Tryz.f208 0) (inner:=[]) E mixed hA (by kernel_rfl) (by kernel_rfl) (by kernel_rfl) trivial (fun _=>rfl) (fun _ _=>by kernel_rfl) N,trivial⟩) (fun _=>by kernel_rfl)
theorem ADc:Aa Tryz.prog 208 Atk:=Aa.less (fun N:Nat=>We N) Ad7 RE
theorem Afs (N:Nat):A4 Tryz.prog 92 (⟨[(Ai,true),(I,false)],[Ai],true,Xc N⟩,{ gone:=[0],deep:=[] }):=
  have E:Env Tryz.prog Ayg:=G5 tab trivial trivial (fun _ h=>by cases h) trivial (by kernel_rfl)
  RU (body:=Ap Tryz.f92) (Pc:=[(0,⟨Al9,Ak1,K1 N N⟩)]) E mixed Tryz.func92 (by kernel_rfl) (by kernel_rfl) (by kernel_rfl) (by kernel_rfl) (fun A hA=>⟨AI (body:=At Tryz.f92 0) (inner:=[]) E mixed hA (by kernel_rfl) (by kernel_rfl) (by kernel_rfl) trivial (fun _=>rfl) (fun _ _=>by kernel_rfl) N,trivial⟩) (fun _=>by kernel_rfl)
theorem ADi:A4 Tryz.prog 92 (As0,{ gone:=[0],deep:=[] }):=A4.less (fun N:Nat=>Xc N) Afs Aaf
theorem YE (N:Nat):Aa Tryz.prog 124 ⟨[(Aj,false),(I,false)],[Ai],true,Jl N⟩:=
  have E:Env Tryz.prog Arg:=G5 tab ⟨ADc,trivial⟩ trivial (fun _ h=>by cases h) ⟨ADi,trivial⟩ (by kernel_rfl)
  Ar (body:=Ap Tryz.f124) (Pc:=[]) E rfl mixed Tryz.func124 (by kernel_rfl) (by kernel_rfl) (by kernel_rfl) (by kernel_rfl) (fun A hA=>trivial) (fun _=>by kernel_rfl)
theorem Ay5:Aa Tryz.prog 124 Ag6:=YE 0
theorem Afi (N:Nat):Aa Tryz.prog 165 ⟨[(Ae,false)],[An],true,Wx N⟩:=
  have E:Env Tryz.prog Ays:=Av tab ⟨Ay5,⟨AAq,trivial⟩⟩
  Ar (body:=Ap Tryz.f165) (Pc:=[(0,⟨Ajt,Al4,Se N N⟩)]) E rfl mixed Tryz.func165 (by kernel_rfl) (by kernel_rfl) (by kernel_rfl) (by kernel_rfl) (fun A hA=>⟨AI (body:=At Tryz.f165 0) (inner:=[(2,⟨Ajm,Aje,Nr N N⟩)]) E mixed hA (by kernel_rfl) (by kernel_rfl) (by kernel_rfl) ⟨AI (body:=At Tryz.f165 2) (inner:=[]) E mixed hA (by kernel_rfl) (by kernel_rfl) (by kernel_rfl) trivial (fun _=>rfl) (fun _ _=>by kernel_rfl) N,trivial⟩ (fun _=>rfl) (fun _ _=>by kernel_rfl) N,trivial⟩) (fun _=>by kernel_rfl)
theorem Aee:Aa Tryz.prog 165 WZ:=Aa.less (fun N:Nat=>Wx N) Afi XC
theorem Aeg (N:Nat):Aa Tryz.prog 234 ⟨[(I,false),(I,false)],[An],true,XD N⟩:=
  have E:Env Tryz.prog Au5:=Av tab trivial
  Ar (body:=Ap Tryz.f234) (Pc:=[(0,⟨Amy,Amn,Sh N N⟩)]) E rfl mixed Tryz.func234 (by kernel_rfl) (by kernel_rfl) (by kernel_rfl) (by kernel_rfl) (fun A hA=>⟨AI (body:=At Tryz.f234 0) (inner:=[(2,⟨Amp,Ao3,Nf N N⟩)]) E mixed hA (by kernel_rfl) (by kernel_rfl) (by kernel_rfl) ⟨AI (body:=At Tryz.f234 2) (inner:=[(4,⟨Alm,Aji,Nx N N⟩)]) E mixed hA (by kernel_rfl) (by kernel_rfl) (by kernel_rfl) ⟨AI (body:=At Tryz.f234 4) (inner:=[]) E mixed hA (by kernel_rfl) (by kernel_rfl) (by kernel_rfl) trivial (fun _=>rfl) (fun _ _=>by kernel_rfl) N,trivial⟩ (fun _=>rfl) (fun _ _=>by kernel_rfl) N,trivial⟩ (fun _=>rfl) (fun _ _=>by kernel_rfl) N,trivial⟩) (fun _=>by kernel_rfl)
theorem ABf:Aa Tryz.prog 234 Atn:=Aa.less (fun N:Nat=>XD N) Aeg WS
theorem Ab3 (N:Nat):Aa Tryz.prog 180 ⟨[(An,false),(An,false),(I,false),(I,false),(I,false)],[I],true,W3 N⟩:=
  have E:Env Tryz.prog Aww:=Av tab ⟨Wf,trivial⟩
  Ar (body:=Ap Tryz.f180) (Pc:=[(0,⟨Aon,Akf,Ge N N⟩)]) E rfl mixed Tryz.func180 (by kernel_rfl) (by kernel_rfl) (by kernel_rfl) (by kernel_rfl) (fun A hA=>⟨AI (body:=At Tryz.f180 0) (inner:=[]) E mixed hA (by kernel_rfl) (by kernel_rfl) (by kernel_rfl) trivial (fun _=>rfl) (fun _ _=>by kernel_rfl) N,trivial⟩) (fun _=>by kernel_rfl)
theorem Ads:Aa Tryz.prog 180 Wt:=Aa.less (fun N:Nat=>W3 N) Ab3 VF
theorem ZH (N:Nat):Aa Tryz.prog 235 ⟨[(An,false),(An,false),(I,false),(I,false),(I,false)],[.bool],true,Sj N⟩:=
  have E:Env Tryz.prog Ar1:=Av tab ⟨Ads,trivial⟩
  Ar (body:=Ap Tryz.f235) (Pc:=[(0,⟨Ad8,Afc,NB N N⟩)]) E rfl mixed Tryz.func235 (by kernel_rfl) (by kernel_rfl) (by kernel_rfl) (by kernel_rfl) (fun A hA=>⟨AI (body:=At Tryz.f235 0) (inner:=[]) E mixed hA (by kernel_rfl) (by kernel_rfl) (by kernel_rfl) trivial (fun _=>rfl) (fun _ _=>by kernel_rfl) N,trivial⟩) (fun _=>by kernel_rfl)
theorem Ax9:Aa Tryz.prog 235 Ahh:=Aa.less (fun N:Nat=>Sj N) ZH Acx
theorem Abm (N:Nat):Aa Tryz.prog 171 ⟨[(Ae,false)],[An],true,VK N⟩:=
  have E:Env Tryz.prog Awm:=Av tab ⟨Aee,⟨ABf,⟨Ax9,trivial⟩⟩⟩
  Ar (body:=Ap Tryz.f171) (Pc:=[(0,⟨All,Anw,Nl N N⟩)]) E rfl mixed Tryz.func171 (by kernel_rfl) (by kernel_rfl) (by kernel_rfl) (by kernel_rfl) (fun A hA=>⟨AI (body:=At Tryz.f171 0) (inner:=[(2,⟨Als,Apc,Nm N N⟩)]) E mixed hA (by kernel_rfl) (by kernel_rfl) (by kernel_rfl) ⟨AI (body:=At Tryz.f171 2) (inner:=[(4,⟨Ant,Ao1,NF N N⟩)]) E mixed hA (by kernel_rfl) (by kernel_rfl) (by kernel_rfl) ⟨AI (body:=At Tryz.f171 4) (inner:=[(6,⟨Alk,Al2,NO N N⟩)]) E mixed hA (by kernel_rfl) (by kernel_rfl) (by kernel_rfl) ⟨AI (body:=At Tryz.f171 6) (inner:=[]) E mixed hA (by kernel_rfl) (by kernel_rfl) (by kernel_rfl) trivial (fun _=>rfl) (fun _ _=>by kernel_rfl) N,trivial⟩ (fun _=>rfl) (fun _ _=>by kernel_rfl) N,trivial⟩ (fun _=>rfl) (fun _ _=>by kernel_rfl) N,trivial⟩ (fun _=>rfl) (fun _ _=>by kernel_rfl) N,trivial⟩) (fun _=>by kernel_rfl)
theorem Ab4:Aa Tryz.prog 171 V3:=Aa.less (fun N:Nat=>VK N) Abm Xv
theorem Ac9 (N:Nat):Aa Tryz.prog 78 ⟨[(Ae,false)],[An,.bool],true,Jh N⟩:=
  have E:Env Tryz.prog Avu:=Av tab ⟨Xo,⟨Ab4,trivial⟩⟩
  Ar (body:=Ap Tryz.f78) (Pc:=[]) E rfl mixed Tryz.func78 (by kernel_rfl) (by kernel_rfl) (by kernel_rfl) (by kernel_rfl) (fun A hA=>trivial) (fun _=>by kernel_rfl)
theorem Arn:Aa Tryz.prog 78 Aey:=Ac9 0
theorem Agr (N:Nat):Aa Tryz.prog 73 ⟨[(K_Su8,false)],[Ae,An],false,QU N⟩:=
  have E:Env Tryz.prog Axp:=G5 tab ⟨Arn,⟨Mq,⟨QE,⟨Afd,trivial⟩⟩⟩⟩ trivial (fun _ h=>by cases h) trivial (by kernel_rfl)
  Ar (body:=Ap Tryz.f73) (Pc:=[]) E rfl mixed Tryz.func73 (by kernel_rfl) (by kernel_rfl) (by kernel_rfl) (by kernel_rfl) (fun A hA=>trivial) (fun _=>by kernel_rfl)
theorem AAd:Aa Tryz.prog 73 Arl:=Agr 0
theorem ZP (N:Nat):Aa Tryz.prog 143 ⟨[(I,false),(I,false),(I,false)],[.bool],true,RN N⟩:=
  have E:Env Tryz.prog Apq:=Av tab trivial
  Ar (body:=Ap Tryz.f143) (Pc:=[]) E rfl mixed Tryz.func143 (by kernel_rfl) (by kernel_rfl) (by kernel_rfl) (by kernel_rfl) (fun A hA=>trivial) (fun _=>by kernel_rfl)
theorem Ni:Aa Tryz.prog 143 KW:=Aa.less (fun N:Nat=>RN N) ZP (fun d r h=>⟨0,(YJ 0 d).trans h⟩)
theorem Afa (N:Nat):Aa Tryz.prog 258 ⟨[(I,false)],[.bool],true,Xn N⟩:=
  have E:Env Tryz.prog Azd:=Av tab trivial
  Ar (body:=Ap Tryz.f258) (Pc:=[]) E rfl mixed Tryz.func258 (by kernel_rfl) (by kernel_rfl) (by kernel_rfl) (by kernel_rfl) (fun A hA=>trivial) (fun _=>by kernel_rfl)
theorem Az8:Aa Tryz.prog 258 Atp:=Aa.less (fun N:Nat=>Xn N) Afa (fun d r h=>⟨0,(Abu 0 d).trans h⟩)
theorem Ac5 (N:Nat):Aa Tryz.prog 246 ⟨[(I,false),(I,false)],[I],true,XW N⟩:=
  have E:Env Tryz.prog Axb:=Av tab ⟨Az8,trivial⟩
  Ar (body:=Ap Tryz.f246) (Pc:=[]) E rfl mixed Tryz.func246 (by kernel_rfl) (by kernel_rfl) (by kernel_rfl) (by kernel_rfl) (fun A hA=>trivial) (fun _=>by kernel_rfl)
theorem AAy:Aa Tryz.prog 246 Ati:=Aa.less (fun N:Nat=>XW N) Ac5 (fun d r h=>⟨0,(Aa2 0 d).trans h⟩)
theorem Ab6 (N:Nat):Aa Tryz.prog 199 ⟨[(Ai,false),(Ai,false)],[I],true,XY N⟩:=
  have E:Env Tryz.prog Axt:=Av tab ⟨AAy,trivial⟩
  Ar (body:=Ap Tryz.f199) (Pc:=[(0,⟨Ai5,Anq,IB N N⟩)]) E rfl mixed Tryz.func199 (by kernel_rfl) (by kernel_rfl) (by kernel_rfl) (by kernel_rfl) (fun A hA=>⟨AI (body:=At Tryz.f199 0) (inner:=[]) E mixed hA (by kernel_rfl) (by kernel_rfl) (by kernel_rfl) trivial (fun _=>rfl) (fun _ _=>by kernel_rfl) N,trivial⟩) (fun _=>by kernel_rfl)
theorem Aur:Aa Tryz.prog 199 Atr:=Aa.less (fun N:Nat=>XY N) Ab6 ZX
theorem Yh (N:Nat):Aa Tryz.prog 114 ⟨[(Aj,false)],[.bool],true,SH N⟩:=
  have E:Env Tryz.prog Aqa:=Av tab ⟨Ni,⟨Aur,trivial⟩⟩
  Ar (body:=Ap Tryz.f114) (Pc:=[(0,⟨Aau,Aci,NV N N⟩)]) E rfl mixed Tryz.func114 (by kernel_rfl) (by kernel_rfl) (by kernel_rfl) (by kernel_rfl) (fun A hA=>⟨AI (body:=At Tryz.f114 0) (inner:=[]) E mixed hA (by kernel_rfl) (by kernel_rfl) (by kernel_rfl) trivial (fun _=>rfl) (fun _ _=>by kernel_rfl) N,trivial⟩) (fun _=>by kernel_rfl)
theorem Sb:Aa Tryz.prog 114 No:=Aa.less (fun N:Nat=>SH N) Yh YN
theorem Af7 (N:Nat):Aa Tryz.prog 169 ⟨[(Ai,false)],[.bool],true,WT N⟩:=
  have E:Env Tryz.prog Ayj:=Av tab trivial
  Ar (body:=Ap Tryz.f169) (Pc:=[(0,⟨Al8,Aiv,So N N⟩)]) E rfl mixed Tryz.func169 (by kernel_rfl) (by kernel_rfl) (by kernel_rfl) (by kernel_rfl) (fun A hA=>⟨AI (body:=At Tryz.f169 0) (inner:=[]) E mixed hA (by kernel_rfl) (by kernel_rfl) (by kernel_rfl) trivial (fun _=>rfl) (fun _ _=>by kernel_rfl) N,trivial⟩) (fun _=>by kernel_rfl)
theorem ABo:Aa Tryz.prog 169 Atx:=Aa.less (fun N:Nat=>WT N) Af7 TR
theorem Aaw (N:Nat):Aa Tryz.prog 128 ⟨[(Ai,false),(I,false),(I,false)],[.bool],true,WQ N⟩:=
  have E:Env Tryz.prog Avo:=Av tab ⟨Ni,trivial⟩
  Ar (body:=Ap Tryz.f128) (Pc:=[(0,⟨Am8,Alw,RT N N⟩)]) E rfl mixed Tryz.func128 (by kernel_rfl) (by kernel_rfl) (by kernel_rfl) (by kernel_rfl) (fun A hA=>⟨AI (body:=At Tryz.f128 0) (inner:=[]) E mixed hA (by kernel_rfl) (by kernel_rfl) (by kernel_rfl) trivial (fun _=>rfl) (fun _ _=>by kernel_rfl) N,trivial⟩) (fun _=>by kernel_rfl)
theorem Aa7:Aa Tryz.prog 128 Xq:=Aa.less (fun N:Nat=>WQ N) Aaw UB
theorem Ade (N:Nat):Aa Tryz.prog 168 ⟨[(Ai,false),(EW,false)],[.bool],true,XM N⟩:=
  have E:Env Tryz.prog Axz:=Av tab ⟨Aa7,⟨ABo,trivial⟩⟩
  Ar (body:=Ap Tryz.f168) (Pc:=[]) E rfl mixed Tryz.func168 (by kernel_rfl) (by kernel_rfl) (by kernel_rfl) (by kernel_rfl) (fun A hA=>trivial) (fun _=>by kernel_rfl)
theorem AB3:Aa Tryz.prog 168 AAw:=Ade 0
theorem Ayq:Bs Tryz.prog Aho:=L9 AB3
theorem Agq (N:Nat):Aa Tryz.prog 232 ⟨[(Ag,false),(Bc,false)],[I],true,Pn N⟩:=
  have E:Env Tryz.prog Axa:=Ck tab trivial ⟨Ayq,trivial⟩ (fun _ h=>by cases h)
  Ar (body:=Ap Tryz.f232) (Pc:=[(0,⟨Ao5,Amq,Si N N⟩)]) E rfl mixed Tryz.func232 (by kernel_rfl) (by kernel_rfl) (by kernel_rfl) (by kernel_rfl) (fun A hA=>⟨AI (body:=At Tryz.f232 0) (inner:=[]) E mixed hA (by kernel_rfl) (by kernel_rfl) (by kernel_rfl) trivial (fun _=>rfl) (fun _ _=>by kernel_rfl) N,trivial⟩) (fun _=>by kernel_rfl)
theorem AAg:Aa Tryz.prog 232 Apy:=Aa.less (fun N:Nat=>Pn N) Agq Aaa
theorem Aow (N:Nat):Aa Tryz.prog 167 ⟨[(Ag,false),(Bc,false)],[.bool],true,YQ N⟩:=
  have E:Env Tryz.prog ACi:=Av tab ⟨AAg,trivial⟩
  Ar (body:=Ap Tryz.f167) (Pc:=[]) E rfl mixed Tryz.func167 (by kernel_rfl) (by kernel_rfl) (by kernel_rfl) (by kernel_rfl) (fun A hA=>trivial) (fun _=>by kernel_rfl)
theorem AD1:Aa Tryz.prog 167 Azi:=Aow 0
theorem Aa6 (N:Nat):Aa Tryz.prog 76 ⟨[(Ae,false)],[.bool],true,Ho N⟩:=
  have E:Env Tryz.prog Av0:=Ck tab ⟨Sb,⟨Ni,⟨AD1,trivial⟩⟩⟩ trivial (fun _ h=>by cases h)
  Ar (body:=Ap Tryz.f76) (Pc:=[]) E rfl mixed Tryz.func76 (by kernel_rfl) (by kernel_rfl) (by kernel_rfl) (by kernel_rfl) (fun A hA=>trivial) (fun _=>by kernel_rfl)
theorem OX:Aa Tryz.prog 76 Ms:=Aa6 0
theorem Qz (N:Nat):Aa Tryz.prog 95 ⟨[(Aj,false)],[AA],true,Gx N⟩:=
  have E:Env Tryz.prog UR:=Av tab trivial
  Ar (body:=Ap Tryz.f95) (Pc:=[(0,⟨RA,RI,CR N N⟩)]) E rfl mixed Tryz.func95 (by kernel_rfl) (by kernel_rfl) (by kernel_rfl) (by kernel_rfl) (fun A hA=>⟨AI (body:=At Tryz.f95 0) (inner:=[]) E mixed hA (by kernel_rfl) (by kernel_rfl) (by kernel_rfl) trivial (fun _=>rfl) (fun _ _=>by kernel_rfl) N,trivial⟩) (fun _=>by kernel_rfl)
theorem IR:Aa Tryz.prog 95 Gq:=Aa.less (fun N:Nat=>Gx N) Qz Aou
theorem Ab5 (N:Nat):Aa Tryz.prog 211 ⟨[(Ai,false),(I,false)],[I],true,WM N⟩:=
  have E:Env Tryz.prog Aw5:=Av tab trivial
  Ar (body:=Ap Tryz.f211) (Pc:=[(0,⟨Ak5,Alr,SD N N⟩)]) E rfl mixed Tryz.func211 (by kernel_rfl) (by kernel_rfl) (by kernel_rfl) (by kernel_rfl) (fun A hA=>⟨AI (body:=At Tryz.f211 0) (inner:=[]) E mixed hA (by kernel_rfl) (by kernel_rfl) (by kernel_rfl) trivial (fun _=>rfl) (fun _ _=>by kernel_rfl) N,trivial⟩) (fun _=>by kernel_rfl)
theorem Az3:Aa Tryz.prog 211 Apl:=Aa.less (fun N:Nat=>WM N) Ab5 Akk
theorem Aek (N:Nat):Aa Tryz.prog 129 ⟨[(Ai,false),(I,false)],[.bool],true,ID N⟩:=
  have E:Env Tryz.prog Ay4:=Av tab ⟨Az3,trivial⟩
  Ar (body:=Ap Tryz.f129) (Pc:=[]) E rfl mixed Tryz.func129 (by kernel_rfl) (by kernel_rfl) (by kernel_rfl) (by kernel_rfl) (fun A hA=>trivial) (fun _=>by kernel_rfl)
theorem Aam:Aa Tryz.prog 129 XN:=Aek 0
theorem Aem (N:Nat):Aa Tryz.prog 162 ⟨[(Ae,false)],[AU],true,XI N⟩:=
  have E:Env Tryz.prog Ayt:=Av tab ⟨IR,⟨Aam,trivial⟩⟩
  Ar (body:=Ap Tryz.f162) (Pc:=[(0,⟨Apf,Apj,Lk N N⟩)]) E rfl mixed Tryz.func162 (by kernel_rfl) (by kernel_rfl) (by kernel_rfl) (by kernel_rfl) (fun A hA=>⟨AI (body:=At Tryz.f162 0) (inner:=[(2,⟨Ai2,Akb,Jc N N⟩)]) E mixed hA (by kernel_rfl) (by kernel_rfl) (by kernel_rfl) ⟨AI (body:=At Tryz.f162 2) (inner:=[]) E mixed hA (by kernel_rfl) (by kernel_rfl) (by kernel_rfl) trivial (fun _=>rfl) (fun _ _=>by kernel_rfl) N,trivial⟩ (fun _=>rfl) (fun _ _=>by kernel_rfl) N,trivial⟩) (fun _=>by kernel_rfl)
theorem TW:Aa Tryz.prog 162 OV:=Aa.less (fun N:Nat=>XI N) Aem XK
theorem Aai (N:Nat):Aa Tryz.prog 188 ⟨[(AA,false)],[I],true,X0 N⟩:=
  have E:Env Tryz.prog Axq:=Av tab trivial
  Ar (body:=Ap Tryz.f188) (Pc:=[]) E rfl mixed Tryz.func188 (by kernel_rfl) (by kernel_rfl) (by kernel_rfl) (by kernel_rfl) (fun A hA=>trivial) (fun _=>by kernel_rfl)
theorem Tx:Aa Tryz.prog 188 OG:=Aa.less (fun N:Nat=>X0 N) Aai (fun d r h=>⟨0,(Ab7 0 d).trans h⟩)
theorem Agm (N:Nat):Aa Tryz.prog 228 ⟨[(I,false)],[.bool],true,WC N⟩:=
  have E:Env Tryz.prog Aza:=Av tab trivial
  Ar (body:=Ap Tryz.f228) (Pc:=[]) E rfl mixed Tryz.func228 (by kernel_rfl) (by kernel_rfl) (by kernel_rfl) (by kernel_rfl) (fun A hA=>trivial) (fun _=>by kernel_rfl)
theorem AAk:Aa Tryz.prog 228 ABe:=Aa.less (fun N:Nat=>WC N) Agm (fun d r h=>⟨0,(Ace 0 d).trans h⟩)
theorem Agu (N:Nat):Aa Tryz.prog 130 ⟨[(AA,false),(I,false)],[I],true,IS N⟩:=
  have E:Env Tryz.prog Axi:=Av tab trivial
  Ar (body:=Ap Tryz.f130) (Pc:=[]) E rfl mixed Tryz.func130 (by kernel_rfl) (by kernel_rfl) (by kernel_rfl) (by kernel_rfl) (fun A hA=>trivial) (fun _=>by kernel_rfl)
theorem T9:Aa Tryz.prog 130 QY:=Agu 0
theorem O5 (N:Nat):Aa Tryz.prog 127 ⟨[(I,false)],[Ai],true,Gn N⟩:=
  have E:Env Tryz.prog Uy:=Av tab trivial
  Ar (body:=Ap Tryz.f127) (Pc:=[(0,⟨RC,Rq,DA N N⟩)]) E rfl mixed Tryz.func127 (by kernel_rfl) (by kernel_rfl) (by kernel_rfl) (by kernel_rfl) (fun A hA=>⟨AI (body:=At Tryz.f127 0) (inner:=[]) E mixed hA (by kernel_rfl) (by kernel_rfl) (by kernel_rfl) trivial (fun _=>rfl) (fun _ _=>by kernel_rfl) N,trivial⟩) (fun _=>by kernel_rfl)
theorem D1:Aa Tryz.prog 127 Di:=Aa.less (fun N:Nat=>Gn N) O5 Akq
theorem Adp (N:Nat):Aa Tryz.prog 179 ⟨[(AA,false),(Ai,false),(I,false)],[I],true,VI N⟩:=
  have E:Env Tryz.prog Awn:=Av tab ⟨D1,⟨T9,trivial⟩⟩
  Ar (body:=Ap Tryz.f179) (Pc:=[(0,⟨Alg,Ait,Gf N N⟩)]) E rfl mixed Tryz.func179 (by kernel_rfl) (by kernel_rfl) (by kernel_rfl) (by kernel_rfl) (fun A hA=>⟨AI (body:=At Tryz.f179 0) (inner:=[]) E mixed hA (by kernel_rfl) (by kernel_rfl) (by kernel_rfl) trivial (fun _=>rfl) (fun _ _=>by kernel_rfl) N,trivial⟩) (fun _=>by kernel_rfl)
theorem VM:Aa Tryz.prog 179 TD:=Aa.less (fun N:Nat=>VI N) Adp Uw
theorem Ayc:Bs Tryz.prog Ahj:=Uu AAk
theorem Ae6 (N:Nat):Aa Tryz.prog 248 ⟨[(Ai,false),(EE,false)],[I],true,Xf N⟩:=
  have E:Env Tryz.prog Awx:=Ck tab trivial ⟨Ayc,trivial⟩ (fun _ h=>by cases h)
  Ar (body:=Ap Tryz.f248) (Pc:=[(0,⟨Akw,Aot,Sr N N⟩)]) E rfl mixed Tryz.func248 (by kernel_rfl) (by kernel_rfl) (by kernel_rfl) (by kernel_rfl) (fun A hA=>⟨AI (body:=At Tryz.f248 0) (inner:=[]) E mixed hA (by kernel_rfl) (by kernel_rfl) (by kernel_rfl) trivial (fun _=>rfl) (fun _ _=>by kernel_rfl) N,trivial⟩) (fun _=>by kernel_rfl)
theorem AA3:Aa Tryz.prog 248 Aq8:=Aa.less (fun N:Nat=>Xf N) Ae6 VL
theorem Ai0 (N:Nat):Aa Tryz.prog 214 ⟨[(Ai,false),(EE,false)],[.bool],true,Aic N⟩:=
  have E:Env Tryz.prog ADf:=Av tab ⟨AA3,trivial⟩
  Ar (body:=Ap Tryz.f214) (Pc:=[]) E rfl mixed Tryz.func214 (by kernel_rfl) (by kernel_rfl) (by kernel_rfl) (by kernel_rfl) (fun A hA=>trivial) (fun _=>by kernel_rfl)
theorem AEg:Aa Tryz.prog 214 Az0:=Ai0 0
theorem Agp (N:Nat):Aa Tryz.prog 227 ⟨[(Ai,false),(Pv,false)],[.bool],true,Wr N⟩:=
  have E:Env Tryz.prog Ax6:=Av tab ⟨AEg,trivial⟩
  Ar (body:=Ap Tryz.f227) (Pc:=[]) E rfl mixed Tryz.func227 (by kernel_rfl) (by kernel_rfl) (by kernel_rfl) (by kernel_rfl) (fun A hA=>trivial) (fun _=>by kernel_rfl)
theorem Az9:Aa Tryz.prog 227 ABv:=Agp 0
theorem Ayb:Bs Tryz.prog Ah0:=L9 Az9
theorem Adk (N:Nat):Aa Tryz.prog 232 ⟨[(Ag,false),(C9,false)],[I],true,Wp N⟩:=
  have E:Env Tryz.prog Awz:=Ck tab trivial ⟨Ayb,trivial⟩ (fun _ h=>by cases h)
  Ar (body:=Ap Tryz.f232) (Pc:=[(0,⟨Aov,Aoo,Sl N N⟩)]) E rfl mixed Tryz.func232 (by kernel_rfl) (by kernel_rfl) (by kernel_rfl) (by kernel_rfl) (fun A hA=>⟨AI (body:=At Tryz.f232 0) (inner:=[]) E mixed hA (by kernel_rfl) (by kernel_rfl) (by kernel_rfl) trivial (fun _=>rfl) (fun _ _=>by kernel_rfl) N,trivial⟩) (fun _=>by kernel_rfl)
theorem AAj:Aa Tryz.prog 232 Aqw:=Aa.less (fun N:Nat=>Wp N) Adk W8
theorem Aoa (N:Nat):Aa Tryz.prog 167 ⟨[(Ag,false),(C9,false)],[.bool],true,Ah8 N⟩:=
  have E:Env Tryz.prog ACd:=Av tab ⟨AAj,trivial⟩
  Ar (body:=Ap Tryz.f167) (Pc:=[]) E rfl mixed Tryz.func167 (by kernel_rfl) (by kernel_rfl) (by kernel_rfl) (by kernel_rfl) (fun A hA=>trivial) (fun _=>by kernel_rfl)
theorem AEx:Aa Tryz.prog 167 Az1:=Aoa 0
theorem Abs (N:Nat):Aa Tryz.prog 230 ⟨[(I,false),(Pv,false)],[.bool],true,Xg N⟩:=
  have E:Env Tryz.prog Avz:=Av tab trivial
  Ar (body:=Ap Tryz.f230) (Pc:=[]) E rfl mixed Tryz.func230 (by kernel_rfl) (by kernel_rfl) (by kernel_rfl) (by kernel_rfl) (fun A hA=>trivial) (fun _=>by kernel_rfl)
theorem AC2:Aa Tryz.prog 230 ACz:=Aa.less (fun N:Nat=>Xg N) Abs (fun d r h=>⟨0,(Aa9 0 d).trans h⟩)
theorem Avm:Bs Tryz.prog Aio:=L9 AC2
theorem Ae2 (N:Nat):Aa Tryz.prog 255 ⟨[(I,false),(Pv,false),(KU,false),(QH,false),(FX,false)],[.bool],true,Wh N⟩:=
  have E:Env Tryz.prog Aw2:=Ck tab ⟨VM,trivial⟩ ⟨Avm,trivial⟩ (Ahc (by kernel_rfl))
  Ar (body:=Ap Tryz.f255) (Pc:=[]) E rfl mixed Tryz.func255 (by kernel_rfl) (by kernel_rfl) (by kernel_rfl) (by kernel_rfl) (fun A hA=>trivial) (fun _=>by kernel_rfl)
theorem AB5:Aa Tryz.prog 255 ADm:=Ae2 0
theorem Ayl:Bs Tryz.prog Ah9:=SP AB5
theorem Akz (N:Nat):Aa Tryz.prog 248 ⟨[(Ai,false),(AB,false)],[I],true,Aht N⟩:=
  have E:Env Tryz.prog ABy:=Ck tab trivial ⟨Ayl,trivial⟩ (fun _ h=>by cases h)
  Ar (body:=Ap Tryz.f248) (Pc:=[(0,⟨Arv,Atj,X3 N N⟩)]) E rfl mixed Tryz.func248 (by kernel_rfl) (by kernel_rfl) (by kernel_rfl) (by kernel_rfl) (fun A hA=>⟨AI (body:=At Tryz.f248 0) (inner:=[]) E mixed hA (by kernel_rfl) (by kernel_rfl) (by kernel_rfl) trivial (fun _=>rfl) (fun _ _=>by kernel_rfl) N,trivial⟩) (fun _=>by kernel_rfl)
theorem AEo:Aa Tryz.prog 248 Azy:=Aa.less (fun N:Nat=>Aht N) Akz VG
theorem Ajh (N:Nat):Aa Tryz.prog 214 ⟨[(Ai,false),(AB,false)],[.bool],true,Aiq N⟩:=
  have E:Env Tryz.prog AAn:=Av tab ⟨AEo,trivial⟩
  Ar (body:=Ap Tryz.f214) (Pc:=[]) E rfl mixed Tryz.func214 (by kernel_rfl) (by kernel_rfl) (by kernel_rfl) (by kernel_rfl) (fun A hA=>trivial) (fun _=>by kernel_rfl)
theorem AEw:Aa Tryz.prog 214 Azt:=Ajh 0
theorem Aah (N:Nat):Aa Tryz.prog 229 ⟨[(AA,false),(Ag,false),(I,false),(I,false),(EU,false)],[.bool],true,OO N⟩:=
  have E:Env Tryz.prog Awo:=Ck tab ⟨D1,⟨T9,⟨AEw,trivial⟩⟩⟩ trivial (fun _ h=>by cases h)
  Ar (body:=Ap Tryz.f229) (Pc:=[]) E rfl mixed Tryz.func229 (by kernel_rfl) (by kernel_rfl) (by kernel_rfl) (by kernel_rfl) (fun A hA=>trivial) (fun _=>by kernel_rfl)
theorem AC7:Aa Tryz.prog 229 Aua:=Aah 0
theorem Aao (N:Nat):Aa Tryz.prog 161 ⟨[(AU,false),(An,false)],[.bool],true,VS N⟩:=
  have E:Env Tryz.prog Av8:=Ck tab ⟨AEx,⟨Tx,⟨AC7,trivial⟩⟩⟩ trivial (fun _ h=>by cases h)
  Ar (body:=Ap Tryz.f161) (Pc:=[(0,⟨Alq,Ao9,SA N N⟩),(2,⟨Ak9,Ank,M8 N N⟩)]) E rfl mixed Tryz.func161 (by kernel_rfl) (by kernel_rfl) (by kernel_rfl) (by kernel_rfl) (fun A hA=>⟨AI (body:=At Tryz.f161 0) (inner:=[]) E mixed hA (by kernel_rfl) (by kernel_rfl) (by kernel_rfl) trivial (fun _=>rfl) (fun _ _=>by kernel_rfl) N,⟨AI (body:=At Tryz.f161 2) (inner:=[(4,⟨Ajb,Alz,M5 N N⟩)]) E mixed hA (by kernel_rfl) (by kernel_rfl) (by kernel_rfl) ⟨AI (body:=At Tryz.f161 4) (inner:=[(6,⟨Aob,Aog,M0 N N⟩)]) E mixed hA (by kernel_rfl) (by kernel_rfl) (by kernel_rfl) ⟨AI (body:=At Tryz.f161 6) (inner:=[]) E mixed hA (by kernel_rfl) (by kernel_rfl) (by kernel_rfl) trivial (fun _=>rfl) (fun _ _=>by kernel_rfl) N,trivial⟩ (fun _=>rfl) (fun _ _=>by kernel_rfl) N,trivial⟩ (fun _=>rfl) (fun _ _=>by kernel_rfl) N,trivial⟩⟩) (fun _=>by kernel_rfl)
theorem AAf:Aa Tryz.prog 161 Asb:=Aa.less (fun N:Nat=>VS N) Aao OM
theorem Aat (N:Nat):Aa Tryz.prog 74 ⟨[(Ae,false),(An,false)],[.bool,.bool],true,Po N⟩:=
  have E:Env Tryz.prog Avl:=Av tab ⟨OX,⟨AAf,⟨TW,trivial⟩⟩⟩
  Ar (body:=Ap Tryz.f74) (Pc:=[]) E rfl mixed Tryz.func74 (by kernel_rfl) (by kernel_rfl) (by kernel_rfl) (by kernel_rfl) (fun A hA=>trivial) (fun _=>by kernel_rfl)
theorem AAc:Aa Tryz.prog 74 Auo:=Aat 0
theorem Yl (N:Nat):Aa Tryz.prog 164 ⟨[(Ae,false),(An,false)],[.bool],true,R3 N⟩:=
  have E:Env Tryz.prog Ap8:=Av tab trivial
  Ar (body:=Ap Tryz.f164) (Pc:=[(0,⟨Abv,Aga,MT N N⟩)]) E rfl mixed Tryz.func164 (by kernel_rfl) (by kernel_rfl) (by kernel_rfl) (by kernel_rfl) (fun A hA=>⟨AI (body:=At Tryz.f164 0) (inner:=[(2,⟨Abi,Ae5,JP N N⟩)]) E mixed hA (by kernel_rfl) (by kernel_rfl) (by kernel_rfl) ⟨AI (body:=At Tryz.f164 2) (inner:=[(4,⟨Abz,Aeq,Kq N N⟩)]) E mixed hA (by kernel_rfl) (by kernel_rfl) (by kernel_rfl) ⟨AI (body:=At Tryz.f164 4) (inner:=[]) E mixed hA (by kernel_rfl) (by kernel_rfl) (by kernel_rfl) trivial (fun _=>rfl) (fun _ _=>by kernel_rfl) N,trivial⟩ (fun _=>rfl) (fun _ _=>by kernel_rfl) N,trivial⟩ (fun _=>rfl) (fun _ _=>by kernel_rfl) N,trivial⟩) (fun _=>by kernel_rfl)
theorem Ax0:Aa Tryz.prog 164 Aik:=Aa.less (fun N:Nat=>R3 N) Yl ZZ
theorem Acu (N:Nat):Aa Tryz.prog 166 ⟨[(An,false),(An,false),(I,false),(I,false),(I,false)],[.bool],true,XB N⟩:=
  have E:Env Tryz.prog Axm:=Av tab ⟨DX,⟨Ads,trivial⟩⟩
  Ar (body:=Ap Tryz.f166) (Pc:=[(0,⟨Akp,Amv,RZ N N⟩)]) E rfl mixed Tryz.func166 (by kernel_rfl) (by kernel_rfl) (by kernel_rfl) (by kernel_rfl) (fun A hA=>⟨AI (body:=At Tryz.f166 0) (inner:=[]) E mixed hA (by kernel_rfl) (by kernel_rfl) (by kernel_rfl) trivial (fun _=>rfl) (fun _ _=>by kernel_rfl) N,trivial⟩) (fun _=>by kernel_rfl)
theorem ADo:Aa Tryz.prog 166 Apn:=Aa.less (fun N:Nat=>XB N) Acu UP
theorem Ad2 (N:Nat):Aa Tryz.prog 75 ⟨[(Ae,false),(An,false)],[.bool,.bool],true,V2 N⟩:=
  have E:Env Tryz.prog Awa:=Av tab ⟨Xo,⟨Ax0,⟨Aee,⟨ADo,trivial⟩⟩⟩⟩
  Ar (body:=Ap Tryz.f75) (Pc:=[(0,⟨Aox,Ak4,Sy N N⟩)]) E rfl mixed Tryz.func75 (by kernel_rfl) (by kernel_rfl) (by kernel_rfl) (by kernel_rfl) (fun A hA=>⟨AI (body:=At Tryz.f75 0) (inner:=[(2,⟨Aj3,Ak7,NG N N⟩)]) E mixed hA (by kernel_rfl) (by kernel_rfl) (by kernel_rfl) ⟨AI (body:=At Tryz.f75 2) (inner:=[(4,⟨Aj5,Al0,NT N N⟩)]) E mixed hA (by kernel_rfl) (by kernel_rfl) (by kernel_rfl) ⟨AI (body:=At Tryz.f75 4) (inner:=[]) E mixed hA (by kernel_rfl) (by kernel_rfl) (by kernel_rfl) trivial (fun _=>rfl) (fun _ _=>by kernel_rfl) N,trivial⟩ (fun _=>rfl) (fun _ _=>by kernel_rfl) N,trivial⟩ (fun _=>rfl) (fun _ _=>by kernel_rfl) N,trivial⟩) (fun _=>by kernel_rfl)
theorem ADe:Aa Tryz.prog 75 Ar2:=Aa.less (fun N:Nat=>V2 N) Ad2 Ac3
theorem Abq (N:Nat):Aa Tryz.prog 233 ⟨[(I,false)],[.bool],true,VU N⟩:=
  have E:Env Tryz.prog Aye:=Av tab trivial
  Ar (body:=Ap Tryz.f233) (Pc:=[]) E rfl mixed Tryz.func233 (by kernel_rfl) (by kernel_rfl) (by kernel_rfl) (by kernel_rfl) (fun A hA=>trivial) (fun _=>by kernel_rfl)
theorem AC8:Aa Tryz.prog 233 AC6:=Aa.less (fun N:Nat=>VU N) Abq (fun d r h=>⟨0,(Aak 0 d).trans h⟩)
theorem Avn:Bs Tryz.prog Aim:=Uu AC8
theorem Ae3 (N:Nat):Aa Tryz.prog 255 ⟨[(I,false),(Pv,false),(KU,false),(QH,false),(IX,false)],[.bool],true,XV N⟩:=
  have E:Env Tryz.prog Ayu:=Ck tab ⟨VM,trivial⟩ ⟨Avn,trivial⟩ (Ahc (by kernel_rfl))
  Ar (body:=Ap Tryz.f255) (Pc:=[]) E rfl mixed Tryz.func255 (by kernel_rfl) (by kernel_rfl) (by kernel_rfl) (by kernel_rfl) (fun A hA=>trivial) (fun _=>by kernel_rfl)
theorem AAs:Aa Tryz.prog 255 ACb:=Ae3 0
theorem Awr:Bs Tryz.prog Ag0:=SP AAs
theorem Aj6 (N:Nat):Aa Tryz.prog 248 ⟨[(Ai,false),(AC,false)],[I],true,Ah2 N⟩:=
  have E:Env Tryz.prog AA9:=Ck tab trivial ⟨Awr,trivial⟩ (fun _ h=>by cases h)
  Ar (body:=Ap Tryz.f248) (Pc:=[(0,⟨Aux,Aqx,X1 N N⟩)]) E rfl mixed Tryz.func248 (by kernel_rfl) (by kernel_rfl) (by kernel_rfl) (by kernel_rfl) (fun A hA=>⟨AI (body:=At Tryz.f248 0) (inner:=[]) E mixed hA (by kernel_rfl) (by kernel_rfl) (by kernel_rfl) trivial (fun _=>rfl) (fun _ _=>by kernel_rfl) N,trivial⟩) (fun _=>by kernel_rfl)
theorem AFb:Aa Tryz.prog 248 Azv:=Aa.less (fun N:Nat=>Ah2 N) Aj6 Zk
theorem Amw (N:Nat):Aa Tryz.prog 214 ⟨[(Ai,false),(AC,false)],[.bool],true,Aib N⟩:=
  have E:Env Tryz.prog ADj:=Av tab ⟨AFb,trivial⟩
  Ar (body:=Ap Tryz.f214) (Pc:=[]) E rfl mixed Tryz.func214 (by kernel_rfl) (by kernel_rfl) (by kernel_rfl) (by kernel_rfl) (fun A hA=>trivial) (fun _=>by kernel_rfl)
theorem AE8:Aa Tryz.prog 214 Azq:=Amw 0
theorem Aav (N:Nat):Aa Tryz.prog 229 ⟨[(AA,false),(Ag,false),(I,false),(I,false),(Hg,false)],[.bool],true,TQ N⟩:=
  have E:Env Tryz.prog Ay0:=Ck tab ⟨D1,⟨T9,⟨AE8,trivial⟩⟩⟩ trivial (fun _ h=>by cases h)
  Ar (body:=Ap Tryz.f229) (Pc:=[]) E rfl mixed Tryz.func229 (by kernel_rfl) (by kernel_rfl) (by kernel_rfl) (by kernel_rfl) (fun A hA=>trivial) (fun _=>by kernel_rfl)
theorem ADa:Aa Tryz.prog 229 Aut:=Aav 0
theorem Aej (N:Nat):Aa Tryz.prog 170 ⟨[(AU,false)],[An],true,W4 N⟩:=
  have E:Env Tryz.prog Avc:=Av tab ⟨Tx,⟨Arf,⟨ADa,trivial⟩⟩⟩
  Ar (body:=Ap Tryz.f170) (Pc:=[(0,⟨Aoh,Ajv,NK N N⟩),(4,⟨Al5,Ajk,NR N N⟩)]) E rfl mixed Tryz.func170 (by kernel_rfl) (by kernel_rfl) (by kernel_rfl) (by kernel_rfl) (fun A hA=>⟨AI (body:=At Tryz.f170 0) (inner:=[(2,⟨Akh,Am3,NA N N⟩)]) E mixed hA (by kernel_rfl) (by kernel_rfl) (by kernel_rfl) ⟨AI (body:=At Tryz.f170 2) (inner:=[]) E mixed hA (by kernel_rfl) (by kernel_rfl) (by kernel_rfl) trivial (fun _=>rfl) (fun _ _=>by kernel_rfl) N,trivial⟩ (fun _=>rfl) (fun _ _=>by kernel_rfl) N,⟨AI (body:=At Tryz.f170 4) (inner:=[(6,⟨Aph,Ano,Nv N N⟩),(12,⟨Aal,Af0,Kf N N⟩)]) E mixed hA (by kernel_rfl) (by kernel_rfl) (by kernel_rfl) ⟨AI (body:=At Tryz.f170 6) (inner:=[(8,⟨Am0,Aj8,Nw N N⟩)]) E mixed hA (by kernel_rfl) (by kernel_rfl) (by kernel_rfl) ⟨AI (body:=At Tryz.f170 8) (inner:=[(10,⟨Adc,Ab2,Ku N N⟩)]) E mixed hA (by kernel_rfl) (by kernel_rfl) (by kernel_rfl) ⟨AI (body:=At Tryz.f170 10) (inner:=[]) E mixed hA (by kernel_rfl) (by kernel_rfl) (by kernel_rfl) trivial (fun _=>rfl) (fun _ _=>by kernel_rfl) N,trivial⟩ (fun _=>rfl) (fun _ _=>by kernel_rfl) N,trivial⟩ (fun _=>rfl) (fun _ _=>by kernel_rfl) N,⟨AI (body:=At Tryz.f170 12) (inner:=[]) E mixed hA (by kernel_rfl) (by kernel_rfl) (by kernel_rfl) trivial (fun _=>rfl) (fun _ _=>by kernel_rfl) N,trivial⟩⟩ (fun _=>rfl) (fun _ _=>by kernel_rfl) N,trivial⟩⟩) (fun _=>by kernel_rfl)
theorem Ae1:Aa Tryz.prog 170 XS:=Aa.less (fun N:Nat=>W4 N) Aej Uo
theorem Ab8 (N:Nat):Aa Tryz.prog 77 ⟨[(Ae,false)],[An,.bool],true,IH N⟩:=
  have E:Env Tryz.prog Aw0:=Av tab ⟨OX,⟨TW,⟨Ae1,trivial⟩⟩⟩
  Ar (body:=Ap Tryz.f77) (Pc:=[]) E rfl mixed Tryz.func77 (by kernel_rfl) (by kernel_rfl) (by kernel_rfl) (by kernel_rfl) (fun A hA=>trivial) (fun _=>by kernel_rfl)
theorem AA0:Aa Tryz.prog 77 Au1:=Ab8 0
theorem QT (N:Nat):Aa Tryz.prog 38 ⟨[(Ai,false),(Ai,false)],[.bool],true,Gv N⟩:=
  have E:Env Tryz.prog UM:=Av tab trivial
  Ar (body:=Ap Tryz.f38) (Pc:=[(0,⟨Rp,Rn,DC N N⟩)]) E rfl mixed Tryz.func38 (by kernel_rfl) (by kernel_rfl) (by kernel_rfl) (by kernel_rfl) (fun A hA=>⟨AI (body:=At Tryz.f38 0) (inner:=[]) E mixed hA (by kernel_rfl) (by kernel_rfl) (by kernel_rfl) trivial (fun _=>rfl) (fun _ _=>by kernel_rfl) N,trivial⟩) (fun _=>by kernel_rfl)
theorem Wa:Aa Tryz.prog 38 NL:=Aa.less (fun N:Nat=>Gv N) QT Amf
theorem Z1 (N:Nat):Aa Tryz.prog 43 ⟨[(Ag,false),(Ag,false)],[.bool],true,Sc N⟩:=
  have E:Env Tryz.prog Auz:=Av tab ⟨Wa,trivial⟩
  Ar (body:=Ap Tryz.f43) (Pc:=[(0,⟨Af1,Aen,HP N N⟩)]) E rfl mixed Tryz.func43 (by kernel_rfl) (by kernel_rfl) (by kernel_rfl) (by kernel_rfl) (fun A hA=>⟨AI (body:=At Tryz.f43 0) (inner:=[]) E mixed hA (by kernel_rfl) (by kernel_rfl) (by kernel_rfl) trivial (fun _=>rfl) (fun _ _=>by kernel_rfl) N,trivial⟩) (fun _=>by kernel_rfl)
theorem Ahz:Aa Tryz.prog 43 X4:=Aa.less (fun N:Nat=>Sc N) Z1 Aby
theorem On (N:Nat):Aa Tryz.prog 79 ⟨[(An,false),(An,false)],[.bool],true,Gk N⟩:=
  have E:Env Tryz.prog UG:=Av tab ⟨Ahz,trivial⟩
  Ar (body:=Ap Tryz.f79) (Pc:=[(0,⟨Rx,Ry,Dy N N⟩)]) E rfl mixed Tryz.func79 (by kernel_rfl) (by kernel_rfl) (by kernel_rfl) (by kernel_rfl) (fun A hA=>⟨AI (body:=At Tryz.f79 0) (inner:=[]) E mixed hA (by kernel_rfl) (by kernel_rfl) (by kernel_rfl) trivial (fun _=>rfl) (fun _ _=>by kernel_rfl) N,trivial⟩) (fun _=>by kernel_rfl)
theorem XH:Aa Tryz.prog 79 Nn:=Aa.less (fun N:Nat=>Gk N) On And
theorem Aan (N:Nat):Aa Tryz.prog 172 ⟨[(Cc,false)],[Cc],true,WY N⟩:=
  have E:Env Tryz.prog Av2:=Av tab trivial
  Ar (body:=Ap Tryz.f172) (Pc:=[]) E rfl mixed Tryz.func172 (by kernel_rfl) (by kernel_rfl) (by kernel_rfl) (by kernel_rfl) (fun A hA=>trivial) (fun _=>by kernel_rfl)
theorem AA2:Aa Tryz.prog 172 Arm:=Aa.less (fun N:Nat=>WY N) Aan YK
theorem Abn (N:Nat):Aa Tryz.prog 80 ⟨[(Aj,false)],[Ae,.bool],true,XP N⟩:=
  have E:Env Tryz.prog Ave:=Av tab ⟨Sb,⟨AA2,trivial⟩⟩
  Ar (body:=Ap Tryz.f80) (Pc:=[(0,⟨Alf,Ako,Jb N N⟩)]) E rfl mixed Tryz.func80 (by kernel_rfl) (by kernel_rfl) (by kernel_rfl) (by kernel_rfl) (fun A hA=>⟨AI (body:=At Tryz.f80 0) (inner:=[]) E mixed hA (by kernel_rfl) (by kernel_rfl) (by kernel_rfl) trivial (fun _=>rfl) (fun _ _=>by kernel_rfl) N,trivial⟩) (fun _=>by kernel_rfl)
theorem ABw:Aa Tryz.prog 80 Atf:=Aa.less (fun N:Nat=>XP N) Abn Ul
theorem Afm (N:Nat):Aa Tryz.prog 94 ⟨[(Aj,false),(I,false)],[.bool],true,SL N⟩:=
  have E:Env Tryz.prog Aw9:=Av tab ⟨Sb,⟨Ni,trivial⟩⟩
  Ar (body:=Ap Tryz.f94) (Pc:=[]) E rfl mixed Tryz.func94 (by kernel_rfl) (by kernel_rfl) (by kernel_rfl) (by kernel_rfl) (fun A hA=>trivial) (fun _=>by kernel_rfl)
theorem ABb:Aa Tryz.prog 94 Arz:=Afm 0
theorem Afo (N:Nat):Aa Tryz.prog 146 ⟨[(Ai,false)],[Ai],true,Xj N⟩:=
  have E:Env Tryz.prog Avh:=Av tab trivial
  Ar (body:=Ap Tryz.f146) (Pc:=[]) E rfl mixed Tryz.func146 (by kernel_rfl) (by kernel_rfl) (by kernel_rfl) (by kernel_rfl) (fun A hA=>trivial) (fun _=>by kernel_rfl)
theorem Aq6:Aa Tryz.prog 146 Adl:=Aa.less (fun N:Nat=>Xj N) Afo Af9
theorem Afj (N:Nat):Aa Tryz.prog 158 ⟨[(I,false),(I,false)],[Ag],true,XO N⟩:=
  have E:Env Tryz.prog Awl:=Ck tab ⟨Aq6,trivial⟩ trivial (fun _ h=>by cases h)
  Ar (body:=Ap Tryz.f158) (Pc:=[(0,⟨Anj,Aiy,R8 N N⟩)]) E rfl mixed Tryz.func158 (by kernel_rfl) (by kernel_rfl) (by kernel_rfl) (by kernel_rfl) (fun A hA=>⟨AI (body:=At Tryz.f158 0) (inner:=[(2,⟨Ajx,Ajc,RQ N N⟩)]) E mixed hA (by kernel_rfl) (by kernel_rfl) (by kernel_rfl) ⟨AI (body:=At Tryz.f158 2) (inner:=[(4,⟨Ajp,Anr,MS N N⟩)]) E mixed hA (by kernel_rfl) (by kernel_rfl) (by kernel_rfl) ⟨AI (body:=At Tryz.f158 4) (inner:=[]) E mixed hA (by kernel_rfl) (by kernel_rfl) (by kernel_rfl) trivial (fun _=>rfl) (fun _ _=>by kernel_rfl) N,trivial⟩ (fun _=>rfl) (fun _ _=>by kernel_rfl) N,trivial⟩ (fun _=>rfl) (fun _ _=>by kernel_rfl) N,trivial⟩) (fun _=>by kernel_rfl)
theorem AAl:Aa Tryz.prog 158 Ap5:=Aa.less (fun N:Nat=>XO N) Afj Xy
theorem AFd:A4 Tryz.prog 223 (Azx,{ gone:=[0],deep:=[] }):=WN (enters_of Tryz.func223 (by kernel_rfl) rfl) (fun w v1 v2 xs ys h1 h2 l1 l2=>eqH h1 h2 l1 l2) Aly Ru
theorem Adx (N:Nat):Aa Tryz.prog 153 ⟨[(AA,false),(Ai,false)],[Ag],true,Wy N⟩:=
  have E:Env Tryz.prog Avj:=G5 tab ⟨D1,⟨T9,⟨Aq6,⟨ABh,⟨AE3,trivial⟩⟩⟩⟩⟩ trivial (fun _ h=>by cases h) ⟨AFd,trivial⟩ (by kernel_rfl)
  Ar (body:=Ap Tryz.f153) (Pc:=[(0,⟨Aof,Aod,Ss N N⟩),(6,⟨Akx,Ake,Sm N N⟩)]) E rfl mixed Tryz.func153 (by kernel_rfl) (by kernel_rfl) (by kernel_rfl) (by kernel_rfl) (fun A hA=>⟨AI (body:=At Tryz.f153 0) (inner:=[(2,⟨Ajs,Aoz,Sq N N⟩)]) E mixed hA (by kernel_rfl) (by kernel_rfl) (by kernel_rfl) ⟨AI (body:=At Tryz.f153 2) (inner:=[(4,⟨Apg,Ame,SB N N⟩)]) E mixed hA (by kernel_rfl) (by kernel_rfl) (by kernel_rfl) ⟨AI (body:=At Tryz.f153 4) (inner:=[]) E mixed hA (by kernel_rfl) (by kernel_rfl) (by kernel_rfl) trivial (fun _=>rfl) (fun _ _=>by kernel_rfl) N,trivial⟩ (fun _=>rfl) (fun _ _=>by kernel_rfl) N,trivial⟩ (fun _=>rfl) (fun _ _=>by kernel_rfl) N,⟨AI (body:=At Tryz.f153 6) (inner:=[]) E mixed hA (by kernel_rfl) (by kernel_rfl) (by kernel_rfl) trivial (fun _=>rfl) (fun _ _=>by kernel_rfl) N,trivial⟩⟩) (fun _=>by kernel_rfl)
theorem Az5:Aa Tryz.prog 153 Ap7:=Aa.less (fun N:Nat=>Wy N) Adx Ta
theorem Ax3:Bs Tryz.prog Air:=Adh Aur
theorem An5 (N:Nat):Aa Tryz.prog 219 ⟨[(Ag,false),(Ai,false),(EG,false)],[I,.bool],true,Aii N⟩:=
  have E:Env Tryz.prog Az7:=Ck tab trivial ⟨Ax3,trivial⟩ (fun _ h=>by cases h)
  Ar (body:=Ap Tryz.f219) (Pc:=[(0,⟨Asn,Ate,WG N N⟩)]) E rfl mixed Tryz.func219 (by kernel_rfl) (by kernel_rfl) (by kernel_rfl) (by kernel_rfl) (fun A hA=>⟨AI (body:=At Tryz.f219 0) (inner:=[]) E mixed hA (by kernel_rfl) (by kernel_rfl) (by kernel_rfl) trivial (fun _=>rfl) (fun _ _=>by kernel_rfl) N,trivial⟩) (fun _=>by kernel_rfl)
theorem AD8:Aa Tryz.prog 219 Azn:=Aa.less (fun N:Nat=>Aii N) An5 Uz
theorem Abk (N:Nat):Aa Tryz.prog 144 ⟨[(Bg,false),(Ai,false)],[I],true,S8 N⟩:=
  have E:Env Tryz.prog Au9:=Av tab ⟨AD8,trivial⟩
  Ar (body:=Ap Tryz.f144) (Pc:=[]) E rfl mixed Tryz.func144 (by kernel_rfl) (by kernel_rfl) (by kernel_rfl) (by kernel_rfl) (fun A hA=>trivial) (fun _=>by kernel_rfl)
theorem AA1:Aa Tryz.prog 144 Atw:=Abk 0
theorem Aar (N:Nat):A4 Tryz.prog 96 (⟨[(AA,false),(I,false)],[Bg],true,Xl N⟩,md0):=
  have E:Env Tryz.prog Awd:=Av tab ⟨AA1,⟨Az5,⟨AAl,⟨Tx,trivial⟩⟩⟩⟩
  RU (body:=Ap Tryz.f96) (Pc:=[(0,⟨Akd,Aoe,SI N N⟩)]) E mixed Tryz.func96 (by kernel_rfl) (by kernel_rfl) (by kernel_rfl) (by kernel_rfl) (fun A hA=>⟨AI (body:=At Tryz.f96 0) (inner:=[(2,⟨An6,Aoj,R1 N N⟩)]) E mixed hA (by kernel_rfl) (by kernel_rfl) (by kernel_rfl) ⟨AI (body:=At Tryz.f96 2) (inner:=[]) E mixed hA (by kernel_rfl) (by kernel_rfl) (by kernel_rfl) trivial (fun _=>rfl) (fun _ _=>by kernel_rfl) N,trivial⟩ (fun _=>rfl) (fun _ _=>by kernel_rfl) N,trivial⟩) (fun _=>by kernel_rfl)
theorem AC1:A4 Tryz.prog 96 (Asj,md0):=A4.less (fun N:Nat=>Xl N) Aar Xe
theorem Acp (N:Nat):Aa Tryz.prog 243 ⟨[(I,false),(Ec,false),(Pv,false)],[.bool],true,Xp N⟩:=
  have E:Env Tryz.prog Avg:=Ck tab ⟨Aam,⟨VM,trivial⟩⟩ trivial (Ahc (by kernel_rfl))
  Ar (body:=Ap Tryz.f243) (Pc:=[]) E rfl mixed Tryz.func243 (by kernel_rfl) (by kernel_rfl) (by kernel_rfl) (by kernel_rfl) (fun A hA=>trivial) (fun _=>by kernel_rfl)
theorem ACm:Aa Tryz.prog 243 ADg:=Acp 0
theorem Avw:Bs Tryz.prog Ail:=Agf ACm
theorem Afn (N:Nat):Aa Tryz.prog 248 ⟨[(Ai,false),(A3,false)],[I],true,V4 N⟩:=
  have E:Env Tryz.prog Axf:=Ck tab trivial ⟨Avw,trivial⟩ (fun _ h=>by cases h)
  Ar (body:=Ap Tryz.f248) (Pc:=[(0,⟨An1,Api,SC N N⟩)]) E rfl mixed Tryz.func248 (by kernel_rfl) (by kernel_rfl) (by kernel_rfl) (by kernel_rfl) (fun A hA=>⟨AI (body:=At Tryz.f248 0) (inner:=[]) E mixed hA (by kernel_rfl) (by kernel_rfl) (by kernel_rfl) trivial (fun _=>rfl) (fun _ _=>by kernel_rfl) N,trivial⟩) (fun _=>by kernel_rfl)
theorem AAa:Aa Tryz.prog 248 Aq9:=Aa.less (fun N:Nat=>V4 N) Afn Zg
theorem Agi (N:Nat):Aa Tryz.prog 214 ⟨[(Ai,false),(A3,false)],[.bool],true,VY N⟩:=
  have E:Env Tryz.prog Avp:=Av tab ⟨AAa,trivial⟩
  Ar (body:=Ap Tryz.f214) (Pc:=[]) E rfl mixed Tryz.func214 (by kernel_rfl) (by kernel_rfl) (by kernel_rfl) (by kernel_rfl) (fun A hA=>trivial) (fun _=>by kernel_rfl)
theorem ABx:Aa Tryz.prog 214 Aub:=Agi 0
theorem Afu (N:Nat):Aa Tryz.prog 192 ⟨[(Bg,false),(I,false),(I,false)],[.bool],true,T8 N⟩:=
  have E:Env Tryz.prog Avy:=Ck tab ⟨ABx,trivial⟩ trivial (Ahc (by kernel_rfl))
  Ar (body:=Ap Tryz.f192) (Pc:=[]) E rfl mixed Tryz.func192 (by kernel_rfl) (by kernel_rfl) (by kernel_rfl) (by kernel_rfl) (fun A hA=>trivial) (fun _=>by kernel_rfl)
theorem AC0:Aa Tryz.prog 192 Ary:=Afu 0
theorem Ad9 (N:Nat):A4 Tryz.prog 103 (⟨[(AA,false),(I,false)],[Bg],true,XJ N⟩,md0):=
  have E:Env Tryz.prog Awt:=G5 tab ⟨Tx,⟨Arf,⟨AC0,trivial⟩⟩⟩ trivial (fun _ h=>by cases h) ⟨AC1,trivial⟩ (by kernel_rfl)
  RU (body:=Ap Tryz.f103) (Pc:=[(0,⟨Aj2,Aor,SE N N⟩),(4,⟨Ann,Ai8,Sw N N⟩)]) E mixed Tryz.func103 (by kernel_rfl) (by kernel_rfl) (by kernel_rfl) (by kernel_rfl) (fun A hA=>⟨AI (body:=At Tryz.f103 0) (inner:=[(2,⟨Aop,Aln,R0 N N⟩)]) E mixed hA (by kernel_rfl) (by kernel_rfl) (by kernel_rfl) ⟨AI (body:=At Tryz.f103 2) (inner:=[]) E mixed hA (by kernel_rfl) (by kernel_rfl) (by kernel_rfl) trivial (fun _=>rfl) (fun _ _=>by kernel_rfl) N,trivial⟩ (fun _=>rfl) (fun _ _=>by kernel_rfl) N,⟨AI (body:=At Tryz.f103 4) (inner:=[(6,⟨Am9,Aok,R7 N N⟩),(10,⟨Acs,Aes,MU N N⟩)]) E mixed hA (by kernel_rfl) (by kernel_rfl) (by kernel_rfl) ⟨AI (body:=At Tryz.f103 6) (inner:=[(8,⟨Anv,Ani,RR N N⟩)]) E mixed hA (by kernel_rfl) (by kernel_rfl) (by kernel_rfl) ⟨AI (body:=At Tryz.f103 8) (inner:=[]) E mixed hA (by kernel_rfl) (by kernel_rfl) (by kernel_rfl) trivial (fun _=>rfl) (fun _ _=>by kernel_rfl) N,trivial⟩ (fun _=>rfl) (fun _ _=>by kernel_rfl) N,⟨AI (body:=At Tryz.f103 10) (inner:=[]) E mixed hA (by kernel_rfl) (by kernel_rfl) (by kernel_rfl) trivial (fun _=>rfl) (fun _ _=>by kernel_rfl) N,trivial⟩⟩ (fun _=>rfl) (fun _ _=>by kernel_rfl) N,trivial⟩⟩) (fun _=>by kernel_rfl)
theorem ABj:A4 Tryz.prog 103 (Asw,md0):=A4.less (fun N:Nat=>XJ N) Ad9 ZL
theorem Ae0 (N:Nat):Aa Tryz.prog 30 ⟨[(Aj,false),(I,false)],[Ag,.bool],true,OP N⟩:=
  have E:Env Tryz.prog Ayk:=G5 tab ⟨ABb,⟨IR,trivial⟩⟩ trivial (fun _ h=>by cases h) ⟨ABj,trivial⟩ (by kernel_rfl)
  Ar (body:=Ap Tryz.f30) (Pc:=[]) E rfl mixed Tryz.func30 (by kernel_rfl) (by kernel_rfl) (by kernel_rfl) (by kernel_rfl) (fun A hA=>trivial) (fun _=>by kernel_rfl)
theorem ADp:Aa Tryz.prog 30 Aum:=Ae0 0
theorem Ad6 (N:Nat):Aa Tryz.prog 177 ⟨[(AX,true)],[I],true,Pk N⟩:=
  have E:Env Tryz.prog Awe:=Av tab ⟨QE,trivial⟩
  Ar (body:=Ap Tryz.f177) (Pc:=[]) E rfl mixed Tryz.func177 (by kernel_rfl) (by kernel_rfl) (by kernel_rfl) (by kernel_rfl) (fun A hA=>trivial) (fun _=>by kernel_rfl)
theorem Att:Aa Tryz.prog 177 Ada:=Ad6 0
theorem Abh (N:Nat):Aa Tryz.prog 173 ⟨[(K_Su8,false)],[Ae,I],false,T5 N⟩:=
  have E:Env Tryz.prog Awq:=Av tab ⟨Afd,⟨Att,trivial⟩⟩
  Ar (body:=Ap Tryz.f173) (Pc:=[]) E rfl mixed Tryz.func173 (by kernel_rfl) (by kernel_rfl) (by kernel_rfl) (by kernel_rfl) (fun A hA=>trivial) (fun _=>by kernel_rfl)
theorem ABa:Aa Tryz.prog 173 Ar7:=Abh 0
theorem Aef (N:Nat):Aa Tryz.prog 81 ⟨[(K_Su8,false)],[Ae,I],false,IZ N⟩:=
  have E:Env Tryz.prog Awi:=Av tab ⟨ABa,trivial⟩
  Ar (body:=Ap Tryz.f81) (Pc:=[]) E rfl mixed Tryz.func81 (by kernel_rfl) (by kernel_rfl) (by kernel_rfl) (by kernel_rfl) (fun A hA=>trivial) (fun _=>by kernel_rfl)
theorem ABk:Aa Tryz.prog 81 Aqu:=Aef 0
theorem Ad5 (N:Nat):Aa Tryz.prog 174 ⟨[(I,false)],[.bool],true,Wj N⟩:=
  have E:Env Tryz.prog Axd:=Av tab ⟨Ni,trivial⟩
  Ar (body:=Ap Tryz.f174) (Pc:=[]) E rfl mixed Tryz.func174 (by kernel_rfl) (by kernel_rfl) (by kernel_rfl) (by kernel_rfl) (fun A hA=>trivial) (fun _=>by kernel_rfl)
theorem Acy:Aa Tryz.prog 174 Xm:=Aa.less (fun N:Nat=>Wj N) Ad5 (fun d r h=>⟨0,(Aez 0 d).trans h⟩)
theorem Ae9 (N:Nat):Aa Tryz.prog 175 ⟨[(Ai,false)],[I],true,XZ N⟩:=
  have E:Env Tryz.prog Aw4:=Av tab trivial
  Ar (body:=Ap Tryz.f175) (Pc:=[(0,⟨Al7,Ana,Lg N N⟩)]) E rfl mixed Tryz.func175 (by kernel_rfl) (by kernel_rfl) (by kernel_rfl) (by kernel_rfl) (fun A hA=>⟨AI (body:=At Tryz.f175 0) (inner:=[]) E mixed hA (by kernel_rfl) (by kernel_rfl) (by kernel_rfl) trivial (fun _=>rfl) (fun _ _=>by kernel_rfl) N,trivial⟩) (fun _=>by kernel_rfl)
theorem AAp:Aa Tryz.prog 175 Ard:=Aa.less (fun N:Nat=>XZ N) Ae9 Axe
theorem Agg (N:Nat):Aa Tryz.prog 82 ⟨[(Ae,false),(I,false)],[I,I,.bool],true,Xx N⟩:=
  have E:Env Tryz.prog Ax4:=Ck tab ⟨OX,⟨Aam,⟨TW,⟨Ae1,⟨Acy,⟨AAp,trivial⟩⟩⟩⟩⟩⟩ trivial (fun _ h=>by cases h)
  Ar (body:=Ap Tryz.f82) (Pc:=[(0,⟨Ak2,Akg,II N N⟩)]) E rfl mixed Tryz.func82 (by kernel_rfl) (by kernel_rfl) (by kernel_rfl) (by kernel_rfl) (fun A hA=>⟨AI (body:=At Tryz.f82 0) (inner:=[]) E mixed hA (by kernel_rfl) (by kernel_rfl) (by kernel_rfl) trivial (fun _=>rfl) (fun _ _=>by kernel_rfl) N,trivial⟩) (fun _=>by kernel_rfl)
theorem AAi:Aa Tryz.prog 82 As6:=Aa.less (fun N:Nat=>Xx N) Agg Z9
theorem Afk (N:Nat):Aa Tryz.prog 176 ⟨[(I,false)],[.bool],true,Wn N⟩:=
  have E:Env Tryz.prog Ay2:=Av tab ⟨DX,trivial⟩
  Ar (body:=Ap Tryz.f176) (Pc:=[]) E rfl mixed Tryz.func176 (by kernel_rfl) (by kernel_rfl) (by kernel_rfl) (by kernel_rfl) (fun A hA=>trivial) (fun _=>by kernel_rfl)
theorem Aud:Aa Tryz.prog 176 Ab9:=Aa.less (fun N:Nat=>Wn N) Afk (fun d r h=>⟨0,(Agn 0 d).trans h⟩)
theorem Aco (N:Nat):Aa Tryz.prog 137 ⟨[(Ai,false)],[I],true,Xw N⟩:=
  have E:Env Tryz.prog Axr:=Av tab ⟨Wf,trivial⟩
  Ar (body:=Ap Tryz.f137) (Pc:=[(0,⟨Akc,Alx,Gg N N⟩)]) E rfl mixed Tryz.func137 (by kernel_rfl) (by kernel_rfl) (by kernel_rfl) (by kernel_rfl) (fun A hA=>⟨AI (body:=At Tryz.f137 0) (inner:=[]) E mixed hA (by kernel_rfl) (by kernel_rfl) (by kernel_rfl) trivial (fun _=>rfl) (fun _ _=>by kernel_rfl) N,trivial⟩) (fun _=>by kernel_rfl)
theorem ACw:Aa Tryz.prog 137 As2:=Aa.less (fun N:Nat=>Xw N) Aco Y8
theorem Aag (N:Nat):Aa Tryz.prog 83 ⟨[(Ae,false),(I,false)],[I,I,.bool],true,XA N⟩:=
  have E:Env Tryz.prog Ay6:=Ck tab ⟨ACw,⟨Xo,⟨Ab4,⟨Aud,trivial⟩⟩⟩⟩ trivial (fun _ h=>by cases h)
  Ar (body:=Ap Tryz.f83) (Pc:=[(0,⟨Anl,An3,KA N N⟩)]) E rfl mixed Tryz.func83 (by kernel_rfl) (by kernel_rfl) (by kernel_rfl) (by kernel_rfl) (fun A hA=>⟨AI (body:=At Tryz.f83 0) (inner:=[]) E mixed hA (by kernel_rfl) (by kernel_rfl) (by kernel_rfl) trivial (fun _=>rfl) (fun _ _=>by kernel_rfl) N,trivial⟩) (fun _=>by kernel_rfl)
theorem ADd:Aa Tryz.prog 83 Are:=Aa.less (fun N:Nat=>XA N) Aag ZJ
theorem Ach (N:Nat):Aa Tryz.prog 93 ⟨[(AX,true),(Aj,false)],[I],true,OQ N⟩:=
  have E:Env Tryz.prog Axl:=Av tab ⟨Adf,⟨Mq,⟨QE,trivial⟩⟩⟩
  Ar (body:=Ap Tryz.f93) (Pc:=[]) E rfl mixed Tryz.func93 (by kernel_rfl) (by kernel_rfl) (by kernel_rfl) (by kernel_rfl) (fun A hA=>trivial) (fun _=>by kernel_rfl)
theorem AAm:Aa Tryz.prog 93 Aqt:=Ach 0
theorem Ac1 (N:Nat):Aa Tryz.prog 84 ⟨[(K_Su8,false)],[Ae,I,I,I],false,IQ N⟩:=
  have E:Env Tryz.prog Awg:=Av tab ⟨AAm,⟨Afd,⟨Att,trivial⟩⟩⟩
  Ar (body:=Ap Tryz.f84) (Pc:=[]) E rfl mixed Tryz.func84 (by kernel_rfl) (by kernel_rfl) (by kernel_rfl) (by kernel_rfl) (fun A hA=>trivial) (fun _=>by kernel_rfl)
theorem AAo:Aa Tryz.prog 84 At3:=Ac1 0
theorem Ab1 (N:Nat):Aa Tryz.prog 178 ⟨[(Ae,false),(I,false),(Ai,false)],[.bool],true,Uv N⟩:=
  have E:Env Tryz.prog Awy:=Av tab ⟨OX,⟨Aa7,⟨Acy,trivial⟩⟩⟩
  Ar (body:=Ap Tryz.f178) (Pc:=[]) E rfl mixed Tryz.func178 (by kernel_rfl) (by kernel_rfl) (by kernel_rfl) (by kernel_rfl) (fun A hA=>trivial) (fun _=>by kernel_rfl)
theorem AA7:Aa Tryz.prog 178 Apt:=Ab1 0
theorem Ac2 (N:Nat):Aa Tryz.prog 85 ⟨[(Ae,false),(I,false),(I,false),(I,false)],[I,.bool],true,VT N⟩:=
  have E:Env Tryz.prog Aw3:=Av tab ⟨D1,⟨T9,⟨TW,⟨Ae1,⟨AA7,⟨VM,trivial⟩⟩⟩⟩⟩⟩
  Ar (body:=Ap Tryz.f85) (Pc:=[(0,⟨An8,Ao8,La N N⟩)]) E rfl mixed Tryz.func85 (by kernel_rfl) (by kernel_rfl) (by kernel_rfl) (by kernel_rfl) (fun A hA=>⟨AI (body:=At Tryz.f85 0) (inner:=[]) E mixed hA (by kernel_rfl) (by kernel_rfl) (by kernel_rfl) trivial (fun _=>rfl) (fun _ _=>by kernel_rfl) N,trivial⟩) (fun _=>by kernel_rfl)
theorem AB0:Aa Tryz.prog 85 Ap2:=Aa.less (fun N:Nat=>VT N) Ac2 Ux
theorem Yd (N:Nat):Aa Tryz.prog 132 ⟨[(Aj,false),(I,false)],[.bool],true,Sv N⟩:=
  have E:Env Tryz.prog Ar4:=Av tab ⟨DX,trivial⟩
  Ar (body:=Ap Tryz.f132) (Pc:=[]) E rfl mixed Tryz.func132 (by kernel_rfl) (by kernel_rfl) (by kernel_rfl) (by kernel_rfl) (fun A hA=>trivial) (fun _=>by kernel_rfl)
theorem Ayf:Aa Tryz.prog 132 Ahi:=Aa.less (fun N:Nat=>Sv N) Yd (fun d r h=>⟨0,(YT 0 d).trans h⟩)
theorem Aft (N:Nat):Aa Tryz.prog 86 ⟨[(Ae,false),(I,false),(I,false),(I,false)],[I,.bool],true,VD N⟩:=
  have E:Env Tryz.prog Ax1:=Av tab ⟨Ayf,⟨Xo,⟨Aee,⟨Ab4,⟨Aud,⟨Ads,trivial⟩⟩⟩⟩⟩⟩
  Ar (body:=Ap Tryz.f86) (Pc:=[(0,⟨Ai7,Amz,Lw N N⟩)]) E rfl mixed Tryz.func86 (by kernel_rfl) (by kernel_rfl) (by kernel_rfl) (by kernel_rfl) (fun A hA=>⟨AI (body:=At Tryz.f86 0) (inner:=[]) E mixed hA (by kernel_rfl) (by kernel_rfl) (by kernel_rfl) trivial (fun _=>rfl) (fun _ _=>by kernel_rfl) N,trivial⟩) (fun _=>by kernel_rfl)
theorem ABt:Aa Tryz.prog 86 Ar8:=Aa.less (fun N:Nat=>VD N) Aft UI
theorem Acr (N:Nat):Aa Tryz.prog 237 ⟨[(AA,false),(I,false),(I,false)],[.bool],true,W6 N⟩:=
  have E:Env Tryz.prog Axu:=Av tab trivial
  Ar (body:=Ap Tryz.f237) (Pc:=[]) E rfl mixed Tryz.func237 (by kernel_rfl) (by kernel_rfl) (by kernel_rfl) (by kernel_rfl) (fun A hA=>trivial) (fun _=>by kernel_rfl)
theorem ADn:Aa Tryz.prog 237 AAh:=Acr 0
theorem Axw:Bs Tryz.prog Ag4:=Acc ADn
theorem Afr (N:Nat):Aa Tryz.prog 236 ⟨[(I,false),(Cz,false)],[Aj],true,XE N⟩:=
  have E:Env Tryz.prog Axc:=Ck tab trivial ⟨Axw,trivial⟩ (fun _ h=>by cases h)
  Ar (body:=Ap Tryz.f236) (Pc:=[(0,⟨Ajo,Anz,KH N N⟩)]) E rfl mixed Tryz.func236 (by kernel_rfl) (by kernel_rfl) (by kernel_rfl) (by kernel_rfl) (fun A hA=>⟨AI (body:=At Tryz.f236 0) (inner:=[(2,⟨Ajg,Alu,K8 N N⟩)]) E mixed hA (by kernel_rfl) (by kernel_rfl) (by kernel_rfl) ⟨AI (body:=At Tryz.f236 2) (inner:=[]) E mixed hA (by kernel_rfl) (by kernel_rfl) (by kernel_rfl) trivial (fun _=>rfl) (fun _ _=>by kernel_rfl) N,trivial⟩ (fun _=>rfl) (fun _ _=>by kernel_rfl) N,trivial⟩) (fun _=>by kernel_rfl)
theorem AAz:Aa Tryz.prog 236 Ars:=Aa.less (fun N:Nat=>XE N) Afr TM
theorem Ad1 (N:Nat):Aa Tryz.prog 181 ⟨[(AA,false)],[Aj],true,TL N⟩:=
  have E:Env Tryz.prog Ayd:=Av tab ⟨Tx,⟨AAz,trivial⟩⟩
  Ar (body:=Ap Tryz.f181) (Pc:=[]) E rfl mixed Tryz.func181 (by kernel_rfl) (by kernel_rfl) (by kernel_rfl) (by kernel_rfl) (fun A hA=>trivial) (fun _=>by kernel_rfl)
theorem ACf:Aa Tryz.prog 181 Arc:=Ad1 0
theorem Abx (N:Nat):Aa Tryz.prog 87 ⟨[(Ae,false),(I,false)],[Aj,.bool],true,J2 N⟩:=
  have E:Env Tryz.prog Azb:=Av tab ⟨OX,⟨TW,⟨Acy,⟨ACf,trivial⟩⟩⟩⟩
  Ar (body:=Ap Tryz.f87) (Pc:=[]) E rfl mixed Tryz.func87 (by kernel_rfl) (by kernel_rfl) (by kernel_rfl) (by kernel_rfl) (fun A hA=>trivial) (fun _=>by kernel_rfl)
theorem ABz:Aa Tryz.prog 87 Auk:=Abx 0
theorem Agh (N:Nat):Aa Tryz.prog 106 ⟨[(Aj,false),(Ai,false)],[.bool],true,Uh N⟩:=
  have E:Env Tryz.prog Ayn:=Av tab ⟨Sb,⟨Aa7,trivial⟩⟩
  Ar (body:=Ap Tryz.f106) (Pc:=[]) E rfl mixed Tryz.func106 (by kernel_rfl) (by kernel_rfl) (by kernel_rfl) (by kernel_rfl) (fun A hA=>trivial) (fun _=>by kernel_rfl)
theorem ADl:Aa Tryz.prog 106 Atb:=Agh 0
theorem Afv (N:Nat):Aa Tryz.prog 72 ⟨[(Aj,false),(I,false)],[Ai,.bool],true,MG N⟩:=
  have E:Env Tryz.prog Au7:=Av tab ⟨IR,⟨ADl,⟨D1,trivial⟩⟩⟩
  Ar (body:=Ap Tryz.f72) (Pc:=[]) E rfl mixed Tryz.func72 (by kernel_rfl) (by kernel_rfl) (by kernel_rfl) (by kernel_rfl) (fun A hA=>trivial) (fun _=>by kernel_rfl)
theorem ACh:Aa Tryz.prog 72 As1:=Afv 0
theorem Je (N:Nat):Aa Tryz.prog 8 ⟨[(K_Su8,false)],[.bool],true,B8 N⟩:=
  have E:Env Tryz.prog LC:=Ck tab ⟨Zh,⟨ADp,⟨Ahz,⟨ACh,⟨AAd,⟨AAc,⟨ADe,⟨OX,⟨AA0,⟨Arn,⟨XH,⟨ABw,⟨ABk,⟨AAi,⟨ADd,⟨AAo,⟨AB0,⟨ABt,⟨ABz,trivial⟩⟩⟩⟩⟩⟩⟩⟩⟩⟩⟩⟩⟩⟩⟩⟩⟩⟩⟩ trivial (fun _ h=>by cases h)
  Ar (body:=Ap Tryz.f8) (Pc:=[(0,⟨JL,JF,C3 N N⟩),(6,⟨JH,JI,BR N N⟩)]) E rfl mixed Tryz.func8 (by kernel_rfl) (by kernel_rfl) (by kernel_rfl) (by kernel_rfl) (fun A hA=>⟨AI (body:=At Tryz.f8 0) (inner:=[(2,⟨JG,JD,CZ N N⟩)]) E mixed hA (by kernel_rfl) (by kernel_rfl) (by kernel_rfl) ⟨AI (body:=At Tryz.f8 2) (inner:=[(4,⟨JB,JE,C0 N N⟩)]) E mixed hA (by kernel_rfl) (by kernel_rfl) (by kernel_rfl) ⟨AI (body:=At Tryz.f8 4) (inner:=[]) E mixed hA (by kernel_rfl) (by kernel_rfl) (by kernel_rfl) trivial (fun _=>rfl) (fun _ _=>by kernel_rfl) N,trivial⟩ (fun _=>rfl) (fun _ _=>by kernel_rfl) N,trivial⟩ (fun _=>rfl) (fun _ _=>by kernel_rfl) N,⟨AI (body:=At Tryz.f8 6) (inner:=[]) E mixed hA (by kernel_rfl) (by kernel_rfl) (by kernel_rfl) trivial (fun _=>rfl) (fun _ _=>by kernel_rfl) N,trivial⟩⟩) (fun _=>by kernel_rfl)
theorem C_laws_FnTimedGame:Aa Tryz.prog 8 MD:=Aa.less (fun N:Nat=>B8 N) Je WR
end Go.V.W
end
