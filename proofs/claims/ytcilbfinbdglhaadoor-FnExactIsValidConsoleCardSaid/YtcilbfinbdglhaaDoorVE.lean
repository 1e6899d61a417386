/- What the law FnExactIsValidConsole leans on, part 5: an interpreter of the model as plain data, its soundness, the functions as it tells them, and their laws. -/
import Derived.Shelf.Lays
import Derived.Shelf.LaysM
import Derived.Shelf.Strings.IndexAnyAll
import Derived.Shelf.Strings.Cut
import Derived.Shelf.Strings.Search3
import Derived.Shelf.Strconv.Itoa3
import Derived.Test.YtcilbfinbdglhaaDoorVD
set_option linter.unusedVariables false
set_option linter.unusedSimpArgs false
set_option maxRecDepth 100000
namespace Go.V.W
open Go.Proofs Go.Shelf Go.RowKit
-- import Derived.Shelf.Lays
-- import Derived.Shelf.LaysM
-- import Derived.Test.XvLib3
-- import Derived.Shelf.Strings.IndexAnyAll
-- import Derived.Shelf.Strings.Cut
-- import Derived.Shelf.Strings.Search3
-- import Derived.Shelf.Strconv.Itoa3
def lays150_ren : Go.Shelf.Ren :=
{
  f := fun x =>
    match x with
    | 150 => 65
    | 153 => 74
    | 152 => 79
    | 226 => 80
    | 227 => 81
    | 228 => 82
    | 137 => 87
    | 119 => 88
    | 224 => 71
    | 225 => 70
    | 217 => 69
    | 266 => 77
    | n => n,
  t := fun x =>
    match x with
    | 9 => 9
    | 4 => 4
    | 3 => 3
    | 5 => 5
    | 21 => 21
    | 117 => 106
    | 116 => 105
    | 0 => 0
    | 46 => 97
    | 124 => 117
    | n => n,
  g := fun x =>
    x }
set_option maxRecDepth 1000000 in
theorem lays150 : Go.Proofs.Lays.n150 Go.Proofs.Tryd.prog lays150_ren :=
{ mixed := by kernel_rfl,
  f119 := (Go.Proofs.Tryd.func88).trans (congrArg some (by kernel_rfl)),
  f137 := (Go.Proofs.Tryd.func87).trans (congrArg some (by kernel_rfl)),
  f150 := (Go.Proofs.Tryd.func65).trans (congrArg some (by kernel_rfl)),
  f152 := (Go.Proofs.Tryd.func79).trans (congrArg some (by kernel_rfl)),
  f153 := (Go.Proofs.Tryd.func74).trans (congrArg some (by kernel_rfl)),
  f217 := (Go.Proofs.Tryd.func69).trans (congrArg some (by kernel_rfl)),
  f224 := (Go.Proofs.Tryd.func71).trans (congrArg some (by kernel_rfl)),
  f225 := (Go.Proofs.Tryd.func70).trans (congrArg some (by kernel_rfl)),
  f226 := (Go.Proofs.Tryd.func80).trans (congrArg some (by kernel_rfl)),
  f227 := (Go.Proofs.Tryd.func81).trans (congrArg some (by kernel_rfl)),
  f228 := (Go.Proofs.Tryd.func82).trans (congrArg some (by kernel_rfl)),
  f266 := (Go.Proofs.Tryd.func77).trans (congrArg some (by kernel_rfl)),
  t0 := Go.Proofs.Tryd.underlying0,
  a0 := Go.Proofs.Tryd.isAgg0,
  z0 := Go.Proofs.Tryd.sizeOf0,
  v0 := Go.Proofs.Tryd.zeroValue0,
  t3 := Go.Proofs.Tryd.underlying3,
  a3 := Go.Proofs.Tryd.isAgg3,
  z3 := Go.Proofs.Tryd.sizeOf3,
  v3 := Go.Proofs.Tryd.zeroValue3,
  t4 := Go.Proofs.Tryd.underlying4,
  a4 := Go.Proofs.Tryd.isAgg4,
  z4 := Go.Proofs.Tryd.sizeOf4,
  v4 := Go.Proofs.Tryd.zeroValue4,
  t5 := Go.Proofs.Tryd.underlying5,
  a5 := Go.Proofs.Tryd.isAgg5,
  z5 := Go.Proofs.Tryd.sizeOf5,
  v5 := Go.Proofs.Tryd.zeroValue5,
  t9 := Go.Proofs.Tryd.underlying9,
  a9 := Go.Proofs.Tryd.isAgg9,
  z9 := Go.Proofs.Tryd.sizeOf9,
  v9 := Go.Proofs.Tryd.zeroValue9,
  t21 := Go.Proofs.Tryd.underlying21,
  a21 := Go.Proofs.Tryd.isAgg21,
  z21 := Go.Proofs.Tryd.sizeOf21,
  v21 := Go.Proofs.Tryd.zeroValue21,
  t46 := Go.Proofs.Tryd.underlying97,
  a46 := Go.Proofs.Tryd.isAgg97,
  z46 := Go.Proofs.Tryd.sizeOf97,
  v46 := Go.Proofs.Tryd.zeroValue97,
  t116 := Go.Proofs.Tryd.underlying105,
  a116 := Go.Proofs.Tryd.isAgg105,
  z116 := Go.Proofs.Tryd.sizeOf105,
  t117 := Go.Proofs.Tryd.underlying106,
  a117 := Go.Proofs.Tryd.isAgg106,
  z117 := Go.Proofs.Tryd.sizeOf106,
  v117 := Go.Proofs.Tryd.zeroValue106,
  t124 := Go.Proofs.Tryd.underlying117,
  a124 := Go.Proofs.Tryd.isAgg117,
  z124 := Go.Proofs.Tryd.sizeOf117,
  v124 := Go.Proofs.Tryd.zeroValue117 }
def lays145_ren : Go.Shelf.Ren :=
{
  f := fun x =>
    match x with
    | 145 => 41
    | 220 => 52
    | 219 => 62
    | 217 => 69
    | 225 => 70
    | 224 => 71
    | 267 => 72
    | 266 => 77
    | 314 => 78
    | n => n,
  t := fun x =>
    match x with
    | 9 => 9
    | 4 => 4
    | 59 => 77
    | 3 => 3
    | 5 => 5
    | 46 => 97
    | 146 => 101
    | 51 => 100
    | n => n,
  g := fun x =>
    match x with
    | 1 => 0
    | n => n }
set_option maxRecDepth 1000000 in
theorem lays145 : Go.Proofs.Lays.n145 Go.Proofs.Tryd.prog lays145_ren :=
{ mixed := by kernel_rfl,
  f145 := (Go.Proofs.Tryd.func41).trans (congrArg some (by kernel_rfl)),
  f217 := (Go.Proofs.Tryd.func69).trans (congrArg some (by kernel_rfl)),
  f219 := (Go.Proofs.Tryd.func62).trans (congrArg some (by kernel_rfl)),
  f220 := (Go.Proofs.Tryd.func52).trans (congrArg some (by kernel_rfl)),
  f224 := (Go.Proofs.Tryd.func71).trans (congrArg some (by kernel_rfl)),
  f225 := (Go.Proofs.Tryd.func70).trans (congrArg some (by kernel_rfl)),
  f266 := (Go.Proofs.Tryd.func77).trans (congrArg some (by kernel_rfl)),
  f267 := (Go.Proofs.Tryd.func72).trans (congrArg some (by kernel_rfl)),
  f314 := (Go.Proofs.Tryd.func78).trans (congrArg some (by kernel_rfl)),
  t3 := Go.Proofs.Tryd.underlying3,
  a3 := Go.Proofs.Tryd.isAgg3,
  z3 := Go.Proofs.Tryd.sizeOf3,
  v3 := Go.Proofs.Tryd.zeroValue3,
  t4 := Go.Proofs.Tryd.underlying4,
  a4 := Go.Proofs.Tryd.isAgg4,
  z4 := Go.Proofs.Tryd.sizeOf4,
  v4 := Go.Proofs.Tryd.zeroValue4,
  t5 := Go.Proofs.Tryd.underlying5,
  a5 := Go.Proofs.Tryd.isAgg5,
  z5 := Go.Proofs.Tryd.sizeOf5,
  v5 := Go.Proofs.Tryd.zeroValue5,
  t9 := Go.Proofs.Tryd.underlying9,
  a9 := Go.Proofs.Tryd.isAgg9,
  z9 := Go.Proofs.Tryd.sizeOf9,
  v9 := Go.Proofs.Tryd.zeroValue9,
  t46 := Go.Proofs.Tryd.underlying97,
  a46 := Go.Proofs.Tryd.isAgg97,
  z46 := Go.Proofs.Tryd.sizeOf97,
  v46 := Go.Proofs.Tryd.zeroValue97,
  t51 := Go.Proofs.Tryd.underlying100,
  a51 := Go.Proofs.Tryd.isAgg100,
  z51 := Go.Proofs.Tryd.sizeOf100,
  v51 := Go.Proofs.Tryd.zeroValue100,
  t59 := Go.Proofs.Tryd.underlying77,
  a59 := Go.Proofs.Tryd.isAgg77,
  z59 := Go.Proofs.Tryd.sizeOf77,
  v59 := Go.Proofs.Tryd.zeroValue77,
  t146 := Go.Proofs.Tryd.underlying101,
  a146 := Go.Proofs.Tryd.isAgg101,
  z146 := Go.Proofs.Tryd.sizeOf101,
  v146 := Go.Proofs.Tryd.zeroValue101,
  g1 := by kernel_rfl }
def lays144_ren : Go.Shelf.Ren :=
{
  f := fun x =>
    match x with
    | 144 => 63
    | 143 => 73
    | 219 => 62
    | 217 => 69
    | 225 => 70
    | 224 => 71
    | 267 => 72
    | 266 => 77
    | 314 => 78
    | n => n,
  t := fun x =>
    match x with
    | 9 => 9
    | 4 => 4
    | 3 => 3
    | 5 => 5
    | 46 => 97
    | 146 => 101
    | 51 => 100
    | n => n,
  g := fun x =>
    match x with
    | 1 => 0
    | n => n }
set_option maxRecDepth 1000000 in
theorem lays144 : Go.Proofs.Lays.n144 Go.Proofs.Tryd.prog lays144_ren :=
{ mixed := by kernel_rfl,
  f143 := (Go.Proofs.Tryd.func73).trans (congrArg some (by kernel_rfl)),
  f144 := (Go.Proofs.Tryd.func63).trans (congrArg some (by kernel_rfl)),
  f217 := (Go.Proofs.Tryd.func69).trans (congrArg some (by kernel_rfl)),
  f219 := (Go.Proofs.Tryd.func62).trans (congrArg some (by kernel_rfl)),
  f224 := (Go.Proofs.Tryd.func71).trans (congrArg some (by kernel_rfl)),
  f225 := (Go.Proofs.Tryd.func70).trans (congrArg some (by kernel_rfl)),
  f266 := (Go.Proofs.Tryd.func77).trans (congrArg some (by kernel_rfl)),
  f267 := (Go.Proofs.Tryd.func72).trans (congrArg some (by kernel_rfl)),
  f314 := (Go.Proofs.Tryd.func78).trans (congrArg some (by kernel_rfl)),
  t3 := Go.Proofs.Tryd.underlying3,
  a3 := Go.Proofs.Tryd.isAgg3,
  z3 := Go.Proofs.Tryd.sizeOf3,
  v3 := Go.Proofs.Tryd.zeroValue3,
  t4 := Go.Proofs.Tryd.underlying4,
  a4 := Go.Proofs.Tryd.isAgg4,
  z4 := Go.Proofs.Tryd.sizeOf4,
  v4 := Go.Proofs.Tryd.zeroValue4,
  t5 := Go.Proofs.Tryd.underlying5,
  a5 := Go.Proofs.Tryd.isAgg5,
  z5 := Go.Proofs.Tryd.sizeOf5,
  v5 := Go.Proofs.Tryd.zeroValue5,
  t9 := Go.Proofs.Tryd.underlying9,
  a9 := Go.Proofs.Tryd.isAgg9,
  z9 := Go.Proofs.Tryd.sizeOf9,
  v9 := Go.Proofs.Tryd.zeroValue9,
  t46 := Go.Proofs.Tryd.underlying97,
  a46 := Go.Proofs.Tryd.isAgg97,
  z46 := Go.Proofs.Tryd.sizeOf97,
  v46 := Go.Proofs.Tryd.zeroValue97,
  t51 := Go.Proofs.Tryd.underlying100,
  a51 := Go.Proofs.Tryd.isAgg100,
  z51 := Go.Proofs.Tryd.sizeOf100,
  v51 := Go.Proofs.Tryd.zeroValue100,
  t146 := Go.Proofs.Tryd.underlying101,
  a146 := Go.Proofs.Tryd.isAgg101,
  z146 := Go.Proofs.Tryd.sizeOf101,
  v146 := Go.Proofs.Tryd.zeroValue101,
  g1 := by kernel_rfl }
def lays171_ren : Go.Shelf.Ren :=
{
  f := fun x =>
    match x with
    | 171 => 56
    | 243 => 66
    | 246 => 75
    | 283 => 83
    | 284 => 84
    | 285 => 85
    | 286 => 86
    | 129 => 90
    | 317 => 89
    | 318 => 91
    | 319 => 92
    | 320 => 93
    | 337 => 94
    | 338 => 95
    | n => n,
  t := fun x =>
    match x with
    | 3 => 3
    | 9 => 9
    | 2 => 2
    | 4 => 4
    | 171 => 109
    | 0 => 0
    | 53 => 110
    | 37 => 113
    | 5 => 5
    | 173 => 114
    | 212 => 119
    | 51 => 100
    | 20 => 20
    | 213 => 120
    | 46 => 97
    | 232 => 123
    | 233 => 124
    | n => n,
  g := fun x =>
    match x with
    | 17 => 1
    | 18 => 2
    | 19 => 3
    | n => n }
set_option maxRecDepth 1000000 in
theorem lays171 : Go.Proofs.LaysM.n171 Go.Proofs.Tryd.prog lays171_ren :=
{ mixed := by kernel_rfl,
  f129 := (Go.Proofs.Tryd.func90).trans (congrArg some (by kernel_rfl)),
  f171 := (Go.Proofs.Tryd.func56).trans (congrArg some (by kernel_rfl)),
  f243 := (Go.Proofs.Tryd.func66).trans (congrArg some (by kernel_rfl)),
  f246 := (Go.Proofs.Tryd.func75).trans (congrArg some (by kernel_rfl)),
  f283 := (Go.Proofs.Tryd.func83).trans (congrArg some (by kernel_rfl)),
  f284 := (Go.Proofs.Tryd.func84).trans (congrArg some (by kernel_rfl)),
  f285 := (Go.Proofs.Tryd.func85).trans (congrArg some (by kernel_rfl)),
  f286 := (Go.Proofs.Tryd.func86).trans (congrArg some (by kernel_rfl)),
  f317 := (Go.Proofs.Tryd.func89).trans (congrArg some (by kernel_rfl)),
  f318 := (Go.Proofs.Tryd.func91).trans (congrArg some (by kernel_rfl)),
  f319 := (Go.Proofs.Tryd.func92).trans (congrArg some (by kernel_rfl)),
  f320 := (Go.Proofs.Tryd.func93).trans (congrArg some (by kernel_rfl)),
  f337 := (Go.Proofs.Tryd.func94).trans (congrArg some (by kernel_rfl)),
  f338 := (Go.Proofs.Tryd.func95).trans (congrArg some (by kernel_rfl)),
  t0 := Go.Proofs.Tryd.underlying0,
  a0 := Go.Proofs.Tryd.isAgg0,
  z0 := Go.Proofs.Tryd.sizeOf0,
  v0 := Go.Proofs.Tryd.zeroValue0,
  t2 := Go.Proofs.Tryd.underlying2,
  a2 := Go.Proofs.Tryd.isAgg2,
  z2 := Go.Proofs.Tryd.sizeOf2,
  v2 := Go.Proofs.Tryd.zeroValue2,
  t3 := Go.Proofs.Tryd.underlying3,
  a3 := Go.Proofs.Tryd.isAgg3,
  z3 := Go.Proofs.Tryd.sizeOf3,
  v3 := Go.Proofs.Tryd.zeroValue3,
  t4 := Go.Proofs.Tryd.underlying4,
  a4 := Go.Proofs.Tryd.isAgg4,
  z4 := Go.Proofs.Tryd.sizeOf4,
  v4 := Go.Proofs.Tryd.zeroValue4,
  t5 := Go.Proofs.Tryd.underlying5,
  a5 := Go.Proofs.Tryd.isAgg5,
  z5 := Go.Proofs.Tryd.sizeOf5,
  v5 := Go.Proofs.Tryd.zeroValue5,
  t9 := Go.Proofs.Tryd.underlying9,
  a9 := Go.Proofs.Tryd.isAgg9,
  z9 := Go.Proofs.Tryd.sizeOf9,
  v9 := Go.Proofs.Tryd.zeroValue9,
  t20 := Go.Proofs.Tryd.underlying20,
  a20 := Go.Proofs.Tryd.isAgg20,
  z20 := Go.Proofs.Tryd.sizeOf20,
  v20 := Go.Proofs.Tryd.zeroValue20,
  t37 := Go.Proofs.Tryd.underlying113,
  a37 := Go.Proofs.Tryd.isAgg113,
  z37 := Go.Proofs.Tryd.sizeOf113,
  v37 := Go.Proofs.Tryd.zeroValue113,
  t46 := Go.Proofs.Tryd.underlying97,
  a46 := Go.Proofs.Tryd.isAgg97,
  z46 := Go.Proofs.Tryd.sizeOf97,
  v46 := Go.Proofs.Tryd.zeroValue97,
  t51 := Go.Proofs.Tryd.underlying100,
  a51 := Go.Proofs.Tryd.isAgg100,
  z51 := Go.Proofs.Tryd.sizeOf100,
  v51 := Go.Proofs.Tryd.zeroValue100,
  t53 := Go.Proofs.Tryd.underlying110,
  a53 := Go.Proofs.Tryd.isAgg110,
  z53 := Go.Proofs.Tryd.sizeOf110,
  v53 := Go.Proofs.Tryd.zeroValue110,
  t171 := Go.Proofs.Tryd.underlying109,
  a171 := Go.Proofs.Tryd.isAgg109,
  z171 := Go.Proofs.Tryd.sizeOf109,
  v171 := Go.Proofs.Tryd.zeroValue109,
  t173 := Go.Proofs.Tryd.underlying114,
  a173 := Go.Proofs.Tryd.isAgg114,
  z173 := Go.Proofs.Tryd.sizeOf114,
  v173 := Go.Proofs.Tryd.zeroValue114,
  t212 := Go.Proofs.Tryd.underlying119,
  a212 := Go.Proofs.Tryd.isAgg119,
  z212 := Go.Proofs.Tryd.sizeOf119,
  v212 := Go.Proofs.Tryd.zeroValue119,
  t213 := Go.Proofs.Tryd.underlying120,
  a213 := Go.Proofs.Tryd.isAgg120,
  z213 := Go.Proofs.Tryd.sizeOf120,
  t232 := Go.Proofs.Tryd.underlying123,
  a232 := Go.Proofs.Tryd.isAgg123,
  z232 := Go.Proofs.Tryd.sizeOf123,
  v232 := Go.Proofs.Tryd.zeroValue123,
  t233 := Go.Proofs.Tryd.underlying124,
  a233 := Go.Proofs.Tryd.isAgg124,
  z233 := Go.Proofs.Tryd.sizeOf124,
  v233 := Go.Proofs.Tryd.zeroValue124,
  g17 := by kernel_rfl,
  g18 := by kernel_rfl,
  g19 := by kernel_rfl,
  i0 := by kernel_rfl,
  i2 := by kernel_rfl,
  i3 := by kernel_rfl,
  i4 := by kernel_rfl,
  i5 := by kernel_rfl,
  i9 := by kernel_rfl,
  i20 := by kernel_rfl,
  i37 := by kernel_rfl,
  i46 := by kernel_rfl,
  i51 := by kernel_rfl,
  i53 := by kernel_rfl,
  i171 := by kernel_rfl,
  i173 := by kernel_rfl,
  i212 := by kernel_rfl,
  i232 := by kernel_rfl,
  i233 := by kernel_rfl,
  m17 := by kernel_rfl,
  m18 := by kernel_rfl,
  m19 := by kernel_rfl }
theorem tab : TabOk Tryd.prog (assoc tks) (assoc ars) := tab_of (by kernel_rfl)
theorem mixed : Tryd.prog.follows .mixedOrders = true := by kernel_rfl
theorem set150 : (Tryd.prog.info? (lays150_ren.t 116)).map (fun i => (i.zero, i.size)) = some (some (.agg (Array.replicate 256 (.bool false))), 256) := by kernel_rfl
theorem ascii_get {s : ByteArray} (h : asciiB s = true) : ∀ (j : Nat) b, s.data.toList[j]? = some b → b.toNat < 128 := fun j b hb => of_decide_eq_true (List.all_eq_true.1 h b (List.mem_of_getElem? hb))
theorem C_strings_ContainsAny : Contract Tryd.prog 65 S_strings_ContainsAny :=
  con_ssb (pre := fun s c => asciiB s = true ∧ asciiB c = true ∧ smallB s = true ∧ smallB c = true) (B := fun s c => Lib.containsAny s.data.toList c.data.toList) (enters_of Tryd.func65 (by kernel_rfl) rfl)
    (fun s c w h => Any.strings_ContainsAny_laid lays150 set150 s c w (of_decide_eq_true h.2.2.1) (of_decide_eq_true h.2.2.2) (ascii_get h.1) (ascii_get h.2.1))
    (fun d r h => by
      unfold G_containsAny at h
      split at h
      · rename_i hc
        simp only [Bool.and_eq_true] at hc
        exact ⟨⟨hc.1.1.1, hc.1.1.2, hc.1.2, hc.2⟩, (Option.some.inj h).symm⟩
      · cases h)
theorem C_strings_Cut : Contract Tryd.prog 41 S_strings_Cut :=
  con_sssbM (g := lays145_ren.g 1) (by kernel_rfl) (pre := fun s _ => smallB s = true) (B := fun s c => (ba (Lib.cut (bl s) (bl c)).1, ba (Lib.cut (bl s) (bl c)).2.1, (Lib.cut (bl s) (bl c)).2.2)) (enters_of Tryd.func41 (by kernel_rfl) rfl)
    (fun s c m w h hm => (Any.strings_Cut lays145 s c m w (of_decide_eq_true h) hm).mono fun e w' he => by
      obtain ⟨h1, n, rfl⟩ := he
      exact ⟨h1, below_drewN2 w n⟩)
    (fun d r h => by
      unfold G_cut at h
      split at h
      · rename_i hc
        exact ⟨hc, (Option.some.inj h).symm⟩
      · cases h)
theorem C_strings_Contains : Contract Tryd.prog 63 S_strings_Contains :=
  con_ssbM (g := lays144_ren.g 1) (by kernel_rfl) (pre := fun s _ => smallB s = true) (B := fun s c => Lib.contains (bl s) (bl c)) (enters_of Tryd.func63 (by kernel_rfl) rfl)
    (fun s c m w h hm => (Any.strings_Contains lays144 s c m w (of_decide_eq_true h) hm).mono fun e w' he => by
      obtain ⟨h1, rfl⟩ := he
      exact ⟨h1, Below.refl _ _⟩)
    (fun d r h => by
      unfold G_contains at h
      split at h
      · rename_i hc
        exact ⟨hc, (Option.some.inj h).symm⟩
      · cases h)
theorem pow10_cells : (pow10s.map fun z => Value.int .u64 z).toArray = (Lib.pow10Tab.map fun z => Value.int .u64 z).toArray := by rw [show pow10s = Lib.pow10Tab by decide]
theorem C_strconv_Itoa : Contract Tryd.prog 56 S_strconv_Itoa :=
  con_itoa (g := lays171_ren.g 17) (by kernel_rfl) (B := fun n => ba (Lib.itoa n)) (enters_of Tryd.func56 (by kernel_rfl) rfl)
    (fun n w h0 h1 hv => (Any.strconv_Itoa lays171 n h0 h1 w (hv.trans (congrArg some pow10_cells))).mono fun e w' he => by
      obtain ⟨h1, k, os, rfl⟩ := he
      exact ⟨h1, below_grow2 w k os⟩)
    (fun d r h => by
      unfold G_itoa at h
      split at h
      · rename_i hc
        simp only [Bool.and_eq_true, decide_eq_true_eq] at hc
        exact ⟨hc, (Option.some.inj h).symm⟩
      · cases h)
theorem C_laws_szIntA2S_raw (N : Nat) : Contract Tryd.prog 33 ⟨[(K_SPiiq, false), (I, false)], [I], true, F_laws_szIntA2S N⟩ :=
  have E : Env Tryd.prog Γ_laws_szIntA2S := env_of tab trivial
  con_of (Pc := []) E rfl mixed Tryd.func33 (by kernel_rfl) (by kernel_rfl) (by kernel_rfl) (by kernel_rfl) (fun A hA => trivial) (F_laws_szIntA2S_ok N)
theorem C_laws_szIntA2S : Contract Tryd.prog 33 S_laws_szIntA2S := Contract.less (fun N : Nat => F_laws_szIntA2S N) C_laws_szIntA2S_raw (fun d r h => ⟨0, (F_laws_szIntA2S_tot 0 d).trans h⟩)
theorem C_laws_szGraph_raw (N : Nat) : Contract Tryd.prog 19 ⟨[(K_PiSPiiqq, false), (I, false)], [I], true, F_laws_szGraph N⟩ :=
  have E : Env Tryd.prog Γ_laws_szGraph := env_of tab ⟨C_laws_szIntA2S, trivial⟩
  con_of (Pc := []) E rfl mixed Tryd.func19 (by kernel_rfl) (by kernel_rfl) (by kernel_rfl) (by kernel_rfl) (fun A hA => trivial) (F_laws_szGraph_ok N)
theorem C_laws_szGraph : Contract Tryd.prog 19 S_laws_szGraph := Contract.less (fun N : Nat => F_laws_szGraph N) C_laws_szGraph_raw (fun d r h => ⟨0, (F_laws_szGraph_tot 0 d).trans h⟩)
theorem C_laws_szIntS_raw (N : Nat) : Contract Tryd.prog 20 ⟨[(K_Si, false), (I, false)], [I], true, F_laws_szIntS N⟩ :=
  have E : Env Tryd.prog Γ_laws_szIntS := env_of tab trivial
  con_of (Pc := []) E rfl mixed Tryd.func20 (by kernel_rfl) (by kernel_rfl) (by kernel_rfl) (by kernel_rfl) (fun A hA => trivial) (F_laws_szIntS_ok N)
theorem C_laws_szIntS : Contract Tryd.prog 20 S_laws_szIntS := Contract.less (fun N : Nat => F_laws_szIntS N) C_laws_szIntS_raw (fun d r h => ⟨0, (F_laws_szIntS_tot 0 d).trans h⟩)
theorem C_laws_szWorkshop_raw (N : Nat) : Contract Tryd.prog 9 ⟨[(K_PPiSPiiqqiiSiiq, false), (I, false)], [I], true, F_laws_szWorkshop N⟩ :=
  have E : Env Tryd.prog Γ_laws_szWorkshop := env_of tab ⟨C_laws_szGraph, ⟨C_laws_szIntS, trivial⟩⟩
  con_of (Pc := []) E rfl mixed Tryd.func9 (by kernel_rfl) (by kernel_rfl) (by kernel_rfl) (by kernel_rfl) (fun A hA => trivial) (F_laws_szWorkshop_ok N)
theorem C_laws_szWorkshop : Contract Tryd.prog 9 S_laws_szWorkshop := Contract.less (fun N : Nat => F_laws_szWorkshop N) C_laws_szWorkshop_raw (fun d r h => ⟨0, (F_laws_szWorkshop_tot 0 d).trans h⟩)
theorem C_laws_szLog_raw (N : Nat) : Contract Tryd.prog 10 ⟨[(K_Pssiq, false), (I, false)], [I], true, F_laws_szLog N⟩ :=
  have E : Env Tryd.prog Γ_laws_szLog := env_of tab trivial
  con_of (Pc := []) E rfl mixed Tryd.func10 (by kernel_rfl) (by kernel_rfl) (by kernel_rfl) (by kernel_rfl) (fun A hA => trivial) (F_laws_szLog_ok N)
theorem C_laws_szLog : Contract Tryd.prog 10 S_laws_szLog := Contract.less (fun N : Nat => F_laws_szLog N) C_laws_szLog_raw (fun d r h => ⟨0, (F_laws_szLog_tot 0 d).trans h⟩)
theorem C_laws_szConsole_raw (N : Nat) : Contract Tryd.prog 4 ⟨[(K_PPPiSPiiqqiiSiiqPssiqq, false), (I, false)], [I], true, F_laws_szConsole N⟩ :=
  have E : Env Tryd.prog Γ_laws_szConsole := env_of tab ⟨C_laws_szWorkshop, ⟨C_laws_szLog, trivial⟩⟩
  con_of (Pc := []) E rfl mixed Tryd.func4 (by kernel_rfl) (by kernel_rfl) (by kernel_rfl) (by kernel_rfl) (fun A hA => trivial) (F_laws_szConsole_ok N)
theorem C_laws_szConsole : Contract Tryd.prog 4 S_laws_szConsole := Contract.less (fun N : Nat => F_laws_szConsole N) C_laws_szConsole_raw (fun d r h => ⟨0, (F_laws_szConsole_tot 0 d).trans h⟩)
theorem C_laws_toIntA2_raw (N : Nat) : Contract Tryd.prog 49 ⟨[(K_Piiq, false)], [K_Piiq], true, F_laws_toIntA2 N⟩ :=
  have E : Env Tryd.prog Γ_laws_toIntA2 := env_of tab trivial
  con_of (Pc := [(0, ⟨laws_toIntA2_l0_h, laws_toIntA2_l0_o, laws_toIntA2_l0 N N⟩)]) E rfl mixed Tryd.func49 (by kernel_rfl) (by kernel_rfl) (by kernel_rfl) (by kernel_rfl) (fun A hA => ⟨pc_of (inner := []) E mixed hA (by kernel_rfl) (by kernel_rfl) (by kernel_rfl) trivial (fun _ => rfl) (fun m d => (laws_toIntA2_l0_ok N (laws_toIntA2_l0 N m) d).symm) N, trivial⟩) (F_laws_toIntA2_ok N)
theorem C_laws_toIntA2 : Contract Tryd.prog 49 S_laws_toIntA2 := Contract.less (fun N : Nat => F_laws_toIntA2 N) C_laws_toIntA2_raw toIntA2_lim
theorem C_laws_toIntA2S_raw (N : Nat) : Contract Tryd.prog 38 ⟨[(K_SPiiq, false)], [K_SPiiq], true, F_laws_toIntA2S N⟩ :=
  have E : Env Tryd.prog Γ_laws_toIntA2S := env_of tab ⟨C_laws_toIntA2, trivial⟩
  con_of (Pc := [(0, ⟨laws_toIntA2S_l0_h, laws_toIntA2S_l0_o, laws_toIntA2S_l0 N N⟩)]) E rfl mixed Tryd.func38 (by kernel_rfl) (by kernel_rfl) (by kernel_rfl) (by kernel_rfl) (fun A hA => ⟨pc_of (inner := []) E mixed hA (by kernel_rfl) (by kernel_rfl) (by kernel_rfl) trivial (fun _ => rfl) (fun m d => (laws_toIntA2S_l0_ok N (laws_toIntA2S_l0 N m) d).symm) N, trivial⟩) (F_laws_toIntA2S_ok N)
theorem C_laws_toIntA2S : Contract Tryd.prog 38 S_laws_toIntA2S := Contract.less (fun N : Nat => F_laws_toIntA2S N) C_laws_toIntA2S_raw toIntA2S_lim
theorem C_laws_toGraph_raw (N : Nat) : Contract Tryd.prog 26 ⟨[(K_PiSPiiqq, false)], [K_PiSPiiqq], true, F_laws_toGraph N⟩ :=
  have E : Env Tryd.prog Γ_laws_toGraph := env_of tab ⟨C_laws_toIntA2S, trivial⟩
  con_of (Pc := []) E rfl mixed Tryd.func26 (by kernel_rfl) (by kernel_rfl) (by kernel_rfl) (by kernel_rfl) (fun A hA => trivial) (F_laws_toGraph_ok N)
theorem C_laws_toGraph : Contract Tryd.prog 26 S_laws_toGraph := C_laws_toGraph_raw 0
theorem C_laws_toIntS_raw (N : Nat) : Contract Tryd.prog 27 ⟨[(K_Si, false)], [K_Si], true, F_laws_toIntS N⟩ :=
  have E : Env Tryd.prog Γ_laws_toIntS := env_of tab trivial
  con_of (Pc := [(0, ⟨laws_toIntS_l0_h, laws_toIntS_l0_o, laws_toIntS_l0 N N⟩)]) E rfl mixed Tryd.func27 (by kernel_rfl) (by kernel_rfl) (by kernel_rfl) (by kernel_rfl) (fun A hA => ⟨pc_of (inner := []) E mixed hA (by kernel_rfl) (by kernel_rfl) (by kernel_rfl) trivial (fun _ => rfl) (fun m d => (laws_toIntS_l0_ok N (laws_toIntS_l0 N m) d).symm) N, trivial⟩) (F_laws_toIntS_ok N)
theorem C_laws_toIntS : Contract Tryd.prog 27 S_laws_toIntS := Contract.less (fun N : Nat => F_laws_toIntS N) C_laws_toIntS_raw toIntS_lim
theorem C_laws_toWorkshop_raw (N : Nat) : Contract Tryd.prog 13 ⟨[(K_PPiSPiiqqiiSiiq, false)], [K_PPiSPiiqqiiSiiq], true, F_laws_toWorkshop N⟩ :=
  have E : Env Tryd.prog Γ_laws_toWorkshop := env_of tab ⟨C_laws_toGraph, ⟨C_laws_toIntS, trivial⟩⟩
  con_of (Pc := []) E rfl mixed Tryd.func13 (by kernel_rfl) (by kernel_rfl) (by kernel_rfl) (by kernel_rfl) (fun A hA => trivial) (F_laws_toWorkshop_ok N)
theorem C_laws_toWorkshop : Contract Tryd.prog 13 S_laws_toWorkshop := C_laws_toWorkshop_raw 0
theorem C_laws_toLog_raw (N : Nat) : Contract Tryd.prog 14 ⟨[(K_Pssiq, false)], [K_Pssiq], true, F_laws_toLog N⟩ :=
  have E : Env Tryd.prog Γ_laws_toLog := env_of tab trivial
  con_of (Pc := []) E rfl mixed Tryd.func14 (by kernel_rfl) (by kernel_rfl) (by kernel_rfl) (by kernel_rfl) (fun A hA => trivial) (F_laws_toLog_ok N)
theorem C_laws_toLog : Contract Tryd.prog 14 S_laws_toLog := Contract.less (fun N : Nat => F_laws_toLog N) C_laws_toLog_raw (fun d r h => ⟨0, (F_laws_toLog_tot 0 d).trans h⟩)
theorem C_laws_toConsole_raw (N : Nat) : Contract Tryd.prog 6 ⟨[(K_PPPiSPiiqqiiSiiqPssiqq, false)], [K_PPPiSPiiqqiiSiiqPssiqq], true, F_laws_toConsole N⟩ :=
  have E : Env Tryd.prog Γ_laws_toConsole := env_of tab ⟨C_laws_toWorkshop, ⟨C_laws_toLog, trivial⟩⟩
  con_of (Pc := []) E rfl mixed Tryd.func6 (by kernel_rfl) (by kernel_rfl) (by kernel_rfl) (by kernel_rfl) (fun A hA => trivial) (F_laws_toConsole_ok N)
theorem C_laws_toConsole : Contract Tryd.prog 6 S_laws_toConsole := C_laws_toConsole_raw 0
theorem C_spec_l1In_raw (N : Nat) : Contract Tryd.prog 24 ⟨[(I, false), (I, false), (I, false)], [.bool], true, F_spec_l1In N⟩ :=
  have E : Env Tryd.prog Γ_spec_l1In := env_of tab trivial
  con_of (Pc := []) E rfl mixed Tryd.func24 (by kernel_rfl) (by kernel_rfl) (by kernel_rfl) (by kernel_rfl) (fun A hA => trivial) (F_spec_l1In_ok N)
theorem C_spec_l1In : Contract Tryd.prog 24 S_spec_l1In := Contract.less (fun N : Nat => F_spec_l1In N) C_spec_l1In_raw (fun d r h => ⟨0, (F_spec_l1In_tot 0 d).trans h⟩)
theorem C_spec_l2Before_raw (N : Nat) : Contract Tryd.prog 34 ⟨[(K_Piiq, false), (K_Piiq, false)], [.bool], true, F_spec_l2Before N⟩ :=
  have E : Env Tryd.prog Γ_spec_l2Before := env_of tab trivial
  con_of (Pc := []) E rfl mixed Tryd.func34 (by kernel_rfl) (by kernel_rfl) (by kernel_rfl) (by kernel_rfl) (fun A hA => trivial) (F_spec_l2Before_ok N)
theorem C_spec_l2Before : Contract Tryd.prog 34 S_spec_l2Before := Contract.less (fun N : Nat => F_spec_l2Before N) C_spec_l2Before_raw (fun d r h => ⟨0, (F_spec_l2Before_tot 0 d).trans h⟩)
theorem C_spec_l2Good_raw (N : Nat) : Contract Tryd.prog 21 ⟨[(K_PiSPiiqq, false)], [.bool], true, F_spec_l2Good N⟩ :=
  have E : Env Tryd.prog Γ_spec_l2Good := env_of tab ⟨C_spec_l1In, ⟨C_spec_l2Before, trivial⟩⟩
  con_of (Pc := [(0, ⟨spec_l2Good_l0_h, spec_l2Good_l0_o, spec_l2Good_l0 N N⟩)]) E rfl mixed Tryd.func21 (by kernel_rfl) (by kernel_rfl) (by kernel_rfl) (by kernel_rfl) (fun A hA => ⟨pc_of (inner := []) E mixed hA (by kernel_rfl) (by kernel_rfl) (by kernel_rfl) trivial (fun _ => rfl) (fun m d => (spec_l2Good_l0_ok N (spec_l2Good_l0 N m) d).symm) N, trivial⟩) (F_spec_l2Good_ok N)
theorem C_spec_l2Good : Contract Tryd.prog 21 S_spec_l2Good := Contract.less (fun N : Nat => F_spec_l2Good N) C_spec_l2Good_raw l2Good_lim
theorem C_spec_l12Spot_raw (N : Nat) : Contract Tryd.prog 22 ⟨[(K_PiSPiiqq, false), (I, false)], [.bool], true, F_spec_l12Spot N⟩ :=
  have E : Env Tryd.prog Γ_spec_l12Spot := env_of tab ⟨C_spec_l1In, trivial⟩
  con_of (Pc := []) E rfl mixed Tryd.func22 (by kernel_rfl) (by kernel_rfl) (by kernel_rfl) (by kernel_rfl) (fun A hA => trivial) (F_spec_l12Spot_ok N)
theorem C_spec_l12Spot : Contract Tryd.prog 22 S_spec_l12Spot := Contract.less (fun N : Nat => F_spec_l12Spot N) C_spec_l12Spot_raw (fun d r h => ⟨0, (F_spec_l12Spot_tot 0 d).trans h⟩)
theorem C_spec_l1Rising_raw (N : Nat) : Contract Tryd.prog 35 ⟨[(K_Si, false), (I, false), (I, false)], [.bool], true, F_spec_l1Rising N⟩ :=
  have E : Env Tryd.prog Γ_spec_l1Rising := env_of tab ⟨C_spec_l1In, trivial⟩
  con_of (Pc := [(0, ⟨spec_l1Rising_l0_h, spec_l1Rising_l0_o, spec_l1Rising_l0 N N⟩)]) E rfl mixed Tryd.func35 (by kernel_rfl) (by kernel_rfl) (by kernel_rfl) (by kernel_rfl) (fun A hA => ⟨pc_of (inner := []) E mixed hA (by kernel_rfl) (by kernel_rfl) (by kernel_rfl) trivial (fun _ => rfl) (fun m d => (spec_l1Rising_l0_ok N (spec_l1Rising_l0 N m) d).symm) N, trivial⟩) (F_spec_l1Rising_ok N)
theorem C_spec_l1Rising : Contract Tryd.prog 35 S_spec_l1Rising := Contract.less (fun N : Nat => F_spec_l1Rising N) C_spec_l1Rising_raw l1Rising_lim
theorem C_spec_l2Set_raw (N : Nat) : Contract Tryd.prog 23 ⟨[(K_PiSPiiqq, false), (K_Si, false)], [.bool], true, F_spec_l2Set N⟩ :=
  have E : Env Tryd.prog Γ_spec_l2Set := env_of tab ⟨C_spec_l1Rising, trivial⟩
  con_of (Pc := []) E rfl mixed Tryd.func23 (by kernel_rfl) (by kernel_rfl) (by kernel_rfl) (by kernel_rfl) (fun A hA => trivial) (F_spec_l2Set_ok N)
theorem C_spec_l2Set : Contract Tryd.prog 23 S_spec_l2Set := C_spec_l2Set_raw 0
theorem C_spec_l12Good_raw (N : Nat) : Contract Tryd.prog 11 ⟨[(K_PPiSPiiqqiiSiiq, false)], [.bool], true, F_spec_l12Good N⟩ :=
  have E : Env Tryd.prog Γ_spec_l12Good := env_of tab ⟨C_spec_l2Good, ⟨C_spec_l12Spot, ⟨C_spec_l2Set, ⟨C_spec_l1In, trivial⟩⟩⟩⟩
  con_of (Pc := []) E rfl mixed Tryd.func11 (by kernel_rfl) (by kernel_rfl) (by kernel_rfl) (by kernel_rfl) (fun A hA => trivial) (F_spec_l12Good_ok N)
theorem C_spec_l12Good : Contract Tryd.prog 11 S_spec_l12Good := C_spec_l12Good_raw 0
theorem C_spec_l1Split_raw (N : Nat) : Contract Tryd.prog 36 ⟨[(.str, false), ((.int .u8), false)], [K_Ss], true, F_spec_l1Split N⟩ :=
  have E : Env Tryd.prog Γ_spec_l1Split := env_of tab trivial
  con_of (Pc := [(0, ⟨spec_l1Split_l0_h, spec_l1Split_l0_o, spec_l1Split_l0 N N⟩)]) E rfl mixed Tryd.func36 (by kernel_rfl) (by kernel_rfl) (by kernel_rfl) (by kernel_rfl) (fun A hA => ⟨pc_of (inner := []) E mixed hA (by kernel_rfl) (by kernel_rfl) (by kernel_rfl) trivial (fun _ => rfl) (fun m d => (spec_l1Split_l0_ok N (spec_l1Split_l0 N m) d).symm) N, trivial⟩) (F_spec_l1Split_ok N)
theorem C_spec_l1Split : Contract Tryd.prog 36 S_spec_l1Split := Contract.less (fun N : Nat => F_spec_l1Split N) C_spec_l1Split_raw l1Split_lim
theorem C_spec_l1Num_raw : ∀ N : Nat, Contract Tryd.prog 46 ⟨[(I, false)], [.str], true, F_spec_l1Num N⟩
  | 0 => fun _ _ _ _ _ _ _ _ _ _ h => by cases h
  | N + 1 =>
    have E : Env Tryd.prog (Γ_spec_l1Num N) := env_of tab ⟨C_spec_l1Num_raw N, trivial⟩
    con_of (Pc := []) E rfl mixed Tryd.func46 (by kernel_rfl) (by kernel_rfl) (by kernel_rfl) (by kernel_rfl) (fun A hA => trivial) (F_spec_l1Num_ok N)
theorem C_spec_l1Num : Contract Tryd.prog 46 S_spec_l1Num := Contract.less (fun N : Nat => F_spec_l1Num N) C_spec_l1Num_raw l1Num_lim
theorem C_spec_l12Bytes_raw (N : Nat) : Contract Tryd.prog 58 ⟨[(.str, false), (I, false)], [.bool], true, F_spec_l12Bytes N⟩ :=
  have E : Env Tryd.prog Γ_spec_l12Bytes := env_of tab ⟨C_spec_l1In, trivial⟩
  con_of (Pc := [(0, ⟨spec_l12Bytes_l0_h, spec_l12Bytes_l0_o, spec_l12Bytes_l0 N N⟩)]) E rfl mixed Tryd.func58 (by kernel_rfl) (by kernel_rfl) (by kernel_rfl) (by kernel_rfl) (fun A hA => ⟨pc_of (inner := []) E mixed hA (by kernel_rfl) (by kernel_rfl) (by kernel_rfl) trivial (fun _ => rfl) (fun m d => (spec_l12Bytes_l0_ok N (spec_l12Bytes_l0 N m) d).symm) N, trivial⟩) (F_spec_l12Bytes_ok N)
theorem C_spec_l12Bytes : Contract Tryd.prog 58 S_spec_l12Bytes := Contract.less (fun N : Nat => F_spec_l12Bytes N) C_spec_l12Bytes_raw l12Bytes_lim
theorem C_spec_l1Stands_raw (N : Nat) : Contract Tryd.prog 59 ⟨[(.str, false), ((.int .u8), false)], [.bool], true, F_spec_l1Stands N⟩ :=
  have E : Env Tryd.prog Γ_spec_l1Stands := env_of tab trivial
  con_of (Pc := [(0, ⟨spec_l1Stands_l0_h, spec_l1Stands_l0_o, spec_l1Stands_l0 N N⟩)]) E rfl mixed Tryd.func59 (by kernel_rfl) (by kernel_rfl) (by kernel_rfl) (by kernel_rfl) (fun A hA => ⟨pc_of (inner := []) E mixed hA (by kernel_rfl) (by kernel_rfl) (by kernel_rfl) trivial (fun _ => rfl) (fun m d => (spec_l1Stands_l0_ok N (spec_l1Stands_l0 N m) d).symm) N, trivial⟩) (F_spec_l1Stands_ok N)
theorem C_spec_l1Stands : Contract Tryd.prog 59 S_spec_l1Stands := Contract.less (fun N : Nat => F_spec_l1Stands N) C_spec_l1Stands_raw l1Stands_lim
theorem C_spec_l12Record_raw (N : Nat) : Contract Tryd.prog 47 ⟨[(K_Pssq, false)], [.bool], true, F_spec_l12Record N⟩ :=
  have E : Env Tryd.prog Γ_spec_l12Record := env_of tab ⟨C_spec_l12Bytes, ⟨C_spec_l1Stands, trivial⟩⟩
  con_of (Pc := []) E rfl mixed Tryd.func47 (by kernel_rfl) (by kernel_rfl) (by kernel_rfl) (by kernel_rfl) (fun A hA => trivial) (F_spec_l12Record_ok N)
theorem C_spec_l12Record : Contract Tryd.prog 47 S_spec_l12Record := C_spec_l12Record_raw 0
theorem C_spec_l1Sum_raw (N : Nat) : Contract Tryd.prog 67 ⟨[(.str, false)], [I], true, F_spec_l1Sum N⟩ :=
  have E : Env Tryd.prog Γ_spec_l1Sum := env_of tab trivial
  con_of (Pc := [(0, ⟨spec_l1Sum_l0_h, spec_l1Sum_l0_o, spec_l1Sum_l0 N N⟩)]) E rfl mixed Tryd.func67 (by kernel_rfl) (by kernel_rfl) (by kernel_rfl) (by kernel_rfl) (fun A hA => ⟨pc_of (inner := []) E mixed hA (by kernel_rfl) (by kernel_rfl) (by kernel_rfl) trivial (fun _ => rfl) (fun m d => (spec_l1Sum_l0_ok N (spec_l1Sum_l0 N m) d).symm) N, trivial⟩) (F_spec_l1Sum_ok N)
theorem C_spec_l1Sum : Contract Tryd.prog 67 S_spec_l1Sum := Contract.less (fun N : Nat => F_spec_l1Sum N) C_spec_l1Sum_raw l1Sum_lim
theorem C_spec_l1Seal_raw (N : Nat) : Contract Tryd.prog 60 ⟨[(.str, false)], [.str], true, F_spec_l1Seal N⟩ :=
  have E : Env Tryd.prog Γ_spec_l1Seal := env_of tab ⟨C_spec_l1Num, ⟨C_spec_l1Sum, trivial⟩⟩
  con_of (Pc := []) E rfl mixed Tryd.func60 (by kernel_rfl) (by kernel_rfl) (by kernel_rfl) (by kernel_rfl) (fun A hA => trivial) (F_spec_l1Seal_ok N)
theorem C_spec_l1Seal : Contract Tryd.prog 60 S_spec_l1Seal := C_spec_l1Seal_raw 0
theorem C_spec_l12Line_raw (N : Nat) : Contract Tryd.prog 48 ⟨[(I, false), (K_Pssq, false)], [.str], true, F_spec_l12Line N⟩ :=
  have E : Env Tryd.prog Γ_spec_l12Line := env_of tab ⟨C_spec_l1Num, ⟨C_spec_l1Seal, trivial⟩⟩
  con_of (Pc := []) E rfl mixed Tryd.func48 (by kernel_rfl) (by kernel_rfl) (by kernel_rfl) (by kernel_rfl) (fun A hA => trivial) (F_spec_l12Line_ok N)
theorem C_spec_l12Line : Contract Tryd.prog 48 S_spec_l12Line := C_spec_l12Line_raw 0
theorem C_spec_l12Decode_raw (N : Nat) : Contract Tryd.prog 37 ⟨[(.str, false), (I, false)], [K_Pssq, .bool], true, F_spec_l12Decode N⟩ :=
  have E : Env Tryd.prog Γ_spec_l12Decode := env_of tab ⟨C_spec_l1Split, ⟨C_spec_l1Num, ⟨C_spec_l12Record, ⟨C_spec_l12Line, trivial⟩⟩⟩⟩
  con_of (Pc := []) E rfl mixed Tryd.func37 (by kernel_rfl) (by kernel_rfl) (by kernel_rfl) (by kernel_rfl) (fun A hA => trivial) (F_spec_l12Decode_ok N)
theorem C_spec_l12Decode : Contract Tryd.prog 37 S_spec_l12Decode := C_spec_l12Decode_raw 0
theorem C_spec_l12Open_raw (N : Nat) : Contract Tryd.prog 25 ⟨[(.str, false)], [K_SPssq, I], true, F_spec_l12Open N⟩ :=
  have E : Env Tryd.prog Γ_spec_l12Open := env_of tab ⟨C_spec_l1Split, ⟨C_spec_l12Decode, trivial⟩⟩
  con_of (Pc := [(0, ⟨spec_l12Open_l0_h, spec_l12Open_l0_o, spec_l12Open_l0 N N⟩)]) E rfl mixed Tryd.func25 (by kernel_rfl) (by kernel_rfl) (by kernel_rfl) (by kernel_rfl) (fun A hA => ⟨pc_of (inner := []) E mixed hA (by kernel_rfl) (by kernel_rfl) (by kernel_rfl) trivial (fun _ => rfl) (fun m d => (spec_l12Open_l0_ok N (spec_l12Open_l0 N m) d).symm) N, trivial⟩) (F_spec_l12Open_ok N)
theorem C_spec_l12Open : Contract Tryd.prog 25 S_spec_l12Open := Contract.less (fun N : Nat => F_spec_l12Open N) C_spec_l12Open_raw l12Open_lim
theorem C_spec_l12Valid_raw (N : Nat) : Contract Tryd.prog 12 ⟨[(K_Pssiq, false)], [.bool], true, F_spec_l12Valid N⟩ :=
  have E : Env Tryd.prog Γ_spec_l12Valid := env_of tab ⟨C_spec_l12Open, trivial⟩
  con_of (Pc := []) E rfl mixed Tryd.func12 (by kernel_rfl) (by kernel_rfl) (by kernel_rfl) (by kernel_rfl) (fun A hA => trivial) (F_spec_l12Valid_ok N)
theorem C_spec_l12Valid : Contract Tryd.prog 12 S_spec_l12Valid := C_spec_l12Valid_raw 0
theorem C_spec_IsValidConsole_raw (N : Nat) : Contract Tryd.prog 5 ⟨[(K_PPPiSPiiqqiiSiiqPssiqq, false)], [.bool], true, F_spec_IsValidConsole N⟩ :=
  have E : Env Tryd.prog Γ_spec_IsValidConsole := env_of tab ⟨C_spec_l12Good, ⟨C_spec_l12Valid, trivial⟩⟩
  con_of (Pc := []) E rfl mixed Tryd.func5 (by kernel_rfl) (by kernel_rfl) (by kernel_rfl) (by kernel_rfl) (fun A hA => trivial) (F_spec_IsValidConsole_ok N)
theorem C_spec_IsValidConsole : Contract Tryd.prog 5 S_spec_IsValidConsole := C_spec_IsValidConsole_raw 0
theorem C_impl_within_raw (N : Nat) : Contract Tryd.prog 29 ⟨[(I, false), (I, false), (I, false)], [.bool], true, F_impl_within N⟩ :=
  have E : Env Tryd.prog Γ_impl_within := env_of tab trivial
  con_of (Pc := []) E rfl mixed Tryd.func29 (by kernel_rfl) (by kernel_rfl) (by kernel_rfl) (by kernel_rfl) (fun A hA => trivial) (F_impl_within_ok N)
theorem C_impl_within : Contract Tryd.prog 29 S_impl_within := Contract.less (fun N : Nat => F_impl_within N) C_impl_within_raw (fun d r h => ⟨0, (F_impl_within_tot 0 d).trans h⟩)
theorem C_cmp_isNaN_int_raw (N : Nat) : Contract Tryd.prog 76 ⟨[(I, false)], [.bool], true, F_cmp_isNaN_int N⟩ :=
  have E : Env Tryd.prog Γ_cmp_isNaN_int := env_of tab trivial
  con_of (Pc := []) E rfl mixed Tryd.func76 (by kernel_rfl) (by kernel_rfl) (by kernel_rfl) (by kernel_rfl) (fun A hA => trivial) (F_cmp_isNaN_int_ok N)
theorem C_cmp_isNaN_int : Contract Tryd.prog 76 S_cmp_isNaN_int := Contract.less (fun N : Nat => F_cmp_isNaN_int N) C_cmp_isNaN_int_raw (fun d r h => ⟨0, (F_cmp_isNaN_int_tot 0 d).trans h⟩)
theorem C_cmp_Compare_int_raw (N : Nat) : Contract Tryd.prog 68 ⟨[(I, false), (I, false)], [I], true, F_cmp_Compare_int N⟩ :=
  have E : Env Tryd.prog Γ_cmp_Compare_int := env_of tab ⟨C_cmp_isNaN_int, trivial⟩
  con_of (Pc := []) E rfl mixed Tryd.func68 (by kernel_rfl) (by kernel_rfl) (by kernel_rfl) (by kernel_rfl) (fun A hA => trivial) (F_cmp_Compare_int_ok N)
theorem C_cmp_Compare_int : Contract Tryd.prog 68 S_cmp_Compare_int := Contract.less (fun N : Nat => F_cmp_Compare_int N) C_cmp_Compare_int_raw (fun d r h => ⟨0, (F_cmp_Compare_int_tot 0 d).trans h⟩)
theorem C_slices_Compare_Sint_int_raw (N : Nat) : Contract Tryd.prog 61 ⟨[(K_Si, false), (K_Si, false)], [I], true, F_slices_Compare_Sint_int N⟩ :=
  have E : Env Tryd.prog Γ_slices_Compare_Sint_int := env_of tab ⟨C_cmp_Compare_int, trivial⟩
  con_of (Pc := [(0, ⟨slices_Compare_Sint_int_l0_h, slices_Compare_Sint_int_l0_o, slices_Compare_Sint_int_l0 N N⟩)]) E rfl mixed Tryd.func61 (by kernel_rfl) (by kernel_rfl) (by kernel_rfl) (by kernel_rfl) (fun A hA => ⟨pc_of (inner := []) E mixed hA (by kernel_rfl) (by kernel_rfl) (by kernel_rfl) trivial (fun _ => rfl) (fun m d => (slices_Compare_Sint_int_l0_ok N (slices_Compare_Sint_int_l0 N m) d).symm) N, trivial⟩) (F_slices_Compare_Sint_int_ok N)
theorem C_slices_Compare_Sint_int : Contract Tryd.prog 61 S_slices_Compare_Sint_int := Contract.less (fun N : Nat => F_slices_Compare_Sint_int N) C_slices_Compare_Sint_int_raw compare_lim
theorem C_impl_IsGraph_raw (N : Nat) : Contract Tryd.prog 50 ⟨[(K_PiSPiiqq, false)], [.bool], true, F_impl_IsGraph N⟩ :=
  have E : Env Tryd.prog Γ_impl_IsGraph := env_of tab ⟨C_impl_within, ⟨C_slices_Compare_Sint_int, trivial⟩⟩
  con_of (Pc := [(0, ⟨impl_IsGraph_l0_h, impl_IsGraph_l0_o, impl_IsGraph_l0 N N⟩)]) E rfl mixed Tryd.func50 (by kernel_rfl) (by kernel_rfl) (by kernel_rfl) (by kernel_rfl) (fun A hA => ⟨pc_of (inner := []) E mixed hA (by kernel_rfl) (by kernel_rfl) (by kernel_rfl) trivial (fun _ => rfl) (fun m d => (impl_IsGraph_l0_ok N (impl_IsGraph_l0 N m) d).symm) N, trivial⟩) (F_impl_IsGraph_ok N)
theorem C_impl_IsGraph : Contract Tryd.prog 50 S_impl_IsGraph := Contract.less (fun N : Nat => F_impl_IsGraph N) C_impl_IsGraph_raw IsGraph_lim
theorem C_impl_allWithin_raw (N : Nat) : Contract Tryd.prog 51 ⟨[(K_Si, false), (I, false), (I, false)], [.bool], true, F_impl_allWithin N⟩ :=
  have E : Env Tryd.prog Γ_impl_allWithin := env_of tab ⟨C_impl_within, trivial⟩
  con_of (Pc := [(0, ⟨impl_allWithin_l0_h, impl_allWithin_l0_o, impl_allWithin_l0 N N⟩)]) E rfl mixed Tryd.func51 (by kernel_rfl) (by kernel_rfl) (by kernel_rfl) (by kernel_rfl) (fun A hA => ⟨pc_of (inner := []) E mixed hA (by kernel_rfl) (by kernel_rfl) (by kernel_rfl) trivial (fun _ => rfl) (fun m d => (impl_allWithin_l0_ok N (impl_allWithin_l0 N m) d).symm) N, trivial⟩) (F_impl_allWithin_ok N)
theorem C_impl_allWithin : Contract Tryd.prog 51 S_impl_allWithin := Contract.less (fun N : Nat => F_impl_allWithin N) C_impl_allWithin_raw allWithin_lim
theorem C_impl_hasNodes_raw (N : Nat) : Contract Tryd.prog 39 ⟨[(K_PiSPiiqq, false), (K_Si, false)], [.bool], true, F_impl_hasNodes N⟩ :=
  have E : Env Tryd.prog Γ_impl_hasNodes := env_of tab ⟨C_impl_IsGraph, ⟨C_impl_allWithin, trivial⟩⟩
  con_of (Pc := []) E rfl mixed Tryd.func39 (by kernel_rfl) (by kernel_rfl) (by kernel_rfl) (by kernel_rfl) (fun A hA => trivial) (F_impl_hasNodes_ok N)
theorem C_impl_hasNodes : Contract Tryd.prog 39 S_impl_hasNodes := C_impl_hasNodes_raw 0
theorem C_impl_increasing_raw (N : Nat) : Contract Tryd.prog 40 ⟨[(K_Si, false)], [.bool], true, F_impl_increasing N⟩ :=
  have E : Env Tryd.prog Γ_impl_increasing := env_of tab trivial
  con_of (Pc := [(0, ⟨impl_increasing_l0_h, impl_increasing_l0_o, impl_increasing_l0 N N⟩)]) E rfl mixed Tryd.func40 (by kernel_rfl) (by kernel_rfl) (by kernel_rfl) (by kernel_rfl) (fun A hA => ⟨pc_of (inner := []) E mixed hA (by kernel_rfl) (by kernel_rfl) (by kernel_rfl) trivial (fun _ => rfl) (fun m d => (impl_increasing_l0_ok N (impl_increasing_l0 N m) d).symm) N, trivial⟩) (F_impl_increasing_ok N)
theorem C_impl_increasing : Contract Tryd.prog 40 S_impl_increasing := Contract.less (fun N : Nat => F_impl_increasing N) C_impl_increasing_raw increasing_lim
theorem C_impl_isSet_raw (N : Nat) : Contract Tryd.prog 28 ⟨[(K_PiSPiiqq, false), (K_Si, false)], [.bool], true, F_impl_isSet N⟩ :=
  have E : Env Tryd.prog Γ_impl_isSet := env_of tab ⟨C_impl_hasNodes, ⟨C_impl_increasing, trivial⟩⟩
  con_of (Pc := []) E rfl mixed Tryd.func28 (by kernel_rfl) (by kernel_rfl) (by kernel_rfl) (by kernel_rfl) (fun A hA => trivial) (F_impl_isSet_ok N)
theorem C_impl_isSet : Contract Tryd.prog 28 S_impl_isSet := C_impl_isSet_raw 0
theorem C_impl_IsWorkshop_raw (N : Nat) : Contract Tryd.prog 15 ⟨[(K_PPiSPiiqqiiSiiq, false)], [.bool], true, F_impl_IsWorkshop N⟩ :=
  have E : Env Tryd.prog Γ_impl_IsWorkshop := env_of tab ⟨C_impl_isSet, ⟨C_impl_within, trivial⟩⟩
  con_of (Pc := []) E rfl mixed Tryd.func15 (by kernel_rfl) (by kernel_rfl) (by kernel_rfl) (by kernel_rfl) (fun A hA => trivial) (F_impl_IsWorkshop_ok N)
theorem C_impl_IsWorkshop : Contract Tryd.prog 15 S_impl_IsWorkshop := C_impl_IsWorkshop_raw 0
theorem C_impl_checksum_raw (N : Nat) : Contract Tryd.prog 64 ⟨[(.str, false)], [I], true, F_impl_checksum N⟩ :=
  have E : Env Tryd.prog Γ_impl_checksum := env_of tab trivial
  con_of (Pc := [(0, ⟨impl_checksum_l0_h, impl_checksum_l0_o, impl_checksum_l0 N N⟩)]) E rfl mixed Tryd.func64 (by kernel_rfl) (by kernel_rfl) (by kernel_rfl) (by kernel_rfl) (fun A hA => ⟨pc_of (inner := []) E mixed hA (by kernel_rfl) (by kernel_rfl) (by kernel_rfl) trivial (fun _ => rfl) (fun m d => (impl_checksum_l0_ok N (impl_checksum_l0 N m) d).symm) N, trivial⟩) (F_impl_checksum_ok N)
theorem C_impl_checksum : Contract Tryd.prog 64 S_impl_checksum := Contract.less (fun N : Nat => F_impl_checksum N) C_impl_checksum_raw checksum_lim
theorem C_impl_AppendChecksum_raw (N : Nat) : Contract Tryd.prog 53 ⟨[(.str, false)], [.str, .bool], true, F_impl_AppendChecksum N⟩ :=
  have E : Env Tryd.prog Γ_impl_AppendChecksum := env_of tab ⟨C_strconv_Itoa, ⟨C_strings_Contains, ⟨C_impl_checksum, trivial⟩⟩⟩
  con_of (Pc := []) E rfl mixed Tryd.func53 (by kernel_rfl) (by kernel_rfl) (by kernel_rfl) (by kernel_rfl) (fun A hA => trivial) (F_impl_AppendChecksum_ok N)
theorem C_impl_AppendChecksum : Contract Tryd.prog 53 S_impl_AppendChecksum := C_impl_AppendChecksum_raw 0
theorem C_impl_VerifyChecksum_raw (N : Nat) : Contract Tryd.prog 42 ⟨[(.str, false)], [.str, .bool], true, F_impl_VerifyChecksum N⟩ :=
  have E : Env Tryd.prog Γ_impl_VerifyChecksum := env_of tab ⟨C_strings_Cut, ⟨C_impl_AppendChecksum, trivial⟩⟩
  con_of (Pc := []) E rfl mixed Tryd.func42 (by kernel_rfl) (by kernel_rfl) (by kernel_rfl) (by kernel_rfl) (fun A hA => trivial) (F_impl_VerifyChecksum_ok N)
theorem C_impl_VerifyChecksum : Contract Tryd.prog 42 S_impl_VerifyChecksum := C_impl_VerifyChecksum_raw 0
theorem C_impl_isPrinted_raw (N : Nat) : Contract Tryd.prog 55 ⟨[(.str, false), (.str, false)], [.bool], true, F_impl_isPrinted N⟩ :=
  have E : Env Tryd.prog Γ_impl_isPrinted := env_of tab ⟨C_strings_ContainsAny, trivial⟩
  con_of (Pc := [(0, ⟨impl_isPrinted_l0_h, impl_isPrinted_l0_o, impl_isPrinted_l0 N N⟩)]) E rfl mixed Tryd.func55 (by kernel_rfl) (by kernel_rfl) (by kernel_rfl) (by kernel_rfl) (fun A hA => ⟨pc_of (inner := []) E mixed hA (by kernel_rfl) (by kernel_rfl) (by kernel_rfl) trivial (fun _ => rfl) (fun m d => (impl_isPrinted_l0_ok N (impl_isPrinted_l0 N m) d).symm) N, trivial⟩) (F_impl_isPrinted_ok N)
theorem C_impl_isPrinted : Contract Tryd.prog 55 S_impl_isPrinted := Contract.less (fun N : Nat => F_impl_isPrinted N) C_impl_isPrinted_raw isPrinted_lim
theorem C_impl_isCommand_raw (N : Nat) : Contract Tryd.prog 54 ⟨[(.str, false)], [.bool], true, F_impl_isCommand N⟩ :=
  have E : Env Tryd.prog Γ_impl_isCommand := env_of tab ⟨C_impl_within, ⟨C_impl_isPrinted, trivial⟩⟩
  con_of (Pc := []) E rfl mixed Tryd.func54 (by kernel_rfl) (by kernel_rfl) (by kernel_rfl) (by kernel_rfl) (fun A hA => trivial) (F_impl_isCommand_ok N)
theorem C_impl_isCommand : Contract Tryd.prog 54 S_impl_isCommand := C_impl_isCommand_raw 0
theorem C_impl_IsValidRecord_raw (N : Nat) : Contract Tryd.prog 43 ⟨[(K_Pssq, false)], [.bool], true, F_impl_IsValidRecord N⟩ :=
  have E : Env Tryd.prog Γ_impl_IsValidRecord := env_of tab ⟨C_impl_isCommand, ⟨C_impl_isPrinted, trivial⟩⟩
  con_of (Pc := []) E rfl mixed Tryd.func43 (by kernel_rfl) (by kernel_rfl) (by kernel_rfl) (by kernel_rfl) (fun A hA => trivial) (F_impl_IsValidRecord_ok N)
theorem C_impl_IsValidRecord : Contract Tryd.prog 43 S_impl_IsValidRecord := C_impl_IsValidRecord_raw 0
theorem C_impl_encodeRecord_raw (N : Nat) : Contract Tryd.prog 44 ⟨[(I, false), (K_Pssq, false)], [.str], true, F_impl_encodeRecord N⟩ :=
  have E : Env Tryd.prog Γ_impl_encodeRecord := env_of tab ⟨C_impl_AppendChecksum, ⟨C_strconv_Itoa, trivial⟩⟩
  con_of (Pc := []) E rfl mixed Tryd.func44 (by kernel_rfl) (by kernel_rfl) (by kernel_rfl) (by kernel_rfl) (fun A hA => trivial) (F_impl_encodeRecord_ok N)
theorem C_impl_encodeRecord : Contract Tryd.prog 44 S_impl_encodeRecord := C_impl_encodeRecord_raw 0
theorem C_impl_readRecords_raw (N : Nat) : Contract Tryd.prog 30 ⟨[(.str, false)], [K_SPssq, I], true, F_impl_readRecords N⟩ :=
  have E : Env Tryd.prog Γ_impl_readRecords := env_of tab ⟨C_strings_Cut, ⟨C_impl_VerifyChecksum, ⟨C_impl_IsValidRecord, ⟨C_impl_encodeRecord, trivial⟩⟩⟩⟩
  con_of (Pc := [(0, ⟨impl_readRecords_l0_h, impl_readRecords_l0_o, impl_readRecords_l0 N N⟩)]) E rfl mixed Tryd.func30 (by kernel_rfl) (by kernel_rfl) (by kernel_rfl) (by kernel_rfl) (fun A hA => ⟨pc_of (inner := []) E mixed hA (by kernel_rfl) (by kernel_rfl) (by kernel_rfl) trivial (fun _ => rfl) (fun m d => (impl_readRecords_l0_ok N (impl_readRecords_l0 N m) d).symm) N, trivial⟩) (F_impl_readRecords_ok N)
theorem C_impl_readRecords : Contract Tryd.prog 30 S_impl_readRecords := Contract.less (fun N : Nat => F_impl_readRecords N) C_impl_readRecords_raw readRecords_lim
theorem C_impl_IsValidLog_raw (N : Nat) : Contract Tryd.prog 16 ⟨[(K_Pssiq, false)], [.bool], true, F_impl_IsValidLog N⟩ :=
  have E : Env Tryd.prog Γ_impl_IsValidLog := env_of tab ⟨C_impl_readRecords, trivial⟩
  con_of (Pc := []) E rfl mixed Tryd.func16 (by kernel_rfl) (by kernel_rfl) (by kernel_rfl) (by kernel_rfl) (fun A hA => trivial) (F_impl_IsValidLog_ok N)
theorem C_impl_IsValidLog : Contract Tryd.prog 16 S_impl_IsValidLog := C_impl_IsValidLog_raw 0
theorem C_impl_IsValidConsole_raw (N : Nat) : Contract Tryd.prog 7 ⟨[(K_PPPiSPiiqqiiSiiqPssiqq, false)], [.bool], true, F_impl_IsValidConsole N⟩ :=
  have E : Env Tryd.prog Γ_impl_IsValidConsole := env_of tab ⟨C_impl_IsWorkshop, ⟨C_impl_IsValidLog, trivial⟩⟩
  con_of (Pc := []) E rfl mixed Tryd.func7 (by kernel_rfl) (by kernel_rfl) (by kernel_rfl) (by kernel_rfl) (fun A hA => trivial) (F_impl_IsValidConsole_ok N)
theorem C_impl_IsValidConsole : Contract Tryd.prog 7 S_impl_IsValidConsole := C_impl_IsValidConsole_raw 0
theorem C_laws_eqIntA2_raw (N : Nat) : Contract Tryd.prog 57 ⟨[(K_Piiq, false), (K_Piiq, false)], [.bool], true, F_laws_eqIntA2 N⟩ :=
  have E : Env Tryd.prog Γ_laws_eqIntA2 := env_of tab trivial
  con_of (Pc := [(0, ⟨laws_eqIntA2_l0_h, laws_eqIntA2_l0_o, laws_eqIntA2_l0 N N⟩)]) E rfl mixed Tryd.func57 (by kernel_rfl) (by kernel_rfl) (by kernel_rfl) (by kernel_rfl) (fun A hA => ⟨pc_of (inner := []) E mixed hA (by kernel_rfl) (by kernel_rfl) (by kernel_rfl) trivial (fun _ => rfl) (fun m d => (laws_eqIntA2_l0_ok N (laws_eqIntA2_l0 N m) d).symm) N, trivial⟩) (F_laws_eqIntA2_ok N)
theorem C_laws_eqIntA2 : Contract Tryd.prog 57 S_laws_eqIntA2 := Contract.less (fun N : Nat => F_laws_eqIntA2 N) C_laws_eqIntA2_raw eqIntA2_lim
theorem C_laws_eqIntA2S_raw (N : Nat) : Contract Tryd.prog 45 ⟨[(K_SPiiq, false), (K_SPiiq, false)], [.bool], true, F_laws_eqIntA2S N⟩ :=
  have E : Env Tryd.prog Γ_laws_eqIntA2S := env_of tab ⟨C_laws_eqIntA2, trivial⟩
  con_of (Pc := [(0, ⟨laws_eqIntA2S_l0_h, laws_eqIntA2S_l0_o, laws_eqIntA2S_l0 N N⟩)]) E rfl mixed Tryd.func45 (by kernel_rfl) (by kernel_rfl) (by kernel_rfl) (by kernel_rfl) (fun A hA => ⟨pc_of (inner := []) E mixed hA (by kernel_rfl) (by kernel_rfl) (by kernel_rfl) trivial (fun _ => rfl) (fun m d => (laws_eqIntA2S_l0_ok N (laws_eqIntA2S_l0 N m) d).symm) N, trivial⟩) (F_laws_eqIntA2S_ok N)
theorem C_laws_eqIntA2S : Contract Tryd.prog 45 S_laws_eqIntA2S := Contract.less (fun N : Nat => F_laws_eqIntA2S N) C_laws_eqIntA2S_raw eqIntA2S_lim
theorem C_laws_eqGraph_raw (N : Nat) : Contract Tryd.prog 31 ⟨[(K_PiSPiiqq, false), (K_PiSPiiqq, false)], [.bool], true, F_laws_eqGraph N⟩ :=
  have E : Env Tryd.prog Γ_laws_eqGraph := env_of tab ⟨C_laws_eqIntA2S, trivial⟩
  con_of (Pc := []) E rfl mixed Tryd.func31 (by kernel_rfl) (by kernel_rfl) (by kernel_rfl) (by kernel_rfl) (fun A hA => trivial) (F_laws_eqGraph_ok N)
theorem C_laws_eqGraph : Contract Tryd.prog 31 S_laws_eqGraph := C_laws_eqGraph_raw 0
theorem C_laws_eqIntS_raw (N : Nat) : Contract Tryd.prog 32 ⟨[(K_Si, false), (K_Si, false)], [.bool], true, F_laws_eqIntS N⟩ :=
  have E : Env Tryd.prog Γ_laws_eqIntS := env_of tab trivial
  con_of (Pc := [(0, ⟨laws_eqIntS_l0_h, laws_eqIntS_l0_o, laws_eqIntS_l0 N N⟩)]) E rfl mixed Tryd.func32 (by kernel_rfl) (by kernel_rfl) (by kernel_rfl) (by kernel_rfl) (fun A hA => ⟨pc_of (inner := []) E mixed hA (by kernel_rfl) (by kernel_rfl) (by kernel_rfl) trivial (fun _ => rfl) (fun m d => (laws_eqIntS_l0_ok N (laws_eqIntS_l0 N m) d).symm) N, trivial⟩) (F_laws_eqIntS_ok N)
theorem C_laws_eqIntS : Contract Tryd.prog 32 S_laws_eqIntS := Contract.less (fun N : Nat => F_laws_eqIntS N) C_laws_eqIntS_raw eqIntS_lim
theorem C_laws_eqWorkshop_raw (N : Nat) : Contract Tryd.prog 17 ⟨[(K_PPiSPiiqqiiSiiq, false), (K_PPiSPiiqqiiSiiq, false)], [.bool], true, F_laws_eqWorkshop N⟩ :=
  have E : Env Tryd.prog Γ_laws_eqWorkshop := env_of tab ⟨C_laws_eqGraph, ⟨C_laws_eqIntS, trivial⟩⟩
  con_of (Pc := []) E rfl mixed Tryd.func17 (by kernel_rfl) (by kernel_rfl) (by kernel_rfl) (by kernel_rfl) (fun A hA => trivial) (F_laws_eqWorkshop_ok N)
theorem C_laws_eqWorkshop : Contract Tryd.prog 17 S_laws_eqWorkshop := C_laws_eqWorkshop_raw 0
theorem C_laws_eqLog_raw (N : Nat) : Contract Tryd.prog 18 ⟨[(K_Pssiq, false), (K_Pssiq, false)], [.bool], true, F_laws_eqLog N⟩ :=
  have E : Env Tryd.prog Γ_laws_eqLog := env_of tab trivial
  con_of (Pc := []) E rfl mixed Tryd.func18 (by kernel_rfl) (by kernel_rfl) (by kernel_rfl) (by kernel_rfl) (fun A hA => trivial) (F_laws_eqLog_ok N)
theorem C_laws_eqLog : Contract Tryd.prog 18 S_laws_eqLog := Contract.less (fun N : Nat => F_laws_eqLog N) C_laws_eqLog_raw (fun d r h => ⟨0, (F_laws_eqLog_tot 0 d).trans h⟩)
theorem C_laws_eqConsole_raw (N : Nat) : Contract Tryd.prog 8 ⟨[(K_PPPiSPiiqqiiSiiqPssiqq, false), (K_PPPiSPiiqqiiSiiqPssiqq, false)], [.bool], true, F_laws_eqConsole N⟩ :=
  have E : Env Tryd.prog Γ_laws_eqConsole := env_of tab ⟨C_laws_eqWorkshop, ⟨C_laws_eqLog, trivial⟩⟩
  con_of (Pc := []) E rfl mixed Tryd.func8 (by kernel_rfl) (by kernel_rfl) (by kernel_rfl) (by kernel_rfl) (fun A hA => trivial) (F_laws_eqConsole_ok N)
theorem C_laws_eqConsole : Contract Tryd.prog 8 S_laws_eqConsole := C_laws_eqConsole_raw 0
theorem C_laws_FnExactIsValidConsole_raw (N : Nat) : Contract Tryd.prog 3 ⟨[(K_PPPiSPiiqqiiSiiqPssiqq, false)], [.bool], true, F_laws_FnExactIsValidConsole N⟩ :=
  have E : Env Tryd.prog Γ_laws_FnExactIsValidConsole := env_of tab ⟨C_laws_szConsole, ⟨C_spec_IsValidConsole, ⟨C_laws_toConsole, ⟨C_impl_IsValidConsole, ⟨C_laws_eqConsole, trivial⟩⟩⟩⟩⟩
  con_of (Pc := []) E rfl mixed Tryd.func3 (by kernel_rfl) (by kernel_rfl) (by kernel_rfl) (by kernel_rfl) (fun A hA => trivial) (F_laws_FnExactIsValidConsole_ok N)
theorem C_laws_FnExactIsValidConsole : Contract Tryd.prog 3 S_laws_FnExactIsValidConsole := C_laws_FnExactIsValidConsole_raw 0
end Go.V.W
