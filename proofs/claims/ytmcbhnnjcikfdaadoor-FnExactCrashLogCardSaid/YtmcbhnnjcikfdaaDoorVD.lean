/- What the law FnExactCrashLog leans on, part 4: an interpreter of the model as plain data, its soundness, the functions as it tells them, and their laws. -/
import Derived.Shelf.Lays
import Derived.Shelf.LaysM
import Derived.Shelf.Strings.IndexAnyAll
import Derived.Shelf.Strings.Cut
import Derived.Shelf.Strings.Search3
import Derived.Shelf.Strconv.Itoa3
import Derived.Test.YtmcbhnnjcikfdaaDoorVC
set_option linter.unusedVariables false
set_option linter.unusedSimpArgs false
set_option maxRecDepth 100000
namespace Go.V.W
open Go.Proofs Go.Shelf Go.RowKit
-- import Derived.Shelf.Lays
-- import Derived.Shelf.LaysM
-- import Derived.Test.XvLib2
-- import Derived.Shelf.Strings.IndexAnyAll
-- import Derived.Shelf.Strings.Cut
-- import Derived.Shelf.Strings.Search3
-- import Derived.Shelf.Strconv.Itoa3
def lays150_ren : Go.Shelf.Ren :=
{
  f := fun x =>
    match x with
    | 150 => 76
    | 153 => 82
    | 152 => 86
    | 226 => 87
    | 227 => 88
    | 228 => 89
    | 137 => 98
    | 119 => 99
    | 224 => 96
    | 225 => 95
    | 217 => 94
    | 266 => 105
    | n => n,
  t := fun x =>
    match x with
    | 9 => 9
    | 4 => 4
    | 3 => 3
    | 5 => 5
    | 21 => 21
    | 117 => 102
    | 116 => 101
    | 0 => 0
    | 46 => 96
    | 124 => 112
    | n => n,
  g := fun x =>
    x }
set_option maxRecDepth 1000000 in
theorem lays150 : Go.Proofs.Lays.n150 Go.Proofs.Tryd.prog lays150_ren :=
{ mixed := by kernel_rfl,
  f119 := (Go.Proofs.Tryd.func99).trans (congrArg some (by kernel_rfl)),
  f137 := (Go.Proofs.Tryd.func98).trans (congrArg some (by kernel_rfl)),
  f150 := (Go.Proofs.Tryd.func76).trans (congrArg some (by kernel_rfl)),
  f152 := (Go.Proofs.Tryd.func86).trans (congrArg some (by kernel_rfl)),
  f153 := (Go.Proofs.Tryd.func82).trans (congrArg some (by kernel_rfl)),
  f217 := (Go.Proofs.Tryd.func94).trans (congrArg some (by kernel_rfl)),
  f224 := (Go.Proofs.Tryd.func96).trans (congrArg some (by kernel_rfl)),
  f225 := (Go.Proofs.Tryd.func95).trans (congrArg some (by kernel_rfl)),
  f226 := (Go.Proofs.Tryd.func87).trans (congrArg some (by kernel_rfl)),
  f227 := (Go.Proofs.Tryd.func88).trans (congrArg some (by kernel_rfl)),
  f228 := (Go.Proofs.Tryd.func89).trans (congrArg some (by kernel_rfl)),
  f266 := (Go.Proofs.Tryd.func105).trans (congrArg some (by kernel_rfl)),
  t0 := Go.Proofs.Tryd.underlying0,
  a0 := Go.Proofs.Tryd.isAgg0,
  z0 := Go.Proofs.Tryd.sizeOf0,
  v0 := Go.Proofs.Tryd.zeroValue0,
  t3 := Go.Proofs.Tryd.underlying3,
  a3 := Go.Proofs.Tryd.isAgg3,
  z3 := Go.Proofs.Tryd.sizeOf3,
  v3 := Go.Proofs.Tryd.zeroValue3,
  t4 := Go.Proofs.Tryd.underlying4,
  a4 := Go.Proofs.Tryd.isAgg4,
  z4 := Go.Proofs.Tryd.sizeOf4,
  v4 := Go.Proofs.Tryd.zeroValue4,
  t5 := Go.Proofs.Tryd.underlying5,
  a5 := Go.Proofs.Tryd.isAgg5,
  z5 := Go.Proofs.Tryd.sizeOf5,
  v5 := Go.Proofs.Tryd.zeroValue5,
  t9 := Go.Proofs.Tryd.underlying9,
  a9 := Go.Proofs.Tryd.isAgg9,
  z9 := Go.Proofs.Tryd.sizeOf9,
  v9 := Go.Proofs.Tryd.zeroValue9,
  t21 := Go.Proofs.Tryd.underlying21,
  a21 := Go.Proofs.Tryd.isAgg21,
  z21 := Go.Proofs.Tryd.sizeOf21,
  v21 := Go.Proofs.Tryd.zeroValue21,
  t46 := Go.Proofs.Tryd.underlying96,
  a46 := Go.Proofs.Tryd.isAgg96,
  z46 := Go.Proofs.Tryd.sizeOf96,
  v46 := Go.Proofs.Tryd.zeroValue96,
  t116 := Go.Proofs.Tryd.underlying101,
  a116 := Go.Proofs.Tryd.isAgg101,
  z116 := Go.Proofs.Tryd.sizeOf101,
  t117 := Go.Proofs.Tryd.underlying102,
  a117 := Go.Proofs.Tryd.isAgg102,
  z117 := Go.Proofs.Tryd.sizeOf102,
  v117 := Go.Proofs.Tryd.zeroValue102,
  t124 := Go.Proofs.Tryd.underlying112,
  a124 := Go.Proofs.Tryd.isAgg112,
  z124 := Go.Proofs.Tryd.sizeOf112,
  v124 := Go.Proofs.Tryd.zeroValue112 }
def lays145_ren : Go.Shelf.Ren :=
{
  f := fun x =>
    match x with
    | 145 => 72
    | 220 => 81
    | 219 => 85
    | 217 => 94
    | 225 => 95
    | 224 => 96
    | 267 => 97
    | 266 => 105
    | 314 => 106
    | n => n,
  t := fun x =>
    match x with
    | 9 => 9
    | 4 => 4
    | 59 => 91
    | 3 => 3
    | 5 => 5
    | 46 => 96
    | 146 => 118
    | 51 => 115
    | n => n,
  g := fun x =>
    match x with
    | 1 => 0
    | n => n }
set_option maxRecDepth 1000000 in
theorem lays145 : Go.Proofs.Lays.n145 Go.Proofs.Tryd.prog lays145_ren :=
{ mixed := by kernel_rfl,
  f145 := (Go.Proofs.Tryd.func72).trans (congrArg some (by kernel_rfl)),
  f217 := (Go.Proofs.Tryd.func94).trans (congrArg some (by kernel_rfl)),
  f219 := (Go.Proofs.Tryd.func85).trans (congrArg some (by kernel_rfl)),
  f220 := (Go.Proofs.Tryd.func81).trans (congrArg some (by kernel_rfl)),
  f224 := (Go.Proofs.Tryd.func96).trans (congrArg some (by kernel_rfl)),
  f225 := (Go.Proofs.Tryd.func95).trans (congrArg some (by kernel_rfl)),
  f266 := (Go.Proofs.Tryd.func105).trans (congrArg some (by kernel_rfl)),
  f267 := (Go.Proofs.Tryd.func97).trans (congrArg some (by kernel_rfl)),
  f314 := (Go.Proofs.Tryd.func106).trans (congrArg some (by kernel_rfl)),
  t3 := Go.Proofs.Tryd.underlying3,
  a3 := Go.Proofs.Tryd.isAgg3,
  z3 := Go.Proofs.Tryd.sizeOf3,
  v3 := Go.Proofs.Tryd.zeroValue3,
  t4 := Go.Proofs.Tryd.underlying4,
  a4 := Go.Proofs.Tryd.isAgg4,
  z4 := Go.Proofs.Tryd.sizeOf4,
  v4 := Go.Proofs.Tryd.zeroValue4,
  t5 := Go.Proofs.Tryd.underlying5,
  a5 := Go.Proofs.Tryd.isAgg5,
  z5 := Go.Proofs.Tryd.sizeOf5,
  v5 := Go.Proofs.Tryd.zeroValue5,
  t9 := Go.Proofs.Tryd.underlying9,
  a9 := Go.Proofs.Tryd.isAgg9,
  z9 := Go.Proofs.Tryd.sizeOf9,
  v9 := Go.Proofs.Tryd.zeroValue9,
  t46 := Go.Proofs.Tryd.underlying96,
  a46 := Go.Proofs.Tryd.isAgg96,
  z46 := Go.Proofs.Tryd.sizeOf96,
  v46 := Go.Proofs.Tryd.zeroValue96,
  t51 := Go.Proofs.Tryd.underlying115,
  a51 := Go.Proofs.Tryd.isAgg115,
  z51 := Go.Proofs.Tryd.sizeOf115,
  v51 := Go.Proofs.Tryd.zeroValue115,
  t59 := Go.Proofs.Tryd.underlying91,
  a59 := Go.Proofs.Tryd.isAgg91,
  z59 := Go.Proofs.Tryd.sizeOf91,
  v59 := Go.Proofs.Tryd.zeroValue91,
  t146 := Go.Proofs.Tryd.underlying118,
  a146 := Go.Proofs.Tryd.isAgg118,
  z146 := Go.Proofs.Tryd.sizeOf118,
  v146 := Go.Proofs.Tryd.zeroValue118,
  g1 := by kernel_rfl }
def lays144_ren : Go.Shelf.Ren :=
{
  f := fun x =>
    match x with
    | 144 => 78
    | 143 => 83
    | 219 => 85
    | 217 => 94
    | 225 => 95
    | 224 => 96
    | 267 => 97
    | 266 => 105
    | 314 => 106
    | n => n,
  t := fun x =>
    match x with
    | 9 => 9
    | 4 => 4
    | 3 => 3
    | 5 => 5
    | 46 => 96
    | 146 => 118
    | 51 => 115
    | n => n,
  g := fun x =>
    match x with
    | 1 => 0
    | n => n }
set_option maxRecDepth 1000000 in
theorem lays144 : Go.Proofs.Lays.n144 Go.Proofs.Tryd.prog lays144_ren :=
{ mixed := by kernel_rfl,
  f143 := (Go.Proofs.Tryd.func83).trans (congrArg some (by kernel_rfl)),
  f144 := (Go.Proofs.Tryd.func78).trans (congrArg some (by kernel_rfl)),
  f217 := (Go.Proofs.Tryd.func94).trans (congrArg some (by kernel_rfl)),
  f219 := (Go.Proofs.Tryd.func85).trans (congrArg some (by kernel_rfl)),
  f224 := (Go.Proofs.Tryd.func96).trans (congrArg some (by kernel_rfl)),
  f225 := (Go.Proofs.Tryd.func95).trans (congrArg some (by kernel_rfl)),
  f266 := (Go.Proofs.Tryd.func105).trans (congrArg some (by kernel_rfl)),
  f267 := (Go.Proofs.Tryd.func97).trans (congrArg some (by kernel_rfl)),
  f314 := (Go.Proofs.Tryd.func106).trans (congrArg some (by kernel_rfl)),
  t3 := Go.Proofs.Tryd.underlying3,
  a3 := Go.Proofs.Tryd.isAgg3,
  z3 := Go.Proofs.Tryd.sizeOf3,
  v3 := Go.Proofs.Tryd.zeroValue3,
  t4 := Go.Proofs.Tryd.underlying4,
  a4 := Go.Proofs.Tryd.isAgg4,
  z4 := Go.Proofs.Tryd.sizeOf4,
  v4 := Go.Proofs.Tryd.zeroValue4,
  t5 := Go.Proofs.Tryd.underlying5,
  a5 := Go.Proofs.Tryd.isAgg5,
  z5 := Go.Proofs.Tryd.sizeOf5,
  v5 := Go.Proofs.Tryd.zeroValue5,
  t9 := Go.Proofs.Tryd.underlying9,
  a9 := Go.Proofs.Tryd.isAgg9,
  z9 := Go.Proofs.Tryd.sizeOf9,
  v9 := Go.Proofs.Tryd.zeroValue9,
  t46 := Go.Proofs.Tryd.underlying96,
  a46 := Go.Proofs.Tryd.isAgg96,
  z46 := Go.Proofs.Tryd.sizeOf96,
  v46 := Go.Proofs.Tryd.zeroValue96,
  t51 := Go.Proofs.Tryd.underlying115,
  a51 := Go.Proofs.Tryd.isAgg115,
  z51 := Go.Proofs.Tryd.sizeOf115,
  v51 := Go.Proofs.Tryd.zeroValue115,
  t146 := Go.Proofs.Tryd.underlying118,
  a146 := Go.Proofs.Tryd.isAgg118,
  z146 := Go.Proofs.Tryd.sizeOf118,
  v146 := Go.Proofs.Tryd.zeroValue118,
  g1 := by kernel_rfl }
def lays171_ren : Go.Shelf.Ren :=
{
  f := fun x =>
    match x with
    | 171 => 69
    | 243 => 80
    | 246 => 84
    | 283 => 90
    | 284 => 91
    | 285 => 92
    | 286 => 93
    | 129 => 101
    | 317 => 100
    | 318 => 102
    | 319 => 103
    | 320 => 104
    | 337 => 107
    | 338 => 108
    | n => n,
  t := fun x =>
    match x with
    | 3 => 3
    | 9 => 9
    | 2 => 2
    | 4 => 4
    | 171 => 105
    | 0 => 0
    | 53 => 72
    | 37 => 53
    | 5 => 5
    | 173 => 108
    | 212 => 114
    | 51 => 115
    | 20 => 20
    | 213 => 116
    | 46 => 96
    | 232 => 121
    | 233 => 122
    | n => n,
  g := fun x =>
    match x with
    | 17 => 1
    | 18 => 2
    | 19 => 3
    | n => n }
set_option maxRecDepth 1000000 in
theorem lays171 : Go.Proofs.LaysM.n171 Go.Proofs.Tryd.prog lays171_ren :=
{ mixed := by kernel_rfl,
  f129 := (Go.Proofs.Tryd.func101).trans (congrArg some (by kernel_rfl)),
  f171 := (Go.Proofs.Tryd.func69).trans (congrArg some (by kernel_rfl)),
  f243 := (Go.Proofs.Tryd.func80).trans (congrArg some (by kernel_rfl)),
  f246 := (Go.Proofs.Tryd.func84).trans (congrArg some (by kernel_rfl)),
  f283 := (Go.Proofs.Tryd.func90).trans (congrArg some (by kernel_rfl)),
  f284 := (Go.Proofs.Tryd.func91).trans (congrArg some (by kernel_rfl)),
  f285 := (Go.Proofs.Tryd.func92).trans (congrArg some (by kernel_rfl)),
  f286 := (Go.Proofs.Tryd.func93).trans (congrArg some (by kernel_rfl)),
  f317 := (Go.Proofs.Tryd.func100).trans (congrArg some (by kernel_rfl)),
  f318 := (Go.Proofs.Tryd.func102).trans (congrArg some (by kernel_rfl)),
  f319 := (Go.Proofs.Tryd.func103).trans (congrArg some (by kernel_rfl)),
  f320 := (Go.Proofs.Tryd.func104).trans (congrArg some (by kernel_rfl)),
  f337 := (Go.Proofs.Tryd.func107).trans (congrArg some (by kernel_rfl)),
  f338 := (Go.Proofs.Tryd.func108).trans (congrArg some (by kernel_rfl)),
  t0 := Go.Proofs.Tryd.underlying0,
  a0 := Go.Proofs.Tryd.isAgg0,
  z0 := Go.Proofs.Tryd.sizeOf0,
  v0 := Go.Proofs.Tryd.zeroValue0,
  t2 := Go.Proofs.Tryd.underlying2,
  a2 := Go.Proofs.Tryd.isAgg2,
  z2 := Go.Proofs.Tryd.sizeOf2,
  v2 := Go.Proofs.Tryd.zeroValue2,
  t3 := Go.Proofs.Tryd.underlying3,
  a3 := Go.Proofs.Tryd.isAgg3,
  z3 := Go.Proofs.Tryd.sizeOf3,
  v3 := Go.Proofs.Tryd.zeroValue3,
  t4 := Go.Proofs.Tryd.underlying4,
  a4 := Go.Proofs.Tryd.isAgg4,
  z4 := Go.Proofs.Tryd.sizeOf4,
  v4 := Go.Proofs.Tryd.zeroValue4,
  t5 := Go.Proofs.Tryd.underlying5,
  a5 := Go.Proofs.Tryd.isAgg5,
  z5 := Go.Proofs.Tryd.sizeOf5,
  v5 := Go.Proofs.Tryd.zeroValue5,
  t9 := Go.Proofs.Tryd.underlying9,
  a9 := Go.Proofs.Tryd.isAgg9,
  z9 := Go.Proofs.Tryd.sizeOf9,
  v9 := Go.Proofs.Tryd.zeroValue9,
  t20 := Go.Proofs.Tryd.underlying20,
  a20 := Go.Proofs.Tryd.isAgg20,
  z20 := Go.Proofs.Tryd.sizeOf20,
  v20 := Go.Proofs.Tryd.zeroValue20,
  t37 := Go.Proofs.Tryd.underlying53,
  a37 := Go.Proofs.Tryd.isAgg53,
  z37 := Go.Proofs.Tryd.sizeOf53,
  v37 := Go.Proofs.Tryd.zeroValue53,
  t46 := Go.Proofs.Tryd.underlying96,
  a46 := Go.Proofs.Tryd.isAgg96,
  z46 := Go.Proofs.Tryd.sizeOf96,
  v46 := Go.Proofs.Tryd.zeroValue96,
  t51 := Go.Proofs.Tryd.underlying115,
  a51 := Go.Proofs.Tryd.isAgg115,
  z51 := Go.Proofs.Tryd.sizeOf115,
  v51 := Go.Proofs.Tryd.zeroValue115,
  t53 := Go.Proofs.Tryd.underlying72,
  a53 := Go.Proofs.Tryd.isAgg72,
  z53 := Go.Proofs.Tryd.sizeOf72,
  v53 := Go.Proofs.Tryd.zeroValue72,
  t171 := Go.Proofs.Tryd.underlying105,
  a171 := Go.Proofs.Tryd.isAgg105,
  z171 := Go.Proofs.Tryd.sizeOf105,
  v171 := Go.Proofs.Tryd.zeroValue105,
  t173 := Go.Proofs.Tryd.underlying108,
  a173 := Go.Proofs.Tryd.isAgg108,
  z173 := Go.Proofs.Tryd.sizeOf108,
  v173 := Go.Proofs.Tryd.zeroValue108,
  t212 := Go.Proofs.Tryd.underlying114,
  a212 := Go.Proofs.Tryd.isAgg114,
  z212 := Go.Proofs.Tryd.sizeOf114,
  v212 := Go.Proofs.Tryd.zeroValue114,
  t213 := Go.Proofs.Tryd.underlying116,
  a213 := Go.Proofs.Tryd.isAgg116,
  z213 := Go.Proofs.Tryd.sizeOf116,
  t232 := Go.Proofs.Tryd.underlying121,
  a232 := Go.Proofs.Tryd.isAgg121,
  z232 := Go.Proofs.Tryd.sizeOf121,
  v232 := Go.Proofs.Tryd.zeroValue121,
  t233 := Go.Proofs.Tryd.underlying122,
  a233 := Go.Proofs.Tryd.isAgg122,
  z233 := Go.Proofs.Tryd.sizeOf122,
  v233 := Go.Proofs.Tryd.zeroValue122,
  g17 := by kernel_rfl,
  g18 := by kernel_rfl,
  g19 := by kernel_rfl,
  i0 := by kernel_rfl,
  i2 := by kernel_rfl,
  i3 := by kernel_rfl,
  i4 := by kernel_rfl,
  i5 := by kernel_rfl,
  i9 := by kernel_rfl,
  i20 := by kernel_rfl,
  i37 := by kernel_rfl,
  i46 := by kernel_rfl,
  i51 := by kernel_rfl,
  i53 := by kernel_rfl,
  i171 := by kernel_rfl,
  i173 := by kernel_rfl,
  i212 := by kernel_rfl,
  i232 := by kernel_rfl,
  i233 := by kernel_rfl,
  m17 := by kernel_rfl,
  m18 := by kernel_rfl,
  m19 := by kernel_rfl }
theorem tab : TabOk Tryd.prog (assoc tks) (assoc ars) := tab_of (by kernel_rfl)
theorem mixed : Tryd.prog.follows .mixedOrders = true := by kernel_rfl
theorem set150 : (Tryd.prog.info? (lays150_ren.t 116)).map (fun i => (i.zero, i.size)) = some (some (.agg (Array.replicate 256 (.bool false))), 256) := by kernel_rfl
theorem ascii_get {s : ByteArray} (h : asciiB s = true) : ∀ (j : Nat) b, s.data.toList[j]? = some b → b.toNat < 128 := fun j b hb => of_decide_eq_true (List.all_eq_true.1 h b (List.mem_of_getElem? hb))
theorem C_strings_ContainsAny : Contract Tryd.prog 76 S_strings_ContainsAny :=
  con_ssb (pre := fun s c => asciiB s = true ∧ asciiB c = true ∧ smallB s = true ∧ smallB c = true) (B := fun s c => Lib.containsAny s.data.toList c.data.toList) (enters_of Tryd.func76 (by kernel_rfl) rfl)
    (fun s c w h => Any.strings_ContainsAny_laid lays150 set150 s c w (of_decide_eq_true h.2.2.1) (of_decide_eq_true h.2.2.2) (ascii_get h.1) (ascii_get h.2.1))
    (fun d r h => by
      unfold G_containsAny at h
      split at h
      · rename_i hc
        simp only [Bool.and_eq_true] at hc
        exact ⟨⟨hc.1.1.1, hc.1.1.2, hc.1.2, hc.2⟩, (Option.some.inj h).symm⟩
      · cases h)
theorem C_strings_Cut : Contract Tryd.prog 72 S_strings_Cut :=
  con_sssbM (g := lays145_ren.g 1) (by kernel_rfl) (pre := fun s _ => smallB s = true) (B := fun s c => (ba (Lib.cut (bl s) (bl c)).1, ba (Lib.cut (bl s) (bl c)).2.1, (Lib.cut (bl s) (bl c)).2.2)) (enters_of Tryd.func72 (by kernel_rfl) rfl)
    (fun s c m w h hm => (Any.strings_Cut lays145 s c m w (of_decide_eq_true h) hm).mono fun e w' he => by
      obtain ⟨h1, n, rfl⟩ := he
      exact ⟨h1, below_drewN2 w n⟩)
    (fun d r h => by
      unfold G_cut at h
      split at h
      · rename_i hc
        exact ⟨hc, (Option.some.inj h).symm⟩
      · cases h)
theorem C_strings_Contains : Contract Tryd.prog 78 S_strings_Contains :=
  con_ssbM (g := lays144_ren.g 1) (by kernel_rfl) (pre := fun s _ => smallB s = true) (B := fun s c => Lib.contains (bl s) (bl c)) (enters_of Tryd.func78 (by kernel_rfl) rfl)
    (fun s c m w h hm => (Any.strings_Contains lays144 s c m w (of_decide_eq_true h) hm).mono fun e w' he => by
      obtain ⟨h1, rfl⟩ := he
      exact ⟨h1, Below.refl _ _⟩)
    (fun d r h => by
      unfold G_contains at h
      split at h
      · rename_i hc
        exact ⟨hc, (Option.some.inj h).symm⟩
      · cases h)
theorem pow10_cells : (pow10s.map fun z => Value.int .u64 z).toArray = (Lib.pow10Tab.map fun z => Value.int .u64 z).toArray := by rw [show pow10s = Lib.pow10Tab by decide]
theorem C_strconv_Itoa : Contract Tryd.prog 69 S_strconv_Itoa :=
  con_itoa (g := lays171_ren.g 17) (by kernel_rfl) (B := fun n => ba (Lib.itoa n)) (enters_of Tryd.func69 (by kernel_rfl) rfl)
    (fun n w h0 h1 hv => (Any.strconv_Itoa lays171 n h0 h1 w (hv.trans (congrArg some pow10_cells))).mono fun e w' he => by
      obtain ⟨h1, k, os, rfl⟩ := he
      exact ⟨h1, below_grow2 w k os⟩)
    (fun d r h => by
      unfold G_itoa at h
      split at h
      · rename_i hc
        simp only [Bool.and_eq_true, decide_eq_true_eq] at hc
        exact ⟨hc, (Option.some.inj h).symm⟩
      · cases h)
theorem C_laws_szLog_raw (N : Nat) : Contract Tryd.prog 19 ⟨[(K_Pssiq, false), (I, false)], [I], true, F_laws_szLog N⟩ :=
  have E : Env Tryd.prog Γ_laws_szLog := env_of tab trivial
  con_of (Pc := []) E mixed Tryd.func19 (by kernel_rfl) (by kernel_rfl) (by kernel_rfl) (by kernel_rfl) (fun A hA => trivial) (F_laws_szLog_ok N)
theorem C_laws_szLog : Contract Tryd.prog 19 S_laws_szLog := Contract.less (fun N : Nat => F_laws_szLog N) C_laws_szLog_raw (fun d r h => ⟨0, (F_laws_szLog_tot 0 d).trans h⟩)
theorem C_laws_toLog_raw (N : Nat) : Contract Tryd.prog 21 ⟨[(K_Pssiq, false)], [K_Pssiq], true, F_laws_toLog N⟩ :=
  have E : Env Tryd.prog Γ_laws_toLog := env_of tab trivial
  con_of (Pc := []) E mixed Tryd.func21 (by kernel_rfl) (by kernel_rfl) (by kernel_rfl) (by kernel_rfl) (fun A hA => trivial) (F_laws_toLog_ok N)
theorem C_laws_toLog : Contract Tryd.prog 21 S_laws_toLog := Contract.less (fun N : Nat => F_laws_toLog N) C_laws_toLog_raw (fun d r h => ⟨0, (F_laws_toLog_tot 0 d).trans h⟩)
theorem C_spec_l1Split_raw (N : Nat) : Contract Tryd.prog 70 ⟨[(.str, false), ((.int .u8), false)], [K_Ss], true, F_spec_l1Split N⟩ :=
  have E : Env Tryd.prog Γ_spec_l1Split := env_of tab trivial
  con_of (Pc := [(0, ⟨spec_l1Split_l0_h, spec_l1Split_l0_o, spec_l1Split_l0 N N⟩)]) E mixed Tryd.func70 (by kernel_rfl) (by kernel_rfl) (by kernel_rfl) (by kernel_rfl) (fun A hA => ⟨pc_of (inner := []) E mixed hA (by kernel_rfl) (by kernel_rfl) (by kernel_rfl) trivial (fun _ => rfl) (fun m d => (spec_l1Split_l0_ok N (spec_l1Split_l0 N m) d).symm) N, trivial⟩) (F_spec_l1Split_ok N)
theorem C_spec_l1Split : Contract Tryd.prog 70 S_spec_l1Split := Contract.less (fun N : Nat => F_spec_l1Split N) C_spec_l1Split_raw l1Split_lim
theorem C_spec_l1Num_raw : ∀ N : Nat, Contract Tryd.prog 67 ⟨[(I, false)], [.str], true, F_spec_l1Num N⟩
  | 0 => fun _ _ _ _ _ _ _ _ _ _ h => by cases h
  | N + 1 =>
    have E : Env Tryd.prog (Γ_spec_l1Num N) := env_of tab ⟨C_spec_l1Num_raw N, trivial⟩
    con_of (Pc := []) E mixed Tryd.func67 (by kernel_rfl) (by kernel_rfl) (by kernel_rfl) (by kernel_rfl) (fun A hA => trivial) (F_spec_l1Num_ok N)
theorem C_spec_l1Num : Contract Tryd.prog 67 S_spec_l1Num := Contract.less (fun N : Nat => F_spec_l1Num N) C_spec_l1Num_raw l1Num_lim
theorem C_spec_l1In_raw (N : Nat) : Contract Tryd.prog 45 ⟨[(I, false), (I, false), (I, false)], [.bool], true, F_spec_l1In N⟩ :=
  have E : Env Tryd.prog Γ_spec_l1In := env_of tab trivial
  con_of (Pc := []) E mixed Tryd.func45 (by kernel_rfl) (by kernel_rfl) (by kernel_rfl) (by kernel_rfl) (fun A hA => trivial) (F_spec_l1In_ok N)
theorem C_spec_l1In : Contract Tryd.prog 45 S_spec_l1In := Contract.less (fun N : Nat => F_spec_l1In N) C_spec_l1In_raw (fun d r h => ⟨0, (F_spec_l1In_tot 0 d).trans h⟩)
theorem C_spec_l12Bytes_raw (N : Nat) : Contract Tryd.prog 64 ⟨[(.str, false), (I, false)], [.bool], true, F_spec_l12Bytes N⟩ :=
  have E : Env Tryd.prog Γ_spec_l12Bytes := env_of tab ⟨C_spec_l1In, trivial⟩
  con_of (Pc := [(0, ⟨spec_l12Bytes_l0_h, spec_l12Bytes_l0_o, spec_l12Bytes_l0 N N⟩)]) E mixed Tryd.func64 (by kernel_rfl) (by kernel_rfl) (by kernel_rfl) (by kernel_rfl) (fun A hA => ⟨pc_of (inner := []) E mixed hA (by kernel_rfl) (by kernel_rfl) (by kernel_rfl) trivial (fun _ => rfl) (fun m d => (spec_l12Bytes_l0_ok N (spec_l12Bytes_l0 N m) d).symm) N, trivial⟩) (F_spec_l12Bytes_ok N)
theorem C_spec_l12Bytes : Contract Tryd.prog 64 S_spec_l12Bytes := Contract.less (fun N : Nat => F_spec_l12Bytes N) C_spec_l12Bytes_raw l12Bytes_lim
theorem C_spec_l1Stands_raw (N : Nat) : Contract Tryd.prog 65 ⟨[(.str, false), ((.int .u8), false)], [.bool], true, F_spec_l1Stands N⟩ :=
  have E : Env Tryd.prog Γ_spec_l1Stands := env_of tab trivial
  con_of (Pc := [(0, ⟨spec_l1Stands_l0_h, spec_l1Stands_l0_o, spec_l1Stands_l0 N N⟩)]) E mixed Tryd.func65 (by kernel_rfl) (by kernel_rfl) (by kernel_rfl) (by kernel_rfl) (fun A hA => ⟨pc_of (inner := []) E mixed hA (by kernel_rfl) (by kernel_rfl) (by kernel_rfl) trivial (fun _ => rfl) (fun m d => (spec_l1Stands_l0_ok N (spec_l1Stands_l0 N m) d).symm) N, trivial⟩) (F_spec_l1Stands_ok N)
theorem C_spec_l1Stands : Contract Tryd.prog 65 S_spec_l1Stands := Contract.less (fun N : Nat => F_spec_l1Stands N) C_spec_l1Stands_raw l1Stands_lim
theorem C_spec_l12Record_raw (N : Nat) : Contract Tryd.prog 46 ⟨[(K_Pssq, false)], [.bool], true, F_spec_l12Record N⟩ :=
  have E : Env Tryd.prog Γ_spec_l12Record := env_of tab ⟨C_spec_l12Bytes, ⟨C_spec_l1Stands, trivial⟩⟩
  con_of (Pc := []) E mixed Tryd.func46 (by kernel_rfl) (by kernel_rfl) (by kernel_rfl) (by kernel_rfl) (fun A hA => trivial) (F_spec_l12Record_ok N)
theorem C_spec_l12Record : Contract Tryd.prog 46 S_spec_l12Record := C_spec_l12Record_raw 0
theorem C_spec_l1Sum_raw (N : Nat) : Contract Tryd.prog 77 ⟨[(.str, false)], [I], true, F_spec_l1Sum N⟩ :=
  have E : Env Tryd.prog Γ_spec_l1Sum := env_of tab trivial
  con_of (Pc := [(0, ⟨spec_l1Sum_l0_h, spec_l1Sum_l0_o, spec_l1Sum_l0 N N⟩)]) E mixed Tryd.func77 (by kernel_rfl) (by kernel_rfl) (by kernel_rfl) (by kernel_rfl) (fun A hA => ⟨pc_of (inner := []) E mixed hA (by kernel_rfl) (by kernel_rfl) (by kernel_rfl) trivial (fun _ => rfl) (fun m d => (spec_l1Sum_l0_ok N (spec_l1Sum_l0 N m) d).symm) N, trivial⟩) (F_spec_l1Sum_ok N)
theorem C_spec_l1Sum : Contract Tryd.prog 77 S_spec_l1Sum := Contract.less (fun N : Nat => F_spec_l1Sum N) C_spec_l1Sum_raw l1Sum_lim
theorem C_spec_l1Seal_raw (N : Nat) : Contract Tryd.prog 66 ⟨[(.str, false)], [.str], true, F_spec_l1Seal N⟩ :=
  have E : Env Tryd.prog Γ_spec_l1Seal := env_of tab ⟨C_spec_l1Num, ⟨C_spec_l1Sum, trivial⟩⟩
  con_of (Pc := []) E mixed Tryd.func66 (by kernel_rfl) (by kernel_rfl) (by kernel_rfl) (by kernel_rfl) (fun A hA => trivial) (F_spec_l1Seal_ok N)
theorem C_spec_l1Seal : Contract Tryd.prog 66 S_spec_l1Seal := C_spec_l1Seal_raw 0
theorem C_spec_l12Line_raw (N : Nat) : Contract Tryd.prog 47 ⟨[(I, false), (K_Pssq, false)], [.str], true, F_spec_l12Line N⟩ :=
  have E : Env Tryd.prog Γ_spec_l12Line := env_of tab ⟨C_spec_l1Seal, ⟨C_spec_l1Num, trivial⟩⟩
  con_of (Pc := []) E mixed Tryd.func47 (by kernel_rfl) (by kernel_rfl) (by kernel_rfl) (by kernel_rfl) (fun A hA => trivial) (F_spec_l12Line_ok N)
theorem C_spec_l12Line : Contract Tryd.prog 47 S_spec_l12Line := C_spec_l12Line_raw 0
theorem C_spec_l12Decode_raw (N : Nat) : Contract Tryd.prog 71 ⟨[(.str, false), (I, false)], [K_Pssq, .bool], true, F_spec_l12Decode N⟩ :=
  have E : Env Tryd.prog Γ_spec_l12Decode := env_of tab ⟨C_spec_l12Record, ⟨C_spec_l12Line, ⟨C_spec_l1Num, ⟨C_spec_l1Split, trivial⟩⟩⟩⟩
  con_of (Pc := []) E mixed Tryd.func71 (by kernel_rfl) (by kernel_rfl) (by kernel_rfl) (by kernel_rfl) (fun A hA => trivial) (F_spec_l12Decode_ok N)
theorem C_spec_l12Decode : Contract Tryd.prog 71 S_spec_l12Decode := C_spec_l12Decode_raw 0
theorem C_spec_l12Open_raw (N : Nat) : Contract Tryd.prog 50 ⟨[(.str, false)], [K_SPssq, I], true, F_spec_l12Open N⟩ :=
  have E : Env Tryd.prog Γ_spec_l12Open := env_of tab ⟨C_spec_l1Split, ⟨C_spec_l12Decode, trivial⟩⟩
  con_of (Pc := [(0, ⟨spec_l12Open_l0_h, spec_l12Open_l0_o, spec_l12Open_l0 N N⟩)]) E mixed Tryd.func50 (by kernel_rfl) (by kernel_rfl) (by kernel_rfl) (by kernel_rfl) (fun A hA => ⟨pc_of (inner := []) E mixed hA (by kernel_rfl) (by kernel_rfl) (by kernel_rfl) trivial (fun _ => rfl) (fun m d => (spec_l12Open_l0_ok N (spec_l12Open_l0 N m) d).symm) N, trivial⟩) (F_spec_l12Open_ok N)
theorem C_spec_l12Open : Contract Tryd.prog 50 S_spec_l12Open := Contract.less (fun N : Nat => F_spec_l12Open N) C_spec_l12Open_raw l12Open_lim
theorem C_spec_l12Valid_raw (N : Nat) : Contract Tryd.prog 52 ⟨[(K_Pssiq, false)], [.bool], true, F_spec_l12Valid N⟩ :=
  have E : Env Tryd.prog Γ_spec_l12Valid := env_of tab ⟨C_spec_l12Open, trivial⟩
  con_of (Pc := []) E mixed Tryd.func52 (by kernel_rfl) (by kernel_rfl) (by kernel_rfl) (by kernel_rfl) (fun A hA => trivial) (F_spec_l12Valid_ok N)
theorem C_spec_l12Valid : Contract Tryd.prog 52 S_spec_l12Valid := C_spec_l12Valid_raw 0
theorem C_spec_CrashLog_raw (N : Nat) : Contract Tryd.prog 23 ⟨[(K_Pssiq, false), (I, false), (.bool, false)], [.str, .bool], true, F_spec_CrashLog N⟩ :=
  have E : Env Tryd.prog Γ_spec_CrashLog := env_of tab ⟨C_spec_l1In, ⟨C_spec_l12Valid, trivial⟩⟩
  con_of (Pc := []) E mixed Tryd.func23 (by kernel_rfl) (by kernel_rfl) (by kernel_rfl) (by kernel_rfl) (fun A hA => trivial) (F_spec_CrashLog_ok N)
theorem C_spec_CrashLog : Contract Tryd.prog 23 S_spec_CrashLog := C_spec_CrashLog_raw 0
theorem C_impl_checksum_raw (N : Nat) : Contract Tryd.prog 79 ⟨[(.str, false)], [I], true, F_impl_checksum N⟩ :=
  have E : Env Tryd.prog Γ_impl_checksum := env_of tab trivial
  con_of (Pc := [(0, ⟨impl_checksum_l0_h, impl_checksum_l0_o, impl_checksum_l0 N N⟩)]) E mixed Tryd.func79 (by kernel_rfl) (by kernel_rfl) (by kernel_rfl) (by kernel_rfl) (fun A hA => ⟨pc_of (inner := []) E mixed hA (by kernel_rfl) (by kernel_rfl) (by kernel_rfl) trivial (fun _ => rfl) (fun m d => (impl_checksum_l0_ok N (impl_checksum_l0 N m) d).symm) N, trivial⟩) (F_impl_checksum_ok N)
theorem C_impl_checksum : Contract Tryd.prog 79 S_impl_checksum := Contract.less (fun N : Nat => F_impl_checksum N) C_impl_checksum_raw checksum_lim
theorem C_impl_AppendChecksum_raw (N : Nat) : Contract Tryd.prog 68 ⟨[(.str, false)], [.str, .bool], true, F_impl_AppendChecksum N⟩ :=
  have E : Env Tryd.prog Γ_impl_AppendChecksum := env_of tab ⟨C_strconv_Itoa, ⟨C_strings_Contains, ⟨C_impl_checksum, trivial⟩⟩⟩
  con_of (Pc := []) E mixed Tryd.func68 (by kernel_rfl) (by kernel_rfl) (by kernel_rfl) (by kernel_rfl) (fun A hA => trivial) (F_impl_AppendChecksum_ok N)
theorem C_impl_AppendChecksum : Contract Tryd.prog 68 S_impl_AppendChecksum := C_impl_AppendChecksum_raw 0
theorem C_impl_VerifyChecksum_raw (N : Nat) : Contract Tryd.prog 73 ⟨[(.str, false)], [.str, .bool], true, F_impl_VerifyChecksum N⟩ :=
  have E : Env Tryd.prog Γ_impl_VerifyChecksum := env_of tab ⟨C_impl_AppendChecksum, ⟨C_strings_Cut, trivial⟩⟩
  con_of (Pc := []) E mixed Tryd.func73 (by kernel_rfl) (by kernel_rfl) (by kernel_rfl) (by kernel_rfl) (fun A hA => trivial) (F_impl_VerifyChecksum_ok N)
theorem C_impl_VerifyChecksum : Contract Tryd.prog 73 S_impl_VerifyChecksum := C_impl_VerifyChecksum_raw 0
theorem C_impl_within_raw (N : Nat) : Contract Tryd.prog 48 ⟨[(I, false), (I, false), (I, false)], [.bool], true, F_impl_within N⟩ :=
  have E : Env Tryd.prog Γ_impl_within := env_of tab trivial
  con_of (Pc := []) E mixed Tryd.func48 (by kernel_rfl) (by kernel_rfl) (by kernel_rfl) (by kernel_rfl) (fun A hA => trivial) (F_impl_within_ok N)
theorem C_impl_within : Contract Tryd.prog 48 S_impl_within := Contract.less (fun N : Nat => F_impl_within N) C_impl_within_raw (fun d r h => ⟨0, (F_impl_within_tot 0 d).trans h⟩)
theorem C_impl_isPrinted_raw (N : Nat) : Contract Tryd.prog 63 ⟨[(.str, false), (.str, false)], [.bool], true, F_impl_isPrinted N⟩ :=
  have E : Env Tryd.prog Γ_impl_isPrinted := env_of tab ⟨C_strings_ContainsAny, trivial⟩
  con_of (Pc := [(0, ⟨impl_isPrinted_l0_h, impl_isPrinted_l0_o, impl_isPrinted_l0 N N⟩)]) E mixed Tryd.func63 (by kernel_rfl) (by kernel_rfl) (by kernel_rfl) (by kernel_rfl) (fun A hA => ⟨pc_of (inner := []) E mixed hA (by kernel_rfl) (by kernel_rfl) (by kernel_rfl) trivial (fun _ => rfl) (fun m d => (impl_isPrinted_l0_ok N (impl_isPrinted_l0 N m) d).symm) N, trivial⟩) (F_impl_isPrinted_ok N)
theorem C_impl_isPrinted : Contract Tryd.prog 63 S_impl_isPrinted := Contract.less (fun N : Nat => F_impl_isPrinted N) C_impl_isPrinted_raw isPrinted_lim
theorem C_impl_isCommand_raw (N : Nat) : Contract Tryd.prog 62 ⟨[(.str, false)], [.bool], true, F_impl_isCommand N⟩ :=
  have E : Env Tryd.prog Γ_impl_isCommand := env_of tab ⟨C_impl_within, ⟨C_impl_isPrinted, trivial⟩⟩
  con_of (Pc := []) E mixed Tryd.func62 (by kernel_rfl) (by kernel_rfl) (by kernel_rfl) (by kernel_rfl) (fun A hA => trivial) (F_impl_isCommand_ok N)
theorem C_impl_isCommand : Contract Tryd.prog 62 S_impl_isCommand := C_impl_isCommand_raw 0
theorem C_impl_IsValidRecord_raw (N : Nat) : Contract Tryd.prog 43 ⟨[(K_Pssq, false)], [.bool], true, F_impl_IsValidRecord N⟩ :=
  have E : Env Tryd.prog Γ_impl_IsValidRecord := env_of tab ⟨C_impl_isCommand, ⟨C_impl_isPrinted, trivial⟩⟩
  con_of (Pc := []) E mixed Tryd.func43 (by kernel_rfl) (by kernel_rfl) (by kernel_rfl) (by kernel_rfl) (fun A hA => trivial) (F_impl_IsValidRecord_ok N)
theorem C_impl_IsValidRecord : Contract Tryd.prog 43 S_impl_IsValidRecord := C_impl_IsValidRecord_raw 0
theorem C_impl_encodeRecord_raw (N : Nat) : Contract Tryd.prog 49 ⟨[(I, false), (K_Pssq, false)], [.str], true, F_impl_encodeRecord N⟩ :=
  have E : Env Tryd.prog Γ_impl_encodeRecord := env_of tab ⟨C_impl_AppendChecksum, ⟨C_strconv_Itoa, trivial⟩⟩
  con_of (Pc := []) E mixed Tryd.func49 (by kernel_rfl) (by kernel_rfl) (by kernel_rfl) (by kernel_rfl) (fun A hA => trivial) (F_impl_encodeRecord_ok N)
theorem C_impl_encodeRecord : Contract Tryd.prog 49 S_impl_encodeRecord := C_impl_encodeRecord_raw 0
theorem C_impl_readRecords_raw (N : Nat) : Contract Tryd.prog 51 ⟨[(.str, false)], [K_SPssq, I], true, F_impl_readRecords N⟩ :=
  have E : Env Tryd.prog Γ_impl_readRecords := env_of tab ⟨C_impl_IsValidRecord, ⟨C_impl_encodeRecord, ⟨C_strings_Cut, ⟨C_impl_VerifyChecksum, trivial⟩⟩⟩⟩
  con_of (Pc := [(0, ⟨impl_readRecords_l0_h, impl_readRecords_l0_o, impl_readRecords_l0 N N⟩)]) E mixed Tryd.func51 (by kernel_rfl) (by kernel_rfl) (by kernel_rfl) (by kernel_rfl) (fun A hA => ⟨pc_of (inner := []) E mixed hA (by kernel_rfl) (by kernel_rfl) (by kernel_rfl) trivial (fun _ => rfl) (fun m d => (impl_readRecords_l0_ok N (impl_readRecords_l0 N m) d).symm) N, trivial⟩) (F_impl_readRecords_ok N)
theorem C_impl_readRecords : Contract Tryd.prog 51 S_impl_readRecords := Contract.less (fun N : Nat => F_impl_readRecords N) C_impl_readRecords_raw readRecords_lim
theorem C_impl_IsValidLog_raw (N : Nat) : Contract Tryd.prog 22 ⟨[(K_Pssiq, false)], [.bool], true, F_impl_IsValidLog N⟩ :=
  have E : Env Tryd.prog Γ_impl_IsValidLog := env_of tab ⟨C_impl_readRecords, trivial⟩
  con_of (Pc := []) E mixed Tryd.func22 (by kernel_rfl) (by kernel_rfl) (by kernel_rfl) (by kernel_rfl) (fun A hA => trivial) (F_impl_IsValidLog_ok N)
theorem C_impl_IsValidLog : Contract Tryd.prog 22 S_impl_IsValidLog := C_impl_IsValidLog_raw 0
theorem C_impl_CrashLog_raw (N : Nat) : Contract Tryd.prog 24 ⟨[(K_Pssiq, false), (I, false), (.bool, false)], [.str, .bool], true, F_impl_CrashLog N⟩ :=
  have E : Env Tryd.prog Γ_impl_CrashLog := env_of tab ⟨C_impl_IsValidLog, ⟨C_impl_within, trivial⟩⟩
  con_of (Pc := []) E mixed Tryd.func24 (by kernel_rfl) (by kernel_rfl) (by kernel_rfl) (by kernel_rfl) (fun A hA => trivial) (F_impl_CrashLog_ok N)
theorem C_impl_CrashLog : Contract Tryd.prog 24 S_impl_CrashLog := C_impl_CrashLog_raw 0
theorem C_laws_FnExactCrashLog_raw (N : Nat) : Contract Tryd.prog 6 ⟨[(K_Pssiq, false), (I, false), (.bool, false)], [.bool], true, F_laws_FnExactCrashLog N⟩ :=
  have E : Env Tryd.prog Γ_laws_FnExactCrashLog := env_of tab ⟨C_laws_szLog, ⟨C_laws_toLog, ⟨C_spec_CrashLog, ⟨C_impl_CrashLog, trivial⟩⟩⟩⟩
  con_of (Pc := []) E mixed Tryd.func6 (by kernel_rfl) (by kernel_rfl) (by kernel_rfl) (by kernel_rfl) (fun A hA => trivial) (F_laws_FnExactCrashLog_ok N)
theorem C_laws_FnExactCrashLog : Contract Tryd.prog 6 S_laws_FnExactCrashLog := C_laws_FnExactCrashLog_raw 0
end Go.V.W
