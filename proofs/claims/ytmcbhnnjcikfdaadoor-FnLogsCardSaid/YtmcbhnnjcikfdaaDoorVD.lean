/- What the law FnLogs leans on, part 4: an interpreter of the model as plain data, its soundness, the functions as it tells them, and their laws. -/
import Derived.Test.YtmcbhnnjcikfdaaDoorProg
import Derived.IntWalk
import Derived.Lib.Builder
import Derived.Shelf.Lays
import Derived.Shelf.LaysM
import Derived.Shelf.Strings.IndexAnyAll
import Derived.Shelf.Strings.Cut
import Derived.Shelf.Strings.Search3
import Derived.Shelf.Strconv.Itoa3
import Derived.Test.YtmcbhnnjcikfdaaDoorVC
set_option linter.unusedVariables false
set_option linter.unusedSimpArgs false
set_option maxRecDepth 100000
set_option linter.unusedVariables false
set_option maxRecDepth 100000
namespace Go.V.W
open Go.Proofs
abbrev I : Kd := .int .i64
abbrev K_Su8 : Kd := .slice (.int .u8)
abbrev K_Pu64q : Kd := .pair (.int .u64) .unit
abbrev K_Piu64q : Kd := .pair I K_Pu64q
abbrev K_PSu8iu64q : Kd := .pair K_Su8 K_Piu64q
abbrev K_BPSu8iu64q : Kd := .bx K_PSu8iu64q
abbrev K_Ss : Kd := .slice .str
abbrev K_Psq : Kd := .pair .str .unit
abbrev K_Pssq : Kd := .pair .str K_Psq
abbrev K_Si : Kd := .slice I
abbrev K_SPssq : Kd := .slice K_Pssq
abbrev K_Piq : Kd := .pair I .unit
abbrev K_Psiq : Kd := .pair .str K_Piq
abbrev K_Pssiq : Kd := .pair .str K_Psiq
def tks : List (Nat × Kd) := [(3, I), (4, .bool), (5, (.int .u8)), (9, .str), (27, K_Pssq), (31, K_Pssiq), (48, K_SPssq), (53, K_Su8), (72, (.int .u64)), (74, K_PSu8iu64q), (81, K_Si), (87, K_Ss), (96, (.int .u64))]
def ars : List (Nat × Nat) := []
noncomputable def Γ_laws_vBig : Ctx := { tk := assoc tks, ar := assoc ars, fs := assoc [] }
noncomputable def F_laws_vBig (N : Nat) (d : List Int × Unit) : Option (Bool × Unit) :=
  let a0 : List Int := d.1
  some ((decide ((List.length a0 : Int) > (65536 : Int)), ()))
theorem F_laws_vBig_ok (N : Nat) (d) : fnR Γ_laws_vBig (assoc []) true [(K_Su8, false)] [.bool] Tryd.f34.results.toList (bodyOf Tryd.f34) d = F_laws_vBig N d := by kernel_rfl
noncomputable def g_laws_vBig (d : List Int × Unit) : Bool × Unit :=
  let a0 : List Int := d.1
  ((decide ((List.length a0 : Int) > (65536 : Int)), ()))
theorem F_laws_vBig_tot (N : Nat) (d) : F_laws_vBig N d = some (g_laws_vBig d) := by
  unfold F_laws_vBig g_laws_vBig
  first
    | rfl
    | (dsimp only; (repeat' split) <;> rfl)
noncomputable def S_laws_vBig : FSig := ⟨[(K_Su8, false)], [.bool], true, (fun d => some (g_laws_vBig d))⟩
noncomputable def Γ_spec_l1Cur_next : Ctx := { tk := assoc tks, ar := assoc ars, fs := assoc [], lent := fun t => Nat.beq t 0 }
noncomputable def F_spec_l1Cur_next (N : Nat) (d : (List Int × Int × Int × Unit) × Unit) : Option (Int × (List Int × Int × Int × Unit) × Unit) :=
  let a0 : List Int × Int × Int × Unit := d.1
  if (decide (a0.2.1 < (List.length a0.1 : Int))) = true then
    if (idxIn a0.2.1 (List.length a0.1)) = true then
    let x1 : Int := IntKind.wrap .i64 (at_ (.int .u8) a0.1 a0.2.1.toNat)
    let x2 : Int := IntKind.wrap .i64 (a0.2.1 + (1 : Int))
    let x3 : Int := IntKind.wrap .u64 (a0.2.2.1 * (6364136223846793005 : Int))
    let x4 : Int := IntKind.wrap .u64 (x3 + IntKind.wrap .u64 x1)
    let x5 : Int := IntKind.wrap .u64 (x4 + (462197 : Int))
    if (decide (x2 ≤ (List.length a0.1 : Int))) = true then
      some ((x1, ((a0.1, (x2, (x5, a0.2.2.2))), ())))
    else
      if (decide (0 ≤ (40 : Int))) = true then
      let x6 : Int := bits .and .u64 (shr .u64 x5 (40 : Int)) (255 : Int)
      some ((IntKind.wrap .i64 x6, ((a0.1, (x2, (x5, a0.2.2.2))), ())))
      else none
    else none
  else
    let x7 : Int := IntKind.wrap .i64 (a0.2.1 + (1 : Int))
    let x8 : Int := IntKind.wrap .u64 (a0.2.2.1 * (6364136223846793005 : Int))
    let x9 : Int := IntKind.wrap .u64 (x8 + IntKind.wrap .u64 (0 : Int))
    let x10 : Int := IntKind.wrap .u64 (x9 + (462197 : Int))
    if (decide (x7 ≤ (List.length a0.1 : Int))) = true then
      some (((0 : Int), ((a0.1, (x7, (x10, a0.2.2.2))), ())))
    else
      if (decide (0 ≤ (40 : Int))) = true then
      let x11 : Int := bits .and .u64 (shr .u64 x10 (40 : Int)) (255 : Int)
      some ((IntKind.wrap .i64 x11, ((a0.1, (x7, (x10, a0.2.2.2))), ())))
      else none
theorem F_spec_l1Cur_next_ok (N : Nat) (d) : fnR Γ_spec_l1Cur_next (assoc []) true [(K_BPSu8iu64q, true)] [I] Tryd.f74.results.toList (bodyOf Tryd.f74) d = F_spec_l1Cur_next N d := by kernel_rfl
noncomputable def S_spec_l1Cur_next : FSig := ⟨[(K_BPSu8iu64q, true)], [I], true, (F_spec_l1Cur_next 0)⟩
noncomputable def Γ_spec_l1Cur_pick : Ctx := { tk := assoc tks, ar := assoc ars, fs := assoc [(74, S_spec_l1Cur_next)], lent := fun t => Nat.beq t 0 }
noncomputable def F_spec_l1Cur_pick (N : Nat) (d : (List Int × Int × Int × Unit) × Int × Unit) : Option (Int × (List Int × Int × Int × Unit) × Unit) :=
  let a0 : List Int × Int × Int × Unit := d.1
  let a1 : Int := d.2.1
  if (decide (a1 ≤ (1 : Int))) = true then
    some (((0 : Int), (a0, ())))
  else
    ((F_spec_l1Cur_next 0) (a0, ())).bind fun r1 =>
    if (decide (a1 > (200 : Int))) = true then
      let x2 : Int := IntKind.wrap .i64 (r1.1 * (256 : Int))
      ((F_spec_l1Cur_next 0) (r1.2.1, ())).bind fun r3 =>
      let x4 : Int := IntKind.wrap .i64 (x2 + r3.1)
      if (a1 != 0) = true then
      some ((x4.tmod a1, (r3.2.1, ())))
      else none
    else
      if (a1 != 0) = true then
      some ((r1.1.tmod a1, (r1.2.1, ())))
      else none
theorem F_spec_l1Cur_pick_ok (N : Nat) (d) : fnR Γ_spec_l1Cur_pick (assoc []) true [(K_BPSu8iu64q, true), (I, false)] [I] Tryd.f56.results.toList (bodyOf Tryd.f56) d = F_spec_l1Cur_pick N d := by kernel_rfl
noncomputable def S_spec_l1Cur_pick : FSig := ⟨[(K_BPSu8iu64q, true), (I, false)], [I], true, (F_spec_l1Cur_pick 0)⟩
noncomputable def Γ_spec_l1Cur_of : Ctx := { tk := assoc tks, ar := assoc ars, fs := assoc [(56, S_spec_l1Cur_pick)], lent := fun t => Nat.beq t 0 }
noncomputable def F_spec_l1Cur_of (N : Nat) (d : (List Int × Int × Int × Unit) × List ByteArray × Unit) : Option (ByteArray × (List Int × Int × Int × Unit) × Unit) :=
  let a0 : List Int × Int × Int × Unit := d.1
  let a1 : List ByteArray := d.2.1
  ((F_spec_l1Cur_pick 0) ((a0, ((List.length a1 : Int), ())))).bind fun r1 =>
  if (idxIn r1.1 (List.length a1)) = true then
  some ((at_ .str a1 r1.1.toNat, (r1.2.1, ())))
  else none
theorem F_spec_l1Cur_of_ok (N : Nat) (d) : fnR Γ_spec_l1Cur_of (assoc []) true [(K_BPSu8iu64q, true), (K_Ss, false)] [.str] Tryd.f75.results.toList (bodyOf Tryd.f75) d = F_spec_l1Cur_of N d := by kernel_rfl
noncomputable def S_spec_l1Cur_of : FSig := ⟨[(K_BPSu8iu64q, true), (K_Ss, false)], [.str], true, (F_spec_l1Cur_of 0)⟩
noncomputable def Γ_spec_l1Cur_logRecord : Ctx := { tk := assoc tks, ar := assoc ars, fs := assoc [(56, S_spec_l1Cur_pick), (75, S_spec_l1Cur_of)], lent := fun t => Nat.beq t 0 }
noncomputable def F_spec_l1Cur_logRecord (N : Nat) (d : (List Int × Int × Int × Unit) × Unit) : Option ((ByteArray × ByteArray × Unit) × (List Int × Int × Int × Unit) × Unit) :=
  let a0 : List Int × Int × Int × Unit := d.1
  ((F_spec_l1Cur_of 0) ((a0, ([(⟨#[103, 114, 97, 112, 104]⟩ : ByteArray), (⟨#[101, 100, 103, 101, 32, 48, 32, 49]⟩ : ByteArray), (⟨#[120]⟩ : ByteArray), (⟨#[109, 97, 114, 107, 32, 50]⟩ : ByteArray), (⟨#[48, 32, 49]⟩ : ByteArray)], ())))).bind fun r1 =>
  ((F_spec_l1Cur_of 0) ((r1.2.1, ([(⟨#[]⟩ : ByteArray), (⟨#[51]⟩ : ByteArray), (⟨#[63]⟩ : ByteArray), (⟨#[97, 64, 98]⟩ : ByteArray), (⟨#[51, 32, 49, 32, 50]⟩ : ByteArray)], ())))).bind fun r2 =>
  ((F_spec_l1Cur_pick 0) ((r2.2.1, ((24 : Int), ())))).bind fun r3 =>
  if (r3.1 == (0 : Int)) = true then
    if ((decide (0 ≤ (3 : Int)) && decide ((3 : Int) ≤ (3 : Int)) && decide ((3 : Int) ≤ (lim : Int)))) = true then
    let x4 : List Int := List.replicate (3 : Int).toNat (0 : Int)
    ((F_spec_l1Cur_of 0) ((r3.2.1, ([(⟨#[]⟩ : ByteArray), (⟨#[97, 64, 98]⟩ : ByteArray), (⟨#[97, 35]⟩ : ByteArray), (⟨#[10]⟩ : ByteArray), bytesOf x4], ())))).bind fun r5 =>
    some (((r5.1, (r2.1, ())), (r5.2.1, ())))
    else none
  else
    if (r3.1 == (1 : Int)) = true then
      ((F_spec_l1Cur_of 0) ((r3.2.1, ([(⟨#[35]⟩ : ByteArray), (⟨#[10]⟩ : ByteArray), (⟨#[127]⟩ : ByteArray)], ())))).bind fun r6 =>
      some (((r1.1, (r6.1, ())), (r6.2.1, ())))
    else
      some (((r1.1, (r2.1, ())), (r3.2.1, ())))
theorem F_spec_l1Cur_logRecord_ok (N : Nat) (d) : fnR Γ_spec_l1Cur_logRecord (assoc []) true [(K_BPSu8iu64q, true)] [K_Pssq] Tryd.f60.results.toList (bodyOf Tryd.f60) d = F_spec_l1Cur_logRecord N d := by kernel_rfl
noncomputable def S_spec_l1Cur_logRecord : FSig := ⟨[(K_BPSu8iu64q, true)], [K_Pssq], true, (F_spec_l1Cur_logRecord 0)⟩
noncomputable def Γ_spec_DrawIsValidRecord : Ctx := { tk := assoc tks, ar := assoc ars, fs := assoc [(60, S_spec_l1Cur_logRecord)] }
noncomputable def F_spec_DrawIsValidRecord (N : Nat) (d : List Int × Unit) : Option ((ByteArray × ByteArray × Unit) × Unit) :=
  let a0 : List Int := d.1
  ((F_spec_l1Cur_logRecord 0) (((a0, ((0 : Int), ((0 : Int), ()))), ()))).bind fun r1 =>
  some (r1.1, ())
theorem F_spec_DrawIsValidRecord_ok (N : Nat) (d) : fnR Γ_spec_DrawIsValidRecord (assoc []) true [(K_Su8, false)] [K_Pssq] Tryd.f39.results.toList (bodyOf Tryd.f39) d = F_spec_DrawIsValidRecord N d := by kernel_rfl
noncomputable def S_spec_DrawIsValidRecord : FSig := ⟨[(K_Su8, false)], [K_Pssq], true, (F_spec_DrawIsValidRecord 0)⟩
noncomputable def Γ_laws_vCut : Ctx := { tk := assoc tks, ar := assoc ars, fs := assoc [] }
noncomputable def F_laws_vCut (N : Nat) (d : List Int × Int × Unit) : Option (List Int × Unit) :=
  let a0 : List Int := d.1
  let a1 : Int := d.2.1
  if (decide (a1 > (List.length a0 : Int))) = true then
    if ((decide (0 ≤ (List.length a0 : Int)) && decide ((List.length a0 : Int) ≤ (List.length a0 : Int)) && decide ((List.length a0 : Int) ≤ (List.length a0 : Int)))) = true then
    let x1 : List Int := sub_ a0 (List.length a0 : Int) (List.length a0 : Int)
    if (decide (List.length ([] : List Int) + List.length x1 ≤ lim)) = true then
    let x2 : Int := IntKind.wrap .u8 (List.length a0 : Int)
    if (decide (List.length (([] : List Int) ++ x1) + List.length ([x2]) ≤ lim)) = true then
    let x3 : List Int := (([] : List Int) ++ x1) ++ ([x2])
    some (x3, ())
    else none
    else none
    else none
  else
    if ((decide (0 ≤ a1) && decide (a1 ≤ (List.length a0 : Int)) && decide ((List.length a0 : Int) ≤ (List.length a0 : Int)))) = true then
    let x4 : List Int := sub_ a0 a1 (List.length a0 : Int)
    if (decide (List.length ([] : List Int) + List.length x4 ≤ lim)) = true then
    if (decide (List.length (([] : List Int) ++ x4) + List.length ([IntKind.wrap .u8 a1]) ≤ lim)) = true then
    let x5 : List Int := (([] : List Int) ++ x4) ++ ([IntKind.wrap .u8 a1])
    some (x5, ())
    else none
    else none
    else none
theorem F_laws_vCut_ok (N : Nat) (d) : fnR Γ_laws_vCut (assoc []) true [(K_Su8, false), (I, false)] [K_Su8] Tryd.f37.results.toList (bodyOf Tryd.f37) d = F_laws_vCut N d := by kernel_rfl
noncomputable def S_laws_vCut : FSig := ⟨[(K_Su8, false), (I, false)], [K_Su8], true, (F_laws_vCut 0)⟩
noncomputable def Γ_spec_l1Cur_among : Ctx := { tk := assoc tks, ar := assoc ars, fs := assoc [(56, S_spec_l1Cur_pick)], lent := fun t => Nat.beq t 0 }
noncomputable def F_spec_l1Cur_among (N : Nat) (d : (List Int × Int × Int × Unit) × List Int × Unit) : Option (Int × (List Int × Int × Int × Unit) × Unit) :=
  let a0 : List Int × Int × Int × Unit := d.1
  let a1 : List Int := d.2.1
  ((F_spec_l1Cur_pick 0) ((a0, ((List.length a1 : Int), ())))).bind fun r1 =>
  if (idxIn r1.1 (List.length a1)) = true then
  some ((at_ I a1 r1.1.toNat, (r1.2.1, ())))
  else none
theorem F_spec_l1Cur_among_ok (N : Nat) (d) : fnR Γ_spec_l1Cur_among (assoc []) true [(K_BPSu8iu64q, true), (K_Si, false)] [I] Tryd.f61.results.toList (bodyOf Tryd.f61) d = F_spec_l1Cur_among N d := by kernel_rfl
noncomputable def S_spec_l1Cur_among : FSig := ⟨[(K_BPSu8iu64q, true), (K_Si, false)], [I], true, (F_spec_l1Cur_among 0)⟩
noncomputable def Γ_spec_DrawEncodeRecord : Ctx := { tk := assoc tks, ar := assoc ars, fs := assoc [(60, S_spec_l1Cur_logRecord), (61, S_spec_l1Cur_among)] }
noncomputable def F_spec_DrawEncodeRecord (N : Nat) (d : List Int × Unit) : Option (Int × (ByteArray × ByteArray × Unit) × Unit) :=
  let a0 : List Int := d.1
  ((F_spec_l1Cur_among 0) (((a0, ((0 : Int), ((0 : Int), ()))), ([(0 : Int), (1 : Int), (12 : Int), (59 : Int), (60 : Int), (-1 : Int)], ())))).bind fun r1 =>
  ((F_spec_l1Cur_logRecord 0) (r1.2.1, ())).bind fun r2 =>
  some ((r1.1, (r2.1, ())))
theorem F_spec_DrawEncodeRecord_ok (N : Nat) (d) : fnR Γ_spec_DrawEncodeRecord (assoc []) true [(K_Su8, false)] [I, K_Pssq] Tryd.f40.results.toList (bodyOf Tryd.f40) d = F_spec_DrawEncodeRecord N d := by kernel_rfl
noncomputable def S_spec_DrawEncodeRecord : FSig := ⟨[(K_Su8, false)], [I, K_Pssq], true, (F_spec_DrawEncodeRecord 0)⟩
noncomputable def Γ_impl_within : Ctx := { tk := assoc tks, ar := assoc ars, fs := assoc [] }
noncomputable def F_impl_within (N : Nat) (d : Int × Int × Int × Unit) : Option (Bool × Unit) :=
  let a0 : Int := d.1
  let a1 : Int := d.2.1
  let a2 : Int := d.2.2.1
  if (decide (a0 ≥ a1)) = true then
    some (decide (a0 ≤ a2), ())
  else
    some (false, ())
theorem F_impl_within_ok (N : Nat) (d) : fnR Γ_impl_within (assoc []) true [(I, false), (I, false), (I, false)] [.bool] Tryd.f48.results.toList (bodyOf Tryd.f48) d = F_impl_within N d := by kernel_rfl
noncomputable def g_impl_within (d : Int × Int × Int × Unit) : Bool × Unit :=
  let a0 : Int := d.1
  let a1 : Int := d.2.1
  let a2 : Int := d.2.2.1
  if (decide (a0 ≥ a1)) = true then
    (decide (a0 ≤ a2), ())
  else
    (false, ())
theorem F_impl_within_tot (N : Nat) (d) : F_impl_within N d = some (g_impl_within d) := by
  unfold F_impl_within g_impl_within
  first
    | rfl
    | (dsimp only; (repeat' split) <;> rfl)
noncomputable def S_impl_within : FSig := ⟨[(I, false), (I, false), (I, false)], [.bool], true, (fun d => some (g_impl_within d))⟩
def S_strings_ContainsAny : FSig := ⟨[(.str, false), (.str, false)], [.bool], true, G_containsAny⟩
noncomputable def Γ_impl_isPrinted : Ctx := { tk := assoc tks, ar := assoc ars, fs := assoc [(76, S_strings_ContainsAny)] }
abbrev impl_isPrinted_l0_H := ByteArray × ByteArray × Int × Unit
abbrev impl_isPrinted_l0_O := (Bool × Unit) ⊕ (ByteArray × ByteArray × Unit) ⊕ Empty
def impl_isPrinted_l0_h : Form := [(0, .v .str), (1, .v .str), (5, .v I)]
def impl_isPrinted_l0_o : Outs := [(.ret, [(4, .v .bool)]), (.normal, [(0, .v .str), (1, .v .str)])]
noncomputable def impl_isPrinted_l0_r (N : Nat) (back : impl_isPrinted_l0_H → Option impl_isPrinted_l0_O) (d : impl_isPrinted_l0_H) : Option impl_isPrinted_l0_O :=
  let s0 : ByteArray := d.1
  let s1 : ByteArray := d.2.1
  let s5 : Int := d.2.2.1
  if (decide (s5 < (s0.size : Int))) = true then
    if (idxIn s5 s0.size) = true then
    if (decide ((byteAt s0 s5.toNat : Int) < (32 : Int))) = true then
      some (.inl (false, ()))
    else
      if (idxIn s5 s0.size) = true then
      if (decide ((byteAt s0 s5.toNat : Int) > (126 : Int))) = true then
        some (.inl (false, ()))
      else
        let x6 : Int := IntKind.wrap .i64 (s5 + (1 : Int))
        back ((s0, (s1, (x6, ()))))
      else none
    else none
  else
    some (.inr (.inl ((s0, (s1, ())))))
noncomputable def impl_isPrinted_l0 (N : Nat) : Nat → impl_isPrinted_l0_H → Option impl_isPrinted_l0_O
  | 0, _ => none
  | k + 1, d => impl_isPrinted_l0_r N (impl_isPrinted_l0 N k) d
theorem impl_isPrinted_l0_ok (N : Nat) (back) (d) : roundR Γ_impl_isPrinted (assoc []) 0 impl_isPrinted_l0_h impl_isPrinted_l0_o (loopOf Tryd.f63 0) back d = impl_isPrinted_l0_r N back d := by kernel_rfl
noncomputable def F_impl_isPrinted (N : Nat) (d : ByteArray × ByteArray × Unit) : Option (Bool × Unit) :=
  let a0 : ByteArray := d.1
  let a1 : ByteArray := d.2.1
  (impl_isPrinted_l0 N N ((a0, (a1, ((0 : Int), ()))))).bind fun o2 => match o2 with
  | .inl d3 =>
    some (d3.1, ())
  | .inr (.inl d4) =>
    (G_containsAny ((d4.1, (d4.2.1, ())))).bind fun r5 =>
    some (!r5.1, ())
theorem F_impl_isPrinted_ok (N : Nat) (d) : fnR Γ_impl_isPrinted (assoc [(0, ⟨impl_isPrinted_l0_h, impl_isPrinted_l0_o, impl_isPrinted_l0 N N⟩)]) true [(.str, false), (.str, false)] [.bool] Tryd.f63.results.toList (bodyOf Tryd.f63) d = F_impl_isPrinted N d := by kernel_rfl
noncomputable def S_impl_isPrinted : FSig := ⟨[(.str, false), (.str, false)], [.bool], true, (G_isPrinted)⟩
noncomputable def Γ_impl_isCommand : Ctx := { tk := assoc tks, ar := assoc ars, fs := assoc [(48, S_impl_within), (63, S_impl_isPrinted)] }
noncomputable def F_impl_isCommand (N : Nat) (d : ByteArray × Unit) : Option (Bool × Unit) :=
  let a0 : ByteArray := d.1
  let r1 : Bool × Unit := g_impl_within (((a0.size : Int), ((1 : Int), ((160 : Int), ()))))
  if (r1.1) = true then
    (G_isPrinted ((a0, ((⟨#[35, 64]⟩ : ByteArray), ())))).bind fun r2 =>
    some (r2.1, ())
  else
    some (false, ())
theorem F_impl_isCommand_ok (N : Nat) (d) : fnR Γ_impl_isCommand (assoc []) true [(.str, false)] [.bool] Tryd.f62.results.toList (bodyOf Tryd.f62) d = F_impl_isCommand N d := by kernel_rfl
noncomputable def S_impl_isCommand : FSig := ⟨[(.str, false)], [.bool], true, (F_impl_isCommand 0)⟩
noncomputable def Γ_impl_IsValidRecord : Ctx := { tk := assoc tks, ar := assoc ars, fs := assoc [(62, S_impl_isCommand), (63, S_impl_isPrinted)] }
noncomputable def F_impl_IsValidRecord (N : Nat) (d : (ByteArray × ByteArray × Unit) × Unit) : Option (Bool × Unit) :=
  let a0 : ByteArray × ByteArray × Unit := d.1
  ((F_impl_isCommand 0) (a0.1, ())).bind fun r1 =>
  if (r1.1) = true then
    if (decide ((a0.2.1.size : Int) ≤ (200 : Int))) = true then
      (G_isPrinted ((a0.2.1, ((⟨#[35]⟩ : ByteArray), ())))).bind fun r2 =>
      some (r2.1, ())
    else
      some (false, ())
  else
    some (false, ())
theorem F_impl_IsValidRecord_ok (N : Nat) (d) : fnR Γ_impl_IsValidRecord (assoc []) true [(K_Pssq, false)] [.bool] Tryd.f43.results.toList (bodyOf Tryd.f43) d = F_impl_IsValidRecord N d := by kernel_rfl
noncomputable def S_impl_IsValidRecord : FSig := ⟨[(K_Pssq, false)], [.bool], true, (F_impl_IsValidRecord 0)⟩
def S_strconv_Itoa : FSig := ⟨[(I, false)], [.str], true, G_itoa⟩
def S_strings_Contains : FSig := ⟨[(.str, false), (.str, false)], [.bool], true, G_contains⟩
noncomputable def Γ_impl_checksum : Ctx := { tk := assoc tks, ar := assoc ars, fs := assoc [] }
abbrev impl_checksum_l0_H := ByteArray × Int × Int × Unit
abbrev impl_checksum_l0_O := (Int × Unit) ⊕ Empty
def impl_checksum_l0_h : Form := [(0, .v .str), (3, .v I), (4, .v I)]
def impl_checksum_l0_o : Outs := [(.normal, [(3, .v I)])]
noncomputable def impl_checksum_l0_r (N : Nat) (back : impl_checksum_l0_H → Option impl_checksum_l0_O) (d : impl_checksum_l0_H) : Option impl_checksum_l0_O :=
  let s0 : ByteArray := d.1
  let s3 : Int := d.2.1
  let s4 : Int := d.2.2.1
  if (decide (s4 < (s0.size : Int))) = true then
    let x7 : Int := IntKind.wrap .i64 ((41 : Int) * s3)
    if (idxIn s4 s0.size) = true then
    let x8 : Int := IntKind.wrap .i64 (byteAt s0 s4.toNat : Int)
    let x9 : Int := IntKind.wrap .i64 (IntKind.wrap .i64 (x7 + x8) + (1 : Int))
    if ((999979 : Int) != 0) = true then
    let x10 : Int := IntKind.wrap .i64 (s4 + (1 : Int))
    back ((s0, (x9.tmod (999979 : Int), (x10, ()))))
    else none
    else none
  else
    some (.inl (s3, ()))
noncomputable def impl_checksum_l0 (N : Nat) : Nat → impl_checksum_l0_H → Option impl_checksum_l0_O
  | 0, _ => none
  | k + 1, d => impl_checksum_l0_r N (impl_checksum_l0 N k) d
theorem impl_checksum_l0_ok (N : Nat) (back) (d) : roundR Γ_impl_checksum (assoc []) 0 impl_checksum_l0_h impl_checksum_l0_o (loopOf Tryd.f79 0) back d = impl_checksum_l0_r N back d := by kernel_rfl
noncomputable def F_impl_checksum (N : Nat) (d : ByteArray × Unit) : Option (Int × Unit) :=
  let a0 : ByteArray := d.1
  (impl_checksum_l0 N N ((a0, ((7 : Int), ((0 : Int), ()))))).bind fun o5 => match o5 with
  | .inl d6 =>
    some (d6.1, ())
theorem F_impl_checksum_ok (N : Nat) (d) : fnR Γ_impl_checksum (assoc [(0, ⟨impl_checksum_l0_h, impl_checksum_l0_o, impl_checksum_l0 N N⟩)]) true [(.str, false)] [I] Tryd.f79.results.toList (bodyOf Tryd.f79) d = F_impl_checksum N d := by kernel_rfl
noncomputable def S_impl_checksum : FSig := ⟨[(.str, false)], [I], true, (G_sum)⟩
noncomputable def Γ_impl_AppendChecksum : Ctx := { tk := assoc tks, ar := assoc ars, fs := assoc [(69, S_strconv_Itoa), (78, S_strings_Contains), (79, S_impl_checksum)] }
noncomputable def F_impl_AppendChecksum (N : Nat) (d : ByteArray × Unit) : Option (ByteArray × Bool × Unit) :=
  let a0 : ByteArray := d.1
  if (decide ((a0.size : Int) > (4000 : Int))) = true then
    some (((⟨#[]⟩ : ByteArray), (false, ())))
  else
    (G_contains ((a0, ((⟨#[35]⟩ : ByteArray), ())))).bind fun r1 =>
    if (r1.1) = true then
      some (((⟨#[]⟩ : ByteArray), (false, ())))
    else
      if (decide (a0.size + (⟨#[35]⟩ : ByteArray).size ≤ maxLen)) = true then
      (G_sum (a0, ())).bind fun r2 =>
      (G_itoa (r2.1, ())).bind fun r3 =>
      if (decide ((a0 ++ (⟨#[35]⟩ : ByteArray)).size + r3.1.size ≤ maxLen)) = true then
      let x4 : ByteArray := (a0 ++ (⟨#[35]⟩ : ByteArray)) ++ r3.1
      if (decide ((x4.size : Int) > (4000 : Int))) = true then
        some (((⟨#[]⟩ : ByteArray), (false, ())))
      else
        some ((x4, (true, ())))
      else none
      else none
theorem F_impl_AppendChecksum_ok (N : Nat) (d) : fnR Γ_impl_AppendChecksum (assoc []) true [(.str, false)] [.str, .bool] Tryd.f68.results.toList (bodyOf Tryd.f68) d = F_impl_AppendChecksum N d := by kernel_rfl
noncomputable def S_impl_AppendChecksum : FSig := ⟨[(.str, false)], [.str, .bool], true, (F_impl_AppendChecksum 0)⟩
noncomputable def Γ_impl_encodeRecord : Ctx := { tk := assoc tks, ar := assoc ars, fs := assoc [(68, S_impl_AppendChecksum), (69, S_strconv_Itoa)] }
noncomputable def F_impl_encodeRecord (N : Nat) (d : Int × (ByteArray × ByteArray × Unit) × Unit) : Option (ByteArray × Unit) :=
  let a0 : Int := d.1
  let a1 : ByteArray × ByteArray × Unit := d.2.1
  (G_itoa (a0, ())).bind fun r1 =>
  if (decide (r1.1.size + (⟨#[32]⟩ : ByteArray).size ≤ maxLen)) = true then
  let x2 : ByteArray := r1.1 ++ (⟨#[32]⟩ : ByteArray)
  if (decide (x2.size + a1.1.size ≤ maxLen)) = true then
  if (decide ((x2 ++ a1.1).size + (⟨#[64]⟩ : ByteArray).size ≤ maxLen)) = true then
  let x3 : ByteArray := (x2 ++ a1.1) ++ (⟨#[64]⟩ : ByteArray)
  if (decide (x3.size + a1.2.1.size ≤ maxLen)) = true then
  ((F_impl_AppendChecksum 0) (x3 ++ a1.2.1, ())).bind fun r4 =>
  if (decide (r4.1.size + (⟨#[10]⟩ : ByteArray).size ≤ maxLen)) = true then
  let x5 : ByteArray := r4.1 ++ (⟨#[10]⟩ : ByteArray)
  some (x5, ())
  else none
  else none
  else none
  else none
  else none
theorem F_impl_encodeRecord_ok (N : Nat) (d) : fnR Γ_impl_encodeRecord (assoc []) true [(I, false), (K_Pssq, false)] [.str] Tryd.f49.results.toList (bodyOf Tryd.f49) d = F_impl_encodeRecord N d := by kernel_rfl
noncomputable def S_impl_encodeRecord : FSig := ⟨[(I, false), (K_Pssq, false)], [.str], true, (F_impl_encodeRecord 0)⟩
noncomputable def Γ_impl_EncodeRecord : Ctx := { tk := assoc tks, ar := assoc ars, fs := assoc [(43, S_impl_IsValidRecord), (48, S_impl_within), (49, S_impl_encodeRecord)] }
noncomputable def F_impl_EncodeRecord (N : Nat) (d : Int × (ByteArray × ByteArray × Unit) × Unit) : Option (ByteArray × Bool × Unit) :=
  let a0 : Int := d.1
  let a1 : ByteArray × ByteArray × Unit := d.2.1
  let r1 : Bool × Unit := g_impl_within ((a0, ((0 : Int), ((59 : Int), ()))))
  if (!r1.1) = true then
    some (((⟨#[]⟩ : ByteArray), (false, ())))
  else
    ((F_impl_IsValidRecord 0) (a1, ())).bind fun r2 =>
    if (!r2.1) = true then
      some (((⟨#[]⟩ : ByteArray), (false, ())))
    else
      ((F_impl_encodeRecord 0) ((a0, (a1, ())))).bind fun r3 =>
      some ((r3.1, (true, ())))
theorem F_impl_EncodeRecord_ok (N : Nat) (d) : fnR Γ_impl_EncodeRecord (assoc []) true [(I, false), (K_Pssq, false)] [.str, .bool] Tryd.f15.results.toList (bodyOf Tryd.f15) d = F_impl_EncodeRecord N d := by kernel_rfl
noncomputable def S_impl_EncodeRecord : FSig := ⟨[(I, false), (K_Pssq, false)], [.str, .bool], true, (F_impl_EncodeRecord 0)⟩
noncomputable def Γ_spec_l1In : Ctx := { tk := assoc tks, ar := assoc ars, fs := assoc [] }
noncomputable def F_spec_l1In (N : Nat) (d : Int × Int × Int × Unit) : Option (Bool × Unit) :=
  let a0 : Int := d.1
  let a1 : Int := d.2.1
  let a2 : Int := d.2.2.1
  if (decide (a0 ≥ a1)) = true then
    some (decide (a0 ≤ a2), ())
  else
    some (false, ())
theorem F_spec_l1In_ok (N : Nat) (d) : fnR Γ_spec_l1In (assoc []) true [(I, false), (I, false), (I, false)] [.bool] Tryd.f45.results.toList (bodyOf Tryd.f45) d = F_spec_l1In N d := by kernel_rfl
noncomputable def g_spec_l1In (d : Int × Int × Int × Unit) : Bool × Unit :=
  let a0 : Int := d.1
  let a1 : Int := d.2.1
  let a2 : Int := d.2.2.1
  if (decide (a0 ≥ a1)) = true then
    (decide (a0 ≤ a2), ())
  else
    (false, ())
theorem F_spec_l1In_tot (N : Nat) (d) : F_spec_l1In N d = some (g_spec_l1In d) := by
  unfold F_spec_l1In g_spec_l1In
  first
    | rfl
    | (dsimp only; (repeat' split) <;> rfl)
noncomputable def S_spec_l1In : FSig := ⟨[(I, false), (I, false), (I, false)], [.bool], true, (fun d => some (g_spec_l1In d))⟩
noncomputable def Γ_spec_l12Bytes : Ctx := { tk := assoc tks, ar := assoc ars, fs := assoc [(45, S_spec_l1In)] }
abbrev spec_l12Bytes_l0_H := ByteArray × Int × Int × Unit
abbrev spec_l12Bytes_l0_O := (Bool × Unit) ⊕ (ByteArray × Int × Unit) ⊕ Empty
def spec_l12Bytes_l0_h : Form := [(0, .v .str), (1, .v I), (5, .v I)]
def spec_l12Bytes_l0_o : Outs := [(.ret, [(4, .v .bool)]), (.normal, [(0, .v .str), (1, .v I)])]
noncomputable def spec_l12Bytes_l0_r (N : Nat) (back : spec_l12Bytes_l0_H → Option spec_l12Bytes_l0_O) (d : spec_l12Bytes_l0_H) : Option spec_l12Bytes_l0_O :=
  let s0 : ByteArray := d.1
  let s1 : Int := d.2.1
  let s5 : Int := d.2.2.1
  if (decide (s5 < (s0.size : Int))) = true then
    if (idxIn s5 s0.size) = true then
    let x7 : Int := IntKind.wrap .i64 (byteAt s0 s5.toNat : Int)
    let r8 : Bool × Unit := g_spec_l1In ((x7, ((32 : Int), ((126 : Int), ()))))
    if (!r8.1) = true then
      some (.inl (false, ()))
    else
      if (idxIn s5 s0.size) = true then
      if ((byteAt s0 s5.toNat : Int) == (35 : Int)) = true then
        some (.inl (false, ()))
      else
        let x9 : Int := IntKind.wrap .i64 (s5 + (1 : Int))
        back ((s0, (s1, (x9, ()))))
      else none
    else none
  else
    some (.inr (.inl ((s0, (s1, ())))))
noncomputable def spec_l12Bytes_l0 (N : Nat) : Nat → spec_l12Bytes_l0_H → Option spec_l12Bytes_l0_O
  | 0, _ => none
  | k + 1, d => spec_l12Bytes_l0_r N (spec_l12Bytes_l0 N k) d
theorem spec_l12Bytes_l0_ok (N : Nat) (back) (d) : roundR Γ_spec_l12Bytes (assoc []) 0 spec_l12Bytes_l0_h spec_l12Bytes_l0_o (loopOf Tryd.f64 0) back d = spec_l12Bytes_l0_r N back d := by kernel_rfl
noncomputable def F_spec_l12Bytes (N : Nat) (d : ByteArray × Int × Unit) : Option (Bool × Unit) :=
  let a0 : ByteArray := d.1
  let a1 : Int := d.2.1
  (spec_l12Bytes_l0 N N ((a0, (a1, ((0 : Int), ()))))).bind fun o4 => match o4 with
  | .inl d5 =>
    some (d5.1, ())
  | .inr (.inl d6) =>
    some ((decide ((d6.1.size : Int) ≤ d6.2.1), ()))
theorem F_spec_l12Bytes_ok (N : Nat) (d) : fnR Γ_spec_l12Bytes (assoc [(0, ⟨spec_l12Bytes_l0_h, spec_l12Bytes_l0_o, spec_l12Bytes_l0 N N⟩)]) true [(.str, false), (I, false)] [.bool] Tryd.f64.results.toList (bodyOf Tryd.f64) d = F_spec_l12Bytes N d := by kernel_rfl
noncomputable def S_spec_l12Bytes : FSig := ⟨[(.str, false), (I, false)], [.bool], true, (G_l12Bytes)⟩
noncomputable def Γ_spec_l1Stands : Ctx := { tk := assoc tks, ar := assoc ars, fs := assoc [] }
abbrev spec_l1Stands_l0_H := ByteArray × Int × Int × Unit
abbrev spec_l1Stands_l0_O := (Bool × Unit) ⊕ Unit ⊕ Empty
def spec_l1Stands_l0_h : Form := [(0, .v .str), (1, .v (.int .u8)), (5, .v I)]
def spec_l1Stands_l0_o : Outs := [(.ret, [(4, .v .bool)]), (.normal, [])]
noncomputable def spec_l1Stands_l0_r (N : Nat) (back : spec_l1Stands_l0_H → Option spec_l1Stands_l0_O) (d : spec_l1Stands_l0_H) : Option spec_l1Stands_l0_O :=
  let s0 : ByteArray := d.1
  let s1 : Int := d.2.1
  let s5 : Int := d.2.2.1
  if (decide (s5 < (s0.size : Int))) = true then
    if (idxIn s5 s0.size) = true then
    if ((byteAt s0 s5.toNat : Int) == s1) = true then
      some (.inl (true, ()))
    else
      let x5 : Int := IntKind.wrap .i64 (s5 + (1 : Int))
      back ((s0, (s1, (x5, ()))))
    else none
  else
    some (.inr (.inl ()))
noncomputable def spec_l1Stands_l0 (N : Nat) : Nat → spec_l1Stands_l0_H → Option spec_l1Stands_l0_O
  | 0, _ => none
  | k + 1, d => spec_l1Stands_l0_r N (spec_l1Stands_l0 N k) d
theorem spec_l1Stands_l0_ok (N : Nat) (back) (d) : roundR Γ_spec_l1Stands (assoc []) 0 spec_l1Stands_l0_h spec_l1Stands_l0_o (loopOf Tryd.f65 0) back d = spec_l1Stands_l0_r N back d := by kernel_rfl
noncomputable def F_spec_l1Stands (N : Nat) (d : ByteArray × Int × Unit) : Option (Bool × Unit) :=
  let a0 : ByteArray := d.1
  let a1 : Int := d.2.1
  (spec_l1Stands_l0 N N ((a0, (a1, ((0 : Int), ()))))).bind fun o2 => match o2 with
  | .inl d3 =>
    some (d3.1, ())
  | .inr (.inl d4) =>
    some (false, ())
theorem F_spec_l1Stands_ok (N : Nat) (d) : fnR Γ_spec_l1Stands (assoc [(0, ⟨spec_l1Stands_l0_h, spec_l1Stands_l0_o, spec_l1Stands_l0 N N⟩)]) true [(.str, false), ((.int .u8), false)] [.bool] Tryd.f65.results.toList (bodyOf Tryd.f65) d = F_spec_l1Stands N d := by kernel_rfl
noncomputable def S_spec_l1Stands : FSig := ⟨[(.str, false), ((.int .u8), false)], [.bool], true, (G_l1Stands)⟩
noncomputable def Γ_spec_l12Record : Ctx := { tk := assoc tks, ar := assoc ars, fs := assoc [(64, S_spec_l12Bytes), (65, S_spec_l1Stands)] }
noncomputable def F_spec_l12Record (N : Nat) (d : (ByteArray × ByteArray × Unit) × Unit) : Option (Bool × Unit) :=
  let a0 : ByteArray × ByteArray × Unit := d.1
  if (!seq_ a0.1 (⟨#[]⟩ : ByteArray)) = true then
    (G_l12Bytes ((a0.1, ((160 : Int), ())))).bind fun r1 =>
    if (r1.1) = true then
      (G_l1Stands ((a0.1, ((64 : Int), ())))).bind fun r2 =>
      if (!r2.1) = true then
        (G_l12Bytes ((a0.2.1, ((200 : Int), ())))).bind fun r3 =>
        some (r3.1, ())
      else
        some (false, ())
    else
      some (false, ())
  else
    some (false, ())
theorem F_spec_l12Record_ok (N : Nat) (d) : fnR Γ_spec_l12Record (assoc []) true [(K_Pssq, false)] [.bool] Tryd.f46.results.toList (bodyOf Tryd.f46) d = F_spec_l12Record N d := by kernel_rfl
noncomputable def S_spec_l12Record : FSig := ⟨[(K_Pssq, false)], [.bool], true, (F_spec_l12Record 0)⟩
noncomputable def F_spec_l1Num : Nat → (Int × Unit) → Option (ByteArray × Unit)
  | 0, _ => none
  | N + 1, d =>
    let a0 : Int := d.1
    if (decide (a0 < (0 : Int))) = true then
      (F_spec_l1Num N (IntKind.wrap .i64 (0 - a0), ())).bind fun r1 =>
      if (decide ((⟨#[45]⟩ : ByteArray).size + r1.1.size ≤ maxLen)) = true then
      let x2 : ByteArray := (⟨#[45]⟩ : ByteArray) ++ r1.1
      some (x2, ())
      else none
    else
      if (decide (a0 < (10 : Int))) = true then
        let x3 : Int := IntKind.wrap .i64 (a0 + (1 : Int))
        if ((decide (0 ≤ a0) && decide (a0 ≤ x3) && decide (x3 ≤ ((⟨#[48, 49, 50, 51, 52, 53, 54, 55, 56, 57]⟩ : ByteArray).size : Int)))) = true then
        let x4 : ByteArray := subS (⟨#[48, 49, 50, 51, 52, 53, 54, 55, 56, 57]⟩ : ByteArray) a0 x3
        some (x4, ())
        else none
      else
        if ((10 : Int) != 0) = true then
        let x5 : Int := IntKind.wrap .i64 (a0.tdiv (10 : Int))
        (F_spec_l1Num N (x5, ())).bind fun r6 =>
        if ((10 : Int) != 0) = true then
        if ((10 : Int) != 0) = true then
        let x7 : Int := IntKind.wrap .i64 (a0.tmod (10 : Int) + (1 : Int))
        if ((decide (0 ≤ a0.tmod (10 : Int)) && decide (a0.tmod (10 : Int) ≤ x7) && decide (x7 ≤ ((⟨#[48, 49, 50, 51, 52, 53, 54, 55, 56, 57]⟩ : ByteArray).size : Int)))) = true then
        let x8 : ByteArray := subS (⟨#[48, 49, 50, 51, 52, 53, 54, 55, 56, 57]⟩ : ByteArray) (a0.tmod (10 : Int)) x7
        if (decide (r6.1.size + x8.size ≤ maxLen)) = true then
        some (r6.1 ++ x8, ())
        else none
        else none
        else none
        else none
        else none
noncomputable def S_spec_l1Num_rec (N : Nat) : FSig := ⟨[(I, false)], [.str], true, F_spec_l1Num N⟩
noncomputable def Γ_spec_l1Num (N : Nat) : Ctx := { tk := assoc tks, ar := assoc ars, fs := assoc [(67, S_spec_l1Num_rec N)] }
theorem F_spec_l1Num_ok (N : Nat) (d) : fnR (Γ_spec_l1Num N) (assoc []) true [(I, false)] [.str] Tryd.f67.results.toList (bodyOf Tryd.f67) d = F_spec_l1Num (N + 1) d := by kernel_rfl
noncomputable def S_spec_l1Num : FSig := ⟨[(I, false)], [.str], true, (G_l1Num)⟩
noncomputable def Γ_spec_l1Sum : Ctx := { tk := assoc tks, ar := assoc ars, fs := assoc [] }
abbrev spec_l1Sum_l0_H := ByteArray × Int × Int × Unit
abbrev spec_l1Sum_l0_O := (Int × Unit) ⊕ Empty
def spec_l1Sum_l0_h : Form := [(0, .v .str), (3, .v I), (4, .v I)]
def spec_l1Sum_l0_o : Outs := [(.normal, [(3, .v I)])]
noncomputable def spec_l1Sum_l0_r (N : Nat) (back : spec_l1Sum_l0_H → Option spec_l1Sum_l0_O) (d : spec_l1Sum_l0_H) : Option spec_l1Sum_l0_O :=
  let s0 : ByteArray := d.1
  let s3 : Int := d.2.1
  let s4 : Int := d.2.2.1
  if (decide (s4 < (s0.size : Int))) = true then
    let x7 : Int := IntKind.wrap .i64 ((41 : Int) * s3)
    if (idxIn s4 s0.size) = true then
    let x8 : Int := IntKind.wrap .i64 (byteAt s0 s4.toNat : Int)
    let x9 : Int := IntKind.wrap .i64 (IntKind.wrap .i64 (x7 + x8) + (1 : Int))
    if ((999979 : Int) != 0) = true then
    let x10 : Int := IntKind.wrap .i64 (s4 + (1 : Int))
    back ((s0, (x9.tmod (999979 : Int), (x10, ()))))
    else none
    else none
  else
    some (.inl (s3, ()))
noncomputable def spec_l1Sum_l0 (N : Nat) : Nat → spec_l1Sum_l0_H → Option spec_l1Sum_l0_O
  | 0, _ => none
  | k + 1, d => spec_l1Sum_l0_r N (spec_l1Sum_l0 N k) d
theorem spec_l1Sum_l0_ok (N : Nat) (back) (d) : roundR Γ_spec_l1Sum (assoc []) 0 spec_l1Sum_l0_h spec_l1Sum_l0_o (loopOf Tryd.f77 0) back d = spec_l1Sum_l0_r N back d := by kernel_rfl
noncomputable def F_spec_l1Sum (N : Nat) (d : ByteArray × Unit) : Option (Int × Unit) :=
  let a0 : ByteArray := d.1
  (spec_l1Sum_l0 N N ((a0, ((7 : Int), ((0 : Int), ()))))).bind fun o5 => match o5 with
  | .inl d6 =>
    some (d6.1, ())
theorem F_spec_l1Sum_ok (N : Nat) (d) : fnR Γ_spec_l1Sum (assoc [(0, ⟨spec_l1Sum_l0_h, spec_l1Sum_l0_o, spec_l1Sum_l0 N N⟩)]) true [(.str, false)] [I] Tryd.f77.results.toList (bodyOf Tryd.f77) d = F_spec_l1Sum N d := by kernel_rfl
noncomputable def S_spec_l1Sum : FSig := ⟨[(.str, false)], [I], true, (G_sum)⟩
noncomputable def Γ_spec_l1Seal : Ctx := { tk := assoc tks, ar := assoc ars, fs := assoc [(67, S_spec_l1Num), (77, S_spec_l1Sum)] }
noncomputable def F_spec_l1Seal (N : Nat) (d : ByteArray × Unit) : Option (ByteArray × Unit) :=
  let a0 : ByteArray := d.1
  if (decide (a0.size + (⟨#[35]⟩ : ByteArray).size ≤ maxLen)) = true then
  (G_sum (a0, ())).bind fun r1 =>
  (G_l1Num (r1.1, ())).bind fun r2 =>
  if (decide ((a0 ++ (⟨#[35]⟩ : ByteArray)).size + r2.1.size ≤ maxLen)) = true then
  let x3 : ByteArray := (a0 ++ (⟨#[35]⟩ : ByteArray)) ++ r2.1
  some (x3, ())
  else none
  else none
theorem F_spec_l1Seal_ok (N : Nat) (d) : fnR Γ_spec_l1Seal (assoc []) true [(.str, false)] [.str] Tryd.f66.results.toList (bodyOf Tryd.f66) d = F_spec_l1Seal N d := by kernel_rfl
noncomputable def S_spec_l1Seal : FSig := ⟨[(.str, false)], [.str], true, (F_spec_l1Seal 0)⟩
noncomputable def Γ_spec_l12Line : Ctx := { tk := assoc tks, ar := assoc ars, fs := assoc [(66, S_spec_l1Seal), (67, S_spec_l1Num)] }
noncomputable def F_spec_l12Line (N : Nat) (d : Int × (ByteArray × ByteArray × Unit) × Unit) : Option (ByteArray × Unit) :=
  let a0 : Int := d.1
  let a1 : ByteArray × ByteArray × Unit := d.2.1
  (G_l1Num (a0, ())).bind fun r1 =>
  if (decide (r1.1.size + (⟨#[32]⟩ : ByteArray).size ≤ maxLen)) = true then
  let x2 : ByteArray := r1.1 ++ (⟨#[32]⟩ : ByteArray)
  if (decide (x2.size + a1.1.size ≤ maxLen)) = true then
  if (decide ((x2 ++ a1.1).size + (⟨#[64]⟩ : ByteArray).size ≤ maxLen)) = true then
  let x3 : ByteArray := (x2 ++ a1.1) ++ (⟨#[64]⟩ : ByteArray)
  if (decide (x3.size + a1.2.1.size ≤ maxLen)) = true then
  ((F_spec_l1Seal 0) (x3 ++ a1.2.1, ())).bind fun r4 =>
  if (decide (r4.1.size + (⟨#[10]⟩ : ByteArray).size ≤ maxLen)) = true then
  let x5 : ByteArray := r4.1 ++ (⟨#[10]⟩ : ByteArray)
  some (x5, ())
  else none
  else none
  else none
  else none
  else none
theorem F_spec_l12Line_ok (N : Nat) (d) : fnR Γ_spec_l12Line (assoc []) true [(I, false), (K_Pssq, false)] [.str] Tryd.f47.results.toList (bodyOf Tryd.f47) d = F_spec_l12Line N d := by kernel_rfl
noncomputable def S_spec_l12Line : FSig := ⟨[(I, false), (K_Pssq, false)], [.str], true, (F_spec_l12Line 0)⟩
noncomputable def Γ_spec_EncodeRecord : Ctx := { tk := assoc tks, ar := assoc ars, fs := assoc [(45, S_spec_l1In), (46, S_spec_l12Record), (47, S_spec_l12Line)] }
noncomputable def F_spec_EncodeRecord (N : Nat) (d : Int × (ByteArray × ByteArray × Unit) × Unit) : Option (ByteArray × Bool × Unit) :=
  let a0 : Int := d.1
  let a1 : ByteArray × ByteArray × Unit := d.2.1
  let r1 : Bool × Unit := g_spec_l1In ((a0, ((0 : Int), ((59 : Int), ()))))
  if (!r1.1) = true then
    some (((⟨#[]⟩ : ByteArray), (false, ())))
  else
    ((F_spec_l12Record 0) (a1, ())).bind fun r2 =>
    if (!r2.1) = true then
      some (((⟨#[]⟩ : ByteArray), (false, ())))
    else
      ((F_spec_l12Line 0) ((a0, (a1, ())))).bind fun r3 =>
      some ((r3.1, (true, ())))
theorem F_spec_EncodeRecord_ok (N : Nat) (d) : fnR Γ_spec_EncodeRecord (assoc []) true [(I, false), (K_Pssq, false)] [.str, .bool] Tryd.f13.results.toList (bodyOf Tryd.f13) d = F_spec_EncodeRecord N d := by kernel_rfl
noncomputable def S_spec_EncodeRecord : FSig := ⟨[(I, false), (K_Pssq, false)], [.str, .bool], true, (F_spec_EncodeRecord 0)⟩
noncomputable def Γ_spec_l1Split : Ctx := { tk := assoc tks, ar := assoc ars, fs := assoc [] }
abbrev spec_l1Split_l0_H := ByteArray × Int × List ByteArray × Int × Int × Unit
abbrev spec_l1Split_l0_O := (ByteArray × List ByteArray × Int × Unit) ⊕ Empty
def spec_l1Split_l0_h : Form := [(0, .v .str), (1, .v (.int .u8)), (5, .own K_Ss 99), (6, .v I), (7, .v I)]
def spec_l1Split_l0_o : Outs := [(.normal, [(0, .v .str), (5, .own K_Ss 99), (6, .v I)])]
noncomputable def spec_l1Split_l0_r (N : Nat) (back : spec_l1Split_l0_H → Option spec_l1Split_l0_O) (d : spec_l1Split_l0_H) : Option spec_l1Split_l0_O :=
  let s0 : ByteArray := d.1
  let s1 : Int := d.2.1
  let s5 : List ByteArray := d.2.2.1
  let s6 : Int := d.2.2.2.1
  let s7 : Int := d.2.2.2.2.1
  if (decide (s7 < (s0.size : Int))) = true then
    if (idxIn s7 s0.size) = true then
    if ((byteAt s0 s7.toNat : Int) == s1) = true then
      if ((decide (0 ≤ s6) && decide (s6 ≤ s7) && decide (s7 ≤ (s0.size : Int)))) = true then
      if (decide (List.length s5 + List.length ([subS s0 s6 s7]) ≤ lim)) = true then
      let x7 : Int := IntKind.wrap .i64 (s7 + (1 : Int))
      let x8 : Int := IntKind.wrap .i64 (s7 + (1 : Int))
      back ((s0, (s1, (s5 ++ ([subS s0 s6 s7]), (x7, (x8, ()))))))
      else none
      else none
    else
      let x9 : Int := IntKind.wrap .i64 (s7 + (1 : Int))
      back ((s0, (s1, (s5, (s6, (x9, ()))))))
    else none
  else
    some (.inl ((s0, (s5, (s6, ())))))
noncomputable def spec_l1Split_l0 (N : Nat) : Nat → spec_l1Split_l0_H → Option spec_l1Split_l0_O
  | 0, _ => none
  | k + 1, d => spec_l1Split_l0_r N (spec_l1Split_l0 N k) d
theorem spec_l1Split_l0_ok (N : Nat) (back) (d) : roundR Γ_spec_l1Split (assoc []) 0 spec_l1Split_l0_h spec_l1Split_l0_o (loopOf Tryd.f70 0) back d = spec_l1Split_l0_r N back d := by kernel_rfl
noncomputable def F_spec_l1Split (N : Nat) (d : ByteArray × Int × Unit) : Option (List ByteArray × Unit) :=
  let a0 : ByteArray := d.1
  let a1 : Int := d.2.1
  (spec_l1Split_l0 N N ((a0, (a1, (([] : List ByteArray), ((0 : Int), ((0 : Int), ()))))))).bind fun o4 => match o4 with
  | .inl d5 =>
    if ((decide (0 ≤ d5.2.2.1) && decide (d5.2.2.1 ≤ (d5.1.size : Int)) && decide ((d5.1.size : Int) ≤ (d5.1.size : Int)))) = true then
    let x6 : ByteArray := subS d5.1 d5.2.2.1 (d5.1.size : Int)
    if (decide (List.length d5.2.1 + List.length ([x6]) ≤ lim)) = true then
    some (d5.2.1 ++ ([x6]), ())
    else none
    else none
theorem F_spec_l1Split_ok (N : Nat) (d) : fnR Γ_spec_l1Split (assoc [(0, ⟨spec_l1Split_l0_h, spec_l1Split_l0_o, spec_l1Split_l0 N N⟩)]) true [(.str, false), ((.int .u8), false)] [K_Ss] Tryd.f70.results.toList (bodyOf Tryd.f70) d = F_spec_l1Split N d := by kernel_rfl
noncomputable def S_spec_l1Split : FSig := ⟨[(.str, false), ((.int .u8), false)], [K_Ss], true, (G_l1Split)⟩
noncomputable def Γ_spec_l12Decode : Ctx := { tk := assoc tks, ar := assoc ars, fs := assoc [(46, S_spec_l12Record), (47, S_spec_l12Line), (67, S_spec_l1Num), (70, S_spec_l1Split)] }
noncomputable def F_spec_l12Decode (N : Nat) (d : ByteArray × Int × Unit) : Option ((ByteArray × ByteArray × Unit) × Bool × Unit) :=
  let a0 : ByteArray := d.1
  let a1 : Int := d.2.1
  (G_l1Num (a1, ())).bind fun r1 =>
  if (decide (r1.1.size + (⟨#[32]⟩ : ByteArray).size ≤ maxLen)) = true then
  let x2 : ByteArray := r1.1 ++ (⟨#[32]⟩ : ByteArray)
  (G_l1Split ((a0, ((35 : Int), ())))).bind fun r3 =>
  if (idxIn (0 : Int) (List.length r3.1)) = true then
  if (decide (((at_ .str r3.1 (0 : Int).toNat).size : Int) < (x2.size : Int))) = true then
    some (((ByteArray.empty, (ByteArray.empty, ())), (false, ())))
  else
    if ((decide (0 ≤ (0 : Int)) && decide ((0 : Int) ≤ (x2.size : Int)) && decide ((x2.size : Int) ≤ ((at_ .str r3.1 (0 : Int).toNat).size : Int)))) = true then
    let x4 : ByteArray := subS (at_ .str r3.1 (0 : Int).toNat) (0 : Int) (x2.size : Int)
    if (!seq_ x4 x2) = true then
      some (((ByteArray.empty, (ByteArray.empty, ())), (false, ())))
    else
      if ((decide (0 ≤ (x2.size : Int)) && decide ((x2.size : Int) ≤ ((at_ .str r3.1 (0 : Int).toNat).size : Int)) && decide (((at_ .str r3.1 (0 : Int).toNat).size : Int) ≤ ((at_ .str r3.1 (0 : Int).toNat).size : Int)))) = true then
      let x5 : ByteArray := subS (at_ .str r3.1 (0 : Int).toNat) (x2.size : Int) (((at_ .str r3.1 (0 : Int).toNat).size : Int))
      (G_l1Split ((x5, ((64 : Int), ())))).bind fun r6 =>
      if (idxIn (0 : Int) (List.length r6.1)) = true then
      if (((at_ .str r6.1 (0 : Int).toNat).size : Int) == (x5.size : Int)) = true then
        some (((ByteArray.empty, (ByteArray.empty, ())), (false, ())))
      else
        let x7 : Int := IntKind.wrap .i64 (((at_ .str r6.1 (0 : Int).toNat).size : Int) + (1 : Int))
        if ((decide (0 ≤ x7) && decide (x7 ≤ (x5.size : Int)) && decide ((x5.size : Int) ≤ (x5.size : Int)))) = true then
        ((F_spec_l12Record 0) (((at_ .str r6.1 (0 : Int).toNat, (subS x5 x7 (x5.size : Int), ())), ()))).bind fun r8 =>
        if (r8.1) = true then
          ((F_spec_l12Line 0) ((a1, ((at_ .str r6.1 (0 : Int).toNat, (subS x5 x7 (x5.size : Int), ())), ())))).bind fun r9 =>
          if (decide (a0.size + (⟨#[10]⟩ : ByteArray).size ≤ maxLen)) = true then
          some (((at_ .str r6.1 (0 : Int).toNat, (subS x5 x7 (x5.size : Int), ())), (seq_ r9.1 (a0 ++ (⟨#[10]⟩ : ByteArray)), ())))
          else none
        else
          some (((at_ .str r6.1 (0 : Int).toNat, (subS x5 x7 (x5.size : Int), ())), (false, ())))
        else none
      else none
      else none
    else none
  else none
  else none
theorem F_spec_l12Decode_ok (N : Nat) (d) : fnR Γ_spec_l12Decode (assoc []) true [(.str, false), (I, false)] [K_Pssq, .bool] Tryd.f71.results.toList (bodyOf Tryd.f71) d = F_spec_l12Decode N d := by kernel_rfl
noncomputable def S_spec_l12Decode : FSig := ⟨[(.str, false), (I, false)], [K_Pssq, .bool], true, (F_spec_l12Decode 0)⟩
noncomputable def Γ_spec_l12Open : Ctx := { tk := assoc tks, ar := assoc ars, fs := assoc [(70, S_spec_l1Split), (71, S_spec_l12Decode)] }
abbrev spec_l12Open_l0_H := ByteArray × (List (ByteArray × ByteArray × Unit)) × Int × Unit
abbrev spec_l12Open_l0_O := ((List (ByteArray × ByteArray × Unit)) × Int × Unit) ⊕ Empty
def spec_l12Open_l0_h : Form := [(0, .v .str), (4, .own K_SPssq 99), (5, .v I)]
def spec_l12Open_l0_o : Outs := [(.normal, [(4, .own K_SPssq 99), (5, .v I)])]
noncomputable def spec_l12Open_l0_r (N : Nat) (back : spec_l12Open_l0_H → Option spec_l12Open_l0_O) (d : spec_l12Open_l0_H) : Option spec_l12Open_l0_O :=
  let s0 : ByteArray := d.1
  let s4 : List (ByteArray × ByteArray × Unit) := d.2.1
  let s5 : Int := d.2.2.1
  if (decide (s5 < (s0.size : Int))) = true then
    if (decide ((List.length s4 : Int) < (60 : Int))) = true then
      if ((decide (0 ≤ s5) && decide (s5 ≤ (s0.size : Int)) && decide ((s0.size : Int) ≤ (s0.size : Int)))) = true then
      (G_l1Split ((subS s0 s5 (s0.size : Int), ((10 : Int), ())))).bind fun r7 =>
      if (idxIn (0 : Int) (List.length r7.1)) = true then
      ((F_spec_l12Decode 0) ((at_ .str r7.1 (0 : Int).toNat, ((List.length s4 : Int), ())))).bind fun r8 =>
      if (decide ((List.length r7.1 : Int) < (2 : Int))) = true then
        some (.inl ((s4, (s5, ()))))
      else
        if (!r8.2.1) = true then
          some (.inl ((s4, (s5, ()))))
        else
          if (decide (List.length s4 + List.length ([r8.1]) ≤ lim)) = true then
          if (idxIn (0 : Int) (List.length r7.1)) = true then
          let x9 : Int := IntKind.wrap .i64 (s5 + ((at_ .str r7.1 (0 : Int).toNat).size : Int))
          let x10 : Int := IntKind.wrap .i64 (x9 + (1 : Int))
          back ((s0, (s4 ++ ([r8.1]), (x10, ()))))
          else none
          else none
      else none
      else none
    else
      some (.inl ((s4, (s5, ()))))
  else
    some (.inl ((s4, (s5, ()))))
noncomputable def spec_l12Open_l0 (N : Nat) : Nat → spec_l12Open_l0_H → Option spec_l12Open_l0_O
  | 0, _ => none
  | k + 1, d => spec_l12Open_l0_r N (spec_l12Open_l0 N k) d
theorem spec_l12Open_l0_ok (N : Nat) (back) (d) : roundR Γ_spec_l12Open (assoc []) 0 spec_l12Open_l0_h spec_l12Open_l0_o (loopOf Tryd.f50 0) back d = spec_l12Open_l0_r N back d := by kernel_rfl
noncomputable def F_spec_l12Open (N : Nat) (d : ByteArray × Unit) : Option ((List (ByteArray × ByteArray × Unit)) × Int × Unit) :=
  let a0 : ByteArray := d.1
  (spec_l12Open_l0 N N ((a0, (([] : List (ByteArray × ByteArray × Unit)), ((0 : Int), ()))))).bind fun o5 => match o5 with
  | .inl d6 =>
    some ((d6.1, (d6.2.1, ())))
theorem F_spec_l12Open_ok (N : Nat) (d) : fnR Γ_spec_l12Open (assoc [(0, ⟨spec_l12Open_l0_h, spec_l12Open_l0_o, spec_l12Open_l0 N N⟩)]) true [(.str, false)] [K_SPssq, I] Tryd.f50.results.toList (bodyOf Tryd.f50) d = F_spec_l12Open N d := by kernel_rfl
noncomputable def S_spec_l12Open : FSig := ⟨[(.str, false)], [K_SPssq, I], true, (G_open)⟩
noncomputable def Γ_spec_l12Valid : Ctx := { tk := assoc tks, ar := assoc ars, fs := assoc [(50, S_spec_l12Open)] }
noncomputable def F_spec_l12Valid (N : Nat) (d : (ByteArray × ByteArray × Int × Unit) × Unit) : Option (Bool × Unit) :=
  let a0 : ByteArray × ByteArray × Int × Unit := d.1
  let x1 : Int := IntKind.wrap .i64 ((a0.1.size : Int) + (a0.2.1.size : Int))
  if (decide (x1 > (30000 : Int))) = true then
    some (false, ())
  else
    if (decide (a0.1.size + a0.2.1.size ≤ maxLen)) = true then
    (G_open (a0.1 ++ a0.2.1, ())).bind fun r2 =>
    (G_open (a0.1, ())).bind fun r3 =>
    let x4 : Int := IntKind.wrap .i64 ((a0.1.size : Int) + (a0.2.1.size : Int))
    if (r2.2.1 == x4) = true then
      if (r3.2.1 == (a0.1.size : Int)) = true then
        some ((List.length r2.1 : Int) == a0.2.2.1, ())
      else
        some (false, ())
    else
      some (false, ())
    else none
theorem F_spec_l12Valid_ok (N : Nat) (d) : fnR Γ_spec_l12Valid (assoc []) true [(K_Pssiq, false)] [.bool] Tryd.f52.results.toList (bodyOf Tryd.f52) d = F_spec_l12Valid N d := by kernel_rfl
noncomputable def S_spec_l12Valid : FSig := ⟨[(K_Pssiq, false)], [.bool], true, (F_spec_l12Valid 0)⟩
noncomputable def Γ_spec_AppendRecord : Ctx := { tk := assoc tks, ar := assoc ars, fs := assoc [(46, S_spec_l12Record), (47, S_spec_l12Line), (52, S_spec_l12Valid)] }
noncomputable def F_spec_AppendRecord (N : Nat) (d : (ByteArray × ByteArray × Int × Unit) × (ByteArray × ByteArray × Unit) × Unit) : Option ((ByteArray × ByteArray × Int × Unit) × Int × Unit) :=
  let a0 : ByteArray × ByteArray × Int × Unit := d.1
  let a1 : ByteArray × ByteArray × Unit := d.2.1
  ((F_spec_l12Valid 0) (a0, ())).bind fun r1 =>
  if (!r1.1) = true then
    some ((a0, ((1 : Int), ())))
  else
    ((F_spec_l12Record 0) (a1, ())).bind fun r2 =>
    if (!r2.1) = true then
      some ((a0, ((1 : Int), ())))
    else
      if (a0.2.2.1 == (60 : Int)) = true then
        some ((a0, ((2 : Int), ())))
      else
        ((F_spec_l12Line 0) ((a0.2.2.1, (a1, ())))).bind fun r3 =>
        if (decide (a0.2.1.size + r3.1.size ≤ maxLen)) = true then
        let x4 : Int := IntKind.wrap .i64 (a0.2.2.1 + (1 : Int))
        some (((a0.1, (a0.2.1 ++ r3.1, (x4, a0.2.2.2))), ((0 : Int), ())))
        else none
theorem F_spec_AppendRecord_ok (N : Nat) (d) : fnR Γ_spec_AppendRecord (assoc []) true [(K_Pssiq, false), (K_Pssq, false)] [K_Pssiq, I] Tryd.f27.results.toList (bodyOf Tryd.f27) d = F_spec_AppendRecord N d := by kernel_rfl
noncomputable def S_spec_AppendRecord : FSig := ⟨[(K_Pssiq, false), (K_Pssq, false)], [K_Pssiq, I], true, (F_spec_AppendRecord 0)⟩
noncomputable def Γ_spec_l1Cur_one : Ctx := { tk := assoc tks, ar := assoc ars, fs := assoc [(56, S_spec_l1Cur_pick)], lent := fun t => Nat.beq t 0 }
noncomputable def F_spec_l1Cur_one (N : Nat) (d : (List Int × Int × Int × Unit) × Int × Unit) : Option (Bool × (List Int × Int × Int × Unit) × Unit) :=
  let a0 : List Int × Int × Int × Unit := d.1
  let a1 : Int := d.2.1
  ((F_spec_l1Cur_pick 0) ((a0, (a1, ())))).bind fun r1 =>
  some ((r1.1 == (0 : Int), (r1.2.1, ())))
theorem F_spec_l1Cur_one_ok (N : Nat) (d) : fnR Γ_spec_l1Cur_one (assoc []) true [(K_BPSu8iu64q, true), (I, false)] [.bool] Tryd.f57.results.toList (bodyOf Tryd.f57) d = F_spec_l1Cur_one N d := by kernel_rfl
noncomputable def S_spec_l1Cur_one : FSig := ⟨[(K_BPSu8iu64q, true), (I, false)], [.bool], true, (F_spec_l1Cur_one 0)⟩
noncomputable def Γ_spec_SyncLog : Ctx := { tk := assoc tks, ar := assoc ars, fs := assoc [(52, S_spec_l12Valid)] }
noncomputable def F_spec_SyncLog (N : Nat) (d : (ByteArray × ByteArray × Int × Unit) × Unit) : Option ((ByteArray × ByteArray × Int × Unit) × Bool × Unit) :=
  let a0 : ByteArray × ByteArray × Int × Unit := d.1
  ((F_spec_l12Valid 0) (a0, ())).bind fun r1 =>
  if (!r1.1) = true then
    some (((ByteArray.empty, (ByteArray.empty, ((0 : Int), ()))), (false, ())))
  else
    if (decide (a0.1.size + a0.2.1.size ≤ maxLen)) = true then
    some (((a0.1 ++ a0.2.1, (ByteArray.empty, (a0.2.2.1, ()))), (true, ())))
    else none
theorem F_spec_SyncLog_ok (N : Nat) (d) : fnR Γ_spec_SyncLog (assoc []) true [(K_Pssiq, false)] [K_Pssiq, .bool] Tryd.f25.results.toList (bodyOf Tryd.f25) d = F_spec_SyncLog N d := by kernel_rfl
noncomputable def S_spec_SyncLog : FSig := ⟨[(K_Pssiq, false)], [K_Pssiq, .bool], true, (F_spec_SyncLog 0)⟩
noncomputable def Γ_spec_l1Cur_log12 : Ctx := { tk := assoc tks, ar := assoc ars, fs := assoc [(25, S_spec_SyncLog), (27, S_spec_AppendRecord), (56, S_spec_l1Cur_pick), (57, S_spec_l1Cur_one), (60, S_spec_l1Cur_logRecord)], lent := fun t => Nat.beq t 0 }
abbrev spec_l1Cur_log12_l0_H := (List Int × Int × Int × Unit) × (ByteArray × ByteArray × Int × Unit) × (ByteArray × ByteArray × Int × Unit) × Int × Unit
abbrev spec_l1Cur_log12_l0_O := ((List Int × Int × Int × Unit) × (ByteArray × ByteArray × Int × Unit) × (ByteArray × ByteArray × Int × Unit) × Unit) ⊕ Empty
def spec_l1Cur_log12_l0_h : Form := [(0, .box K_PSu8iu64q 0), (2, .box K_Pssiq 99), (3, .box K_Pssiq 99), (4, .v I)]
def spec_l1Cur_log12_l0_o : Outs := [(.normal, [(0, .box K_PSu8iu64q 0), (2, .box K_Pssiq 99), (3, .box K_Pssiq 99)])]
noncomputable def spec_l1Cur_log12_l0_r (N : Nat) (back : spec_l1Cur_log12_l0_H → Option spec_l1Cur_log12_l0_O) (d : spec_l1Cur_log12_l0_H) : Option spec_l1Cur_log12_l0_O :=
  let s0 : List Int × Int × Int × Unit := d.1
  let s2 : ByteArray × ByteArray × Int × Unit := d.2.1
  let s3 : ByteArray × ByteArray × Int × Unit := d.2.2.1
  let s4 : Int := d.2.2.2.1
  if (decide (s4 > (0 : Int))) = true then
    ((F_spec_l1Cur_logRecord 0) (s0, ())).bind fun r10 =>
    ((F_spec_AppendRecord 0) ((s3, (r10.1, ())))).bind fun r11 =>
    ((F_spec_l1Cur_one 0) ((r10.2.1, ((4 : Int), ())))).bind fun r12 =>
    if (r12.1) = true then
      ((F_spec_SyncLog 0) (r11.1, ())).bind fun r13 =>
      let x14 : Int := IntKind.wrap .i64 (s4 - (1 : Int))
      back ((r12.2.1, (s2, (r13.1, (x14, ())))))
    else
      let x15 : Int := IntKind.wrap .i64 (s4 - (1 : Int))
      back ((r12.2.1, (s2, (r11.1, (x15, ())))))
  else
    some (.inl ((s0, (s2, (s3, ())))))
noncomputable def spec_l1Cur_log12_l0 (N : Nat) : Nat → spec_l1Cur_log12_l0_H → Option spec_l1Cur_log12_l0_O
  | 0, _ => none
  | k + 1, d => spec_l1Cur_log12_l0_r N (spec_l1Cur_log12_l0 N k) d
theorem spec_l1Cur_log12_l0_ok (N : Nat) (back) (d) : roundR Γ_spec_l1Cur_log12 (assoc []) 0 spec_l1Cur_log12_l0_h spec_l1Cur_log12_l0_o (loopOf Tryd.f58 0) back d = spec_l1Cur_log12_l0_r N back d := by kernel_rfl
noncomputable def F_spec_l1Cur_log12 (N : Nat) (d : (List Int × Int × Int × Unit) × Unit) : Option ((ByteArray × ByteArray × Int × Unit) × (List Int × Int × Int × Unit) × Unit) :=
  let a0 : List Int × Int × Int × Unit := d.1
  ((F_spec_l1Cur_pick 0) ((a0, ((7 : Int), ())))).bind fun r1 =>
  (spec_l1Cur_log12_l0 N N ((r1.2.1, ((ByteArray.empty, (ByteArray.empty, ((0 : Int), ()))), ((ByteArray.empty, (ByteArray.empty, ((0 : Int), ()))), (r1.1, ())))))).bind fun o8 => match o8 with
  | .inl d9 =>
    some ((d9.2.2.1, (d9.1, ())))
theorem F_spec_l1Cur_log12_ok (N : Nat) (d) : fnR Γ_spec_l1Cur_log12 (assoc [(0, ⟨spec_l1Cur_log12_l0_h, spec_l1Cur_log12_l0_o, spec_l1Cur_log12_l0 N N⟩)]) true [(K_BPSu8iu64q, true)] [K_Pssiq] Tryd.f58.results.toList (bodyOf Tryd.f58) d = F_spec_l1Cur_log12 N d := by kernel_rfl
noncomputable def S_spec_l1Cur_log12 : FSig := ⟨[(K_BPSu8iu64q, true)], [K_Pssiq], true, (pickF F_spec_l1Cur_log12 P_log12)⟩
noncomputable def Γ_spec_l1Cur_spoilt : Ctx := { tk := assoc tks, ar := assoc ars, fs := assoc [(56, S_spec_l1Cur_pick)], lent := fun t => Nat.beq t 0 }
noncomputable def F_spec_l1Cur_spoilt (N : Nat) (d : (List Int × Int × Int × Unit) × ByteArray × ByteArray × Unit) : Option (ByteArray × (List Int × Int × Int × Unit) × Unit) :=
  let a0 : List Int × Int × Int × Unit := d.1
  let a1 : ByteArray := d.2.1
  let a2 : ByteArray := d.2.2.1
  if (seq_ a1 (⟨#[]⟩ : ByteArray)) = true then
    if ((decide (0 ≤ (0 : Int)) && decide ((0 : Int) ≤ (1 : Int)) && decide ((1 : Int) ≤ (a2.size : Int)))) = true then
    some ((subS a2 (0 : Int) (1 : Int), (a0, ())))
    else none
  else
    ((F_spec_l1Cur_pick 0) ((a0, ((a1.size : Int), ())))).bind fun r1 =>
    ((F_spec_l1Cur_pick 0) ((r1.2.1, ((a2.size : Int), ())))).bind fun r2 =>
    if ((decide (0 ≤ r2.1) && decide (r2.1 ≤ (a2.size : Int)) && decide ((a2.size : Int) ≤ (a2.size : Int)))) = true then
    if ((decide (0 ≤ (0 : Int)) && decide ((0 : Int) ≤ (1 : Int)) && decide ((1 : Int) ≤ ((subS a2 r2.1 (a2.size : Int)).size : Int)))) = true then
    let x3 : ByteArray := subS (subS a2 r2.1 (a2.size : Int)) (0 : Int) (1 : Int)
    ((F_spec_l1Cur_pick 0) ((r2.2.1, ((3 : Int), ())))).bind fun r4 =>
    if (r4.1 == (0 : Int)) = true then
      if ((decide (0 ≤ (0 : Int)) && decide ((0 : Int) ≤ r1.1) && decide (r1.1 ≤ (a1.size : Int)))) = true then
      if (decide ((subS a1 (0 : Int) r1.1).size + x3.size ≤ maxLen)) = true then
      let x5 : ByteArray := (subS a1 (0 : Int) r1.1) ++ x3
      if ((decide (0 ≤ r1.1) && decide (r1.1 ≤ (a1.size : Int)) && decide ((a1.size : Int) ≤ (a1.size : Int)))) = true then
      if (decide (x5.size + (subS a1 r1.1 (a1.size : Int)).size ≤ maxLen)) = true then
      let x6 : ByteArray := x5 ++ (subS a1 r1.1 (a1.size : Int))
      some ((x6, (r4.2.1, ())))
      else none
      else none
      else none
      else none
    else
      if (r4.1 == (1 : Int)) = true then
        if ((decide (0 ≤ (0 : Int)) && decide ((0 : Int) ≤ r1.1) && decide (r1.1 ≤ (a1.size : Int)))) = true then
        if (decide ((subS a1 (0 : Int) r1.1).size + x3.size ≤ maxLen)) = true then
        let x7 : ByteArray := (subS a1 (0 : Int) r1.1) ++ x3
        let x8 : Int := IntKind.wrap .i64 (r1.1 + (1 : Int))
        if ((decide (0 ≤ x8) && decide (x8 ≤ (a1.size : Int)) && decide ((a1.size : Int) ≤ (a1.size : Int)))) = true then
        if (decide (x7.size + (subS a1 x8 (a1.size : Int)).size ≤ maxLen)) = true then
        let x9 : ByteArray := x7 ++ (subS a1 x8 (a1.size : Int))
        some ((x9, (r4.2.1, ())))
        else none
        else none
        else none
        else none
      else
        if ((decide (0 ≤ (0 : Int)) && decide ((0 : Int) ≤ r1.1) && decide (r1.1 ≤ (a1.size : Int)))) = true then
        let x10 : Int := IntKind.wrap .i64 (r1.1 + (1 : Int))
        if ((decide (0 ≤ x10) && decide (x10 ≤ (a1.size : Int)) && decide ((a1.size : Int) ≤ (a1.size : Int)))) = true then
        if (decide ((subS a1 (0 : Int) r1.1).size + (subS a1 x10 (a1.size : Int)).size ≤ maxLen)) = true then
        let x11 : ByteArray := (subS a1 (0 : Int) r1.1) ++ (subS a1 x10 (a1.size : Int))
        some ((x11, (r4.2.1, ())))
        else none
        else none
        else none
    else none
    else none
theorem F_spec_l1Cur_spoilt_ok (N : Nat) (d) : fnR Γ_spec_l1Cur_spoilt (assoc []) true [(K_BPSu8iu64q, true), (.str, false), (.str, false)] [.str] Tryd.f59.results.toList (bodyOf Tryd.f59) d = F_spec_l1Cur_spoilt N d := by kernel_rfl
noncomputable def S_spec_l1Cur_spoilt : FSig := ⟨[(K_BPSu8iu64q, true), (.str, false), (.str, false)], [.str], true, (F_spec_l1Cur_spoilt 0)⟩
noncomputable def Γ_spec_l1Cur_anyLog : Ctx := { tk := assoc tks, ar := assoc ars, fs := assoc [(56, S_spec_l1Cur_pick), (58, S_spec_l1Cur_log12), (59, S_spec_l1Cur_spoilt)], lent := fun t => Nat.beq t 0 }
noncomputable def F_spec_l1Cur_anyLog (N : Nat) (d : (List Int × Int × Int × Unit) × Unit) : Option ((ByteArray × ByteArray × Int × Unit) × (List Int × Int × Int × Unit) × Unit) :=
  let a0 : List Int × Int × Int × Unit := d.1
  ((pickF F_spec_l1Cur_log12 P_log12) (a0, ())).bind fun r1 =>
  ((F_spec_l1Cur_pick 0) ((r1.2.1, ((24 : Int), ())))).bind fun r2 =>
  if (r2.1 == (0 : Int)) = true then
    let x3 : Int := IntKind.wrap .i64 (r1.1.2.2.1 + (1 : Int))
    some (((r1.1.1, (r1.1.2.1, (x3, r1.1.2.2.2))), (r2.2.1, ())))
  else
    if (r2.1 == (1 : Int)) = true then
      ((F_spec_l1Cur_spoilt 0) ((r2.2.1, (r1.1.2.1, ((⟨#[35, 64, 10, 48, 49]⟩ : ByteArray), ()))))).bind fun r4 =>
      some (((r1.1.1, (r4.1, r1.1.2.2)), (r4.2.1, ())))
    else
      if (r2.1 == (2 : Int)) = true then
        if (decide (r1.1.1.size + r1.1.2.1.size ≤ maxLen)) = true then
        some (((r1.1.1 ++ r1.1.2.1, r1.1.2), (r2.2.1, ())))
        else none
      else
        some ((r1.1, (r2.2.1, ())))
theorem F_spec_l1Cur_anyLog_ok (N : Nat) (d) : fnR Γ_spec_l1Cur_anyLog (assoc []) true [(K_BPSu8iu64q, true)] [K_Pssiq] Tryd.f55.results.toList (bodyOf Tryd.f55) d = F_spec_l1Cur_anyLog N d := by kernel_rfl
noncomputable def S_spec_l1Cur_anyLog : FSig := ⟨[(K_BPSu8iu64q, true)], [K_Pssiq], true, (F_spec_l1Cur_anyLog 0)⟩
noncomputable def Γ_spec_DrawIsValidLog : Ctx := { tk := assoc tks, ar := assoc ars, fs := assoc [(55, S_spec_l1Cur_anyLog)] }
noncomputable def F_spec_DrawIsValidLog (N : Nat) (d : List Int × Unit) : Option ((ByteArray × ByteArray × Int × Unit) × Unit) :=
  let a0 : List Int := d.1
  ((F_spec_l1Cur_anyLog 0) (((a0, ((0 : Int), ((0 : Int), ()))), ()))).bind fun r1 =>
  some (r1.1, ())
theorem F_spec_DrawIsValidLog_ok (N : Nat) (d) : fnR Γ_spec_DrawIsValidLog (assoc []) true [(K_Su8, false)] [K_Pssiq] Tryd.f41.results.toList (bodyOf Tryd.f41) d = F_spec_DrawIsValidLog N d := by kernel_rfl
noncomputable def S_spec_DrawIsValidLog : FSig := ⟨[(K_Su8, false)], [K_Pssiq], true, (F_spec_DrawIsValidLog 0)⟩
noncomputable def Γ_spec_DrawAppendRecord : Ctx := { tk := assoc tks, ar := assoc ars, fs := assoc [(27, S_spec_AppendRecord), (55, S_spec_l1Cur_anyLog), (56, S_spec_l1Cur_pick), (57, S_spec_l1Cur_one), (60, S_spec_l1Cur_logRecord)] }
abbrev spec_DrawAppendRecord_l0_H := (ByteArray × ByteArray × Int × Unit) × (ByteArray × ByteArray × Unit) × (List Int × Int × Int × Unit) × (ByteArray × ByteArray × Int × Unit) × Int × Unit
abbrev spec_DrawAppendRecord_l0_O := ((ByteArray × ByteArray × Int × Unit) × (ByteArray × ByteArray × Unit) × (List Int × Int × Int × Unit) × (ByteArray × ByteArray × Int × Unit) × Unit) ⊕ Empty
def spec_DrawAppendRecord_l0_h : Form := [(2, .box K_Pssiq 99), (3, .box K_Pssq 99), (4, .box K_PSu8iu64q 0), (5, .box K_Pssiq 99), (6, .v I)]
def spec_DrawAppendRecord_l0_o : Outs := [(.normal, [(2, .box K_Pssiq 99), (3, .box K_Pssq 99), (4, .box K_PSu8iu64q 0), (5, .box K_Pssiq 99)])]
noncomputable def spec_DrawAppendRecord_l0_r (N : Nat) (back : spec_DrawAppendRecord_l0_H → Option spec_DrawAppendRecord_l0_O) (d : spec_DrawAppendRecord_l0_H) : Option spec_DrawAppendRecord_l0_O :=
  let s2 : ByteArray × ByteArray × Int × Unit := d.1
  let s3 : ByteArray × ByteArray × Unit := d.2.1
  let s4 : List Int × Int × Int × Unit := d.2.2.1
  let s5 : ByteArray × ByteArray × Int × Unit := d.2.2.2.1
  let s6 : Int := d.2.2.2.2.1
  if (decide (s6 > (0 : Int))) = true then
    ((F_spec_AppendRecord 0) ((s5, (((⟨#[120]⟩ : ByteArray), (ByteArray.empty, ())), ())))).bind fun r11 =>
    let x12 : Int := IntKind.wrap .i64 (s6 - (1 : Int))
    back ((s2, (s3, (s4, (r11.1, (x12, ()))))))
  else
    some (.inl ((s2, (s3, (s4, (s5, ()))))))
noncomputable def spec_DrawAppendRecord_l0 (N : Nat) : Nat → spec_DrawAppendRecord_l0_H → Option spec_DrawAppendRecord_l0_O
  | 0, _ => none
  | k + 1, d => spec_DrawAppendRecord_l0_r N (spec_DrawAppendRecord_l0 N k) d
theorem spec_DrawAppendRecord_l0_ok (N : Nat) (back) (d) : roundR Γ_spec_DrawAppendRecord (assoc []) 0 spec_DrawAppendRecord_l0_h spec_DrawAppendRecord_l0_o (loopOf Tryd.f42 0) back d = spec_DrawAppendRecord_l0_r N back d := by kernel_rfl
noncomputable def F_spec_DrawAppendRecord (N : Nat) (d : List Int × Unit) : Option ((ByteArray × ByteArray × Int × Unit) × (ByteArray × ByteArray × Unit) × Unit) :=
  let a0 : List Int := d.1
  ((F_spec_l1Cur_anyLog 0) (((a0, ((0 : Int), ((0 : Int), ()))), ()))).bind fun r1 =>
  ((F_spec_l1Cur_one 0) ((r1.2.1, ((40 : Int), ())))).bind fun r2 =>
  if (r2.1) = true then
    ((F_spec_l1Cur_pick 0) ((r2.2.1, ((2 : Int), ())))).bind fun r3 =>
    let x4 : Int := IntKind.wrap .i64 ((59 : Int) + r3.1)
    (spec_DrawAppendRecord_l0 N N (((ByteArray.empty, (ByteArray.empty, ((0 : Int), ()))), ((ByteArray.empty, (ByteArray.empty, ())), (r3.2.1, ((ByteArray.empty, (ByteArray.empty, ((0 : Int), ()))), (x4, ()))))))).bind fun o7 => match o7 with
    | .inl d8 =>
      ((F_spec_l1Cur_logRecord 0) (d8.2.2.1, ())).bind fun r9 =>
      some ((d8.2.2.2.1, (r9.1, ())))
  else
    ((F_spec_l1Cur_logRecord 0) (r2.2.1, ())).bind fun r10 =>
    some ((r1.1, (r10.1, ())))
theorem F_spec_DrawAppendRecord_ok (N : Nat) (d) : fnR Γ_spec_DrawAppendRecord (assoc [(0, ⟨spec_DrawAppendRecord_l0_h, spec_DrawAppendRecord_l0_o, spec_DrawAppendRecord_l0 N N⟩)]) true [(K_Su8, false)] [K_Pssiq, K_Pssq] Tryd.f42.results.toList (bodyOf Tryd.f42) d = F_spec_DrawAppendRecord N d := by kernel_rfl
noncomputable def S_spec_DrawAppendRecord : FSig := ⟨[(K_Su8, false)], [K_Pssiq, K_Pssq], true, (pickF F_spec_DrawAppendRecord P_drawAppend)⟩
def S_strings_Cut : FSig := ⟨[(.str, false), (.str, false)], [.str, .str, .bool], true, G_cut⟩
noncomputable def Γ_impl_VerifyChecksum : Ctx := { tk := assoc tks, ar := assoc ars, fs := assoc [(68, S_impl_AppendChecksum), (72, S_strings_Cut)] }
noncomputable def F_impl_VerifyChecksum (N : Nat) (d : ByteArray × Unit) : Option (ByteArray × Bool × Unit) :=
  let a0 : ByteArray := d.1
  (G_cut ((a0, ((⟨#[35]⟩ : ByteArray), ())))).bind fun r1 =>
  ((F_impl_AppendChecksum 0) (r1.1, ())).bind fun r2 =>
  if (!r1.2.2.1) = true then
    some (((⟨#[]⟩ : ByteArray), (false, ())))
  else
    if (!r2.2.1) = true then
      some (((⟨#[]⟩ : ByteArray), (false, ())))
    else
      if (!seq_ r2.1 a0) = true then
        some (((⟨#[]⟩ : ByteArray), (false, ())))
      else
        some ((r1.1, (true, ())))
theorem F_impl_VerifyChecksum_ok (N : Nat) (d) : fnR Γ_impl_VerifyChecksum (assoc []) true [(.str, false)] [.str, .bool] Tryd.f73.results.toList (bodyOf Tryd.f73) d = F_impl_VerifyChecksum N d := by kernel_rfl
noncomputable def S_impl_VerifyChecksum : FSig := ⟨[(.str, false)], [.str, .bool], true, (F_impl_VerifyChecksum 0)⟩
noncomputable def Γ_impl_readRecords : Ctx := { tk := assoc tks, ar := assoc ars, fs := assoc [(43, S_impl_IsValidRecord), (49, S_impl_encodeRecord), (72, S_strings_Cut), (73, S_impl_VerifyChecksum)] }
abbrev impl_readRecords_l0_H := ByteArray × (List (ByteArray × ByteArray × Unit)) × Int × Unit
abbrev impl_readRecords_l0_O := ((List (ByteArray × ByteArray × Unit)) × Int × Unit) ⊕ Empty
def impl_readRecords_l0_h : Form := [(0, .v .str), (4, .own K_SPssq 99), (5, .v I)]
def impl_readRecords_l0_o : Outs := [(.normal, [(4, .own K_SPssq 99), (5, .v I)])]
noncomputable def impl_readRecords_l0_r (N : Nat) (back : impl_readRecords_l0_H → Option impl_readRecords_l0_O) (d : impl_readRecords_l0_H) : Option impl_readRecords_l0_O :=
  let s0 : ByteArray := d.1
  let s4 : List (ByteArray × ByteArray × Unit) := d.2.1
  let s5 : Int := d.2.2.1
  if (decide ((List.length s4 : Int) < (60 : Int))) = true then
    if ((decide (0 ≤ s5) && decide (s5 ≤ (s0.size : Int)) && decide ((s0.size : Int) ≤ (s0.size : Int)))) = true then
    (G_cut ((subS s0 s5 (s0.size : Int), ((⟨#[10]⟩ : ByteArray), ())))).bind fun r12 =>
    ((F_impl_VerifyChecksum 0) (r12.1, ())).bind fun r13 =>
    if (!r12.2.2.1) = true then
      some (.inl ((s4, (s5, ()))))
    else
      if (!r13.2.1) = true then
        some (.inl ((s4, (s5, ()))))
      else
        (G_cut ((r13.1, ((⟨#[32]⟩ : ByteArray), ())))).bind fun r14 =>
        (G_cut ((r14.2.1, ((⟨#[64]⟩ : ByteArray), ())))).bind fun r15 =>
        ((F_impl_IsValidRecord 0) (((r15.1, (r15.2.1, ())), ()))).bind fun r16 =>
        if (!r16.1) = true then
          some (.inl ((s4, (s5, ()))))
        else
          ((F_impl_encodeRecord 0) (((List.length s4 : Int), ((r15.1, (r15.2.1, ())), ())))).bind fun r17 =>
          if (decide (r12.1.size + (⟨#[10]⟩ : ByteArray).size ≤ maxLen)) = true then
          let x18 : ByteArray := r12.1 ++ (⟨#[10]⟩ : ByteArray)
          if (!seq_ r17.1 x18) = true then
            some (.inl ((s4, (s5, ()))))
          else
            if (decide (List.length s4 + List.length ([(r15.1, (r15.2.1, ()))]) ≤ lim)) = true then
            let x19 : List (ByteArray × ByteArray × Unit) := s4 ++ ([(r15.1, (r15.2.1, ()))])
            let x20 : Int := IntKind.wrap .i64 ((r12.1.size : Int) + (1 : Int))
            back ((s0, (x19, (IntKind.wrap .i64 (s5 + x20), ()))))
            else none
          else none
    else none
  else
    some (.inl ((s4, (s5, ()))))
noncomputable def impl_readRecords_l0 (N : Nat) : Nat → impl_readRecords_l0_H → Option impl_readRecords_l0_O
  | 0, _ => none
  | k + 1, d => impl_readRecords_l0_r N (impl_readRecords_l0 N k) d
theorem impl_readRecords_l0_ok (N : Nat) (back) (d) : roundR Γ_impl_readRecords (assoc []) 0 impl_readRecords_l0_h impl_readRecords_l0_o (loopOf Tryd.f51 0) back d = impl_readRecords_l0_r N back d := by kernel_rfl
noncomputable def F_impl_readRecords (N : Nat) (d : ByteArray × Unit) : Option ((List (ByteArray × ByteArray × Unit)) × Int × Unit) :=
  let a0 : ByteArray := d.1
  (impl_readRecords_l0 N N ((a0, (([] : List (ByteArray × ByteArray × Unit)), ((0 : Int), ()))))).bind fun o10 => match o10 with
  | .inl d11 =>
    some ((d11.1, (d11.2.1, ())))
theorem F_impl_readRecords_ok (N : Nat) (d) : fnR Γ_impl_readRecords (assoc [(0, ⟨impl_readRecords_l0_h, impl_readRecords_l0_o, impl_readRecords_l0 N N⟩)]) true [(.str, false)] [K_SPssq, I] Tryd.f51.results.toList (bodyOf Tryd.f51) d = F_impl_readRecords N d := by kernel_rfl
noncomputable def S_impl_readRecords : FSig := ⟨[(.str, false)], [K_SPssq, I], true, (G_open)⟩
noncomputable def Γ_impl_IsValidLog : Ctx := { tk := assoc tks, ar := assoc ars, fs := assoc [(51, S_impl_readRecords)] }
noncomputable def F_impl_IsValidLog (N : Nat) (d : (ByteArray × ByteArray × Int × Unit) × Unit) : Option (Bool × Unit) :=
  let a0 : ByteArray × ByteArray × Int × Unit := d.1
  let x1 : Int := IntKind.wrap .i64 ((a0.1.size : Int) + (a0.2.1.size : Int))
  if (decide (a0.1.size + a0.2.1.size ≤ maxLen)) = true then
  (G_open (a0.1 ++ a0.2.1, ())).bind fun r2 =>
  if (decide (x1 > (30000 : Int))) = true then
    some (false, ())
  else
    if (r2.2.1 != x1) = true then
      some (false, ())
    else
      if (a0.2.2.1 != (List.length r2.1 : Int)) = true then
        some (false, ())
      else
        (G_open (a0.1, ())).bind fun r3 =>
        some (r3.2.1 == (a0.1.size : Int), ())
  else none
theorem F_impl_IsValidLog_ok (N : Nat) (d) : fnR Γ_impl_IsValidLog (assoc []) true [(K_Pssiq, false)] [.bool] Tryd.f22.results.toList (bodyOf Tryd.f22) d = F_impl_IsValidLog N d := by kernel_rfl
noncomputable def S_impl_IsValidLog : FSig := ⟨[(K_Pssiq, false)], [.bool], true, (F_impl_IsValidLog 0)⟩
noncomputable def Γ_impl_AppendRecord : Ctx := { tk := assoc tks, ar := assoc ars, fs := assoc [(22, S_impl_IsValidLog), (43, S_impl_IsValidRecord), (49, S_impl_encodeRecord)] }
noncomputable def F_impl_AppendRecord (N : Nat) (d : (ByteArray × ByteArray × Int × Unit) × (ByteArray × ByteArray × Unit) × Unit) : Option ((ByteArray × ByteArray × Int × Unit) × Int × Unit) :=
  let a0 : ByteArray × ByteArray × Int × Unit := d.1
  let a1 : ByteArray × ByteArray × Unit := d.2.1
  ((F_impl_IsValidLog 0) (a0, ())).bind fun r1 =>
  if (!r1.1) = true then
    some ((a0, ((1 : Int), ())))
  else
    ((F_impl_IsValidRecord 0) (a1, ())).bind fun r2 =>
    if (!r2.1) = true then
      some ((a0, ((1 : Int), ())))
    else
      if (a0.2.2.1 == (60 : Int)) = true then
        some ((a0, ((2 : Int), ())))
      else
        ((F_impl_encodeRecord 0) ((a0.2.2.1, (a1, ())))).bind fun r3 =>
        if (decide (a0.2.1.size + r3.1.size ≤ maxLen)) = true then
        let x4 : Int := IntKind.wrap .i64 (a0.2.2.1 + (1 : Int))
        some (((a0.1, (a0.2.1 ++ r3.1, (x4, ()))), ((0 : Int), ())))
        else none
theorem F_impl_AppendRecord_ok (N : Nat) (d) : fnR Γ_impl_AppendRecord (assoc []) true [(K_Pssiq, false), (K_Pssq, false)] [K_Pssiq, I] Tryd.f28.results.toList (bodyOf Tryd.f28) d = F_impl_AppendRecord N d := by kernel_rfl
noncomputable def S_impl_AppendRecord : FSig := ⟨[(K_Pssiq, false), (K_Pssq, false)], [K_Pssiq, I], true, (F_impl_AppendRecord 0)⟩
noncomputable def Γ_spec_IsValidRecord : Ctx := { tk := assoc tks, ar := assoc ars, fs := assoc [(46, S_spec_l12Record)] }
noncomputable def F_spec_IsValidRecord (N : Nat) (d : (ByteArray × ByteArray × Unit) × Unit) : Option (Bool × Unit) :=
  let a0 : ByteArray × ByteArray × Unit := d.1
  ((F_spec_l12Record 0) (a0, ())).bind fun r1 =>
  some (r1.1, ())
theorem F_spec_IsValidRecord_ok (N : Nat) (d) : fnR Γ_spec_IsValidRecord (assoc []) true [(K_Pssq, false)] [.bool] Tryd.f44.results.toList (bodyOf Tryd.f44) d = F_spec_IsValidRecord N d := by kernel_rfl
noncomputable def S_spec_IsValidRecord : FSig := ⟨[(K_Pssq, false)], [.bool], true, (F_spec_IsValidRecord 0)⟩
noncomputable def Γ_spec_IsValidLog : Ctx := { tk := assoc tks, ar := assoc ars, fs := assoc [(52, S_spec_l12Valid)] }
noncomputable def F_spec_IsValidLog (N : Nat) (d : (ByteArray × ByteArray × Int × Unit) × Unit) : Option (Bool × Unit) :=
  let a0 : ByteArray × ByteArray × Int × Unit := d.1
  ((F_spec_l12Valid 0) (a0, ())).bind fun r1 =>
  some (r1.1, ())
theorem F_spec_IsValidLog_ok (N : Nat) (d) : fnR Γ_spec_IsValidLog (assoc []) true [(K_Pssiq, false)] [.bool] Tryd.f20.results.toList (bodyOf Tryd.f20) d = F_spec_IsValidLog N d := by kernel_rfl
noncomputable def S_spec_IsValidLog : FSig := ⟨[(K_Pssiq, false)], [.bool], true, (F_spec_IsValidLog 0)⟩
noncomputable def Γ_impl_SyncLog : Ctx := { tk := assoc tks, ar := assoc ars, fs := assoc [(22, S_impl_IsValidLog)] }
noncomputable def F_impl_SyncLog (N : Nat) (d : (ByteArray × ByteArray × Int × Unit) × Unit) : Option ((ByteArray × ByteArray × Int × Unit) × Bool × Unit) :=
  let a0 : ByteArray × ByteArray × Int × Unit := d.1
  ((F_impl_IsValidLog 0) (a0, ())).bind fun r1 =>
  if (!r1.1) = true then
    some (((ByteArray.empty, (ByteArray.empty, ((0 : Int), ()))), (false, ())))
  else
    if (decide (a0.1.size + a0.2.1.size ≤ maxLen)) = true then
    some (((a0.1 ++ a0.2.1, (ByteArray.empty, (a0.2.2.1, ()))), (true, ())))
    else none
theorem F_impl_SyncLog_ok (N : Nat) (d) : fnR Γ_impl_SyncLog (assoc []) true [(K_Pssiq, false)] [K_Pssiq, .bool] Tryd.f26.results.toList (bodyOf Tryd.f26) d = F_impl_SyncLog N d := by kernel_rfl
noncomputable def S_impl_SyncLog : FSig := ⟨[(K_Pssiq, false)], [K_Pssiq, .bool], true, (F_impl_SyncLog 0)⟩
noncomputable def Γ_impl_LogRecords : Ctx := { tk := assoc tks, ar := assoc ars, fs := assoc [(22, S_impl_IsValidLog), (51, S_impl_readRecords)] }
noncomputable def F_impl_LogRecords (N : Nat) (d : (ByteArray × ByteArray × Int × Unit) × Unit) : Option ((List (ByteArray × ByteArray × Unit)) × Bool × Unit) :=
  let a0 : ByteArray × ByteArray × Int × Unit := d.1
  ((F_impl_IsValidLog 0) (a0, ())).bind fun r1 =>
  if (!r1.1) = true then
    some ((([] : List (ByteArray × ByteArray × Unit)), (false, ())))
  else
    if (decide (a0.1.size + a0.2.1.size ≤ maxLen)) = true then
    (G_open (a0.1 ++ a0.2.1, ())).bind fun r2 =>
    some ((r2.1, (true, ())))
    else none
theorem F_impl_LogRecords_ok (N : Nat) (d) : fnR Γ_impl_LogRecords (assoc []) true [(K_Pssiq, false)] [K_SPssq, .bool] Tryd.f30.results.toList (bodyOf Tryd.f30) d = F_impl_LogRecords N d := by kernel_rfl
noncomputable def S_impl_LogRecords : FSig := ⟨[(K_Pssiq, false)], [K_SPssq, .bool], true, (F_impl_LogRecords 0)⟩
noncomputable def Γ_spec_LogRecords : Ctx := { tk := assoc tks, ar := assoc ars, fs := assoc [(50, S_spec_l12Open), (52, S_spec_l12Valid)] }
noncomputable def F_spec_LogRecords (N : Nat) (d : (ByteArray × ByteArray × Int × Unit) × Unit) : Option ((List (ByteArray × ByteArray × Unit)) × Bool × Unit) :=
  let a0 : ByteArray × ByteArray × Int × Unit := d.1
  ((F_spec_l12Valid 0) (a0, ())).bind fun r1 =>
  if (!r1.1) = true then
    some ((([] : List (ByteArray × ByteArray × Unit)), (false, ())))
  else
    if (decide (a0.1.size + a0.2.1.size ≤ maxLen)) = true then
    (G_open (a0.1 ++ a0.2.1, ())).bind fun r2 =>
    some ((r2.1, (true, ())))
    else none
theorem F_spec_LogRecords_ok (N : Nat) (d) : fnR Γ_spec_LogRecords (assoc []) true [(K_Pssiq, false)] [K_SPssq, .bool] Tryd.f29.results.toList (bodyOf Tryd.f29) d = F_spec_LogRecords N d := by kernel_rfl
noncomputable def S_spec_LogRecords : FSig := ⟨[(K_Pssiq, false)], [K_SPssq, .bool], true, (F_spec_LogRecords 0)⟩
noncomputable def Γ_laws_vRecords : Ctx := { tk := assoc tks, ar := assoc ars, fs := assoc [], cs := assoc [], gs := assoc [], eqt := inL [27], md := md0 }
abbrev laws_vRecords_l0_H := (List (ByteArray × ByteArray × Unit)) × (List (ByteArray × ByteArray × Unit)) × Int × Unit
abbrev laws_vRecords_l0_O := (Bool × Unit) ⊕ Unit ⊕ Empty
def laws_vRecords_l0_h : Form := [(0, .v K_SPssq), (1, .v K_SPssq), (5, .v I)]
def laws_vRecords_l0_o : Outs := [(.ret, [(4, .v .bool)]), (.normal, [])]
noncomputable def laws_vRecords_l0_r (N : Nat) (back : laws_vRecords_l0_H → Option laws_vRecords_l0_O) (d : laws_vRecords_l0_H) : Option laws_vRecords_l0_O :=
  let s0 : List (ByteArray × ByteArray × Unit) := d.1
  let s1 : List (ByteArray × ByteArray × Unit) := d.2.1
  let s5 : Int := d.2.2.1
  if (decide (s5 < (List.length s0 : Int))) = true then
    if (idxIn s5 (List.length s0)) = true then
    if (idxIn s5 (List.length s1)) = true then
    if (!eqB K_Pssq (at_ K_Pssq s0 s5.toNat) (at_ K_Pssq s1 s5.toNat)) = true then
      some (.inl (false, ()))
    else
      let x5 : Int := IntKind.wrap .i64 (s5 + (1 : Int))
      back ((s0, (s1, (x5, ()))))
    else none
    else none
  else
    some (.inr (.inl ()))
noncomputable def laws_vRecords_l0 (N : Nat) : Nat → laws_vRecords_l0_H → Option laws_vRecords_l0_O
  | 0, _ => none
  | k + 1, d => laws_vRecords_l0_r N (laws_vRecords_l0 N k) d
theorem laws_vRecords_l0_ok (N : Nat) (back) (d) : roundR Γ_laws_vRecords (assoc []) 0 laws_vRecords_l0_h laws_vRecords_l0_o (loopOf Tryd.f38 0) back d = laws_vRecords_l0_r N back d := by kernel_rfl
noncomputable def F_laws_vRecords (N : Nat) (d : (List (ByteArray × ByteArray × Unit)) × (List (ByteArray × ByteArray × Unit)) × Unit) : Option (Bool × Unit) :=
  let a0 : List (ByteArray × ByteArray × Unit) := d.1
  let a1 : List (ByteArray × ByteArray × Unit) := d.2.1
  if ((List.length a0 : Int) != (List.length a1 : Int)) = true then
    some (false, ())
  else
    (laws_vRecords_l0 N N ((a0, (a1, ((0 : Int), ()))))).bind fun o2 => match o2 with
    | .inl d3 =>
      some (d3.1, ())
    | .inr (.inl d4) =>
      some (true, ())
theorem F_laws_vRecords_ok (N : Nat) (d) : fnR Γ_laws_vRecords (assoc [(0, ⟨laws_vRecords_l0_h, laws_vRecords_l0_o, laws_vRecords_l0 N N⟩)]) true [(K_SPssq, false), (K_SPssq, false)] [.bool] Tryd.f38.results.toList (bodyOf Tryd.f38) d = F_laws_vRecords N d := by kernel_rfl
noncomputable def S_laws_vRecords : FSig := ⟨[(K_SPssq, false), (K_SPssq, false)], [.bool], true, (G_vRecords)⟩
noncomputable def Γ_laws_FnLogs : Ctx := { tk := assoc tks, ar := assoc ars, fs := assoc [(13, S_spec_EncodeRecord), (15, S_impl_EncodeRecord), (20, S_spec_IsValidLog), (22, S_impl_IsValidLog), (25, S_spec_SyncLog), (26, S_impl_SyncLog), (27, S_spec_AppendRecord), (28, S_impl_AppendRecord), (29, S_spec_LogRecords), (30, S_impl_LogRecords), (34, S_laws_vBig), (37, S_laws_vCut), (38, S_laws_vRecords), (39, S_spec_DrawIsValidRecord), (40, S_spec_DrawEncodeRecord), (41, S_spec_DrawIsValidLog), (42, S_spec_DrawAppendRecord), (43, S_impl_IsValidRecord), (44, S_spec_IsValidRecord)], cs := assoc [], gs := assoc [], eqt := inL [27, 31], md := md0 }
noncomputable def F_laws_FnLogs (N : Nat) (d : List Int × Unit) : Option (Bool × Unit) :=
  let a0 : List Int := d.1
  let r1 : Bool × Unit := g_laws_vBig (a0, ())
  if (r1.1) = true then
    some (true, ())
  else
    ((F_spec_DrawIsValidRecord 0) (a0, ())).bind fun r2 =>
    ((F_laws_vCut 0) ((a0, ((1 : Int), ())))).bind fun r3 =>
    ((F_spec_DrawEncodeRecord 0) (r3.1, ())).bind fun r4 =>
    ((F_impl_EncodeRecord 0) ((r4.1, (r4.2.1, ())))).bind fun r5 =>
    ((F_spec_EncodeRecord 0) ((r4.1, (r4.2.1, ())))).bind fun r6 =>
    ((F_laws_vCut 0) ((a0, ((2 : Int), ())))).bind fun r7 =>
    ((F_spec_DrawIsValidLog 0) (r7.1, ())).bind fun r8 =>
    ((F_laws_vCut 0) ((a0, ((3 : Int), ())))).bind fun r9 =>
    ((pickF F_spec_DrawAppendRecord P_drawAppend) (r9.1, ())).bind fun r10 =>
    ((F_impl_AppendRecord 0) ((r10.1, (r10.2.1, ())))).bind fun r11 =>
    ((F_spec_AppendRecord 0) ((r10.1, (r10.2.1, ())))).bind fun r12 =>
    ((F_impl_IsValidRecord 0) (r2.1, ())).bind fun r13 =>
    ((F_spec_IsValidRecord 0) (r2.1, ())).bind fun r14 =>
    if (!(r13.1 == r14.1)) = true then
      some (false, ())
    else
      if (!seq_ r5.1 r6.1) = true then
        some (false, ())
      else
        if (!(r5.2.1 == r6.2.1)) = true then
          some (false, ())
        else
          ((F_impl_IsValidLog 0) (r8.1, ())).bind fun r15 =>
          ((F_spec_IsValidLog 0) (r8.1, ())).bind fun r16 =>
          if (!(r15.1 == r16.1)) = true then
            some (false, ())
          else
            if (!eqB K_Pssiq r11.1 r12.1) = true then
              some (false, ())
            else
              if (r11.2.1 != r12.2.1) = true then
                some (false, ())
              else
                ((F_impl_SyncLog 0) (r10.1, ())).bind fun r17 =>
                ((F_spec_SyncLog 0) (r10.1, ())).bind fun r18 =>
                ((F_impl_LogRecords 0) (r10.1, ())).bind fun r19 =>
                ((F_spec_LogRecords 0) (r10.1, ())).bind fun r20 =>
                if (!eqB K_Pssiq r17.1 r18.1) = true then
                  some (false, ())
                else
                  if (!(r17.2.1 == r18.2.1)) = true then
                    some (false, ())
                  else
                    if (!(r19.2.1 == r20.2.1)) = true then
                      some (false, ())
                    else
                      (G_vRecords ((r19.1, (r20.1, ())))).bind fun r21 =>
                      if (!r21.1) = true then
                        some (false, ())
                      else
                        ((F_impl_LogRecords 0) (r17.1, ())).bind fun r22 =>
                        if (r17.2.1) = true then
                          (G_vRecords ((r22.1, (r19.1, ())))).bind fun r23 =>
                          if (!r23.1) = true then
                            some (false, ())
                          else
                            if (r11.2.1 != (0 : Int)) = true then
                              some (eqB K_Pssiq r11.1 r10.1, ())
                            else
                              ((F_impl_LogRecords 0) (r11.1, ())).bind fun r24 =>
                              ((F_impl_IsValidLog 0) (r11.1, ())).bind fun r25 =>
                              if (r25.1) = true then
                                let x26 : Int := IntKind.wrap .i64 ((List.length r19.1 : Int) + (1 : Int))
                                if ((List.length r24.1 : Int) == x26) = true then
                                  if ((decide (0 ≤ (0 : Int)) && decide ((0 : Int) ≤ (List.length r19.1 : Int)) && decide ((List.length r19.1 : Int) ≤ (List.length r24.1 : Int)))) = true then
                                  let x27 : List (ByteArray × ByteArray × Unit) := sub_ r24.1 (0 : Int) (List.length r19.1 : Int)
                                  (G_vRecords ((x27, (r19.1, ())))).bind fun r28 =>
                                  if (r28.1) = true then
                                    if (idxIn (List.length r19.1 : Int) (List.length r24.1)) = true then
                                    some ((eqB K_Pssq (at_ K_Pssq r24.1 (List.length r19.1 : Int).toNat) r10.2.1, ()))
                                    else none
                                  else
                                    some (false, ())
                                  else none
                                else
                                  some (false, ())
                              else
                                some (false, ())
                        else
                          if (r11.2.1 != (0 : Int)) = true then
                            some (eqB K_Pssiq r11.1 r10.1, ())
                          else
                            ((F_impl_LogRecords 0) (r11.1, ())).bind fun r29 =>
                            ((F_impl_IsValidLog 0) (r11.1, ())).bind fun r30 =>
                            if (r30.1) = true then
                              let x31 : Int := IntKind.wrap .i64 ((List.length r19.1 : Int) + (1 : Int))
                              if ((List.length r29.1 : Int) == x31) = true then
                                if ((decide (0 ≤ (0 : Int)) && decide ((0 : Int) ≤ (List.length r19.1 : Int)) && decide ((List.length r19.1 : Int) ≤ (List.length r29.1 : Int)))) = true then
                                let x32 : List (ByteArray × ByteArray × Unit) := sub_ r29.1 (0 : Int) (List.length r19.1 : Int)
                                (G_vRecords ((x32, (r19.1, ())))).bind fun r33 =>
                                if (r33.1) = true then
                                  if (idxIn (List.length r19.1 : Int) (List.length r29.1)) = true then
                                  some ((eqB K_Pssq (at_ K_Pssq r29.1 (List.length r19.1 : Int).toNat) r10.2.1, ()))
                                  else none
                                else
                                  some (false, ())
                                else none
                              else
                                some (false, ())
                            else
                              some (false, ())
theorem F_laws_FnLogs_ok (N : Nat) (d) : fnR Γ_laws_FnLogs (assoc []) true [(K_Su8, false)] [.bool] Tryd.f11.results.toList (bodyOf Tryd.f11) d = F_laws_FnLogs N d := by kernel_rfl
noncomputable def S_laws_FnLogs : FSig := ⟨[(K_Su8, false)], [.bool], true, (F_laws_FnLogs 0)⟩
end Go.V.W
set_option linter.unusedVariables false
set_option linter.unusedSimpArgs false
namespace Go.V.W
theorem getD_set (ms : List Nat) (a x v : Nat) (h : a < ms.length) : (ms.set a v).getD x 0 = if x = a then v else ms.getD x 0 := by
  simp only [List.getD_eq_getElem?_getD, List.getElem?_set]
  by_cases e : x = a
  · subst e; simp [h]
  · simp [e, Ne.symm e]
end Go.V.W
set_option linter.unusedVariables false
set_option linter.unusedSimpArgs false
namespace Go.V.W
open Go.Proofs
theorem bytes_drop (s : ByteArray) (i : Nat) (h : i < s.size) : ∃ b : UInt8, byteAt s i = b.toNat ∧ s.data.toList.drop i = b :: s.data.toList.drop (i + 1) := by
  have h' : i < s.data.toList.length := by simpa using h
  have h2 : i < s.data.size := h
  refine ⟨s.data[i], ?_, ?_⟩
  · unfold byteAt Array.getD
    rw [dif_pos h2]
    rfl
  · rw [List.drop_eq_getElem_cons h']
    rfl
theorem drop_size (s : ByteArray) : s.data.toList.drop s.size = [] := List.drop_of_length_le (by simp)
theorem wrap_small (n : Int) (h0 : 0 ≤ n) (h1 : n ≤ 9223372036854775807) : IntKind.wrap .i64 n = n := Go.IntWalk.i64_in n (by omega)
theorem isPrinted_l0 (N : Nat) (s w : ByteArray) (hs : s.size ≤ maxLen) : ∀ (n i : Nat), s.size ≤ i + n → i ≤ s.size → impl_isPrinted_l0 N (n + 1) (s, w, (i : Int), ()) =
    if (s.data.toList.drop i).all printed1 = true then some (.inr (.inl (s, w, ()))) else some (.inl (false, ())) := by
  intro n
  induction n with
  | zero =>
    intro i h1 h2
    have : i = s.size := by omega
    subst this
    rw [drop_size]
    simp [impl_isPrinted_l0, impl_isPrinted_l0_r]
  | succ n ih =>
    intro i h1 h2
    by_cases hi : i < s.size
    · have hix : idxIn (i : Int) s.size = true := by simp [idxIn]; omega
      have hw : IntKind.wrap .i64 ((i : Int) + 1) = ((i + 1 : Nat) : Int) := by rw [wrap_small _ (by omega) (by unfold maxLen at hs; omega)]; rfl
      have ih' := ih (i + 1) (by omega) (by omega)
      obtain ⟨b, hb, hd⟩ := bytes_drop s i hi
      rw [hd]
      show impl_isPrinted_l0_r N (impl_isPrinted_l0 N (n + 1)) (s, w, (i : Int), ()) = _
      unfold impl_isPrinted_l0_r
      have hlt : decide ((i : Int) < (s.size : Int)) = true := by simp; omega
      simp only [Int.toNat_natCast, hix, if_true, hw, ih', List.all_cons, printed1, hlt, hb]
      by_cases c1 : (b.toNat : Int) < 32
      · have : ¬ 32 ≤ b.toNat := by omega
        simp [c1, this]
      · by_cases c2 : (b.toNat : Int) > 126
        · have : ¬ b.toNat ≤ 126 := by omega
          simp [c1, c2, this]
        · have e1 : 32 ≤ b.toNat := by omega
          have e2 : b.toNat ≤ 126 := by omega
          simp [c1, c2, e1, e2]
    · have : i = s.size := by omega
      subst this
      rw [drop_size]
      simp [impl_isPrinted_l0, impl_isPrinted_l0_r]
theorem l12Bytes_l0 (N : Nat) (s : ByteArray) (m : Int) (hs : s.size ≤ maxLen) : ∀ (n i : Nat), s.size ≤ i + n → i ≤ s.size → spec_l12Bytes_l0 N (n + 1) (s, m, (i : Int), ()) =
    if (s.data.toList.drop i).all (fun b => printed1 b && !(b.toNat == 35)) = true then some (.inr (.inl (s, m, ()))) else some (.inl (false, ())) := by
  intro n
  induction n with
  | zero =>
    intro i h1 h2
    have : i = s.size := by omega
    subst this
    rw [drop_size]
    simp [spec_l12Bytes_l0, spec_l12Bytes_l0_r]
  | succ n ih =>
    intro i h1 h2
    by_cases hi : i < s.size
    · have hix : idxIn (i : Int) s.size = true := by simp [idxIn]; omega
      have hw : IntKind.wrap .i64 ((i : Int) + 1) = ((i + 1 : Nat) : Int) := by rw [wrap_small _ (by omega) (by unfold maxLen at hs; omega)]; rfl
      have ih' := ih (i + 1) (by omega) (by omega)
      obtain ⟨b, hb, hd⟩ := bytes_drop s i hi
      have hwb : IntKind.wrap .i64 (b.toNat : Int) = (b.toNat : Int) := wrap_small _ (by omega) (by have := b.toNat_lt; omega)
      rw [hd]
      show spec_l12Bytes_l0_r N (spec_l12Bytes_l0 N (n + 1)) (s, m, (i : Int), ()) = _
      unfold spec_l12Bytes_l0_r g_spec_l1In
      have hlt : decide ((i : Int) < (s.size : Int)) = true := by simp; omega
      simp only [Int.toNat_natCast, hix, if_true, hw, ih', List.all_cons, printed1, hlt, hb, hwb]
      by_cases c1 : 32 ≤ b.toNat
      · by_cases c2 : b.toNat ≤ 126
        · have e1 : (32 : Int) ≤ (b.toNat : Int) := by omega
          have e2 : (b.toNat : Int) ≤ 126 := by omega
          by_cases c3 : b.toNat = 35
          · simp [c3]
          · have c3' : ¬ (b.toNat : Int) = 35 := by omega
            simp [c1, c2, c3, e1, e2, c3']
        · have e1 : (32 : Int) ≤ (b.toNat : Int) := by omega
          have e2 : ¬ (b.toNat : Int) ≤ 126 := by omega
          simp [c2, e1, e2]
      · have e1 : ¬ (32 : Int) ≤ (b.toNat : Int) := by omega
        simp [c1, e1]
    · have : i = s.size := by omega
      subst this
      rw [drop_size]
      simp [spec_l12Bytes_l0, spec_l12Bytes_l0_r]
theorem l1Stands_l0 (N : Nat) (s : ByteArray) (m : Int) (hs : s.size ≤ maxLen) : ∀ (n i : Nat), s.size ≤ i + n → i ≤ s.size → spec_l1Stands_l0 N (n + 1) (s, m, (i : Int), ()) =
    if (s.data.toList.drop i).any (fun b => ((b.toNat : Int) == m)) = true then some (.inl (true, ())) else some (.inr (.inl ())) := by
  intro n
  induction n with
  | zero =>
    intro i h1 h2
    have : i = s.size := by omega
    subst this
    rw [drop_size]
    simp [spec_l1Stands_l0, spec_l1Stands_l0_r]
  | succ n ih =>
    intro i h1 h2
    by_cases hi : i < s.size
    · have hix : idxIn (i : Int) s.size = true := by simp [idxIn]; omega
      have hw : IntKind.wrap .i64 ((i : Int) + 1) = ((i + 1 : Nat) : Int) := by rw [wrap_small _ (by omega) (by unfold maxLen at hs; omega)]; rfl
      have ih' := ih (i + 1) (by omega) (by omega)
      obtain ⟨b, hb, hd⟩ := bytes_drop s i hi
      rw [hd]
      show spec_l1Stands_l0_r N (spec_l1Stands_l0 N (n + 1)) (s, m, (i : Int), ()) = _
      unfold spec_l1Stands_l0_r
      have hlt : decide ((i : Int) < (s.size : Int)) = true := by simp; omega
      simp only [Int.toNat_natCast, hix, if_true, hw, ih', List.any_cons, hlt, hb]
      by_cases c1 : (b.toNat : Int) = m
      · simp [c1]
      · have c1' : ((b.toNat : Int) == m) = false := by simpa using c1
        simp [c1']
    · have : i = s.size := by omega
      subst this
      rw [drop_size]
      simp [spec_l1Stands_l0, spec_l1Stands_l0_r]
theorem l12Bytes_lim (d) (r) (h : G_l12Bytes d = some r) : ∃ N, F_spec_l12Bytes N d = some r := by
  obtain ⟨s, m, u⟩ := d
  unfold G_l12Bytes at h
  split at h
  · rename_i hs
    have hs : s.size ≤ maxLen := of_decide_eq_true hs
    have h := Option.some.inj h
    refine ⟨s.size + 1, ?_⟩
    have := l12Bytes_l0 (s.size + 1) s m hs s.size 0 (by omega) (by omega)
    unfold F_spec_l12Bytes
    simp only [Int.natCast_zero, List.drop_zero] at this
    simp only
    rw [this, ← h]
    by_cases hc : s.data.toList.all (fun b => printed1 b && !(b.toNat == 35)) = true
    · simp [hc]
    · simp only [Bool.not_eq_true] at hc
      simp [hc]
  · cases h
theorem l1Stands_lim (d) (r) (h : G_l1Stands d = some r) : ∃ N, F_spec_l1Stands N d = some r := by
  obtain ⟨s, m, u⟩ := d
  unfold G_l1Stands at h
  split at h
  · rename_i hs
    have hs : s.size ≤ maxLen := of_decide_eq_true hs
    have h := Option.some.inj h
    refine ⟨s.size + 1, ?_⟩
    have := l1Stands_l0 (s.size + 1) s m hs s.size 0 (by omega) (by omega)
    unfold F_spec_l1Stands
    simp only [Int.natCast_zero, List.drop_zero] at this
    simp only
    rw [this, ← h]
    by_cases hc : s.data.toList.any (fun b => ((b.toNat : Int) == m)) = true
    · simp [hc]
    · simp only [Bool.not_eq_true] at hc
      simp [hc]
  · cases h
theorem ascii_of_printed {s : ByteArray} (h : printedB s = true) : asciiB s = true := by
  unfold printedB at h
  unfold asciiB
  rw [List.all_eq_true] at h ⊢
  intro b hb
  have := h b hb
  simp only [printed1, Bool.and_eq_true, decide_eq_true_eq] at this ⊢
  omega
theorem isPrinted_lim (d) (r) (h : G_isPrinted d = some r) : ∃ N, F_impl_isPrinted N d = some r := by
  obtain ⟨s, w, u⟩ := d
  unfold G_isPrinted at h
  split at h
  · rename_i hc
    simp only [Bool.and_eq_true] at hc
    obtain ⟨⟨h1, h2⟩, h3⟩ := hc
    have hs : s.size ≤ maxLen := by have := of_decide_eq_true h2; unfold maxLen; omega
    have h := Option.some.inj h
    refine ⟨s.size + 1, ?_⟩
    have := isPrinted_l0 (s.size + 1) s w hs s.size 0 (by omega) (by omega)
    unfold F_impl_isPrinted
    simp only [Int.natCast_zero, List.drop_zero] at this
    simp only
    rw [this, ← h]
    by_cases hp : s.data.toList.all printed1 = true
    · have ha := ascii_of_printed (s := s) hp
      have hp' : printedB s = true := hp
      simp [hp, hp', G_containsAny, ha, h1, h2, h3]
    · have hp' : printedB s = false := by simpa [printedB] using hp
      simp only [Bool.not_eq_true] at hp
      simp [hp, hp']
  · cases h
theorem containsAny_any (c : List UInt8) : ∀ l : List UInt8, Lib.containsAny l c = l.any fun b => c.contains b := by
  intro l
  induction l with
  | nil => simp [Lib.containsAny, Lib.indexAny]
  | cons b l ih =>
    unfold Lib.containsAny at ih ⊢
    unfold Lib.indexAny
    rw [List.any_cons, ← ih]
    by_cases hb : c.contains b = true
    · have hb' : b ∈ c := by simpa using hb
      simp [hb']
    · simp only [Bool.not_eq_true] at hb
      rw [hb]
      simp only [Bool.false_eq_true, if_false, Bool.false_or]
      have := Lib.indexAny_ge c l
      by_cases he : Lib.indexAny l c = -1
      · simp [he]
      · have e1 : (Lib.indexAny l c == -1) = false := by simpa using he
        rw [e1]
        simp only [Bool.false_eq_true, if_false]
        have e2 : (0 ≤ Lib.indexAny l c) := by omega
        have e3 : (0 ≤ Lib.indexAny l c + 1) := by omega
        simp [e2, e3]
end Go.V.W
set_option linter.unusedVariables false
set_option linter.unusedSimpArgs false
namespace Go.V.W
open Go.Proofs
def specB (a b : ByteArray) : Bool := !seq_ a (⟨#[]⟩ : ByteArray) && ((a.data.toList.all (fun b => printed1 b && !(b.toNat == 35)) && decide ((a.size : Int) ≤ 160)) && (!(a.data.toList.any (fun b => ((b.toNat : Int) == 64))) && (b.data.toList.all (fun b => printed1 b && !(b.toNat == 35)) && decide ((b.size : Int) ≤ 200))))
def implB (a b : ByteArray) : Bool := ((decide ((a.size : Int) ≥ 1) && decide ((a.size : Int) ≤ 160)) && (printedB a && !Lib.containsAny a.data.toList [35, 64])) && (decide ((b.size : Int) ≤ 200) && (printedB b && !Lib.containsAny b.data.toList [35]))
theorem impl_eq (a b : ByteArray) (ha : a.size ≤ 1048576) (hb : b.size ≤ 1048576) : F_impl_IsValidRecord 0 ((a, b, ()), ()) = some (implB a b, ()) := by
  have oa : smallB a = true := by unfold smallB; simp; omega
  have ob : smallB b = true := by unfold smallB; simp; omega
  have k1 : asciiB (⟨#[35, 64]⟩ : ByteArray) = true := by decide
  have k2 : smallB (⟨#[35, 64]⟩ : ByteArray) = true := by decide
  have k3 : asciiB (⟨#[35]⟩ : ByteArray) = true := by decide
  have k4 : smallB (⟨#[35]⟩ : ByteArray) = true := by decide
  unfold F_impl_IsValidRecord F_impl_isCommand g_impl_within implB
  simp only [G_isPrinted, oa, ob, k1, k2, k3, k4, Bool.and_self, if_true, Option.bind_some]
  cases decide ((a.size : Int) ≥ 1) <;> simp only [Bool.false_eq_true, if_false, if_true, Option.bind_some, Bool.false_and, Bool.true_and]
  cases decide ((a.size : Int) ≤ 160) <;> simp only [Bool.false_eq_true, if_false, if_true, Option.bind_some, Bool.false_and, Bool.true_and]
  cases (printedB a && !Lib.containsAny a.data.toList [35, 64]) <;> simp only [Bool.false_eq_true, if_false, if_true, Option.bind_some, Bool.false_and, Bool.true_and]
  cases decide ((b.size : Int) ≤ 200) <;> simp only [Bool.false_eq_true, if_false, if_true, Option.bind_some, Bool.false_and, Bool.true_and]
theorem all_not (l : List UInt8) (p q : UInt8 → Bool) : l.all (fun b => p b && !q b) = (l.all p && !l.any q) := by
  induction l with
  | nil => rfl
  | cons b l ih =>
    simp only [List.all_cons, List.any_cons, ih]
    cases p b <;> cases q b <;> cases l.all p <;> cases l.any q <;> rfl
theorem any_or (l : List UInt8) (p q : UInt8 → Bool) : l.any (fun b => p b || q b) = (l.any p || l.any q) := by
  induction l with
  | nil => rfl
  | cons b l ih =>
    simp only [List.any_cons, ih]
    cases p b <;> cases q b <;> cases l.any p <;> cases l.any q <;> rfl
theorem has35 (l : List UInt8) : Lib.containsAny l [35] = l.any (fun b => b.toNat == 35) := by
  rw [containsAny_any]
  congr 1
  funext b
  simp only [List.contains_cons, List.contains_nil, Bool.or_false]
  rw [Bool.eq_iff_iff]
  simp only [beq_iff_eq]
  exact ⟨fun h => by rw [h]; rfl, fun h => UInt8.toNat_inj.1 h⟩
theorem has3564 (l : List UInt8) : Lib.containsAny l [35, 64] = (l.any (fun b => b.toNat == 35) || l.any (fun b => ((b.toNat : Int) == 64))) := by
  rw [containsAny_any, ← any_or]
  congr 1
  funext b
  simp only [List.contains_cons, List.contains_nil, Bool.or_false]
  rw [Bool.eq_iff_iff]
  simp only [Bool.or_eq_true, beq_iff_eq]
  constructor
  · rintro (h | h)
    · left; rw [h]; rfl
    · right; rw [h]; rfl
  · rintro (h | h)
    · left; exact UInt8.toNat_inj.1 h
    · right; exact UInt8.toNat_inj.1 (by have : b.toNat = 64 := by omega
                                         rw [this]; rfl)
theorem empty_size (a : ByteArray) : seq_ a (⟨#[]⟩ : ByteArray) = !decide ((a.size : Int) ≥ 1) := by
  unfold seq_
  have h1 : a.toList = a.data.toList := Lib.toList_data a
  have h2 : (⟨#[]⟩ : ByteArray).toList = [] := Lib.toList_data _
  have h3 : a.data.toList.length = a.size := by simp
  rw [h1, h2]
  cases hl : a.data.toList with
  | nil =>
    rw [hl] at h3
    simp only [List.length_nil] at h3
    simp [← h3]
  | cons x l =>
    rw [hl] at h3
    simp only [List.length_cons] at h3
    have : decide ((a.size : Int) ≥ 1) = true := by simp; omega
    rw [this]
    rfl
theorem same (a b : ByteArray) : specB a b = implB a b := by
  unfold specB implB
  rw [empty_size, all_not, all_not, has35, has3564]
  unfold printedB
  cases decide ((a.size : Int) ≥ 1) <;> cases a.data.toList.all printed1 <;> cases a.data.toList.any (fun b => b.toNat == 35) <;> cases a.data.toList.any (fun b => ((b.toNat : Int) == 64)) <;> cases decide ((a.size : Int) ≤ 160) <;> cases decide ((b.size : Int) ≤ 200) <;> cases b.data.toList.all printed1 <;> cases b.data.toList.any (fun b => b.toNat == 35) <;> rfl
end Go.V.W
set_option linter.unusedVariables false
set_option linter.unusedSimpArgs false
namespace Go.V.W
open Go.Proofs
theorem lim_max {n : Nat} (h : n ≤ lim) : n ≤ maxLen := by unfold lim at h; unfold maxLen; omega
end Go.V.W
set_option linter.unusedVariables false
set_option linter.unusedSimpArgs false
namespace Go.V.W
open Go.Proofs
theorem lt_dec {i n : Nat} (h : i < n) : decide ((i : Int) < (n : Int)) = true := by simp; omega
theorem lt_not (n : Nat) : decide ((n : Int) < (n : Int)) = false := by simp
end Go.V.W
set_option linter.unusedVariables false
set_option linter.unusedSimpArgs false
namespace Go.V.W
theorem tabL_row {n c : Nat} (f : Nat → Nat → Int) (h : c < n) : (tabL n f)[c]? = some ((List.range n).map fun r => f c r) := by
  unfold tabL
  rw [List.getElem?_map, List.getElem?_range h]
  rfl
theorem rowR_get {n r : Nat} (g : Nat → Int) (h : r < n) : ((List.range n).map g)[r]? = some (g r) := by
  rw [List.getElem?_map, List.getElem?_range h]
  rfl
theorem tab2_tabL {n c r : Nat} (f : Nat → Nat → Int) (hc : c < n) (hr : r < n) : tab2 (tabL n f) (c : Int) (r : Int) = f c r := by
  unfold tab2
  simp only [Int.toNat_natCast, List.getD_eq_getElem?_getD, tabL_row f hc, Option.getD_some, rowR_get _ hr]
theorem worst_congr {f g : Int → Int} : ∀ {l : List Int} {m : Int}, (∀ x ∈ l, f x = g x) → worstL f l m = worstL g l m := by
  intro l
  induction l with
  | nil => intro m _; rfl
  | cons b bs ih =>
    intro m h
    simp only [worstL, h b (by simp)]
    rw [ih fun x hx => h x (by simp [hx])]
/-- The greatest of all, or -1. -/
theorem worst_spec (f : Int → Int) : ∀ (l : List Int) (m : Int), (∃ x ∈ l, f x < 0) ∧ worstL f l m = -1 ∨ (∀ x ∈ l, 0 ≤ f x ∧ f x ≤ worstL f l m) ∧ m ≤ worstL f l m ∧ (worstL f l m = m ∨ ∃ x ∈ l, worstL f l m = f x) := by
  intro l
  induction l with
  | nil => intro m; exact .inr ⟨fun x hx => by simp at hx, Int.le_refl _, .inl rfl⟩
  | cons b bs ih =>
    intro m
    simp only [worstL]
    by_cases hb : f b < 0
    · rw [if_pos hb]
      exact .inl ⟨⟨b, by simp, hb⟩, rfl⟩
    · rw [if_neg hb]
      rcases ih (if m < f b then f b else m) with ⟨⟨x, hx, h1⟩, h2⟩ | ⟨h1, h2, h3⟩
      · exact .inl ⟨⟨x, by simp [hx], h1⟩, h2⟩
      · have hge : m ≤ (if m < f b then f b else m) ∧ f b ≤ (if m < f b then f b else m) := by split <;> omega
        refine .inr ⟨fun x hx => ?_, by omega, ?_⟩
        · rcases List.mem_cons.1 hx with rfl | hx
          · omega
          · exact h1 x hx
        · rcases h3 with h3 | ⟨x, hx, h3⟩
          · by_cases hm : m < f b
            · rw [if_pos hm] at h3 ⊢
              exact .inr ⟨b, by simp, h3⟩
            · rw [if_neg hm] at h3 ⊢
              exact .inl h3
          · exact .inr ⟨x, by simp [hx], h3⟩
/-- The balls hold nodes alone. -/
def okBall (n : Nat) (ball : Int → List Int) : Prop := ∀ x : Nat, x < n → ∀ z ∈ ball (x : Int), ∃ y : Nat, y < n ∧ z = (y : Int)
/-- What holds before the round t. -/
structure InvT (n : Nat) (ball : Int → List Int) (t : Nat) (f : Nat → Nat → Int) : Prop where
  pos : 1 ≤ t
  low : ∀ c r, c < n → r < n → -1 ≤ f c r
  high : ∀ c r, c < n → r < n → f c r < (t : Int)
  none : ∀ c r, c < n → r < n → f c r < 0 → ∀ b ∈ ball (c : Int), ¬ (0 ≤ afterT ball (tabL n f) b (r : Int) ∧ afterT ball (tabL n f) b (r : Int) < (t : Int) - 1)
theorem InvT.next {n : Nat} {ball : Int → List Int} (hb : okBall n ball) {t : Nat} {f : Nat → Nat → Int} (hI : InvT n ball t f) : InvT n ball (t + 1) (stepF n ball (t : Int) f) := by
  have hp := hI.pos
  refine ⟨by omega, fun c r hc hr => ?_, fun c r hc hr => ?_, fun c r hc hr hf b hbm => ?_⟩
  · unfold stepF
    split
    · omega
    · exact hI.low c r hc hr
  · unfold stepF
    split
    · omega
    · have := hI.high c r hc hr; omega
  · rintro ⟨h1, h2⟩
    have hst : stepF n ball (t : Int) f c r = f c r ∧ canF n ball f c r = false := by
      unfold stepF at hf ⊢
      by_cases hcan : canF n ball f c r = true
      · rw [if_pos hcan] at hf; omega
      · rw [if_neg hcan]
        exact ⟨rfl, by simpa using hcan⟩
    rw [hst.1] at hf
    have hno : ∀ b ∈ ball (c : Int), ¬ 0 ≤ afterT ball (tabL n f) b (r : Int) := by
      intro b hbm h
      have := hst.2
      unfold canF at this
      simp only [hf, decide_true, Bool.true_and] at this
      have ht : ((ball (c : Int)).any fun b => decide (0 ≤ afterT ball (tabL n f) b (r : Int))) = true := List.any_eq_true.2 ⟨b, hbm, decide_eq_true h⟩
      rw [ht] at this
      cases this
    refine hno b hbm ?_
    unfold afterT at h1 h2 ⊢
    by_cases hbr : b = (r : Int)
    · rw [if_pos hbr]
      exact Int.le_refl _
    · rw [if_neg hbr] at h1 h2 ⊢
      obtain ⟨b', hb1, rfl⟩ := hb c hc b hbm
      rcases worst_spec (tab2 (tabL n (stepF n ball (t : Int) f)) (b' : Int)) (ball (r : Int)) 0 with ⟨_, h⟩ | ⟨hall, _, _⟩
      · omega
      · have e : worstL (tab2 (tabL n f) (b' : Int)) (ball (r : Int)) 0 = worstL (tab2 (tabL n (stepF n ball (t : Int) f)) (b' : Int)) (ball (r : Int)) 0 := by
          refine worst_congr fun x hx => ?_
          obtain ⟨y, hy, rfl⟩ := hb r hr x hx
          have := hall (y : Int) hx
          rw [tab2_tabL _ hb1 hy] at this
          rw [tab2_tabL _ hb1 hy, tab2_tabL _ hb1 hy]
          by_cases hcan : canF n ball f b' y = true
          · have e : stepF n ball (t : Int) f b' y = (t : Int) := if_pos hcan
            rw [e] at this
            omega
          · exact (if_neg hcan).symm
        rw [e]
        exact h1
theorem InvT.start (n : Nat) (ball : Int → List Int) : InvT n ball 1 startF := by
  refine ⟨Nat.le_refl _, fun c r _ _ => ?_, fun c r _ _ => ?_, fun c r _ _ _ b _ h => ?_⟩
  · unfold startF; split <;> omega
  · unfold startF; split <;> omega
  · omega
end Go.V.W
set_option linter.unusedVariables false
set_option linter.unusedSimpArgs false
namespace Go.V.W
/-- What holds of the numbers before each round. -/
structure Inv3 (p n : Nat) (ball : Nat → Int → List Int) (f : Nat → Nat → Nat → Int) : Prop where
  low : ∀ r c q, -1 ≤ f r c q
  home : ∀ r c, f r c c = 0
  away : ∀ r c q, c ≠ q → f r c q ≠ 0
  why : ∀ r c q, r < p → c < n → q < n → 0 ≤ f r c q → c = q ∨ ∃ b ∈ ball r (c : Int), 0 ≤ afterT (ball r) (tabL n (f ((r + 1) % p))) b (q : Int)
theorem Inv3.start (p n : Nat) (ball : Nat → Int → List Int) : Inv3 p n ball start3 := by
  refine ⟨fun r c q => ?_, fun r c => ?_, fun r c q h => ?_, fun r c q _ _ _ h => ?_⟩
  · unfold start3 startF; split <;> omega
  · unfold start3 startF; simp
  · unfold start3 startF; rw [if_neg h]; omega
  · unfold start3 startF at h
    by_cases e : c = q
    · exact .inl e
    · rw [if_neg e] at h; omega
def okBalls (p n : Nat) (ball : Nat → Int → List Int) : Prop := ∀ r, r < p → okBall n (ball r)
/-- Numbers that are there stay. -/
theorem after_mono {n : Nat} {ball : Int → List Int} (hb : okBall n ball) {f g : Nat → Nat → Int} (h : ∀ c q, 0 ≤ f c q → 0 ≤ g c q) {b q : Nat} (hbn : b < n) (hq : q < n) (h0 : 0 ≤ afterT ball (tabL n f) (b : Int) (q : Int)) : 0 ≤ afterT ball (tabL n g) (b : Int) (q : Int) := by
  unfold afterT at h0 ⊢
  by_cases e : (b : Int) = (q : Int)
  · rw [if_pos e]; exact Int.le_refl _
  · rw [if_neg e] at h0 ⊢
    rcases worst_spec (tab2 (tabL n f) (b : Int)) (ball (q : Int)) 0 with ⟨_, h1⟩ | ⟨h1, _, _⟩
    · omega
    · rcases worst_spec (tab2 (tabL n g) (b : Int)) (ball (q : Int)) 0 with ⟨⟨x, hx, h2⟩, _⟩ | ⟨_, h2, _⟩
      · exfalso
        obtain ⟨y, hy, rfl⟩ := hb q hq x hx
        have := (h1 _ hx).1
        rw [tab2_tabL _ hbn hy] at this h2
        have := h _ _ this
        omega
      · exact h2
theorem Inv3.next {p n : Nat} {ball : Nat → Int → List Int} (hb : okBalls p n ball) {t : Int} (ht : 1 ≤ t) {f : Nat → Nat → Nat → Int} (hI : Inv3 p n ball f) : Inv3 p n ball (step3 p n ball t f) := by
  have hkeep : ∀ r c q, 0 ≤ f r c q → step3 p n ball t f r c q = f r c q := fun r c q h => by
    unfold step3 can3
    have : decide (f r c q < 0) = false := by simp; omega
    simp [this]
  have hge : ∀ r c q, 0 ≤ f r c q → 0 ≤ step3 p n ball t f r c q := fun r c q h => by rw [hkeep r c q h]; exact h
  refine ⟨fun r c q => ?_, fun r c => ?_, fun r c q h => ?_, fun r c q hr hc hq h => ?_⟩
  · unfold step3; split
    · omega
    · exact hI.low r c q
  · rw [hkeep r c c (by rw [hI.home]; exact Int.le_refl _)]; exact hI.home r c
  · unfold step3; split
    · omega
    · exact hI.away r c q h
  · have key : (∃ b ∈ ball r (c : Int), 0 ≤ afterT (ball r) (tabL n (f ((r + 1) % p))) b (q : Int)) → ∃ b ∈ ball r (c : Int), 0 ≤ afterT (ball r) (tabL n (step3 p n ball t f ((r + 1) % p))) b (q : Int) := by
      rintro ⟨b, hbm, h1⟩
      obtain ⟨y, hy, rfl⟩ := hb r hr c hc b hbm
      exact ⟨_, hbm, after_mono (hb r hr) (hge _) hy hq h1⟩
    by_cases hf : 0 ≤ f r c q
    · exact (hI.why r c q hr hc hq hf).imp _root_.id key
    · right
      have hcan : can3 p n ball f r c q = true := by
        cases hcan : can3 p n ball f r c q with
        | true => rfl
        | false => unfold step3 at h; rw [if_neg (by rw [hcan]; simp)] at h; exact absurd h hf
      unfold can3 at hcan
      simp only [Bool.and_eq_true, List.any_eq_true, decide_eq_true_eq] at hcan
      exact key hcan.2
end Go.V.W
set_option linter.unusedVariables false
set_option linter.unusedSimpArgs false
namespace Go.V.W
open Go.Proofs
/-- The setting of a round. -/
structure TT (nets : List Nt) (p n : Nat) : Prop where
  ok : netsB n nets = true
  len : nets.length = p
  n8 : n ≤ 8
end Go.V.W
set_option linter.unusedVariables false
set_option linter.unusedSimpArgs false
namespace Go.V.W
open Go.Proofs
theorem digit_sub : ∀ u : Fin 10, ((([48, 49, 50, 51, 52, 53, 54, 55, 56, 57] : List UInt8).drop u.val).take (u.val + 1 - u.val)) = [UInt8.ofNat (48 + u.val)] := by decide
theorem digit_ba (u : Nat) (h : u < 10) : subS (⟨#[48, 49, 50, 51, 52, 53, 54, 55, 56, 57]⟩ : ByteArray) (u : Int) ((u : Int) + 1) = ba [UInt8.ofNat (48 + u)] := by
  have := subS_ba [48, 49, 50, 51, 52, 53, 54, 55, 56, 57] u (u + 1)
  rw [digit_sub ⟨u, h⟩] at this
  exact this
theorem l1Num_nat : ∀ (m u : Nat), u ≤ m → m ≤ 9223372036854775807 → ∃ N, F_spec_l1Num N ((u : Int), ()) = some (ba (Lib.decDigits u), ()) := by
  intro m
  induction m with
  | zero =>
    intro u hu _
    have : u = 0 := by omega
    subst this
    refine ⟨1, ?_⟩
    rw [Lib.decDigits, dif_pos (by omega)]
    rfl
  | succ m ih =>
    intro u hu hm
    by_cases h : u < 10
    · refine ⟨1, ?_⟩
      rw [Lib.decDigits, dif_pos h]
      have e1 : IntKind.wrap .i64 ((u : Int) + 1) = (u : Int) + 1 := wrap_in _ (by omega) (by omega)
      have e2 : (⟨#[48, 49, 50, 51, 52, 53, 54, 55, 56, 57]⟩ : ByteArray).size = 10 := rfl
      have c1 : decide ((u : Int) < 0) = false := decide_eq_false (by omega)
      have c2 : decide ((u : Int) < 10) = true := decide_eq_true (by omega)
      have c3 : (decide ((0 : Int) ≤ u) && decide ((u : Int) ≤ (u : Int) + 1) && decide ((u : Int) + 1 ≤ ((10 : Nat) : Int))) = true := by simp; omega
      unfold F_spec_l1Num
      simp only [e1, e2, c1, c2, c3, Bool.false_eq_true, if_false, if_true, digit_ba u h]
    · obtain ⟨N, hN⟩ := ih (u / 10) (by omega) (by omega)
      refine ⟨N + 1, ?_⟩
      rw [Lib.decDigits, dif_neg h]
      have e0 : (u : Int).tdiv 10 = ((u / 10 : Nat) : Int) := by rw [Int.tdiv_eq_ediv_of_nonneg (by omega)]; omega
      have e1 : (u : Int).tmod 10 = ((u % 10 : Nat) : Int) := by rw [Int.tmod_eq_emod_of_nonneg (by omega)]; omega
      have e2 : IntKind.wrap .i64 ((u / 10 : Nat) : Int) = ((u / 10 : Nat) : Int) := wrap_in _ (by omega) (by omega)
      have e3 : IntKind.wrap .i64 (((u % 10 : Nat) : Int) + 1) = ((u % 10 : Nat) : Int) + 1 := wrap_in _ (by omega) (by omega)
      have e4 : (⟨#[48, 49, 50, 51, 52, 53, 54, 55, 56, 57]⟩ : ByteArray).size = 10 := rfl
      have hlt : u % 10 < 10 := Nat.mod_lt _ (by decide)
      have c1 : decide ((u : Int) < 0) = false := decide_eq_false (by omega)
      have c2 : decide ((u : Int) < 10) = false := decide_eq_false (by omega)
      have c3 : (decide ((0 : Int) ≤ ((u % 10 : Nat) : Int)) && decide (((u % 10 : Nat) : Int) ≤ ((u % 10 : Nat) : Int) + 1) && decide (((u % 10 : Nat) : Int) + 1 ≤ ((10 : Nat) : Int))) = true := by
        generalize u % 10 = x at hlt
        simp; omega
      have h21 := itoa_len (n := ((u / 10 : Nat) : Int)) (by omega) (by omega)
      have h22 : Lib.itoa ((u / 10 : Nat) : Int) = Lib.decDigits (u / 10) := by
        unfold Lib.itoa
        rw [if_neg (by omega)]
        rfl
      rw [h22] at h21
      have c4 : decide ((Lib.decDigits (u / 10)).length + 1 ≤ maxLen) = true := decide_eq_true (by unfold maxLen; omega)
      have c5 : ((10 : Int) != 0) = true := by decide
      unfold F_spec_l1Num
      simp only [e0, e1, e2, e3, e4, c1, c2, c3, c5, hN, Bool.false_eq_true, if_false, if_true, digit_ba _ hlt, Option.bind_some, ba_size, List.length_cons, List.length_nil, Nat.zero_add, c4, ba_append]
theorem itoa_nat (u : Nat) : Lib.itoa (u : Int) = Lib.decDigits u := by
  unfold Lib.itoa
  rw [if_neg (by omega)]
  rfl
theorem l1Num_lim (d) (r) (h : G_l1Num d = some r) : ∃ N, F_spec_l1Num N d = some r := by
  obtain ⟨n, _⟩ := d
  unfold G_l1Num at h
  split at h
  · rename_i hc
    simp only [Bool.and_eq_true, decide_eq_true_eq] at hc
    obtain rfl := Option.some.inj h
    by_cases hn : 0 ≤ n
    · obtain ⟨u, rfl⟩ : ∃ u : Nat, n = u := ⟨n.toNat, by omega⟩
      rw [itoa_nat]
      exact l1Num_nat u u (Nat.le_refl _) (by omega)
    · obtain ⟨u, rfl⟩ : ∃ u : Nat, n = -(u : Int) := ⟨(-n).toNat, by omega⟩
      obtain ⟨N, hN⟩ := l1Num_nat u u (Nat.le_refl _) (by omega)
      refine ⟨N + 1, ?_⟩
      have e1 : IntKind.wrap .i64 (0 - -(u : Int)) = (u : Int) := by rw [show (0 - -(u : Int)) = (u : Int) by omega]; exact wrap_in _ (by omega) (by omega)
      have c1 : decide (-(u : Int) < 0) = true := decide_eq_true (by omega)
      have h21 := itoa_len (n := (u : Int)) (by omega) (by omega)
      rw [itoa_nat] at h21
      have e2 : Lib.itoa (-(u : Int)) = 45 :: Lib.decDigits u := by
        unfold Lib.itoa
        rw [if_pos (by omega)]
        simp
      have e3 : (⟨#[45]⟩ : ByteArray) = ba [45] := rfl
      have c4 : decide (1 + (Lib.decDigits u).length ≤ maxLen) = true := decide_eq_true (by unfold maxLen; omega)
      unfold F_spec_l1Num
      simp only [e1, c1, hN, if_true, Option.bind_some, e3, ba_size, List.length_cons, List.length_nil, Nat.zero_add, c4, ba_append, e2]
      rfl
  · cases h
theorem ck_cons (h : Int) (b : UInt8) (l : List UInt8) : ckL h (b :: l) = ckL ((41 * h + (b.toNat : Int) + 1).tmod 999979) l := rfl
theorem l1Sum_l0 (N : Nat) (s : ByteArray) (hs : s.size ≤ 4194304) : ∀ (n i : Nat) (h : Int), s.size ≤ i + n → i ≤ s.size → 0 ≤ h → h < 999979 → spec_l1Sum_l0 N (n + 1) (s, h, (i : Int), ()) = some (.inl (ckL h ((bl s).drop i), ())) := by
  intro n
  induction n with
  | zero =>
    intro i h h1 h2 _ _
    have : i = s.size := by omega
    subst this
    unfold bl
    rw [drop_size]
    simp [spec_l1Sum_l0, spec_l1Sum_l0_r, ckL]
  | succ n ih =>
    intro i h h1 h2 h3 h4
    by_cases hi : i < s.size
    · have hix : idxIn (i : Int) s.size = true := by simp [idxIn]; omega
      have hw : IntKind.wrap .i64 ((i : Int) + 1) = ((i + 1 : Nat) : Int) := by rw [wrap_small _ (by omega) (by omega)]; rfl
      obtain ⟨b, hb, hd⟩ := bytes_drop s i hi
      have hb8 := b.toNat_lt
      have w1 : IntKind.wrap .i64 (41 * h) = 41 * h := wrap_in _ (by omega) (by omega)
      have w2 : IntKind.wrap .i64 (b.toNat : Int) = (b.toNat : Int) := wrap_in _ (by omega) (by omega)
      have w3 : IntKind.wrap .i64 (41 * h + (b.toNat : Int)) = 41 * h + (b.toNat : Int) := wrap_in _ (by omega) (by omega)
      have w4 : IntKind.wrap .i64 (41 * h + (b.toNat : Int) + 1) = 41 * h + (b.toNat : Int) + 1 := wrap_in _ (by omega) (by omega)
      have hx : 0 ≤ 41 * h + (b.toNat : Int) + 1 := by omega
      have hm0 : 0 ≤ (41 * h + (b.toNat : Int) + 1).tmod 999979 := by rw [Int.tmod_eq_emod_of_nonneg hx]; exact Int.emod_nonneg _ (by decide)
      have hm1 : (41 * h + (b.toNat : Int) + 1).tmod 999979 < 999979 := by rw [Int.tmod_eq_emod_of_nonneg hx]; exact Int.emod_lt_of_pos _ (by decide)
      have ih' := ih (i + 1) _ (by omega) (by omega) hm0 hm1
      unfold bl at ih' ⊢
      rw [hd, ck_cons]
      show spec_l1Sum_l0_r N (spec_l1Sum_l0 N (n + 1)) (s, h, (i : Int), ()) = _
      unfold spec_l1Sum_l0_r
      have hlt : decide ((i : Int) < (s.size : Int)) = true := by simp; omega
      have c5 : ((999979 : Int) != 0) = true := by decide
      simp only [Int.toNat_natCast, hix, if_true, hw, hlt, hb, w1, w2, w3, w4, c5, ih']
    · have : i = s.size := by omega
      subst this
      unfold bl
      rw [drop_size]
      simp [spec_l1Sum_l0, spec_l1Sum_l0_r, ckL]
theorem l1Sum_lim (d) (r) (h : G_sum d = some r) : ∃ N, F_spec_l1Sum N d = some r := by
  obtain ⟨s, _⟩ := d
  unfold G_sum at h
  split at h
  · rename_i hs
    have hs : s.size ≤ 4194304 := of_decide_eq_true hs
    refine ⟨s.size + 1, ?_⟩
    have := l1Sum_l0 (s.size + 1) s hs s.size 0 7 (by omega) (by omega) (by decide) (by decide)
    unfold F_spec_l1Sum
    simp only [Int.natCast_zero, List.drop_zero] at this
    simp only
    rw [this, ← h]
    rfl
  · cases h
theorem checksum_l0 (N : Nat) (s : ByteArray) (hs : s.size ≤ 4194304) : ∀ (n i : Nat) (h : Int), s.size ≤ i + n → i ≤ s.size → 0 ≤ h → h < 999979 → impl_checksum_l0 N (n + 1) (s, h, (i : Int), ()) = some (.inl (ckL h ((bl s).drop i), ())) := by
  intro n
  induction n with
  | zero =>
    intro i h h1 h2 _ _
    have : i = s.size := by omega
    subst this
    unfold bl
    rw [drop_size]
    simp [impl_checksum_l0, impl_checksum_l0_r, ckL]
  | succ n ih =>
    intro i h h1 h2 h3 h4
    by_cases hi : i < s.size
    · have hix : idxIn (i : Int) s.size = true := by simp [idxIn]; omega
      have hw : IntKind.wrap .i64 ((i : Int) + 1) = ((i + 1 : Nat) : Int) := by rw [wrap_small _ (by omega) (by omega)]; rfl
      obtain ⟨b, hb, hd⟩ := bytes_drop s i hi
      have hb8 := b.toNat_lt
      have w1 : IntKind.wrap .i64 (41 * h) = 41 * h := wrap_in _ (by omega) (by omega)
      have w2 : IntKind.wrap .i64 (b.toNat : Int) = (b.toNat : Int) := wrap_in _ (by omega) (by omega)
      have w3 : IntKind.wrap .i64 (41 * h + (b.toNat : Int)) = 41 * h + (b.toNat : Int) := wrap_in _ (by omega) (by omega)
      have w4 : IntKind.wrap .i64 (41 * h + (b.toNat : Int) + 1) = 41 * h + (b.toNat : Int) + 1 := wrap_in _ (by omega) (by omega)
      have hx : 0 ≤ 41 * h + (b.toNat : Int) + 1 := by omega
      have hm0 : 0 ≤ (41 * h + (b.toNat : Int) + 1).tmod 999979 := by rw [Int.tmod_eq_emod_of_nonneg hx]; exact Int.emod_nonneg _ (by decide)
      have hm1 : (41 * h + (b.toNat : Int) + 1).tmod 999979 < 999979 := by rw [Int.tmod_eq_emod_of_nonneg hx]; exact Int.emod_lt_of_pos _ (by decide)
      have ih' := ih (i + 1) _ (by omega) (by omega) hm0 hm1
      unfold bl at ih' ⊢
      rw [hd, ck_cons]
      show impl_checksum_l0_r N (impl_checksum_l0 N (n + 1)) (s, h, (i : Int), ()) = _
      unfold impl_checksum_l0_r
      have hlt : decide ((i : Int) < (s.size : Int)) = true := by simp; omega
      have c5 : ((999979 : Int) != 0) = true := by decide
      simp only [Int.toNat_natCast, hix, if_true, hw, hlt, hb, w1, w2, w3, w4, c5, ih']
    · have : i = s.size := by omega
      subst this
      unfold bl
      rw [drop_size]
      simp [impl_checksum_l0, impl_checksum_l0_r, ckL]
theorem checksum_lim (d) (r) (h : G_sum d = some r) : ∃ N, F_impl_checksum N d = some r := by
  obtain ⟨s, _⟩ := d
  unfold G_sum at h
  split at h
  · rename_i hs
    have hs : s.size ≤ 4194304 := of_decide_eq_true hs
    refine ⟨s.size + 1, ?_⟩
    have := checksum_l0 (s.size + 1) s hs s.size 0 7 (by omega) (by omega) (by decide) (by decide)
    unfold F_impl_checksum
    simp only [Int.natCast_zero, List.drop_zero] at this
    simp only
    rw [this, ← h]
    rfl
  · cases h
def glue (p : List UInt8) : List (List UInt8) → List (List UInt8)
  | [] => [p]
  | x :: r => (p ++ x) :: r
theorem split_ne (c : Int) : ∀ l, splitL c l ≠ [] := by
  intro l
  cases l with
  | nil => simp [splitL]
  | cons b l =>
    rw [splitL]
    split
    · simp
    · split <;> simp
theorem glue_cons {c : Int} {b : UInt8} (h : ¬ (b.toNat : Int) = c) (p l : List UInt8) : glue p (splitL c (b :: l)) = glue (p ++ [b]) (splitL c l) := by
  rw [splitL, if_neg h]
  cases hs : splitL c l with
  | nil => exact absurd hs (split_ne c l)
  | cons x r => simp [glue]
theorem part_up (l : List UInt8) (a i : Nat) (b : UInt8) (ha : a ≤ i) (hd : l.drop i = b :: l.drop (i + 1)) : (l.drop a).take (i + 1 - a) = (l.drop a).take (i - a) ++ [b] := by
  have e : i + 1 - a = (i - a) + 1 := by omega
  rw [e, List.take_add, List.drop_drop, show a + (i - a) = i by omega, hd]
  rfl
theorem l1Split_l0 (N : Nat) (s : ByteArray) (c : Int) (hs : s.size ≤ 4194304) : ∀ (n i a : Nat) (out : List ByteArray), s.size ≤ i + n → i ≤ s.size → a ≤ i → out.length ≤ i →
    ∃ out' a', spec_l1Split_l0 N (n + 1) (s, c, out, (a : Int), (i : Int), ()) = some (.inl (s, out', ((a' : Nat) : Int), ())) ∧ a' ≤ s.size ∧ out'.length ≤ s.size ∧
      out' ++ [ba ((bl s).drop a')] = out ++ (glue (((bl s).drop a).take (i - a)) (splitL c ((bl s).drop i))).map ba := by
  intro n
  have fin : ∀ (m a : Nat) (out : List ByteArray), a ≤ s.size → out.length ≤ s.size → ∃ out' a', spec_l1Split_l0 N (m + 1) (s, c, out, (a : Int), (s.size : Int), ()) = some (.inl (s, out', ((a' : Nat) : Int), ())) ∧ a' ≤ s.size ∧ out'.length ≤ s.size ∧
      out' ++ [ba ((bl s).drop a')] = out ++ (glue (((bl s).drop a).take (s.size - a)) (splitL c ((bl s).drop s.size))).map ba := by
    intro m a out ha ho
    refine ⟨out, a, ?_, ha, ho, ?_⟩
    · simp [spec_l1Split_l0, spec_l1Split_l0_r]
    · unfold bl
      rw [drop_size, List.take_of_length_le (by simp)]
      simp [splitL, glue]
  induction n with
  | zero =>
    intro i a out h1 h2 h3 h4
    have : i = s.size := by omega
    subst this
    exact fin 0 a out h3 h4
  | succ n ih =>
    intro i a out h1 h2 h3 h4
    by_cases hi : i < s.size
    · have hix : idxIn (i : Int) s.size = true := by simp [idxIn]; omega
      have hw : IntKind.wrap .i64 ((i : Int) + 1) = ((i + 1 : Nat) : Int) := by rw [wrap_small _ (by omega) (by omega)]; rfl
      obtain ⟨b, hb, hd⟩ := bytes_drop s i hi
      have hlt : decide ((i : Int) < (s.size : Int)) = true := by simp; omega
      have hr : spec_l1Split_l0 N (n + 1 + 1) (s, c, out, (a : Int), (i : Int), ()) = spec_l1Split_l0_r N (spec_l1Split_l0 N (n + 1)) (s, c, out, (a : Int), (i : Int), ()) := rfl
      by_cases hc : (b.toNat : Int) = c
      · have hc' : ((b.toNat : Int) == c) = true := by simpa using hc
        have c1 : (decide ((0 : Int) ≤ (a : Int)) && decide ((a : Int) ≤ (i : Int)) && decide ((i : Int) ≤ (s.size : Int))) = true := by simp; omega
        have c2 : decide (out.length + 1 ≤ lim) = true := decide_eq_true (by unfold lim; omega)
        obtain ⟨out', a', e1, e2, e3, e4⟩ := ih (i + 1) (i + 1) (out ++ [ba (((bl s).drop a).take (i - a))]) (by omega) (by omega) (Nat.le_refl _) (by simp; omega)
        refine ⟨out', a', ?_, e2, e3, ?_⟩
        · rw [hr]
          unfold spec_l1Split_l0_r
          have e5 : subS s (a : Int) (i : Int) = ba (((bl s).drop a).take (i - a)) := by
            have := subS_ba (bl s) a i
            rw [ba_bl] at this
            exact this
          simp only [Int.toNat_natCast, hix, if_true, hw, hlt, hb, hc', c1, e5, List.length_cons, List.length_nil, Nat.zero_add, c2, e1]
        · rw [e4]
          have hd' : (bl s).drop i = b :: (bl s).drop (i + 1) := hd
          rw [hd', splitL, if_pos hc]
          cases hsp : splitL c ((bl s).drop (i + 1)) with
          | nil => exact absurd hsp (split_ne c _)
          | cons x r => simp [glue]
      · have hc' : ((b.toNat : Int) == c) = false := by simpa using hc
        obtain ⟨out', a', e1, e2, e3, e4⟩ := ih (i + 1) a out (by omega) (by omega) (by omega) (by omega)
        refine ⟨out', a', ?_, e2, e3, ?_⟩
        · rw [hr]
          unfold spec_l1Split_l0_r
          simp only [Int.toNat_natCast, hix, if_true, hw, hlt, hb, hc', Bool.false_eq_true, if_false, e1]
        · have hd' : (bl s).drop i = b :: (bl s).drop (i + 1) := hd
          rw [e4, part_up _ _ _ _ h3 hd', hd', glue_cons hc]
    · have : i = s.size := by omega
      subst this
      exact fin (n + 1) a out h3 h4
theorem l1Split_lim (d) (r) (h : G_l1Split d = some r) : ∃ N, F_spec_l1Split N d = some r := by
  obtain ⟨s, c, _⟩ := d
  unfold G_l1Split at h
  split at h
  · rename_i hs
    have hs : s.size ≤ 4194304 := of_decide_eq_true hs
    refine ⟨s.size + 1, ?_⟩
    obtain ⟨out, a, e1, e2, e3, e4⟩ := l1Split_l0 (s.size + 1) s c hs s.size 0 0 [] (by omega) (by omega) (Nat.le_refl _) (Nat.le_refl _)
    rw [← h]
    unfold F_spec_l1Split
    simp only [Int.natCast_zero] at e1
    have c1 : (decide ((0 : Int) ≤ (a : Int)) && decide ((a : Int) ≤ (s.size : Int)) && decide ((s.size : Int) ≤ (s.size : Int))) = true := by simp; omega
    have c2 : decide (out.length + 1 ≤ lim) = true := decide_eq_true (by unfold lim; omega)
    have e5 : subS s (a : Int) (s.size : Int) = ba ((bl s).drop a) := by
      have := subS_end (bl s) a
      rw [ba_bl] at this
      exact this
    simp only [e1, Option.bind_some, c1, if_true, e5, List.length_cons, List.length_nil, Nat.zero_add, c2, e4, List.nil_append, List.drop_zero, Nat.sub_self, List.take_zero]
    cases hsp : splitL c (bl s) with
    | nil => exact absurd hsp (split_ne c _)
    | cons x r => simp [glue]
  · cases h
end Go.V.W
set_option linter.unusedVariables false
set_option linter.unusedSimpArgs false
namespace Go.V.W
open Go.Proofs
theorem bytes_nil : (⟨#[]⟩ : ByteArray) = ba [] := rfl
theorem bytes_35 : (⟨#[35]⟩ : ByteArray) = ba [35] := rfl
theorem bytes_32 : (⟨#[32]⟩ : ByteArray) = ba [32] := rfl
theorem bytes_64 : (⟨#[64]⟩ : ByteArray) = ba [64] := rfl
theorem bytes_10 : (⟨#[10]⟩ : ByteArray) = ba [10] := rfl
theorem small_ba {l : List UInt8} (h : l.length ≤ 4194304) : smallB (ba l) = true := decide_eq_true (by rw [ba_size]; omega)
theorem med_ba {l : List UInt8} (h : l.length ≤ 4194304) : medB (ba l) = true := decide_eq_true (by rw [ba_size]; exact h)
theorem sum_eq {l : List UInt8} (h : l.length ≤ 4194304) : G_sum (ba l, ()) = some (ckL 7 l, ()) := by
  unfold G_sum
  simp only [med_ba h, if_true, bl_ba]
theorem itoa_eq {n : Int} (h : 0 ≤ n) (h1 : n ≤ 9223372036854775807) : G_itoa (n, ()) = some (ba (Lib.itoa n), ()) := by
  unfold G_itoa
  have : (decide (-9223372036854775808 ≤ n) && decide (n ≤ 9223372036854775807)) = true := by simp; omega
  simp only [this, if_true]
theorem num_eq {n : Int} (h : 0 ≤ n) (h1 : n ≤ 9223372036854775807) : G_l1Num (n, ()) = some (ba (Lib.itoa n), ()) := by
  unfold G_l1Num
  have : (decide (-9223372036854775807 ≤ n) && decide (n ≤ 9223372036854775807)) = true := by simp; omega
  simp only [this, if_true]
theorem cut_eq {l : List UInt8} (c : UInt8) (h : l.length ≤ 4194304) : G_cut (ba l, ba [c], ()) = some (ba (cutA c l), ba (cutB c l), l.contains c, ()) := by
  unfold G_cut
  simp only [small_ba h, if_true, bl_ba, cut_one]
theorem hasB_eq {l : List UInt8} (c : UInt8) (h : l.length ≤ 4194304) : G_contains (ba l, ba [c], ()) = some (l.contains c, ()) := by
  unfold G_contains
  simp only [small_ba h, if_true, bl_ba, contains_one]
theorem parts_eq {l : List UInt8} (c : UInt8) (h : l.length ≤ 4194304) : G_l1Split (ba l, (c.toNat : Int), ()) = some (ba (cutA c l) :: (if c ∈ l then splitL (c.toNat : Int) (cutB c l) else []).map ba, ()) := by
  unfold G_l1Split
  simp only [med_ba h, if_true, bl_ba]
  rw [split_one, List.map_cons]
theorem seal_eq {l : List UInt8} (h : l.length ≤ 4194304) : F_spec_l1Seal 0 (ba l, ()) = some (ba (sealL l), ()) := by
  have hk := ck7 l
  have hl := itoa_len hk.1 (by omega)
  have c1 : decide (l.length + 1 ≤ maxLen) = true := decide_eq_true (by unfold maxLen; omega)
  have c2 : decide (l.length + 1 + (Lib.itoa (ckL 7 l)).length ≤ maxLen) = true := decide_eq_true (by unfold maxLen; omega)
  unfold F_spec_l1Seal
  simp only [bytes_35, ba_size, List.length_cons, List.length_nil, Nat.zero_add, c1, if_true, sum_eq h, Option.bind_some, num_eq hk.1 (by omega : ckL 7 l ≤ 9223372036854775807), ba_append, List.length_append, c2]
  rfl
theorem append_eq {l : List UInt8} (h : l.length ≤ 4194304) : F_impl_AppendChecksum 0 (ba l, ()) = some (ba (if sealOk l = true then sealL l else []), sealOk l, ()) := by
  have hk := ck7 l
  have hl := itoa_len hk.1 (by omega)
  have c1 : decide (l.length + 1 ≤ maxLen) = true := decide_eq_true (by unfold maxLen; omega)
  have c2 : decide (l.length + 1 + (Lib.itoa (ckL 7 l)).length ≤ maxLen) = true := decide_eq_true (by unfold maxLen; omega)
  unfold F_impl_AppendChecksum sealOk
  simp only [bytes_35, bytes_nil, ba_size, hasB_eq 35 h, Option.bind_some, List.length_cons, List.length_nil, Nat.zero_add, c1, if_true, sum_eq h, itoa_eq hk.1 (by omega : ckL 7 l ≤ 9223372036854775807), ba_append, List.length_append, c2]
  by_cases d1 : l.length ≤ 4000
  · have d1' : decide ((l.length : Int) > 4000) = false := decide_eq_false (by omega)
    simp only [d1, d1', decide_true, Bool.true_and, Bool.false_eq_true, if_false]
    cases d2 : l.contains 35
    · simp only [Bool.false_eq_true, if_false, Bool.not_false, Bool.true_and]
      have e : sealL l = l ++ [35] ++ Lib.itoa (ckL 7 l) := rfl
      have e2 : (sealL l).length = l.length + 1 + (Lib.itoa (ckL 7 l)).length := by rw [e]; simp; omega
      rw [← e, e2]
      by_cases d3 : l.length + 1 + (Lib.itoa (ckL 7 l)).length ≤ 4000
      · have d3' : decide (((l.length + 1 + (Lib.itoa (ckL 7 l)).length : Nat) : Int) > 4000) = false := decide_eq_false (by omega)
        simp only [d3', decide_eq_true d3, Bool.false_eq_true, if_false, if_true]
      · have d3' : decide (((l.length + 1 + (Lib.itoa (ckL 7 l)).length : Nat) : Int) > 4000) = true := decide_eq_true (by omega)
        simp only [d3', decide_eq_false d3, Bool.false_eq_true, if_false, if_true]
    · simp only [if_true, Bool.not_true, Bool.false_and, Bool.false_eq_true, if_false]
  · have d1' : decide ((l.length : Int) > 4000) = true := decide_eq_true (by omega)
    simp only [d1, d1', decide_false, Bool.false_and, Bool.false_eq_true, if_false, if_true]
theorem verify_eq {l : List UInt8} (h : l.length ≤ 4194304) : F_impl_VerifyChecksum 0 (ba l, ()) = some (ba (if verL l = true then cutA 35 l else []), verL l, ()) := by
  have h2 : (cutA 35 l).length ≤ 4194304 := Nat.le_trans (cutA_le _ _) h
  unfold F_impl_VerifyChecksum verL
  simp only [bytes_35, bytes_nil, cut_eq 35 h, Option.bind_some, append_eq h2]
  cases d1 : l.contains 35
  · simp only [Bool.not_false, if_true, Bool.false_and, Bool.false_eq_true, if_false]
  · simp only [Bool.not_true, Bool.false_eq_true, if_false, Bool.true_and]
    cases d2 : sealOk (cutA 35 l)
    · simp only [Bool.not_false, if_true, Bool.false_and, Bool.false_eq_true, if_false]
    · simp only [Bool.not_true, Bool.false_eq_true, if_false, if_true, Bool.true_and, seq_ba]
      cases d3 : (sealL (cutA 35 l) == l)
      · simp only [Bool.not_false, if_true, Bool.false_eq_true, if_false]
      · simp only [Bool.not_true, Bool.false_eq_true, if_false, if_true]
theorem line_eq {k : Nat} {c r : List UInt8} (hk : k < 9223372036854775807) (hc : c.length ≤ 1048576) (hr : r.length ≤ 1048576) : F_spec_l12Line 0 ((k : Int), (ba c, ba r, ()), ()) = some (ba (lineL k c r), ()) := by
  have hl := itoa_len (n := (k : Int)) (by omega) (by omega)
  have c1 : decide ((Lib.itoa (k : Int)).length + 1 ≤ maxLen) = true := decide_eq_true (by unfold maxLen; omega)
  have c2 : decide ((Lib.itoa (k : Int)).length + 1 + c.length ≤ maxLen) = true := decide_eq_true (by unfold maxLen; omega)
  have c3 : decide ((Lib.itoa (k : Int)).length + 1 + c.length + 1 ≤ maxLen) = true := decide_eq_true (by unfold maxLen; omega)
  have c4 : decide ((Lib.itoa (k : Int)).length + 1 + c.length + 1 + r.length ≤ maxLen) = true := decide_eq_true (by unfold maxLen; omega)
  have ht : (textL k c r).length ≤ 4194304 := by
    unfold textL
    simp only [List.length_append, List.length_cons, List.length_nil]
    omega
  have c5 : decide ((sealL (textL k c r)).length + 1 ≤ maxLen) = true := decide_eq_true (by have := sealL_len (textL k c r); unfold maxLen; omega)
  have hs := seal_eq ht
  unfold textL at hs c5
  unfold F_spec_l12Line
  simp only [num_eq (n := (k : Int)) (by omega) (by omega), Option.bind_some, bytes_32, bytes_64, bytes_10, ba_size, List.length_cons, List.length_nil, Nat.zero_add, c1, c2, c3, c4, if_true, ba_append, List.length_append, hs, c5]
  rfl
theorem encode_eq {k : Nat} {c r : List UInt8} (hk : k < 9223372036854775807) (hv : validL c r = true) : F_impl_encodeRecord 0 ((k : Int), (ba c, ba r, ()), ()) = some (ba (lineL k c r), ()) := by
  obtain ⟨⟨_, hc, _⟩, hr, _⟩ := validL_split hv
  have hl := itoa_len (n := (k : Int)) (by omega) (by omega)
  have c1 : decide ((Lib.itoa (k : Int)).length + 1 ≤ maxLen) = true := decide_eq_true (by unfold maxLen; omega)
  have c2 : decide ((Lib.itoa (k : Int)).length + 1 + c.length ≤ maxLen) = true := decide_eq_true (by unfold maxLen; omega)
  have c3 : decide ((Lib.itoa (k : Int)).length + 1 + c.length + 1 ≤ maxLen) = true := decide_eq_true (by unfold maxLen; omega)
  have c4 : decide ((Lib.itoa (k : Int)).length + 1 + c.length + 1 + r.length ≤ maxLen) = true := decide_eq_true (by unfold maxLen; omega)
  have ht := textL_len hk hv
  have hs := append_eq (l := textL k c r) (by omega)
  have hok : sealOk (textL k c r) = true := by
    have h1 := sealL_len (textL k c r)
    have h2 : (textL k c r).contains 35 = false := by simpa using textL_not k hv
    unfold sealOk
    rw [h2]
    simp; omega
  rw [hok, if_pos rfl] at hs
  have c5 : decide ((sealL (textL k c r)).length + 1 ≤ maxLen) = true := decide_eq_true (by have := sealL_len (textL k c r); unfold maxLen; omega)
  unfold textL at hs c5
  unfold F_impl_encodeRecord
  simp only [itoa_eq (n := (k : Int)) (by omega) (by omega), Option.bind_some, bytes_32, bytes_64, bytes_10, ba_size, List.length_cons, List.length_nil, Nat.zero_add, c1, c2, c3, c4, if_true, ba_append, List.length_append, hs, c5]
  rfl
theorem specR_eq (a b : ByteArray) (ha : a.size ≤ maxLen) (hb : b.size ≤ maxLen) : F_spec_l12Record 0 ((a, b, ()), ()) = some (specB a b, ()) := by
  have oa : okS a = true := decide_eq_true ha
  have ob : okS b = true := decide_eq_true hb
  unfold F_spec_l12Record specB
  simp only [G_l12Bytes, G_l1Stands, oa, ob, if_true, Option.bind_some]
  cases seq_ a (⟨#[]⟩ : ByteArray) <;> simp only [Bool.not_true, Bool.not_false, Bool.false_eq_true, if_false, if_true, Option.bind_some, Bool.false_and, Bool.true_and]
  cases (a.data.toList.all (fun b => printed1 b && !(b.toNat == 35)) && decide ((a.size : Int) ≤ 160)) <;> simp only [Bool.false_eq_true, if_false, if_true, Option.bind_some, Bool.false_and, Bool.true_and]
  cases (a.data.toList.any (fun b => ((b.toNat : Int) == 64))) <;> simp only [Bool.not_true, Bool.not_false, Bool.false_eq_true, if_false, if_true, Option.bind_some, Bool.false_and, Bool.true_and]
theorem any_contains (c : UInt8) : ∀ l : List UInt8, (l.any fun b => b.toNat == c.toNat) = l.contains c := by
  intro l
  rw [Bool.eq_iff_iff, List.any_eq_true, List.contains_iff_mem]
  constructor
  · rintro ⟨b, hb, h⟩
    have : b = c := UInt8.toNat_inj.1 (by simpa using h)
    exact this ▸ hb
  · exact fun h => ⟨c, h, by simp⟩
theorem implB_eq (c r : List UInt8) : implB (ba c) (ba r) = validL c r := by
  have e1 : (ba c).data.toList = c := bl_ba c
  have e2 : (ba r).data.toList = r := bl_ba r
  have e3 : ∀ l : List UInt8, Lib.containsAny l [35] = l.contains 35 := fun l => by rw [has35]; exact any_contains 35 l
  have e4 : ∀ l : List UInt8, Lib.containsAny l [35, 64] = (l.contains 35 || l.contains 64) := fun l => by
    rw [has3564, ← any_contains 35 l, ← any_contains 64 l]
    congr 1
    congr 1
    funext b
    rw [Bool.eq_iff_iff]
    simp only [beq_iff_eq]
    show (b.toNat : Int) = 64 ↔ b.toNat = 64
    omega
  have d1 : decide (((ba c).size : Int) ≥ 1) = decide (1 ≤ c.length) := by rw [ba_size]; exact decide_eq_decide.2 (by omega)
  have d2 : decide (((ba c).size : Int) ≤ 160) = decide (c.length ≤ 160) := by rw [ba_size]; exact decide_eq_decide.2 (by omega)
  have d3 : decide (((ba r).size : Int) ≤ 200) = decide (r.length ≤ 200) := by rw [ba_size]; exact decide_eq_decide.2 (by omega)
  have p1 : ∀ l : List UInt8, printedB (ba l) = printedL l := fun l => by
    unfold printedB printedL
    have : (ba l).data.toList = l := bl_ba l
    rw [this]
    rfl
  unfold implB validL
  rw [e1, e2, e3, e4, d1, d2, d3, p1, p1]
  generalize decide (1 ≤ c.length) = x1
  generalize decide (c.length ≤ 160) = x2
  generalize decide (r.length ≤ 200) = x3
  generalize printedL c = x4
  generalize printedL r = x5
  generalize c.contains 35 = x6
  generalize c.contains 64 = x7
  generalize r.contains 35 = x8
  cases x1 <;> cases x2 <;> cases x3 <;> cases x4 <;> cases x5 <;> cases x6 <;> cases x7 <;> cases x8 <;> rfl
theorem validI_eq {c r : List UInt8} (hc : c.length ≤ 1048576) (hr : r.length ≤ 1048576) : F_impl_IsValidRecord 0 ((ba c, ba r, ()), ()) = some (validL c r, ()) := by
  rw [impl_eq (ba c) (ba r) (by rw [ba_size]; exact hc) (by rw [ba_size]; exact hr), implB_eq]
theorem validS_eq {c r : List UInt8} (hc : c.length ≤ 4194304) (hr : r.length ≤ 4194304) : F_spec_l12Record 0 ((ba c, ba r, ()), ()) = some (validL c r, ()) := by
  rw [specR_eq (ba c) (ba r) (by rw [ba_size]; unfold maxLen; omega) (by rw [ba_size]; unfold maxLen; omega), same, implB_eq]
end Go.V.W
set_option linter.unusedVariables false
set_option linter.unusedSimpArgs false
namespace Go.V.W
open Go.Proofs
theorem ver_len {l : List UInt8} (h : verL l = true) : (cutA 35 l).length ≤ 4000 := by
  unfold verL sealOk at h
  simp only [Bool.and_eq_true, decide_eq_true_eq] at h
  exact h.1.2.1.1
/-- The reference's reading of a line. -/
theorem decodeS_eq {k : Nat} {l : List UInt8} (hk : k < 1000) (hl : l.length ≤ 4194304) : ∃ e, F_spec_l12Decode 0 (ba l, (k : Int), ()) = some (e, (decodeL k l).isSome, ()) ∧ ∀ x, decodeL k l = some x → e = rcOf x := by
  have hi := itoa_len (n := (k : Int)) (by omega) (by omega)
  have h1 := num_eq (n := (k : Int)) (by omega) (by omega)
  have h2 := parts_eq (l := l) 35 (by omega)
  have ht : (cutA 35 l).length ≤ 4194304 := Nat.le_trans (cutA_le _ _) hl
  have c1 : decide ((Lib.itoa (k : Int)).length + 1 ≤ maxLen) = true := decide_eq_true (by unfold maxLen; omega)
  have ix : ∀ n : Nat, idxIn (0 : Int) (n + 1) = true := fun n => by unfold idxIn; rw [decide_eq_true (by omega), decide_eq_true (by omega)]; rfl
  have ax : ∀ (x : ByteArray) (r : List ByteArray), at_ .str (x :: r) (0 : Int).toNat = x := fun x r => rfl
  have e35 : ((35 : UInt8).toNat : Int) = 35 := rfl
  have e64 : ((64 : UInt8).toNat : Int) = 64 := rfl
  rw [e35] at h2
  generalize hA : Lib.itoa (k : Int) ++ [32] = A at *
  have hAl : A.length ≤ 22 := by rw [← hA]; simp; omega
  have hx2 : ba (Lib.itoa (k : Int)) ++ ba [32] = ba A := by rw [ba_append, hA]
  have hA1 : (Lib.itoa (k : Int)).length + 1 = A.length := by rw [← hA]; simp
  unfold F_spec_l12Decode
  simp only [h1, h2, Option.bind_some, bytes_32, bytes_10, hx2, ix, ax, if_true, ba_size, List.length_cons, List.length_nil, Nat.zero_add, c1]
  -- what decodeL says of the text
  have key : ∀ x, decodeL k l = some x → cutA 35 l = A ++ (x.1 ++ [64] ++ x.2) ∧ validL x.1 x.2 = true ∧ lineL k x.1 x.2 = l ++ [10] := fun x hx => by
    obtain ⟨hv, hln⟩ := decode_of hx
    obtain ⟨_, h4, _⟩ := line_text hv hln
    refine ⟨?_, hv, hln⟩
    rw [h4, ← hA]
    simp [textL]
  by_cases d1 : (cutA 35 l).length < A.length
  · have d1' : decide (((cutA 35 l).length : Int) < (A.length : Int)) = true := decide_eq_true (by omega)
    simp only [d1', if_true]
    cases hd : decodeL k l with
    | some x =>
      have := congrArg List.length (key x hd).1
      simp only [List.length_append] at this
      omega
    | none => exact ⟨_, rfl, fun x hx => by cases hx⟩
  · have d1' : decide (((cutA 35 l).length : Int) < (A.length : Int)) = false := decide_eq_false (by omega)
    have c2 : (decide ((0 : Int) ≤ 0) && decide ((0 : Int) ≤ (A.length : Int)) && decide ((A.length : Int) ≤ ((cutA 35 l).length : Int))) = true := by simp; omega
    have s1 : subS (ba (cutA 35 l)) (0 : Int) (A.length : Int) = ba ((cutA 35 l).take A.length) := by
      have := subS_ba (cutA 35 l) 0 A.length
      simpa using this
    simp only [d1', Bool.false_eq_true, if_false, c2, if_true, s1, seq_ba]
    cases d2 : ((cutA 35 l).take A.length == A)
    · simp only [Bool.not_false, if_true]
      cases hd : decodeL k l with
      | some x =>
        rw [(key x hd).1, List.take_left] at d2
        simp at d2
      | none => exact ⟨_, rfl, fun x hx => by cases hx⟩
    · have d2 : (cutA 35 l).take A.length = A := by simpa using d2
      have c3 : (decide ((0 : Int) ≤ (A.length : Int)) && decide ((A.length : Int) ≤ ((cutA 35 l).length : Int)) && decide (((cutA 35 l).length : Int) ≤ ((cutA 35 l).length : Int))) = true := by simp; omega
      have s2 : subS (ba (cutA 35 l)) (A.length : Int) ((cutA 35 l).length : Int) = ba ((cutA 35 l).drop A.length) := by
        have := subS_end (cutA 35 l) A.length
        rw [ba_size] at this
        exact this
      have hrest : ((cutA 35 l).drop A.length).length ≤ 4194304 := by simp; omega
      generalize hR : (cutA 35 l).drop A.length = R at *
      have hTR : cutA 35 l = A ++ R := by
        have := List.take_append_drop A.length (cutA 35 l)
        rw [d2, hR] at this
        exact this.symm
      have h3 := parts_eq (l := R) 64 (by omega)
      rw [e64] at h3
      simp only [Bool.not_true, Bool.false_eq_true, if_false, c3, if_true, s2, h3, Option.bind_some, List.length_cons, ix, ax, ba_size]
      by_cases d3 : (64 : UInt8) ∈ R
      · have hj := congrArg List.length (cut_join d3)
        simp only [List.length_append, List.length_cons, List.length_nil] at hj
        have d3' : (((cutA 64 R).length : Int) == (R.length : Int)) = false := by simp; omega
        have w1 : IntKind.wrap .i64 (((cutA 64 R).length : Int) + 1) = (((cutA 64 R).length + 1 : Nat) : Int) := by rw [wrap_in _ (by omega) (by omega)]; rfl
        have c4 : (decide ((0 : Int) ≤ (((cutA 64 R).length + 1 : Nat) : Int)) && decide ((((cutA 64 R).length + 1 : Nat) : Int) ≤ (R.length : Int)) && decide ((R.length : Int) ≤ (R.length : Int))) = true := by simp; omega
        have s3 : subS (ba R) (((cutA 64 R).length + 1 : Nat) : Int) (R.length : Int) = ba (cutB 64 R) := by
          have := subS_end R ((cutA 64 R).length + 1)
          rw [ba_size] at this
          rw [this]
          congr 1
          have hj3 := cut_join d3
          generalize cutA 64 R = x at hj3 ⊢
          generalize cutB 64 R = y at hj3 ⊢
          rw [hj3, List.append_assoc, ← List.drop_drop, List.drop_left]
          rfl
        have v1 := validS_eq (c := cutA 64 R) (r := cutB 64 R) (by omega) (by omega)
        simp only [d3', Bool.false_eq_true, if_false, w1, c4, if_true, s3, v1, Option.bind_some]
        cases hv : validL (cutA 64 R) (cutB 64 R)
        · simp only [Bool.false_eq_true, if_false]
          cases hd : decodeL k l with
          | some x =>
            obtain ⟨k1, k2, k3⟩ := key x hd
            have hRx : R = x.1 ++ [64] ++ x.2 := List.append_cancel_left (hTR.symm.trans k1)
            obtain ⟨_, t1, t2⟩ := text_cut (k := k) k2
            rw [hRx, t1, t2, k2] at hv
            cases hv
          | none => exact ⟨_, rfl, fun x hx => by cases hx⟩
        · obtain ⟨⟨_, vc, _⟩, vr, _⟩ := validL_split hv
          have l1 := line_eq (k := k) (c := cutA 64 R) (r := cutB 64 R) (by omega) (by omega) (by omega)
          have c5 : decide (l.length + 1 ≤ maxLen) = true := decide_eq_true (by unfold maxLen; omega)
          simp only [if_true, l1, Option.bind_some, c5, ba_append, seq_ba]
          cases hq : (lineL k (cutA 64 R) (cutB 64 R) == l ++ [10])
          · cases hd : decodeL k l with
            | some x =>
              obtain ⟨k1, k2, k3⟩ := key x hd
              have hRx : R = x.1 ++ [64] ++ x.2 := List.append_cancel_left (hTR.symm.trans k1)
              obtain ⟨_, t1, t2⟩ := text_cut (k := k) k2
              rw [hRx, t1, t2, k3] at hq
              simp at hq
            | none => exact ⟨_, rfl, fun x hx => by cases hx⟩
          · have hq : lineL k (cutA 64 R) (cutB 64 R) = l ++ [10] := by simpa using hq
            rw [decode_hit hv hq]
            exact ⟨_, rfl, fun x hx => by obtain rfl := Option.some.inj hx; rfl⟩
      · have d3' : (((cutA 64 R).length : Int) == (R.length : Int)) = true := by rw [cutA_of_not d3]; simp
        simp only [d3', if_true]
        cases hd : decodeL k l with
        | some x =>
          obtain ⟨k1, k2, k3⟩ := key x hd
          have hRx : R = x.1 ++ [64] ++ x.2 := List.append_cancel_left (hTR.symm.trans k1)
          rw [hRx] at d3
          simp at d3
        | none => exact ⟨_, rfl, fun x hx => by cases hx⟩
end Go.V.W
set_option linter.unusedVariables false
set_option linter.unusedSimpArgs false
namespace Go.V.W
open Go.Proofs
theorem decode_none_ver {k : Nat} (hk : k < 9223372036854775807) {l : List UInt8} (h : verL l = false) : decodeL k l = none := by
  cases hd : decodeL k l with
  | none => rfl
  | some x =>
    obtain ⟨h1, h2⟩ := decode_of hd
    rw [ver_of hk h1 h2] at h
    cases h
theorem decode_unf (k : Nat) (l : List UInt8) : decodeL k l = if (validL (cutA 64 (cutB 32 (cutA 35 l))) (cutB 64 (cutB 32 (cutA 35 l))) && (lineL k (cutA 64 (cutB 32 (cutA 35 l))) (cutB 64 (cutB 32 (cutA 35 l))) == l ++ [10])) = true then some (cutA 64 (cutB 32 (cutA 35 l)), cutB 64 (cutB 32 (cutA 35 l))) else none := rfl
theorem open_no {n k : Nat} {l : List UInt8} (h : l.contains 10 = false) : openL n k l = ([], 0) := by
  cases n with
  | zero => rfl
  | succ n => unfold openL; rw [h]; rfl
theorem open_none {n k : Nat} {l : List UInt8} (h : decodeL k (cutA 10 l) = none) : openL n k l = ([], 0) := by
  cases n with
  | zero => rfl
  | succ n => unfold openL; rw [h]; split <;> rfl
theorem rdRec_some {n k : Nat} {l : List UInt8} {e : List UInt8 × List UInt8} (h1 : l.contains 10 = true) (h : decodeL k (cutA 10 l) = some e) : openL (n + 1) k l = (e :: (openL n (k + 1) (cutB 10 l)).1, (cutA 10 l).length + 1 + (openL n (k + 1) (cutB 10 l)).2) := by
  conv => lhs; unfold openL
  rw [h1, if_pos rfl, h]
theorem drop_cut {c : UInt8} {l : List UInt8} (h : c ∈ l) : l.drop ((cutA c l).length + 1) = cutB c l := by
  have hj := cut_join h
  generalize cutA c l = x at hj ⊢
  generalize cutB c l = y at hj ⊢
  rw [hj, List.append_assoc, ← List.drop_drop, List.drop_left]
  rfl
theorem sub_drop (l : List UInt8) (a : Nat) : subS (ba l) (a : Int) (l.length : Int) = ba (l.drop a) := by
  have := subS_end l a
  rw [ba_size] at this
  exact this
theorem read_l0 (N : Nat) (l : List UInt8) (hl : l.length ≤ 4194304) : ∀ (n a : Nat) (recs : List Rc), recs.length + n = 60 → a ≤ l.length →
    impl_readRecords_l0 N (n + 1) (ba l, recs, (a : Int), ()) = some (.inl (recs ++ (openL n recs.length (l.drop a)).1.map rcOf, ((a + (openL n recs.length (l.drop a)).2 : Nat) : Int), ())) := by
  intro n
  induction n with
  | zero =>
    intro a recs h1 h2
    have : decide ((recs.length : Int) < 60) = false := decide_eq_false (by omega)
    show impl_readRecords_l0_r N (impl_readRecords_l0 N 0) (ba l, recs, (a : Int), ()) = _
    unfold impl_readRecords_l0_r
    simp only [this, Bool.false_eq_true, if_false, openL, List.map_nil, List.append_nil, Nat.add_zero]
  | succ n ih =>
    intro a recs h1 h2
    have c0 : decide ((recs.length : Int) < 60) = true := decide_eq_true (by omega)
    have c1 : (decide ((0 : Int) ≤ (a : Int)) && decide ((a : Int) ≤ (l.length : Int)) && decide ((l.length : Int) ≤ (l.length : Int))) = true := by simp; omega
    have hX : (l.drop a).length ≤ 4194304 := by simp; omega
    have hXa : (l.drop a).length = l.length - a := by simp
    generalize hXe : l.drop a = X at *
    have hL : (cutA 10 X).length ≤ 4194304 := Nat.le_trans (cutA_le _ _) hX
    have hs : subS (ba l) (a : Int) (l.length : Int) = ba X := by rw [sub_drop, hXe]
    show impl_readRecords_l0_r N (impl_readRecords_l0 N (n + 1)) (ba l, recs, (a : Int), ()) = _
    unfold impl_readRecords_l0_r
    simp only [c0, if_true, ba_size, c1, hs, bytes_10, bytes_32, bytes_64, cut_eq 10 hX, Option.bind_some, verify_eq hL]
    cases d1 : X.contains 10
    · simp only [Bool.not_false, if_true, open_no d1, List.map_nil, List.append_nil, Nat.add_zero]
    · simp only [Bool.not_true, Bool.false_eq_true, if_false]
      cases d2 : verL (cutA 10 X)
      · simp only [Bool.not_false, if_true, open_none (decode_none_ver (by omega : recs.length < 9223372036854775807) d2), List.map_nil, List.append_nil, Nat.add_zero]
      · have hT := ver_len d2
        have hU : (cutB 32 (cutA 35 (cutA 10 X))).length ≤ 4000 := Nat.le_trans (cutB_le _ _) hT
        have hC : (cutA 64 (cutB 32 (cutA 35 (cutA 10 X)))).length ≤ 4000 := Nat.le_trans (cutA_le _ _) hU
        have hR : (cutB 64 (cutB 32 (cutA 35 (cutA 10 X)))).length ≤ 4000 := Nat.le_trans (cutB_le _ _) hU
        have hdec := decode_unf recs.length (cutA 10 X)
        simp only [Bool.not_true, Bool.false_eq_true, if_false, if_true, cut_eq 32 (by omega : (cutA 35 (cutA 10 X)).length ≤ 4194304), Option.bind_some, cut_eq 64 (by omega : (cutB 32 (cutA 35 (cutA 10 X))).length ≤ 4194304),
          validI_eq (by omega : (cutA 64 (cutB 32 (cutA 35 (cutA 10 X)))).length ≤ 1048576) (by omega : (cutB 64 (cutB 32 (cutA 35 (cutA 10 X)))).length ≤ 1048576)]
        generalize cutA 64 (cutB 32 (cutA 35 (cutA 10 X))) = C at hdec ⊢
        generalize cutB 64 (cutB 32 (cutA 35 (cutA 10 X))) = R at hdec ⊢
        cases d3 : validL C R
        · rw [d3] at hdec
          simp only [Bool.false_and, Bool.false_eq_true, if_false] at hdec
          simp only [Bool.not_false, if_true, open_none hdec, List.map_nil, List.append_nil, Nat.add_zero]
        · have c2 : decide ((cutA 10 X).length + 1 ≤ maxLen) = true := decide_eq_true (by unfold maxLen; omega)
          simp only [Bool.not_true, Bool.false_eq_true, if_false, encode_eq (by omega : recs.length < 9223372036854775807) d3, Option.bind_some, List.length_cons, List.length_nil, Nat.zero_add, c2, if_true, ba_append, seq_ba]
          cases d4 : (lineL recs.length C R == cutA 10 X ++ [10])
          · rw [d3, d4] at hdec
            simp only [Bool.and_false, Bool.false_eq_true, if_false] at hdec
            simp only [Bool.not_false, if_true, open_none hdec, List.map_nil, List.append_nil, Nat.add_zero]
          · rw [d3, d4] at hdec
            simp only [Bool.and_self, if_true] at hdec
            have hm : (10 : UInt8) ∈ X := List.contains_iff_mem.1 d1
            have hj := congrArg List.length (cut_join hm)
            simp only [List.length_append, List.length_cons, List.length_nil] at hj
            have c3 : decide (recs.length + 1 ≤ lim) = true := decide_eq_true (by unfold lim; omega)
            have w1 : IntKind.wrap .i64 (((cutA 10 X).length : Int) + 1) = ((cutA 10 X).length : Int) + 1 := wrap_in _ (by omega) (by omega)
            have w2 : IntKind.wrap .i64 ((a : Int) + (((cutA 10 X).length : Int) + 1)) = ((a + ((cutA 10 X).length + 1) : Nat) : Int) := by rw [wrap_in _ (by omega) (by omega)]; omega
            have ih' := ih (a + ((cutA 10 X).length + 1)) (recs ++ [(ba C, ba R, ())]) (by simp; omega) (by omega)
            have e1 : l.drop (a + ((cutA 10 X).length + 1)) = cutB 10 X := by rw [← List.drop_drop, hXe, drop_cut hm]
            rw [e1] at ih'
            simp only [List.length_append, List.length_cons, List.length_nil, Nat.zero_add] at ih'
            simp only [Bool.not_true, Bool.false_eq_true, if_false, c3, if_true, w1, w2, ih', rdRec_some d1 hdec, List.map_cons, List.append_assoc, List.cons_append, List.nil_append]
            have e2 : a + ((cutA 10 X).length + 1) + (openL n (recs.length + 1) (cutB 10 X)).2 = a + ((cutA 10 X).length + 1 + (openL n (recs.length + 1) (cutB 10 X)).2) := by omega
            rw [e2]
            rfl
theorem open_l0 (N : Nat) (l : List UInt8) (hl : l.length ≤ 4194304) : ∀ (n a : Nat) (recs : List Rc), recs.length + n = 60 → a ≤ l.length →
    spec_l12Open_l0 N (n + 1) (ba l, recs, (a : Int), ()) = some (.inl (recs ++ (openL n recs.length (l.drop a)).1.map rcOf, ((a + (openL n recs.length (l.drop a)).2 : Nat) : Int), ())) := by
  intro n
  have fin : ∀ (m n : Nat) (recs : List Rc), spec_l12Open_l0 N (m + 1) (ba l, recs, (l.length : Int), ()) = some (.inl (recs ++ (openL n recs.length (l.drop l.length)).1.map rcOf, ((l.length + (openL n recs.length (l.drop l.length)).2 : Nat) : Int), ())) := by
    intro m n recs
    show spec_l12Open_l0_r N (spec_l12Open_l0 N m) (ba l, recs, (l.length : Int), ()) = _
    have c0 : decide ((l.length : Int) < (l.length : Int)) = false := decide_eq_false (by omega)
    have e : l.drop l.length = [] := List.drop_of_length_le (Nat.le_refl _)
    unfold spec_l12Open_l0_r
    simp only [ba_size, c0, Bool.false_eq_true, if_false, e, open_no (n := n) (k := recs.length) (l := []) rfl, List.map_nil, List.append_nil, Nat.add_zero]
  induction n with
  | zero =>
    intro a recs h1 h2
    by_cases ha : a = l.length
    · subst ha; exact fin 0 0 recs
    · have c0 : decide ((a : Int) < (l.length : Int)) = true := decide_eq_true (by omega)
      have : decide ((recs.length : Int) < 60) = false := decide_eq_false (by omega)
      show spec_l12Open_l0_r N (spec_l12Open_l0 N 0) (ba l, recs, (a : Int), ()) = _
      unfold spec_l12Open_l0_r
      simp only [ba_size, c0, if_true, this, Bool.false_eq_true, if_false, openL, List.map_nil, List.append_nil, Nat.add_zero]
  | succ n ih =>
    intro a recs h1 h2
    by_cases ha : a = l.length
    · subst ha; exact fin (n + 1) (n + 1) recs
    · have c0 : decide ((recs.length : Int) < 60) = true := decide_eq_true (by omega)
      have c0' : decide ((a : Int) < (l.length : Int)) = true := decide_eq_true (by omega)
      have c1 : (decide ((0 : Int) ≤ (a : Int)) && decide ((a : Int) ≤ (l.length : Int)) && decide ((l.length : Int) ≤ (l.length : Int))) = true := by simp; omega
      have hX : (l.drop a).length ≤ 4194304 := by simp; omega
      have hXa : (l.drop a).length = l.length - a := by simp
      generalize hXe : l.drop a = X at *
      have hL : (cutA 10 X).length ≤ 4194304 := Nat.le_trans (cutA_le _ _) hX
      have hs : subS (ba l) (a : Int) (l.length : Int) = ba X := by rw [sub_drop, hXe]
      have e10 : ((10 : UInt8).toNat : Int) = 10 := rfl
      have hp := parts_eq 10 hX
      rw [e10] at hp
      have ix : ∀ n : Nat, idxIn (0 : Int) (n + 1) = true := fun n => by unfold idxIn; rw [decide_eq_true (by omega), decide_eq_true (by omega)]; rfl
      have ax : ∀ (x : ByteArray) (r : List ByteArray), at_ .str (x :: r) (0 : Int).toNat = x := fun x r => rfl
      obtain ⟨e, he, hrc⟩ := decodeS_eq (k := recs.length) (l := cutA 10 X) (by omega) hL
      show spec_l12Open_l0_r N (spec_l12Open_l0 N (n + 1)) (ba l, recs, (a : Int), ()) = _
      unfold spec_l12Open_l0_r
      simp only [c0, c0', if_true, ba_size, c1, hs, hp, Option.bind_some, List.length_cons, ix, ax, he]
      by_cases d1 : (10 : UInt8) ∈ X
      · have d1' : X.contains 10 = true := List.contains_iff_mem.2 d1
        have hne : 1 ≤ (splitL 10 (cutB 10 X)).length := by
          cases hsp : splitL 10 (cutB 10 X) with
          | nil => exact absurd hsp (split_ne _ _)
          | cons x r => simp
        have d1'' : decide ((((List.map ba (splitL 10 (cutB 10 X))).length + 1 : Nat) : Int) < 2) = false := decide_eq_false (by simp; omega)
        simp only [d1, if_true, d1'', Bool.false_eq_true, if_false]
        cases hd : decodeL recs.length (cutA 10 X) with
        | none => simp only [Option.isSome_none, Bool.not_false, if_true, open_none hd, List.map_nil, List.append_nil, Nat.add_zero]
        | some x =>
          obtain rfl := hrc x hd
          have hj := congrArg List.length (cut_join d1)
          simp only [List.length_append, List.length_cons, List.length_nil] at hj
          have c3 : decide (recs.length + 1 ≤ lim) = true := decide_eq_true (by unfold lim; omega)
          have w1 : IntKind.wrap .i64 ((a : Int) + ((cutA 10 X).length : Int)) = (a : Int) + ((cutA 10 X).length : Int) := wrap_in _ (by omega) (by omega)
          have w2 : IntKind.wrap .i64 ((a : Int) + ((cutA 10 X).length : Int) + 1) = ((a + ((cutA 10 X).length + 1) : Nat) : Int) := by rw [wrap_in _ (by omega) (by omega)]; omega
          have ih' := ih (a + ((cutA 10 X).length + 1)) (recs ++ [rcOf x]) (by simp; omega) (by omega)
          have e1 : l.drop (a + ((cutA 10 X).length + 1)) = cutB 10 X := by rw [← List.drop_drop, hXe, drop_cut d1]
          rw [e1] at ih'
          simp only [List.length_append, List.length_cons, List.length_nil, Nat.zero_add] at ih'
          simp only [Option.isSome_some, Bool.not_true, Bool.false_eq_true, if_false, List.length_nil, Nat.zero_add, c3, if_true, w1, w2, ih', rdRec_some d1' hd, List.map_cons, List.append_assoc, List.cons_append, List.nil_append]
          have e2 : a + ((cutA 10 X).length + 1) + (openL n (recs.length + 1) (cutB 10 X)).2 = a + ((cutA 10 X).length + 1 + (openL n (recs.length + 1) (cutB 10 X)).2) := by omega
          rw [e2]
      · have d1' : X.contains 10 = false := by simpa using d1
        have d1'' : decide ((((List.map ba ([] : List (List UInt8))).length + 1 : Nat) : Int) < 2) = true := rfl
        simp only [d1, if_false, d1'', if_true, open_no d1', List.map_nil, List.append_nil, Nat.add_zero]
        rfl
theorem readRecords_lim (d) (r) (h : G_open d = some r) : ∃ N, F_impl_readRecords N d = some r := by
  obtain ⟨s, _⟩ := d
  unfold G_open at h
  split at h
  · rename_i hs
    have hs : s.size ≤ 4194304 := of_decide_eq_true hs
    refine ⟨61, ?_⟩
    have := read_l0 61 (bl s) (by rw [bl_length]; exact hs) 60 0 [] rfl (Nat.zero_le _)
    rw [ba_bl] at this
    unfold F_impl_readRecords
    simp only [Int.natCast_zero, List.drop_zero, List.length_nil, List.nil_append, Nat.zero_add] at this
    simp only
    rw [this, ← h]
    rfl
  · cases h
theorem l12Open_lim (d) (r) (h : G_open d = some r) : ∃ N, F_spec_l12Open N d = some r := by
  obtain ⟨s, _⟩ := d
  unfold G_open at h
  split at h
  · rename_i hs
    have hs : s.size ≤ 4194304 := of_decide_eq_true hs
    refine ⟨61, ?_⟩
    have := open_l0 61 (bl s) (by rw [bl_length]; exact hs) 60 0 [] rfl (Nat.zero_le _)
    rw [ba_bl] at this
    unfold F_spec_l12Open
    simp only [Int.natCast_zero, List.drop_zero, List.length_nil, List.nil_append, Nat.zero_add] at this
    simp only
    rw [this, ← h]
    rfl
  · cases h
end Go.V.W
set_option linter.unusedVariables false
set_option linter.unusedSimpArgs false
namespace Go.V.W
open Go.Proofs
theorem g_open_eq {l : List UInt8} (h : l.length ≤ 4194304) : G_open (ba l, ()) = some ((openL 60 0 l).1.map rcOf, ((openL 60 0 l).2 : Int), ()) := by
  unfold G_open
  simp only [med_ba h, if_true, bl_ba]
def logB (d p : List UInt8) (c : Int) : Bool := decide (d.length + p.length ≤ 30000) && ((openL 60 0 (d ++ p)).2 == d.length + p.length) && ((openL 60 0 d).2 == d.length) && (((openL 60 0 (d ++ p)).1.length : Int) == c)
theorem int_beq (a b : Nat) : ((a : Int) == (b : Int)) = (a == b) := by
  rw [Bool.eq_iff_iff]
  simp only [beq_iff_eq]
  omega
theorem specV_eq {d p : List UInt8} (c : Int) (h : d.length + p.length ≤ 1048576) : F_spec_l12Valid 0 ((ba d, ba p, c, ()), ()) = some (logB d p c, ()) := by
  have w1 : IntKind.wrap .i64 ((d.length : Int) + (p.length : Int)) = ((d.length + p.length : Nat) : Int) := by rw [wrap_in _ (by omega) (by omega)]; rfl
  have c1 : decide (d.length + p.length ≤ maxLen) = true := decide_eq_true (by unfold maxLen; omega)
  unfold F_spec_l12Valid logB
  simp only [ba_size, w1, c1, if_true, ba_append, g_open_eq (by simp; omega : (d ++ p).length ≤ 4194304), g_open_eq (by omega : d.length ≤ 4194304), Option.bind_some, int_beq, List.length_map]
  by_cases h1 : d.length + p.length ≤ 30000
  · have c2 : decide (((d.length + p.length : Nat) : Int) > 30000) = false := decide_eq_false (by omega)
    simp only [c2, Bool.false_eq_true, if_false, decide_eq_true h1, Bool.true_and]
    cases (openL 60 0 (d ++ p)).2 == d.length + p.length <;> cases (openL 60 0 d).2 == d.length <;> simp
  · have c2 : decide (((d.length + p.length : Nat) : Int) > 30000) = true := decide_eq_true (by omega)
    simp only [c2, if_true, decide_eq_false h1, Bool.false_and]
theorem implV_eq {d p : List UInt8} (c : Int) (h : d.length + p.length ≤ 1048576) : F_impl_IsValidLog 0 ((ba d, ba p, c, ()), ()) = some (logB d p c, ()) := by
  have w1 : IntKind.wrap .i64 ((d.length : Int) + (p.length : Int)) = ((d.length + p.length : Nat) : Int) := by rw [wrap_in _ (by omega) (by omega)]; rfl
  have c1 : decide (d.length + p.length ≤ maxLen) = true := decide_eq_true (by unfold maxLen; omega)
  have e1 : (c != ((openL 60 0 (d ++ p)).1.length : Int)) = !(((openL 60 0 (d ++ p)).1.length : Int) == c) := by
    rw [Bool.eq_iff_iff]
    simp only [bne_iff_ne, ne_eq, Bool.not_eq_true', beq_eq_false_iff_ne]
    exact ⟨fun h e => h e.symm, fun h e => h e.symm⟩
  have e2 : ∀ a b : Nat, ((a : Int) != (b : Int)) = !(a == b) := fun a b => by unfold bne; rw [int_beq]
  unfold F_impl_IsValidLog logB
  simp only [ba_size, w1, c1, if_true, ba_append, g_open_eq (by simp; omega : (d ++ p).length ≤ 4194304), g_open_eq (by omega : d.length ≤ 4194304), Option.bind_some, e2, int_beq, List.length_map, e1]
  by_cases h1 : d.length + p.length ≤ 30000
  · have c2 : decide (((d.length + p.length : Nat) : Int) > 30000) = false := decide_eq_false (by omega)
    simp only [c2, Bool.false_eq_true, if_false, decide_eq_true h1, Bool.true_and]
    cases (openL 60 0 (d ++ p)).2 == d.length + p.length <;> cases (openL 60 0 d).2 == d.length <;> cases (((openL 60 0 (d ++ p)).1.length : Int) == c) <;> simp
  · have c2 : decide (((d.length + p.length : Nat) : Int) > 30000) = true := decide_eq_true (by omega)
    simp only [c2, if_true, decide_eq_false h1, Bool.false_and]
theorem logB_of {d p : List UInt8} {c : Int} (h : logB d p c = true) : 0 ≤ c ∧ c ≤ 60 := by
  unfold logB at h
  simp only [Bool.and_eq_true, beq_iff_eq] at h
  have := (open_le 60 0 (d ++ p)).1
  omega
theorem appendR_eq {d p cm rp : List UInt8} {c : Int} (h1 : d.length + p.length ≤ 1048576) (h2 : cm.length + rp.length ≤ 1048576) :
    F_spec_AppendRecord 0 ((ba d, ba p, c, ()), (ba cm, ba rp, ()), ()) = F_impl_AppendRecord 0 ((ba d, ba p, c, ()), (ba cm, ba rp, ()), ()) ∧ ∃ x, F_impl_AppendRecord 0 ((ba d, ba p, c, ()), (ba cm, ba rp, ()), ()) = some x := by
  unfold F_spec_AppendRecord F_impl_AppendRecord
  simp only [specV_eq c h1, implV_eq c h1, Option.bind_some, validS_eq (by omega : cm.length ≤ 4194304) (by omega : rp.length ≤ 4194304), validI_eq (by omega : cm.length ≤ 1048576) (by omega : rp.length ≤ 1048576)]
  cases hb : logB d p c
  · simp
  · have hc := logB_of hb
    simp only [Bool.not_true, Bool.false_eq_true, if_false]
    cases hv : validL cm rp
    · simp
    · simp only [Bool.not_true, Bool.false_eq_true, if_false]
      by_cases h60 : c = 60
      · subst h60
        exact ⟨rfl, _, rfl⟩
      · have h60' : (c == 60) = false := by simpa using h60
        obtain ⟨k, rfl⟩ : ∃ k : Nat, c = k := ⟨c.toNat, by omega⟩
        have hs := sealL_len (textL k cm rp)
        have ht := textL_len (k := k) (by omega) hv
        have c1 : decide (p.length + (lineL k cm rp).length ≤ maxLen) = true := decide_eq_true (by unfold lineL maxLen; simp; omega)
        simp only [h60', Bool.false_eq_true, if_false, line_eq (k := k) (c := cm) (r := rp) (by omega) (by omega) (by omega), encode_eq (k := k) (by omega) hv, Option.bind_some, ba_size, c1, if_true]
        exact ⟨trivial, _, rfl⟩
end Go.V.W
set_option linter.unusedVariables false
set_option linter.unusedSimpArgs false
namespace Go.V.W
open Go.Proofs
theorem wrap_u8 {n : Int} (h0 : 0 ≤ n) (h1 : n ≤ 255) : IntKind.wrap .u8 n = n := by
  obtain ⟨k, rfl⟩ : ∃ k : Nat, n = k := ⟨n.toNat, by omega⟩
  unfold IntKind.wrap
  simp [IntKind.bits, IntKind.signed]
  omega
end Go.V.W
set_option linter.unusedVariables false
set_option linter.unusedSimpArgs false
namespace Go.V.W
open Go.Proofs
theorem and255 (x : Int) : 0 ≤ bits .and .u64 x 255 ∧ bits .and .u64 x 255 ≤ 255 := by
  have h : bits .and .u64 x 255 = IntKind.wrap .u64 ((BitVec.ofInt 64 x &&& BitVec.ofInt 64 255).toNat : Int) := rfl
  have e : (BitVec.ofInt 64 x &&& BitVec.ofInt 64 255).toNat ≤ 255 := by
    rw [BitVec.toNat_and]
    have : (BitVec.ofInt 64 255).toNat = 255 := by decide
    rw [this]
    exact Nat.and_le_right
  rw [h]
  generalize (BitVec.ofInt 64 x &&& BitVec.ofInt 64 255).toNat = m at e
  unfold IntKind.wrap
  simp [IntKind.bits, IntKind.signed]
  omega
theorem next_ok {c : Cur} {u : Unit} (h : CurB c) (hf : c.2.1 ≤ far_) : Ok (F_spec_l1Cur_next 0 (c, u)) fun r => 0 ≤ r.1 ∧ r.1 ≤ 255 ∧ Adv 1 c r.2.1 := by
  obtain ⟨l, a, s, _⟩ := c
  obtain ⟨hb, ha⟩ := h
  simp only at hb ha hf
  unfold far_ at hf
  have w1 : IntKind.wrap .i64 (a + 1) = a + 1 := wrap_in _ (by omega) (by omega)
  have hx := and255
  have w2 : ∀ x : Int, IntKind.wrap .i64 (bits .and .u64 x 255) = bits .and .u64 x 255 := fun x => wrap_in _ (by have := (hx x).1; omega) (by have := (hx x).2; omega)
  have adv : ∀ s', Adv 1 (l, a, s, ()) (l, a + 1, s', ()) := fun s' => ⟨⟨hb, by simp only; omega⟩, by simp only; omega⟩
  unfold F_spec_l1Cur_next
  simp only [w1, w2]
  refine Ok.ite (fun h1 => ?_) (fun h1 => ?_)
  · have h1 : a < l.length := of_decide_eq_true h1
    refine Ok.pos (by unfold idxIn; simp; omega) ?_
    obtain ⟨v, hv⟩ : ∃ v : Int, at_ (.int .u8) l a.toNat = v := ⟨_, rfl⟩
    have hv' : 0 ≤ v ∧ v ≤ 255 := by
      have hlt : a.toNat < l.length := by omega
      rw [at_get (e := .int .u8) hlt] at hv
      rw [← hv]
      exact hb _ (List.getElem_mem hlt)
    rw [hv]
    have w3 : IntKind.wrap .i64 v = v := wrap_in _ (by omega) (by omega)
    simp only [w3]
    refine Ok.ite (fun _ => Ok.some ⟨hv'.1, hv'.2, adv _⟩) (fun _ => Ok.pos rfl (Ok.some ⟨(hx _).1, (hx _).2, adv _⟩))
  · refine Ok.ite (fun _ => Ok.some ⟨by simp, by simp, adv _⟩) (fun _ => Ok.pos rfl (Ok.some ⟨(hx _).1, (hx _).2, adv _⟩))
theorem tmod_in {x n : Int} (h : 0 ≤ x) (hn : 0 < n) : 0 ≤ x.tmod n ∧ x.tmod n < n := by
  rw [Int.tmod_eq_emod_of_nonneg h]
  exact ⟨Int.emod_nonneg _ (by omega), Int.emod_lt_of_pos _ hn⟩
theorem pick_ok {c : Cur} {n : Int} {u : Unit} (h : CurB c) (hf : c.2.1 + 2 ≤ far_) : Ok (F_spec_l1Cur_pick 0 (c, n, u)) fun r => 0 ≤ r.1 ∧ (r.1 < n ∨ r.1 = 0) ∧ Adv 2 c r.2.1 := by
  unfold F_spec_l1Cur_pick
  simp only
  refine Ok.ite (fun h1 => Ok.some ⟨Int.le_refl _, .inr rfl, h, by simp only; omega⟩) (fun h1 => ?_)
  have h1 : ¬ n ≤ 1 := of_decide_eq_false h1
  have hn : (n != 0) = true := by simp; omega
  refine Ok.bind (next_ok h (by omega)) fun r hr => ?_
  obtain ⟨r1, r2, r3⟩ := hr
  refine Ok.ite (fun h2 => ?_) (fun h2 => ?_)
  · have w1 : IntKind.wrap .i64 (r.1 * 256) = r.1 * 256 := wrap_in _ (by omega) (by omega)
    refine Ok.bind (next_ok r3.1 (by have := r3.2; omega)) fun q hq => ?_
    obtain ⟨q1, q2, q3⟩ := hq
    have w2 : IntKind.wrap .i64 (r.1 * 256 + q.1) = r.1 * 256 + q.1 := wrap_in _ (by omega) (by omega)
    refine Ok.pos hn (Ok.some ?_)
    rw [w1, w2]
    have := tmod_in (x := r.1 * 256 + q.1) (n := n) (by omega) (by omega)
    exact ⟨this.1, .inl this.2, (r3.trans q3).le (by omega)⟩
  · refine Ok.pos hn (Ok.some ?_)
    have := tmod_in (x := r.1) (n := n) (by omega) (by omega)
    exact ⟨this.1, .inl this.2, r3.le (by omega)⟩
theorem one_ok {c : Cur} {n : Int} {u : Unit} (h : CurB c) (hf : c.2.1 + 2 ≤ far_) : Ok (F_spec_l1Cur_one 0 (c, n, u)) fun r => Adv 2 c r.2.1 := by
  unfold F_spec_l1Cur_one
  simp only
  exact Ok.bind (pick_ok h hf) fun r hr => Ok.some hr.2.2
theorem of_ok {c : Cur} {l : List ByteArray} {u : Unit} (h : CurB c) (hf : c.2.1 + 2 ≤ far_) (hl : 0 < l.length) : Ok (F_spec_l1Cur_of 0 (c, l, u)) fun r => r.1 ∈ l ∧ Adv 2 c r.2.1 := by
  unfold F_spec_l1Cur_of
  simp only
  refine Ok.bind (pick_ok h hf) fun r hr => ?_
  obtain ⟨r1, r2, r3⟩ := hr
  have hlt : r.1.toNat < l.length := by omega
  refine Ok.pos (by unfold idxIn; simp; omega) (Ok.some ⟨?_, r3⟩)
  rw [at_get (e := .str) hlt]
  exact List.getElem_mem hlt
theorem among_ok {c : Cur} {l : List Int} {u : Unit} (h : CurB c) (hf : c.2.1 + 2 ≤ far_) (hl : 0 < l.length) : Ok (F_spec_l1Cur_among 0 (c, l, u)) fun r => r.1 ∈ l ∧ Adv 2 c r.2.1 := by
  unfold F_spec_l1Cur_among
  simp only
  refine Ok.bind (pick_ok h hf) fun r hr => ?_
  obtain ⟨r1, r2, r3⟩ := hr
  have hlt : r.1.toNat < l.length := by omega
  refine Ok.pos (by unfold idxIn; simp; omega) (Ok.some ⟨?_, r3⟩)
  rw [at_get (e := I) hlt]
  exact List.getElem_mem hlt
def smallRc (r : Rc) : Prop := r.1.size ≤ 10 ∧ r.2.1.size ≤ 10
theorem bytesOf_3 : (bytesOf (List.replicate (3 : Int).toNat (0 : Int))).size ≤ 10 := by decide
theorem logRecord_ok {c : Cur} {u : Unit} (h : CurB c) (hf : c.2.1 + 8 ≤ far_) : Ok (F_spec_l1Cur_logRecord 0 (c, u)) fun r => smallRc r.1 ∧ Adv 8 c r.2.1 := by
  have sm : ∀ (x : ByteArray) (l : List ByteArray), x ∈ l → (l.all fun y => decide (y.size ≤ 10)) = true → x.size ≤ 10 := fun x l hx hl => of_decide_eq_true (List.all_eq_true.1 hl x hx)
  unfold F_spec_l1Cur_logRecord
  simp only
  refine Ok.bind (of_ok h (by omega) (by simp)) fun r1 h1 => ?_
  obtain ⟨m1, a1⟩ := h1
  have s1 := sm _ _ m1 (by decide)
  refine Ok.bind (of_ok a1.1 (by have := a1.2; omega) (by simp)) fun r2 h2 => ?_
  obtain ⟨m2, a2⟩ := h2
  have s2 := sm _ _ m2 (by decide)
  have b2 := a1.trans a2
  refine Ok.bind (pick_ok a2.1 (by have := b2.2; omega)) fun r3 h3 => ?_
  have b3 := b2.trans h3.2.2
  refine Ok.ite (fun _ => Ok.pos (by decide) ?_) (fun _ => Ok.ite (fun _ => ?_) (fun _ => Ok.some ⟨⟨s1, s2⟩, b3.le (by omega)⟩))
  · refine Ok.bind (of_ok b3.1 (by have := b3.2; omega) (by simp)) fun r5 h5 => ?_
    obtain ⟨m5, a5⟩ := h5
    have s5 := sm _ _ m5 (by simp only [List.all_cons, List.all_nil, Bool.and_true, Bool.and_eq_true, decide_eq_true_eq]; exact ⟨by decide, by decide, by decide, by decide, bytesOf_3⟩)
    exact Ok.some ⟨⟨s5, s2⟩, (b3.trans a5).le (by omega)⟩
  · refine Ok.bind (of_ok b3.1 (by have := b3.2; omega) (by simp)) fun r6 h6 => ?_
    obtain ⟨m6, a6⟩ := h6
    have s6 := sm _ _ m6 (by decide)
    exact Ok.some ⟨⟨s1, s6⟩, (b3.trans a6).le (by omega)⟩
end Go.V.W
set_option linter.unusedVariables false
set_option linter.unusedSimpArgs false
namespace Go.V.W
open Go.Proofs
def appL (d p : List UInt8) (c : Int) (cm rp : List UInt8) : Lg3 × Int × Unit :=
  if (logB d p c && validL cm rp) = true then (if c = 60 then ((ba d, ba p, c, ()), 2, ()) else ((ba d, ba (p ++ lineL c.toNat cm rp), c + 1, ()), 0, ())) else ((ba d, ba p, c, ()), 1, ())
theorem lineL_len {k : Nat} (hk : k < 9223372036854775807) {c r : List UInt8} (h : validL c r = true) : (lineL k c r).length ≤ 406 := by
  have hs := sealL_len (textL k c r)
  have ht := textL_len (k := k) hk h
  unfold lineL
  simp
  omega
theorem appS_eq {d p cm rp : List UInt8} {c : Int} (h1 : d.length + p.length ≤ 1048576) (h2 : cm.length + rp.length ≤ 1048576) :
    F_spec_AppendRecord 0 ((ba d, ba p, c, ()), (ba cm, ba rp, ()), ()) = some (appL d p c cm rp) := by
  unfold F_spec_AppendRecord appL
  simp only [specV_eq c h1, Option.bind_some, validS_eq (by omega : cm.length ≤ 4194304) (by omega : rp.length ≤ 4194304)]
  cases hb : logB d p c
  · simp
  · have hc := logB_of hb
    simp only [Bool.not_true, Bool.false_eq_true, if_false, Bool.true_and]
    cases hv : validL cm rp
    · simp
    · simp only [Bool.not_true, Bool.false_eq_true, if_false, if_true]
      by_cases h60 : c = 60
      · subst h60
        rfl
      · have h60' : (c == 60) = false := by simpa using h60
        obtain ⟨k, rfl⟩ : ∃ k : Nat, c = k := ⟨c.toNat, by omega⟩
        have hl := lineL_len (k := k) (by omega) hv
        have c1 : decide (p.length + (lineL k cm rp).length ≤ maxLen) = true := decide_eq_true (by unfold maxLen; omega)
        have w1 : IntKind.wrap .i64 ((k : Int) + 1) = (k : Int) + 1 := wrap_in _ (by omega) (by omega)
        simp only [h60', Bool.false_eq_true, if_false, line_eq (k := k) (c := cm) (r := rp) (by omega) (by omega) (by omega), Option.bind_some, ba_size, c1, if_true, w1, ba_append, if_neg h60, Int.toNat_natCast]
theorem appI_eq {d p cm rp : List UInt8} {c : Int} (h1 : d.length + p.length ≤ 1048576) (h2 : cm.length + rp.length ≤ 1048576) :
    F_impl_AppendRecord 0 ((ba d, ba p, c, ()), (ba cm, ba rp, ()), ()) = some (appL d p c cm rp) := by
  rw [← (appendR_eq h1 h2).1]
  exact appS_eq h1 h2
def syncL (d p : List UInt8) (c : Int) : Lg3 × Bool × Unit := if logB d p c = true then ((ba (d ++ p), ba [], c, ()), true, ()) else ((ba [], ba [], 0, ()), false, ())
theorem empty_ba : ByteArray.empty = ba [] := rfl
theorem syncS_eq {d p : List UInt8} {c : Int} (h1 : d.length + p.length ≤ 1048576) : F_spec_SyncLog 0 ((ba d, ba p, c, ()), ()) = some (syncL d p c) := by
  have c1 : decide (d.length + p.length ≤ maxLen) = true := decide_eq_true (by unfold maxLen; omega)
  unfold F_spec_SyncLog syncL
  simp only [specV_eq c h1, Option.bind_some, ba_size, c1, if_true, ba_append, empty_ba]
  cases logB d p c <;> rfl
theorem syncI_eq {d p : List UInt8} {c : Int} (h1 : d.length + p.length ≤ 1048576) : F_impl_SyncLog 0 ((ba d, ba p, c, ()), ()) = some (syncL d p c) := by
  have c1 : decide (d.length + p.length ≤ maxLen) = true := decide_eq_true (by unfold maxLen; omega)
  unfold F_impl_SyncLog syncL
  simp only [implV_eq c h1, Option.bind_some, ba_size, c1, if_true, ba_append, empty_ba]
  cases logB d p c <;> rfl
def szL (l : Lg3) : Nat := l.1.size + l.2.1.size
theorem app_ok {l : Lg3} {r : Rc} {u : Unit} (h : szL l ≤ 500000) (hr : smallRc r) : Ok (F_spec_AppendRecord 0 (l, r, u)) fun x => szL x.1 ≤ szL l + 406 := by
  obtain ⟨a, b, c, _⟩ := l
  obtain ⟨x, y, _⟩ := r
  obtain ⟨d, rfl⟩ : ∃ d, a = ba d := ⟨bl a, (ba_bl a).symm⟩
  obtain ⟨p, rfl⟩ : ∃ p, b = ba p := ⟨bl b, (ba_bl b).symm⟩
  obtain ⟨cm, rfl⟩ : ∃ d, x = ba d := ⟨bl x, (ba_bl x).symm⟩
  obtain ⟨rp, rfl⟩ : ∃ p, y = ba p := ⟨bl y, (ba_bl y).symm⟩
  unfold szL at h ⊢
  unfold smallRc at hr
  simp only [ba_size] at h hr
  refine ⟨_, appS_eq (by omega) (by omega), ?_⟩
  unfold appL
  split
  · rename_i hc
    simp only [Bool.and_eq_true] at hc
    have h0 := logB_of hc.1
    have := lineL_len (k := c.toNat) (by omega) hc.2
    split <;> simp only [ba_size, List.length_append] <;> omega
  · simp only [ba_size]; omega
theorem sync_ok {l : Lg3} {u : Unit} (h : szL l ≤ 500000) : Ok (F_spec_SyncLog 0 (l, u)) fun x => szL x.1 ≤ szL l := by
  obtain ⟨a, b, c, _⟩ := l
  obtain ⟨d, rfl⟩ : ∃ d, a = ba d := ⟨bl a, (ba_bl a).symm⟩
  obtain ⟨p, rfl⟩ : ∃ p, b = ba p := ⟨bl b, (ba_bl b).symm⟩
  unfold szL at h ⊢
  simp only [ba_size] at h
  refine ⟨_, syncS_eq (by omega), ?_⟩
  unfold syncL
  split <;> simp only [ba_size, List.length_append, List.length_nil] <;> omega
theorem log12_loop (N : Nat) : ∀ (k n : Nat) (c : Cur) (l l' : Lg3), n < k → CurB c → c.2.1 + 12 * (n : Int) ≤ far_ → szL l' + 406 * n ≤ 400000 →
    Ok (spec_l1Cur_log12_l0 N k (c, l, l', (n : Int), ())) fun o => ∃ c' l2, o = .inl (c', l, l2, ()) ∧ Adv (10 * (n : Int)) c c' ∧ szL l2 ≤ szL l' + 406 * n := by
  intro k
  induction k with
  | zero => intro n c l l' h; omega
  | succ k ih =>
    intro n c l l' hn hc hf hs
    show Ok (spec_l1Cur_log12_l0_r N (spec_l1Cur_log12_l0 N k) _) _
    unfold spec_l1Cur_log12_l0_r
    simp only
    cases n with
    | zero =>
      have c0 : decide (((0 : Nat) : Int) > 0) = false := by decide
      simp only [c0, Bool.false_eq_true, if_false]
      exact Ok.some ⟨c, l', rfl, ⟨hc, by omega⟩, by omega⟩
    | succ n =>
      have c0 : decide (((n + 1 : Nat) : Int) > 0) = true := decide_eq_true (by omega)
      have w1 : IntKind.wrap .i64 (((n + 1 : Nat) : Int) - 1) = (n : Int) := by
        unfold far_ at hf
        have := hc.2
        rw [wrap_in _ (by omega) (by omega)]
        omega
      simp only [c0, if_true, w1]
      refine Ok.bind (logRecord_ok hc (by omega)) fun r1 h1 => ?_
      refine Ok.bind (app_ok (by omega) h1.1) fun r2 h2 => ?_
      have a1 := h1.2
      refine Ok.bind (one_ok a1.1 (by have := a1.2; omega)) fun r3 h3 => ?_
      have a2 := (a1.trans h3).le (m := 10) (by omega)
      have hf2 := a2.2
      refine Ok.ite (fun _ => ?_) (fun _ => ?_)
      · refine Ok.bind (sync_ok (by omega)) fun r4 h4 => ?_
        refine (ih n _ l _ (by omega) a2.1 (by omega) (by omega)).mono fun o ho => ?_
        obtain ⟨c', l2, e1, e2, e3⟩ := ho
        exact ⟨c', l2, e1, (a2.trans e2).le (by omega), by omega⟩
      · refine (ih n _ l _ (by omega) a2.1 (by omega) (by omega)).mono fun o ho => ?_
        obtain ⟨c', l2, e1, e2, e3⟩ := ho
        exact ⟨c', l2, e1, (a2.trans e2).le (by omega), by omega⟩
theorem log12_ok {c : Cur} {u : Unit} (hc : CurB c) (hf : c.2.1 + 100 ≤ far_) : Ok (pickF F_spec_l1Cur_log12 P_log12 (c, u)) (P_log12 (c, u)) := by
  refine Ok.pick 8 ?_
  unfold F_spec_l1Cur_log12
  simp only
  refine Ok.bind (pick_ok hc (by omega)) fun r1 h1 => ?_
  obtain ⟨b1, b2, a1⟩ := h1
  obtain ⟨n, hn⟩ : ∃ n : Nat, r1.1 = n := ⟨r1.1.toNat, by omega⟩
  rw [hn]
  have z : szL (ByteArray.empty, ByteArray.empty, 0, ()) = 0 := rfl
  refine Ok.bind (log12_loop 8 8 n r1.2.1 _ _ (by omega) a1.1 (by have := a1.2; omega) (by rw [z]; omega)) fun o ho => ?_
  obtain ⟨c', l2, rfl, e2, e3⟩ := ho
  simp only
  refine Ok.some ⟨(a1.trans e2).le (by omega), ?_⟩
  have e3 : szL l2 ≤ szL (ByteArray.empty, ByteArray.empty, 0, ()) + 406 * n := e3
  rw [z] at e3
  unfold szL at e3
  simp only
  omega
theorem subS_len (s : ByteArray) (a b : Int) : (subS s a b).size = min b.toNat s.size - a.toNat := ByteArray.size_extract
theorem spoilt_ok {c : Cur} {t w : ByteArray} {u : Unit} (hc : CurB c) (hf : c.2.1 + 6 ≤ far_) (ht : t.size ≤ 400000) (hw : 0 < w.size) (hw2 : w.size ≤ 100) :
    Ok (F_spec_l1Cur_spoilt 0 (c, t, w, u)) fun r => r.1.size ≤ t.size + 1 ∧ Adv 6 c r.2.1 := by
  unfold F_spec_l1Cur_spoilt
  simp only
  refine Ok.ite (fun _ => ?_) (fun he => ?_)
  · refine Ok.pos (by simp; omega) (Ok.some ⟨by rw [subS_len]; simp; omega, hc, by simp only; omega⟩)
  · have h0 : 0 < t.size := by
      rcases Nat.eq_zero_or_pos t.size with h | h
      · exfalso
        have : t = (⟨#[]⟩ : ByteArray) := by
          rw [← ba_bl t, bytes_nil]
          congr 1
          exact List.eq_nil_of_length_eq_zero (by rw [bl_length]; exact h)
        rw [this] at he
        simp [seq_self] at he
      · exact h
    refine Ok.bind (pick_ok hc (by omega)) fun r1 h1 => ?_
    obtain ⟨p1, p2, a1⟩ := h1
    refine Ok.bind (pick_ok a1.1 (by have := a1.2; omega)) fun r2 h2 => ?_
    obtain ⟨q1, q2, a2⟩ := h2
    have b2 := a1.trans a2
    have hr1 : r1.1 < (t.size : Int) := by omega
    have hr2 : r2.1 < (w.size : Int) := by omega
    have hz : (subS w r2.1 (w.size : Int)).size = w.size - r2.1.toNat := by rw [subS_len]; simp
    refine Ok.pos (by simp; omega) (Ok.pos (by rw [hz]; simp; omega) ?_)
    have hx : (subS (subS w r2.1 (w.size : Int)) 0 1).size = 1 := by rw [subS_len, hz]; simp; omega
    generalize subS (subS w r2.1 (w.size : Int)) 0 1 = x at hx
    refine Ok.bind (pick_ok a2.1 (by have := b2.2; omega)) fun r4 h4 => ?_
    have b4 := (b2.trans h4.2.2).le (m := 6) (by omega)
    have g1 : (decide ((0 : Int) ≤ 0) && decide (0 ≤ r1.1) && decide (r1.1 ≤ (t.size : Int))) = true := by simp; omega
    have s1 : (subS t 0 r1.1).size = r1.1.toNat := by rw [subS_len]; simp; omega
    have s2 : (subS t r1.1 (t.size : Int)).size = t.size - r1.1.toNat := by rw [subS_len]; simp
    have w1 : IntKind.wrap .i64 (r1.1 + 1) = r1.1 + 1 := wrap_in _ (by omega) (by omega)
    have s3 : (subS t (r1.1 + 1) (t.size : Int)).size = t.size - (r1.1 + 1).toNat := by rw [subS_len]; simp
    have g2 : (decide (0 ≤ r1.1 + 1) && decide (r1.1 + 1 ≤ (t.size : Int)) && decide ((t.size : Int) ≤ (t.size : Int))) = true := by simp; omega
    refine Ok.ite (fun _ => ?_) (fun _ => Ok.ite (fun _ => ?_) (fun _ => ?_))
    · refine Ok.pos g1 (Ok.pos (by rw [s1, hx]; unfold maxLen; simp; omega) (Ok.pos (by simp; omega) (Ok.pos ?_ (Ok.some ⟨?_, b4⟩))))
      · rw [ByteArray.size_append, s1, s2, hx]; unfold maxLen; simp; omega
      · rw [ByteArray.size_append, ByteArray.size_append, s1, s2, hx]; omega
    · rw [w1]
      refine Ok.pos g1 (Ok.pos (by rw [s1, hx]; unfold maxLen; simp; omega) (Ok.pos g2 (Ok.pos ?_ (Ok.some ⟨?_, b4⟩))))
      · rw [ByteArray.size_append, s1, s3, hx]; unfold maxLen; simp; omega
      · rw [ByteArray.size_append, ByteArray.size_append, s1, s3, hx]; omega
    · rw [w1]
      refine Ok.pos g1 (Ok.pos g2 (Ok.pos ?_ (Ok.some ⟨?_, b4⟩)))
      · rw [s1, s3]; unfold maxLen; simp; omega
      · rw [ByteArray.size_append, s1, s3]; omega
theorem anyLog_ok {c : Cur} {u : Unit} (hc : CurB c) (hf : c.2.1 + 110 ≤ far_) : Ok (F_spec_l1Cur_anyLog 0 (c, u)) fun r => szL r.1 ≤ 20000 ∧ Adv 110 c r.2.1 := by
  unfold F_spec_l1Cur_anyLog
  simp only
  refine Ok.bind (log12_ok hc (by omega)) fun r1 h1 => ?_
  obtain ⟨a1, s1⟩ := h1
  refine Ok.bind (pick_ok a1.1 (by have := a1.2; simp only at this; omega)) fun r2 h2 => ?_
  have a2 := a1.trans h2.2.2
  have hf2 := a2.2
  simp only at hf2
  refine Ok.ite (fun _ => Ok.some ⟨by unfold szL; simp only; omega, a2.le (by omega)⟩) (fun _ => Ok.ite (fun _ => ?_) (fun _ => Ok.ite (fun _ => ?_) (fun _ => Ok.some ⟨by unfold szL; simp only; omega, a2.le (by omega)⟩)))
  · refine Ok.bind (spoilt_ok a2.1 (by omega) (by omega) (by decide) (by decide)) fun r4 h4 => ?_
    exact Ok.some ⟨by unfold szL; simp only; have := h4.1; omega, (a2.trans h4.2).le (by omega)⟩
  · refine Ok.pos (decide_eq_true (by unfold maxLen; omega)) (Ok.some ⟨by unfold szL; simp only [ByteArray.size_append]; omega, a2.le (by omega)⟩)
def BytesB (l : List Int) : Prop := ∀ x ∈ l, 0 ≤ x ∧ x ≤ 255
theorem cur0 {l : List Int} (h : BytesB l) : CurB (l, 0, 0, ()) := ⟨h, Int.le_refl _⟩
theorem cut_ok {l : List Int} {n : Int} {u : Unit} (h : BytesB l) (hl : l.length ≤ 65536) (hn : 0 ≤ n) (hn2 : n ≤ 255) : Ok (F_laws_vCut 0 (l, n, u)) fun r => BytesB r.1 := by
  have key : ∀ (a : Int), 0 ≤ a → a ≤ 255 → ∀ x : List Int, (∀ y ∈ x, y ∈ l) → BytesB (([] : List Int) ++ x ++ [IntKind.wrap .u8 a]) := by
    intro a h0 h1 x hx y hy
    rw [List.nil_append] at hy
    rcases List.mem_append.1 hy with hy | hy
    · exact h y (hx y hy)
    · rw [List.mem_singleton] at hy
      rw [hy, wrap_u8 h0 h1]
      omega
  have hsub : ∀ a b : Int, ∀ y ∈ sub_ l a b, y ∈ l := fun a b y hy => by
    unfold sub_ at hy
    exact List.mem_of_mem_take (List.mem_of_mem_drop hy)
  have hlen : ∀ a b : Int, (sub_ l a b).length ≤ l.length := fun a b => by unfold sub_; simp; omega
  unfold F_laws_vCut
  simp only
  refine Ok.ite (fun h1 => ?_) (fun h1 => ?_)
  · have h1 : n > (l.length : Int) := of_decide_eq_true h1
    refine Ok.pos (by simp) (Ok.pos ?_ (Ok.pos ?_ (Ok.some ?_)))
    · have := hlen (l.length : Int) (l.length : Int); unfold lim; simp; omega
    · have := hlen (l.length : Int) (l.length : Int); unfold lim; simp; omega
    · exact key _ (by omega) (by omega) _ (hsub _ _)
  · have h1 : ¬ n > (l.length : Int) := of_decide_eq_false h1
    refine Ok.pos (by simp; omega) (Ok.pos ?_ (Ok.pos ?_ (Ok.some ?_)))
    · have := hlen n (l.length : Int); unfold lim; simp; omega
    · have := hlen n (l.length : Int); unfold lim; simp; omega
    · exact key _ hn hn2 _ (hsub _ _)
theorem drawLog_ok {l : List Int} {u : Unit} (h : BytesB l) : Ok (F_spec_DrawIsValidLog 0 (l, u)) fun r => szL r.1 ≤ 20000 := by
  unfold F_spec_DrawIsValidLog
  simp only
  refine Ok.bind (anyLog_ok (cur0 h) (by unfold far_; simp)) fun r1 h1 => Ok.some h1.1
theorem drawRecord_ok {l : List Int} {u : Unit} (h : BytesB l) : Ok (F_spec_DrawIsValidRecord 0 (l, u)) fun r => smallRc r.1 := by
  unfold F_spec_DrawIsValidRecord
  simp only
  refine Ok.bind (logRecord_ok (cur0 h) (by unfold far_; simp)) fun r1 h1 => Ok.some h1.1
theorem drawEncode_ok {l : List Int} {u : Unit} (h : BytesB l) : Ok (F_spec_DrawEncodeRecord 0 (l, u)) fun r => smallRc r.2.1 := by
  unfold F_spec_DrawEncodeRecord
  simp only
  refine Ok.bind (among_ok (cur0 h) (by unfold far_; simp) (by simp)) fun r1 h1 => ?_
  have e1 := h1.2.2
  simp only at e1
  refine Ok.bind (logRecord_ok h1.2.1 (by unfold far_; omega)) fun r2 h2 => Ok.some h2.1
theorem drawAppend_loop (N : Nat) (l : Lg3) (e : Rc) (c : Cur) : ∀ (k n : Nat) (l' : Lg3), n < k → n ≤ 100 → szL l' + 406 * n ≤ 400000 →
    Ok (spec_DrawAppendRecord_l0 N k (l, e, c, l', (n : Int), ())) fun o => ∃ l2, o = .inl (l, e, c, l2, ()) ∧ szL l2 ≤ szL l' + 406 * n := by
  intro k
  induction k with
  | zero => intro n l' h; omega
  | succ k ih =>
    intro n l' hn hn2 hs
    show Ok (spec_DrawAppendRecord_l0_r N (spec_DrawAppendRecord_l0 N k) _) _
    unfold spec_DrawAppendRecord_l0_r
    simp only
    cases n with
    | zero =>
      have c0 : decide (((0 : Nat) : Int) > 0) = false := by decide
      simp only [c0, Bool.false_eq_true, if_false]
      exact Ok.some ⟨l', rfl, by omega⟩
    | succ n =>
      have c0 : decide (((n + 1 : Nat) : Int) > 0) = true := decide_eq_true (by omega)
      have w1 : IntKind.wrap .i64 (((n + 1 : Nat) : Int) - 1) = (n : Int) := by
        rw [wrap_in _ (by omega) (by omega)]
        omega
      simp only [c0, if_true, w1]
      refine Ok.bind (app_ok (by omega) ⟨by decide, by decide⟩) fun r2 h2 => ?_
      refine (ih n _ (by omega) (by omega) (by omega)).mono fun o ho => ?_
      obtain ⟨l2, e1, e3⟩ := ho
      exact ⟨l2, e1, by omega⟩
theorem drawAppend_ok {l : List Int} {u : Unit} (h : BytesB l) : Ok (pickF F_spec_DrawAppendRecord P_drawAppend (l, u)) (P_drawAppend (l, u)) := by
  refine Ok.pick 200 ?_
  unfold F_spec_DrawAppendRecord
  simp only
  refine Ok.bind (anyLog_ok (cur0 h) (by unfold far_; simp)) fun r1 h1 => ?_
  obtain ⟨s1, a1⟩ := h1
  have e1 := a1.2
  simp only at e1
  refine Ok.bind (one_ok a1.1 (by unfold far_; omega)) fun r2 h2 => ?_
  have a2 := a1.trans h2
  have e2 := a2.2
  simp only at e2
  unfold P_drawAppend
  refine Ok.ite (fun _ => ?_) (fun _ => ?_)
  · refine Ok.bind (pick_ok a2.1 (by unfold far_; omega)) fun r3 h3 => ?_
    have a3 := a2.trans h3.2.2
    have e3 := a3.2
    simp only at e3
    obtain ⟨k, hk⟩ : ∃ k : Nat, 59 + r3.1 = k := ⟨(59 + r3.1).toNat, by have := h3.1; omega⟩
    have hk4 : k ≤ 61 := by have := h3.2.1; omega
    have w1 : IntKind.wrap .i64 (59 + r3.1) = (k : Int) := by rw [hk, wrap_in _ (by omega) (by omega)]
    rw [w1]
    have z : szL (ByteArray.empty, ByteArray.empty, 0, ()) = 0 := rfl
    refine Ok.bind (drawAppend_loop 200 _ _ _ 200 k _ (by omega) (by omega) (by rw [z]; omega)) fun o ho => ?_
    obtain ⟨l2, rfl, g2⟩ := ho
    have g2 : szL l2 ≤ szL (ByteArray.empty, ByteArray.empty, 0, ()) + 406 * k := g2
    rw [z] at g2
    simp only
    refine Ok.bind (logRecord_ok a3.1 (by unfold far_; omega)) fun r9 h9 => Ok.some ⟨?_, ?_⟩
    · unfold szL at g2; simp only; omega
    · have := h9.1; unfold smallRc at this; simp only; omega
  · refine Ok.bind (logRecord_ok a2.1 (by unfold far_; omega)) fun r9 h9 => Ok.some ⟨?_, ?_⟩
    · unfold szL at s1; simp only; omega
    · have := h9.1; unfold smallRc at this; simp only; omega
theorem eqB_rc (x y : Rc) : eqB K_Pssq x y = decide (x = y) := by
  obtain ⟨a, b, _⟩ := x
  obtain ⟨c, d, _⟩ := y
  have h : ∀ s t : ByteArray, seq_ s t = decide (s = t) := fun s t => by
    rw [← ba_bl s, ← ba_bl t, seq_ba]
    rw [Bool.eq_iff_iff]
    simp only [beq_iff_eq, decide_eq_true_eq]
    exact ⟨fun h => by rw [h], fun h => ba_inj h⟩
  show (seq_ a c && (seq_ b d && true)) = _
  rw [h, h]
  rw [Bool.eq_iff_iff]
  simp
theorem eqB_lg (x : Lg3) : eqB K_Pssiq x x = true := by
  obtain ⟨a, b, c, _⟩ := x
  show (seq_ a a && (seq_ b b && ((c == c) && true))) = true
  simp [seq_self]
theorem vRecords_l0 (N : Nat) (l m : List Rc) (hl : l.length ≤ lim) (hm : l.length = m.length) : ∀ n i, l.length ≤ i + n → i ≤ l.length → laws_vRecords_l0 N (n + 1) (l, m, (i : Int), ()) = if l.drop i = m.drop i then some (.inr (.inl ())) else some (.inl (false, ())) := by
  have hmx := lim_max hl
  intro n
  induction n with
  | zero =>
    intro i h1 h2
    have e : i = l.length := by omega
    subst e
    show laws_vRecords_l0_r N _ _ = _
    unfold laws_vRecords_l0_r
    simp only [lt_not, Bool.false_eq_true, if_false]
    rw [List.drop_of_length_le (Nat.le_refl _), List.drop_of_length_le (by omega), if_pos rfl]
  | succ n ih =>
    intro i h1 h2
    show laws_vRecords_l0_r N (laws_vRecords_l0 N (n + 1)) _ = _
    unfold laws_vRecords_l0_r
    rcases Nat.lt_or_ge i l.length with hi | hi
    · have hi2 : i < m.length := by omega
      simp only [lt_dec hi, if_true, idxIn_nat hi, idxIn_nat hi2, Int.toNat_natCast, wrap_up hi hmx, eqB_rc, at_get (e := K_Pssq) hi, at_get (e := K_Pssq) hi2, List.get_eq_getElem]
      rw [List.drop_eq_getElem_cons hi, List.drop_eq_getElem_cons hi2]
      by_cases h : l[i] = m[i]
      · simp only [h, decide_true, Bool.not_true, Bool.false_eq_true, if_false]
        rw [ih (i + 1) (by omega) (by omega)]
        simp only [List.cons.injEq, true_and]
      · simp only [h, decide_false, Bool.not_false, if_true, List.cons.injEq, false_and, if_false]
    · have e : i = l.length := by omega
      subst e
      simp only [lt_not, Bool.false_eq_true, if_false]
      rw [List.drop_of_length_le (Nat.le_refl _), List.drop_of_length_le (by omega), if_pos rfl]
theorem vRecords_lim (d) (r) (h : G_vRecords d = some r) : ∃ N, F_laws_vRecords N d = some r := by
  obtain ⟨l, m, u⟩ := d
  unfold G_vRecords at h
  split at h
  · rename_i hc
    have hl : l.length ≤ lim := of_decide_eq_true hc
    obtain rfl := Option.some.inj h
    refine ⟨l.length + 1, ?_⟩
    unfold F_laws_vRecords
    simp only
    by_cases hm : l.length = m.length
    · have e1 : ((l.length : Int) != (m.length : Int)) = false := by simp [hm]
      have := vRecords_l0 (l.length + 1) l m hl hm l.length 0 (by omega) (Nat.zero_le _)
      simp only [Int.natCast_zero] at this
      simp only [e1, Bool.false_eq_true, if_false, this, List.drop_zero]
      by_cases h : l = m
      · simp [h]
      · simp [h]
    · have e1 : ((l.length : Int) != (m.length : Int)) = true := by simp; omega
      have : ¬ l = m := fun h => hm (by rw [h])
      simp only [e1, if_true, this, decide_false]
  · cases h
end Go.V.W
set_option linter.unusedVariables false
set_option linter.unusedSimpArgs false
namespace Go.V.W
open Go.Proofs
theorem cut_app {d x : List UInt8} (h : (10 : UInt8) ∈ d) : cutA 10 (d ++ x) = cutA 10 d ∧ cutB 10 (d ++ x) = cutB 10 d ++ x := by
  have e := cut_join h
  have hn := cutA_not (c := 10) d
  have e2 : d ++ x = cutA 10 d ++ [10] ++ (cutB 10 d ++ x) := by
    conv => lhs; rw [e]
    simp
  constructor
  · rw [e2]; exact cutA_mid hn
  · rw [e2]; exact cutB_mid hn
theorem open_step {n k : Nat} {l : List UInt8} (h : (10 : UInt8) ∈ l) {e : List UInt8 × List UInt8} (he : decodeL k (cutA 10 l) = some e) :
    openL (n + 1) k l = (e :: (openL n (k + 1) (cutB 10 l)).1, (cutA 10 l).length + 1 + (openL n (k + 1) (cutB 10 l)).2) := rdRec_some (List.contains_iff_mem.2 h) he
theorem cut_len {l : List UInt8} (h : (10 : UInt8) ∈ l) : l.length = (cutA 10 l).length + 1 + (cutB 10 l).length := by
  have := congrArg List.length (cut_join h)
  simp only [List.length_append, List.length_cons, List.length_nil] at this
  omega
/-- What is read whole has a line at its begin, or is nothing. -/
theorem whole_cases {n k : Nat} {l : List UInt8} (h : (openL n k l).2 = l.length) : l = [] ∨ ∃ m e, n = m + 1 ∧ (10 : UInt8) ∈ l ∧ decodeL k (cutA 10 l) = some e ∧ (openL m (k + 1) (cutB 10 l)).2 = (cutB 10 l).length := by
  cases n with
  | zero => exact .inl (List.eq_nil_of_length_eq_zero h.symm)
  | succ m =>
    by_cases hc : (10 : UInt8) ∈ l
    · cases hd : decodeL k (cutA 10 l) with
      | none =>
        rw [open_none hd] at h
        exact .inl (List.eq_nil_of_length_eq_zero h.symm)
      | some e =>
        rw [open_step hc hd] at h
        have := cut_len hc
        simp only at h
        exact .inr ⟨m, e, rfl, hc, hd ▸ rfl, by omega⟩
    · rw [open_no (by simpa using hc)] at h
      exact .inl (List.eq_nil_of_length_eq_zero h.symm)
theorem open_nil (n k : Nat) : openL n k [] = ([], 0) := open_no rfl
theorem open_app : ∀ (n k : Nat) (d x : List UInt8), (openL n k d).2 = d.length →
    openL n k (d ++ x) = ((openL n k d).1 ++ (openL (n - (openL n k d).1.length) (k + (openL n k d).1.length) x).1, d.length + (openL (n - (openL n k d).1.length) (k + (openL n k d).1.length) x).2) := by
  intro n
  induction n with
  | zero =>
    intro k d x h
    rcases whole_cases h with rfl | ⟨m, e, h0, _⟩
    · simp [open_nil]
    · cases h0
  | succ n ih =>
    intro k d x h
    rcases whole_cases h with rfl | ⟨m, e, h0, h1, h2, h3⟩
    · simp [open_nil]
    · injection h0 with h0
      subst h0
      have h4 : (10 : UInt8) ∈ d ++ x := List.mem_append_left _ h1
      obtain ⟨c1, c2⟩ := cut_app (x := x) h1
      have i := ih (k + 1) (cutB 10 d) x h3
      rw [open_step h4 (by rw [c1]; exact h2), c1, c2, i, open_step h1 h2]
      have hl := cut_len h1
      simp only [List.cons_append, List.length_cons]
      rw [show n + 1 - ((openL n (k + 1) (cutB 10 d)).1.length + 1) = n - (openL n (k + 1) (cutB 10 d)).1.length by omega, show k + ((openL n (k + 1) (cutB 10 d)).1.length + 1) = k + 1 + (openL n (k + 1) (cutB 10 d)).1.length by omega]
      rw [Prod.mk.injEq]
      exact ⟨rfl, by omega⟩
theorem itoa_small {n : Int} (h : 0 ≤ n) {b : UInt8} (hb : b ∈ Lib.itoa n) : b.toNat ≤ 126 := by have := itoa_in h b hb; omega
theorem line_small {k : Nat} {c r line : List UInt8} (hv : validL c r = true) (h : lineL k c r = line ++ [10]) : ∀ b ∈ line, b.toNat ≤ 126 := by
  intro b hb
  have h0 : line = sealL (textL k c r) := (line_text hv h).1
  rw [h0] at hb
  unfold validL at hv
  simp only [Bool.and_eq_true, decide_eq_true_eq, printedL, List.all_eq_true] at hv
  unfold sealL textL at hb
  simp only [List.mem_append, List.mem_singleton] at hb
  rcases hb with ((((((hb | hb) | hb) | hb) | hb) | hb) | hb)
  · exact itoa_small (by omega) hb
  · subst hb; decide
  · exact (hv.1.1.1.2 b hb).2
  · subst hb; decide
  · exact (hv.2.1.2 b hb).2
  · subst hb; decide
  · exact itoa_small (ck7 _).1 hb
def recsL (d p : List UInt8) (c : Int) : List Rc × Bool × Unit := if logB d p c = true then ((openL 60 0 (d ++ p)).1.map rcOf, true, ()) else ([], false, ())
theorem recsS_eq {d p : List UInt8} (c : Int) (h : d.length + p.length ≤ 1048576) : F_spec_LogRecords 0 ((ba d, ba p, c, ()), ()) = some (recsL d p c) := by
  have c1 : decide (d.length + p.length ≤ maxLen) = true := decide_eq_true (by unfold maxLen; omega)
  unfold F_spec_LogRecords recsL
  simp only [specV_eq c h, Option.bind_some]
  cases hb : logB d p c
  · simp
  · simp only [Bool.not_true, Bool.false_eq_true, if_false, ba_size, c1, if_true, ba_append, g_open_eq (by simp; omega : (d ++ p).length ≤ 4194304), Option.bind_some]
theorem recsI_eq {d p : List UInt8} (c : Int) (h : d.length + p.length ≤ 1048576) : F_impl_LogRecords 0 ((ba d, ba p, c, ()), ()) = some (recsL d p c) := by
  have c1 : decide (d.length + p.length ≤ maxLen) = true := decide_eq_true (by unfold maxLen; omega)
  unfold F_impl_LogRecords recsL
  simp only [implV_eq c h, Option.bind_some]
  cases hb : logB d p c
  · simp
  · simp only [Bool.not_true, Bool.false_eq_true, if_false, ba_size, c1, if_true, ba_append, g_open_eq (by simp; omega : (d ++ p).length ≤ 4194304), Option.bind_some]
structure LogIs (d p : List UInt8) (c : Int) : Prop where
  size : d.length + p.length ≤ 30000
  all : (openL 60 0 (d ++ p)).2 = (d ++ p).length
  durable : (openL 60 0 d).2 = d.length
  count : ((openL 60 0 (d ++ p)).1.length : Int) = c
theorem logB_iff {d p : List UInt8} {c : Int} : logB d p c = true ↔ LogIs d p c := by
  unfold logB
  simp only [Bool.and_eq_true, decide_eq_true_eq, beq_iff_eq]
  constructor
  · rintro ⟨⟨⟨h1, h2⟩, h3⟩, h4⟩
    exact ⟨h1, by simpa using h2, h3, h4⟩
  · rintro ⟨h1, h2, h3, h4⟩
    exact ⟨⟨⟨h1, by simpa using h2⟩, h3⟩, h4⟩
end Go.V.W
set_option linter.unusedVariables false
set_option linter.unusedSimpArgs false
namespace Go.V.W
open Go.Proofs
theorem enc_eq {k : Int} {c r : List UInt8} (h1 : c.length ≤ 1000) (h2 : r.length ≤ 1000) :
    F_spec_EncodeRecord 0 (k, (ba c, ba r, ()), ()) = F_impl_EncodeRecord 0 (k, (ba c, ba r, ()), ()) ∧ ∃ x, F_impl_EncodeRecord 0 (k, (ba c, ba r, ()), ()) = some x := by
  have g1 : g_spec_l1In (k, 0, 59, ()) = g_impl_within (k, 0, 59, ()) := rfl
  have v1 := validS_eq (c := c) (r := r) (by omega) (by omega)
  have v2 := validI_eq (c := c) (r := r) (by omega) (by omega)
  unfold F_spec_EncodeRecord F_impl_EncodeRecord
  simp only [g1, v1, v2, Option.bind_some]
  cases hw : (g_impl_within (k, 0, 59, ())).1
  · simp
  · simp only [Bool.not_true, Bool.false_eq_true, if_false]
    cases hv : validL c r
    · simp
    · have hk2 : 0 ≤ k ∧ k ≤ 59 := by
        unfold g_impl_within at hw
        by_cases h0 : k ≥ 0
        · simp [h0] at hw; omega
        · simp [h0] at hw
      obtain ⟨n, rfl⟩ : ∃ n : Nat, k = n := ⟨k.toNat, by omega⟩
      simp only [Bool.not_true, Bool.false_eq_true, if_false, line_eq (k := n) (by omega) (by omega : c.length ≤ 1048576) (by omega : r.length ≤ 1048576), encode_eq (k := n) (by omega) hv, Option.bind_some]
      exact ⟨trivial, _, rfl⟩
/-- What is read is not long. -/
theorem open_bound : ∀ (n k : Nat) (l : List UInt8), n + k ≤ 1000 → (openL n k l).2 ≤ 406 * (openL n k l).1.length := by
  intro n
  induction n with
  | zero => intro k l h; exact Nat.le_refl _
  | succ n ih =>
    intro k l h
    by_cases hc : (10 : UInt8) ∈ l
    · cases hd : decodeL k (cutA 10 l) with
      | none => rw [open_none hd]; simp
      | some e =>
        rw [open_step hc hd]
        obtain ⟨v1, v2⟩ := decode_of hd
        have hl := lineL_len (k := k) (by omega) v1
        rw [v2] at hl
        have := ih (k + 1) (cutB 10 l) (by omega)
        simp only [List.length_cons]
        simp at hl
        omega
    · rw [open_no (by simpa using hc)]; simp
theorem open_line {n k : Nat} {c r : List UInt8} (hv : validL c r = true) : openL (n + 1) k (lineL k c r) = ([(c, r)], (lineL k c r).length) := by
  obtain ⟨x, hx⟩ : ∃ x, lineL k c r = x ++ [10] := ⟨sealL (textL k c r), rfl⟩
  have hd := decode_hit hv hx
  have hs := line_small hv hx
  have hn : (10 : UInt8) ∉ x := by
    intro hm
    have h0 := (line_text hv hx).1
    rw [h0] at hm
    have hv' := hv
    unfold validL at hv'
    simp only [Bool.and_eq_true, decide_eq_true_eq, printedL, List.all_eq_true] at hv'
    unfold sealL textL at hm
    simp only [List.mem_append, List.mem_singleton] at hm
    rcases hm with ((((((hb | hb) | hb) | hb) | hb) | hb) | hb)
    · exact itoa_not (by omega) (.inl (by decide)) hb
    · revert hb; decide
    · have := (hv'.1.1.1.2 _ hb).1; revert this; decide
    · revert hb; decide
    · have := (hv'.2.1.2 _ hb).1; revert this; decide
    · revert hb; decide
    · exact itoa_not (ck7 _).1 (.inl (by decide)) hb
  have m : (10 : UInt8) ∈ x ++ [10] ++ [] := by simp
  have := open_step (n := n) (k := k) m (e := (c, r)) (by rw [cutA_mid hn]; exact hd)
  rw [cutA_mid hn, cutB_mid hn, open_nil, List.append_nil] at this
  rw [hx, this]
  simp
theorem LogIs.app {d p : List UInt8} {c : Int} (h : LogIs d p c) {cm rp : List UInt8} (hv : validL cm rp = true) (hc : c ≠ 60) :
    LogIs d (p ++ lineL c.toNat cm rp) (c + 1) ∧ (openL 60 0 (d ++ (p ++ lineL c.toNat cm rp))).1 = (openL 60 0 (d ++ p)).1 ++ [(cm, rp)] := by
  have h60 := (open_le 60 0 (d ++ p)).1
  have hcn := h.count
  obtain ⟨k, rfl⟩ : ∃ k : Nat, c = k := ⟨c.toNat, by omega⟩
  have hk : (openL 60 0 (d ++ p)).1.length = k := by omega
  have hb := open_bound 60 0 (d ++ p) (by omega)
  have hal := h.all
  rw [hal, hk] at hb
  have hll := lineL_len (k := k) (by omega) hv
  have e := open_app 60 0 (d ++ p) (lineL k cm rp) h.all
  rw [hk] at e
  obtain ⟨m, hm⟩ : ∃ m, 60 - k = m + 1 := ⟨59 - k, by omega⟩
  rw [hm, Nat.zero_add, open_line hv, List.append_assoc] at e
  simp only [Int.toNat_natCast]
  refine ⟨⟨?_, ?_, h.durable, ?_⟩, by rw [e]⟩
  · simp only [List.length_append] at hb ⊢; omega
  · rw [e]; simp only [List.length_append]; omega
  · rw [e]; simp [hk]
theorem LogIs.sync {d p : List UInt8} {c : Int} (h : LogIs d p c) : LogIs (d ++ p) [] c :=
  ⟨by have := h.size; simpa using this, by rw [List.append_nil]; exact h.all, h.all, by rw [List.append_nil]; exact h.count⟩
theorem law28 : ∀ d, WfD (Kd.tuple ([(K_Su8, false)].map (·.1))) d → ∃ out, F_laws_FnLogs 0 d = some out ∧ (splitT [.bool] [] out).1.1 = true := by
  rintro ⟨code, _⟩ ⟨⟨_, hc⟩, _⟩
  have hb : BytesB code := fun x hx => by
    have := hc x hx
    simp [WfD, Lit.wf, IntKind.min, IntKind.max, IntKind.signed, IntKind.bits] at this
    omega
  suffices h : Ok (F_laws_FnLogs 0 (code, ())) fun r => r.1 = true by
    obtain ⟨r, h1, h2⟩ := h
    exact ⟨r, h1, h2⟩
  unfold F_laws_FnLogs
  simp only
  refine Ok.ite (fun _ => Ok.some rfl) (fun hbig => ?_)
  have hlen : code.length ≤ 65536 := by
    unfold g_laws_vBig at hbig
    have := of_decide_eq_false hbig
    simp only at this
    omega
  refine Ok.bind (drawRecord_ok hb) fun r2 h2 => ?_
  refine Ok.bind (cut_ok hb hlen (by decide) (by decide)) fun r3 h3 => ?_
  refine Ok.bind (drawEncode_ok h3) fun r4 h4 => ?_
  obtain ⟨⟨x2, y2, _⟩, _⟩ := r2
  obtain ⟨c2, rfl⟩ : ∃ d, x2 = ba d := ⟨bl x2, (ba_bl x2).symm⟩
  obtain ⟨q2, rfl⟩ : ∃ d, y2 = ba d := ⟨bl y2, (ba_bl y2).symm⟩
  obtain ⟨k4, ⟨x4, y4, _⟩, _⟩ := r4
  obtain ⟨c4, rfl⟩ : ∃ d, x4 = ba d := ⟨bl x4, (ba_bl x4).symm⟩
  obtain ⟨q4, rfl⟩ : ∃ d, y4 = ba d := ⟨bl y4, (ba_bl y4).symm⟩
  have s2 : c2.length ≤ 10 ∧ q2.length ≤ 10 := by simpa [smallRc, ba_size] using h2
  have s4 : c4.length ≤ 10 ∧ q4.length ≤ 10 := by simpa [smallRc, ba_size] using h4
  obtain ⟨en1, x5, en2⟩ := enc_eq (k := k4) (c := c4) (r := q4) (by omega) (by omega)
  simp only [en1, en2, Option.bind_some]
  refine Ok.bind (cut_ok hb hlen (by decide) (by decide)) fun r7 h7 => ?_
  refine Ok.bind (drawLog_ok h7) fun r8 h8 => ?_
  obtain ⟨⟨a8, b8, n8, _⟩, _⟩ := r8
  obtain ⟨d8, rfl⟩ : ∃ d, a8 = ba d := ⟨bl a8, (ba_bl a8).symm⟩
  obtain ⟨p8, rfl⟩ : ∃ d, b8 = ba d := ⟨bl b8, (ba_bl b8).symm⟩
  have s8 : d8.length + p8.length ≤ 20000 := by simpa [szL, ba_size] using h8
  refine Ok.bind (cut_ok hb hlen (by decide) (by decide)) fun r9 h9 => ?_
  refine Ok.bind (drawAppend_ok h9) fun r10 h10 => ?_
  obtain ⟨⟨a, b, c, _⟩, ⟨x, y, _⟩, _⟩ := r10
  obtain ⟨d, rfl⟩ : ∃ d, a = ba d := ⟨bl a, (ba_bl a).symm⟩
  obtain ⟨p, rfl⟩ : ∃ d, b = ba d := ⟨bl b, (ba_bl b).symm⟩
  obtain ⟨cm, rfl⟩ : ∃ d, x = ba d := ⟨bl x, (ba_bl x).symm⟩
  obtain ⟨rp, rfl⟩ : ∃ d, y = ba d := ⟨bl y, (ba_bl y).symm⟩
  have s10 : d.length + p.length ≤ 60000 ∧ cm.length + rp.length ≤ 1000 := by
    have := h10
    unfold P_drawAppend at this
    simpa [ba_size] using this
  have g1 : d.length + p.length ≤ 1048576 := by omega
  have g2 : cm.length + rp.length ≤ 1048576 := by omega
  have v1 : F_spec_IsValidRecord 0 ((ba c2, ba q2, ()), ()) = some (validL c2 q2, ()) := by
    unfold F_spec_IsValidRecord
    simp only [validS_eq (c := c2) (r := q2) (by omega) (by omega), Option.bind_some]
  have v2 := validI_eq (c := c2) (r := q2) (by omega) (by omega)
  have v3 : F_spec_IsValidLog 0 ((ba d8, ba p8, n8, ()), ()) = some (logB d8 p8 n8, ()) := by
    unfold F_spec_IsValidLog
    simp only [specV_eq n8 (by omega : d8.length + p8.length ≤ 1048576), Option.bind_some]
  have v4 := implV_eq n8 (by omega : d8.length + p8.length ≤ 1048576)
  have okv : ∀ l : List Rc, l.length ≤ 60 → G_vRecords (l, l, ()) = some (true, ()) := fun l hl => by
    unfold G_vRecords
    have : okL l = true := decide_eq_true (by unfold lim; omega)
    simp only [this, if_true, decide_true]
  have h60 : (recsL d p c).1.length ≤ 60 := by
    unfold recsL
    split
    · have := (open_le 60 0 (d ++ p)).1
      simpa using this
    · simp
  simp only [appI_eq g1 g2, appS_eq g1 g2, v1, v2, v3, v4, Option.bind_some, beq_self_eq_true, seq_self, Bool.not_true, Bool.false_eq_true, if_false, eqB_lg, bne_self_eq_false, syncI_eq g1, syncS_eq g1, recsI_eq c g1, recsS_eq c g1, okv _ h60]
  -- what the log of the synced one says
  have hsync : Ok (F_impl_LogRecords 0 ((syncL d p c).1, ())) fun r => r.1.length ≤ 60 ∧ ((syncL d p c).2.1 = true → r.1 = (recsL d p c).1) := by
    cases hl : logB d p c with
    | false =>
      have e : (syncL d p c) = ((ba [], ba [], 0, ()), false, ()) := by unfold syncL; rw [hl]; rfl
      rw [e]
      refine ⟨_, recsI_eq 0 (by simp), ?_, fun h => by cases h⟩
      unfold recsL
      split
      · simp [open_nil]
      · simp
    | true =>
      have e : (syncL d p c) = ((ba (d ++ p), ba [], c, ()), true, ()) := by unfold syncL; rw [hl]; rfl
      have e2 : recsL (d ++ p) [] c = recsL d p c := by
        unfold recsL
        rw [hl, logB_iff.2 (logB_iff.1 hl).sync, List.append_nil]
      rw [e]
      refine ⟨_, recsI_eq c (by simpa using g1), ?_, fun _ => ?_⟩
      · rw [e2]; exact h60
      · rw [e2]
  have last : Ok (if ((appL d p c cm rp).2.1 != (0 : Int)) = true then some (eqB K_Pssiq (appL d p c cm rp).1 (ba d, ba p, c, ()), ())
      else (F_impl_LogRecords 0 ((appL d p c cm rp).1, ())).bind fun r24 => (F_impl_IsValidLog 0 ((appL d p c cm rp).1, ())).bind fun r25 =>
        if r25.1 = true then
          if ((List.length r24.1 : Int) == IntKind.wrap .i64 ((List.length (recsL d p c).1 : Int) + 1)) = true then
            if (decide ((0 : Int) ≤ 0) && decide ((0 : Int) ≤ (List.length (recsL d p c).1 : Int)) && decide ((List.length (recsL d p c).1 : Int) ≤ (List.length r24.1 : Int))) = true then
              (G_vRecords (sub_ r24.1 (0 : Int) (List.length (recsL d p c).1 : Int), (recsL d p c).1, ())).bind fun r28 =>
                if r28.1 = true then
                  if idxIn (List.length (recsL d p c).1 : Int) (List.length r24.1) = true then some (eqB K_Pssq (at_ K_Pssq r24.1 (List.length (recsL d p c).1 : Int).toNat) (ba cm, ba rp, ()), ()) else none
                else some (false, ())
            else none
          else some (false, ())
        else some (false, ())) fun r => r.1 = true := by
    cases hv : (logB d p c && validL cm rp) with
    | false =>
      have e : appL d p c cm rp = ((ba d, ba p, c, ()), 1, ()) := by unfold appL; rw [hv]; rfl
      rw [e]
      exact Ok.pos rfl (Ok.some (eqB_lg _))
    | true =>
      by_cases hc60 : c = 60
      · have e : appL d p c cm rp = ((ba d, ba p, c, ()), 2, ()) := by unfold appL; rw [hv, if_pos rfl, if_pos hc60]
        rw [e]
        exact Ok.pos rfl (Ok.some (eqB_lg _))
      · have e : appL d p c cm rp = ((ba d, ba (p ++ lineL c.toNat cm rp), c + 1, ()), 0, ()) := by unfold appL; rw [hv, if_pos rfl, if_neg hc60]
        simp only [Bool.and_eq_true] at hv
        have L := logB_iff.1 hv.1
        obtain ⟨A1, A2⟩ := L.app hv.2 hc60
        have hsz := A1.size
        have hB := logB_iff.2 A1
        have r1 : recsL d p c = ((openL 60 0 (d ++ p)).1.map rcOf, true, ()) := by unfold recsL; rw [hv.1]; rfl
        have r2 : recsL d (p ++ lineL c.toNat cm rp) (c + 1) = ((openL 60 0 (d ++ p)).1.map rcOf ++ [(ba cm, ba rp, ())], true, ()) := by
          unfold recsL
          rw [hB, if_pos rfl, A2, List.map_append]
          rfl
        have hz : d.length + (p ++ lineL c.toNat cm rp).length ≤ 1048576 := by omega
        rw [e]
        have c0 : (((0 : Int) != 0) = true) = False := by simp
        simp only [c0, if_false, recsI_eq (c + 1) hz, implV_eq (c + 1) hz, Option.bind_some, hB, if_true, r1, r2]
        generalize (openL 60 0 (d ++ p)).1.map rcOf = R at r1
        have hR : R.length ≤ 60 := by rw [r1] at h60; exact h60
        have w1 : IntKind.wrap .i64 ((R.length : Int) + 1) = (R.length : Int) + 1 := wrap_in _ (by omega) (by omega)
        have hs : sub_ (R ++ [(ba cm, ba rp, ())]) (0 : Int) (R.length : Int) = R := by unfold sub_; simp
        rw [w1, hs]
        refine Ok.pos (by simp) (Ok.pos (by simp; omega) ?_)
        simp only [okv R hR, Option.bind_some, if_true]
        refine Ok.pos (idxIn_nat (by simp)) (Ok.some ?_)
        have hlt : R.length < (R ++ [((ba cm, ba rp, ()) : Rc)]).length := by simp
        simp only [Int.toNat_natCast, eqB_rc]
        rw [at_get (e := K_Pssq) hlt]
        simp
  refine Ok.bind hsync fun r22 h22 => ?_
  obtain ⟨k1, k2⟩ := h22
  refine Ok.ite (fun hf => ?_) (fun _ => last)
  rw [k2 hf, okv _ h60]
  simp only [Option.bind_some, Bool.not_true, Bool.false_eq_true, if_false]
  exact last
end Go.V.W
namespace Go.V.W
open Go.Proofs Go.Shelf Go.RowKit
-- import Derived.Shelf.Lays
-- import Derived.Shelf.LaysM
-- import Derived.Test.XvLib3
-- import Derived.Shelf.Strings.IndexAnyAll
-- import Derived.Shelf.Strings.Cut
-- import Derived.Shelf.Strings.Search3
-- import Derived.Shelf.Strconv.Itoa3
def lays150_ren : Go.Shelf.Ren :=
{
  f := fun x =>
    match x with
    | 150 => 76
    | 153 => 82
    | 152 => 86
    | 226 => 87
    | 227 => 88
    | 228 => 89
    | 137 => 98
    | 119 => 99
    | 224 => 96
    | 225 => 95
    | 217 => 94
    | 266 => 105
    | n => n,
  t := fun x =>
    match x with
    | 9 => 9
    | 4 => 4
    | 3 => 3
    | 5 => 5
    | 21 => 21
    | 117 => 102
    | 116 => 101
    | 0 => 0
    | 46 => 96
    | 124 => 112
    | n => n,
  g := fun x =>
    x }
set_option maxRecDepth 1000000 in
theorem lays150 : Go.Proofs.Lays.n150 Go.Proofs.Tryd.prog lays150_ren :=
{ mixed := by kernel_rfl,
  f119 := (Go.Proofs.Tryd.func99).trans (congrArg some (by kernel_rfl)),
  f137 := (Go.Proofs.Tryd.func98).trans (congrArg some (by kernel_rfl)),
  f150 := (Go.Proofs.Tryd.func76).trans (congrArg some (by kernel_rfl)),
  f152 := (Go.Proofs.Tryd.func86).trans (congrArg some (by kernel_rfl)),
  f153 := (Go.Proofs.Tryd.func82).trans (congrArg some (by kernel_rfl)),
  f217 := (Go.Proofs.Tryd.func94).trans (congrArg some (by kernel_rfl)),
  f224 := (Go.Proofs.Tryd.func96).trans (congrArg some (by kernel_rfl)),
  f225 := (Go.Proofs.Tryd.func95).trans (congrArg some (by kernel_rfl)),
  f226 := (Go.Proofs.Tryd.func87).trans (congrArg some (by kernel_rfl)),
  f227 := (Go.Proofs.Tryd.func88).trans (congrArg some (by kernel_rfl)),
  f228 := (Go.Proofs.Tryd.func89).trans (congrArg some (by kernel_rfl)),
  f266 := (Go.Proofs.Tryd.func105).trans (congrArg some (by kernel_rfl)),
  t0 := Go.Proofs.Tryd.underlying0,
  a0 := Go.Proofs.Tryd.isAgg0,
  z0 := Go.Proofs.Tryd.sizeOf0,
  v0 := Go.Proofs.Tryd.zeroValue0,
  t3 := Go.Proofs.Tryd.underlying3,
  a3 := Go.Proofs.Tryd.isAgg3,
  z3 := Go.Proofs.Tryd.sizeOf3,
  v3 := Go.Proofs.Tryd.zeroValue3,
  t4 := Go.Proofs.Tryd.underlying4,
  a4 := Go.Proofs.Tryd.isAgg4,
  z4 := Go.Proofs.Tryd.sizeOf4,
  v4 := Go.Proofs.Tryd.zeroValue4,
  t5 := Go.Proofs.Tryd.underlying5,
  a5 := Go.Proofs.Tryd.isAgg5,
  z5 := Go.Proofs.Tryd.sizeOf5,
  v5 := Go.Proofs.Tryd.zeroValue5,
  t9 := Go.Proofs.Tryd.underlying9,
  a9 := Go.Proofs.Tryd.isAgg9,
  z9 := Go.Proofs.Tryd.sizeOf9,
  v9 := Go.Proofs.Tryd.zeroValue9,
  t21 := Go.Proofs.Tryd.underlying21,
  a21 := Go.Proofs.Tryd.isAgg21,
  z21 := Go.Proofs.Tryd.sizeOf21,
  v21 := Go.Proofs.Tryd.zeroValue21,
  t46 := Go.Proofs.Tryd.underlying96,
  a46 := Go.Proofs.Tryd.isAgg96,
  z46 := Go.Proofs.Tryd.sizeOf96,
  v46 := Go.Proofs.Tryd.zeroValue96,
  t116 := Go.Proofs.Tryd.underlying101,
  a116 := Go.Proofs.Tryd.isAgg101,
  z116 := Go.Proofs.Tryd.sizeOf101,
  t117 := Go.Proofs.Tryd.underlying102,
  a117 := Go.Proofs.Tryd.isAgg102,
  z117 := Go.Proofs.Tryd.sizeOf102,
  v117 := Go.Proofs.Tryd.zeroValue102,
  t124 := Go.Proofs.Tryd.underlying112,
  a124 := Go.Proofs.Tryd.isAgg112,
  z124 := Go.Proofs.Tryd.sizeOf112,
  v124 := Go.Proofs.Tryd.zeroValue112 }
def lays145_ren : Go.Shelf.Ren :=
{
  f := fun x =>
    match x with
    | 145 => 72
    | 220 => 81
    | 219 => 85
    | 217 => 94
    | 225 => 95
    | 224 => 96
    | 267 => 97
    | 266 => 105
    | 314 => 106
    | n => n,
  t := fun x =>
    match x with
    | 9 => 9
    | 4 => 4
    | 59 => 91
    | 3 => 3
    | 5 => 5
    | 46 => 96
    | 146 => 118
    | 51 => 115
    | n => n,
  g := fun x =>
    match x with
    | 1 => 0
    | n => n }
set_option maxRecDepth 1000000 in
theorem lays145 : Go.Proofs.Lays.n145 Go.Proofs.Tryd.prog lays145_ren :=
{ mixed := by kernel_rfl,
  f145 := (Go.Proofs.Tryd.func72).trans (congrArg some (by kernel_rfl)),
  f217 := (Go.Proofs.Tryd.func94).trans (congrArg some (by kernel_rfl)),
  f219 := (Go.Proofs.Tryd.func85).trans (congrArg some (by kernel_rfl)),
  f220 := (Go.Proofs.Tryd.func81).trans (congrArg some (by kernel_rfl)),
  f224 := (Go.Proofs.Tryd.func96).trans (congrArg some (by kernel_rfl)),
  f225 := (Go.Proofs.Tryd.func95).trans (congrArg some (by kernel_rfl)),
  f266 := (Go.Proofs.Tryd.func105).trans (congrArg some (by kernel_rfl)),
  f267 := (Go.Proofs.Tryd.func97).trans (congrArg some (by kernel_rfl)),
  f314 := (Go.Proofs.Tryd.func106).trans (congrArg some (by kernel_rfl)),
  t3 := Go.Proofs.Tryd.underlying3,
  a3 := Go.Proofs.Tryd.isAgg3,
  z3 := Go.Proofs.Tryd.sizeOf3,
  v3 := Go.Proofs.Tryd.zeroValue3,
  t4 := Go.Proofs.Tryd.underlying4,
  a4 := Go.Proofs.Tryd.isAgg4,
  z4 := Go.Proofs.Tryd.sizeOf4,
  v4 := Go.Proofs.Tryd.zeroValue4,
  t5 := Go.Proofs.Tryd.underlying5,
  a5 := Go.Proofs.Tryd.isAgg5,
  z5 := Go.Proofs.Tryd.sizeOf5,
  v5 := Go.Proofs.Tryd.zeroValue5,
  t9 := Go.Proofs.Tryd.underlying9,
  a9 := Go.Proofs.Tryd.isAgg9,
  z9 := Go.Proofs.Tryd.sizeOf9,
  v9 := Go.Proofs.Tryd.zeroValue9,
  t46 := Go.Proofs.Tryd.underlying96,
  a46 := Go.Proofs.Tryd.isAgg96,
  z46 := Go.Proofs.Tryd.sizeOf96,
  v46 := Go.Proofs.Tryd.zeroValue96,
  t51 := Go.Proofs.Tryd.underlying115,
  a51 := Go.Proofs.Tryd.isAgg115,
  z51 := Go.Proofs.Tryd.sizeOf115,
  v51 := Go.Proofs.Tryd.zeroValue115,
  t59 := Go.Proofs.Tryd.underlying91,
  a59 := Go.Proofs.Tryd.isAgg91,
  z59 := Go.Proofs.Tryd.sizeOf91,
  v59 := Go.Proofs.Tryd.zeroValue91,
  t146 := Go.Proofs.Tryd.underlying118,
  a146 := Go.Proofs.Tryd.isAgg118,
  z146 := Go.Proofs.Tryd.sizeOf118,
  v146 := Go.Proofs.Tryd.zeroValue118,
  g1 := by kernel_rfl }
def lays144_ren : Go.Shelf.Ren :=
{
  f := fun x =>
    match x with
    | 144 => 78
    | 143 => 83
    | 219 => 85
    | 217 => 94
    | 225 => 95
    | 224 => 96
    | 267 => 97
    | 266 => 105
    | 314 => 106
    | n => n,
  t := fun x =>
    match x with
    | 9 => 9
    | 4 => 4
    | 3 => 3
    | 5 => 5
    | 46 => 96
    | 146 => 118
    | 51 => 115
    | n => n,
  g := fun x =>
    match x with
    | 1 => 0
    | n => n }
set_option maxRecDepth 1000000 in
theorem lays144 : Go.Proofs.Lays.n144 Go.Proofs.Tryd.prog lays144_ren :=
{ mixed := by kernel_rfl,
  f143 := (Go.Proofs.Tryd.func83).trans (congrArg some (by kernel_rfl)),
  f144 := (Go.Proofs.Tryd.func78).trans (congrArg some (by kernel_rfl)),
  f217 := (Go.Proofs.Tryd.func94).trans (congrArg some (by kernel_rfl)),
  f219 := (Go.Proofs.Tryd.func85).trans (congrArg some (by kernel_rfl)),
  f224 := (Go.Proofs.Tryd.func96).trans (congrArg some (by kernel_rfl)),
  f225 := (Go.Proofs.Tryd.func95).trans (congrArg some (by kernel_rfl)),
  f266 := (Go.Proofs.Tryd.func105).trans (congrArg some (by kernel_rfl)),
  f267 := (Go.Proofs.Tryd.func97).trans (congrArg some (by kernel_rfl)),
  f314 := (Go.Proofs.Tryd.func106).trans (congrArg some (by kernel_rfl)),
  t3 := Go.Proofs.Tryd.underlying3,
  a3 := Go.Proofs.Tryd.isAgg3,
  z3 := Go.Proofs.Tryd.sizeOf3,
  v3 := Go.Proofs.Tryd.zeroValue3,
  t4 := Go.Proofs.Tryd.underlying4,
  a4 := Go.Proofs.Tryd.isAgg4,
  z4 := Go.Proofs.Tryd.sizeOf4,
  v4 := Go.Proofs.Tryd.zeroValue4,
  t5 := Go.Proofs.Tryd.underlying5,
  a5 := Go.Proofs.Tryd.isAgg5,
  z5 := Go.Proofs.Tryd.sizeOf5,
  v5 := Go.Proofs.Tryd.zeroValue5,
  t9 := Go.Proofs.Tryd.underlying9,
  a9 := Go.Proofs.Tryd.isAgg9,
  z9 := Go.Proofs.Tryd.sizeOf9,
  v9 := Go.Proofs.Tryd.zeroValue9,
  t46 := Go.Proofs.Tryd.underlying96,
  a46 := Go.Proofs.Tryd.isAgg96,
  z46 := Go.Proofs.Tryd.sizeOf96,
  v46 := Go.Proofs.Tryd.zeroValue96,
  t51 := Go.Proofs.Tryd.underlying115,
  a51 := Go.Proofs.Tryd.isAgg115,
  z51 := Go.Proofs.Tryd.sizeOf115,
  v51 := Go.Proofs.Tryd.zeroValue115,
  t146 := Go.Proofs.Tryd.underlying118,
  a146 := Go.Proofs.Tryd.isAgg118,
  z146 := Go.Proofs.Tryd.sizeOf118,
  v146 := Go.Proofs.Tryd.zeroValue118,
  g1 := by kernel_rfl }
def lays171_ren : Go.Shelf.Ren :=
{
  f := fun x =>
    match x with
    | 171 => 69
    | 243 => 80
    | 246 => 84
    | 283 => 90
    | 284 => 91
    | 285 => 92
    | 286 => 93
    | 129 => 101
    | 317 => 100
    | 318 => 102
    | 319 => 103
    | 320 => 104
    | 337 => 107
    | 338 => 108
    | n => n,
  t := fun x =>
    match x with
    | 3 => 3
    | 9 => 9
    | 2 => 2
    | 4 => 4
    | 171 => 105
    | 0 => 0
    | 53 => 72
    | 37 => 53
    | 5 => 5
    | 173 => 108
    | 212 => 114
    | 51 => 115
    | 20 => 20
    | 213 => 116
    | 46 => 96
    | 232 => 121
    | 233 => 122
    | n => n,
  g := fun x =>
    match x with
    | 17 => 1
    | 18 => 2
    | 19 => 3
    | n => n }
set_option maxRecDepth 1000000 in
theorem lays171 : Go.Proofs.LaysM.n171 Go.Proofs.Tryd.prog lays171_ren :=
{ mixed := by kernel_rfl,
  f129 := (Go.Proofs.Tryd.func101).trans (congrArg some (by kernel_rfl)),
  f171 := (Go.Proofs.Tryd.func69).trans (congrArg some (by kernel_rfl)),
  f243 := (Go.Proofs.Tryd.func80).trans (congrArg some (by kernel_rfl)),
  f246 := (Go.Proofs.Tryd.func84).trans (congrArg some (by kernel_rfl)),
  f283 := (Go.Proofs.Tryd.func90).trans (congrArg some (by kernel_rfl)),
  f284 := (Go.Proofs.Tryd.func91).trans (congrArg some (by kernel_rfl)),
  f285 := (Go.Proofs.Tryd.func92).trans (congrArg some (by kernel_rfl)),
  f286 := (Go.Proofs.Tryd.func93).trans (congrArg some (by kernel_rfl)),
  f317 := (Go.Proofs.Tryd.func100).trans (congrArg some (by kernel_rfl)),
  f318 := (Go.Proofs.Tryd.func102).trans (congrArg some (by kernel_rfl)),
  f319 := (Go.Proofs.Tryd.func103).trans (congrArg some (by kernel_rfl)),
  f320 := (Go.Proofs.Tryd.func104).trans (congrArg some (by kernel_rfl)),
  f337 := (Go.Proofs.Tryd.func107).trans (congrArg some (by kernel_rfl)),
  f338 := (Go.Proofs.Tryd.func108).trans (congrArg some (by kernel_rfl)),
  t0 := Go.Proofs.Tryd.underlying0,
  a0 := Go.Proofs.Tryd.isAgg0,
  z0 := Go.Proofs.Tryd.sizeOf0,
  v0 := Go.Proofs.Tryd.zeroValue0,
  t2 := Go.Proofs.Tryd.underlying2,
  a2 := Go.Proofs.Tryd.isAgg2,
  z2 := Go.Proofs.Tryd.sizeOf2,
  v2 := Go.Proofs.Tryd.zeroValue2,
  t3 := Go.Proofs.Tryd.underlying3,
  a3 := Go.Proofs.Tryd.isAgg3,
  z3 := Go.Proofs.Tryd.sizeOf3,
  v3 := Go.Proofs.Tryd.zeroValue3,
  t4 := Go.Proofs.Tryd.underlying4,
  a4 := Go.Proofs.Tryd.isAgg4,
  z4 := Go.Proofs.Tryd.sizeOf4,
  v4 := Go.Proofs.Tryd.zeroValue4,
  t5 := Go.Proofs.Tryd.underlying5,
  a5 := Go.Proofs.Tryd.isAgg5,
  z5 := Go.Proofs.Tryd.sizeOf5,
  v5 := Go.Proofs.Tryd.zeroValue5,
  t9 := Go.Proofs.Tryd.underlying9,
  a9 := Go.Proofs.Tryd.isAgg9,
  z9 := Go.Proofs.Tryd.sizeOf9,
  v9 := Go.Proofs.Tryd.zeroValue9,
  t20 := Go.Proofs.Tryd.underlying20,
  a20 := Go.Proofs.Tryd.isAgg20,
  z20 := Go.Proofs.Tryd.sizeOf20,
  v20 := Go.Proofs.Tryd.zeroValue20,
  t37 := Go.Proofs.Tryd.underlying53,
  a37 := Go.Proofs.Tryd.isAgg53,
  z37 := Go.Proofs.Tryd.sizeOf53,
  v37 := Go.Proofs.Tryd.zeroValue53,
  t46 := Go.Proofs.Tryd.underlying96,
  a46 := Go.Proofs.Tryd.isAgg96,
  z46 := Go.Proofs.Tryd.sizeOf96,
  v46 := Go.Proofs.Tryd.zeroValue96,
  t51 := Go.Proofs.Tryd.underlying115,
  a51 := Go.Proofs.Tryd.isAgg115,
  z51 := Go.Proofs.Tryd.sizeOf115,
  v51 := Go.Proofs.Tryd.zeroValue115,
  t53 := Go.Proofs.Tryd.underlying72,
  a53 := Go.Proofs.Tryd.isAgg72,
  z53 := Go.Proofs.Tryd.sizeOf72,
  v53 := Go.Proofs.Tryd.zeroValue72,
  t171 := Go.Proofs.Tryd.underlying105,
  a171 := Go.Proofs.Tryd.isAgg105,
  z171 := Go.Proofs.Tryd.sizeOf105,
  v171 := Go.Proofs.Tryd.zeroValue105,
  t173 := Go.Proofs.Tryd.underlying108,
  a173 := Go.Proofs.Tryd.isAgg108,
  z173 := Go.Proofs.Tryd.sizeOf108,
  v173 := Go.Proofs.Tryd.zeroValue108,
  t212 := Go.Proofs.Tryd.underlying114,
  a212 := Go.Proofs.Tryd.isAgg114,
  z212 := Go.Proofs.Tryd.sizeOf114,
  v212 := Go.Proofs.Tryd.zeroValue114,
  t213 := Go.Proofs.Tryd.underlying116,
  a213 := Go.Proofs.Tryd.isAgg116,
  z213 := Go.Proofs.Tryd.sizeOf116,
  t232 := Go.Proofs.Tryd.underlying121,
  a232 := Go.Proofs.Tryd.isAgg121,
  z232 := Go.Proofs.Tryd.sizeOf121,
  v232 := Go.Proofs.Tryd.zeroValue121,
  t233 := Go.Proofs.Tryd.underlying122,
  a233 := Go.Proofs.Tryd.isAgg122,
  z233 := Go.Proofs.Tryd.sizeOf122,
  v233 := Go.Proofs.Tryd.zeroValue122,
  g17 := by kernel_rfl,
  g18 := by kernel_rfl,
  g19 := by kernel_rfl,
  i0 := by kernel_rfl,
  i2 := by kernel_rfl,
  i3 := by kernel_rfl,
  i4 := by kernel_rfl,
  i5 := by kernel_rfl,
  i9 := by kernel_rfl,
  i20 := by kernel_rfl,
  i37 := by kernel_rfl,
  i46 := by kernel_rfl,
  i51 := by kernel_rfl,
  i53 := by kernel_rfl,
  i171 := by kernel_rfl,
  i173 := by kernel_rfl,
  i212 := by kernel_rfl,
  i232 := by kernel_rfl,
  i233 := by kernel_rfl,
  m17 := by kernel_rfl,
  m18 := by kernel_rfl,
  m19 := by kernel_rfl }
theorem tab : TabOk Tryd.prog (assoc tks) (assoc ars) := tab_of (by kernel_rfl)
theorem mixed : Tryd.prog.follows .mixedOrders = true := by kernel_rfl
theorem set150 : (Tryd.prog.info? (lays150_ren.t 116)).map (fun i => (i.zero, i.size)) = some (some (.agg (Array.replicate 256 (.bool false))), 256) := by kernel_rfl
theorem ascii_get {s : ByteArray} (h : asciiB s = true) : ∀ (j : Nat) b, s.data.toList[j]? = some b → b.toNat < 128 := fun j b hb => of_decide_eq_true (List.all_eq_true.1 h b (List.mem_of_getElem? hb))
theorem C_strings_ContainsAny : Contract Tryd.prog 76 S_strings_ContainsAny :=
  con_ssb (pre := fun s c => asciiB s = true ∧ asciiB c = true ∧ smallB s = true ∧ smallB c = true) (B := fun s c => Lib.containsAny s.data.toList c.data.toList) (enters_of Tryd.func76 (by kernel_rfl) rfl)
    (fun s c w h => Any.strings_ContainsAny_laid lays150 set150 s c w (of_decide_eq_true h.2.2.1) (of_decide_eq_true h.2.2.2) (ascii_get h.1) (ascii_get h.2.1))
    (fun d r h => by
      unfold G_containsAny at h
      split at h
      · rename_i hc
        simp only [Bool.and_eq_true] at hc
        exact ⟨⟨hc.1.1.1, hc.1.1.2, hc.1.2, hc.2⟩, (Option.some.inj h).symm⟩
      · cases h)
theorem C_strings_Cut : Contract Tryd.prog 72 S_strings_Cut :=
  con_sssbM (g := lays145_ren.g 1) (by kernel_rfl) (pre := fun s _ => smallB s = true) (B := fun s c => (ba (Lib.cut (bl s) (bl c)).1, ba (Lib.cut (bl s) (bl c)).2.1, (Lib.cut (bl s) (bl c)).2.2)) (enters_of Tryd.func72 (by kernel_rfl) rfl)
    (fun s c m w h hm => (Any.strings_Cut lays145 s c m w (of_decide_eq_true h) hm).mono fun e w' he => by
      obtain ⟨h1, n, rfl⟩ := he
      exact ⟨h1, below_drewN2 w n⟩)
    (fun d r h => by
      unfold G_cut at h
      split at h
      · rename_i hc
        exact ⟨hc, (Option.some.inj h).symm⟩
      · cases h)
theorem C_strings_Contains : Contract Tryd.prog 78 S_strings_Contains :=
  con_ssbM (g := lays144_ren.g 1) (by kernel_rfl) (pre := fun s _ => smallB s = true) (B := fun s c => Lib.contains (bl s) (bl c)) (enters_of Tryd.func78 (by kernel_rfl) rfl)
    (fun s c m w h hm => (Any.strings_Contains lays144 s c m w (of_decide_eq_true h) hm).mono fun e w' he => by
      obtain ⟨h1, rfl⟩ := he
      exact ⟨h1, Below.refl _ _⟩)
    (fun d r h => by
      unfold G_contains at h
      split at h
      · rename_i hc
        exact ⟨hc, (Option.some.inj h).symm⟩
      · cases h)
theorem pow10_cells : (pow10s.map fun z => Value.int .u64 z).toArray = (Lib.pow10Tab.map fun z => Value.int .u64 z).toArray := by rw [show pow10s = Lib.pow10Tab by decide]
theorem C_strconv_Itoa : Contract Tryd.prog 69 S_strconv_Itoa :=
  con_itoa (g := lays171_ren.g 17) (by kernel_rfl) (B := fun n => ba (Lib.itoa n)) (enters_of Tryd.func69 (by kernel_rfl) rfl)
    (fun n w h0 h1 hv => (Any.strconv_Itoa lays171 n h0 h1 w (hv.trans (congrArg some pow10_cells))).mono fun e w' he => by
      obtain ⟨h1, k, os, rfl⟩ := he
      exact ⟨h1, below_grow2 w k os⟩)
    (fun d r h => by
      unfold G_itoa at h
      split at h
      · rename_i hc
        simp only [Bool.and_eq_true, decide_eq_true_eq] at hc
        exact ⟨hc, (Option.some.inj h).symm⟩
      · cases h)
theorem C_laws_vBig_raw (N : Nat) : Contract Tryd.prog 34 ⟨[(K_Su8, false)], [.bool], true, F_laws_vBig N⟩ :=
  have E : Env Tryd.prog Γ_laws_vBig := env_of tab trivial
  con_of (Pc := []) E rfl mixed Tryd.func34 (by kernel_rfl) (by kernel_rfl) (by kernel_rfl) (by kernel_rfl) (fun A hA => trivial) (F_laws_vBig_ok N)
theorem C_laws_vBig : Contract Tryd.prog 34 S_laws_vBig := Contract.less (fun N : Nat => F_laws_vBig N) C_laws_vBig_raw (fun d r h => ⟨0, (F_laws_vBig_tot 0 d).trans h⟩)
theorem C_spec_l1Cur_next_raw (N : Nat) : Contract Tryd.prog 74 ⟨[(K_BPSu8iu64q, true)], [I], true, F_spec_l1Cur_next N⟩ :=
  have E : Env Tryd.prog Γ_spec_l1Cur_next := env_of tab trivial
  con_of (Pc := []) E rfl mixed Tryd.func74 (by kernel_rfl) (by kernel_rfl) (by kernel_rfl) (by kernel_rfl) (fun A hA => trivial) (F_spec_l1Cur_next_ok N)
theorem C_spec_l1Cur_next : Contract Tryd.prog 74 S_spec_l1Cur_next := C_spec_l1Cur_next_raw 0
theorem C_spec_l1Cur_pick_raw (N : Nat) : Contract Tryd.prog 56 ⟨[(K_BPSu8iu64q, true), (I, false)], [I], true, F_spec_l1Cur_pick N⟩ :=
  have E : Env Tryd.prog Γ_spec_l1Cur_pick := env_of tab ⟨C_spec_l1Cur_next, trivial⟩
  con_of (Pc := []) E rfl mixed Tryd.func56 (by kernel_rfl) (by kernel_rfl) (by kernel_rfl) (by kernel_rfl) (fun A hA => trivial) (F_spec_l1Cur_pick_ok N)
theorem C_spec_l1Cur_pick : Contract Tryd.prog 56 S_spec_l1Cur_pick := C_spec_l1Cur_pick_raw 0
theorem C_spec_l1Cur_of_raw (N : Nat) : Contract Tryd.prog 75 ⟨[(K_BPSu8iu64q, true), (K_Ss, false)], [.str], true, F_spec_l1Cur_of N⟩ :=
  have E : Env Tryd.prog Γ_spec_l1Cur_of := env_of tab ⟨C_spec_l1Cur_pick, trivial⟩
  con_of (Pc := []) E rfl mixed Tryd.func75 (by kernel_rfl) (by kernel_rfl) (by kernel_rfl) (by kernel_rfl) (fun A hA => trivial) (F_spec_l1Cur_of_ok N)
theorem C_spec_l1Cur_of : Contract Tryd.prog 75 S_spec_l1Cur_of := C_spec_l1Cur_of_raw 0
theorem C_spec_l1Cur_logRecord_raw (N : Nat) : Contract Tryd.prog 60 ⟨[(K_BPSu8iu64q, true)], [K_Pssq], true, F_spec_l1Cur_logRecord N⟩ :=
  have E : Env Tryd.prog Γ_spec_l1Cur_logRecord := env_of tab ⟨C_spec_l1Cur_pick, ⟨C_spec_l1Cur_of, trivial⟩⟩
  con_of (Pc := []) E rfl mixed Tryd.func60 (by kernel_rfl) (by kernel_rfl) (by kernel_rfl) (by kernel_rfl) (fun A hA => trivial) (F_spec_l1Cur_logRecord_ok N)
theorem C_spec_l1Cur_logRecord : Contract Tryd.prog 60 S_spec_l1Cur_logRecord := C_spec_l1Cur_logRecord_raw 0
theorem C_spec_DrawIsValidRecord_raw (N : Nat) : Contract Tryd.prog 39 ⟨[(K_Su8, false)], [K_Pssq], true, F_spec_DrawIsValidRecord N⟩ :=
  have E : Env Tryd.prog Γ_spec_DrawIsValidRecord := env_of tab ⟨C_spec_l1Cur_logRecord, trivial⟩
  con_of (Pc := []) E rfl mixed Tryd.func39 (by kernel_rfl) (by kernel_rfl) (by kernel_rfl) (by kernel_rfl) (fun A hA => trivial) (F_spec_DrawIsValidRecord_ok N)
theorem C_spec_DrawIsValidRecord : Contract Tryd.prog 39 S_spec_DrawIsValidRecord := C_spec_DrawIsValidRecord_raw 0
theorem C_laws_vCut_raw (N : Nat) : Contract Tryd.prog 37 ⟨[(K_Su8, false), (I, false)], [K_Su8], true, F_laws_vCut N⟩ :=
  have E : Env Tryd.prog Γ_laws_vCut := env_of tab trivial
  con_of (Pc := []) E rfl mixed Tryd.func37 (by kernel_rfl) (by kernel_rfl) (by kernel_rfl) (by kernel_rfl) (fun A hA => trivial) (F_laws_vCut_ok N)
theorem C_laws_vCut : Contract Tryd.prog 37 S_laws_vCut := C_laws_vCut_raw 0
theorem C_spec_l1Cur_among_raw (N : Nat) : Contract Tryd.prog 61 ⟨[(K_BPSu8iu64q, true), (K_Si, false)], [I], true, F_spec_l1Cur_among N⟩ :=
  have E : Env Tryd.prog Γ_spec_l1Cur_among := env_of tab ⟨C_spec_l1Cur_pick, trivial⟩
  con_of (Pc := []) E rfl mixed Tryd.func61 (by kernel_rfl) (by kernel_rfl) (by kernel_rfl) (by kernel_rfl) (fun A hA => trivial) (F_spec_l1Cur_among_ok N)
theorem C_spec_l1Cur_among : Contract Tryd.prog 61 S_spec_l1Cur_among := C_spec_l1Cur_among_raw 0
theorem C_spec_DrawEncodeRecord_raw (N : Nat) : Contract Tryd.prog 40 ⟨[(K_Su8, false)], [I, K_Pssq], true, F_spec_DrawEncodeRecord N⟩ :=
  have E : Env Tryd.prog Γ_spec_DrawEncodeRecord := env_of tab ⟨C_spec_l1Cur_logRecord, ⟨C_spec_l1Cur_among, trivial⟩⟩
  con_of (Pc := []) E rfl mixed Tryd.func40 (by kernel_rfl) (by kernel_rfl) (by kernel_rfl) (by kernel_rfl) (fun A hA => trivial) (F_spec_DrawEncodeRecord_ok N)
theorem C_spec_DrawEncodeRecord : Contract Tryd.prog 40 S_spec_DrawEncodeRecord := C_spec_DrawEncodeRecord_raw 0
theorem C_impl_within_raw (N : Nat) : Contract Tryd.prog 48 ⟨[(I, false), (I, false), (I, false)], [.bool], true, F_impl_within N⟩ :=
  have E : Env Tryd.prog Γ_impl_within := env_of tab trivial
  con_of (Pc := []) E rfl mixed Tryd.func48 (by kernel_rfl) (by kernel_rfl) (by kernel_rfl) (by kernel_rfl) (fun A hA => trivial) (F_impl_within_ok N)
theorem C_impl_within : Contract Tryd.prog 48 S_impl_within := Contract.less (fun N : Nat => F_impl_within N) C_impl_within_raw (fun d r h => ⟨0, (F_impl_within_tot 0 d).trans h⟩)
theorem C_impl_isPrinted_raw (N : Nat) : Contract Tryd.prog 63 ⟨[(.str, false), (.str, false)], [.bool], true, F_impl_isPrinted N⟩ :=
  have E : Env Tryd.prog Γ_impl_isPrinted := env_of tab ⟨C_strings_ContainsAny, trivial⟩
  con_of (Pc := [(0, ⟨impl_isPrinted_l0_h, impl_isPrinted_l0_o, impl_isPrinted_l0 N N⟩)]) E rfl mixed Tryd.func63 (by kernel_rfl) (by kernel_rfl) (by kernel_rfl) (by kernel_rfl) (fun A hA => ⟨pc_of (inner := []) E mixed hA (by kernel_rfl) (by kernel_rfl) (by kernel_rfl) trivial (fun _ => rfl) (fun m d => (impl_isPrinted_l0_ok N (impl_isPrinted_l0 N m) d).symm) N, trivial⟩) (F_impl_isPrinted_ok N)
theorem C_impl_isPrinted : Contract Tryd.prog 63 S_impl_isPrinted := Contract.less (fun N : Nat => F_impl_isPrinted N) C_impl_isPrinted_raw isPrinted_lim
theorem C_impl_isCommand_raw (N : Nat) : Contract Tryd.prog 62 ⟨[(.str, false)], [.bool], true, F_impl_isCommand N⟩ :=
  have E : Env Tryd.prog Γ_impl_isCommand := env_of tab ⟨C_impl_within, ⟨C_impl_isPrinted, trivial⟩⟩
  con_of (Pc := []) E rfl mixed Tryd.func62 (by kernel_rfl) (by kernel_rfl) (by kernel_rfl) (by kernel_rfl) (fun A hA => trivial) (F_impl_isCommand_ok N)
theorem C_impl_isCommand : Contract Tryd.prog 62 S_impl_isCommand := C_impl_isCommand_raw 0
theorem C_impl_IsValidRecord_raw (N : Nat) : Contract Tryd.prog 43 ⟨[(K_Pssq, false)], [.bool], true, F_impl_IsValidRecord N⟩ :=
  have E : Env Tryd.prog Γ_impl_IsValidRecord := env_of tab ⟨C_impl_isCommand, ⟨C_impl_isPrinted, trivial⟩⟩
  con_of (Pc := []) E rfl mixed Tryd.func43 (by kernel_rfl) (by kernel_rfl) (by kernel_rfl) (by kernel_rfl) (fun A hA => trivial) (F_impl_IsValidRecord_ok N)
theorem C_impl_IsValidRecord : Contract Tryd.prog 43 S_impl_IsValidRecord := C_impl_IsValidRecord_raw 0
theorem C_impl_checksum_raw (N : Nat) : Contract Tryd.prog 79 ⟨[(.str, false)], [I], true, F_impl_checksum N⟩ :=
  have E : Env Tryd.prog Γ_impl_checksum := env_of tab trivial
  con_of (Pc := [(0, ⟨impl_checksum_l0_h, impl_checksum_l0_o, impl_checksum_l0 N N⟩)]) E rfl mixed Tryd.func79 (by kernel_rfl) (by kernel_rfl) (by kernel_rfl) (by kernel_rfl) (fun A hA => ⟨pc_of (inner := []) E mixed hA (by kernel_rfl) (by kernel_rfl) (by kernel_rfl) trivial (fun _ => rfl) (fun m d => (impl_checksum_l0_ok N (impl_checksum_l0 N m) d).symm) N, trivial⟩) (F_impl_checksum_ok N)
theorem C_impl_checksum : Contract Tryd.prog 79 S_impl_checksum := Contract.less (fun N : Nat => F_impl_checksum N) C_impl_checksum_raw checksum_lim
theorem C_impl_AppendChecksum_raw (N : Nat) : Contract Tryd.prog 68 ⟨[(.str, false)], [.str, .bool], true, F_impl_AppendChecksum N⟩ :=
  have E : Env Tryd.prog Γ_impl_AppendChecksum := env_of tab ⟨C_strconv_Itoa, ⟨C_strings_Contains, ⟨C_impl_checksum, trivial⟩⟩⟩
  con_of (Pc := []) E rfl mixed Tryd.func68 (by kernel_rfl) (by kernel_rfl) (by kernel_rfl) (by kernel_rfl) (fun A hA => trivial) (F_impl_AppendChecksum_ok N)
theorem C_impl_AppendChecksum : Contract Tryd.prog 68 S_impl_AppendChecksum := C_impl_AppendChecksum_raw 0
theorem C_impl_encodeRecord_raw (N : Nat) : Contract Tryd.prog 49 ⟨[(I, false), (K_Pssq, false)], [.str], true, F_impl_encodeRecord N⟩ :=
  have E : Env Tryd.prog Γ_impl_encodeRecord := env_of tab ⟨C_impl_AppendChecksum, ⟨C_strconv_Itoa, trivial⟩⟩
  con_of (Pc := []) E rfl mixed Tryd.func49 (by kernel_rfl) (by kernel_rfl) (by kernel_rfl) (by kernel_rfl) (fun A hA => trivial) (F_impl_encodeRecord_ok N)
theorem C_impl_encodeRecord : Contract Tryd.prog 49 S_impl_encodeRecord := C_impl_encodeRecord_raw 0
theorem C_impl_EncodeRecord_raw (N : Nat) : Contract Tryd.prog 15 ⟨[(I, false), (K_Pssq, false)], [.str, .bool], true, F_impl_EncodeRecord N⟩ :=
  have E : Env Tryd.prog Γ_impl_EncodeRecord := env_of tab ⟨C_impl_IsValidRecord, ⟨C_impl_within, ⟨C_impl_encodeRecord, trivial⟩⟩⟩
  con_of (Pc := []) E rfl mixed Tryd.func15 (by kernel_rfl) (by kernel_rfl) (by kernel_rfl) (by kernel_rfl) (fun A hA => trivial) (F_impl_EncodeRecord_ok N)
theorem C_impl_EncodeRecord : Contract Tryd.prog 15 S_impl_EncodeRecord := C_impl_EncodeRecord_raw 0
theorem C_spec_l1In_raw (N : Nat) : Contract Tryd.prog 45 ⟨[(I, false), (I, false), (I, false)], [.bool], true, F_spec_l1In N⟩ :=
  have E : Env Tryd.prog Γ_spec_l1In := env_of tab trivial
  con_of (Pc := []) E rfl mixed Tryd.func45 (by kernel_rfl) (by kernel_rfl) (by kernel_rfl) (by kernel_rfl) (fun A hA => trivial) (F_spec_l1In_ok N)
theorem C_spec_l1In : Contract Tryd.prog 45 S_spec_l1In := Contract.less (fun N : Nat => F_spec_l1In N) C_spec_l1In_raw (fun d r h => ⟨0, (F_spec_l1In_tot 0 d).trans h⟩)
theorem C_spec_l12Bytes_raw (N : Nat) : Contract Tryd.prog 64 ⟨[(.str, false), (I, false)], [.bool], true, F_spec_l12Bytes N⟩ :=
  have E : Env Tryd.prog Γ_spec_l12Bytes := env_of tab ⟨C_spec_l1In, trivial⟩
  con_of (Pc := [(0, ⟨spec_l12Bytes_l0_h, spec_l12Bytes_l0_o, spec_l12Bytes_l0 N N⟩)]) E rfl mixed Tryd.func64 (by kernel_rfl) (by kernel_rfl) (by kernel_rfl) (by kernel_rfl) (fun A hA => ⟨pc_of (inner := []) E mixed hA (by kernel_rfl) (by kernel_rfl) (by kernel_rfl) trivial (fun _ => rfl) (fun m d => (spec_l12Bytes_l0_ok N (spec_l12Bytes_l0 N m) d).symm) N, trivial⟩) (F_spec_l12Bytes_ok N)
theorem C_spec_l12Bytes : Contract Tryd.prog 64 S_spec_l12Bytes := Contract.less (fun N : Nat => F_spec_l12Bytes N) C_spec_l12Bytes_raw l12Bytes_lim
theorem C_spec_l1Stands_raw (N : Nat) : Contract Tryd.prog 65 ⟨[(.str, false), ((.int .u8), false)], [.bool], true, F_spec_l1Stands N⟩ :=
  have E : Env Tryd.prog Γ_spec_l1Stands := env_of tab trivial
  con_of (Pc := [(0, ⟨spec_l1Stands_l0_h, spec_l1Stands_l0_o, spec_l1Stands_l0 N N⟩)]) E rfl mixed Tryd.func65 (by kernel_rfl) (by kernel_rfl) (by kernel_rfl) (by kernel_rfl) (fun A hA => ⟨pc_of (inner := []) E mixed hA (by kernel_rfl) (by kernel_rfl) (by kernel_rfl) trivial (fun _ => rfl) (fun m d => (spec_l1Stands_l0_ok N (spec_l1Stands_l0 N m) d).symm) N, trivial⟩) (F_spec_l1Stands_ok N)
theorem C_spec_l1Stands : Contract Tryd.prog 65 S_spec_l1Stands := Contract.less (fun N : Nat => F_spec_l1Stands N) C_spec_l1Stands_raw l1Stands_lim
theorem C_spec_l12Record_raw (N : Nat) : Contract Tryd.prog 46 ⟨[(K_Pssq, false)], [.bool], true, F_spec_l12Record N⟩ :=
  have E : Env Tryd.prog Γ_spec_l12Record := env_of tab ⟨C_spec_l12Bytes, ⟨C_spec_l1Stands, trivial⟩⟩
  con_of (Pc := []) E rfl mixed Tryd.func46 (by kernel_rfl) (by kernel_rfl) (by kernel_rfl) (by kernel_rfl) (fun A hA => trivial) (F_spec_l12Record_ok N)
theorem C_spec_l12Record : Contract Tryd.prog 46 S_spec_l12Record := C_spec_l12Record_raw 0
theorem C_spec_l1Num_raw : ∀ N : Nat, Contract Tryd.prog 67 ⟨[(I, false)], [.str], true, F_spec_l1Num N⟩
  | 0 => fun _ _ _ _ _ _ _ _ _ _ h => by cases h
  | N + 1 =>
    have E : Env Tryd.prog (Γ_spec_l1Num N) := env_of tab ⟨C_spec_l1Num_raw N, trivial⟩
    con_of (Pc := []) E rfl mixed Tryd.func67 (by kernel_rfl) (by kernel_rfl) (by kernel_rfl) (by kernel_rfl) (fun A hA => trivial) (F_spec_l1Num_ok N)
theorem C_spec_l1Num : Contract Tryd.prog 67 S_spec_l1Num := Contract.less (fun N : Nat => F_spec_l1Num N) C_spec_l1Num_raw l1Num_lim
theorem C_spec_l1Sum_raw (N : Nat) : Contract Tryd.prog 77 ⟨[(.str, false)], [I], true, F_spec_l1Sum N⟩ :=
  have E : Env Tryd.prog Γ_spec_l1Sum := env_of tab trivial
  con_of (Pc := [(0, ⟨spec_l1Sum_l0_h, spec_l1Sum_l0_o, spec_l1Sum_l0 N N⟩)]) E rfl mixed Tryd.func77 (by kernel_rfl) (by kernel_rfl) (by kernel_rfl) (by kernel_rfl) (fun A hA => ⟨pc_of (inner := []) E mixed hA (by kernel_rfl) (by kernel_rfl) (by kernel_rfl) trivial (fun _ => rfl) (fun m d => (spec_l1Sum_l0_ok N (spec_l1Sum_l0 N m) d).symm) N, trivial⟩) (F_spec_l1Sum_ok N)
theorem C_spec_l1Sum : Contract Tryd.prog 77 S_spec_l1Sum := Contract.less (fun N : Nat => F_spec_l1Sum N) C_spec_l1Sum_raw l1Sum_lim
theorem C_spec_l1Seal_raw (N : Nat) : Contract Tryd.prog 66 ⟨[(.str, false)], [.str], true, F_spec_l1Seal N⟩ :=
  have E : Env Tryd.prog Γ_spec_l1Seal := env_of tab ⟨C_spec_l1Num, ⟨C_spec_l1Sum, trivial⟩⟩
  con_of (Pc := []) E rfl mixed Tryd.func66 (by kernel_rfl) (by kernel_rfl) (by kernel_rfl) (by kernel_rfl) (fun A hA => trivial) (F_spec_l1Seal_ok N)
theorem C_spec_l1Seal : Contract Tryd.prog 66 S_spec_l1Seal := C_spec_l1Seal_raw 0
theorem C_spec_l12Line_raw (N : Nat) : Contract Tryd.prog 47 ⟨[(I, false), (K_Pssq, false)], [.str], true, F_spec_l12Line N⟩ :=
  have E : Env Tryd.prog Γ_spec_l12Line := env_of tab ⟨C_spec_l1Seal, ⟨C_spec_l1Num, trivial⟩⟩
  con_of (Pc := []) E rfl mixed Tryd.func47 (by kernel_rfl) (by kernel_rfl) (by kernel_rfl) (by kernel_rfl) (fun A hA => trivial) (F_spec_l12Line_ok N)
theorem C_spec_l12Line : Contract Tryd.prog 47 S_spec_l12Line := C_spec_l12Line_raw 0
theorem C_spec_EncodeRecord_raw (N : Nat) : Contract Tryd.prog 13 ⟨[(I, false), (K_Pssq, false)], [.str, .bool], true, F_spec_EncodeRecord N⟩ :=
  have E : Env Tryd.prog Γ_spec_EncodeRecord := env_of tab ⟨C_spec_l1In, ⟨C_spec_l12Record, ⟨C_spec_l12Line, trivial⟩⟩⟩
  con_of (Pc := []) E rfl mixed Tryd.func13 (by kernel_rfl) (by kernel_rfl) (by kernel_rfl) (by kernel_rfl) (fun A hA => trivial) (F_spec_EncodeRecord_ok N)
theorem C_spec_EncodeRecord : Contract Tryd.prog 13 S_spec_EncodeRecord := C_spec_EncodeRecord_raw 0
theorem C_spec_l1Split_raw (N : Nat) : Contract Tryd.prog 70 ⟨[(.str, false), ((.int .u8), false)], [K_Ss], true, F_spec_l1Split N⟩ :=
  have E : Env Tryd.prog Γ_spec_l1Split := env_of tab trivial
  con_of (Pc := [(0, ⟨spec_l1Split_l0_h, spec_l1Split_l0_o, spec_l1Split_l0 N N⟩)]) E rfl mixed Tryd.func70 (by kernel_rfl) (by kernel_rfl) (by kernel_rfl) (by kernel_rfl) (fun A hA => ⟨pc_of (inner := []) E mixed hA (by kernel_rfl) (by kernel_rfl) (by kernel_rfl) trivial (fun _ => rfl) (fun m d => (spec_l1Split_l0_ok N (spec_l1Split_l0 N m) d).symm) N, trivial⟩) (F_spec_l1Split_ok N)
theorem C_spec_l1Split : Contract Tryd.prog 70 S_spec_l1Split := Contract.less (fun N : Nat => F_spec_l1Split N) C_spec_l1Split_raw l1Split_lim
theorem C_spec_l12Decode_raw (N : Nat) : Contract Tryd.prog 71 ⟨[(.str, false), (I, false)], [K_Pssq, .bool], true, F_spec_l12Decode N⟩ :=
  have E : Env Tryd.prog Γ_spec_l12Decode := env_of tab ⟨C_spec_l12Record, ⟨C_spec_l12Line, ⟨C_spec_l1Num, ⟨C_spec_l1Split, trivial⟩⟩⟩⟩
  con_of (Pc := []) E rfl mixed Tryd.func71 (by kernel_rfl) (by kernel_rfl) (by kernel_rfl) (by kernel_rfl) (fun A hA => trivial) (F_spec_l12Decode_ok N)
theorem C_spec_l12Decode : Contract Tryd.prog 71 S_spec_l12Decode := C_spec_l12Decode_raw 0
theorem C_spec_l12Open_raw (N : Nat) : Contract Tryd.prog 50 ⟨[(.str, false)], [K_SPssq, I], true, F_spec_l12Open N⟩ :=
  have E : Env Tryd.prog Γ_spec_l12Open := env_of tab ⟨C_spec_l1Split, ⟨C_spec_l12Decode, trivial⟩⟩
  con_of (Pc := [(0, ⟨spec_l12Open_l0_h, spec_l12Open_l0_o, spec_l12Open_l0 N N⟩)]) E rfl mixed Tryd.func50 (by kernel_rfl) (by kernel_rfl) (by kernel_rfl) (by kernel_rfl) (fun A hA => ⟨pc_of (inner := []) E mixed hA (by kernel_rfl) (by kernel_rfl) (by kernel_rfl) trivial (fun _ => rfl) (fun m d => (spec_l12Open_l0_ok N (spec_l12Open_l0 N m) d).symm) N, trivial⟩) (F_spec_l12Open_ok N)
theorem C_spec_l12Open : Contract Tryd.prog 50 S_spec_l12Open := Contract.less (fun N : Nat => F_spec_l12Open N) C_spec_l12Open_raw l12Open_lim
theorem C_spec_l12Valid_raw (N : Nat) : Contract Tryd.prog 52 ⟨[(K_Pssiq, false)], [.bool], true, F_spec_l12Valid N⟩ :=
  have E : Env Tryd.prog Γ_spec_l12Valid := env_of tab ⟨C_spec_l12Open, trivial⟩
  con_of (Pc := []) E rfl mixed Tryd.func52 (by kernel_rfl) (by kernel_rfl) (by kernel_rfl) (by kernel_rfl) (fun A hA => trivial) (F_spec_l12Valid_ok N)
theorem C_spec_l12Valid : Contract Tryd.prog 52 S_spec_l12Valid := C_spec_l12Valid_raw 0
theorem C_spec_AppendRecord_raw (N : Nat) : Contract Tryd.prog 27 ⟨[(K_Pssiq, false), (K_Pssq, false)], [K_Pssiq, I], true, F_spec_AppendRecord N⟩ :=
  have E : Env Tryd.prog Γ_spec_AppendRecord := env_of tab ⟨C_spec_l12Record, ⟨C_spec_l12Line, ⟨C_spec_l12Valid, trivial⟩⟩⟩
  con_of (Pc := []) E rfl mixed Tryd.func27 (by kernel_rfl) (by kernel_rfl) (by kernel_rfl) (by kernel_rfl) (fun A hA => trivial) (F_spec_AppendRecord_ok N)
theorem C_spec_AppendRecord : Contract Tryd.prog 27 S_spec_AppendRecord := C_spec_AppendRecord_raw 0
theorem C_spec_l1Cur_one_raw (N : Nat) : Contract Tryd.prog 57 ⟨[(K_BPSu8iu64q, true), (I, false)], [.bool], true, F_spec_l1Cur_one N⟩ :=
  have E : Env Tryd.prog Γ_spec_l1Cur_one := env_of tab ⟨C_spec_l1Cur_pick, trivial⟩
  con_of (Pc := []) E rfl mixed Tryd.func57 (by kernel_rfl) (by kernel_rfl) (by kernel_rfl) (by kernel_rfl) (fun A hA => trivial) (F_spec_l1Cur_one_ok N)
theorem C_spec_l1Cur_one : Contract Tryd.prog 57 S_spec_l1Cur_one := C_spec_l1Cur_one_raw 0
theorem C_spec_SyncLog_raw (N : Nat) : Contract Tryd.prog 25 ⟨[(K_Pssiq, false)], [K_Pssiq, .bool], true, F_spec_SyncLog N⟩ :=
  have E : Env Tryd.prog Γ_spec_SyncLog := env_of tab ⟨C_spec_l12Valid, trivial⟩
  con_of (Pc := []) E rfl mixed Tryd.func25 (by kernel_rfl) (by kernel_rfl) (by kernel_rfl) (by kernel_rfl) (fun A hA => trivial) (F_spec_SyncLog_ok N)
theorem C_spec_SyncLog : Contract Tryd.prog 25 S_spec_SyncLog := C_spec_SyncLog_raw 0
theorem C_spec_l1Cur_log12_raw (N : Nat) : Contract Tryd.prog 58 ⟨[(K_BPSu8iu64q, true)], [K_Pssiq], true, F_spec_l1Cur_log12 N⟩ :=
  have E : Env Tryd.prog Γ_spec_l1Cur_log12 := env_of tab ⟨C_spec_SyncLog, ⟨C_spec_AppendRecord, ⟨C_spec_l1Cur_pick, ⟨C_spec_l1Cur_one, ⟨C_spec_l1Cur_logRecord, trivial⟩⟩⟩⟩⟩
  con_of (Pc := [(0, ⟨spec_l1Cur_log12_l0_h, spec_l1Cur_log12_l0_o, spec_l1Cur_log12_l0 N N⟩)]) E rfl mixed Tryd.func58 (by kernel_rfl) (by kernel_rfl) (by kernel_rfl) (by kernel_rfl) (fun A hA => ⟨pc_of (inner := []) E mixed hA (by kernel_rfl) (by kernel_rfl) (by kernel_rfl) trivial (fun _ => rfl) (fun m d => (spec_l1Cur_log12_l0_ok N (spec_l1Cur_log12_l0 N m) d).symm) N, trivial⟩) (F_spec_l1Cur_log12_ok N)
theorem C_spec_l1Cur_log12 : Contract Tryd.prog 58 S_spec_l1Cur_log12 := Contract.less (fun N : Nat => F_spec_l1Cur_log12 N) C_spec_l1Cur_log12_raw pickF_lim
theorem C_spec_l1Cur_spoilt_raw (N : Nat) : Contract Tryd.prog 59 ⟨[(K_BPSu8iu64q, true), (.str, false), (.str, false)], [.str], true, F_spec_l1Cur_spoilt N⟩ :=
  have E : Env Tryd.prog Γ_spec_l1Cur_spoilt := env_of tab ⟨C_spec_l1Cur_pick, trivial⟩
  con_of (Pc := []) E rfl mixed Tryd.func59 (by kernel_rfl) (by kernel_rfl) (by kernel_rfl) (by kernel_rfl) (fun A hA => trivial) (F_spec_l1Cur_spoilt_ok N)
theorem C_spec_l1Cur_spoilt : Contract Tryd.prog 59 S_spec_l1Cur_spoilt := C_spec_l1Cur_spoilt_raw 0
theorem C_spec_l1Cur_anyLog_raw (N : Nat) : Contract Tryd.prog 55 ⟨[(K_BPSu8iu64q, true)], [K_Pssiq], true, F_spec_l1Cur_anyLog N⟩ :=
  have E : Env Tryd.prog Γ_spec_l1Cur_anyLog := env_of tab ⟨C_spec_l1Cur_pick, ⟨C_spec_l1Cur_log12, ⟨C_spec_l1Cur_spoilt, trivial⟩⟩⟩
  con_of (Pc := []) E rfl mixed Tryd.func55 (by kernel_rfl) (by kernel_rfl) (by kernel_rfl) (by kernel_rfl) (fun A hA => trivial) (F_spec_l1Cur_anyLog_ok N)
theorem C_spec_l1Cur_anyLog : Contract Tryd.prog 55 S_spec_l1Cur_anyLog := C_spec_l1Cur_anyLog_raw 0
theorem C_spec_DrawIsValidLog_raw (N : Nat) : Contract Tryd.prog 41 ⟨[(K_Su8, false)], [K_Pssiq], true, F_spec_DrawIsValidLog N⟩ :=
  have E : Env Tryd.prog Γ_spec_DrawIsValidLog := env_of tab ⟨C_spec_l1Cur_anyLog, trivial⟩
  con_of (Pc := []) E rfl mixed Tryd.func41 (by kernel_rfl) (by kernel_rfl) (by kernel_rfl) (by kernel_rfl) (fun A hA => trivial) (F_spec_DrawIsValidLog_ok N)
theorem C_spec_DrawIsValidLog : Contract Tryd.prog 41 S_spec_DrawIsValidLog := C_spec_DrawIsValidLog_raw 0
theorem C_spec_DrawAppendRecord_raw (N : Nat) : Contract Tryd.prog 42 ⟨[(K_Su8, false)], [K_Pssiq, K_Pssq], true, F_spec_DrawAppendRecord N⟩ :=
  have E : Env Tryd.prog Γ_spec_DrawAppendRecord := env_of tab ⟨C_spec_AppendRecord, ⟨C_spec_l1Cur_anyLog, ⟨C_spec_l1Cur_pick, ⟨C_spec_l1Cur_one, ⟨C_spec_l1Cur_logRecord, trivial⟩⟩⟩⟩⟩
  con_of (Pc := [(0, ⟨spec_DrawAppendRecord_l0_h, spec_DrawAppendRecord_l0_o, spec_DrawAppendRecord_l0 N N⟩)]) E rfl mixed Tryd.func42 (by kernel_rfl) (by kernel_rfl) (by kernel_rfl) (by kernel_rfl) (fun A hA => ⟨pc_of (inner := []) E mixed hA (by kernel_rfl) (by kernel_rfl) (by kernel_rfl) trivial (fun _ => rfl) (fun m d => (spec_DrawAppendRecord_l0_ok N (spec_DrawAppendRecord_l0 N m) d).symm) N, trivial⟩) (F_spec_DrawAppendRecord_ok N)
theorem C_spec_DrawAppendRecord : Contract Tryd.prog 42 S_spec_DrawAppendRecord := Contract.less (fun N : Nat => F_spec_DrawAppendRecord N) C_spec_DrawAppendRecord_raw pickF_lim
theorem C_impl_VerifyChecksum_raw (N : Nat) : Contract Tryd.prog 73 ⟨[(.str, false)], [.str, .bool], true, F_impl_VerifyChecksum N⟩ :=
  have E : Env Tryd.prog Γ_impl_VerifyChecksum := env_of tab ⟨C_impl_AppendChecksum, ⟨C_strings_Cut, trivial⟩⟩
  con_of (Pc := []) E rfl mixed Tryd.func73 (by kernel_rfl) (by kernel_rfl) (by kernel_rfl) (by kernel_rfl) (fun A hA => trivial) (F_impl_VerifyChecksum_ok N)
theorem C_impl_VerifyChecksum : Contract Tryd.prog 73 S_impl_VerifyChecksum := C_impl_VerifyChecksum_raw 0
theorem C_impl_readRecords_raw (N : Nat) : Contract Tryd.prog 51 ⟨[(.str, false)], [K_SPssq, I], true, F_impl_readRecords N⟩ :=
  have E : Env Tryd.prog Γ_impl_readRecords := env_of tab ⟨C_impl_IsValidRecord, ⟨C_impl_encodeRecord, ⟨C_strings_Cut, ⟨C_impl_VerifyChecksum, trivial⟩⟩⟩⟩
  con_of (Pc := [(0, ⟨impl_readRecords_l0_h, impl_readRecords_l0_o, impl_readRecords_l0 N N⟩)]) E rfl mixed Tryd.func51 (by kernel_rfl) (by kernel_rfl) (by kernel_rfl) (by kernel_rfl) (fun A hA => ⟨pc_of (inner := []) E mixed hA (by kernel_rfl) (by kernel_rfl) (by kernel_rfl) trivial (fun _ => rfl) (fun m d => (impl_readRecords_l0_ok N (impl_readRecords_l0 N m) d).symm) N, trivial⟩) (F_impl_readRecords_ok N)
theorem C_impl_readRecords : Contract Tryd.prog 51 S_impl_readRecords := Contract.less (fun N : Nat => F_impl_readRecords N) C_impl_readRecords_raw readRecords_lim
theorem C_impl_IsValidLog_raw (N : Nat) : Contract Tryd.prog 22 ⟨[(K_Pssiq, false)], [.bool], true, F_impl_IsValidLog N⟩ :=
  have E : Env Tryd.prog Γ_impl_IsValidLog := env_of tab ⟨C_impl_readRecords, trivial⟩
  con_of (Pc := []) E rfl mixed Tryd.func22 (by kernel_rfl) (by kernel_rfl) (by kernel_rfl) (by kernel_rfl) (fun A hA => trivial) (F_impl_IsValidLog_ok N)
theorem C_impl_IsValidLog : Contract Tryd.prog 22 S_impl_IsValidLog := C_impl_IsValidLog_raw 0
theorem C_impl_AppendRecord_raw (N : Nat) : Contract Tryd.prog 28 ⟨[(K_Pssiq, false), (K_Pssq, false)], [K_Pssiq, I], true, F_impl_AppendRecord N⟩ :=
  have E : Env Tryd.prog Γ_impl_AppendRecord := env_of tab ⟨C_impl_IsValidLog, ⟨C_impl_IsValidRecord, ⟨C_impl_encodeRecord, trivial⟩⟩⟩
  con_of (Pc := []) E rfl mixed Tryd.func28 (by kernel_rfl) (by kernel_rfl) (by kernel_rfl) (by kernel_rfl) (fun A hA => trivial) (F_impl_AppendRecord_ok N)
theorem C_impl_AppendRecord : Contract Tryd.prog 28 S_impl_AppendRecord := C_impl_AppendRecord_raw 0
theorem C_spec_IsValidRecord_raw (N : Nat) : Contract Tryd.prog 44 ⟨[(K_Pssq, false)], [.bool], true, F_spec_IsValidRecord N⟩ :=
  have E : Env Tryd.prog Γ_spec_IsValidRecord := env_of tab ⟨C_spec_l12Record, trivial⟩
  con_of (Pc := []) E rfl mixed Tryd.func44 (by kernel_rfl) (by kernel_rfl) (by kernel_rfl) (by kernel_rfl) (fun A hA => trivial) (F_spec_IsValidRecord_ok N)
theorem C_spec_IsValidRecord : Contract Tryd.prog 44 S_spec_IsValidRecord := C_spec_IsValidRecord_raw 0
theorem C_spec_IsValidLog_raw (N : Nat) : Contract Tryd.prog 20 ⟨[(K_Pssiq, false)], [.bool], true, F_spec_IsValidLog N⟩ :=
  have E : Env Tryd.prog Γ_spec_IsValidLog := env_of tab ⟨C_spec_l12Valid, trivial⟩
  con_of (Pc := []) E rfl mixed Tryd.func20 (by kernel_rfl) (by kernel_rfl) (by kernel_rfl) (by kernel_rfl) (fun A hA => trivial) (F_spec_IsValidLog_ok N)
theorem C_spec_IsValidLog : Contract Tryd.prog 20 S_spec_IsValidLog := C_spec_IsValidLog_raw 0
theorem C_impl_SyncLog_raw (N : Nat) : Contract Tryd.prog 26 ⟨[(K_Pssiq, false)], [K_Pssiq, .bool], true, F_impl_SyncLog N⟩ :=
  have E : Env Tryd.prog Γ_impl_SyncLog := env_of tab ⟨C_impl_IsValidLog, trivial⟩
  con_of (Pc := []) E rfl mixed Tryd.func26 (by kernel_rfl) (by kernel_rfl) (by kernel_rfl) (by kernel_rfl) (fun A hA => trivial) (F_impl_SyncLog_ok N)
theorem C_impl_SyncLog : Contract Tryd.prog 26 S_impl_SyncLog := C_impl_SyncLog_raw 0
theorem C_impl_LogRecords_raw (N : Nat) : Contract Tryd.prog 30 ⟨[(K_Pssiq, false)], [K_SPssq, .bool], true, F_impl_LogRecords N⟩ :=
  have E : Env Tryd.prog Γ_impl_LogRecords := env_of tab ⟨C_impl_IsValidLog, ⟨C_impl_readRecords, trivial⟩⟩
  con_of (Pc := []) E rfl mixed Tryd.func30 (by kernel_rfl) (by kernel_rfl) (by kernel_rfl) (by kernel_rfl) (fun A hA => trivial) (F_impl_LogRecords_ok N)
theorem C_impl_LogRecords : Contract Tryd.prog 30 S_impl_LogRecords := C_impl_LogRecords_raw 0
theorem C_spec_LogRecords_raw (N : Nat) : Contract Tryd.prog 29 ⟨[(K_Pssiq, false)], [K_SPssq, .bool], true, F_spec_LogRecords N⟩ :=
  have E : Env Tryd.prog Γ_spec_LogRecords := env_of tab ⟨C_spec_l12Open, ⟨C_spec_l12Valid, trivial⟩⟩
  con_of (Pc := []) E rfl mixed Tryd.func29 (by kernel_rfl) (by kernel_rfl) (by kernel_rfl) (by kernel_rfl) (fun A hA => trivial) (F_spec_LogRecords_ok N)
theorem C_spec_LogRecords : Contract Tryd.prog 29 S_spec_LogRecords := C_spec_LogRecords_raw 0
theorem C_laws_vRecords_raw (N : Nat) : Contract Tryd.prog 38 ⟨[(K_SPssq, false), (K_SPssq, false)], [.bool], true, F_laws_vRecords N⟩ :=
  have E : Env Tryd.prog Γ_laws_vRecords := env_ofG tab trivial trivial (fun _ h => by cases h) trivial (by kernel_rfl)
  con_of (Pc := [(0, ⟨laws_vRecords_l0_h, laws_vRecords_l0_o, laws_vRecords_l0 N N⟩)]) E rfl mixed Tryd.func38 (by kernel_rfl) (by kernel_rfl) (by kernel_rfl) (by kernel_rfl) (fun A hA => ⟨pc_of (inner := []) E mixed hA (by kernel_rfl) (by kernel_rfl) (by kernel_rfl) trivial (fun _ => rfl) (fun m d => (laws_vRecords_l0_ok N (laws_vRecords_l0 N m) d).symm) N, trivial⟩) (F_laws_vRecords_ok N)
theorem C_laws_vRecords : Contract Tryd.prog 38 S_laws_vRecords := Contract.less (fun N : Nat => F_laws_vRecords N) C_laws_vRecords_raw vRecords_lim
theorem C_laws_FnLogs_raw (N : Nat) : Contract Tryd.prog 11 ⟨[(K_Su8, false)], [.bool], true, F_laws_FnLogs N⟩ :=
  have E : Env Tryd.prog Γ_laws_FnLogs := env_ofG tab ⟨C_spec_EncodeRecord, ⟨C_impl_EncodeRecord, ⟨C_spec_IsValidLog, ⟨C_impl_IsValidLog, ⟨C_spec_SyncLog, ⟨C_impl_SyncLog, ⟨C_spec_AppendRecord, ⟨C_impl_AppendRecord, ⟨C_spec_LogRecords, ⟨C_impl_LogRecords, ⟨C_laws_vBig, ⟨C_laws_vCut, ⟨C_laws_vRecords, ⟨C_spec_DrawIsValidRecord, ⟨C_spec_DrawEncodeRecord, ⟨C_spec_DrawIsValidLog, ⟨C_spec_DrawAppendRecord, ⟨C_impl_IsValidRecord, ⟨C_spec_IsValidRecord, trivial⟩⟩⟩⟩⟩⟩⟩⟩⟩⟩⟩⟩⟩⟩⟩⟩⟩⟩⟩ trivial (fun _ h => by cases h) trivial (by kernel_rfl)
  con_of (Pc := []) E rfl mixed Tryd.func11 (by kernel_rfl) (by kernel_rfl) (by kernel_rfl) (by kernel_rfl) (fun A hA => trivial) (F_laws_FnLogs_ok N)
theorem C_laws_FnLogs : Contract Tryd.prog 11 S_laws_FnLogs := C_laws_FnLogs_raw 0
end Go.V.W
