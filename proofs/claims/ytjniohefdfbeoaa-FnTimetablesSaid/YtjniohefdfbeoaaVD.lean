/- What the law FnTimetables leans on, part 4: an interpreter of the model as plain data, its soundness, the functions as it tells them, and their laws. -/
import Derived.Test.YtjniohefdfbeoaaProg
import Derived.Test.YtjniohefdfbeoaaVC
set_option linter.unusedVariables false
set_option linter.unusedSimpArgs false
set_option maxRecDepth 100000
set_option linter.unusedVariables false
set_option maxRecDepth 100000
namespace Go.V.W
open Go.Proofs
abbrev I : Kd := .int .i64
abbrev K_Su8 : Kd := .slice (.int .u8)
abbrev K_Pu64q : Kd := .pair (.int .u64) .unit
abbrev K_Piu64q : Kd := .pair I K_Pu64q
abbrev K_PSu8iu64q : Kd := .pair K_Su8 K_Piu64q
abbrev K_BPSu8iu64q : Kd := .bx K_PSu8iu64q
abbrev K_Si : Kd := .slice I
abbrev K_Piq : Kd := .pair I .unit
abbrev K_Piiq : Kd := .pair I K_Piq
abbrev K_SPiiq : Kd := .slice K_Piiq
abbrev K_PSPiiqq : Kd := .pair K_SPiiq .unit
abbrev K_PiSPiiqq : Kd := .pair I K_PSPiiqq
abbrev K_ZPiiq : Kd := .ssl K_Piiq
abbrev K_PZPiiqq : Kd := .pair K_ZPiiq .unit
abbrev K_PiZPiiqq : Kd := .pair I K_PZPiiqq
abbrev K_SSi : Kd := .slice K_Si
abbrev K_PSSiq : Kd := .pair K_SSi .unit
abbrev K_PiSSiq : Kd := .pair I K_PSSiq
abbrev K_PPiZPiiqqiSSiq : Kd := .pair K_PiZPiiqq K_PiSSiq
abbrev K_PPiSPiiqqiSSiq : Kd := .pair K_PiSPiiqq K_PiSSiq
abbrev K_BPPiSPiiqqiSSiq : Kd := .bx K_PPiSPiiqqiSSiq
abbrev K_PBPPiSPiiqqiSSiqq : Kd := .pair K_BPPiSPiiqqiSSiq .unit
abbrev K_F_q20q_qPBPPiSPiiqqiSSiqq : Kd := .clo 48 .unit K_PBPPiSPiiqqiSSiqq
abbrev K_PSiq : Kd := .pair K_Si .unit
abbrev K_SPSiq : Kd := .slice K_PSiq
abbrev K_PPSiqq : Kd := .pair K_PSiq .unit
abbrev K_F_q67q_PPSiqqq : Kd := .clo 82 K_PPSiqq .unit
def tks : List (Nat × Kd) := [(3, I), (4, .bool), (5, (.int .u8)), (22, K_Su8), (24, K_SPiiq), (26, K_PiSPiiqq), (27, K_SSi), (29, K_PPiSPiiqqiSSiq), (32, K_Si), (57, K_SPSiq), (60, K_PSiq), (74, K_Piiq), (80, (.int .u64)), (82, K_PSu8iu64q), (120, (.int .u64))]
def ars : List (Nat × Nat) := [(74, 3)]
noncomputable def Γ_laws_rBig : Ctx := { tk := assoc tks, ar := assoc ars, fs := assoc [] }
noncomputable def F_laws_rBig (N : Nat) (d : List Int × Unit) : Option (Bool × Unit) :=
 let a0 : List Int := d.1
 some ((decide ((List.length a0 : Int) > (65536 : Int)), ()))
theorem F_laws_rBig_ok (N : Nat) (d) : fnR Γ_laws_rBig (assoc []) true [(K_Su8, false)] [.bool] Try.f5.results.toList (bodyOf Try.f5) d = F_laws_rBig N d := by kernel_rfl
noncomputable def g_laws_rBig (d : List Int × Unit) : Bool × Unit :=
 let a0 : List Int := d.1
 ((decide ((List.length a0 : Int) > (65536 : Int)), ()))
theorem F_laws_rBig_tot (N : Nat) (d) : F_laws_rBig N d = some (g_laws_rBig d) := by
 unfold F_laws_rBig g_laws_rBig
 first
  | rfl
  | (dsimp only; (repeat' split) <;> rfl)
noncomputable def S_laws_rBig : FSig := ⟨[(K_Su8, false)], [.bool], true, (fun d => some (g_laws_rBig d))⟩
noncomputable def Γ_q34q : Ctx := { tk := assoc tks, ar := assoc ars, fs := assoc [], lent := fun t => Nat.beq t 0 }
noncomputable def F_q34q (N : Nat) (d : (List Int × Int × Int × Unit) × Unit) : Option (Int × (List Int × Int × Int × Unit) × Unit) :=
 let a0 : List Int × Int × Int × Unit := d.1
 if (decide (a0.2.1 < (List.length a0.1 : Int))) = true then
  if (idxIn a0.2.1 (List.length a0.1)) = true then
  let x1 : Int := IntKind.wrap .i64 (at_ (.int .u8) a0.1 a0.2.1.toNat)
  let x2 : Int := IntKind.wrap .i64 (a0.2.1 + (1 : Int))
  let x3 : Int := IntKind.wrap .u64 (a0.2.2.1 * (6364136223846793005 : Int))
  let x4 : Int := IntKind.wrap .u64 (x3 + IntKind.wrap .u64 x1)
  let x5 : Int := IntKind.wrap .u64 (x4 + (462197 : Int))
  if (decide (x2 <= (List.length a0.1 : Int))) = true then
   some ((x1, ((a0.1, (x2, (x5, a0.2.2.2))), ())))
  else
   if (decide (0 <= (40 : Int))) = true then
   let x6 : Int := bits .and .u64 (shr .u64 x5 (40 : Int)) (255 : Int)
   some ((IntKind.wrap .i64 x6, ((a0.1, (x2, (x5, a0.2.2.2))), ())))
   else none
  else none
 else
  let x7 : Int := IntKind.wrap .i64 (a0.2.1 + (1 : Int))
  let x8 : Int := IntKind.wrap .u64 (a0.2.2.1 * (6364136223846793005 : Int))
  let x9 : Int := IntKind.wrap .u64 (x8 + IntKind.wrap .u64 (0 : Int))
  let x10 : Int := IntKind.wrap .u64 (x9 + (462197 : Int))
  if (decide (x7 <= (List.length a0.1 : Int))) = true then
   some (((0 : Int), ((a0.1, (x7, (x10, a0.2.2.2))), ())))
  else
   if (decide (0 <= (40 : Int))) = true then
   let x11 : Int := bits .and .u64 (shr .u64 x10 (40 : Int)) (255 : Int)
   some ((IntKind.wrap .i64 x11, ((a0.1, (x7, (x10, a0.2.2.2))), ())))
   else none
theorem F_q34q_ok (N : Nat) (d) : fnR Γ_q34q (assoc []) true [(K_BPSu8iu64q, true)] [I] Try.f114.results.toList (bodyOf Try.f114) d = F_q34q N d := by kernel_rfl
noncomputable def S_q34q : FSig := ⟨[(K_BPSu8iu64q, true)], [I], true, (F_q34q 0)⟩
noncomputable def Γ_q42q : Ctx := { tk := assoc tks, ar := assoc ars, fs := assoc [(114, S_q34q)], lent := fun t => Nat.beq t 0 }
noncomputable def F_q42q (N : Nat) (d : (List Int × Int × Int × Unit) × Int × Unit) : Option (Int × (List Int × Int × Int × Unit) × Unit) :=
 let a0 : List Int × Int × Int × Unit := d.1
 let a1 : Int := d.2.1
 if (decide (a1 <= (1 : Int))) = true then
  some (((0 : Int), (a0, ())))
 else
  ((F_q34q 0) (a0, ())).bind fun r1 =>
  if (decide (a1 > (200 : Int))) = true then
   let x2 : Int := IntKind.wrap .i64 (r1.1 * (256 : Int))
   ((F_q34q 0) (r1.2.1, ())).bind fun r3 =>
   let x4 : Int := IntKind.wrap .i64 (x2 + r3.1)
   if (a1 != 0) = true then
   some ((x4.tmod a1, (r3.2.1, ())))
   else none
  else
   if (a1 != 0) = true then
   some ((r1.1.tmod a1, (r1.2.1, ())))
   else none
theorem F_q42q_ok (N : Nat) (d) : fnR Γ_q42q (assoc []) true [(K_BPSu8iu64q, true), (I, false)] [I] Try.f88.results.toList (bodyOf Try.f88) d = F_q42q N d := by kernel_rfl
noncomputable def S_q42q : FSig := ⟨[(K_BPSu8iu64q, true), (I, false)], [I], true, (F_q42q 0)⟩
noncomputable def Γ_q25q : Ctx := { tk := assoc tks, ar := assoc ars, fs := assoc [(88, S_q42q)], lent := fun t => Nat.beq t 0 }
noncomputable def F_q25q (N : Nat) (d : (List Int × Int × Int × Unit) × List Int × Unit) : Option (Int × (List Int × Int × Int × Unit) × Unit) :=
 let a0 : List Int × Int × Int × Unit := d.1
 let a1 : List Int := d.2.1
 ((F_q42q 0) ((a0, ((List.length a1 : Int), ())))).bind fun r1 =>
 if (idxIn r1.1 (List.length a1)) = true then
 some ((at_ I a1 r1.1.toNat, (r1.2.1, ())))
 else none
theorem F_q25q_ok (N : Nat) (d) : fnR Γ_q25q (assoc []) true [(K_BPSu8iu64q, true), (K_Si, false)] [I] Try.f62.results.toList (bodyOf Try.f62) d = F_q25q N d := by kernel_rfl
noncomputable def S_q25q : FSig := ⟨[(K_BPSu8iu64q, true), (K_Si, false)], [I], true, (F_q25q 0)⟩
noncomputable def Γ_q51q : Ctx := { tk := assoc tks, ar := assoc ars, fs := assoc [(88, S_q42q)], lent := fun t => Nat.beq t 0 }
noncomputable def F_q51q (N : Nat) (d : (List Int × Int × Int × Unit) × Int × Unit) : Option (Bool × (List Int × Int × Int × Unit) × Unit) :=
 let a0 : List Int × Int × Int × Unit := d.1
 let a1 : Int := d.2.1
 ((F_q42q 0) ((a0, (a1, ())))).bind fun r1 =>
 some ((r1.1 == (0 : Int), (r1.2.1, ())))
theorem F_q51q_ok (N : Nat) (d) : fnR Γ_q51q (assoc []) true [(K_BPSu8iu64q, true), (I, false)] [.bool] Try.f86.results.toList (bodyOf Try.f86) d = F_q51q N d := by kernel_rfl
noncomputable def S_q51q : FSig := ⟨[(K_BPSu8iu64q, true), (I, false)], [.bool], true, (F_q51q 0)⟩
noncomputable def Γ_q62q : Ctx := { tk := assoc tks, ar := assoc ars, fs := assoc [] }
noncomputable def F_q62q (N : Nat) (d : Int × Int × Unit) : Option (Int × Unit) :=
 let a0 : Int := d.1
 let a1 : Int := d.2.1
 if (decide (a0 < a1)) = true then
  some (a0, ())
 else
  some (a1, ())
theorem F_q62q_ok (N : Nat) (d) : fnR Γ_q62q (assoc []) true [(I, false), (I, false)] [I] Try.f107.results.toList (bodyOf Try.f107) d = F_q62q N d := by kernel_rfl
noncomputable def g_q62q (d : Int × Int × Unit) : Int × Unit :=
 let a0 : Int := d.1
 let a1 : Int := d.2.1
 if (decide (a0 < a1)) = true then
  (a0, ())
 else
  (a1, ())
theorem F_q62q_tot (N : Nat) (d) : F_q62q N d = some (g_q62q d) := by
 unfold F_q62q g_q62q
 first
  | rfl
  | (dsimp only; (repeat' split) <;> rfl)
noncomputable def S_q62q : FSig := ⟨[(I, false), (I, false)], [I], true, (fun d => some (g_q62q d))⟩
noncomputable def Γ_q74q : Ctx := { tk := assoc tks, ar := assoc ars, fs := assoc [] }
abbrev q74q_l0_H := Int × (Int × (List (Int × Int × Unit)) × Unit) × (Int × (List (Int × Int × Unit)) × Unit) × Int × Unit
abbrev q74q_l0_O := ((Int × (List (Int × Int × Unit)) × Unit) × (Int × (List (Int × Int × Unit)) × Unit) × Unit) ⊕ Empty
def q74q_l0_h : Form := [(0, .v I), (2, .box K_PiSPiiqq 99), (3, .box K_PiSPiiqq 99), (4, .v I)]
def q74q_l0_o : Outs := [(.normal, [(2, .box K_PiSPiiqq 99), (3, .box K_PiSPiiqq 99)])]
noncomputable def q74q_l0_r (N : Nat) (back : q74q_l0_H -> Option q74q_l0_O) (d : q74q_l0_H) : Option q74q_l0_O :=
 let s0 : Int := d.1
 let s2 : Int × (List (Int × Int × Unit)) × Unit := d.2.1
 let s3 : Int × (List (Int × Int × Unit)) × Unit := d.2.2.1
 let s4 : Int := d.2.2.2.1
 let x6 : Int := IntKind.wrap .i64 (s4 + (1 : Int))
 if (decide (x6 < s0)) = true then
  let x7 : Int := IntKind.wrap .i64 (s4 + (1 : Int))
  if (decide (List.length s3.2.1 + List.length ([(s4, (x7, ()))]) <= lim)) = true then
  let x8 : Int := IntKind.wrap .i64 (s4 + (1 : Int))
  back ((s0, (s2, ((s3.1, (s3.2.1 ++ ([(s4, (x7, ()))]), s3.2.2)), (x8, ())))))
  else none
 else
  some (.inl ((s2, (s3, ()))))
noncomputable def q74q_l0 (N : Nat) : Nat -> q74q_l0_H -> Option q74q_l0_O
 | 0, _ => none
 | k + 1, d => q74q_l0_r N (q74q_l0 N k) d
theorem q74q_l0_ok (N : Nat) (back) (d) : roundR Γ_q74q (assoc []) 0 q74q_l0_h q74q_l0_o (loopOf Try.f108 0) back d = q74q_l0_r N back d := by kernel_rfl
noncomputable def F_q74q (N : Nat) (d : Int × Unit) : Option ((Int × (List (Int × Int × Unit)) × Unit) × Unit) :=
 let a0 : Int := d.1
 (q74q_l0 N N ((a0, (((0 : Int), (([] : List (Int × Int × Unit)), ())), ((a0, (([] : List (Int × Int × Unit)), ())), ((0 : Int), ())))))).bind fun o4 => match o4 with
 | .inl d5 =>
  some (d5.2.1, ())
theorem F_q74q_ok (N : Nat) (d) : fnR Γ_q74q (assoc [(0, ⟨q74q_l0_h, q74q_l0_o, q74q_l0 N N⟩)]) true [(I, false)] [K_PiSPiiqq] Try.f108.results.toList (bodyOf Try.f108) d = F_q74q N d := by kernel_rfl
noncomputable def S_q74q : FSig := ⟨[(I, false)], [K_PiSPiiqq], true, (pickF F_q74q P_path)⟩
noncomputable def Γ_q55q : Ctx := { tk := assoc tks, ar := assoc ars, fs := assoc [] }
noncomputable def F_q55q (N : Nat) (d : (Int × Int × Unit) × (Int × Int × Unit) × Unit) : Option (Bool × Unit) :=
 let a0 : Int × Int × Unit := d.1
 let a1 : Int × Int × Unit := d.2.1
 if (decide (a0.1 < a1.1)) = true then
  some (true, ())
 else
  if (a0.1 == a1.1) = true then
   some (decide (a0.2.1 < a1.2.1), ())
  else
   some (false, ())
theorem F_q55q_ok (N : Nat) (d) : fnR Γ_q55q (assoc []) true [(K_Piiq, false), (K_Piiq, false)] [.bool] Try.f115.results.toList (bodyOf Try.f115) d = F_q55q N d := by kernel_rfl
noncomputable def g_q55q (d : (Int × Int × Unit) × (Int × Int × Unit) × Unit) : Bool × Unit :=
 let a0 : Int × Int × Unit := d.1
 let a1 : Int × Int × Unit := d.2.1
 if (decide (a0.1 < a1.1)) = true then
  (true, ())
 else
  if (a0.1 == a1.1) = true then
   (decide (a0.2.1 < a1.2.1), ())
  else
   (false, ())
theorem F_q55q_tot (N : Nat) (d) : F_q55q N d = some (g_q55q d) := by
 unfold F_q55q g_q55q
 first
  | rfl
  | (dsimp only; (repeat' split) <;> rfl)
noncomputable def S_q55q : FSig := ⟨[(K_Piiq, false), (K_Piiq, false)], [.bool], true, (fun d => some (g_q55q d))⟩
noncomputable def Γ_spec_l2Put : Ctx := { tk := assoc tks, ar := assoc ars, fs := assoc [(115, S_q55q)] }
abbrev spec_l2Put_l0_H := (List (Int × Int × Unit)) × (Int × Int × Unit) × Int × Unit
abbrev spec_l2Put_l0_O := ((List (Int × Int × Unit)) × (Int × Int × Unit) × Int × Unit) ⊕ Empty
def spec_l2Put_l0_h : Form := [(0, .v K_SPiiq), (3, .box K_Piiq 99), (5, .v I)]
def spec_l2Put_l0_o : Outs := [(.normal, [(0, .v K_SPiiq), (3, .box K_Piiq 99), (5, .v I)])]
noncomputable def spec_l2Put_l0_r (N : Nat) (back : spec_l2Put_l0_H -> Option spec_l2Put_l0_O) (d : spec_l2Put_l0_H) : Option spec_l2Put_l0_O :=
 let s0 : List (Int × Int × Unit) := d.1
 let s3 : Int × Int × Unit := d.2.1
 let s5 : Int := d.2.2.1
 if (decide (s5 < (List.length s0 : Int))) = true then
  if (idxIn s5 (List.length s0)) = true then
  let r7 : Bool × Unit := g_q55q ((at_ K_Piiq s0 s5.toNat, (s3, ())))
  if (r7.1) = true then
   let x8 : Int := IntKind.wrap .i64 (s5 + (1 : Int))
   back ((s0, (s3, (x8, ()))))
  else
   some (.inl ((s0, (s3, (s5, ())))))
  else none
 else
  some (.inl ((s0, (s3, (s5, ())))))
noncomputable def spec_l2Put_l0 (N : Nat) : Nat -> spec_l2Put_l0_H -> Option spec_l2Put_l0_O
 | 0, _ => none
 | k + 1, d => spec_l2Put_l0_r N (spec_l2Put_l0 N k) d
theorem spec_l2Put_l0_ok (N : Nat) (back) (d) : roundR Γ_spec_l2Put (assoc []) 0 spec_l2Put_l0_h spec_l2Put_l0_o (loopOf Try.f111 0) back d = spec_l2Put_l0_r N back d := by kernel_rfl
noncomputable def F_spec_l2Put (N : Nat) (d : (List (Int × Int × Unit)) × (Int × Int × Unit) × Unit) : Option ((List (Int × Int × Unit)) × Unit) :=
 let a0 : List (Int × Int × Unit) := d.1
 let a1 : Int × Int × Unit := d.2.1
 (spec_l2Put_l0 N N ((a0, (a1, ((0 : Int), ()))))).bind fun o3 => match o3 with
 | .inl d4 =>
  if ((decide (0 <= (0 : Int)) && decide ((0 : Int) <= d4.2.2.1) && decide (d4.2.2.1 <= (List.length d4.1 : Int)))) = true then
  if (decide (List.length ([] : List (Int × Int × Unit)) + List.length (sub_ d4.1 (0 : Int) d4.2.2.1) <= lim)) = true then
  let x5 : List (Int × Int × Unit) := ([] : List (Int × Int × Unit)) ++ (sub_ d4.1 (0 : Int) d4.2.2.1)
  if (decide (List.length x5 + List.length ([d4.2.1]) <= lim)) = true then
  if ((decide (0 <= d4.2.2.1) && decide (d4.2.2.1 <= (List.length d4.1 : Int)) && decide ((List.length d4.1 : Int) <= (List.length d4.1 : Int)))) = true then
  let x6 : List (Int × Int × Unit) := sub_ d4.1 d4.2.2.1 (List.length d4.1 : Int)
  if (decide (List.length (x5 ++ ([d4.2.1])) + List.length x6 <= lim)) = true then
  some (((x5 ++ ([d4.2.1])) ++ x6, ()))
  else none
  else none
  else none
  else none
  else none
theorem F_spec_l2Put_ok (N : Nat) (d) : fnR Γ_spec_l2Put (assoc [(0, ⟨spec_l2Put_l0_h, spec_l2Put_l0_o, spec_l2Put_l0 N N⟩)]) true [(K_SPiiq, false), (K_Piiq, false)] [K_SPiiq] Try.f111.results.toList (bodyOf Try.f111) d = F_spec_l2Put N d := by kernel_rfl
noncomputable def S_spec_l2Put : FSig := ⟨[(K_SPiiq, false), (K_Piiq, false)], [K_SPiiq], true, (G_l2Put)⟩
noncomputable def Γ_q70q : Ctx := { tk := assoc tks, ar := assoc ars, fs := assoc [(108, S_q74q), (111, S_spec_l2Put)] }
noncomputable def F_q70q (N : Nat) (d : Int × Unit) : Option ((Int × (List (Int × Int × Unit)) × Unit) × Unit) :=
 let a0 : Int := d.1
 ((pickF F_q74q P_path) (a0, ())).bind fun r1 =>
 let x2 : Int := IntKind.wrap .i64 (a0 - (1 : Int))
 (G_l2Put ((r1.1.2.1, (((0 : Int), (x2, ())), ())))).bind fun r3 =>
 some (((r1.1.1, (r3.1, r1.1.2.2)), ()))
theorem F_q70q_ok (N : Nat) (d) : fnR Γ_q70q (assoc []) true [(I, false)] [K_PiSPiiqq] Try.f109.results.toList (bodyOf Try.f109) d = F_q70q N d := by kernel_rfl
noncomputable def S_q70q : FSig := ⟨[(I, false)], [K_PiSPiiqq], true, (F_q70q 0)⟩
noncomputable def Γ_q37q : Ctx := { tk := assoc tks, ar := assoc ars, fs := assoc [] }
abbrev q37q_l2_H := Int × (Int × (List (Int × Int × Unit)) × Unit) × (Int × (List (Int × Int × Unit)) × Unit) × Int × Int × Unit
abbrev q37q_l2_O := (Int × (Int × (List (Int × Int × Unit)) × Unit) × (Int × (List (Int × Int × Unit)) × Unit) × Int × Unit) ⊕ Empty
def q37q_l2_h : Form := [(0, .v I), (2, .box K_PiSPiiqq 99), (3, .box K_PiSPiiqq 99), (4, .v I), (5, .v I)]
def q37q_l2_o : Outs := [(.normal, [(0, .v I), (2, .box K_PiSPiiqq 99), (3, .box K_PiSPiiqq 99), (4, .v I)])]
noncomputable def q37q_l2_r (N : Nat) (back : q37q_l2_H -> Option q37q_l2_O) (d : q37q_l2_H) : Option q37q_l2_O :=
 let s0 : Int := d.1
 let s2 : Int × (List (Int × Int × Unit)) × Unit := d.2.1
 let s3 : Int × (List (Int × Int × Unit)) × Unit := d.2.2.1
 let s4 : Int := d.2.2.2.1
 let s5 : Int := d.2.2.2.2.1
 if (decide (s5 < s0)) = true then
  if (decide (List.length s3.2.1 + List.length ([(s4, (s5, ()))]) <= lim)) = true then
  let x13 : Int := IntKind.wrap .i64 (s5 + (1 : Int))
  back ((s0, (s2, ((s3.1, (s3.2.1 ++ ([(s4, (s5, ()))]), s3.2.2)), (s4, (x13, ()))))))
  else none
 else
  some (.inl ((s0, (s2, (s3, (s4, ()))))))
noncomputable def q37q_l2 (N : Nat) : Nat -> q37q_l2_H -> Option q37q_l2_O
 | 0, _ => none
 | k + 1, d => q37q_l2_r N (q37q_l2 N k) d
theorem q37q_l2_ok (N : Nat) (back) (d) : roundR Γ_q37q (assoc []) 2 q37q_l2_h q37q_l2_o (loopOf Try.f110 2) back d = q37q_l2_r N back d := by kernel_rfl
abbrev q37q_l0_H := Int × (Int × (List (Int × Int × Unit)) × Unit) × (Int × (List (Int × Int × Unit)) × Unit) × Int × Unit
abbrev q37q_l0_O := ((Int × (List (Int × Int × Unit)) × Unit) × (Int × (List (Int × Int × Unit)) × Unit) × Unit) ⊕ Empty
def q37q_l0_h : Form := [(0, .v I), (2, .box K_PiSPiiqq 99), (3, .box K_PiSPiiqq 99), (4, .v I)]
def q37q_l0_o : Outs := [(.normal, [(2, .box K_PiSPiiqq 99), (3, .box K_PiSPiiqq 99)])]
noncomputable def q37q_l0_r (N : Nat) (back : q37q_l0_H -> Option q37q_l0_O) (d : q37q_l0_H) : Option q37q_l0_O :=
 let s0 : Int := d.1
 let s2 : Int × (List (Int × Int × Unit)) × Unit := d.2.1
 let s3 : Int × (List (Int × Int × Unit)) × Unit := d.2.2.1
 let s4 : Int := d.2.2.2.1
 if (decide (s4 < s0)) = true then
  let x8 : Int := IntKind.wrap .i64 (s4 + (1 : Int))
  (q37q_l2 N N ((s0, (s2, (s3, (s4, (x8, ()))))))).bind fun o10 => match o10 with
  | .inl d11 =>
   let x12 : Int := IntKind.wrap .i64 (d11.2.2.2.1 + (1 : Int))
   back ((d11.1, (d11.2.1, (d11.2.2.1, (x12, ())))))
 else
  some (.inl ((s2, (s3, ()))))
noncomputable def q37q_l0 (N : Nat) : Nat -> q37q_l0_H -> Option q37q_l0_O
 | 0, _ => none
 | k + 1, d => q37q_l0_r N (q37q_l0 N k) d
theorem q37q_l0_ok (N : Nat) (back) (d) : roundR Γ_q37q (assoc [(2, ⟨q37q_l2_h, q37q_l2_o, q37q_l2 N N⟩)]) 0 q37q_l0_h q37q_l0_o (loopOf Try.f110 0) back d = q37q_l0_r N back d := by kernel_rfl
noncomputable def F_q37q (N : Nat) (d : Int × Unit) : Option ((Int × (List (Int × Int × Unit)) × Unit) × Unit) :=
 let a0 : Int := d.1
 (q37q_l0 N N ((a0, (((0 : Int), (([] : List (Int × Int × Unit)), ())), ((a0, (([] : List (Int × Int × Unit)), ())), ((0 : Int), ())))))).bind fun o6 => match o6 with
 | .inl d7 =>
  some (d7.2.1, ())
theorem F_q37q_ok (N : Nat) (d) : fnR Γ_q37q (assoc [(0, ⟨q37q_l0_h, q37q_l0_o, q37q_l0 N N⟩)]) true [(I, false)] [K_PiSPiiqq] Try.f110.results.toList (bodyOf Try.f110) d = F_q37q N d := by kernel_rfl
noncomputable def S_q37q : FSig := ⟨[(I, false)], [K_PiSPiiqq], true, (pickF F_q37q P_path)⟩
noncomputable def Γ_q73q : Ctx := { tk := assoc tks, ar := assoc ars, fs := assoc [] }
noncomputable def F_q73q (N : Nat) (d : Int × Int × Unit) : Option (Int × Unit) :=
 let a0 : Int := d.1
 let a1 : Int := d.2.1
 if (decide (a0 > a1)) = true then
  some (a0, ())
 else
  some (a1, ())
theorem F_q73q_ok (N : Nat) (d) : fnR Γ_q73q (assoc []) true [(I, false), (I, false)] [I] Try.f112.results.toList (bodyOf Try.f112) d = F_q73q N d := by kernel_rfl
noncomputable def g_q73q (d : Int × Int × Unit) : Int × Unit :=
 let a0 : Int := d.1
 let a1 : Int := d.2.1
 if (decide (a0 > a1)) = true then
  (a0, ())
 else
  (a1, ())
theorem F_q73q_tot (N : Nat) (d) : F_q73q N d = some (g_q73q d) := by
 unfold F_q73q g_q73q
 first
  | rfl
  | (dsimp only; (repeat' split) <;> rfl)
noncomputable def S_q73q : FSig := ⟨[(I, false), (I, false)], [I], true, (fun d => some (g_q73q d))⟩
noncomputable def Γ_q72q : Ctx := { tk := assoc tks, ar := assoc ars, fs := assoc [] }
abbrev q72q_l0_H := Int × Int × (Int × (List (Int × Int × Unit)) × Unit) × Int × Unit
abbrev q72q_l0_O := (Bool × Unit) ⊕ Unit ⊕ Empty
def q72q_l0_h : Form := [(1, .v I), (2, .v I), (3, .box K_PiSPiiqq 0), (7, .v I)]
def q72q_l0_o : Outs := [(.ret, [(6, .v .bool)]), (.normal, [])]
noncomputable def q72q_l0_r (N : Nat) (back : q72q_l0_H -> Option q72q_l0_O) (d : q72q_l0_H) : Option q72q_l0_O :=
 let s1 : Int := d.1
 let s2 : Int := d.2.1
 let s3 : Int × (List (Int × Int × Unit)) × Unit := d.2.2.1
 let s7 : Int := d.2.2.2.1
 if (decide (s7 < (List.length s3.2.1 : Int))) = true then
  if (idxIn s7 (List.length s3.2.1)) = true then
  if ((at_ K_Piiq s3.2.1 s7.toNat).1 == s1) = true then
   if ((at_ K_Piiq s3.2.1 s7.toNat).2.1 == s2) = true then
    some (.inl (true, ()))
   else
    if ((at_ K_Piiq s3.2.1 s7.toNat).1 == s2) = true then
     if ((at_ K_Piiq s3.2.1 s7.toNat).2.1 == s1) = true then
      some (.inl (true, ()))
     else
      let x8 : Int := IntKind.wrap .i64 (s7 + (1 : Int))
      back ((s1, (s2, (s3, (x8, ())))))
    else
     let x9 : Int := IntKind.wrap .i64 (s7 + (1 : Int))
     back ((s1, (s2, (s3, (x9, ())))))
  else
   if ((at_ K_Piiq s3.2.1 s7.toNat).1 == s2) = true then
    if ((at_ K_Piiq s3.2.1 s7.toNat).2.1 == s1) = true then
     some (.inl (true, ()))
    else
     let x10 : Int := IntKind.wrap .i64 (s7 + (1 : Int))
     back ((s1, (s2, (s3, (x10, ())))))
   else
    let x11 : Int := IntKind.wrap .i64 (s7 + (1 : Int))
    back ((s1, (s2, (s3, (x11, ())))))
  else none
 else
  some (.inr (.inl ()))
noncomputable def q72q_l0 (N : Nat) : Nat -> q72q_l0_H -> Option q72q_l0_O
 | 0, _ => none
 | k + 1, d => q72q_l0_r N (q72q_l0 N k) d
theorem q72q_l0_ok (N : Nat) (back) (d) : roundR Γ_q72q (assoc []) 0 q72q_l0_h q72q_l0_o (loopOf Try.f105 0) back d = q72q_l0_r N back d := by kernel_rfl
noncomputable def F_q72q (N : Nat) (d : (Int × (List (Int × Int × Unit)) × Unit) × Int × Int × Unit) : Option (Bool × Unit) :=
 let a0 : Int × (List (Int × Int × Unit)) × Unit := d.1
 let a1 : Int := d.2.1
 let a2 : Int := d.2.2.1
 (q72q_l0 N N ((a1, (a2, (a0, ((0 : Int), ())))))).bind fun o5 => match o5 with
 | .inl d6 =>
  some (d6.1, ())
 | .inr (.inl d7) =>
  some (false, ())
theorem F_q72q_ok (N : Nat) (d) : fnR Γ_q72q (assoc [(0, ⟨q72q_l0_h, q72q_l0_o, q72q_l0 N N⟩)]) true [(K_PiSPiiqq, false), (I, false), (I, false)] [.bool] Try.f105.results.toList (bodyOf Try.f105) d = F_q72q N d := by kernel_rfl
noncomputable def S_q72q : FSig := ⟨[(K_PiSPiiqq, false), (I, false), (I, false)], [.bool], true, (G_l2Near)⟩
noncomputable def Γ_q23q : Ctx := { tk := assoc tks, ar := assoc ars, fs := assoc [(62, S_q25q), (88, S_q42q)], lent := fun t => Nat.beq t 0, cs := assoc [], gs := assoc [], eqt := inL [], md := { gone := [1], deep := [] } }
noncomputable def F_q23q (N : Nat) (d : (List Int × Int × Int × Unit) × (Int × (List (Int × Int × Unit)) × Unit) × Unit) : Option ((Int × (List (Int × Int × Unit)) × Unit) × (List Int × Int × Int × Unit) × (Int × (List (Int × Int × Unit)) × Unit) × Unit) :=
 let a0 : List Int × Int × Int × Unit := d.1
 let a1 : Int × (List (Int × Int × Unit)) × Unit := d.2.1
 ((F_q42q 0) ((a0, ((50 : Int), ())))).bind fun r1 =>
 if (r1.1 == (0 : Int)) = true then
  ((F_q25q 0) ((r1.2.1, ([(-1 : Int), (8 : Int), (9 : Int), (0 : Int), (4611686018427387904 : Int)], ())))).bind fun r2 =>
  some (((r2.1, a1.2), (r2.2.1, (((0 : Int), (([] : List (Int × Int × Unit)), ())), ()))))
 else
  if (r1.1 == (1 : Int)) = true then
   ((F_q42q 0) ((r1.2.1, ((4 : Int), ())))).bind fun r3 =>
   ((F_q42q 0) ((r3.2.1, ((9 : Int), ())))).bind fun r4 =>
   let x5 : Int := IntKind.wrap .i64 (r4.1 - (1 : Int))
   if (decide (List.length a1.2.1 + List.length ([(r3.1, (x5, ()))]) <= lim)) = true then
   let x6 : List (Int × Int × Unit) := a1.2.1 ++ ([(r3.1, (x5, ()))])
   some (((a1.1, (x6, a1.2.2)), (r4.2.1, (((0 : Int), (([] : List (Int × Int × Unit)), ())), ()))))
   else none
  else
   if (r1.1 == (2 : Int)) = true then
    if (decide ((List.length a1.2.1 : Int) > (0 : Int))) = true then
     ((F_q42q 0) ((r1.2.1, ((List.length a1.2.1 : Int), ())))).bind fun r7 =>
     if (idxIn r7.1 (List.length a1.2.1)) = true then
     if (decide (List.length a1.2.1 + List.length ([at_ K_Piiq a1.2.1 r7.1.toNat]) <= lim)) = true then
     let x8 : List (Int × Int × Unit) := a1.2.1 ++ ([at_ K_Piiq a1.2.1 r7.1.toNat])
     some (((a1.1, (x8, a1.2.2)), (r7.2.1, (((0 : Int), (([] : List (Int × Int × Unit)), ())), ()))))
     else none
     else none
    else
     some ((a1, (r1.2.1, (((0 : Int), (([] : List (Int × Int × Unit)), ())), ()))))
   else
    some ((a1, (r1.2.1, (((0 : Int), (([] : List (Int × Int × Unit)), ())), ()))))
theorem F_q23q_ok (N : Nat) (d) : fnR Γ_q23q (assoc []) true [(K_BPSu8iu64q, true), (K_PiSPiiqq, true)] [K_PiSPiiqq] Try.f113.results.toList (bodyOf Try.f113) d = F_q23q N d := by kernel_rfl
noncomputable def S_q23q : FSig := ⟨[(K_BPSu8iu64q, true), (K_PiSPiiqq, true)], [K_PiSPiiqq], true, (F_q23q 0)⟩
noncomputable def Γ_q17q : Ctx := { tk := assoc tks, ar := assoc ars, fs := assoc [(62, S_q25q), (86, S_q51q), (88, S_q42q), (105, S_q72q), (107, S_q62q), (108, S_q74q), (109, S_q70q), (110, S_q37q), (111, S_spec_l2Put), (112, S_q73q)], lent := fun t => Nat.beq t 0, cs := assoc [], gs := assoc [(113, (S_q23q, { gone := [1], deep := [] }))], eqt := inL [], md := md0 }
abbrev q17q_l3_H := (List Int × Int × Int × Unit) × (Int × (List (Int × Int × Unit)) × Unit) × Int × (Int × (List (Int × Int × Unit)) × Unit) × Int × Bool × Int × Int × Unit
abbrev q17q_l3_O := ((List Int × Int × Int × Unit) × (Int × (List (Int × Int × Unit)) × Unit) × Int × (Int × (List (Int × Int × Unit)) × Unit) × Int × Bool × Int × Unit) ⊕ Empty
def q17q_l3_h : Form := [(0, .box K_PSu8iu64q 0), (4, .box K_PiSPiiqq 99), (5, .v I), (6, .box K_PiSPiiqq 99), (7, .v I), (8, .v .bool), (9, .v I), (10, .v I)]
def q17q_l3_o : Outs := [(.normal, [(0, .box K_PSu8iu64q 0), (4, .box K_PiSPiiqq 99), (5, .v I), (6, .box K_PiSPiiqq 99), (7, .v I), (8, .v .bool), (9, .v I)])]
noncomputable def q17q_l3_r (N : Nat) (back : q17q_l3_H -> Option q17q_l3_O) (d : q17q_l3_H) : Option q17q_l3_O :=
 let s0 : List Int × Int × Int × Unit := d.1
 let s4 : Int × (List (Int × Int × Unit)) × Unit := d.2.1
 let s5 : Int := d.2.2.1
 let s6 : Int × (List (Int × Int × Unit)) × Unit := d.2.2.2.1
 let s7 : Int := d.2.2.2.2.1
 let s8 : Bool := d.2.2.2.2.2.1
 let s9 : Int := d.2.2.2.2.2.2.1
 let s10 : Int := d.2.2.2.2.2.2.2.1
 if (decide (s10 < s5)) = true then
  ((F_q42q 0) ((s0, (s7, ())))).bind fun r77 =>
  if (r77.1 == (0 : Int)) = true then
   (G_l2Put ((s6.2.1, ((s9, (s10, ())), ())))).bind fun r78 =>
   let x79 : Int := IntKind.wrap .i64 (s10 + (1 : Int))
   back ((r77.2.1, (s4, (s5, ((s6.1, (r78.1, s6.2.2)), (s7, (s8, (s9, (x79, ())))))))))
  else
   let x80 : Int := IntKind.wrap .i64 (s10 + (1 : Int))
   back ((r77.2.1, (s4, (s5, (s6, (s7, (s8, (s9, (x80, ())))))))))
 else
  some (.inl ((s0, (s4, (s5, (s6, (s7, (s8, (s9, ())))))))))
noncomputable def q17q_l3 (N : Nat) : Nat -> q17q_l3_H -> Option q17q_l3_O
 | 0, _ => none
 | k + 1, d => q17q_l3_r N (q17q_l3 N k) d
theorem q17q_l3_ok (N : Nat) (back) (d) : roundR Γ_q17q (assoc []) 3 q17q_l3_h q17q_l3_o (loopOf Try.f85 3) back d = q17q_l3_r N back d := by kernel_rfl
abbrev q17q_l1_H := (List Int × Int × Int × Unit) × (Int × (List (Int × Int × Unit)) × Unit) × Int × (Int × (List (Int × Int × Unit)) × Unit) × Int × Bool × Int × Unit
abbrev q17q_l1_O := ((List Int × Int × Int × Unit) × (Int × (List (Int × Int × Unit)) × Unit) × (Int × (List (Int × Int × Unit)) × Unit) × Unit) ⊕ Empty
def q17q_l1_h : Form := [(0, .box K_PSu8iu64q 0), (4, .box K_PiSPiiqq 99), (5, .v I), (6, .box K_PiSPiiqq 99), (7, .v I), (8, .v .bool), (9, .v I)]
def q17q_l1_o : Outs := [(.normal, [(0, .box K_PSu8iu64q 0), (4, .box K_PiSPiiqq 99), (6, .box K_PiSPiiqq 99)])]
noncomputable def q17q_l1_r (N : Nat) (back : q17q_l1_H -> Option q17q_l1_O) (d : q17q_l1_H) : Option q17q_l1_O :=
 let s0 : List Int × Int × Int × Unit := d.1
 let s4 : Int × (List (Int × Int × Unit)) × Unit := d.2.1
 let s5 : Int := d.2.2.1
 let s6 : Int × (List (Int × Int × Unit)) × Unit := d.2.2.2.1
 let s7 : Int := d.2.2.2.2.1
 let s8 : Bool := d.2.2.2.2.2.1
 let s9 : Int := d.2.2.2.2.2.2.1
 if (decide (s9 < s5)) = true then
  let x62 : Int := IntKind.wrap .i64 (s9 + (1 : Int))
  (q17q_l3 N N ((s0, (s4, (s5, (s6, (s7, (s8, (s9, (x62, ())))))))))).bind fun o67 => match o67 with
  | .inl d68 =>
   let r69 : Int × Unit := g_q73q ((d68.2.2.2.2.2.2.1, ((1 : Int), ())))
   ((F_q42q 0) ((d68.1, (r69.1, ())))).bind fun r70 =>
   if (decide (d68.2.2.2.2.2.2.1 > (0 : Int))) = true then
    if (!d68.2.2.2.2.2.1) = true then
     (G_l2Near ((d68.2.2.2.1, (d68.2.2.2.2.2.2.1, (r70.1, ()))))).bind fun r71 =>
     if (!r71.1) = true then
      (G_l2Put ((d68.2.2.2.1.2.1, ((r70.1, (d68.2.2.2.2.2.2.1, ())), ())))).bind fun r72 =>
      let x73 : Int := IntKind.wrap .i64 (d68.2.2.2.2.2.2.1 + (1 : Int))
      back ((r70.2.1, (d68.2.1, (d68.2.2.1, ((d68.2.2.2.1.1, (r72.1, d68.2.2.2.1.2.2)), (d68.2.2.2.2.1, (d68.2.2.2.2.2.1, (x73, ()))))))))
     else
      let x74 : Int := IntKind.wrap .i64 (d68.2.2.2.2.2.2.1 + (1 : Int))
      back ((r70.2.1, (d68.2.1, (d68.2.2.1, (d68.2.2.2.1, (d68.2.2.2.2.1, (d68.2.2.2.2.2.1, (x74, ()))))))))
    else
     let x75 : Int := IntKind.wrap .i64 (d68.2.2.2.2.2.2.1 + (1 : Int))
     back ((r70.2.1, (d68.2.1, (d68.2.2.1, (d68.2.2.2.1, (d68.2.2.2.2.1, (d68.2.2.2.2.2.1, (x75, ()))))))))
   else
    let x76 : Int := IntKind.wrap .i64 (d68.2.2.2.2.2.2.1 + (1 : Int))
    back ((r70.2.1, (d68.2.1, (d68.2.2.1, (d68.2.2.2.1, (d68.2.2.2.2.1, (d68.2.2.2.2.2.1, (x76, ()))))))))
 else
  some (.inl ((s0, (s4, (s6, ())))))
noncomputable def q17q_l1 (N : Nat) : Nat -> q17q_l1_H -> Option q17q_l1_O
 | 0, _ => none
 | k + 1, d => q17q_l1_r N (q17q_l1 N k) d
theorem q17q_l1_ok (N : Nat) (back) (d) : roundR Γ_q17q (assoc [(3, ⟨q17q_l3_h, q17q_l3_o, q17q_l3 N N⟩)]) 1 q17q_l1_h q17q_l1_o (loopOf Try.f85 1) back d = q17q_l1_r N back d := by kernel_rfl
noncomputable def F_q17q (N : Nat) (d : (List Int × Int × Int × Unit) × Int × Unit) : Option ((Int × (List (Int × Int × Unit)) × Unit) × (List Int × Int × Int × Unit) × Unit) :=
 let a0 : List Int × Int × Int × Unit := d.1
 let a1 : Int := d.2.1
 ((F_q25q 0) ((a0, ([(4 : Int), (5 : Int), (3 : Int), (6 : Int), (2 : Int), (1 : Int), (0 : Int)], ())))).bind fun r1 =>
 if (decide (a1 > (6 : Int))) = true then
  ((F_q51q 0) ((r1.2.1, ((4 : Int), ())))).bind fun r2 =>
  if (r2.1) = true then
   ((F_q42q 0) ((r2.2.1, ((2 : Int), ())))).bind fun r3 =>
   let x4 : Int := IntKind.wrap .i64 ((7 : Int) + r3.1)
   let r5 : Int × Unit := g_q62q ((x4, (a1, ())))
   ((F_q42q 0) ((r3.2.1, ((8 : Int), ())))).bind fun r6 =>
   if (r6.1 == (0 : Int)) = true then
    ((pickF F_q74q P_path) (r5.1, ())).bind fun r7 =>
    ((F_q23q 0) ((r6.2.1, (r7.1, ())))).bind fun r8 =>
    some ((r8.1, (r8.2.1, ())))
   else
    if (r6.1 == (1 : Int)) = true then
     if (decide (r5.1 > (2 : Int))) = true then
      ((F_q70q 0) (r5.1, ())).bind fun r9 =>
      ((F_q23q 0) ((r6.2.1, (r9.1, ())))).bind fun r10 =>
      some ((r10.1, (r10.2.1, ())))
     else
      ((F_q23q 0) ((r6.2.1, ((r5.1, (([] : List (Int × Int × Unit)), ())), ())))).bind fun r11 =>
      some ((r11.1, (r11.2.1, ())))
    else
     if (r6.1 == (2 : Int)) = true then
      ((pickF F_q37q P_path) (r5.1, ())).bind fun r12 =>
      ((F_q23q 0) ((r6.2.1, (r12.1, ())))).bind fun r13 =>
      some ((r13.1, (r13.2.1, ())))
     else
      ((F_q25q 0) ((r6.2.1, ([(3 : Int), (4 : Int), (6 : Int)], ())))).bind fun r14 =>
      ((F_q51q 0) ((r14.2.1, ((6 : Int), ())))).bind fun r15 =>
      (q17q_l1 N N ((r15.2.1, (((0 : Int), (([] : List (Int × Int × Unit)), ())), (r5.1, ((r5.1, (([] : List (Int × Int × Unit)), ())), (r14.1, (r15.1, ((0 : Int), ()))))))))).bind fun o31 => match o31 with
      | .inl d32 =>
       ((F_q23q 0) ((d32.1, (d32.2.2.1, ())))).bind fun r33 =>
       some ((r33.1, (r33.2.1, ())))
  else
   let r34 : Int × Unit := g_q62q ((r1.1, (a1, ())))
   ((F_q42q 0) ((r2.2.1, ((8 : Int), ())))).bind fun r35 =>
   if (r35.1 == (0 : Int)) = true then
    ((pickF F_q74q P_path) (r34.1, ())).bind fun r36 =>
    ((F_q23q 0) ((r35.2.1, (r36.1, ())))).bind fun r37 =>
    some ((r37.1, (r37.2.1, ())))
   else
    if (r35.1 == (1 : Int)) = true then
     if (decide (r34.1 > (2 : Int))) = true then
      ((F_q70q 0) (r34.1, ())).bind fun r38 =>
      ((F_q23q 0) ((r35.2.1, (r38.1, ())))).bind fun r39 =>
      some ((r39.1, (r39.2.1, ())))
     else
      ((F_q23q 0) ((r35.2.1, ((r34.1, (([] : List (Int × Int × Unit)), ())), ())))).bind fun r40 =>
      some ((r40.1, (r40.2.1, ())))
    else
     if (r35.1 == (2 : Int)) = true then
      ((pickF F_q37q P_path) (r34.1, ())).bind fun r41 =>
      ((F_q23q 0) ((r35.2.1, (r41.1, ())))).bind fun r42 =>
      some ((r42.1, (r42.2.1, ())))
     else
      ((F_q25q 0) ((r35.2.1, ([(3 : Int), (4 : Int), (6 : Int)], ())))).bind fun r43 =>
      ((F_q51q 0) ((r43.2.1, ((6 : Int), ())))).bind fun r44 =>
      (q17q_l1 N N ((r44.2.1, (((0 : Int), (([] : List (Int × Int × Unit)), ())), (r34.1, ((r34.1, (([] : List (Int × Int × Unit)), ())), (r43.1, (r44.1, ((0 : Int), ()))))))))).bind fun o45 => match o45 with
      | .inl d46 =>
       ((F_q23q 0) ((d46.1, (d46.2.2.1, ())))).bind fun r47 =>
       some ((r47.1, (r47.2.1, ())))
 else
  let r48 : Int × Unit := g_q62q ((r1.1, (a1, ())))
  ((F_q42q 0) ((r1.2.1, ((8 : Int), ())))).bind fun r49 =>
  if (r49.1 == (0 : Int)) = true then
   ((pickF F_q74q P_path) (r48.1, ())).bind fun r50 =>
   ((F_q23q 0) ((r49.2.1, (r50.1, ())))).bind fun r51 =>
   some ((r51.1, (r51.2.1, ())))
  else
   if (r49.1 == (1 : Int)) = true then
    if (decide (r48.1 > (2 : Int))) = true then
     ((F_q70q 0) (r48.1, ())).bind fun r52 =>
     ((F_q23q 0) ((r49.2.1, (r52.1, ())))).bind fun r53 =>
     some ((r53.1, (r53.2.1, ())))
    else
     ((F_q23q 0) ((r49.2.1, ((r48.1, (([] : List (Int × Int × Unit)), ())), ())))).bind fun r54 =>
     some ((r54.1, (r54.2.1, ())))
   else
    if (r49.1 == (2 : Int)) = true then
     ((pickF F_q37q P_path) (r48.1, ())).bind fun r55 =>
     ((F_q23q 0) ((r49.2.1, (r55.1, ())))).bind fun r56 =>
     some ((r56.1, (r56.2.1, ())))
    else
     ((F_q25q 0) ((r49.2.1, ([(3 : Int), (4 : Int), (6 : Int)], ())))).bind fun r57 =>
     ((F_q51q 0) ((r57.2.1, ((6 : Int), ())))).bind fun r58 =>
     (q17q_l1 N N ((r58.2.1, (((0 : Int), (([] : List (Int × Int × Unit)), ())), (r48.1, ((r48.1, (([] : List (Int × Int × Unit)), ())), (r57.1, (r58.1, ((0 : Int), ()))))))))).bind fun o59 => match o59 with
     | .inl d60 =>
      ((F_q23q 0) ((d60.1, (d60.2.2.1, ())))).bind fun r61 =>
      some ((r61.1, (r61.2.1, ())))
theorem F_q17q_ok (N : Nat) (d) : fnR Γ_q17q (assoc [(1, ⟨q17q_l1_h, q17q_l1_o, q17q_l1 N N⟩)]) true [(K_BPSu8iu64q, true), (I, false)] [K_PiSPiiqq] Try.f85.results.toList (bodyOf Try.f85) d = F_q17q N d := by kernel_rfl
noncomputable def S_q17q : FSig := ⟨[(K_BPSu8iu64q, true), (I, false)], [K_PiSPiiqq], true, (pickF F_q17q P_someG)⟩
noncomputable def Γ_q18q : Ctx := { tk := assoc tks, ar := assoc ars, fs := assoc [(85, S_q17q)], lent := fun t => Nat.beq t 0 }
noncomputable def F_q18q (N : Nat) (d : (List Int × Int × Int × Unit) × Unit) : Option ((Int × (List (Int × Int × Unit)) × Unit) × (List Int × Int × Int × Unit) × Unit) :=
 let a0 : List Int × Int × Int × Unit := d.1
 ((pickF F_q17q P_someG) ((a0, ((8 : Int), ())))).bind fun r1 =>
 some ((r1.1, (r1.2.1, ())))
theorem F_q18q_ok (N : Nat) (d) : fnR Γ_q18q (assoc []) true [(K_BPSu8iu64q, true)] [K_PiSPiiqq] Try.f87.results.toList (bodyOf Try.f87) d = F_q18q N d := by kernel_rfl
noncomputable def S_q18q : FSig := ⟨[(K_BPSu8iu64q, true)], [K_PiSPiiqq], true, (F_q18q 0)⟩
noncomputable def Γ_q76q : Ctx := { tk := assoc tks, ar := assoc ars, fs := assoc [] }
abbrev q76q_l0_H := Int × Int × List Int × Int × Unit
abbrev q76q_l0_O := (List Int × Unit) ⊕ Empty
def q76q_l0_h : Form := [(0, .v I), (1, .v I), (5, .own K_Si 99), (6, .v I)]
def q76q_l0_o : Outs := [(.normal, [(5, .own K_Si 99)])]
noncomputable def q76q_l0_r (N : Nat) (back : q76q_l0_H -> Option q76q_l0_O) (d : q76q_l0_H) : Option q76q_l0_O :=
 let s0 : Int := d.1
 let s1 : Int := d.2.1
 let s5 : List Int := d.2.2.1
 let s6 : Int := d.2.2.2.1
 if (decide (s6 < s0)) = true then
  if (decide (0 <= s6)) = true then
  let x6 : Int := bits .and .i64 (shr .i64 s1 s6) (1 : Int)
  if (x6 == (1 : Int)) = true then
   if (decide (List.length s5 + List.length ([s6]) <= lim)) = true then
   let x7 : Int := IntKind.wrap .i64 (s6 + (1 : Int))
   back ((s0, (s1, (s5 ++ ([s6]), (x7, ())))))
   else none
  else
   let x8 : Int := IntKind.wrap .i64 (s6 + (1 : Int))
   back ((s0, (s1, (s5, (x8, ())))))
  else none
 else
  some (.inl (s5, ()))
noncomputable def q76q_l0 (N : Nat) : Nat -> q76q_l0_H -> Option q76q_l0_O
 | 0, _ => none
 | k + 1, d => q76q_l0_r N (q76q_l0 N k) d
theorem q76q_l0_ok (N : Nat) (back) (d) : roundR Γ_q76q (assoc []) 0 q76q_l0_h q76q_l0_o (loopOf Try.f89 0) back d = q76q_l0_r N back d := by kernel_rfl
noncomputable def F_q76q (N : Nat) (d : Int × Int × Unit) : Option (List Int × Unit) :=
 let a0 : Int := d.1
 let a1 : Int := d.2.1
 (q76q_l0 N N ((a0, (a1, (([] : List Int), ((0 : Int), ())))))).bind fun o4 => match o4 with
 | .inl d5 =>
  some (d5.1, ())
theorem F_q76q_ok (N : Nat) (d) : fnR Γ_q76q (assoc [(0, ⟨q76q_l0_h, q76q_l0_o, q76q_l0 N N⟩)]) true [(I, false), (I, false)] [K_Si] Try.f89.results.toList (bodyOf Try.f89) d = F_q76q N d := by kernel_rfl
noncomputable def S_q76q : FSig := ⟨[(I, false), (I, false)], [K_Si], true, (G_l2Bits)⟩
def tksLz : List (Nat × Kd) := [(3, I), (4, .bool), (5, (.int .u8)), (22, K_Su8), (24, K_SPiiq), (26, K_PiSPiiqq), (27, K_SSi), (29, K_PPiZPiiqqiSSiq), (32, K_Si), (74, K_Piiq), (80, (.int .u64)), (82, K_PSu8iu64q), (120, (.int .u64))]
def arsLz : List (Nat × Nat) := [(74, 3)]
noncomputable def Γ_q15q : Ctx := { tk := assoc tksLz, ar := assoc arsLz, fs := assoc [(62, S_q25q), (85, S_q17q), (86, S_q51q), (87, S_q18q), (88, S_q42q), (89, S_q76q)], lent := fun t => Nat.beq t 0 }
abbrev q15q_l0_H := (List Int × Int × Int × Unit) × ((Int × (List (Int × Int × Unit)) × Unit) × Int × List (List Int) × Unit) × (Int × (List (Int × Int × Unit)) × Unit) × ((Int × (List (Int × Int × Unit)) × Unit) × Int × List (List Int) × Unit) × Int × Unit
abbrev q15q_l0_O := ((List Int × Int × Int × Unit) × ((Int × (List (Int × Int × Unit)) × Unit) × Int × List (List Int) × Unit) × ((Int × (List (Int × Int × Unit)) × Unit) × Int × List (List Int) × Unit) × Unit) ⊕ Empty
def q15q_l0_h : Form := [(0, .box K_PSu8iu64q 0), (2, .box K_PPiZPiiqqiSSiq 99), (3, .box K_PiSPiiqq 0), (4, .box K_PPiZPiiqqiSSiq 99), (5, .v I)]
def q15q_l0_o : Outs := [(.normal, [(0, .box K_PSu8iu64q 0), (2, .box K_PPiZPiiqqiSSiq 99), (4, .box K_PPiZPiiqqiSSiq 99)])]
noncomputable def q15q_l0_r (N : Nat) (back : q15q_l0_H -> Option q15q_l0_O) (d : q15q_l0_H) : Option q15q_l0_O :=
 let s0 : List Int × Int × Int × Unit := d.1
 let s2 : (Int × (List (Int × Int × Unit)) × Unit) × Int × List (List Int) × Unit := d.2.1
 let s3 : Int × (List (Int × Int × Unit)) × Unit := d.2.2.1
 let s4 : (Int × (List (Int × Int × Unit)) × Unit) × Int × List (List Int) × Unit := d.2.2.2.1
 let s5 : Int := d.2.2.2.2.1
 if (decide (s5 < (List.length s3.2.1 : Int))) = true then
  ((F_q42q 0) ((s0, ((15 : Int), ())))).bind fun r29 =>
  let x30 : Int := IntKind.wrap .i64 ((1 : Int) + r29.1)
  (G_l2Bits ((s4.2.1, (x30, ())))).bind fun r31 =>
  if ((List.length r31.1 : Int) == (0 : Int)) = true then
   ((F_q51q 0) ((r29.2.1, ((4 : Int), ())))).bind fun r32 =>
   if (!r32.1) = true then
    if (decide (List.length s4.2.2.1 + List.length ([[(0 : Int)]]) <= lim)) = true then
    let x33 : Int := IntKind.wrap .i64 (s5 + (1 : Int))
    back ((r32.2.1, (s2, (s3, ((s4.1, (s4.2.1, (s4.2.2.1 ++ ([[(0 : Int)]]), s4.2.2.2))), (x33, ()))))))
    else none
   else
    if (decide (List.length s4.2.2.1 + List.length ([r31.1]) <= lim)) = true then
    let x34 : Int := IntKind.wrap .i64 (s5 + (1 : Int))
    back ((r32.2.1, (s2, (s3, ((s4.1, (s4.2.1, (s4.2.2.1 ++ ([r31.1]), s4.2.2.2))), (x34, ()))))))
    else none
  else
   if (decide (List.length s4.2.2.1 + List.length ([r31.1]) <= lim)) = true then
   let x35 : Int := IntKind.wrap .i64 (s5 + (1 : Int))
   back ((r29.2.1, (s2, (s3, ((s4.1, (s4.2.1, (s4.2.2.1 ++ ([r31.1]), s4.2.2.2))), (x35, ()))))))
   else none
 else
  some (.inl ((s0, (s2, (s4, ())))))
noncomputable def q15q_l0 (N : Nat) : Nat -> q15q_l0_H -> Option q15q_l0_O
 | 0, _ => none
 | k + 1, d => q15q_l0_r N (q15q_l0 N k) d
theorem q15q_l0_ok (N : Nat) (back) (d) : roundR Γ_q15q (assoc []) 0 q15q_l0_h q15q_l0_o (loopOf Try.f59 0) back d = q15q_l0_r N back d := by kernel_rfl
noncomputable def F_q15q (N : Nat) (d : (List Int × Int × Int × Unit) × Unit) : Option (((Int × (List (Int × Int × Unit)) × Unit) × Int × List (List Int) × Unit) × (List Int × Int × Int × Unit) × Unit) :=
 let a0 : List Int × Int × Int × Unit := d.1
 ((pickF F_q17q P_someG) ((a0, ((6 : Int), ())))).bind fun r1 =>
 ((F_q51q 0) ((r1.2.1, ((8 : Int), ())))).bind fun r2 =>
 if (r2.1) = true then
  ((F_q18q 0) (r2.2.1, ())).bind fun r3 =>
  ((F_q42q 0) ((r3.2.1, ((4 : Int), ())))).bind fun r4 =>
  let x5 : Int := IntKind.wrap .i64 ((1 : Int) + r4.1)
  (q15q_l0 N N ((r4.2.1, ((((0 : Int), (([] : List (Int × Int × Unit)), ())), ((0 : Int), (([] : List (List Int)), ()))), (r3.1, ((r3.1, (x5, (([] : List (List Int)), ()))), ((0 : Int), ()))))))).bind fun o13 => match o13 with
  | .inl d14 =>
   ((F_q42q 0) ((d14.1, ((30 : Int), ())))).bind fun r15 =>
   if (r15.1 == (0 : Int)) = true then
    ((F_q25q 0) ((r15.2.1, ([(0 : Int), (5 : Int), (-1 : Int)], ())))).bind fun r16 =>
    some (((d14.2.2.1.1, (r16.1, d14.2.2.1.2.2)), (r16.2.1, ())))
   else
    if (r15.1 == (1 : Int)) = true then
     if (decide (List.length d14.2.2.1.2.2.1 + List.length ([[(0 : Int)]]) <= lim)) = true then
     let x17 : List (List Int) := d14.2.2.1.2.2.1 ++ ([[(0 : Int)]])
     some (((d14.2.2.1.1, (d14.2.2.1.2.1, (x17, d14.2.2.1.2.2.2))), (r15.2.1, ())))
     else none
    else
     if (r15.1 == (2 : Int)) = true then
      if (decide ((List.length d14.2.2.1.2.2.1 : Int) > (0 : Int))) = true then
       if (idxIn (0 : Int) (List.length d14.2.2.1.2.2.1)) = true then
       ((F_q25q 0) ((r15.2.1, ([(4 : Int), (0 : Int), (-1 : Int)], ())))).bind fun r18 =>
       if (decide (List.length (at_ K_Si d14.2.2.1.2.2.1 (0 : Int).toNat) + List.length ([r18.1]) <= lim)) = true then
       let x19 : List Int := (at_ K_Si d14.2.2.1.2.2.1 (0 : Int).toNat) ++ ([r18.1])
       if (idxIn (0 : Int) (List.length d14.2.2.1.2.2.1)) = true then
       if (((Nat.beq (0 : Int).toNat (0 : Int).toNat) && true)) = true then
       some (((d14.2.2.1.1, (d14.2.2.1.2.1, (List.set d14.2.2.1.2.2.1 (0 : Int).toNat x19, d14.2.2.1.2.2.2))), (r18.2.1, ())))
       else none
       else none
       else none
       else none
      else
       some ((d14.2.2.1, (r15.2.1, ())))
     else
      some ((d14.2.2.1, (r15.2.1, ())))
 else
  ((F_q42q 0) ((r2.2.1, ((4 : Int), ())))).bind fun r20 =>
  let x21 : Int := IntKind.wrap .i64 ((1 : Int) + r20.1)
  (q15q_l0 N N ((r20.2.1, ((((0 : Int), (([] : List (Int × Int × Unit)), ())), ((0 : Int), (([] : List (List Int)), ()))), (r1.1, ((r1.1, (x21, (([] : List (List Int)), ()))), ((0 : Int), ()))))))).bind fun o22 => match o22 with
  | .inl d23 =>
   ((F_q42q 0) ((d23.1, ((30 : Int), ())))).bind fun r24 =>
   if (r24.1 == (0 : Int)) = true then
    ((F_q25q 0) ((r24.2.1, ([(0 : Int), (5 : Int), (-1 : Int)], ())))).bind fun r25 =>
    some (((d23.2.2.1.1, (r25.1, d23.2.2.1.2.2)), (r25.2.1, ())))
   else
    if (r24.1 == (1 : Int)) = true then
     if (decide (List.length d23.2.2.1.2.2.1 + List.length ([[(0 : Int)]]) <= lim)) = true then
     let x26 : List (List Int) := d23.2.2.1.2.2.1 ++ ([[(0 : Int)]])
     some (((d23.2.2.1.1, (d23.2.2.1.2.1, (x26, d23.2.2.1.2.2.2))), (r24.2.1, ())))
     else none
    else
     if (r24.1 == (2 : Int)) = true then
      if (decide ((List.length d23.2.2.1.2.2.1 : Int) > (0 : Int))) = true then
       if (idxIn (0 : Int) (List.length d23.2.2.1.2.2.1)) = true then
       ((F_q25q 0) ((r24.2.1, ([(4 : Int), (0 : Int), (-1 : Int)], ())))).bind fun r27 =>
       if (decide (List.length (at_ K_Si d23.2.2.1.2.2.1 (0 : Int).toNat) + List.length ([r27.1]) <= lim)) = true then
       let x28 : List Int := (at_ K_Si d23.2.2.1.2.2.1 (0 : Int).toNat) ++ ([r27.1])
       if (idxIn (0 : Int) (List.length d23.2.2.1.2.2.1)) = true then
       if (((Nat.beq (0 : Int).toNat (0 : Int).toNat) && true)) = true then
       some (((d23.2.2.1.1, (d23.2.2.1.2.1, (List.set d23.2.2.1.2.2.1 (0 : Int).toNat x28, d23.2.2.1.2.2.2))), (r27.2.1, ())))
       else none
       else none
       else none
       else none
      else
       some ((d23.2.2.1, (r24.2.1, ())))
     else
      some ((d23.2.2.1, (r24.2.1, ())))
theorem F_q15q_ok (N : Nat) (d) : fnR Γ_q15q (assoc [(0, ⟨q15q_l0_h, q15q_l0_o, q15q_l0 N N⟩)]) true [(K_BPSu8iu64q, true)] [K_PPiZPiiqqiSSiq] Try.f59.results.toList (bodyOf Try.f59) d = F_q15q N d := by kernel_rfl
noncomputable def S_q15q : FSig := ⟨[(K_BPSu8iu64q, true)], [K_PPiSPiiqqiSSiq], false, (pickF F_q15q P_table)⟩
noncomputable def Γ_q36q : Ctx := { tk := assoc tks, ar := assoc ars, fs := assoc [(62, S_q25q), (86, S_q51q), (88, S_q42q)], lent := fun t => Nat.beq t 0 }
noncomputable def F_q36q (N : Nat) (d : (List Int × Int × Int × Unit) × (Int × (List (Int × Int × Unit)) × Unit) × Unit) : Option (Int × (List Int × Int × Int × Unit) × Unit) :=
 let a0 : List Int × Int × Int × Unit := d.1
 let a1 : Int × (List (Int × Int × Unit)) × Unit := d.2.1
 if (decide (a1.1 < (1 : Int))) = true then
  ((F_q25q 0) ((a0, ([(-1 : Int), (0 : Int), (8 : Int), (4611686018427387904 : Int)], ())))).bind fun r1 =>
  some ((r1.1, (r1.2.1, ())))
 else
  if (decide (a1.1 > (8 : Int))) = true then
   ((F_q25q 0) ((a0, ([(-1 : Int), (0 : Int), (8 : Int), (4611686018427387904 : Int)], ())))).bind fun r2 =>
   some ((r2.1, (r2.2.1, ())))
  else
   ((F_q51q 0) ((a0, ((24 : Int), ())))).bind fun r3 =>
   if (r3.1) = true then
    ((F_q25q 0) ((r3.2.1, ([(-1 : Int), (0 : Int), (8 : Int), (4611686018427387904 : Int)], ())))).bind fun r4 =>
    some ((r4.1, (r4.2.1, ())))
   else
    ((F_q42q 0) ((r3.2.1, (a1.1, ())))).bind fun r5 =>
    some ((r5.1, (r5.2.1, ())))
theorem F_q36q_ok (N : Nat) (d) : fnR Γ_q36q (assoc []) true [(K_BPSu8iu64q, true), (K_PiSPiiqq, false)] [I] Try.f60.results.toList (bodyOf Try.f60) d = F_q36q N d := by kernel_rfl
noncomputable def S_q36q : FSig := ⟨[(K_BPSu8iu64q, true), (K_PiSPiiqq, false)], [I], true, (F_q36q 0)⟩
noncomputable def Γ_q31q : Ctx := { tk := assoc tks, ar := assoc ars, fs := assoc [(62, S_q25q)], lent := fun t => Nat.beq t 0 }
noncomputable def F_q31q (N : Nat) (d : (List Int × Int × Int × Unit) × Unit) : Option (Int × (List Int × Int × Int × Unit) × Unit) :=
 let a0 : List Int × Int × Int × Unit := d.1
 ((F_q25q 0) ((a0, ([(0 : Int), (1 : Int), (2 : Int), (3 : Int), (5 : Int), (10 : Int), (999 : Int), (1000 : Int), (1001 : Int), (-1 : Int), (0 : Int), (1 : Int)], ())))).bind fun r1 =>
 some ((r1.1, (r1.2.1, ())))
theorem F_q31q_ok (N : Nat) (d) : fnR Γ_q31q (assoc []) true [(K_BPSu8iu64q, true)] [I] Try.f61.results.toList (bodyOf Try.f61) d = F_q31q N d := by kernel_rfl
noncomputable def S_q31q : FSig := ⟨[(K_BPSu8iu64q, true)], [I], true, (F_q31q 0)⟩
noncomputable def Γ_q5q : Ctx := { tk := assoc tks, ar := assoc ars, fs := assoc [(59, S_q15q), (60, S_q36q), (61, S_q31q)] }
noncomputable def F_q5q (N : Nat) (d : List Int × Unit) : Option (((Int × (List (Int × Int × Unit)) × Unit) × Int × List (List Int) × Unit) × Int × Int × Int × Unit) :=
 let a0 : List Int := d.1
 ((pickF F_q15q P_table) (((a0, ((0 : Int), ((0 : Int), ()))), ()))).bind fun r5 =>
 ((F_q36q 0) ((r5.2.1, (r5.1.1, ())))).bind fun r6 =>
 ((F_q36q 0) ((r6.2.1, (r5.1.1, ())))).bind fun r7 =>
 ((F_q31q 0) (r7.2.1, ())).bind fun r8 =>
 some ((r5.1, (r6.1, (r7.1, (r8.1, ())))))
theorem F_q5q_ok (N : Nat) (d) : fnR Γ_q5q (assoc []) false [(K_Su8, false)] [K_PPiSPiiqqiSSiq, I, I, I] Try.f34.results.toList (bodyOf Try.f34) d = F_q5q N d := by kernel_rfl
noncomputable def S_q5q : FSig := ⟨[(K_Su8, false)], [K_PPiSPiiqqiSSiq, I, I, I], false, (F_q5q 0)⟩
noncomputable def Γ_q9q : Ctx := { tk := assoc tks, ar := assoc ars, fs := assoc [(34, S_q5q)] }
noncomputable def F_q9q (N : Nat) (d : List Int × Unit) : Option (((Int × (List (Int × Int × Unit)) × Unit) × Int × List (List Int) × Unit) × Int × Int × Int × Unit) :=
 let a0 : List Int := d.1
 ((F_q5q 0) (a0, ())).bind fun r2 =>
 some ((r2.1, (r2.2.1, (r2.2.2.1, (r2.2.2.2.1, ())))))
theorem F_q9q_ok (N : Nat) (d) : fnR Γ_q9q (assoc []) false [(K_Su8, false)] [K_PPiSPiiqqiSSiq, I, I, I] Try.f6.results.toList (bodyOf Try.f6) d = F_q9q N d := by kernel_rfl
noncomputable def S_q9q : FSig := ⟨[(K_Su8, false)], [K_PPiSPiiqqiSSiq, I, I, I], false, (F_q9q 0)⟩
noncomputable def Γ_q79q : Ctx := { tk := assoc tks, ar := assoc ars, fs := assoc [] }
noncomputable def F_q79q (N : Nat) (d : Int × Int × Int × Unit) : Option (Bool × Unit) :=
 let a0 : Int := d.1
 let a1 : Int := d.2.1
 let a2 : Int := d.2.2.1
 if (decide (a0 >= a1)) = true then
  some (decide (a0 <= a2), ())
 else
  some (false, ())
theorem F_q79q_ok (N : Nat) (d) : fnR Γ_q79q (assoc []) true [(I, false), (I, false), (I, false)] [.bool] Try.f46.results.toList (bodyOf Try.f46) d = F_q79q N d := by kernel_rfl
noncomputable def g_q79q (d : Int × Int × Int × Unit) : Bool × Unit :=
 let a0 : Int := d.1
 let a1 : Int := d.2.1
 let a2 : Int := d.2.2.1
 if (decide (a0 >= a1)) = true then
  (decide (a0 <= a2), ())
 else
  (false, ())
theorem F_q79q_tot (N : Nat) (d) : F_q79q N d = some (g_q79q d) := by
 unfold F_q79q g_q79q
 first
  | rfl
  | (dsimp only; (repeat' split) <;> rfl)
noncomputable def S_q79q : FSig := ⟨[(I, false), (I, false), (I, false)], [.bool], true, (fun d => some (g_q79q d))⟩
noncomputable def Γ_q57q : Ctx := { tk := assoc tks, ar := assoc ars, fs := assoc [] }
noncomputable def F_q57q (N : Nat) (d : Int × Unit) : Option (Bool × Unit) :=
 let a0 : Int := d.1
 some (a0 != a0, ())
theorem F_q57q_ok (N : Nat) (d) : fnR Γ_q57q (assoc []) true [(I, false)] [.bool] Try.f126.results.toList (bodyOf Try.f126) d = F_q57q N d := by kernel_rfl
noncomputable def g_q57q (d : Int × Unit) : Bool × Unit :=
 let a0 : Int := d.1
 (a0 != a0, ())
theorem F_q57q_tot (N : Nat) (d) : F_q57q N d = some (g_q57q d) := by
 unfold F_q57q g_q57q
 first
  | rfl
  | (dsimp only; (repeat' split) <;> rfl)
noncomputable def S_q57q : FSig := ⟨[(I, false)], [.bool], true, (fun d => some (g_q57q d))⟩
noncomputable def Γ_q41q : Ctx := { tk := assoc tks, ar := assoc ars, fs := assoc [(126, S_q57q)] }
noncomputable def F_q41q (N : Nat) (d : Int × Int × Unit) : Option (Int × Unit) :=
 let a0 : Int := d.1
 let a1 : Int := d.2.1
 let r1 : Bool × Unit := g_q57q (a0, ())
 let r2 : Bool × Unit := g_q57q (a1, ())
 if (r1.1) = true then
  if (r2.1) = true then
   some ((0 : Int), ())
  else
   some ((-1 : Int), ())
 else
  if (r2.1) = true then
   some ((1 : Int), ())
  else
   if (decide (a0 < a1)) = true then
    some ((-1 : Int), ())
   else
    if (decide (a0 > a1)) = true then
     some ((1 : Int), ())
    else
     some ((0 : Int), ())
theorem F_q41q_ok (N : Nat) (d) : fnR Γ_q41q (assoc []) true [(I, false), (I, false)] [I] Try.f106.results.toList (bodyOf Try.f106) d = F_q41q N d := by kernel_rfl
noncomputable def g_q41q (d : Int × Int × Unit) : Int × Unit :=
 let a0 : Int := d.1
 let a1 : Int := d.2.1
 let r1 : Bool × Unit := g_q57q (a0, ())
 let r2 : Bool × Unit := g_q57q (a1, ())
 if (r1.1) = true then
  if (r2.1) = true then
   ((0 : Int), ())
  else
   ((-1 : Int), ())
 else
  if (r2.1) = true then
   ((1 : Int), ())
  else
   if (decide (a0 < a1)) = true then
    ((-1 : Int), ())
   else
    if (decide (a0 > a1)) = true then
     ((1 : Int), ())
    else
     ((0 : Int), ())
theorem F_q41q_tot (N : Nat) (d) : F_q41q N d = some (g_q41q d) := by
 unfold F_q41q g_q41q
 first
  | rfl
  | (dsimp only; (repeat' split) <;> rfl)
noncomputable def S_q41q : FSig := ⟨[(I, false), (I, false)], [I], true, (fun d => some (g_q41q d))⟩
noncomputable def Γ_q7q : Ctx := { tk := assoc tks, ar := assoc ars, fs := assoc [(106, S_q41q)] }
abbrev q7q_l0_H := List Int × List Int × List Int × Int × Int × Unit
abbrev q7q_l0_O := (Int × Unit) ⊕ (List Int × List Int × Unit) ⊕ Empty
def q7q_l0_h : Form := [(0, .v K_Si), (1, .v K_Si), (9, .v K_Si), (10, .v I), (11, .v I)]
def q7q_l0_o : Outs := [(.ret, [(4, .v I)]), (.normal, [(0, .v K_Si), (1, .v K_Si)])]
noncomputable def q7q_l0_r (N : Nat) (back : q7q_l0_H -> Option q7q_l0_O) (d : q7q_l0_H) : Option q7q_l0_O :=
 let s0 : List Int := d.1
 let s1 : List Int := d.2.1
 let s9 : List Int := d.2.2.1
 let s10 : Int := d.2.2.2.1
 let s11 : Int := d.2.2.2.2.1
 if (decide (s11 < s10)) = true then
  if (idxIn s11 (List.length s9)) = true then
  if (decide (s11 >= (List.length s1 : Int))) = true then
   some (.inl ((1 : Int), ()))
  else
   if (idxIn s11 (List.length s1)) = true then
   let r6 : Int × Unit := g_q41q ((at_ I s9 s11.toNat, (at_ I s1 s11.toNat, ())))
   if (r6.1 != (0 : Int)) = true then
    some (.inl (r6.1, ()))
   else
    let x7 : Int := IntKind.wrap .i64 (s11 + (1 : Int))
    back ((s0, (s1, (s9, (s10, (x7, ()))))))
   else none
  else none
 else
  some (.inr (.inl ((s0, (s1, ())))))
noncomputable def q7q_l0 (N : Nat) : Nat -> q7q_l0_H -> Option q7q_l0_O
 | 0, _ => none
 | k + 1, d => q7q_l0_r N (q7q_l0 N k) d
theorem q7q_l0_ok (N : Nat) (back) (d) : roundR Γ_q7q (assoc []) 0 q7q_l0_h q7q_l0_o (loopOf Try.f78 0) back d = q7q_l0_r N back d := by kernel_rfl
noncomputable def F_q7q (N : Nat) (d : List Int × List Int × Unit) : Option (Int × Unit) :=
 let a0 : List Int := d.1
 let a1 : List Int := d.2.1
 (q7q_l0 N N ((a0, (a1, (a0, ((List.length a0 : Int), ((0 : Int), ()))))))).bind fun o3 => match o3 with
 | .inl d4 =>
  some (d4.1, ())
 | .inr (.inl d5) =>
  if (decide ((List.length d5.1 : Int) < (List.length d5.2.1 : Int))) = true then
   some ((-1 : Int), ())
  else
   some ((0 : Int), ())
theorem F_q7q_ok (N : Nat) (d) : fnR Γ_q7q (assoc [(0, ⟨q7q_l0_h, q7q_l0_o, q7q_l0 N N⟩)]) true [(K_Si, false), (K_Si, false)] [I] Try.f78.results.toList (bodyOf Try.f78) d = F_q7q N d := by kernel_rfl
noncomputable def S_q7q : FSig := ⟨[(K_Si, false), (K_Si, false)], [I], true, (G_compare)⟩
noncomputable def Γ_q61q : Ctx := { tk := assoc tks, ar := assoc ars, fs := assoc [(46, S_q79q), (78, S_q7q)] }
abbrev q61q_l0_H := (Int × (List (Int × Int × Unit)) × Unit) × (List (Int × Int × Unit)) × Int × Int × Unit
abbrev q61q_l0_O := (Bool × Unit) ⊕ Unit ⊕ Empty
def q61q_l0_h : Form := [(1, .box K_PiSPiiqq 0), (10, .v K_SPiiq), (11, .v I), (12, .v I)]
def q61q_l0_o : Outs := [(.ret, [(2, .v .bool)]), (.normal, [])]
noncomputable def q61q_l0_r (N : Nat) (back : q61q_l0_H -> Option q61q_l0_O) (d : q61q_l0_H) : Option q61q_l0_O :=
 let s1 : Int × (List (Int × Int × Unit)) × Unit := d.1
 let s10 : List (Int × Int × Unit) := d.2.1
 let s11 : Int := d.2.2.1
 let s12 : Int := d.2.2.2.1
 if (decide (s12 < s11)) = true then
  if (idxIn s12 (List.length s10)) = true then
  if (decide ((at_ K_Piiq s10 s12.toNat).1 < (0 : Int))) = true then
   some (.inl (false, ()))
  else
   if (decide ((at_ K_Piiq s10 s12.toNat).1 >= (at_ K_Piiq s10 s12.toNat).2.1)) = true then
    some (.inl (false, ()))
   else
    if (decide ((at_ K_Piiq s10 s12.toNat).2.1 >= s1.1)) = true then
     some (.inl (false, ()))
    else
     if (decide (s12 > (0 : Int))) = true then
      let x9 : Int := IntKind.wrap .i64 (s12 - (1 : Int))
      if (idxIn x9 (List.length s1.2.1)) = true then
      (G_compare (([(at_ K_Piiq s1.2.1 x9.toNat).1, (at_ K_Piiq s1.2.1 x9.toNat).2.1], ([(at_ K_Piiq s10 s12.toNat).1, (at_ K_Piiq s10 s12.toNat).2.1], ())))).bind fun r10 =>
      if (decide (r10.1 >= (0 : Int))) = true then
       some (.inl (false, ()))
      else
       let x11 : Int := IntKind.wrap .i64 (s12 + (1 : Int))
       back ((s1, (s10, (s11, (x11, ())))))
      else none
     else
      let x12 : Int := IntKind.wrap .i64 (s12 + (1 : Int))
      back ((s1, (s10, (s11, (x12, ())))))
  else none
 else
  some (.inr (.inl ()))
noncomputable def q61q_l0 (N : Nat) : Nat -> q61q_l0_H -> Option q61q_l0_O
 | 0, _ => none
 | k + 1, d => q61q_l0_r N (q61q_l0 N k) d
theorem q61q_l0_ok (N : Nat) (back) (d) : roundR Γ_q61q (assoc []) 0 q61q_l0_h q61q_l0_o (loopOf Try.f45 0) back d = q61q_l0_r N back d := by kernel_rfl
noncomputable def F_q61q (N : Nat) (d : (Int × (List (Int × Int × Unit)) × Unit) × Unit) : Option (Bool × Unit) :=
 let a0 : Int × (List (Int × Int × Unit)) × Unit := d.1
 let r1 : Bool × Unit := g_q79q ((a0.1, ((0 : Int), ((8 : Int), ()))))
 if (!r1.1) = true then
  some (false, ())
 else
  (q61q_l0 N N ((a0, (a0.2.1, ((List.length a0.2.1 : Int), ((0 : Int), ())))))).bind fun o6 => match o6 with
  | .inl d7 =>
   some (d7.1, ())
  | .inr (.inl d8) =>
   some (true, ())
theorem F_q61q_ok (N : Nat) (d) : fnR Γ_q61q (assoc [(0, ⟨q61q_l0_h, q61q_l0_o, q61q_l0 N N⟩)]) true [(K_PiSPiiqq, false)] [.bool] Try.f45.results.toList (bodyOf Try.f45) d = F_q61q N d := by kernel_rfl
noncomputable def S_q61q : FSig := ⟨[(K_PiSPiiqq, false)], [.bool], true, (G_graph)⟩
noncomputable def Γ_q35q : Ctx := { tk := assoc tks, ar := assoc ars, fs := assoc [] }
abbrev q35q_l0_H := List Int × Int × Unit
abbrev q35q_l0_O := (Bool × Unit) ⊕ Unit ⊕ Empty
def q35q_l0_h : Form := [(0, .v K_Si), (3, .v I)]
def q35q_l0_o : Outs := [(.ret, [(2, .v .bool)]), (.normal, [])]
noncomputable def q35q_l0_r (N : Nat) (back : q35q_l0_H -> Option q35q_l0_O) (d : q35q_l0_H) : Option q35q_l0_O :=
 let s0 : List Int := d.1
 let s3 : Int := d.2.1
 if (decide (s3 < (List.length s0 : Int))) = true then
  let x6 : Int := IntKind.wrap .i64 (s3 - (1 : Int))
  if (idxIn x6 (List.length s0)) = true then
  if (idxIn s3 (List.length s0)) = true then
  if (decide (at_ I s0 x6.toNat >= at_ I s0 s3.toNat)) = true then
   some (.inl (false, ()))
  else
   let x7 : Int := IntKind.wrap .i64 (s3 + (1 : Int))
   back ((s0, (x7, ())))
  else none
  else none
 else
  some (.inr (.inl ()))
noncomputable def q35q_l0 (N : Nat) : Nat -> q35q_l0_H -> Option q35q_l0_O
 | 0, _ => none
 | k + 1, d => q35q_l0_r N (q35q_l0 N k) d
theorem q35q_l0_ok (N : Nat) (back) (d) : roundR Γ_q35q (assoc []) 0 q35q_l0_h q35q_l0_o (loopOf Try.f49 0) back d = q35q_l0_r N back d := by kernel_rfl
noncomputable def F_q35q (N : Nat) (d : List Int × Unit) : Option (Bool × Unit) :=
 let a0 : List Int := d.1
 (q35q_l0 N N ((a0, ((1 : Int), ())))).bind fun o3 => match o3 with
 | .inl d4 =>
  some (d4.1, ())
 | .inr (.inl d5) =>
  some (true, ())
theorem F_q35q_ok (N : Nat) (d) : fnR Γ_q35q (assoc [(0, ⟨q35q_l0_h, q35q_l0_o, q35q_l0 N N⟩)]) true [(K_Si, false)] [.bool] Try.f49.results.toList (bodyOf Try.f49) d = F_q35q N d := by kernel_rfl
noncomputable def S_q35q : FSig := ⟨[(K_Si, false)], [.bool], true, (G_increasing)⟩
noncomputable def Γ_q46q : Ctx := { tk := assoc tks, ar := assoc ars, fs := assoc [(46, S_q79q)] }
abbrev q46q_l0_H := Int × Int × List Int × Int × Int × Unit
abbrev q46q_l0_O := (Bool × Unit) ⊕ Unit ⊕ Empty
def q46q_l0_h : Form := [(1, .v I), (2, .v I), (9, .v K_Si), (10, .v I), (11, .v I)]
def q46q_l0_o : Outs := [(.ret, [(6, .v .bool)]), (.normal, [])]
noncomputable def q46q_l0_r (N : Nat) (back : q46q_l0_H -> Option q46q_l0_O) (d : q46q_l0_H) : Option q46q_l0_O :=
 let s1 : Int := d.1
 let s2 : Int := d.2.1
 let s9 : List Int := d.2.2.1
 let s10 : Int := d.2.2.2.1
 let s11 : Int := d.2.2.2.2.1
 if (decide (s11 < s10)) = true then
  if (idxIn s11 (List.length s9)) = true then
  let r6 : Bool × Unit := g_q79q ((at_ I s9 s11.toNat, (s1, (s2, ()))))
  if (!r6.1) = true then
   some (.inl (false, ()))
  else
   let x7 : Int := IntKind.wrap .i64 (s11 + (1 : Int))
   back ((s1, (s2, (s9, (s10, (x7, ()))))))
  else none
 else
  some (.inr (.inl ()))
noncomputable def q46q_l0 (N : Nat) : Nat -> q46q_l0_H -> Option q46q_l0_O
 | 0, _ => none
 | k + 1, d => q46q_l0_r N (q46q_l0 N k) d
theorem q46q_l0_ok (N : Nat) (back) (d) : roundR Γ_q46q (assoc []) 0 q46q_l0_h q46q_l0_o (loopOf Try.f50 0) back d = q46q_l0_r N back d := by kernel_rfl
noncomputable def F_q46q (N : Nat) (d : List Int × Int × Int × Unit) : Option (Bool × Unit) :=
 let a0 : List Int := d.1
 let a1 : Int := d.2.1
 let a2 : Int := d.2.2.1
 (q46q_l0 N N ((a1, (a2, (a0, ((List.length a0 : Int), ((0 : Int), ()))))))).bind fun o3 => match o3 with
 | .inl d4 =>
  some (d4.1, ())
 | .inr (.inl d5) =>
  some (true, ())
theorem F_q46q_ok (N : Nat) (d) : fnR Γ_q46q (assoc [(0, ⟨q46q_l0_h, q46q_l0_o, q46q_l0 N N⟩)]) true [(K_Si, false), (I, false), (I, false)] [.bool] Try.f50.results.toList (bodyOf Try.f50) d = F_q46q N d := by kernel_rfl
noncomputable def S_q46q : FSig := ⟨[(K_Si, false), (I, false), (I, false)], [.bool], true, (G_allWithin)⟩
noncomputable def Γ_q20q : Ctx := { tk := assoc tks, ar := assoc ars, fs := assoc [(49, S_q35q), (50, S_q46q)] }
noncomputable def F_q20q (N : Nat) (d : List Int × ((Int × (List (Int × Int × Unit)) × Unit) × Int × List (List Int) × Unit) × Unit) : Option (Bool × Unit) :=
 let a0 : List Int := d.1
 let a1 : (Int × (List (Int × Int × Unit)) × Unit) × Int × List (List Int) × Unit := d.2.1
 (G_increasing (a0, ())).bind fun r1 =>
 if (!r1.1) = true then
  some (true, ())
 else
  let x2 : Int := IntKind.wrap .i64 (a1.2.1 - (1 : Int))
  (G_allWithin ((a0, ((0 : Int), (x2, ()))))).bind fun r3 =>
  some (!r3.1, ())
theorem F_q20q_ok (N : Nat) (d) : fnR Γ_q20q (assoc []) true [(K_Si, false), (K_BPPiSPiiqqiSSiq, false)] [.bool] Try.f48.results.toList (bodyOf Try.f48) d = F_q20q N d := by kernel_rfl
noncomputable def S_q20q : FSig := ⟨[(K_Si, false), (K_BPPiSPiiqqiSSiq, false)], [.bool], true, (F_q20q 0)⟩
noncomputable def FV_q20q (d : List Int × (Unit × ((Int × (List (Int × Int × Unit)) × Unit) × Int × List (List Int) × Unit) × Unit) × Unit) : Option (Bool × Unit) := (F_q20q 0) (d.1, d.2.1.2)
noncomputable def SV_q20q : FSig := ⟨[(K_Si, false), (K_F_q20q_qPBPPiSPiiqqiSSiqq, false)], [.bool], true, FV_q20q⟩
noncomputable def Γ_q1q : Ctx := { tk := assoc tks, ar := assoc ars, fs := assoc [], cs := assoc [(48, SV_q20q)] }
abbrev q1q_l0_H := List (List Int) × (Unit × ((Int × (List (Int × Int × Unit)) × Unit) × Int × List (List Int) × Unit) × Unit) × Int × Int × Unit
abbrev q1q_l0_O := (Int × Unit) ⊕ Unit ⊕ Empty
def q1q_l0_h : Form := [(0, .v K_SSi), (1, .v K_F_q20q_qPBPPiSPiiqqiSSiqq), (7, .v I), (8, .v I)]
def q1q_l0_o : Outs := [(.ret, [(4, .v I)]), (.normal, [])]
noncomputable def q1q_l0_r (N : Nat) (back : q1q_l0_H -> Option q1q_l0_O) (d : q1q_l0_H) : Option q1q_l0_O :=
 let s0 : List (List Int) := d.1
 let s1 : Unit × ((Int × (List (Int × Int × Unit)) × Unit) × Int × List (List Int) × Unit) × Unit := d.2.1
 let s7 : Int := d.2.2.1
 let s8 : Int := d.2.2.2.1
 if (decide (s8 < s7)) = true then
  if (idxIn s8 (List.length s0)) = true then
  (FV_q20q ((at_ K_Si s0 s8.toNat, (s1, ())))).bind fun r6 =>
  if (r6.1) = true then
   some (.inl (s8, ()))
  else
   let x7 : Int := IntKind.wrap .i64 (s8 + (1 : Int))
   back ((s0, (s1, (s7, (x7, ())))))
  else none
 else
  some (.inr (.inl ()))
noncomputable def q1q_l0 (N : Nat) : Nat -> q1q_l0_H -> Option q1q_l0_O
 | 0, _ => none
 | k + 1, d => q1q_l0_r N (q1q_l0 N k) d
theorem q1q_l0_ok (N : Nat) (back) (d) : roundR Γ_q1q (assoc []) 0 q1q_l0_h q1q_l0_o (loopOf Try.f79 0) back d = q1q_l0_r N back d := by kernel_rfl
noncomputable def F_q1q (N : Nat) (d : List (List Int) × (Unit × ((Int × (List (Int × Int × Unit)) × Unit) × Int × List (List Int) × Unit) × Unit) × Unit) : Option (Int × Unit) :=
 let a0 : List (List Int) := d.1
 let a1 : Unit × ((Int × (List (Int × Int × Unit)) × Unit) × Int × List (List Int) × Unit) × Unit := d.2.1
 (q1q_l0 N N ((a0, (a1, ((List.length a0 : Int), ((0 : Int), ())))))).bind fun o3 => match o3 with
 | .inl d4 =>
  some (d4.1, ())
 | .inr (.inl d5) =>
  some ((-1 : Int), ())
theorem F_q1q_ok (N : Nat) (d) : fnR Γ_q1q (assoc [(0, ⟨q1q_l0_h, q1q_l0_o, q1q_l0 N N⟩)]) true [(K_SSi, false), (K_F_q20q_qPBPPiSPiiqqiSSiqq, false)] [I] Try.f79.results.toList (bodyOf Try.f79) d = F_q1q N d := by kernel_rfl
noncomputable def S_q1q : FSig := ⟨[(K_SSi, false), (K_F_q20q_qPBPPiSPiiqqiSSiqq, false)], [I], true, (G_index84)⟩
noncomputable def Γ_q0q : Ctx := { tk := assoc tks, ar := assoc ars, fs := assoc [(79, S_q1q)] }
noncomputable def F_q0q (N : Nat) (d : List (List Int) × (Unit × ((Int × (List (Int × Int × Unit)) × Unit) × Int × List (List Int) × Unit) × Unit) × Unit) : Option (Bool × Unit) :=
 let a0 : List (List Int) := d.1
 let a1 : Unit × ((Int × (List (Int × Int × Unit)) × Unit) × Int × List (List Int) × Unit) × Unit := d.2.1
 (G_index84 ((a0, (a1, ())))).bind fun r1 =>
 some ((decide (r1.1 >= (0 : Int)), ()))
theorem F_q0q_ok (N : Nat) (d) : fnR Γ_q0q (assoc []) true [(K_SSi, false), (K_F_q20q_qPBPPiSPiiqqiSSiqq, false)] [.bool] Try.f47.results.toList (bodyOf Try.f47) d = F_q0q N d := by kernel_rfl
noncomputable def S_q0q : FSig := ⟨[(K_SSi, false), (K_F_q20q_qPBPPiSPiiqqiSSiqq, false)], [.bool], true, (F_q0q 0)⟩
noncomputable def Γ_q27q : Ctx := { tk := assoc tks, ar := assoc ars, fs := assoc [(45, S_q61q), (46, S_q79q), (47, S_q0q)], cs := assoc [], fz := fun t => Nat.beq t 1 }
noncomputable def F_q27q (N : Nat) (d : ((Int × (List (Int × Int × Unit)) × Unit) × Int × List (List Int) × Unit) × Unit) : Option (Bool × Unit) :=
 let a0 : (Int × (List (Int × Int × Unit)) × Unit) × Int × List (List Int) × Unit := d.1
 (G_graph (a0.1, ())).bind fun r1 =>
 if (!r1.1) = true then
  some (false, ())
 else
  if (a0.1.1 == (0 : Int)) = true then
   some (false, ())
  else
   let r2 : Bool × Unit := g_q79q ((a0.2.1, ((1 : Int), ((4 : Int), ()))))
   if (!r2.1) = true then
    some (false, ())
   else
    if ((List.length a0.2.2.1 : Int) != (List.length a0.1.2.1 : Int)) = true then
     some (false, ())
    else
     ((F_q0q 0) ((a0.2.2.1, (((), (a0, ())), ())))).bind fun r3 =>
     some (!r3.1, ())
theorem F_q27q_ok (N : Nat) (d) : fnR Γ_q27q (assoc []) true [(K_PPiSPiiqqiSSiq, false)] [.bool] Try.f12.results.toList (bodyOf Try.f12) d = F_q27q N d := by kernel_rfl
noncomputable def S_q27q : FSig := ⟨[(K_PPiSPiiqqiSSiq, false)], [.bool], true, (F_q27q 0)⟩
noncomputable def Γ_q63q : Ctx := { tk := assoc tks, ar := assoc ars, fs := assoc [(46, S_q79q)] }
noncomputable def F_q63q (N : Nat) (d : Int × Unit) : Option (Bool × Unit) :=
 let a0 : Int := d.1
 let r1 : Bool × Unit := g_q79q ((a0, ((0 : Int), ((1000 : Int), ()))))
 some (r1.1, ())
theorem F_q63q_ok (N : Nat) (d) : fnR Γ_q63q (assoc []) true [(I, false)] [.bool] Try.f51.results.toList (bodyOf Try.f51) d = F_q63q N d := by kernel_rfl
noncomputable def g_q63q (d : Int × Unit) : Bool × Unit :=
 let a0 : Int := d.1
 let r1 : Bool × Unit := g_q79q ((a0, ((0 : Int), ((1000 : Int), ()))))
 (r1.1, ())
theorem F_q63q_tot (N : Nat) (d) : F_q63q N d = some (g_q63q d) := by
 unfold F_q63q g_q63q
 first
  | rfl
  | (dsimp only; (repeat' split) <;> rfl)
noncomputable def S_q63q : FSig := ⟨[(I, false)], [.bool], true, (fun d => some (g_q63q d))⟩
noncomputable def Γ_q65q : Ctx := { tk := assoc tks, ar := assoc ars, fs := assoc [(12, S_q27q), (50, S_q46q), (51, S_q63q)] }
noncomputable def F_q65q (N : Nat) (d : ((Int × (List (Int × Int × Unit)) × Unit) × Int × List (List Int) × Unit) × Int × List Int × Unit) : Option (Bool × Unit) :=
 let a0 : (Int × (List (Int × Int × Unit)) × Unit) × Int × List (List Int) × Unit := d.1
 let a1 : Int := d.2.1
 let a2 : List Int := d.2.2.1
 ((F_q27q 0) (a0, ())).bind fun r1 =>
 if (r1.1) = true then
  let r2 : Bool × Unit := g_q63q (a1, ())
  if (r2.1) = true then
   let x3 : Int := IntKind.wrap .i64 (a0.1.1 - (1 : Int))
   (G_allWithin ((a2, ((0 : Int), (x3, ()))))).bind fun r4 =>
   some (r4.1, ())
  else
   some (false, ())
 else
  some (false, ())
theorem F_q65q_ok (N : Nat) (d) : fnR Γ_q65q (assoc []) true [(K_PPiSPiiqqiSSiq, false), (I, false), (K_Si, false)] [.bool] Try.f35.results.toList (bodyOf Try.f35) d = F_q65q N d := by kernel_rfl
noncomputable def S_q65q : FSig := ⟨[(K_PPiSPiiqqiSSiq, false), (I, false), (K_Si, false)], [.bool], true, (F_q65q 0)⟩
noncomputable def Γ_impl_netOf : Ctx := { tk := assoc tks, ar := assoc ars, fs := assoc [] }
abbrev impl_netOf_l0_H := (List Int × Unit) × (List Int × Unit) × (List (Int × Int × Unit)) × Int × Int × Unit
abbrev impl_netOf_l0_O := ((List Int × Unit) × (List Int × Unit) × Unit) ⊕ Empty
def impl_netOf_l0_h : Form := [(2, .box K_PSiq 99), (3, .box K_PSiq 99), (11, .v K_SPiiq), (12, .v I), (13, .v I)]
def impl_netOf_l0_o : Outs := [(.normal, [(2, .box K_PSiq 99), (3, .box K_PSiq 99)])]
noncomputable def impl_netOf_l0_r (N : Nat) (back : impl_netOf_l0_H -> Option impl_netOf_l0_O) (d : impl_netOf_l0_H) : Option impl_netOf_l0_O :=
 let s2 : List Int × Unit := d.1
 let s3 : List Int × Unit := d.2.1
 let s11 : List (Int × Int × Unit) := d.2.2.1
 let s12 : Int := d.2.2.2.1
 let s13 : Int := d.2.2.2.2.1
 if (decide (s13 < s12)) = true then
  if (idxIn s13 (List.length s11)) = true then
  if (idxIn (at_ K_Piiq s11 s13.toNat).1 (List.length s3.1)) = true then
  if (decide (0 <= (at_ K_Piiq s11 s13.toNat).2.1)) = true then
  let x9 : Int := shl .i64 (1 : Int) (at_ K_Piiq s11 s13.toNat).2.1
  let x10 : Int := bits .or .i64 (at_ I s3.1 (at_ K_Piiq s11 s13.toNat).1.toNat) x9
  if (idxIn (at_ K_Piiq s11 s13.toNat).1 (List.length s3.1)) = true then
  if (idxIn (at_ K_Piiq s11 s13.toNat).2.1 (List.length (List.set s3.1 (at_ K_Piiq s11 s13.toNat).1.toNat x10))) = true then
  if (decide (0 <= (at_ K_Piiq s11 s13.toNat).1)) = true then
  let x11 : Int := shl .i64 (1 : Int) (at_ K_Piiq s11 s13.toNat).1
  let x12 : Int := bits .or .i64 (at_ I (List.set s3.1 (at_ K_Piiq s11 s13.toNat).1.toNat x10) (at_ K_Piiq s11 s13.toNat).2.1.toNat) x11
  if (idxIn (at_ K_Piiq s11 s13.toNat).2.1 (List.length (List.set s3.1 (at_ K_Piiq s11 s13.toNat).1.toNat x10))) = true then
  let x13 : Int := IntKind.wrap .i64 (s13 + (1 : Int))
  back ((s2, ((List.set (List.set s3.1 (at_ K_Piiq s11 s13.toNat).1.toNat x10) (at_ K_Piiq s11 s13.toNat).2.1.toNat x12, s3.2), (s11, (s12, (x13, ()))))))
  else none
  else none
  else none
  else none
  else none
  else none
  else none
 else
  some (.inl ((s2, (s3, ()))))
noncomputable def impl_netOf_l0 (N : Nat) : Nat -> impl_netOf_l0_H -> Option impl_netOf_l0_O
 | 0, _ => none
 | k + 1, d => impl_netOf_l0_r N (impl_netOf_l0 N k) d
theorem impl_netOf_l0_ok (N : Nat) (back) (d) : roundR Γ_impl_netOf (assoc []) 0 impl_netOf_l0_h impl_netOf_l0_o (loopOf Try.f56 0) back d = impl_netOf_l0_r N back d := by kernel_rfl
noncomputable def F_impl_netOf (N : Nat) (d : (Int × (List (Int × Int × Unit)) × Unit) × Unit) : Option ((List Int × Unit) × Unit) :=
 let a0 : Int × (List (Int × Int × Unit)) × Unit := d.1
 if ((decide (0 <= a0.1) && decide (a0.1 <= a0.1) && decide (a0.1 <= (lim : Int)))) = true then
 let x1 : List Int := List.replicate a0.1.toNat (0 : Int)
 (impl_netOf_l0 N N (((([] : List Int), ()), ((x1, ()), (a0.2.1, ((List.length a0.2.1 : Int), ((0 : Int), ()))))))).bind fun o7 => match o7 with
 | .inl d8 =>
  some (d8.2.1, ())
 else none
theorem F_impl_netOf_ok (N : Nat) (d) : fnR Γ_impl_netOf (assoc [(0, ⟨impl_netOf_l0_h, impl_netOf_l0_o, impl_netOf_l0 N N⟩)]) true [(K_PiSPiiqq, false)] [K_PSiq] Try.f56.results.toList (bodyOf Try.f56) d = F_impl_netOf N d := by kernel_rfl
noncomputable def S_impl_netOf : FSig := ⟨[(K_PiSPiiqq, false)], [K_PSiq], true, (G_netOf)⟩
noncomputable def Γ_q10q : Ctx := { tk := assoc tks, ar := assoc ars, fs := assoc [] }
abbrev q10q_l0_H := List Int × Int × Int × Int × Unit
abbrev q10q_l0_O := (Int × Unit) ⊕ Unit ⊕ Empty
def q10q_l0_h : Form := [(0, .v K_Si), (1, .v I), (7, .v I), (8, .v I)]
def q10q_l0_o : Outs := [(.ret, [(4, .v I)]), (.normal, [])]
noncomputable def q10q_l0_r (N : Nat) (back : q10q_l0_H -> Option q10q_l0_O) (d : q10q_l0_H) : Option q10q_l0_O :=
 let s0 : List Int := d.1
 let s1 : Int := d.2.1
 let s7 : Int := d.2.2.1
 let s8 : Int := d.2.2.2.1
 if (decide (s8 < s7)) = true then
  if (idxIn s8 (List.length s0)) = true then
  if (s1 == at_ I s0 s8.toNat) = true then
   some (.inl (s8, ()))
  else
   let x5 : Int := IntKind.wrap .i64 (s8 + (1 : Int))
   back ((s0, (s1, (s7, (x5, ())))))
  else none
 else
  some (.inr (.inl ()))
noncomputable def q10q_l0 (N : Nat) : Nat -> q10q_l0_H -> Option q10q_l0_O
 | 0, _ => none
 | k + 1, d => q10q_l0_r N (q10q_l0 N k) d
theorem q10q_l0_ok (N : Nat) (back) (d) : roundR Γ_q10q (assoc []) 0 q10q_l0_h q10q_l0_o (loopOf Try.f104 0) back d = q10q_l0_r N back d := by kernel_rfl
noncomputable def F_q10q (N : Nat) (d : List Int × Int × Unit) : Option (Int × Unit) :=
 let a0 : List Int := d.1
 let a1 : Int := d.2.1
 (q10q_l0 N N ((a0, (a1, ((List.length a0 : Int), ((0 : Int), ())))))).bind fun o2 => match o2 with
 | .inl d3 =>
  some (d3.1, ())
 | .inr (.inl d4) =>
  some ((-1 : Int), ())
theorem F_q10q_ok (N : Nat) (d) : fnR Γ_q10q (assoc [(0, ⟨q10q_l0_h, q10q_l0_o, q10q_l0 N N⟩)]) true [(K_Si, false), (I, false)] [I] Try.f104.results.toList (bodyOf Try.f104) d = F_q10q N d := by kernel_rfl
noncomputable def S_q10q : FSig := ⟨[(K_Si, false), (I, false)], [I], true, (G_index)⟩
noncomputable def Γ_q6q : Ctx := { tk := assoc tks, ar := assoc ars, fs := assoc [(104, S_q10q)] }
noncomputable def F_q6q (N : Nat) (d : List Int × Int × Unit) : Option (Bool × Unit) :=
 let a0 : List Int := d.1
 let a1 : Int := d.2.1
 (G_index ((a0, (a1, ())))).bind fun r1 =>
 some ((decide (r1.1 >= (0 : Int)), ()))
theorem F_q6q_ok (N : Nat) (d) : fnR Γ_q6q (assoc []) true [(K_Si, false), (I, false)] [.bool] Try.f74.results.toList (bodyOf Try.f74) d = F_q6q N d := by kernel_rfl
noncomputable def S_q6q : FSig := ⟨[(K_Si, false), (I, false)], [.bool], true, (F_q6q 0)⟩
noncomputable def Γ_q53q : Ctx := { tk := assoc tks, ar := assoc ars, fs := assoc [(56, S_impl_netOf), (74, S_q6q)] }
abbrev q53q_l2_H := ((Int × (List (Int × Int × Unit)) × Unit) × Int × List (List Int) × Unit) × (List (List Int × Unit)) × Int × Int × Int × (List (Int × Int × Unit)) × Int × Int × Unit
abbrev q53q_l2_O := (((Int × (List (Int × Int × Unit)) × Unit) × Int × List (List Int) × Unit) × (List (List Int × Unit)) × Int × Int × Unit) ⊕ Empty
def q53q_l2_h : Form := [(1, .box K_PPiSPiiqqiSSiq 0), (3, .own K_SPSiq 99), (4, .v I), (11, .v I), (12, .v I), (25, .v K_SPiiq), (26, .v I), (27, .v I)]
def q53q_l2_o : Outs := [(.normal, [(1, .box K_PPiSPiiqqiSSiq 0), (3, .own K_SPSiq 99), (11, .v I), (12, .v I)])]
noncomputable def q53q_l2_r (N : Nat) (back : q53q_l2_H -> Option q53q_l2_O) (d : q53q_l2_H) : Option q53q_l2_O :=
 let s1 : (Int × (List (Int × Int × Unit)) × Unit) × Int × List (List Int) × Unit := d.1
 let s3 : List (List Int × Unit) := d.2.1
 let s4 : Int := d.2.2.1
 let s11 : Int := d.2.2.2.1
 let s12 : Int := d.2.2.2.2.1
 let s25 : List (Int × Int × Unit) := d.2.2.2.2.2.1
 let s26 : Int := d.2.2.2.2.2.2.1
 let s27 : Int := d.2.2.2.2.2.2.2.1
 if (decide (s27 < s26)) = true then
  if (idxIn s27 (List.length s25)) = true then
  if (idxIn s27 (List.length s1.2.2.1)) = true then
  ((F_q6q 0) ((at_ K_Si s1.2.2.1 s27.toNat, (s4, ())))).bind fun r30 =>
  if (r30.1) = true then
   if (idxIn s4 (List.length s3)) = true then
   if (idxIn (at_ K_Piiq s25 s27.toNat).1 (List.length (at_ K_PSiq s3 s4.toNat).1)) = true then
   if (decide (0 <= (at_ K_Piiq s25 s27.toNat).2.1)) = true then
   let x31 : Int := shl .i64 (1 : Int) (at_ K_Piiq s25 s27.toNat).2.1
   let x32 : Int := bits .or .i64 (at_ I (at_ K_PSiq s3 s4.toNat).1 (at_ K_Piiq s25 s27.toNat).1.toNat) x31
   if (idxIn (at_ K_Piiq s25 s27.toNat).1 (List.length (at_ K_PSiq s3 s4.toNat).1)) = true then
   let x33 : List (List Int × Unit) := List.set s3 s4.toNat (List.set (at_ K_PSiq s3 s4.toNat).1 (at_ K_Piiq s25 s27.toNat).1.toNat x32, (at_ K_PSiq s3 s4.toNat).2)
   if (idxIn s4 (List.length x33)) = true then
   if (idxIn (at_ K_Piiq s25 s27.toNat).2.1 (List.length (at_ K_PSiq x33 s4.toNat).1)) = true then
   if (decide (0 <= (at_ K_Piiq s25 s27.toNat).1)) = true then
   let x34 : Int := shl .i64 (1 : Int) (at_ K_Piiq s25 s27.toNat).1
   let x35 : Int := bits .or .i64 (at_ I (at_ K_PSiq x33 s4.toNat).1 (at_ K_Piiq s25 s27.toNat).2.1.toNat) x34
   if (idxIn (at_ K_Piiq s25 s27.toNat).2.1 (List.length (at_ K_PSiq x33 s4.toNat).1)) = true then
   let x36 : List (List Int × Unit) := List.set x33 s4.toNat (List.set (at_ K_PSiq x33 s4.toNat).1 (at_ K_Piiq s25 s27.toNat).2.1.toNat x35, (at_ K_PSiq x33 s4.toNat).2)
   let x37 : Int := IntKind.wrap .i64 (s27 + (1 : Int))
   back ((s1, (x36, (s4, (s11, (s12, (s25, (s26, (x37, ())))))))))
   else none
   else none
   else none
   else none
   else none
   else none
   else none
   else none
  else
   let x38 : Int := IntKind.wrap .i64 (s27 + (1 : Int))
   back ((s1, (s3, (s4, (s11, (s12, (s25, (s26, (x38, ())))))))))
  else none
  else none
 else
  some (.inl ((s1, (s3, (s11, (s12, ()))))))
noncomputable def q53q_l2 (N : Nat) : Nat -> q53q_l2_H -> Option q53q_l2_O
 | 0, _ => none
 | k + 1, d => q53q_l2_r N (q53q_l2 N k) d
theorem q53q_l2_ok (N : Nat) (back) (d) : roundR Γ_q53q (assoc []) 2 q53q_l2_h q53q_l2_o (loopOf Try.f37 2) back d = q53q_l2_r N back d := by kernel_rfl
abbrev q53q_l0_H := ((Int × (List (Int × Int × Unit)) × Unit) × Int × List (List Int) × Unit) × (List (List Int × Unit)) × Int × Int × Unit
abbrev q53q_l0_O := ((List (List Int × Unit)) × Unit) ⊕ Empty
def q53q_l0_h : Form := [(1, .box K_PPiSPiiqqiSSiq 0), (3, .own K_SPSiq 99), (11, .v I), (12, .v I)]
def q53q_l0_o : Outs := [(.normal, [(3, .own K_SPSiq 99)])]
noncomputable def q53q_l0_r (N : Nat) (back : q53q_l0_H -> Option q53q_l0_O) (d : q53q_l0_H) : Option q53q_l0_O :=
 let s1 : (Int × (List (Int × Int × Unit)) × Unit) × Int × List (List Int) × Unit := d.1
 let s3 : List (List Int × Unit) := d.2.1
 let s11 : Int := d.2.2.1
 let s12 : Int := d.2.2.2.1
 if (decide (s12 < s11)) = true then
  (G_netOf (((s1.1.1, (([] : List (Int × Int × Unit)), ())), ()))).bind fun r17 =>
  if (idxIn s12 (List.length s3)) = true then
  (q53q_l2 N N ((s1, (List.set s3 s12.toNat r17.1, (s12, (s11, (s12, (s1.1.2.1, ((List.length s1.1.2.1 : Int), ((0 : Int), ())))))))))).bind fun o27 => match o27 with
  | .inl d28 =>
   let x29 : Int := IntKind.wrap .i64 (d28.2.2.2.1 + (1 : Int))
   back ((d28.1, (d28.2.1, (d28.2.2.1, (x29, ())))))
  else none
 else
  some (.inl (s3, ()))
noncomputable def q53q_l0 (N : Nat) : Nat -> q53q_l0_H -> Option q53q_l0_O
 | 0, _ => none
 | k + 1, d => q53q_l0_r N (q53q_l0 N k) d
theorem q53q_l0_ok (N : Nat) (back) (d) : roundR Γ_q53q (assoc [(2, ⟨q53q_l2_h, q53q_l2_o, q53q_l2 N N⟩)]) 0 q53q_l0_h q53q_l0_o (loopOf Try.f37 0) back d = q53q_l0_r N back d := by kernel_rfl
noncomputable def F_q53q (N : Nat) (d : ((Int × (List (Int × Int × Unit)) × Unit) × Int × List (List Int) × Unit) × Unit) : Option ((List (List Int × Unit)) × Unit) :=
 let a0 : (Int × (List (Int × Int × Unit)) × Unit) × Int × List (List Int) × Unit := d.1
 if ((decide (0 <= a0.2.1) && decide (a0.2.1 <= a0.2.1) && decide (a0.2.1 <= (lim : Int)))) = true then
 let x1 : List (List Int × Unit) := List.replicate a0.2.1.toNat (([] : List Int), ())
 (q53q_l0 N N ((a0, (x1, ((List.length x1 : Int), ((0 : Int), ())))))).bind fun o15 => match o15 with
 | .inl d16 =>
  some (d16.1, ())
 else none
theorem F_q53q_ok (N : Nat) (d) : fnR Γ_q53q (assoc [(0, ⟨q53q_l0_h, q53q_l0_o, q53q_l0 N N⟩)]) true [(K_PPiSPiiqqiSSiq, false)] [K_SPSiq] Try.f37.results.toList (bodyOf Try.f37) d = F_q53q N d := by kernel_rfl
noncomputable def S_q53q : FSig := ⟨[(K_PPiSPiiqqiSSiq, false)], [K_SPSiq], true, (G_openNets)⟩
noncomputable def Γ_q43q : Ctx := { tk := assoc tks, ar := assoc ars, fs := assoc [] }
abbrev q43q_l0_H := Int × Int × List Int × Int × Int × Unit
abbrev q43q_l0_O := (Int × Unit) ⊕ Empty
def q43q_l0_h : Form := [(1, .v I), (5, .v I), (10, .v K_Si), (11, .v I), (12, .v I)]
def q43q_l0_o : Outs := [(.normal, [(5, .v I)])]
noncomputable def q43q_l0_r (N : Nat) (back : q43q_l0_H -> Option q43q_l0_O) (d : q43q_l0_H) : Option q43q_l0_O :=
 let s1 : Int := d.1
 let s5 : Int := d.2.1
 let s10 : List Int := d.2.2.1
 let s11 : Int := d.2.2.2.1
 let s12 : Int := d.2.2.2.2.1
 if (decide (s12 < s11)) = true then
  if (idxIn s12 (List.length s10)) = true then
  if (decide (0 <= s12)) = true then
  let x7 : Int := bits .and .i64 (shr .i64 s1 s12) (1 : Int)
  if (x7 == (1 : Int)) = true then
   let x8 : Int := bits .or .i64 s5 (at_ I s10 s12.toNat)
   let x9 : Int := IntKind.wrap .i64 (s12 + (1 : Int))
   back ((s1, (x8, (s10, (s11, (x9, ()))))))
  else
   let x10 : Int := IntKind.wrap .i64 (s12 + (1 : Int))
   back ((s1, (s5, (s10, (s11, (x10, ()))))))
  else none
  else none
 else
  some (.inl (s5, ()))
noncomputable def q43q_l0 (N : Nat) : Nat -> q43q_l0_H -> Option q43q_l0_O
 | 0, _ => none
 | k + 1, d => q43q_l0_r N (q43q_l0 N k) d
theorem q43q_l0_ok (N : Nat) (back) (d) : roundR Γ_q43q (assoc []) 0 q43q_l0_h q43q_l0_o (loopOf Try.f38 0) back d = q43q_l0_r N back d := by kernel_rfl
noncomputable def F_q43q (N : Nat) (d : (List Int × Unit) × Int × Unit) : Option (Int × Unit) :=
 let a0 : List Int × Unit := d.1
 let a1 : Int := d.2.1
 (q43q_l0 N N ((a1, (a1, (a0.1, ((List.length a0.1 : Int), ((0 : Int), ()))))))).bind fun o5 => match o5 with
 | .inl d6 =>
  some (d6.1, ())
theorem F_q43q_ok (N : Nat) (d) : fnR Γ_q43q (assoc [(0, ⟨q43q_l0_h, q43q_l0_o, q43q_l0 N N⟩)]) true [(K_PSiq, false), (I, false)] [I] Try.f38.results.toList (bodyOf Try.f38) d = F_q43q N d := by kernel_rfl
noncomputable def S_q43q : FSig := ⟨[(K_PSiq, false), (I, false)], [I], true, (G_around)⟩
noncomputable def Γ_q11q : Ctx := { tk := assoc tks, ar := assoc ars, fs := assoc [(37, S_q53q), (38, S_q43q)] }
abbrev q11q_l0_H := Int × Int × ((Int × (List (Int × Int × Unit)) × Unit) × Int × List (List Int) × Unit) × (List (List Int × Unit)) × Int × Int × Unit
abbrev q11q_l0_O := (Int × Bool × Unit) ⊕ Unit ⊕ Empty
def q11q_l0_h : Form := [(2, .v I), (3, .v I), (4, .box K_PPiSPiiqqiSSiq 0), (10, .own K_SPSiq 99), (11, .v I), (17, .v I)]
def q11q_l0_o : Outs := [(.ret, [(8, .v I), (9, .v .bool)]), (.normal, [])]
noncomputable def q11q_l0_r (N : Nat) (back : q11q_l0_H -> Option q11q_l0_O) (d : q11q_l0_H) : Option q11q_l0_O :=
 let s2 : Int := d.1
 let s3 : Int := d.2.1
 let s4 : (Int × (List (Int × Int × Unit)) × Unit) × Int × List (List Int) × Unit := d.2.2.1
 let s10 : List (List Int × Unit) := d.2.2.2.1
 let s11 : Int := d.2.2.2.2.1
 let s17 : Int := d.2.2.2.2.2.1
 if (decide (s17 < (33 : Int))) = true then
  if (decide (0 <= s2)) = true then
  let x9 : Int := bits .and .i64 (shr .i64 s11 s2) (1 : Int)
  if (x9 == (1 : Int)) = true then
   some (.inl ((s17, (true, ()))))
  else
   if (s4.2.1 != 0) = true then
   let x10 : Int := (IntKind.wrap .i64 (s3 + s17)).tmod s4.2.1
   if (idxIn x10 (List.length s10)) = true then
   (G_around ((at_ K_PSiq s10 x10.toNat, (s11, ())))).bind fun r11 =>
   let x12 : Int := IntKind.wrap .i64 (s17 + (1 : Int))
   back ((s2, (s3, (s4, (s10, (r11.1, (x12, ())))))))
   else none
   else none
  else none
 else
  some (.inr (.inl ()))
noncomputable def q11q_l0 (N : Nat) : Nat -> q11q_l0_H -> Option q11q_l0_O
 | 0, _ => none
 | k + 1, d => q11q_l0_r N (q11q_l0 N k) d
theorem q11q_l0_ok (N : Nat) (back) (d) : roundR Γ_q11q (assoc []) 0 q11q_l0_h q11q_l0_o (loopOf Try.f36 0) back d = q11q_l0_r N back d := by kernel_rfl
noncomputable def F_q11q (N : Nat) (d : ((Int × (List (Int × Int × Unit)) × Unit) × Int × List (List Int) × Unit) × Int × Int × Int × Unit) : Option (Int × Bool × Unit) :=
 let a0 : (Int × (List (Int × Int × Unit)) × Unit) × Int × List (List Int) × Unit := d.1
 let a1 : Int := d.2.1
 let a2 : Int := d.2.2.1
 let a3 : Int := d.2.2.2.1
 (G_openNets (a0, ())).bind fun r1 =>
 if (decide (0 <= a1)) = true then
 (q11q_l0 N N ((a2, (a3, (a0, (r1.1, (shl .i64 (1 : Int) a1, ((0 : Int), ())))))))).bind fun o6 => match o6 with
 | .inl d7 =>
  some ((d7.1, (d7.2.1, ())))
 | .inr (.inl d8) =>
  some (((0 : Int), (false, ())))
 else none
theorem F_q11q_ok (N : Nat) (d) : fnR Γ_q11q (assoc [(0, ⟨q11q_l0_h, q11q_l0_o, q11q_l0 N N⟩)]) true [(K_PPiSPiiqqiSSiq, false), (I, false), (I, false), (I, false)] [I, .bool] Try.f36.results.toList (bodyOf Try.f36) d = F_q11q N d := by kernel_rfl
noncomputable def S_q11q : FSig := ⟨[(K_PPiSPiiqqiSSiq, false), (I, false), (I, false), (I, false)], [I, .bool], true, (G_earliestArrival)⟩
noncomputable def Γ_q40q : Ctx := { tk := assoc tks, ar := assoc ars, fs := assoc [] }
noncomputable def F_q40q (N : Nat) (d : (List Int × Unit) × Int × Unit) : Option (Int × Unit) :=
 let a0 : List Int × Unit := d.1
 let a1 : Int := d.2.1
 if (idxIn a1 (List.length a0.1)) = true then
 if (decide (0 <= a1)) = true then
 let x1 : Int := bits .or .i64 (at_ I a0.1 a1.toNat) (shl .i64 (1 : Int) a1)
 some (x1, ())
 else none
 else none
theorem F_q40q_ok (N : Nat) (d) : fnR Γ_q40q (assoc []) true [(K_PSiq, false), (I, false)] [I] Try.f40.results.toList (bodyOf Try.f40) d = F_q40q N d := by kernel_rfl
noncomputable def S_q40q : FSig := ⟨[(K_PSiq, false), (I, false)], [I], true, (F_q40q 0)⟩
noncomputable def Γ_impl_setOf : Ctx := { tk := assoc tks, ar := assoc ars, fs := assoc [] }
abbrev impl_setOf_l0_H := Int × List Int × Int × Unit
abbrev impl_setOf_l0_O := (List Int × Unit) ⊕ Empty
def impl_setOf_l0_h : Form := [(0, .v I), (3, .own K_Si 99), (4, .v I)]
def impl_setOf_l0_o : Outs := [(.normal, [(3, .own K_Si 99)])]
noncomputable def impl_setOf_l0_r (N : Nat) (back : impl_setOf_l0_H -> Option impl_setOf_l0_O) (d : impl_setOf_l0_H) : Option impl_setOf_l0_O :=
 let s0 : Int := d.1
 let s3 : List Int := d.2.1
 let s4 : Int := d.2.2.1
 if (decide (0 <= s4)) = true then
 if (shr .i64 s0 s4 != (0 : Int)) = true then
  if (decide (0 <= s4)) = true then
  let x6 : Int := bits .and .i64 (shr .i64 s0 s4) (1 : Int)
  if (x6 == (1 : Int)) = true then
   if (decide (List.length s3 + List.length ([s4]) <= lim)) = true then
   let x7 : Int := IntKind.wrap .i64 (s4 + (1 : Int))
   back ((s0, (s3 ++ ([s4]), (x7, ()))))
   else none
  else
   let x8 : Int := IntKind.wrap .i64 (s4 + (1 : Int))
   back ((s0, (s3, (x8, ()))))
  else none
 else
  some (.inl (s3, ()))
 else none
noncomputable def impl_setOf_l0 (N : Nat) : Nat -> impl_setOf_l0_H -> Option impl_setOf_l0_O
 | 0, _ => none
 | k + 1, d => impl_setOf_l0_r N (impl_setOf_l0 N k) d
theorem impl_setOf_l0_ok (N : Nat) (back) (d) : roundR Γ_impl_setOf (assoc []) 0 impl_setOf_l0_h impl_setOf_l0_o (loopOf Try.f39 0) back d = impl_setOf_l0_r N back d := by kernel_rfl
noncomputable def F_impl_setOf (N : Nat) (d : Int × Unit) : Option (List Int × Unit) :=
 let a0 : Int := d.1
 (impl_setOf_l0 N N ((a0, (([] : List Int), ((0 : Int), ()))))).bind fun o4 => match o4 with
 | .inl d5 =>
  some (d5.1, ())
theorem F_impl_setOf_ok (N : Nat) (d) : fnR Γ_impl_setOf (assoc [(0, ⟨impl_setOf_l0_h, impl_setOf_l0_o, impl_setOf_l0 N N⟩)]) true [(I, false)] [K_Si] Try.f39.results.toList (bodyOf Try.f39) d = F_impl_setOf N d := by kernel_rfl
noncomputable def S_impl_setOf : FSig := ⟨[(I, false)], [K_Si], true, (G_setOf)⟩
noncomputable def Γ_q24q : Ctx := { tk := assoc tks, ar := assoc ars, fs := assoc [(35, S_q65q), (36, S_q11q), (37, S_q53q), (38, S_q43q), (39, S_impl_setOf), (40, S_q40q)] }
abbrev q24q_l0_H := Int × Int × ((Int × (List (Int × Int × Unit)) × Unit) × Int × List (List Int) × Unit) × Int × (List (List Int × Unit)) × List Int × Int × Unit
abbrev q24q_l0_O := (Int × Int × ((Int × (List (Int × Int × Unit)) × Unit) × Int × List (List Int) × Unit) × Int × (List (List Int × Unit)) × List Int × Unit) ⊕ Empty
def q24q_l0_h : Form := [(1, .v I), (3, .v I), (4, .box K_PPiSPiiqqiSSiq 0), (10, .v I), (12, .own K_SPSiq 99), (13, .own K_Si 99), (14, .v I)]
def q24q_l0_o : Outs := [(.normal, [(1, .v I), (3, .v I), (4, .box K_PPiSPiiqqiSSiq 0), (10, .v I), (12, .own K_SPSiq 99), (13, .own K_Si 99)])]
noncomputable def q24q_l0_r (N : Nat) (back : q24q_l0_H -> Option q24q_l0_O) (d : q24q_l0_H) : Option q24q_l0_O :=
 let s1 : Int := d.1
 let s3 : Int := d.2.1
 let s4 : (Int × (List (Int × Int × Unit)) × Unit) × Int × List (List Int) × Unit := d.2.2.1
 let s10 : Int := d.2.2.2.1
 let s12 : List (List Int × Unit) := d.2.2.2.2.1
 let s13 : List Int := d.2.2.2.2.2.1
 let s14 : Int := d.2.2.2.2.2.2.1
 if (decide (s14 >= (0 : Int))) = true then
  if (s4.2.1 != 0) = true then
  let x23 : Int := (IntKind.wrap .i64 (s3 + s14)).tmod s4.2.1
  if (idxIn x23 (List.length s12)) = true then
  let x24 : Int := IntKind.wrap .i64 (s14 + (1 : Int))
  if (idxIn x24 (List.length s13)) = true then
  (G_around ((at_ K_PSiq s12 x23.toNat, (at_ I s13 x24.toNat, ())))).bind fun r25 =>
  if (idxIn s14 (List.length s13)) = true then
  let x26 : Int := IntKind.wrap .i64 (s14 - (1 : Int))
  back ((s1, (s3, (s4, (s10, (s12, (List.set s13 s14.toNat r25.1, (x26, ()))))))))
  else none
  else none
  else none
  else none
 else
  some (.inl ((s1, (s3, (s4, (s10, (s12, (s13, ()))))))))
noncomputable def q24q_l0 (N : Nat) : Nat -> q24q_l0_H -> Option q24q_l0_O
 | 0, _ => none
 | k + 1, d => q24q_l0_r N (q24q_l0 N k) d
theorem q24q_l0_ok (N : Nat) (back) (d) : roundR Γ_q24q (assoc []) 0 q24q_l0_h q24q_l0_o (loopOf Try.f7 0) back d = q24q_l0_r N back d := by kernel_rfl
abbrev q24q_l2_H := Int × Int × ((Int × (List (Int × Int × Unit)) × Unit) × Int × List (List Int) × Unit) × (List (List Int × Unit)) × List Int × List Int × Int × Int × Unit
abbrev q24q_l2_O := (List Int × Unit) ⊕ Empty
def q24q_l2_h : Form := [(1, .v I), (3, .v I), (4, .box K_PPiSPiiqqiSSiq 0), (12, .own K_SPSiq 99), (13, .own K_Si 99), (15, .own K_Si 99), (70, .v I), (71, .v I)]
def q24q_l2_o : Outs := [(.normal, [(15, .own K_Si 99)])]
noncomputable def q24q_l2_r (N : Nat) (back : q24q_l2_H -> Option q24q_l2_O) (d : q24q_l2_H) : Option q24q_l2_O :=
 let s1 : Int := d.1
 let s3 : Int := d.2.1
 let s4 : (Int × (List (Int × Int × Unit)) × Unit) × Int × List (List Int) × Unit := d.2.2.1
 let s12 : List (List Int × Unit) := d.2.2.2.1
 let s13 : List Int := d.2.2.2.2.1
 let s15 : List Int := d.2.2.2.2.2.1
 let s70 : Int := d.2.2.2.2.2.2.1
 let s71 : Int := d.2.2.2.2.2.2.2.1
 if (decide (s71 < s70)) = true then
  if (s4.2.1 != 0) = true then
  let x27 : Int := (IntKind.wrap .i64 (s3 + s71)).tmod s4.2.1
  if (idxIn x27 (List.length s12)) = true then
  ((F_q40q 0) ((at_ K_PSiq s12 x27.toNat, (s1, ())))).bind fun r28 =>
  let x29 : Int := IntKind.wrap .i64 (s71 + (1 : Int))
  if (idxIn x29 (List.length s13)) = true then
  let x30 : Int := bits .and .i64 r28.1 (at_ I s13 x29.toNat)
  (G_setOf (x30, ())).bind fun r31 =>
  if (idxIn (0 : Int) (List.length r31.1)) = true then
  if (decide (List.length s15 + List.length ([at_ I r31.1 (0 : Int).toNat]) <= lim)) = true then
  let x32 : List Int := s15 ++ ([at_ I r31.1 (0 : Int).toNat])
  let x33 : Int := IntKind.wrap .i64 (s71 + (1 : Int))
  back ((at_ I r31.1 (0 : Int).toNat, (s3, (s4, (s12, (s13, (x32, (s70, (x33, ())))))))))
  else none
  else none
  else none
  else none
  else none
 else
  some (.inl (s15, ()))
noncomputable def q24q_l2 (N : Nat) : Nat -> q24q_l2_H -> Option q24q_l2_O
 | 0, _ => none
 | k + 1, d => q24q_l2_r N (q24q_l2 N k) d
theorem q24q_l2_ok (N : Nat) (back) (d) : roundR Γ_q24q (assoc []) 2 q24q_l2_h q24q_l2_o (loopOf Try.f7 2) back d = q24q_l2_r N back d := by kernel_rfl
noncomputable def F_q24q (N : Nat) (d : ((Int × (List (Int × Int × Unit)) × Unit) × Int × List (List Int) × Unit) × Int × Int × Int × Unit) : Option (List Int × Bool × Unit) :=
 let a0 : (Int × (List (Int × Int × Unit)) × Unit) × Int × List (List Int) × Unit := d.1
 let a1 : Int := d.2.1
 let a2 : Int := d.2.2.1
 let a3 : Int := d.2.2.2.1
 ((F_q65q 0) ((a0, (a3, ([a1, a2], ()))))).bind fun r1 =>
 if (!r1.1) = true then
  some ((([] : List Int), (false, ())))
 else
  (G_earliestArrival ((a0, (a1, (a2, (a3, ())))))).bind fun r2 =>
  if (!r2.2.1) = true then
   some ((([] : List Int), (false, ())))
  else
   (G_openNets (a0, ())).bind fun r3 =>
   let x4 : Int := IntKind.wrap .i64 (r2.1 + (1 : Int))
   if ((decide (0 <= x4) && decide (x4 <= x4) && decide (x4 <= (lim : Int)))) = true then
   let x5 : List Int := List.replicate x4.toNat (0 : Int)
   if (decide (0 <= a2)) = true then
   if (idxIn r2.1 (List.length x5)) = true then
   let x6 : List Int := List.set x5 r2.1.toNat (shl .i64 (1 : Int) a2)
   let x7 : Int := IntKind.wrap .i64 (r2.1 - (1 : Int))
   (q24q_l0 N N ((a1, (a3, (a0, (r2.1, (r3.1, (x6, (x7, ()))))))))).bind fun o12 => match o12 with
   | .inl d13 =>
    (q24q_l2 N N ((d13.1, (d13.2.1, (d13.2.2.1, (d13.2.2.2.2.1, (d13.2.2.2.2.2.1, ([d13.1], (d13.2.2.2.1, ((0 : Int), ())))))))))).bind fun o21 => match o21 with
    | .inl d22 =>
     some ((d22.1, (true, ())))
   else none
   else none
   else none
theorem F_q24q_ok (N : Nat) (d) : fnR Γ_q24q (assoc [(0, ⟨q24q_l0_h, q24q_l0_o, q24q_l0 N N⟩), (2, ⟨q24q_l2_h, q24q_l2_o, q24q_l2 N N⟩)]) true [(K_PPiSPiiqqiSSiq, false), (I, false), (I, false), (I, false)] [K_Si, .bool] Try.f7.results.toList (bodyOf Try.f7) d = F_q24q N d := by kernel_rfl
noncomputable def S_q24q : FSig := ⟨[(K_PPiSPiiqqiSSiq, false), (I, false), (I, false), (I, false)], [K_Si, .bool], true, (G_earliestTrip)⟩
noncomputable def Γ_spec_l1In : Ctx := { tk := assoc tks, ar := assoc ars, fs := assoc [] }
noncomputable def F_spec_l1In (N : Nat) (d : Int × Int × Int × Unit) : Option (Bool × Unit) :=
 let a0 : Int := d.1
 let a1 : Int := d.2.1
 let a2 : Int := d.2.2.1
 if (decide (a0 >= a1)) = true then
  some (decide (a0 <= a2), ())
 else
  some (false, ())
theorem F_spec_l1In_ok (N : Nat) (d) : fnR Γ_spec_l1In (assoc []) true [(I, false), (I, false), (I, false)] [.bool] Try.f84.results.toList (bodyOf Try.f84) d = F_spec_l1In N d := by kernel_rfl
noncomputable def g_spec_l1In (d : Int × Int × Int × Unit) : Bool × Unit :=
 let a0 : Int := d.1
 let a1 : Int := d.2.1
 let a2 : Int := d.2.2.1
 if (decide (a0 >= a1)) = true then
  (decide (a0 <= a2), ())
 else
  (false, ())
theorem F_spec_l1In_tot (N : Nat) (d) : F_spec_l1In N d = some (g_spec_l1In d) := by
 unfold F_spec_l1In g_spec_l1In
 first
  | rfl
  | (dsimp only; (repeat' split) <;> rfl)
noncomputable def S_spec_l1In : FSig := ⟨[(I, false), (I, false), (I, false)], [.bool], true, (fun d => some (g_spec_l1In d))⟩
noncomputable def Γ_q56q : Ctx := { tk := assoc tks, ar := assoc ars, fs := assoc [(84, S_spec_l1In)] }
abbrev q56q_l0_H := List Int × Int × Int × Int × Unit
abbrev q56q_l0_O := (Bool × Unit) ⊕ Unit ⊕ Empty
def q56q_l0_h : Form := [(0, .v K_Si), (1, .v I), (2, .v I), (7, .v I)]
def q56q_l0_o : Outs := [(.ret, [(6, .v .bool)]), (.normal, [])]
noncomputable def q56q_l0_r (N : Nat) (back : q56q_l0_H -> Option q56q_l0_O) (d : q56q_l0_H) : Option q56q_l0_O :=
 let s0 : List Int := d.1
 let s1 : Int := d.2.1
 let s2 : Int := d.2.2.1
 let s7 : Int := d.2.2.2.1
 if (decide (s7 < (List.length s0 : Int))) = true then
  if (idxIn s7 (List.length s0)) = true then
  let r8 : Bool × Unit := g_spec_l1In ((at_ I s0 s7.toNat, (s1, (s2, ()))))
  if (!r8.1) = true then
   some (.inl (false, ()))
  else
   if (decide (s7 > (0 : Int))) = true then
    let x9 : Int := IntKind.wrap .i64 (s7 - (1 : Int))
    if (idxIn x9 (List.length s0)) = true then
    if (idxIn s7 (List.length s0)) = true then
    if (decide (at_ I s0 x9.toNat >= at_ I s0 s7.toNat)) = true then
     some (.inl (false, ()))
    else
     let x10 : Int := IntKind.wrap .i64 (s7 + (1 : Int))
     back ((s0, (s1, (s2, (x10, ())))))
    else none
    else none
   else
    let x11 : Int := IntKind.wrap .i64 (s7 + (1 : Int))
    back ((s0, (s1, (s2, (x11, ())))))
  else none
 else
  some (.inr (.inl ()))
noncomputable def q56q_l0 (N : Nat) : Nat -> q56q_l0_H -> Option q56q_l0_O
 | 0, _ => none
 | k + 1, d => q56q_l0_r N (q56q_l0 N k) d
theorem q56q_l0_ok (N : Nat) (back) (d) : roundR Γ_q56q (assoc []) 0 q56q_l0_h q56q_l0_o (loopOf Try.f83 0) back d = q56q_l0_r N back d := by kernel_rfl
noncomputable def F_q56q (N : Nat) (d : List Int × Int × Int × Unit) : Option (Bool × Unit) :=
 let a0 : List Int := d.1
 let a1 : Int := d.2.1
 let a2 : Int := d.2.2.1
 (q56q_l0 N N ((a0, (a1, (a2, ((0 : Int), ())))))).bind fun o5 => match o5 with
 | .inl d6 =>
  some (d6.1, ())
 | .inr (.inl d7) =>
  some (true, ())
theorem F_q56q_ok (N : Nat) (d) : fnR Γ_q56q (assoc [(0, ⟨q56q_l0_h, q56q_l0_o, q56q_l0 N N⟩)]) true [(K_Si, false), (I, false), (I, false)] [.bool] Try.f83.results.toList (bodyOf Try.f83) d = F_q56q N d := by kernel_rfl
noncomputable def S_q56q : FSig := ⟨[(K_Si, false), (I, false), (I, false)], [.bool], true, (G_l1Rising)⟩
noncomputable def Γ_q81q : Ctx := { tk := assoc tks, ar := assoc ars, fs := assoc [(84, S_spec_l1In), (115, S_q55q)] }
abbrev q81q_l0_H := (Int × (List (Int × Int × Unit)) × Unit) × Int × Unit
abbrev q81q_l0_O := (Bool × Unit) ⊕ ((Int × (List (Int × Int × Unit)) × Unit) × Unit) ⊕ Empty
def q81q_l0_h : Form := [(1, .box K_PiSPiiqq 0), (3, .v I)]
def q81q_l0_o : Outs := [(.ret, [(2, .v .bool)]), (.normal, [(1, .box K_PiSPiiqq 0)])]
noncomputable def q81q_l0_r (N : Nat) (back : q81q_l0_H -> Option q81q_l0_O) (d : q81q_l0_H) : Option q81q_l0_O :=
 let s1 : Int × (List (Int × Int × Unit)) × Unit := d.1
 let s3 : Int := d.2.1
 if (decide (s3 < (List.length s1.2.1 : Int))) = true then
  if (idxIn s3 (List.length s1.2.1)) = true then
  let x13 : Int := IntKind.wrap .i64 (s1.1 - (1 : Int))
  let r14 : Bool × Unit := g_spec_l1In (((at_ K_Piiq s1.2.1 s3.toNat).1, ((0 : Int), (x13, ()))))
  if (!r14.1) = true then
   some (.inl (false, ()))
  else
   let x15 : Int := IntKind.wrap .i64 (s1.1 - (1 : Int))
   let r16 : Bool × Unit := g_spec_l1In (((at_ K_Piiq s1.2.1 s3.toNat).2.1, ((0 : Int), (x15, ()))))
   if (!r16.1) = true then
    some (.inl (false, ()))
   else
    if (decide ((at_ K_Piiq s1.2.1 s3.toNat).1 >= (at_ K_Piiq s1.2.1 s3.toNat).2.1)) = true then
     some (.inl (false, ()))
    else
     if (decide (s3 > (0 : Int))) = true then
      let x17 : Int := IntKind.wrap .i64 (s3 - (1 : Int))
      if (idxIn x17 (List.length s1.2.1)) = true then
      let r18 : Bool × Unit := g_q55q ((at_ K_Piiq s1.2.1 x17.toNat, (at_ K_Piiq s1.2.1 s3.toNat, ())))
      if (!r18.1) = true then
       some (.inl (false, ()))
      else
       let x19 : Int := IntKind.wrap .i64 (s3 + (1 : Int))
       back ((s1, (x19, ())))
      else none
     else
      let x20 : Int := IntKind.wrap .i64 (s3 + (1 : Int))
      back ((s1, (x20, ())))
  else none
 else
  some (.inr (.inl (s1, ())))
noncomputable def q81q_l0 (N : Nat) : Nat -> q81q_l0_H -> Option q81q_l0_O
 | 0, _ => none
 | k + 1, d => q81q_l0_r N (q81q_l0 N k) d
theorem q81q_l0_ok (N : Nat) (back) (d) : roundR Γ_q81q (assoc []) 0 q81q_l0_h q81q_l0_o (loopOf Try.f90 0) back d = q81q_l0_r N back d := by kernel_rfl
noncomputable def F_q81q (N : Nat) (d : (Int × (List (Int × Int × Unit)) × Unit) × Unit) : Option (Bool × Unit) :=
 let a0 : Int × (List (Int × Int × Unit)) × Unit := d.1
 (q81q_l0 N N ((a0, ((0 : Int), ())))).bind fun o9 => match o9 with
 | .inl d10 =>
  some (d10.1, ())
 | .inr (.inl d11) =>
  let r12 : Bool × Unit := g_spec_l1In ((d11.1.1, ((0 : Int), ((8 : Int), ()))))
  some (r12.1, ())
theorem F_q81q_ok (N : Nat) (d) : fnR Γ_q81q (assoc [(0, ⟨q81q_l0_h, q81q_l0_o, q81q_l0 N N⟩)]) true [(K_PiSPiiqq, false)] [.bool] Try.f90.results.toList (bodyOf Try.f90) d = F_q81q N d := by kernel_rfl
noncomputable def S_q81q : FSig := ⟨[(K_PiSPiiqq, false)], [.bool], true, (G_graph)⟩
noncomputable def Γ_q69q : Ctx := { tk := assoc tks, ar := assoc ars, fs := assoc [(84, S_spec_l1In), (90, S_q81q)] }
noncomputable def F_q69q (N : Nat) (d : (Int × (List (Int × Int × Unit)) × Unit) × Int × Unit) : Option (Bool × Unit) :=
 let a0 : Int × (List (Int × Int × Unit)) × Unit := d.1
 let a1 : Int := d.2.1
 (G_graph (a0, ())).bind fun r1 =>
 if (r1.1) = true then
  if (decide (a0.1 > (0 : Int))) = true then
   let r2 : Bool × Unit := g_spec_l1In ((a1, ((1 : Int), ((3 : Int), ()))))
   some (r2.1, ())
  else
   some (false, ())
 else
  some (false, ())
theorem F_q69q_ok (N : Nat) (d) : fnR Γ_q69q (assoc []) true [(K_PiSPiiqq, false), (I, false)] [.bool] Try.f65.results.toList (bodyOf Try.f65) d = F_q69q N d := by kernel_rfl
noncomputable def S_q69q : FSig := ⟨[(K_PiSPiiqq, false), (I, false)], [.bool], true, (F_q69q 0)⟩
noncomputable def Γ_q66q : Ctx := { tk := assoc tks, ar := assoc ars, fs := assoc [(65, S_q69q), (83, S_q56q), (84, S_spec_l1In)] }
abbrev q66q_l0_H := ((Int × (List (Int × Int × Unit)) × Unit) × Int × List (List Int) × Unit) × Int × Unit
abbrev q66q_l0_O := (Bool × Unit) ⊕ (((Int × (List (Int × Int × Unit)) × Unit) × Int × List (List Int) × Unit) × Unit) ⊕ Empty
def q66q_l0_h : Form := [(1, .box K_PPiSPiiqqiSSiq 0), (3, .v I)]
def q66q_l0_o : Outs := [(.ret, [(2, .v .bool)]), (.normal, [(1, .box K_PPiSPiiqqiSSiq 0)])]
noncomputable def q66q_l0_r (N : Nat) (back : q66q_l0_H -> Option q66q_l0_O) (d : q66q_l0_H) : Option q66q_l0_O :=
 let s1 : (Int × (List (Int × Int × Unit)) × Unit) × Int × List (List Int) × Unit := d.1
 let s3 : Int := d.2.1
 if (decide (s3 < (List.length s1.2.2.1 : Int))) = true then
  if (idxIn s3 (List.length s1.2.2.1)) = true then
  let x9 : Int := IntKind.wrap .i64 (s1.2.1 - (1 : Int))
  (G_l1Rising ((at_ K_Si s1.2.2.1 s3.toNat, ((0 : Int), (x9, ()))))).bind fun r10 =>
  if (!r10.1) = true then
   some (.inl (false, ()))
  else
   let x11 : Int := IntKind.wrap .i64 (s3 + (1 : Int))
   back ((s1, (x11, ())))
  else none
 else
  some (.inr (.inl (s1, ())))
noncomputable def q66q_l0 (N : Nat) : Nat -> q66q_l0_H -> Option q66q_l0_O
 | 0, _ => none
 | k + 1, d => q66q_l0_r N (q66q_l0 N k) d
theorem q66q_l0_ok (N : Nat) (back) (d) : roundR Γ_q66q (assoc []) 0 q66q_l0_h q66q_l0_o (loopOf Try.f53 0) back d = q66q_l0_r N back d := by kernel_rfl
noncomputable def F_q66q (N : Nat) (d : ((Int × (List (Int × Int × Unit)) × Unit) × Int × List (List Int) × Unit) × Unit) : Option (Bool × Unit) :=
 let a0 : (Int × (List (Int × Int × Unit)) × Unit) × Int × List (List Int) × Unit := d.1
 (q66q_l0 N N ((a0, ((0 : Int), ())))).bind fun o4 => match o4 with
 | .inl d5 =>
  some (d5.1, ())
 | .inr (.inl d6) =>
  ((F_q69q 0) ((d6.1.1, ((1 : Int), ())))).bind fun r7 =>
  if (r7.1) = true then
   let r8 : Bool × Unit := g_spec_l1In ((d6.1.2.1, ((1 : Int), ((4 : Int), ()))))
   if (r8.1) = true then
    some ((List.length d6.1.2.2.1 : Int) == (List.length d6.1.1.2.1 : Int), ())
   else
    some (false, ())
  else
   some (false, ())
theorem F_q66q_ok (N : Nat) (d) : fnR Γ_q66q (assoc [(0, ⟨q66q_l0_h, q66q_l0_o, q66q_l0 N N⟩)]) true [(K_PPiSPiiqqiSSiq, false)] [.bool] Try.f53.results.toList (bodyOf Try.f53) d = F_q66q N d := by kernel_rfl
noncomputable def S_q66q : FSig := ⟨[(K_PPiSPiiqqiSSiq, false)], [.bool], true, (G_l11Good)⟩
noncomputable def Γ_q77q : Ctx := { tk := assoc tks, ar := assoc ars, fs := assoc [(84, S_spec_l1In)] }
noncomputable def F_q77q (N : Nat) (d : (Int × (List (Int × Int × Unit)) × Unit) × Int × Unit) : Option (Bool × Unit) :=
 let a0 : Int × (List (Int × Int × Unit)) × Unit := d.1
 let a1 : Int := d.2.1
 let x1 : Int := IntKind.wrap .i64 (a0.1 - (1 : Int))
 let r2 : Bool × Unit := g_spec_l1In ((a1, ((0 : Int), (x1, ()))))
 some (r2.1, ())
theorem F_q77q_ok (N : Nat) (d) : fnR Γ_q77q (assoc []) true [(K_PiSPiiqq, false), (I, false)] [.bool] Try.f57.results.toList (bodyOf Try.f57) d = F_q77q N d := by kernel_rfl
noncomputable def g_q77q (d : (Int × (List (Int × Int × Unit)) × Unit) × Int × Unit) : Bool × Unit :=
 let a0 : Int × (List (Int × Int × Unit)) × Unit := d.1
 let a1 : Int := d.2.1
 let x1 : Int := IntKind.wrap .i64 (a0.1 - (1 : Int))
 let r2 : Bool × Unit := g_spec_l1In ((a1, ((0 : Int), (x1, ()))))
 (r2.1, ())
theorem F_q77q_tot (N : Nat) (d) : F_q77q N d = some (g_q77q d) := by
 unfold F_q77q g_q77q
 first
  | rfl
  | (dsimp only; (repeat' split) <;> rfl)
noncomputable def S_q77q : FSig := ⟨[(K_PiSPiiqq, false), (I, false)], [.bool], true, (fun d => some (g_q77q d))⟩
noncomputable def Γ_q59q : Ctx := { tk := assoc tks, ar := assoc ars, fs := assoc [(84, S_spec_l1In)] }
noncomputable def F_q59q (N : Nat) (d : Int × Unit) : Option (Bool × Unit) :=
 let a0 : Int := d.1
 let r1 : Bool × Unit := g_spec_l1In ((a0, ((0 : Int), ((1000 : Int), ()))))
 some (r1.1, ())
theorem F_q59q_ok (N : Nat) (d) : fnR Γ_q59q (assoc []) true [(I, false)] [.bool] Try.f54.results.toList (bodyOf Try.f54) d = F_q59q N d := by kernel_rfl
noncomputable def g_q59q (d : Int × Unit) : Bool × Unit :=
 let a0 : Int := d.1
 let r1 : Bool × Unit := g_spec_l1In ((a0, ((0 : Int), ((1000 : Int), ()))))
 (r1.1, ())
theorem F_q59q_tot (N : Nat) (d) : F_q59q N d = some (g_q59q d) := by
 unfold F_q59q g_q59q
 first
  | rfl
  | (dsimp only; (repeat' split) <;> rfl)
noncomputable def S_q59q : FSig := ⟨[(I, false)], [.bool], true, (fun d => some (g_q59q d))⟩
noncomputable def Γ_q68q : Ctx := { tk := assoc tks, ar := assoc ars, fs := assoc [(53, S_q66q), (54, S_q59q), (57, S_q77q)] }
noncomputable def F_q68q (N : Nat) (d : ((Int × (List (Int × Int × Unit)) × Unit) × Int × List (List Int) × Unit) × Int × Int × Int × Unit) : Option (Bool × Unit) :=
 let a0 : (Int × (List (Int × Int × Unit)) × Unit) × Int × List (List Int) × Unit := d.1
 let a1 : Int := d.2.1
 let a2 : Int := d.2.2.1
 let a3 : Int := d.2.2.2.1
 (G_l11Good (a0, ())).bind fun r1 =>
 if (r1.1) = true then
  let r2 : Bool × Unit := g_q77q ((a0.1, (a1, ())))
  if (r2.1) = true then
   let r3 : Bool × Unit := g_q77q ((a0.1, (a2, ())))
   if (r3.1) = true then
    let r4 : Bool × Unit := g_q59q (a3, ())
    some (r4.1, ())
   else
    some (false, ())
  else
   some (false, ())
 else
  some (false, ())
theorem F_q68q_ok (N : Nat) (d) : fnR Γ_q68q (assoc []) true [(K_PPiSPiiqqiSSiq, false), (I, false), (I, false), (I, false)] [.bool] Try.f41.results.toList (bodyOf Try.f41) d = F_q68q N d := by kernel_rfl
noncomputable def S_q68q : FSig := ⟨[(K_PPiSPiiqqiSSiq, false), (I, false), (I, false), (I, false)], [.bool], true, (F_q68q 0)⟩
noncomputable def Γ_spec_l1Has : Ctx := { tk := assoc tks, ar := assoc ars, fs := assoc [] }
abbrev spec_l1Has_l0_H := List Int × Int × Int × Unit
abbrev spec_l1Has_l0_O := (Bool × Unit) ⊕ Unit ⊕ Empty
def spec_l1Has_l0_h : Form := [(0, .v K_Si), (1, .v I), (5, .v I)]
def spec_l1Has_l0_o : Outs := [(.ret, [(4, .v .bool)]), (.normal, [])]
noncomputable def spec_l1Has_l0_r (N : Nat) (back : spec_l1Has_l0_H -> Option spec_l1Has_l0_O) (d : spec_l1Has_l0_H) : Option spec_l1Has_l0_O :=
 let s0 : List Int := d.1
 let s1 : Int := d.2.1
 let s5 : Int := d.2.2.1
 if (decide (s5 < (List.length s0 : Int))) = true then
  if (idxIn s5 (List.length s0)) = true then
  if (at_ I s0 s5.toNat == s1) = true then
   some (.inl (true, ()))
  else
   let x5 : Int := IntKind.wrap .i64 (s5 + (1 : Int))
   back ((s0, (s1, (x5, ()))))
  else none
 else
  some (.inr (.inl ()))
noncomputable def spec_l1Has_l0 (N : Nat) : Nat -> spec_l1Has_l0_H -> Option spec_l1Has_l0_O
 | 0, _ => none
 | k + 1, d => spec_l1Has_l0_r N (spec_l1Has_l0 N k) d
theorem spec_l1Has_l0_ok (N : Nat) (back) (d) : roundR Γ_spec_l1Has (assoc []) 0 spec_l1Has_l0_h spec_l1Has_l0_o (loopOf Try.f75 0) back d = spec_l1Has_l0_r N back d := by kernel_rfl
noncomputable def F_spec_l1Has (N : Nat) (d : List Int × Int × Unit) : Option (Bool × Unit) :=
 let a0 : List Int := d.1
 let a1 : Int := d.2.1
 (spec_l1Has_l0 N N ((a0, (a1, ((0 : Int), ()))))).bind fun o2 => match o2 with
 | .inl d3 =>
  some (d3.1, ())
 | .inr (.inl d4) =>
  some (false, ())
theorem F_spec_l1Has_ok (N : Nat) (d) : fnR Γ_spec_l1Has (assoc [(0, ⟨spec_l1Has_l0_h, spec_l1Has_l0_o, spec_l1Has_l0 N N⟩)]) true [(K_Si, false), (I, false)] [.bool] Try.f75.results.toList (bodyOf Try.f75) d = F_spec_l1Has N d := by kernel_rfl
noncomputable def S_spec_l1Has : FSig := ⟨[(K_Si, false), (I, false)], [.bool], true, (G_l1Has)⟩
noncomputable def Γ_q64q : Ctx := { tk := assoc tks, ar := assoc ars, fs := assoc [(75, S_spec_l1Has)] }
abbrev q64q_l0_H := Int × ((Int × (List (Int × Int × Unit)) × Unit) × Int × List (List Int) × Unit) × (Int × (List (Int × Int × Unit)) × Unit) × (Int × (List (Int × Int × Unit)) × Unit) × Int × Unit
abbrev q64q_l0_O := ((Int × (List (Int × Int × Unit)) × Unit) × (Int × (List (Int × Int × Unit)) × Unit) × Unit) ⊕ Empty
def q64q_l0_h : Form := [(1, .v I), (2, .box K_PPiSPiiqqiSSiq 0), (4, .box K_PiSPiiqq 99), (5, .box K_PiSPiiqq 99), (6, .v I)]
def q64q_l0_o : Outs := [(.normal, [(4, .box K_PiSPiiqq 99), (5, .box K_PiSPiiqq 99)])]
noncomputable def q64q_l0_r (N : Nat) (back : q64q_l0_H -> Option q64q_l0_O) (d : q64q_l0_H) : Option q64q_l0_O :=
 let s1 : Int := d.1
 let s2 : (Int × (List (Int × Int × Unit)) × Unit) × Int × List (List Int) × Unit := d.2.1
 let s4 : Int × (List (Int × Int × Unit)) × Unit := d.2.2.1
 let s5 : Int × (List (Int × Int × Unit)) × Unit := d.2.2.2.1
 let s6 : Int := d.2.2.2.2.1
 if (decide (s6 < (List.length s2.1.2.1 : Int))) = true then
  if (idxIn s6 (List.length s2.2.2.1)) = true then
  if (s2.2.1 != 0) = true then
  (G_l1Has ((at_ K_Si s2.2.2.1 s6.toNat, (s1.tmod s2.2.1, ())))).bind fun r7 =>
  if (r7.1) = true then
   if (idxIn s6 (List.length s2.1.2.1)) = true then
   if (decide (List.length s5.2.1 + List.length ([at_ K_Piiq s2.1.2.1 s6.toNat]) <= lim)) = true then
   let x8 : List (Int × Int × Unit) := s5.2.1 ++ ([at_ K_Piiq s2.1.2.1 s6.toNat])
   let x9 : Int := IntKind.wrap .i64 (s6 + (1 : Int))
   back ((s1, (s2, (s4, ((s5.1, (x8, s5.2.2)), (x9, ()))))))
   else none
   else none
  else
   let x10 : Int := IntKind.wrap .i64 (s6 + (1 : Int))
   back ((s1, (s2, (s4, (s5, (x10, ()))))))
  else none
  else none
 else
  some (.inl ((s4, (s5, ()))))
noncomputable def q64q_l0 (N : Nat) : Nat -> q64q_l0_H -> Option q64q_l0_O
 | 0, _ => none
 | k + 1, d => q64q_l0_r N (q64q_l0 N k) d
theorem q64q_l0_ok (N : Nat) (back) (d) : roundR Γ_q64q (assoc []) 0 q64q_l0_h q64q_l0_o (loopOf Try.f44 0) back d = q64q_l0_r N back d := by kernel_rfl
noncomputable def F_q64q (N : Nat) (d : ((Int × (List (Int × Int × Unit)) × Unit) × Int × List (List Int) × Unit) × Int × Unit) : Option ((Int × (List (Int × Int × Unit)) × Unit) × Unit) :=
 let a0 : (Int × (List (Int × Int × Unit)) × Unit) × Int × List (List Int) × Unit := d.1
 let a1 : Int := d.2.1
 (q64q_l0 N N ((a1, (a0, (((0 : Int), (([] : List (Int × Int × Unit)), ())), ((a0.1.1, (([] : List (Int × Int × Unit)), ())), ((0 : Int), ()))))))).bind fun o5 => match o5 with
 | .inl d6 =>
  some (d6.2.1, ())
theorem F_q64q_ok (N : Nat) (d) : fnR Γ_q64q (assoc [(0, ⟨q64q_l0_h, q64q_l0_o, q64q_l0 N N⟩)]) true [(K_PPiSPiiqqiSSiq, false), (I, false)] [K_PiSPiiqq] Try.f44.results.toList (bodyOf Try.f44) d = F_q64q N d := by kernel_rfl
noncomputable def S_q64q : FSig := ⟨[(K_PPiSPiiqqiSSiq, false), (I, false)], [K_PiSPiiqq], true, (G_l11Open)⟩
noncomputable def Γ_q30q : Ctx := { tk := assoc tks, ar := assoc ars, fs := assoc [(105, S_q72q)] }
abbrev q30q_l0_H := Int × (Int × (List (Int × Int × Unit)) × Unit) × List Int × Int × Unit
abbrev q30q_l0_O := (List Int × Unit) ⊕ Empty
def q30q_l0_h : Form := [(1, .v I), (2, .box K_PiSPiiqq 0), (5, .own K_Si 99), (6, .v I)]
def q30q_l0_o : Outs := [(.normal, [(5, .own K_Si 99)])]
noncomputable def q30q_l0_r (N : Nat) (back : q30q_l0_H -> Option q30q_l0_O) (d : q30q_l0_H) : Option q30q_l0_O :=
 let s1 : Int := d.1
 let s2 : Int × (List (Int × Int × Unit)) × Unit := d.2.1
 let s5 : List Int := d.2.2.1
 let s6 : Int := d.2.2.2.1
 if (decide (s6 < s2.1)) = true then
  (G_l2Near ((s2, (s1, (s6, ()))))).bind fun r6 =>
  if (r6.1) = true then
   if (decide (List.length s5 + List.length ([s6]) <= lim)) = true then
   let x7 : Int := IntKind.wrap .i64 (s6 + (1 : Int))
   back ((s1, (s2, (s5 ++ ([s6]), (x7, ())))))
   else none
  else
   let x8 : Int := IntKind.wrap .i64 (s6 + (1 : Int))
   back ((s1, (s2, (s5, (x8, ())))))
 else
  some (.inl (s5, ()))
noncomputable def q30q_l0 (N : Nat) : Nat -> q30q_l0_H -> Option q30q_l0_O
 | 0, _ => none
 | k + 1, d => q30q_l0_r N (q30q_l0 N k) d
theorem q30q_l0_ok (N : Nat) (back) (d) : roundR Γ_q30q (assoc []) 0 q30q_l0_h q30q_l0_o (loopOf Try.f77 0) back d = q30q_l0_r N back d := by kernel_rfl
noncomputable def F_q30q (N : Nat) (d : (Int × (List (Int × Int × Unit)) × Unit) × Int × Unit) : Option (List Int × Unit) :=
 let a0 : Int × (List (Int × Int × Unit)) × Unit := d.1
 let a1 : Int := d.2.1
 (q30q_l0 N N ((a1, (a0, (([] : List Int), ((0 : Int), ())))))).bind fun o4 => match o4 with
 | .inl d5 =>
  some (d5.1, ())
theorem F_q30q_ok (N : Nat) (d) : fnR Γ_q30q (assoc [(0, ⟨q30q_l0_h, q30q_l0_o, q30q_l0 N N⟩)]) true [(K_PiSPiiqq, false), (I, false)] [K_Si] Try.f77.results.toList (bodyOf Try.f77) d = F_q30q N d := by kernel_rfl
noncomputable def S_q30q : FSig := ⟨[(K_PiSPiiqq, false), (I, false)], [K_Si], true, (G_l2Neighbors)⟩
noncomputable def Γ_spec_l1Put : Ctx := { tk := assoc tks, ar := assoc ars, fs := assoc [] }
abbrev spec_l1Put_l0_H := List Int × Int × Int × Unit
abbrev spec_l1Put_l0_O := (List Int × Int × Int × Unit) ⊕ Empty
def spec_l1Put_l0_h : Form := [(0, .v K_Si), (1, .v I), (5, .v I)]
def spec_l1Put_l0_o : Outs := [(.normal, [(0, .v K_Si), (1, .v I), (5, .v I)])]
noncomputable def spec_l1Put_l0_r (N : Nat) (back : spec_l1Put_l0_H -> Option spec_l1Put_l0_O) (d : spec_l1Put_l0_H) : Option spec_l1Put_l0_O :=
 let s0 : List Int := d.1
 let s1 : Int := d.2.1
 let s5 : Int := d.2.2.1
 if (decide (s5 < (List.length s0 : Int))) = true then
  if (idxIn s5 (List.length s0)) = true then
  if (decide (at_ I s0 s5.toNat < s1)) = true then
   let x11 : Int := IntKind.wrap .i64 (s5 + (1 : Int))
   back ((s0, (s1, (x11, ()))))
  else
   some (.inl ((s0, (s1, (s5, ())))))
  else none
 else
  some (.inl ((s0, (s1, (s5, ())))))
noncomputable def spec_l1Put_l0 (N : Nat) : Nat -> spec_l1Put_l0_H -> Option spec_l1Put_l0_O
 | 0, _ => none
 | k + 1, d => spec_l1Put_l0_r N (spec_l1Put_l0 N k) d
theorem spec_l1Put_l0_ok (N : Nat) (back) (d) : roundR Γ_spec_l1Put (assoc []) 0 spec_l1Put_l0_h spec_l1Put_l0_o (loopOf Try.f76 0) back d = spec_l1Put_l0_r N back d := by kernel_rfl
noncomputable def F_spec_l1Put (N : Nat) (d : List Int × Int × Unit) : Option (List Int × Unit) :=
 let a0 : List Int := d.1
 let a1 : Int := d.2.1
 (spec_l1Put_l0 N N ((a0, (a1, ((0 : Int), ()))))).bind fun o5 => match o5 with
 | .inl d6 =>
  if (decide (d6.2.2.1 < (List.length d6.1 : Int))) = true then
   if (idxIn d6.2.2.1 (List.length d6.1)) = true then
   if (at_ I d6.1 d6.2.2.1.toNat == d6.2.1) = true then
    some (d6.1, ())
   else
    if ((decide (0 <= (0 : Int)) && decide ((0 : Int) <= d6.2.2.1) && decide (d6.2.2.1 <= (List.length d6.1 : Int)))) = true then
    if (decide (List.length ([] : List Int) + List.length (sub_ d6.1 (0 : Int) d6.2.2.1) <= lim)) = true then
    let x7 : List Int := ([] : List Int) ++ (sub_ d6.1 (0 : Int) d6.2.2.1)
    if (decide (List.length x7 + List.length ([d6.2.1]) <= lim)) = true then
    if ((decide (0 <= d6.2.2.1) && decide (d6.2.2.1 <= (List.length d6.1 : Int)) && decide ((List.length d6.1 : Int) <= (List.length d6.1 : Int)))) = true then
    let x8 : List Int := sub_ d6.1 d6.2.2.1 (List.length d6.1 : Int)
    if (decide (List.length (x7 ++ ([d6.2.1])) + List.length x8 <= lim)) = true then
    some (((x7 ++ ([d6.2.1])) ++ x8, ()))
    else none
    else none
    else none
    else none
    else none
   else none
  else
   if ((decide (0 <= (0 : Int)) && decide ((0 : Int) <= d6.2.2.1) && decide (d6.2.2.1 <= (List.length d6.1 : Int)))) = true then
   if (decide (List.length ([] : List Int) + List.length (sub_ d6.1 (0 : Int) d6.2.2.1) <= lim)) = true then
   let x9 : List Int := ([] : List Int) ++ (sub_ d6.1 (0 : Int) d6.2.2.1)
   if (decide (List.length x9 + List.length ([d6.2.1]) <= lim)) = true then
   if ((decide (0 <= d6.2.2.1) && decide (d6.2.2.1 <= (List.length d6.1 : Int)) && decide ((List.length d6.1 : Int) <= (List.length d6.1 : Int)))) = true then
   let x10 : List Int := sub_ d6.1 d6.2.2.1 (List.length d6.1 : Int)
   if (decide (List.length (x9 ++ ([d6.2.1])) + List.length x10 <= lim)) = true then
   some (((x9 ++ ([d6.2.1])) ++ x10, ()))
   else none
   else none
   else none
   else none
   else none
theorem F_spec_l1Put_ok (N : Nat) (d) : fnR Γ_spec_l1Put (assoc [(0, ⟨spec_l1Put_l0_h, spec_l1Put_l0_o, spec_l1Put_l0 N N⟩)]) false [(K_Si, false), (I, false)] [K_Si] Try.f76.results.toList (bodyOf Try.f76) d = F_spec_l1Put N d := by kernel_rfl
noncomputable def S_spec_l1Put : FSig := ⟨[(K_Si, false), (I, false)], [K_Si], false, (G_l1Put)⟩
noncomputable def Γ_q60q : Ctx := { tk := assoc tks, ar := assoc ars, fs := assoc [], cs := assoc [], gs := assoc [], eqt := inL [], md := { gone := [0], deep := [] }, cut := fun t => bif Nat.beq t 33 then 1 else 0 }
abbrev q60q_l0_H := List Int × Int × Int × Unit
abbrev q60q_l0_O := (List Int × Int × Int × Unit) ⊕ Empty
def q60q_l0_h : Form := [(0, .own K_Si 1), (1, .v I), (5, .v I)]
def q60q_l0_o : Outs := [(.normal, [(0, .own K_Si 1), (1, .v I), (5, .v I)])]
noncomputable def q60q_l0_r (N : Nat) (back : q60q_l0_H -> Option q60q_l0_O) (d : q60q_l0_H) : Option q60q_l0_O :=
 let s0 : List Int := d.1
 let s1 : Int := d.2.1
 let s5 : Int := d.2.2.1
 if (decide (s5 < (List.length s0 : Int))) = true then
  if (idxIn s5 (List.length s0)) = true then
  if (decide (at_ I s0 s5.toNat < s1)) = true then
   let x8 : Int := IntKind.wrap .i64 (s5 + (1 : Int))
   back ((s0, (s1, (x8, ()))))
  else
   some (.inl ((s0, (s1, (s5, ())))))
  else none
 else
  some (.inl ((s0, (s1, (s5, ())))))
noncomputable def q60q_l0 (N : Nat) : Nat -> q60q_l0_H -> Option q60q_l0_O
 | 0, _ => none
 | k + 1, d => q60q_l0_r N (q60q_l0 N k) d
theorem q60q_l0_ok (N : Nat) (back) (d) : roundR Γ_q60q (assoc []) 0 q60q_l0_h q60q_l0_o (loopOf Try.f76 0) back d = q60q_l0_r N back d := by kernel_rfl
noncomputable def F_q60q (N : Nat) (d : List Int × Int × Unit) : Option (List Int × List Int × Unit) :=
 let a0 : List Int := d.1
 let a1 : Int := d.2.1
 (q60q_l0 N N ((a0, (a1, ((0 : Int), ()))))).bind fun o2 => match o2 with
 | .inl d3 =>
  if (decide (d3.2.2.1 < (List.length d3.1 : Int))) = true then
   if (idxIn d3.2.2.1 (List.length d3.1)) = true then
   if (at_ I d3.1 d3.2.2.1.toNat == d3.2.1) = true then
    some ((d3.1, (([] : List Int), ())))
   else
    if ((decide (0 <= (0 : Int)) && decide ((0 : Int) <= d3.2.2.1) && decide (d3.2.2.1 <= (List.length d3.1 : Int)))) = true then
    if (decide (List.length ([] : List Int) + List.length (sub_ d3.1 (0 : Int) d3.2.2.1) <= lim)) = true then
    let x4 : List Int := ([] : List Int) ++ (sub_ d3.1 (0 : Int) d3.2.2.1)
    if (decide (List.length x4 + List.length ([d3.2.1]) <= lim)) = true then
    if ((decide (0 <= d3.2.2.1) && decide (d3.2.2.1 <= (List.length d3.1 : Int)) && decide ((List.length d3.1 : Int) <= (List.length d3.1 : Int)))) = true then
    let x5 : List Int := sub_ d3.1 d3.2.2.1 (List.length d3.1 : Int)
    if (decide (List.length (x4 ++ ([d3.2.1])) + List.length x5 <= lim)) = true then
    some (((x4 ++ ([d3.2.1])) ++ x5, (([] : List Int), ())))
    else none
    else none
    else none
    else none
    else none
   else none
  else
   if ((decide (0 <= (0 : Int)) && decide ((0 : Int) <= d3.2.2.1) && decide (d3.2.2.1 <= (List.length d3.1 : Int)))) = true then
   if (decide (List.length ([] : List Int) + List.length (sub_ d3.1 (0 : Int) d3.2.2.1) <= lim)) = true then
   let x6 : List Int := ([] : List Int) ++ (sub_ d3.1 (0 : Int) d3.2.2.1)
   if (decide (List.length x6 + List.length ([d3.2.1]) <= lim)) = true then
   if ((decide (0 <= d3.2.2.1) && decide (d3.2.2.1 <= (List.length d3.1 : Int)) && decide ((List.length d3.1 : Int) <= (List.length d3.1 : Int)))) = true then
   let x7 : List Int := sub_ d3.1 d3.2.2.1 (List.length d3.1 : Int)
   if (decide (List.length (x6 ++ ([d3.2.1])) + List.length x7 <= lim)) = true then
   some (((x6 ++ ([d3.2.1])) ++ x7, (([] : List Int), ())))
   else none
   else none
   else none
   else none
   else none
theorem F_q60q_ok (N : Nat) (d) : fnR Γ_q60q (assoc [(0, ⟨q60q_l0_h, q60q_l0_o, q60q_l0 N N⟩)]) true [(K_Si, true), (I, false)] [K_Si] Try.f76.results.toList (bodyOf Try.f76) d = F_q60q N d := by kernel_rfl
noncomputable def S_q60q : FSig := ⟨[(K_Si, true), (I, false)], [K_Si], true, (G_l1PutW)⟩
noncomputable def Γ_q78q : Ctx := { tk := assoc tks, ar := assoc ars, fs := assoc [(77, S_q30q)], cs := assoc [], gs := assoc [(76, (S_q60q, { gone := [0], deep := [] }))], eqt := inL [], md := md0 }
noncomputable def F_q78q (N : Nat) (d : (Int × (List (Int × Int × Unit)) × Unit) × Int × Unit) : Option (List Int × Unit) :=
 let a0 : Int × (List (Int × Int × Unit)) × Unit := d.1
 let a1 : Int := d.2.1
 (G_l2Neighbors ((a0, (a1, ())))).bind fun r1 =>
 (G_l1PutW ((r1.1, (a1, ())))).bind fun r2 =>
 some (r2.1, ())
theorem F_q78q_ok (N : Nat) (d) : fnR Γ_q78q (assoc []) true [(K_PiSPiiqq, false), (I, false)] [K_Si] Try.f43.results.toList (bodyOf Try.f43) d = F_q78q N d := by kernel_rfl
noncomputable def S_q78q : FSig := ⟨[(K_PiSPiiqq, false), (I, false)], [K_Si], true, (F_q78q 0)⟩
noncomputable def Γ_q39q : Ctx := { tk := assoc tks, ar := assoc ars, fs := assoc [(43, S_q78q), (44, S_q64q), (76, S_spec_l1Put)], dm := fun t => Nat.beq t 8, cs := assoc [] }
abbrev q39q_l2_H := List Int × (Int × (List (Int × Int × Unit)) × Unit) × List Int × Int × List Int × Int × Unit
abbrev q39q_l2_O := (List Int × (Int × (List (Int × Int × Unit)) × Unit) × List Int × Int × Unit) ⊕ Empty
def q39q_l2_h : Form := [(1, .v K_Si), (7, .box K_PiSPiiqq 99), (8, .v K_Si), (9, .v I), (10, .own K_Si 99), (11, .v I)]
def q39q_l2_o : Outs := [(.normal, [(1, .v K_Si), (7, .box K_PiSPiiqq 99), (8, .v K_Si), (9, .v I)])]
noncomputable def q39q_l2_r (N : Nat) (back : q39q_l2_H -> Option q39q_l2_O) (d : q39q_l2_H) : Option q39q_l2_O :=
 let s1 : List Int := d.1
 let s7 : Int × (List (Int × Int × Unit)) × Unit := d.2.1
 let s8 : List Int := d.2.2.1
 let s9 : Int := d.2.2.2.1
 let s10 : List Int := d.2.2.2.2.1
 let s11 : Int := d.2.2.2.2.2.1
 if (decide (s11 < (List.length s10 : Int))) = true then
  if (idxIn s11 (List.length s10)) = true then
  (G_l1Put ((s8, (at_ I s10 s11.toNat, ())))).bind fun r25 =>
  let x26 : Int := IntKind.wrap .i64 (s11 + (1 : Int))
  back ((s1, (s7, (r25.1, (s9, (s10, (x26, ())))))))
  else none
 else
  some (.inl ((s1, (s7, (s8, (s9, ()))))))
noncomputable def q39q_l2 (N : Nat) : Nat -> q39q_l2_H -> Option q39q_l2_O
 | 0, _ => none
 | k + 1, d => q39q_l2_r N (q39q_l2 N k) d
theorem q39q_l2_ok (N : Nat) (back) (d) : roundR Γ_q39q (assoc []) 2 q39q_l2_h q39q_l2_o (loopOf Try.f58 2) back d = q39q_l2_r N back d := by kernel_rfl
abbrev q39q_l0_H := List Int × (Int × (List (Int × Int × Unit)) × Unit) × List Int × Int × Unit
abbrev q39q_l0_O := (List Int × Unit) ⊕ Empty
def q39q_l0_h : Form := [(1, .v K_Si), (7, .box K_PiSPiiqq 99), (8, .v K_Si), (9, .v I)]
def q39q_l0_o : Outs := [(.normal, [(8, .v K_Si)])]
noncomputable def q39q_l0_r (N : Nat) (back : q39q_l0_H -> Option q39q_l0_O) (d : q39q_l0_H) : Option q39q_l0_O :=
 let s1 : List Int := d.1
 let s7 : Int × (List (Int × Int × Unit)) × Unit := d.2.1
 let s8 : List Int := d.2.2.1
 let s9 : Int := d.2.2.2.1
 if (decide (s9 < (List.length s1 : Int))) = true then
  if (idxIn s9 (List.length s1)) = true then
  ((F_q78q 0) ((s7, (at_ I s1 s9.toNat, ())))).bind fun r19 =>
  (q39q_l2 N N ((s1, (s7, (s8, (s9, (r19.1, ((0 : Int), ())))))))).bind fun o22 => match o22 with
  | .inl d23 =>
   let x24 : Int := IntKind.wrap .i64 (d23.2.2.2.1 + (1 : Int))
   back ((d23.1, (d23.2.1, (d23.2.2.1, (x24, ())))))
  else none
 else
  some (.inl (s8, ()))
noncomputable def q39q_l0 (N : Nat) : Nat -> q39q_l0_H -> Option q39q_l0_O
 | 0, _ => none
 | k + 1, d => q39q_l0_r N (q39q_l0 N k) d
theorem q39q_l0_ok (N : Nat) (back) (d) : roundR Γ_q39q (assoc [(2, ⟨q39q_l2_h, q39q_l2_o, q39q_l2 N N⟩)]) 0 q39q_l0_h q39q_l0_o (loopOf Try.f58 0) back d = q39q_l0_r N back d := by kernel_rfl
noncomputable def F_q39q (N : Nat) (d : ((Int × (List (Int × Int × Unit)) × Unit) × Int × List (List Int) × Unit) × List Int × Int × Unit) : Option (List Int × Unit) :=
 let a0 : (Int × (List (Int × Int × Unit)) × Unit) × Int × List (List Int) × Unit := d.1
 let a1 : List Int := d.2.1
 let a2 : Int := d.2.2.1
 (G_l11Open ((a0, (a2, ())))).bind fun r10 =>
 (q39q_l0 N N ((a1, (r10.1, (([] : List Int), ((0 : Int), ())))))).bind fun o17 => match o17 with
 | .inl d18 =>
  some (d18.1, ())
theorem F_q39q_ok (N : Nat) (d) : fnR Γ_q39q (assoc [(0, ⟨q39q_l0_h, q39q_l0_o, q39q_l0 N N⟩)]) false [(K_PPiSPiiqqiSSiq, false), (K_Si, false), (I, false)] [K_Si] Try.f58.results.toList (bodyOf Try.f58) d = F_q39q N d := by kernel_rfl
noncomputable def S_q39q : FSig := ⟨[(K_PPiSPiiqqiSSiq, false), (K_Si, false), (I, false)], [K_Si], false, (G_l11Reached)⟩
noncomputable def Γ_q49q : Ctx := { tk := assoc tks, ar := assoc ars, fs := assoc [(58, S_q39q), (75, S_spec_l1Has)], dm := fun t => Nat.beq t 9, cs := assoc [] }
abbrev q49q_l0_H := Int × Int × ((Int × (List (Int × Int × Unit)) × Unit) × Int × List (List Int) × Unit) × List Int × Int × Unit
abbrev q49q_l0_O := (Int × Unit) ⊕ Unit ⊕ Empty
def q49q_l0_h : Form := [(2, .v I), (3, .v I), (4, .box K_PPiSPiiqqiSSiq 0), (9, .v K_Si), (10, .v I)]
def q49q_l0_o : Outs := [(.ret, [(8, .v I)]), (.normal, [])]
noncomputable def q49q_l0_r (N : Nat) (back : q49q_l0_H -> Option q49q_l0_O) (d : q49q_l0_H) : Option q49q_l0_O :=
 let s2 : Int := d.1
 let s3 : Int := d.2.1
 let s4 : (Int × (List (Int × Int × Unit)) × Unit) × Int × List (List Int) × Unit := d.2.2.1
 let s9 : List Int := d.2.2.2.1
 let s10 : Int := d.2.2.2.2.1
 let x8 : Int := IntKind.wrap .i64 (s4.1.1 * s4.2.1)
 if (decide (s10 <= x8)) = true then
  (G_l1Has ((s9, (s2, ())))).bind fun r9 =>
  if (r9.1) = true then
   some (.inl (s10, ()))
  else
   (G_l11Reached ((s4, (s9, (IntKind.wrap .i64 (s3 + s10), ()))))).bind fun r10 =>
   let x11 : Int := IntKind.wrap .i64 (s10 + (1 : Int))
   back ((s2, (s3, (s4, (r10.1, (x11, ()))))))
 else
  some (.inr (.inl ()))
noncomputable def q49q_l0 (N : Nat) : Nat -> q49q_l0_H -> Option q49q_l0_O
 | 0, _ => none
 | k + 1, d => q49q_l0_r N (q49q_l0 N k) d
theorem q49q_l0_ok (N : Nat) (back) (d) : roundR Γ_q49q (assoc []) 0 q49q_l0_h q49q_l0_o (loopOf Try.f42 0) back d = q49q_l0_r N back d := by kernel_rfl
noncomputable def F_q49q (N : Nat) (d : ((Int × (List (Int × Int × Unit)) × Unit) × Int × List (List Int) × Unit) × Int × Int × Int × Unit) : Option (Int × Unit) :=
 let a0 : (Int × (List (Int × Int × Unit)) × Unit) × Int × List (List Int) × Unit := d.1
 let a1 : Int := d.2.1
 let a2 : Int := d.2.2.1
 let a3 : Int := d.2.2.2.1
 (q49q_l0 N N ((a2, (a3, (a0, ([a1], ((0 : Int), ()))))))).bind fun o5 => match o5 with
 | .inl d6 =>
  some (d6.1, ())
 | .inr (.inl d7) =>
  some ((-1 : Int), ())
theorem F_q49q_ok (N : Nat) (d) : fnR Γ_q49q (assoc [(0, ⟨q49q_l0_h, q49q_l0_o, q49q_l0 N N⟩)]) true [(K_PPiSPiiqqiSSiq, false), (I, false), (I, false), (I, false)] [I] Try.f42.results.toList (bodyOf Try.f42) d = F_q49q N d := by kernel_rfl
noncomputable def S_q49q : FSig := ⟨[(K_PPiSPiiqqiSSiq, false), (I, false), (I, false), (I, false)], [I], true, (G_l11Arrive)⟩
noncomputable def Γ_q22q : Ctx := { tk := assoc tks, ar := assoc ars, fs := assoc [(41, S_q68q), (42, S_q49q), (43, S_q78q), (44, S_q64q)] }
abbrev q22q_l2_H := Int × Int × ((Int × (List (Int × Int × Unit)) × Unit) × Int × List (List Int) × Unit) × Int × List Int × Int × List Int × Int × Unit
abbrev q22q_l2_O := (Int × Int × ((Int × (List (Int × Int × Unit)) × Unit) × Int × List (List Int) × Unit) × Int × List Int × Int × List Int × Int × Unit) ⊕ Empty
def q22q_l2_h : Form := [(2, .v I), (3, .v I), (4, .box K_PPiSPiiqqiSSiq 0), (10, .v I), (11, .own K_Si 99), (12, .v I), (13, .own K_Si 99), (14, .v I)]
def q22q_l2_o : Outs := [(.normal, [(2, .v I), (3, .v I), (4, .box K_PPiSPiiqqiSSiq 0), (10, .v I), (11, .own K_Si 99), (12, .v I), (13, .own K_Si 99), (14, .v I)])]
noncomputable def q22q_l2_r (N : Nat) (back : q22q_l2_H -> Option q22q_l2_O) (d : q22q_l2_H) : Option q22q_l2_O :=
 let s2 : Int := d.1
 let s3 : Int := d.2.1
 let s4 : (Int × (List (Int × Int × Unit)) × Unit) × Int × List (List Int) × Unit := d.2.2.1
 let s10 : Int := d.2.2.2.1
 let s11 : List Int := d.2.2.2.2.1
 let s12 : Int := d.2.2.2.2.2.1
 let s13 : List Int := d.2.2.2.2.2.2.1
 let s14 : Int := d.2.2.2.2.2.2.2.1
 if (idxIn s14 (List.length s13)) = true then
 let x28 : Int := IntKind.wrap .i64 (IntKind.wrap .i64 (s3 + s12) + (1 : Int))
 (G_l11Arrive ((s4, (at_ I s13 s14.toNat, (s2, (x28, ())))))).bind fun r29 =>
 let x30 : Int := IntKind.wrap .i64 (s10 - s12)
 let x31 : Int := IntKind.wrap .i64 (x30 - (1 : Int))
 if (r29.1 != x31) = true then
  let x32 : Int := IntKind.wrap .i64 (s14 + (1 : Int))
  back ((s2, (s3, (s4, (s10, (s11, (s12, (s13, (x32, ())))))))))
 else
  some (.inl ((s2, (s3, (s4, (s10, (s11, (s12, (s13, (s14, ()))))))))))
 else none
noncomputable def q22q_l2 (N : Nat) : Nat -> q22q_l2_H -> Option q22q_l2_O
 | 0, _ => none
 | k + 1, d => q22q_l2_r N (q22q_l2 N k) d
theorem q22q_l2_ok (N : Nat) (back) (d) : roundR Γ_q22q (assoc []) 2 q22q_l2_h q22q_l2_o (loopOf Try.f8 2) back d = q22q_l2_r N back d := by kernel_rfl
abbrev q22q_l0_H := Int × Int × ((Int × (List (Int × Int × Unit)) × Unit) × Int × List (List Int) × Unit) × Int × List Int × Int × Unit
abbrev q22q_l0_O := (List Int × Unit) ⊕ Empty
def q22q_l0_h : Form := [(2, .v I), (3, .v I), (4, .box K_PPiSPiiqqiSSiq 0), (10, .v I), (11, .own K_Si 99), (12, .v I)]
def q22q_l0_o : Outs := [(.normal, [(11, .own K_Si 99)])]
noncomputable def q22q_l0_r (N : Nat) (back : q22q_l0_H -> Option q22q_l0_O) (d : q22q_l0_H) : Option q22q_l0_O :=
 let s2 : Int := d.1
 let s3 : Int := d.2.1
 let s4 : (Int × (List (Int × Int × Unit)) × Unit) × Int × List (List Int) × Unit := d.2.2.1
 let s10 : Int := d.2.2.2.1
 let s11 : List Int := d.2.2.2.2.1
 let s12 : Int := d.2.2.2.2.2.1
 if (decide (s12 < s10)) = true then
  (G_l11Open ((s4, (IntKind.wrap .i64 (s3 + s12), ())))).bind fun r17 =>
  if (idxIn s12 (List.length s11)) = true then
  ((F_q78q 0) ((r17.1, (at_ I s11 s12.toNat, ())))).bind fun r18 =>
  (q22q_l2 N N ((s2, (s3, (s4, (s10, (s11, (s12, (r18.1, ((0 : Int), ())))))))))).bind fun o24 => match o24 with
  | .inl d25 =>
   if (idxIn d25.2.2.2.2.2.2.2.1 (List.length d25.2.2.2.2.2.2.1)) = true then
   if (decide (List.length d25.2.2.2.2.1 + List.length ([at_ I d25.2.2.2.2.2.2.1 d25.2.2.2.2.2.2.2.1.toNat]) <= lim)) = true then
   let x26 : List Int := d25.2.2.2.2.1 ++ ([at_ I d25.2.2.2.2.2.2.1 d25.2.2.2.2.2.2.2.1.toNat])
   let x27 : Int := IntKind.wrap .i64 (d25.2.2.2.2.2.1 + (1 : Int))
   back ((d25.1, (d25.2.1, (d25.2.2.1, (d25.2.2.2.1, (x26, (x27, ())))))))
   else none
   else none
  else none
 else
  some (.inl (s11, ()))
noncomputable def q22q_l0 (N : Nat) : Nat -> q22q_l0_H -> Option q22q_l0_O
 | 0, _ => none
 | k + 1, d => q22q_l0_r N (q22q_l0 N k) d
theorem q22q_l0_ok (N : Nat) (back) (d) : roundR Γ_q22q (assoc [(2, ⟨q22q_l2_h, q22q_l2_o, q22q_l2 N N⟩)]) 0 q22q_l0_h q22q_l0_o (loopOf Try.f8 0) back d = q22q_l0_r N back d := by kernel_rfl
noncomputable def F_q22q (N : Nat) (d : ((Int × (List (Int × Int × Unit)) × Unit) × Int × List (List Int) × Unit) × Int × Int × Int × Unit) : Option (List Int × Bool × Unit) :=
 let a0 : (Int × (List (Int × Int × Unit)) × Unit) × Int × List (List Int) × Unit := d.1
 let a1 : Int := d.2.1
 let a2 : Int := d.2.2.1
 let a3 : Int := d.2.2.2.1
 ((F_q68q 0) ((a0, (a1, (a2, (a3, ())))))).bind fun r1 =>
 if (!r1.1) = true then
  some ((([] : List Int), (false, ())))
 else
  (G_l11Arrive ((a0, (a1, (a2, (a3, ())))))).bind fun r2 =>
  if (decide (r2.1 < (0 : Int))) = true then
   some ((([] : List Int), (false, ())))
  else
   (G_l11Arrive ((a0, (a1, (a2, (a3, ())))))).bind fun r3 =>
   (q22q_l0 N N ((a2, (a3, (a0, (r3.1, ([a1], ((0 : Int), ())))))))).bind fun o15 => match o15 with
   | .inl d16 =>
    some ((d16.1, (true, ())))
theorem F_q22q_ok (N : Nat) (d) : fnR Γ_q22q (assoc [(0, ⟨q22q_l0_h, q22q_l0_o, q22q_l0 N N⟩)]) true [(K_PPiSPiiqqiSSiq, false), (I, false), (I, false), (I, false)] [K_Si, .bool] Try.f8.results.toList (bodyOf Try.f8) d = F_q22q N d := by kernel_rfl
noncomputable def S_q22q : FSig := ⟨[(K_PPiSPiiqqiSSiq, false), (I, false), (I, false), (I, false)], [K_Si, .bool], true, (G_earliestTrip)⟩
noncomputable def Γ_laws_rInts : Ctx := { tk := assoc tks, ar := assoc ars, fs := assoc [] }
abbrev laws_rInts_l0_H := List Int × List Int × Int × Unit
abbrev laws_rInts_l0_O := (Bool × Unit) ⊕ Unit ⊕ Empty
def laws_rInts_l0_h : Form := [(0, .v K_Si), (1, .v K_Si), (5, .v I)]
def laws_rInts_l0_o : Outs := [(.ret, [(4, .v .bool)]), (.normal, [])]
noncomputable def laws_rInts_l0_r (N : Nat) (back : laws_rInts_l0_H -> Option laws_rInts_l0_O) (d : laws_rInts_l0_H) : Option laws_rInts_l0_O :=
 let s0 : List Int := d.1
 let s1 : List Int := d.2.1
 let s5 : Int := d.2.2.1
 if (decide (s5 < (List.length s0 : Int))) = true then
  if (idxIn s5 (List.length s0)) = true then
  if (idxIn s5 (List.length s1)) = true then
  if (at_ I s0 s5.toNat != at_ I s1 s5.toNat) = true then
   some (.inl (false, ()))
  else
   let x5 : Int := IntKind.wrap .i64 (s5 + (1 : Int))
   back ((s0, (s1, (x5, ()))))
  else none
  else none
 else
  some (.inr (.inl ()))
noncomputable def laws_rInts_l0 (N : Nat) : Nat -> laws_rInts_l0_H -> Option laws_rInts_l0_O
 | 0, _ => none
 | k + 1, d => laws_rInts_l0_r N (laws_rInts_l0 N k) d
theorem laws_rInts_l0_ok (N : Nat) (back) (d) : roundR Γ_laws_rInts (assoc []) 0 laws_rInts_l0_h laws_rInts_l0_o (loopOf Try.f9 0) back d = laws_rInts_l0_r N back d := by kernel_rfl
noncomputable def F_laws_rInts (N : Nat) (d : List Int × List Int × Unit) : Option (Bool × Unit) :=
 let a0 : List Int := d.1
 let a1 : List Int := d.2.1
 if ((List.length a0 : Int) != (List.length a1 : Int)) = true then
  some (false, ())
 else
  (laws_rInts_l0 N N ((a0, (a1, ((0 : Int), ()))))).bind fun o2 => match o2 with
  | .inl d3 =>
   some (d3.1, ())
  | .inr (.inl d4) =>
   some (true, ())
theorem F_laws_rInts_ok (N : Nat) (d) : fnR Γ_laws_rInts (assoc [(0, ⟨laws_rInts_l0_h, laws_rInts_l0_o, laws_rInts_l0 N N⟩)]) true [(K_Si, false), (K_Si, false)] [.bool] Try.f9.results.toList (bodyOf Try.f9) d = F_laws_rInts N d := by kernel_rfl
noncomputable def S_laws_rInts : FSig := ⟨[(K_Si, false), (K_Si, false)], [.bool], true, (G_rInts)⟩
noncomputable def Γ_q14q : Ctx := { tk := assoc tks, ar := assoc ars, fs := assoc [(35, S_q65q), (36, S_q11q)] }
noncomputable def F_q14q (N : Nat) (d : ((Int × (List (Int × Int × Unit)) × Unit) × Int × List (List Int) × Unit) × Int × Int × Int × Unit) : Option (Int × Bool × Unit) :=
 let a0 : (Int × (List (Int × Int × Unit)) × Unit) × Int × List (List Int) × Unit := d.1
 let a1 : Int := d.2.1
 let a2 : Int := d.2.2.1
 let a3 : Int := d.2.2.2.1
 ((F_q65q 0) ((a0, (a3, ([a1, a2], ()))))).bind fun r1 =>
 if (!r1.1) = true then
  some (((0 : Int), (false, ())))
 else
  (G_earliestArrival ((a0, (a1, (a2, (a3, ())))))).bind fun r2 =>
  some ((r2.1, (r2.2.1, ())))
theorem F_q14q_ok (N : Nat) (d) : fnR Γ_q14q (assoc []) true [(K_PPiSPiiqqiSSiq, false), (I, false), (I, false), (I, false)] [I, .bool] Try.f10.results.toList (bodyOf Try.f10) d = F_q14q N d := by kernel_rfl
noncomputable def S_q14q : FSig := ⟨[(K_PPiSPiiqqiSSiq, false), (I, false), (I, false), (I, false)], [I, .bool], true, (F_q14q 0)⟩
noncomputable def Γ_q16q : Ctx := { tk := assoc tks, ar := assoc ars, fs := assoc [(41, S_q68q), (42, S_q49q)] }
noncomputable def F_q16q (N : Nat) (d : ((Int × (List (Int × Int × Unit)) × Unit) × Int × List (List Int) × Unit) × Int × Int × Int × Unit) : Option (Int × Bool × Unit) :=
 let a0 : (Int × (List (Int × Int × Unit)) × Unit) × Int × List (List Int) × Unit := d.1
 let a1 : Int := d.2.1
 let a2 : Int := d.2.2.1
 let a3 : Int := d.2.2.2.1
 ((F_q68q 0) ((a0, (a1, (a2, (a3, ())))))).bind fun r1 =>
 if (!r1.1) = true then
  some (((0 : Int), (false, ())))
 else
  (G_l11Arrive ((a0, (a1, (a2, (a3, ())))))).bind fun r2 =>
  if (decide (r2.1 >= (0 : Int))) = true then
   some ((r2.1, (true, ())))
  else
   some (((0 : Int), (false, ())))
theorem F_q16q_ok (N : Nat) (d) : fnR Γ_q16q (assoc []) true [(K_PPiSPiiqqiSSiq, false), (I, false), (I, false), (I, false)] [I, .bool] Try.f11.results.toList (bodyOf Try.f11) d = F_q16q N d := by kernel_rfl
noncomputable def S_q16q : FSig := ⟨[(K_PPiSPiiqqiSSiq, false), (I, false), (I, false), (I, false)], [I, .bool], true, (F_q16q 0)⟩
noncomputable def Γ_q58q : Ctx := { tk := assoc tks, ar := assoc ars, fs := assoc [] }
noncomputable def F_q58q (N : Nat) (d : (List Int × Unit) × Unit) : Option (Int × Unit) :=
 let a0 : List Int × Unit := d.1
 some ((List.length a0.1 : Int), ())
theorem F_q58q_ok (N : Nat) (d) : fnR Γ_q58q (assoc []) true [(K_PSiq, false)] [I] Try.f81.results.toList (bodyOf Try.f81) d = F_q58q N d := by kernel_rfl
noncomputable def g_q58q (d : (List Int × Unit) × Unit) : Int × Unit :=
 let a0 : List Int × Unit := d.1
 ((List.length a0.1 : Int), ())
theorem F_q58q_tot (N : Nat) (d) : F_q58q N d = some (g_q58q d) := by
 unfold F_q58q g_q58q
 first
  | rfl
  | (dsimp only; (repeat' split) <;> rfl)
noncomputable def S_q58q : FSig := ⟨[(K_PSiq, false)], [I], true, (fun d => some (g_q58q d))⟩
noncomputable def Γ_q67q : Ctx := { tk := assoc tks, ar := assoc ars, fs := assoc [] }
noncomputable def F_q67q (N : Nat) (d : (List Int × Unit) × Int × Int × Unit) : Option (Bool × Unit) :=
 let a0 : List Int × Unit := d.1
 let a1 : Int := d.2.1
 let a2 : Int := d.2.2.1
 if (idxIn a1 (List.length a0.1)) = true then
 if (decide (0 <= a2)) = true then
 let x1 : Int := shr .i64 (at_ I a0.1 a1.toNat) a2
 some (bits .and .i64 x1 (1 : Int) == (1 : Int), ())
 else none
 else none
theorem F_q67q_ok (N : Nat) (d) : fnR Γ_q67q (assoc []) true [(K_PSiq, false), (I, false), (I, false)] [.bool] Try.f82.results.toList (bodyOf Try.f82) d = F_q67q N d := by kernel_rfl
noncomputable def S_q67q : FSig := ⟨[(K_PSiq, false), (I, false), (I, false)], [.bool], true, (F_q67q 0)⟩
noncomputable def FV_q67q (d : Int × Int × (((List Int × Unit) × Unit) × Unit) × Unit) : Option (Bool × Unit) := (F_q67q 0) (d.2.2.1.1.1, d.1, d.2.1, d.2.2.1.2)
noncomputable def SV_q67q : FSig := ⟨[(I, false), (I, false), (K_F_q67q_PPSiqqq, false)], [.bool], true, FV_q67q⟩
noncomputable def Γ_q2q : Ctx := { tk := assoc tks, ar := assoc ars, fs := assoc [], cs := assoc [(82, SV_q67q)] }
abbrev q2q_l2_H := Int × (((List Int × Unit) × Unit) × Unit) × (Int × (List (Int × Int × Unit)) × Unit) × (Int × (List (Int × Int × Unit)) × Unit) × Int × Int × Int × Int × Unit
abbrev q2q_l2_O := (Int × (((List Int × Unit) × Unit) × Unit) × (Int × (List (Int × Int × Unit)) × Unit) × (Int × (List (Int × Int × Unit)) × Unit) × Int × Int × Unit) ⊕ Empty
def q2q_l2_h : Form := [(0, .v I), (1, .v K_F_q67q_PPSiqqq), (4, .box K_PiSPiiqq 99), (5, .box K_PiSPiiqq 99), (6, .v I), (7, .v I), (10, .v I), (11, .v I)]
def q2q_l2_o : Outs := [(.normal, [(0, .v I), (1, .v K_F_q67q_PPSiqqq), (4, .box K_PiSPiiqq 99), (5, .box K_PiSPiiqq 99), (10, .v I), (11, .v I)])]
noncomputable def q2q_l2_r (N : Nat) (back : q2q_l2_H -> Option q2q_l2_O) (d : q2q_l2_H) : Option q2q_l2_O :=
 let s0 : Int := d.1
 let s1 : ((List Int × Unit) × Unit) × Unit := d.2.1
 let s4 : Int × (List (Int × Int × Unit)) × Unit := d.2.2.1
 let s5 : Int × (List (Int × Int × Unit)) × Unit := d.2.2.2.1
 let s6 : Int := d.2.2.2.2.1
 let s7 : Int := d.2.2.2.2.2.1
 let s10 : Int := d.2.2.2.2.2.2.1
 let s11 : Int := d.2.2.2.2.2.2.2.1
 if (decide (s7 < s0)) = true then
  (FV_q67q ((s6, (s7, (s1, ()))))).bind fun r17 =>
  if (r17.1) = true then
   if (decide (List.length s5.2.1 + List.length ([(s6, (s7, ()))]) <= lim)) = true then
   let x18 : Int := IntKind.wrap .i64 (s7 + (1 : Int))
   back ((s0, (s1, (s4, ((s5.1, (s5.2.1 ++ ([(s6, (s7, ()))]), s5.2.2)), (s6, (x18, (s10, (s11, ())))))))))
   else none
  else
   let x19 : Int := IntKind.wrap .i64 (s7 + (1 : Int))
   back ((s0, (s1, (s4, (s5, (s6, (x19, (s10, (s11, ())))))))))
 else
  some (.inl ((s0, (s1, (s4, (s5, (s10, (s11, ()))))))))
noncomputable def q2q_l2 (N : Nat) : Nat -> q2q_l2_H -> Option q2q_l2_O
 | 0, _ => none
 | k + 1, d => q2q_l2_r N (q2q_l2 N k) d
theorem q2q_l2_ok (N : Nat) (back) (d) : roundR Γ_q2q (assoc []) 2 q2q_l2_h q2q_l2_o (loopOf Try.f80 2) back d = q2q_l2_r N back d := by kernel_rfl
abbrev q2q_l0_H := Int × (((List Int × Unit) × Unit) × Unit) × (Int × (List (Int × Int × Unit)) × Unit) × (Int × (List (Int × Int × Unit)) × Unit) × Int × Int × Unit
abbrev q2q_l0_O := ((Int × (List (Int × Int × Unit)) × Unit) × (Int × (List (Int × Int × Unit)) × Unit) × Unit) ⊕ Empty
def q2q_l0_h : Form := [(0, .v I), (1, .v K_F_q67q_PPSiqqq), (4, .box K_PiSPiiqq 99), (5, .box K_PiSPiiqq 99), (10, .v I), (11, .v I)]
def q2q_l0_o : Outs := [(.normal, [(4, .box K_PiSPiiqq 99), (5, .box K_PiSPiiqq 99)])]
noncomputable def q2q_l0_r (N : Nat) (back : q2q_l0_H -> Option q2q_l0_O) (d : q2q_l0_H) : Option q2q_l0_O :=
 let s0 : Int := d.1
 let s1 : ((List Int × Unit) × Unit) × Unit := d.2.1
 let s4 : Int × (List (Int × Int × Unit)) × Unit := d.2.2.1
 let s5 : Int × (List (Int × Int × Unit)) × Unit := d.2.2.2.1
 let s10 : Int := d.2.2.2.2.1
 let s11 : Int := d.2.2.2.2.2.1
 if (decide (s11 < s10)) = true then
  let x10 : Int := IntKind.wrap .i64 (s11 + (1 : Int))
  (q2q_l2 N N ((s0, (s1, (s4, (s5, (s11, (x10, (s10, (s11, ())))))))))).bind fun o14 => match o14 with
  | .inl d15 =>
   let x16 : Int := IntKind.wrap .i64 (d15.2.2.2.2.2.1 + (1 : Int))
   back ((d15.1, (d15.2.1, (d15.2.2.1, (d15.2.2.2.1, (d15.2.2.2.2.1, (x16, ())))))))
 else
  some (.inl ((s4, (s5, ()))))
noncomputable def q2q_l0 (N : Nat) : Nat -> q2q_l0_H -> Option q2q_l0_O
 | 0, _ => none
 | k + 1, d => q2q_l0_r N (q2q_l0 N k) d
theorem q2q_l0_ok (N : Nat) (back) (d) : roundR Γ_q2q (assoc [(2, ⟨q2q_l2_h, q2q_l2_o, q2q_l2 N N⟩)]) 0 q2q_l0_h q2q_l0_o (loopOf Try.f80 0) back d = q2q_l0_r N back d := by kernel_rfl
noncomputable def F_q2q (N : Nat) (d : Int × (((List Int × Unit) × Unit) × Unit) × Unit) : Option ((Int × (List (Int × Int × Unit)) × Unit) × Unit) :=
 let a0 : Int := d.1
 let a1 : ((List Int × Unit) × Unit) × Unit := d.2.1
 (q2q_l0 N N ((a0, (a1, (((0 : Int), (([] : List (Int × Int × Unit)), ())), ((a0, (([] : List (Int × Int × Unit)), ())), (a0, ((0 : Int), ())))))))).bind fun o8 => match o8 with
 | .inl d9 =>
  some (d9.2.1, ())
theorem F_q2q_ok (N : Nat) (d) : fnR Γ_q2q (assoc [(0, ⟨q2q_l0_h, q2q_l0_o, q2q_l0 N N⟩)]) true [(I, false), (K_F_q67q_PPSiqqq, false)] [K_PiSPiiqq] Try.f80.results.toList (bodyOf Try.f80) d = F_q2q N d := by kernel_rfl
noncomputable def S_q2q : FSig := ⟨[(I, false), (K_F_q67q_PPSiqqq, false)], [K_PiSPiiqq], true, (G_graphBy135)⟩
noncomputable def Γ_q45q : Ctx := { tk := assoc tks, ar := assoc ars, fs := assoc [(80, S_q2q), (81, S_q58q)] }
noncomputable def F_q45q (N : Nat) (d : (List Int × Unit) × Unit) : Option ((Int × (List (Int × Int × Unit)) × Unit) × Unit) :=
 let a0 : List Int × Unit := d.1
 let r1 : Int × Unit := g_q58q (a0, ())
 (G_graphBy135 ((r1.1, (((a0, ()), ()), ())))).bind fun r2 =>
 some (r2.1, ())
theorem F_q45q_ok (N : Nat) (d) : fnR Γ_q45q (assoc []) true [(K_PSiq, false)] [K_PiSPiiqq] Try.f52.results.toList (bodyOf Try.f52) d = F_q45q N d := by kernel_rfl
noncomputable def S_q45q : FSig := ⟨[(K_PSiq, false)], [K_PiSPiiqq], true, (F_q45q 0)⟩
noncomputable def Γ_q48q : Ctx := { tk := assoc tks, ar := assoc ars, fs := assoc [(12, S_q27q), (37, S_q53q), (51, S_q63q), (52, S_q45q)] }
noncomputable def F_q48q (N : Nat) (d : ((Int × (List (Int × Int × Unit)) × Unit) × Int × List (List Int) × Unit) × Int × Unit) : Option ((Int × (List (Int × Int × Unit)) × Unit) × Bool × Unit) :=
 let a0 : (Int × (List (Int × Int × Unit)) × Unit) × Int × List (List Int) × Unit := d.1
 let a1 : Int := d.2.1
 ((F_q27q 0) (a0, ())).bind fun r1 =>
 if (!r1.1) = true then
  some ((((0 : Int), (([] : List (Int × Int × Unit)), ())), (false, ())))
 else
  let r2 : Bool × Unit := g_q63q (a1, ())
  if (!r2.1) = true then
   some ((((0 : Int), (([] : List (Int × Int × Unit)), ())), (false, ())))
  else
   (G_openNets (a0, ())).bind fun r3 =>
   if (a0.2.1 != 0) = true then
   if (idxIn (a1.tmod a0.2.1) (List.length r3.1)) = true then
   ((F_q45q 0) (at_ K_PSiq r3.1 (a1.tmod a0.2.1).toNat, ())).bind fun r4 =>
   some ((r4.1, (true, ())))
   else none
   else none
theorem F_q48q_ok (N : Nat) (d) : fnR Γ_q48q (assoc []) true [(K_PPiSPiiqqiSSiq, false), (I, false)] [K_PiSPiiqq, .bool] Try.f13.results.toList (bodyOf Try.f13) d = F_q48q N d := by kernel_rfl
noncomputable def S_q48q : FSig := ⟨[(K_PPiSPiiqqiSSiq, false), (I, false)], [K_PiSPiiqq, .bool], true, (F_q48q 0)⟩
noncomputable def Γ_q47q : Ctx := { tk := assoc tks, ar := assoc ars, fs := assoc [(44, S_q64q), (53, S_q66q), (54, S_q59q)] }
noncomputable def F_q47q (N : Nat) (d : ((Int × (List (Int × Int × Unit)) × Unit) × Int × List (List Int) × Unit) × Int × Unit) : Option ((Int × (List (Int × Int × Unit)) × Unit) × Bool × Unit) :=
 let a0 : (Int × (List (Int × Int × Unit)) × Unit) × Int × List (List Int) × Unit := d.1
 let a1 : Int := d.2.1
 (G_l11Good (a0, ())).bind fun r1 =>
 if (!r1.1) = true then
  some ((((0 : Int), (([] : List (Int × Int × Unit)), ())), (false, ())))
 else
  let r2 : Bool × Unit := g_q59q (a1, ())
  if (!r2.1) = true then
   some ((((0 : Int), (([] : List (Int × Int × Unit)), ())), (false, ())))
  else
   (G_l11Open ((a0, (a1, ())))).bind fun r3 =>
   some ((r3.1, (true, ())))
theorem F_q47q_ok (N : Nat) (d) : fnR Γ_q47q (assoc []) true [(K_PPiSPiiqqiSSiq, false), (I, false)] [K_PiSPiiqq, .bool] Try.f14.results.toList (bodyOf Try.f14) d = F_q47q N d := by kernel_rfl
noncomputable def S_q47q : FSig := ⟨[(K_PPiSPiiqqiSSiq, false), (I, false)], [K_PiSPiiqq, .bool], true, (F_q47q 0)⟩
noncomputable def Γ_q71q : Ctx := { tk := assoc tks, ar := assoc ars, fs := assoc [], cs := assoc [], gs := assoc [], eqt := inL [74], md := md0 }
abbrev q71q_l0_H := (Int × (List (Int × Int × Unit)) × Unit) × (Int × (List (Int × Int × Unit)) × Unit) × Int × Unit
abbrev q71q_l0_O := (Bool × Unit) ⊕ Unit ⊕ Empty
def q71q_l0_h : Form := [(2, .box K_PiSPiiqq 0), (3, .box K_PiSPiiqq 0), (5, .v I)]
def q71q_l0_o : Outs := [(.ret, [(4, .v .bool)]), (.normal, [])]
noncomputable def q71q_l0_r (N : Nat) (back : q71q_l0_H -> Option q71q_l0_O) (d : q71q_l0_H) : Option q71q_l0_O :=
 let s2 : Int × (List (Int × Int × Unit)) × Unit := d.1
 let s3 : Int × (List (Int × Int × Unit)) × Unit := d.2.1
 let s5 : Int := d.2.2.1
 if (decide (s5 < (List.length s2.2.1 : Int))) = true then
  if (idxIn s5 (List.length s2.2.1)) = true then
  if (idxIn s5 (List.length s3.2.1)) = true then
  if (!eqB K_Piiq (at_ K_Piiq s2.2.1 s5.toNat) (at_ K_Piiq s3.2.1 s5.toNat)) = true then
   some (.inl (false, ()))
  else
   let x5 : Int := IntKind.wrap .i64 (s5 + (1 : Int))
   back ((s2, (s3, (x5, ()))))
  else none
  else none
 else
  some (.inr (.inl ()))
noncomputable def q71q_l0 (N : Nat) : Nat -> q71q_l0_H -> Option q71q_l0_O
 | 0, _ => none
 | k + 1, d => q71q_l0_r N (q71q_l0 N k) d
theorem q71q_l0_ok (N : Nat) (back) (d) : roundR Γ_q71q (assoc []) 0 q71q_l0_h q71q_l0_o (loopOf Try.f15 0) back d = q71q_l0_r N back d := by kernel_rfl
noncomputable def F_q71q (N : Nat) (d : (Int × (List (Int × Int × Unit)) × Unit) × (Int × (List (Int × Int × Unit)) × Unit) × Unit) : Option (Bool × Unit) :=
 let a0 : Int × (List (Int × Int × Unit)) × Unit := d.1
 let a1 : Int × (List (Int × Int × Unit)) × Unit := d.2.1
 if (a0.1 != a1.1) = true then
  some (false, ())
 else
  if ((List.length a0.2.1 : Int) != (List.length a1.2.1 : Int)) = true then
   some (false, ())
  else
   (q71q_l0 N N ((a0, (a1, ((0 : Int), ()))))).bind fun o2 => match o2 with
   | .inl d3 =>
    some (d3.1, ())
   | .inr (.inl d4) =>
    some (true, ())
theorem F_q71q_ok (N : Nat) (d) : fnR Γ_q71q (assoc [(0, ⟨q71q_l0_h, q71q_l0_o, q71q_l0 N N⟩)]) true [(K_PiSPiiqq, false), (K_PiSPiiqq, false)] [.bool] Try.f15.results.toList (bodyOf Try.f15) d = F_q71q N d := by kernel_rfl
noncomputable def S_q71q : FSig := ⟨[(K_PiSPiiqq, false), (K_PiSPiiqq, false)], [.bool], true, (G_rGraph)⟩
noncomputable def Γ_q54q : Ctx := { tk := assoc tks, ar := assoc ars, fs := assoc [(45, S_q61q), (50, S_q46q)] }
noncomputable def F_q54q (N : Nat) (d : (Int × (List (Int × Int × Unit)) × Unit) × List Int × Unit) : Option (Bool × Unit) :=
 let a0 : Int × (List (Int × Int × Unit)) × Unit := d.1
 let a1 : List Int := d.2.1
 (G_graph (a0, ())).bind fun r1 =>
 if (r1.1) = true then
  let x2 : Int := IntKind.wrap .i64 (a0.1 - (1 : Int))
  (G_allWithin ((a1, ((0 : Int), (x2, ()))))).bind fun r3 =>
  some (r3.1, ())
 else
  some (false, ())
theorem F_q54q_ok (N : Nat) (d) : fnR Γ_q54q (assoc []) true [(K_PiSPiiqq, false), (K_Si, false)] [.bool] Try.f55.results.toList (bodyOf Try.f55) d = F_q54q N d := by kernel_rfl
noncomputable def S_q54q : FSig := ⟨[(K_PiSPiiqq, false), (K_Si, false)], [.bool], true, (F_q54q 0)⟩
noncomputable def Γ_q26q : Ctx := { tk := assoc tks, ar := assoc ars, fs := assoc [(39, S_impl_setOf), (55, S_q54q), (56, S_impl_netOf)] }
noncomputable def F_q26q (N : Nat) (d : (Int × (List (Int × Int × Unit)) × Unit) × Int × Unit) : Option (List Int × Bool × Unit) :=
 let a0 : Int × (List (Int × Int × Unit)) × Unit := d.1
 let a1 : Int := d.2.1
 ((F_q54q 0) ((a0, ([a1], ())))).bind fun r1 =>
 if (!r1.1) = true then
  some ((([] : List Int), (false, ())))
 else
  (G_netOf (a0, ())).bind fun r2 =>
  if (idxIn a1 (List.length r2.1.1)) = true then
  (G_setOf (at_ I r2.1.1 a1.toNat, ())).bind fun r3 =>
  some ((r3.1, (true, ())))
  else none
theorem F_q26q_ok (N : Nat) (d) : fnR Γ_q26q (assoc []) true [(K_PiSPiiqq, false), (I, false)] [K_Si, .bool] Try.f16.results.toList (bodyOf Try.f16) d = F_q26q N d := by kernel_rfl
noncomputable def S_q26q : FSig := ⟨[(K_PiSPiiqq, false), (I, false)], [K_Si, .bool], true, (F_q26q 0)⟩
noncomputable def Γ_laws_rHas : Ctx := { tk := assoc tks, ar := assoc ars, fs := assoc [] }
abbrev laws_rHas_l0_H := List Int × Int × Int × Unit
abbrev laws_rHas_l0_O := (Bool × Unit) ⊕ Unit ⊕ Empty
def laws_rHas_l0_h : Form := [(0, .v K_Si), (1, .v I), (5, .v I)]
def laws_rHas_l0_o : Outs := [(.ret, [(4, .v .bool)]), (.normal, [])]
noncomputable def laws_rHas_l0_r (N : Nat) (back : laws_rHas_l0_H -> Option laws_rHas_l0_O) (d : laws_rHas_l0_H) : Option laws_rHas_l0_O :=
 let s0 : List Int := d.1
 let s1 : Int := d.2.1
 let s5 : Int := d.2.2.1
 if (decide (s5 < (List.length s0 : Int))) = true then
  if (idxIn s5 (List.length s0)) = true then
  if (at_ I s0 s5.toNat == s1) = true then
   some (.inl (true, ()))
  else
   let x5 : Int := IntKind.wrap .i64 (s5 + (1 : Int))
   back ((s0, (s1, (x5, ()))))
  else none
 else
  some (.inr (.inl ()))
noncomputable def laws_rHas_l0 (N : Nat) : Nat -> laws_rHas_l0_H -> Option laws_rHas_l0_O
 | 0, _ => none
 | k + 1, d => laws_rHas_l0_r N (laws_rHas_l0 N k) d
theorem laws_rHas_l0_ok (N : Nat) (back) (d) : roundR Γ_laws_rHas (assoc []) 0 laws_rHas_l0_h laws_rHas_l0_o (loopOf Try.f17 0) back d = laws_rHas_l0_r N back d := by kernel_rfl
noncomputable def F_laws_rHas (N : Nat) (d : List Int × Int × Unit) : Option (Bool × Unit) :=
 let a0 : List Int := d.1
 let a1 : Int := d.2.1
 (laws_rHas_l0 N N ((a0, (a1, ((0 : Int), ()))))).bind fun o2 => match o2 with
 | .inl d3 =>
  some (d3.1, ())
 | .inr (.inl d4) =>
  some (false, ())
theorem F_laws_rHas_ok (N : Nat) (d) : fnR Γ_laws_rHas (assoc [(0, ⟨laws_rHas_l0_h, laws_rHas_l0_o, laws_rHas_l0 N N⟩)]) true [(K_Si, false), (I, false)] [.bool] Try.f17.results.toList (bodyOf Try.f17) d = F_laws_rHas N d := by kernel_rfl
noncomputable def S_laws_rHas : FSig := ⟨[(K_Si, false), (I, false)], [.bool], true, (G_rHas)⟩
noncomputable def Γ_q44q : Ctx := { tk := assoc tks, ar := assoc ars, fs := assoc [(35, S_q65q), (37, S_q53q), (38, S_q43q), (39, S_impl_setOf), (51, S_q63q)] }
abbrev q44q_l0_H := Int × ((Int × (List (Int × Int × Unit)) × Unit) × Int × List (List Int) × Unit) × (List (List Int × Unit)) × Int × Int × Int × Unit
abbrev q44q_l0_O := (Int × Unit) ⊕ Empty
def q44q_l0_h : Form := [(2, .v I), (4, .box K_PPiSPiiqqiSSiq 0), (10, .own K_SPSiq 99), (11, .v I), (28, .v I), (29, .v I)]
def q44q_l0_o : Outs := [(.normal, [(11, .v I)])]
noncomputable def q44q_l0_r (N : Nat) (back : q44q_l0_H -> Option q44q_l0_O) (d : q44q_l0_H) : Option q44q_l0_O :=
 let s2 : Int := d.1
 let s4 : (Int × (List (Int × Int × Unit)) × Unit) × Int × List (List Int) × Unit := d.2.1
 let s10 : List (List Int × Unit) := d.2.2.1
 let s11 : Int := d.2.2.2.1
 let s28 : Int := d.2.2.2.2.1
 let s29 : Int := d.2.2.2.2.2.1
 if (decide (s29 < s28)) = true then
  if (s4.2.1 != 0) = true then
  let x10 : Int := (IntKind.wrap .i64 (s2 + s29)).tmod s4.2.1
  if (idxIn x10 (List.length s10)) = true then
  (G_around ((at_ K_PSiq s10 x10.toNat, (s11, ())))).bind fun r11 =>
  let x12 : Int := IntKind.wrap .i64 (s29 + (1 : Int))
  back ((s2, (s4, (s10, (r11.1, (s28, (x12, ())))))))
  else none
  else none
 else
  some (.inl (s11, ()))
noncomputable def q44q_l0 (N : Nat) : Nat -> q44q_l0_H -> Option q44q_l0_O
 | 0, _ => none
 | k + 1, d => q44q_l0_r N (q44q_l0 N k) d
theorem q44q_l0_ok (N : Nat) (back) (d) : roundR Γ_q44q (assoc []) 0 q44q_l0_h q44q_l0_o (loopOf Try.f18 0) back d = q44q_l0_r N back d := by kernel_rfl
noncomputable def F_q44q (N : Nat) (d : ((Int × (List (Int × Int × Unit)) × Unit) × Int × List (List Int) × Unit) × Int × Int × Int × Unit) : Option (List Int × Bool × Unit) :=
 let a0 : (Int × (List (Int × Int × Unit)) × Unit) × Int × List (List Int) × Unit := d.1
 let a1 : Int := d.2.1
 let a2 : Int := d.2.2.1
 let a3 : Int := d.2.2.2.1
 ((F_q65q 0) ((a0, (a2, ([a1], ()))))).bind fun r1 =>
 if (!r1.1) = true then
  some ((([] : List Int), (false, ())))
 else
  let r2 : Bool × Unit := g_q63q (a3, ())
  if (!r2.1) = true then
   some ((([] : List Int), (false, ())))
  else
   (G_openNets (a0, ())).bind fun r3 =>
   if (decide (0 <= a1)) = true then
   (q44q_l0 N N ((a2, (a0, (r3.1, (shl .i64 (1 : Int) a1, (a3, ((0 : Int), ())))))))).bind fun o7 => match o7 with
   | .inl d8 =>
    (G_setOf (d8.1, ())).bind fun r9 =>
    some ((r9.1, (true, ())))
   else none
theorem F_q44q_ok (N : Nat) (d) : fnR Γ_q44q (assoc [(0, ⟨q44q_l0_h, q44q_l0_o, q44q_l0 N N⟩)]) true [(K_PPiSPiiqqiSSiq, false), (I, false), (I, false), (I, false)] [K_Si, .bool] Try.f18.results.toList (bodyOf Try.f18) d = F_q44q N d := by kernel_rfl
noncomputable def S_q44q : FSig := ⟨[(K_PPiSPiiqqiSSiq, false), (I, false), (I, false), (I, false)], [K_Si, .bool], true, (G_reachedBy)⟩
noncomputable def Γ_q50q : Ctx := { tk := assoc tks, ar := assoc ars, fs := assoc [(53, S_q66q), (54, S_q59q), (57, S_q77q), (58, S_q39q)], dm := fun t => Nat.beq t 10, cs := assoc [] }
abbrev q50q_l0_H := Int × Int × ((Int × (List (Int × Int × Unit)) × Unit) × Int × List (List Int) × Unit) × List Int × Int × Unit
abbrev q50q_l0_O := (List Int × Unit) ⊕ Empty
def q50q_l0_h : Form := [(2, .v I), (3, .v I), (4, .box K_PPiSPiiqqiSSiq 0), (10, .v K_Si), (11, .v I)]
def q50q_l0_o : Outs := [(.normal, [(10, .v K_Si)])]
noncomputable def q50q_l0_r (N : Nat) (back : q50q_l0_H -> Option q50q_l0_O) (d : q50q_l0_H) : Option q50q_l0_O :=
 let s2 : Int := d.1
 let s3 : Int := d.2.1
 let s4 : (Int × (List (Int × Int × Unit)) × Unit) × Int × List (List Int) × Unit := d.2.2.1
 let s10 : List Int := d.2.2.2.1
 let s11 : Int := d.2.2.2.2.1
 if (decide (s11 < s3)) = true then
  (G_l11Reached ((s4, (s10, (IntKind.wrap .i64 (s2 + s11), ()))))).bind fun r17 =>
  let x18 : Int := IntKind.wrap .i64 (s11 + (1 : Int))
  back ((s2, (s3, (s4, (r17.1, (x18, ()))))))
 else
  some (.inl (s10, ()))
noncomputable def q50q_l0 (N : Nat) : Nat -> q50q_l0_H -> Option q50q_l0_O
 | 0, _ => none
 | k + 1, d => q50q_l0_r N (q50q_l0 N k) d
theorem q50q_l0_ok (N : Nat) (back) (d) : roundR Γ_q50q (assoc []) 0 q50q_l0_h q50q_l0_o (loopOf Try.f19 0) back d = q50q_l0_r N back d := by kernel_rfl
noncomputable def F_q50q (N : Nat) (d : ((Int × (List (Int × Int × Unit)) × Unit) × Int × List (List Int) × Unit) × Int × Int × Int × Unit) : Option (List Int × Bool × Unit) :=
 let a0 : (Int × (List (Int × Int × Unit)) × Unit) × Int × List (List Int) × Unit := d.1
 let a1 : Int := d.2.1
 let a2 : Int := d.2.2.1
 let a3 : Int := d.2.2.2.1
 (G_l11Good (a0, ())).bind fun r9 =>
 if (!r9.1) = true then
  some ((([] : List Int), (false, ())))
 else
  let r10 : Bool × Unit := g_q77q ((a0.1, (a1, ())))
  if (!r10.1) = true then
   some ((([] : List Int), (false, ())))
  else
   let r11 : Bool × Unit := g_q59q (a2, ())
   if (!r11.1) = true then
    some ((([] : List Int), (false, ())))
   else
    let r12 : Bool × Unit := g_q59q (a3, ())
    if (!r12.1) = true then
     some ((([] : List Int), (false, ())))
    else
     (q50q_l0 N N ((a2, (a3, (a0, ([a1], ((0 : Int), ()))))))).bind fun o15 => match o15 with
     | .inl d16 =>
      some ((d16.1, (true, ())))
theorem F_q50q_ok (N : Nat) (d) : fnR Γ_q50q (assoc [(0, ⟨q50q_l0_h, q50q_l0_o, q50q_l0 N N⟩)]) false [(K_PPiSPiiqqiSSiq, false), (I, false), (I, false), (I, false)] [K_Si, .bool] Try.f19.results.toList (bodyOf Try.f19) d = F_q50q N d := by kernel_rfl
noncomputable def S_q50q : FSig := ⟨[(K_PPiSPiiqqiSSiq, false), (I, false), (I, false), (I, false)], [K_Si, .bool], false, (G_reachedBy)⟩
noncomputable def Γ_laws_rPart : Ctx := { tk := assoc tks, ar := assoc ars, fs := assoc [(17, S_laws_rHas)] }
abbrev laws_rPart_l0_H := List Int × List Int × Int × Unit
abbrev laws_rPart_l0_O := (Bool × Unit) ⊕ Unit ⊕ Empty
def laws_rPart_l0_h : Form := [(0, .v K_Si), (1, .v K_Si), (5, .v I)]
def laws_rPart_l0_o : Outs := [(.ret, [(4, .v .bool)]), (.normal, [])]
noncomputable def laws_rPart_l0_r (N : Nat) (back : laws_rPart_l0_H -> Option laws_rPart_l0_O) (d : laws_rPart_l0_H) : Option laws_rPart_l0_O :=
 let s0 : List Int := d.1
 let s1 : List Int := d.2.1
 let s5 : Int := d.2.2.1
 if (decide (s5 < (List.length s0 : Int))) = true then
  if (idxIn s5 (List.length s0)) = true then
  (G_rHas ((s1, (at_ I s0 s5.toNat, ())))).bind fun r6 =>
  if (!r6.1) = true then
   some (.inl (false, ()))
  else
   let x7 : Int := IntKind.wrap .i64 (s5 + (1 : Int))
   back ((s0, (s1, (x7, ()))))
  else none
 else
  some (.inr (.inl ()))
noncomputable def laws_rPart_l0 (N : Nat) : Nat -> laws_rPart_l0_H -> Option laws_rPart_l0_O
 | 0, _ => none
 | k + 1, d => laws_rPart_l0_r N (laws_rPart_l0 N k) d
theorem laws_rPart_l0_ok (N : Nat) (back) (d) : roundR Γ_laws_rPart (assoc []) 0 laws_rPart_l0_h laws_rPart_l0_o (loopOf Try.f20 0) back d = laws_rPart_l0_r N back d := by kernel_rfl
noncomputable def F_laws_rPart (N : Nat) (d : List Int × List Int × Unit) : Option (Bool × Unit) :=
 let a0 : List Int := d.1
 let a1 : List Int := d.2.1
 (laws_rPart_l0 N N ((a0, (a1, ((0 : Int), ()))))).bind fun o3 => match o3 with
 | .inl d4 =>
  some (d4.1, ())
 | .inr (.inl d5) =>
  some (true, ())
theorem F_laws_rPart_ok (N : Nat) (d) : fnR Γ_laws_rPart (assoc [(0, ⟨laws_rPart_l0_h, laws_rPart_l0_o, laws_rPart_l0 N N⟩)]) true [(K_Si, false), (K_Si, false)] [.bool] Try.f20.results.toList (bodyOf Try.f20) d = F_laws_rPart N d := by kernel_rfl
noncomputable def S_laws_rPart : FSig := ⟨[(K_Si, false), (K_Si, false)], [.bool], true, (G_rPart)⟩
noncomputable def Γ_q21q : Ctx := { tk := assoc tks, ar := assoc ars, fs := assoc [(59, S_q15q), (60, S_q36q), (61, S_q31q), (62, S_q25q)] }
noncomputable def F_q21q (N : Nat) (d : List Int × Unit) : Option (((Int × (List (Int × Int × Unit)) × Unit) × Int × List (List Int) × Unit) × Int × Int × Int × Unit) :=
 let a0 : List Int := d.1
 ((pickF F_q15q P_table) (((a0, ((0 : Int), ((0 : Int), ()))), ()))).bind fun r5 =>
 ((F_q36q 0) ((r5.2.1, (r5.1.1, ())))).bind fun r6 =>
 ((F_q31q 0) (r6.2.1, ())).bind fun r7 =>
 ((F_q25q 0) ((r7.2.1, ([(0 : Int), (1 : Int), (2 : Int), (3 : Int), (4 : Int), (6 : Int), (9 : Int), (-1 : Int), (1001 : Int), (1000 : Int)], ())))).bind fun r8 =>
 some ((r5.1, (r6.1, (r7.1, (r8.1, ())))))
theorem F_q21q_ok (N : Nat) (d) : fnR Γ_q21q (assoc []) false [(K_Su8, false)] [K_PPiSPiiqqiSSiq, I, I, I] Try.f21.results.toList (bodyOf Try.f21) d = F_q21q N d := by kernel_rfl
noncomputable def S_q21q : FSig := ⟨[(K_Su8, false)], [K_PPiSPiiqqiSSiq, I, I, I], false, (F_q21q 0)⟩
noncomputable def Γ_q28q : Ctx := { tk := assoc tks, ar := assoc ars, fs := assoc [(53, S_q66q)] }
noncomputable def F_q28q (N : Nat) (d : ((Int × (List (Int × Int × Unit)) × Unit) × Int × List (List Int) × Unit) × Unit) : Option (Bool × Unit) :=
 let a0 : (Int × (List (Int × Int × Unit)) × Unit) × Int × List (List Int) × Unit := d.1
 (G_l11Good (a0, ())).bind fun r1 =>
 some (r1.1, ())
theorem F_q28q_ok (N : Nat) (d) : fnR Γ_q28q (assoc []) true [(K_PPiSPiiqqiSSiq, false)] [.bool] Try.f22.results.toList (bodyOf Try.f22) d = F_q28q N d := by kernel_rfl
noncomputable def S_q28q : FSig := ⟨[(K_PPiSPiiqqiSSiq, false)], [.bool], true, (F_q28q 0)⟩
noncomputable def Γ_q33q : Ctx := { tk := assoc tks, ar := assoc ars, fs := assoc [(87, S_q18q)] }
noncomputable def F_q33q (N : Nat) (d : List Int × Unit) : Option ((Int × (List (Int × Int × Unit)) × Unit) × Unit) :=
 let a0 : List Int := d.1
 ((F_q18q 0) (((a0, ((0 : Int), ((0 : Int), ()))), ()))).bind fun r1 =>
 some (r1.1, ())
theorem F_q33q_ok (N : Nat) (d) : fnR Γ_q33q (assoc []) true [(K_Su8, false)] [K_PiSPiiqq] Try.f63.results.toList (bodyOf Try.f63) d = F_q33q N d := by kernel_rfl
noncomputable def S_q33q : FSig := ⟨[(K_Su8, false)], [K_PiSPiiqq], true, (F_q33q 0)⟩
noncomputable def Γ_q4q : Ctx := { tk := assoc tks, ar := assoc ars, fs := assoc [(63, S_q33q)] }
noncomputable def F_q4q (N : Nat) (d : List Int × Unit) : Option ((Int × (List (Int × Int × Unit)) × Unit) × Unit) :=
 let a0 : List Int := d.1
 ((F_q33q 0) (a0, ())).bind fun r1 =>
 some (r1.1, ())
theorem F_q4q_ok (N : Nat) (d) : fnR Γ_q4q (assoc []) true [(K_Su8, false)] [K_PiSPiiqq] Try.f23.results.toList (bodyOf Try.f23) d = F_q4q N d := by kernel_rfl
noncomputable def S_q4q : FSig := ⟨[(K_Su8, false)], [K_PiSPiiqq], true, (F_q4q 0)⟩
noncomputable def Γ_q3q : Ctx := { tk := assoc tks, ar := assoc ars, fs := assoc [] }
noncomputable def F_q3q (N : Nat) (d : (List (Int × Int × Unit)) × Unit) : Option ((List (Int × Int × Unit)) × Unit) :=
 let a0 : List (Int × Int × Unit) := d.1
 if (decide (List.length a0 = 0)) = true then
  both (
    some ((([] : List (Int × Int × Unit)), ()))) (
    if (decide (List.length ([] : List (Int × Int × Unit)) + List.length a0 <= lim)) = true then
    let x1 : List (Int × Int × Unit) := ([] : List (Int × Int × Unit)) ++ a0
    some (x1, ())
    else none)
 else
  if (decide (List.length ([] : List (Int × Int × Unit)) + List.length a0 <= lim)) = true then
  let x2 : List (Int × Int × Unit) := ([] : List (Int × Int × Unit)) ++ a0
  some (x2, ())
  else none
theorem F_q3q_ok (N : Nat) (d) : fnR Γ_q3q (assoc []) true [(K_SPiiq, false)] [K_SPiiq] Try.f64.results.toList (bodyOf Try.f64) d = F_q3q N d := by kernel_rfl
noncomputable def S_q3q : FSig := ⟨[(K_SPiiq, false)], [K_SPiiq], true, (G_toIntA2S)⟩
noncomputable def Γ_q12q : Ctx := { tk := assoc tks, ar := assoc ars, fs := assoc [(45, S_q61q), (64, S_q3q)] }
abbrev q12q_l0_H := ((Int × (List (Int × Int × Unit)) × Unit) × Int × List (List Int) × Unit) × ((Int × (List (Int × Int × Unit)) × Unit) × Int × List (List Int) × Unit) × Int × Int × Unit
abbrev q12q_l0_O := (((Int × (List (Int × Int × Unit)) × Unit) × Int × List (List Int) × Unit) × ((Int × (List (Int × Int × Unit)) × Unit) × Int × List (List Int) × Unit) × Unit) ⊕ Empty
def q12q_l0_h : Form := [(2, .box K_PPiSPiiqqiSSiq 99), (4, .box K_PPiSPiiqqiSSiq 99), (23, .v I), (24, .v I)]
def q12q_l0_o : Outs := [(.normal, [(2, .box K_PPiSPiiqqiSSiq 99), (4, .box K_PPiSPiiqqiSSiq 99)])]
noncomputable def q12q_l0_r (N : Nat) (back : q12q_l0_H -> Option q12q_l0_O) (d : q12q_l0_H) : Option q12q_l0_O :=
 let s2 : (Int × (List (Int × Int × Unit)) × Unit) × Int × List (List Int) × Unit := d.1
 let s4 : (Int × (List (Int × Int × Unit)) × Unit) × Int × List (List Int) × Unit := d.2.1
 let s23 : Int := d.2.2.1
 let s24 : Int := d.2.2.2.1
 if (decide (s24 < s23)) = true then
  if (decide (List.length s4.2.2.1 + List.length ([[(0 : Int)]]) <= lim)) = true then
  let x6 : Int := IntKind.wrap .i64 (s24 + (1 : Int))
  back ((s2, ((s4.1, (s4.2.1, (s4.2.2.1 ++ ([[(0 : Int)]]), s4.2.2.2))), (s23, (x6, ())))))
  else none
 else
  some (.inl ((s2, (s4, ()))))
noncomputable def q12q_l0 (N : Nat) : Nat -> q12q_l0_H -> Option q12q_l0_O
 | 0, _ => none
 | k + 1, d => q12q_l0_r N (q12q_l0 N k) d
theorem q12q_l0_ok (N : Nat) (back) (d) : roundR Γ_q12q (assoc []) 0 q12q_l0_h q12q_l0_o (loopOf Try.f24 0) back d = q12q_l0_r N back d := by kernel_rfl
noncomputable def F_q12q (N : Nat) (d : (Int × (List (Int × Int × Unit)) × Unit) × Unit) : Option (((Int × (List (Int × Int × Unit)) × Unit) × Int × List (List Int) × Unit) × Bool × Unit) :=
 let a0 : Int × (List (Int × Int × Unit)) × Unit := d.1
 (G_graph (a0, ())).bind fun r1 =>
 if (!r1.1) = true then
  some (((((0 : Int), (([] : List (Int × Int × Unit)), ())), ((0 : Int), (([] : List (List Int)), ()))), (false, ())))
 else
  if (a0.1 == (0 : Int)) = true then
   some (((((0 : Int), (([] : List (Int × Int × Unit)), ())), ((0 : Int), (([] : List (List Int)), ()))), (false, ())))
  else
   (G_toIntA2S (a0.2.1, ())).bind fun r2 =>
   (q12q_l0 N N (((((0 : Int), (([] : List (Int × Int × Unit)), ())), ((0 : Int), (([] : List (List Int)), ()))), (((a0.1, (r2.1, ())), ((1 : Int), (([] : List (List Int)), ()))), ((List.length a0.2.1 : Int), ((0 : Int), ())))))).bind fun o4 => match o4 with
   | .inl d5 =>
    some ((d5.2.1, (true, ())))
theorem F_q12q_ok (N : Nat) (d) : fnR Γ_q12q (assoc [(0, ⟨q12q_l0_h, q12q_l0_o, q12q_l0 N N⟩)]) true [(K_PiSPiiqq, false)] [K_PPiSPiiqqiSSiq, .bool] Try.f24.results.toList (bodyOf Try.f24) d = F_q12q N d := by kernel_rfl
noncomputable def S_q12q : FSig := ⟨[(K_PiSPiiqq, false)], [K_PPiSPiiqqiSSiq, .bool], true, (G_static)⟩
noncomputable def Γ_q13q : Ctx := { tk := assoc tks, ar := assoc ars, fs := assoc [(65, S_q69q)] }
abbrev q13q_l0_H := (Int × (List (Int × Int × Unit)) × Unit) × ((Int × (List (Int × Int × Unit)) × Unit) × Int × List (List Int) × Unit) × ((Int × (List (Int × Int × Unit)) × Unit) × Int × List (List Int) × Unit) × Int × Unit
abbrev q13q_l0_O := (((Int × (List (Int × Int × Unit)) × Unit) × Int × List (List Int) × Unit) × ((Int × (List (Int × Int × Unit)) × Unit) × Int × List (List Int) × Unit) × Unit) ⊕ Empty
def q13q_l0_h : Form := [(1, .box K_PiSPiiqq 0), (2, .box K_PPiSPiiqqiSSiq 99), (4, .box K_PPiSPiiqqiSSiq 99), (5, .v I)]
def q13q_l0_o : Outs := [(.normal, [(2, .box K_PPiSPiiqqiSSiq 99), (4, .box K_PPiSPiiqqiSSiq 99)])]
noncomputable def q13q_l0_r (N : Nat) (back : q13q_l0_H -> Option q13q_l0_O) (d : q13q_l0_H) : Option q13q_l0_O :=
 let s1 : Int × (List (Int × Int × Unit)) × Unit := d.1
 let s2 : (Int × (List (Int × Int × Unit)) × Unit) × Int × List (List Int) × Unit := d.2.1
 let s4 : (Int × (List (Int × Int × Unit)) × Unit) × Int × List (List Int) × Unit := d.2.2.1
 let s5 : Int := d.2.2.2.1
 if (decide (s5 < (List.length s1.2.1 : Int))) = true then
  if (decide (List.length s4.2.2.1 + List.length ([[(0 : Int)]]) <= lim)) = true then
  let x6 : Int := IntKind.wrap .i64 (s5 + (1 : Int))
  back ((s1, (s2, ((s4.1, (s4.2.1, (s4.2.2.1 ++ ([[(0 : Int)]]), s4.2.2.2))), (x6, ())))))
  else none
 else
  some (.inl ((s2, (s4, ()))))
noncomputable def q13q_l0 (N : Nat) : Nat -> q13q_l0_H -> Option q13q_l0_O
 | 0, _ => none
 | k + 1, d => q13q_l0_r N (q13q_l0 N k) d
theorem q13q_l0_ok (N : Nat) (back) (d) : roundR Γ_q13q (assoc []) 0 q13q_l0_h q13q_l0_o (loopOf Try.f25 0) back d = q13q_l0_r N back d := by kernel_rfl
noncomputable def F_q13q (N : Nat) (d : (Int × (List (Int × Int × Unit)) × Unit) × Unit) : Option (((Int × (List (Int × Int × Unit)) × Unit) × Int × List (List Int) × Unit) × Bool × Unit) :=
 let a0 : Int × (List (Int × Int × Unit)) × Unit := d.1
 ((F_q69q 0) ((a0, ((1 : Int), ())))).bind fun r1 =>
 if (!r1.1) = true then
  some (((((0 : Int), (([] : List (Int × Int × Unit)), ())), ((0 : Int), (([] : List (List Int)), ()))), (false, ())))
 else
  if (decide (List.length ([] : List (Int × Int × Unit)) + List.length a0.2.1 <= lim)) = true then
  let x2 : List (Int × Int × Unit) := ([] : List (Int × Int × Unit)) ++ a0.2.1
  (q13q_l0 N N ((a0, ((((0 : Int), (([] : List (Int × Int × Unit)), ())), ((0 : Int), (([] : List (List Int)), ()))), (((a0.1, (x2, ())), ((1 : Int), (([] : List (List Int)), ()))), ((0 : Int), ())))))).bind fun o4 => match o4 with
  | .inl d5 =>
   some ((d5.2.1, (true, ())))
  else none
theorem F_q13q_ok (N : Nat) (d) : fnR Γ_q13q (assoc [(0, ⟨q13q_l0_h, q13q_l0_o, q13q_l0 N N⟩)]) true [(K_PiSPiiqq, false)] [K_PPiSPiiqqiSSiq, .bool] Try.f25.results.toList (bodyOf Try.f25) d = F_q13q N d := by kernel_rfl
noncomputable def S_q13q : FSig := ⟨[(K_PiSPiiqq, false)], [K_PPiSPiiqqiSSiq, .bool], true, (G_static)⟩
noncomputable def Γ_q75q : Ctx := { tk := assoc tks, ar := assoc ars, fs := assoc [(9, S_laws_rInts)] }
abbrev q75q_l0_H := List (List Int) × List (List Int) × Int × Unit
abbrev q75q_l0_O := (Bool × Unit) ⊕ Unit ⊕ Empty
def q75q_l0_h : Form := [(0, .v K_SSi), (1, .v K_SSi), (5, .v I)]
def q75q_l0_o : Outs := [(.ret, [(4, .v .bool)]), (.normal, [])]
noncomputable def q75q_l0_r (N : Nat) (back : q75q_l0_H -> Option q75q_l0_O) (d : q75q_l0_H) : Option q75q_l0_O :=
 let s0 : List (List Int) := d.1
 let s1 : List (List Int) := d.2.1
 let s5 : Int := d.2.2.1
 if (decide (s5 < (List.length s0 : Int))) = true then
  if (idxIn s5 (List.length s0)) = true then
  if (idxIn s5 (List.length s1)) = true then
  (G_rInts ((at_ K_Si s0 s5.toNat, (at_ K_Si s1 s5.toNat, ())))).bind fun r6 =>
  if (!r6.1) = true then
   some (.inl (false, ()))
  else
   let x7 : Int := IntKind.wrap .i64 (s5 + (1 : Int))
   back ((s0, (s1, (x7, ()))))
  else none
  else none
 else
  some (.inr (.inl ()))
noncomputable def q75q_l0 (N : Nat) : Nat -> q75q_l0_H -> Option q75q_l0_O
 | 0, _ => none
 | k + 1, d => q75q_l0_r N (q75q_l0 N k) d
theorem q75q_l0_ok (N : Nat) (back) (d) : roundR Γ_q75q (assoc []) 0 q75q_l0_h q75q_l0_o (loopOf Try.f26 0) back d = q75q_l0_r N back d := by kernel_rfl
noncomputable def F_q75q (N : Nat) (d : List (List Int) × List (List Int) × Unit) : Option (Bool × Unit) :=
 let a0 : List (List Int) := d.1
 let a1 : List (List Int) := d.2.1
 if ((List.length a0 : Int) != (List.length a1 : Int)) = true then
  some (false, ())
 else
  (q75q_l0 N N ((a0, (a1, ((0 : Int), ()))))).bind fun o3 => match o3 with
  | .inl d4 =>
   some (d4.1, ())
  | .inr (.inl d5) =>
   some (true, ())
theorem F_q75q_ok (N : Nat) (d) : fnR Γ_q75q (assoc [(0, ⟨q75q_l0_h, q75q_l0_o, q75q_l0 N N⟩)]) true [(K_SSi, false), (K_SSi, false)] [.bool] Try.f26.results.toList (bodyOf Try.f26) d = F_q75q N d := by kernel_rfl
noncomputable def S_q75q : FSig := ⟨[(K_SSi, false), (K_SSi, false)], [.bool], true, (G_rTable)⟩
def S_q8q : FSig := ⟨[(K_Si, false), (I, false)], [K_Si], true, G_repeat⟩
noncomputable def Γ_q52q : Ctx := { tk := assoc tks, ar := assoc ars, fs := assoc [(38, S_q43q)] }
abbrev q52q_l0_H := Int × (List Int × Unit) × Int × Unit
abbrev q52q_l0_O := (Int × Unit) ⊕ Empty
def q52q_l0_h : Form := [(2, .v I), (3, .box K_PSiq 0), (7, .v I)]
def q52q_l0_o : Outs := [(.normal, [(7, .v I)])]
noncomputable def q52q_l0_r (N : Nat) (back : q52q_l0_H -> Option q52q_l0_O) (d : q52q_l0_H) : Option q52q_l0_O :=
 let s2 : Int := d.1
 let s3 : List Int × Unit := d.2.1
 let s7 : Int := d.2.2.1
 if (decide (s2 > (0 : Int))) = true then
  (G_around ((s3, (s7, ())))).bind fun r5 =>
  if (r5.1 == s7) = true then
   some (.inl (s7, ()))
  else
   let x6 : Int := IntKind.wrap .i64 (s2 - (1 : Int))
   back ((x6, (s3, (r5.1, ()))))
 else
  some (.inl (s7, ()))
noncomputable def q52q_l0 (N : Nat) : Nat -> q52q_l0_H -> Option q52q_l0_O
 | 0, _ => none
 | k + 1, d => q52q_l0_r N (q52q_l0 N k) d
theorem q52q_l0_ok (N : Nat) (back) (d) : roundR Γ_q52q (assoc []) 0 q52q_l0_h q52q_l0_o (loopOf Try.f92 0) back d = q52q_l0_r N back d := by kernel_rfl
noncomputable def F_q52q (N : Nat) (d : (List Int × Unit) × Int × Int × Unit) : Option (Int × Unit) :=
 let a0 : List Int × Unit := d.1
 let a1 : Int := d.2.1
 let a2 : Int := d.2.2.1
 if (decide (0 <= a1)) = true then
 (q52q_l0 N N ((a2, (a0, (shl .i64 (1 : Int) a1, ()))))).bind fun o3 => match o3 with
 | .inl d4 =>
  some (d4.1, ())
 else none
theorem F_q52q_ok (N : Nat) (d) : fnR Γ_q52q (assoc [(0, ⟨q52q_l0_h, q52q_l0_o, q52q_l0 N N⟩)]) true [(K_PSiq, false), (I, false), (I, false)] [I] Try.f92.results.toList (bodyOf Try.f92) d = F_q52q N d := by kernel_rfl
noncomputable def S_q52q : FSig := ⟨[(K_PSiq, false), (I, false), (I, false)], [I], true, (G_netBall)⟩
noncomputable def Γ_q19q : Ctx := { tk := assoc tks, ar := assoc ars, fs := assoc [(39, S_impl_setOf), (81, S_q58q), (91, S_q8q), (92, S_q52q)] }
abbrev q19q_l4_H := (List Int × Unit) × List (List Int) × Int × Int × Int × Int × List Int × Int × Int × Unit
abbrev q19q_l4_O := ((List Int × Unit) × List (List Int) × Int × Int × Int × Int × Unit) ⊕ Empty
def q19q_l4_h : Form := [(1, .box K_PSiq 0), (3, .own K_SSi 99), (4, .v I), (5, .v I), (12, .v I), (13, .v I), (33, .own K_Si 99), (34, .v I), (35, .v I)]
def q19q_l4_o : Outs := [(.normal, [(1, .box K_PSiq 0), (3, .own K_SSi 99), (4, .v I), (5, .v I), (12, .v I), (13, .v I)])]
noncomputable def q19q_l4_r (N : Nat) (back : q19q_l4_H -> Option q19q_l4_O) (d : q19q_l4_H) : Option q19q_l4_O :=
 let s1 : List Int × Unit := d.1
 let s3 : List (List Int) := d.2.1
 let s4 : Int := d.2.2.1
 let s5 : Int := d.2.2.2.1
 let s12 : Int := d.2.2.2.2.1
 let s13 : Int := d.2.2.2.2.2.1
 let s33 : List Int := d.2.2.2.2.2.2.1
 let s34 : Int := d.2.2.2.2.2.2.2.1
 let s35 : Int := d.2.2.2.2.2.2.2.2.1
 if (decide (s35 < s34)) = true then
  if (idxIn s35 (List.length s33)) = true then
  if (idxIn s4 (List.length s3)) = true then
  if (idxIn (at_ I s33 s35.toNat) (List.length (at_ K_Si s3 s4.toNat))) = true then
  let x38 : List (List Int) := List.set s3 s4.toNat (List.set (at_ K_Si s3 s4.toNat) (at_ I s33 s35.toNat).toNat s5)
  let x39 : Int := IntKind.wrap .i64 (s35 + (1 : Int))
  back ((s1, (x38, (s4, (s5, (s12, (s13, (s33, (s34, (x39, ()))))))))))
  else none
  else none
  else none
 else
  some (.inl ((s1, (s3, (s4, (s5, (s12, (s13, ()))))))))
noncomputable def q19q_l4 (N : Nat) : Nat -> q19q_l4_H -> Option q19q_l4_O
 | 0, _ => none
 | k + 1, d => q19q_l4_r N (q19q_l4 N k) d
theorem q19q_l4_ok (N : Nat) (back) (d) : roundR Γ_q19q (assoc []) 4 q19q_l4_h q19q_l4_o (loopOf Try.f66 4) back d = q19q_l4_r N back d := by kernel_rfl
abbrev q19q_l2_H := (List Int × Unit) × List (List Int) × Int × Int × Int × Int × Unit
abbrev q19q_l2_O := ((List Int × Unit) × List (List Int) × Int × Int × Unit) ⊕ Empty
def q19q_l2_h : Form := [(1, .box K_PSiq 0), (3, .own K_SSi 99), (4, .v I), (5, .v I), (12, .v I), (13, .v I)]
def q19q_l2_o : Outs := [(.normal, [(1, .box K_PSiq 0), (3, .own K_SSi 99), (12, .v I), (13, .v I)])]
noncomputable def q19q_l2_r (N : Nat) (back : q19q_l2_H -> Option q19q_l2_O) (d : q19q_l2_H) : Option q19q_l2_O :=
 let s1 : List Int × Unit := d.1
 let s3 : List (List Int) := d.2.1
 let s4 : Int := d.2.2.1
 let s5 : Int := d.2.2.2.1
 let s12 : Int := d.2.2.2.2.1
 let s13 : Int := d.2.2.2.2.2.1
 if (decide (s5 >= (0 : Int))) = true then
  (G_netBall ((s1, (s4, (s5, ()))))).bind fun r31 =>
  (G_setOf (r31.1, ())).bind fun r32 =>
  (q19q_l4 N N ((s1, (s3, (s4, (s5, (s12, (s13, (r32.1, ((List.length r32.1 : Int), ((0 : Int), ()))))))))))).bind fun o35 => match o35 with
  | .inl d36 =>
   let x37 : Int := IntKind.wrap .i64 (d36.2.2.2.1 - (1 : Int))
   back ((d36.1, (d36.2.1, (d36.2.2.1, (x37, (d36.2.2.2.2.1, (d36.2.2.2.2.2.1, ())))))))
 else
  some (.inl ((s1, (s3, (s12, (s13, ()))))))
noncomputable def q19q_l2 (N : Nat) : Nat -> q19q_l2_H -> Option q19q_l2_O
 | 0, _ => none
 | k + 1, d => q19q_l2_r N (q19q_l2 N k) d
theorem q19q_l2_ok (N : Nat) (back) (d) : roundR Γ_q19q (assoc [(4, ⟨q19q_l4_h, q19q_l4_o, q19q_l4 N N⟩)]) 2 q19q_l2_h q19q_l2_o (loopOf Try.f66 2) back d = q19q_l2_r N back d := by kernel_rfl
abbrev q19q_l0_H := (List Int × Unit) × List (List Int) × Int × Int × Unit
abbrev q19q_l0_O := (List (List Int) × Unit) ⊕ Empty
def q19q_l0_h : Form := [(1, .box K_PSiq 0), (3, .own K_SSi 99), (12, .v I), (13, .v I)]
def q19q_l0_o : Outs := [(.normal, [(3, .own K_SSi 99)])]
noncomputable def q19q_l0_r (N : Nat) (back : q19q_l0_H -> Option q19q_l0_O) (d : q19q_l0_H) : Option q19q_l0_O :=
 let s1 : List Int × Unit := d.1
 let s3 : List (List Int) := d.2.1
 let s12 : Int := d.2.2.1
 let s13 : Int := d.2.2.2.1
 if (decide (s13 < s12)) = true then
  let r18 : Int × Unit := g_q58q (s1, ())
  (G_repeat (([(-1 : Int)], (r18.1, ())))).bind fun r19 =>
  if (idxIn s13 (List.length s3)) = true then
  let r20 : Int × Unit := g_q58q (s1, ())
  (q19q_l2 N N ((s1, (List.set s3 s13.toNat r19.1, (s13, (r20.1, (s12, (s13, ())))))))).bind fun o28 => match o28 with
  | .inl d29 =>
   let x30 : Int := IntKind.wrap .i64 (d29.2.2.2.1 + (1 : Int))
   back ((d29.1, (d29.2.1, (d29.2.2.1, (x30, ())))))
  else none
 else
  some (.inl (s3, ()))
noncomputable def q19q_l0 (N : Nat) : Nat -> q19q_l0_H -> Option q19q_l0_O
 | 0, _ => none
 | k + 1, d => q19q_l0_r N (q19q_l0 N k) d
theorem q19q_l0_ok (N : Nat) (back) (d) : roundR Γ_q19q (assoc [(2, ⟨q19q_l2_h, q19q_l2_o, q19q_l2 N N⟩)]) 0 q19q_l0_h q19q_l0_o (loopOf Try.f66 0) back d = q19q_l0_r N back d := by kernel_rfl
noncomputable def F_q19q (N : Nat) (d : (List Int × Unit) × Unit) : Option (List (List Int) × Unit) :=
 let a0 : List Int × Unit := d.1
 let r1 : Int × Unit := g_q58q (a0, ())
 if ((decide (0 <= r1.1) && decide (r1.1 <= r1.1) && decide (r1.1 <= (lim : Int)))) = true then
 let x2 : List (List Int) := List.replicate r1.1.toNat ([] : List Int)
 (q19q_l0 N N ((a0, (x2, ((List.length x2 : Int), ((0 : Int), ())))))).bind fun o16 => match o16 with
 | .inl d17 =>
  some (d17.1, ())
 else none
theorem F_q19q_ok (N : Nat) (d) : fnR Γ_q19q (assoc [(0, ⟨q19q_l0_h, q19q_l0_o, q19q_l0 N N⟩)]) true [(K_PSiq, false)] [K_SSi] Try.f66.results.toList (bodyOf Try.f66) d = F_q19q N d := by kernel_rfl
noncomputable def S_q19q : FSig := ⟨[(K_PSiq, false)], [K_SSi], true, (G_dists)⟩
noncomputable def Γ_q32q : Ctx := { tk := assoc tks, ar := assoc ars, fs := assoc [(45, S_q61q), (56, S_impl_netOf), (66, S_q19q)] }
noncomputable def F_q32q (N : Nat) (d : (Int × (List (Int × Int × Unit)) × Unit) × Unit) : Option (List (List Int) × Bool × Unit) :=
 let a0 : Int × (List (Int × Int × Unit)) × Unit := d.1
 (G_graph (a0, ())).bind fun r1 =>
 if (!r1.1) = true then
  some ((([] : List (List Int)), (false, ())))
 else
  (G_netOf (a0, ())).bind fun r2 =>
  (G_dists (r2.1, ())).bind fun r3 =>
  some ((r3.1, (true, ())))
theorem F_q32q_ok (N : Nat) (d) : fnR Γ_q32q (assoc []) true [(K_PiSPiiqq, false)] [K_SSi, .bool] Try.f27.results.toList (bodyOf Try.f27) d = F_q32q N d := by kernel_rfl
noncomputable def S_q32q : FSig := ⟨[(K_PiSPiiqq, false)], [K_SSi, .bool], true, (F_q32q 0)⟩
noncomputable def Γ_q80q : Ctx := { tk := assoc tks, ar := assoc ars, fs := assoc [(105, S_q72q)] }
abbrev q80q_l2_H := (Int × (List (Int × Int × Unit)) × Unit) × List (List Int) × Int × List Int × Int × Unit
abbrev q80q_l2_O := ((Int × (List (Int × Int × Unit)) × Unit) × List (List Int) × Int × List Int × Unit) ⊕ Empty
def q80q_l2_h : Form := [(1, .box K_PiSPiiqq 0), (3, .own K_SSi 100), (4, .v I), (5, .own K_Si 99), (6, .v I)]
def q80q_l2_o : Outs := [(.normal, [(1, .box K_PiSPiiqq 0), (3, .own K_SSi 100), (4, .v I), (5, .own K_Si 99)])]
noncomputable def q80q_l2_r (N : Nat) (back : q80q_l2_H -> Option q80q_l2_O) (d : q80q_l2_H) : Option q80q_l2_O :=
 let s1 : Int × (List (Int × Int × Unit)) × Unit := d.1
 let s3 : List (List Int) := d.2.1
 let s4 : Int := d.2.2.1
 let s5 : List Int := d.2.2.2.1
 let s6 : Int := d.2.2.2.2.1
 if (decide (s6 < s1.1)) = true then
  if (decide (List.length s5 + List.length ([(-1 : Int)]) <= lim)) = true then
  let x41 : Int := IntKind.wrap .i64 (s6 + (1 : Int))
  back ((s1, (s3, (s4, (s5 ++ ([(-1 : Int)]), (x41, ()))))))
  else none
 else
  some (.inl ((s1, (s3, (s4, (s5, ()))))))
noncomputable def q80q_l2 (N : Nat) : Nat -> q80q_l2_H -> Option q80q_l2_O
 | 0, _ => none
 | k + 1, d => q80q_l2_r N (q80q_l2 N k) d
theorem q80q_l2_ok (N : Nat) (back) (d) : roundR Γ_q80q (assoc []) 2 q80q_l2_h q80q_l2_o (loopOf Try.f93 2) back d = q80q_l2_r N back d := by kernel_rfl
abbrev q80q_l8_H := (Int × (List (Int × Int × Unit)) × Unit) × List (List Int) × Int × List Int × Int × Int × Int × Unit
abbrev q80q_l8_O := ((Int × (List (Int × Int × Unit)) × Unit) × List (List Int) × Int × List Int × Int × Int × Unit) ⊕ Empty
def q80q_l8_h : Form := [(1, .box K_PiSPiiqq 0), (3, .own K_SSi 100), (4, .v I), (5, .own K_Si 99), (7, .v I), (8, .v I), (9, .v I)]
def q80q_l8_o : Outs := [(.normal, [(1, .box K_PiSPiiqq 0), (3, .own K_SSi 100), (4, .v I), (5, .own K_Si 99), (7, .v I), (8, .v I)])]
noncomputable def q80q_l8_r (N : Nat) (back : q80q_l8_H -> Option q80q_l8_O) (d : q80q_l8_H) : Option q80q_l8_O :=
 let s1 : Int × (List (Int × Int × Unit)) × Unit := d.1
 let s3 : List (List Int) := d.2.1
 let s4 : Int := d.2.2.1
 let s5 : List Int := d.2.2.2.1
 let s7 : Int := d.2.2.2.2.1
 let s8 : Int := d.2.2.2.2.2.1
 let s9 : Int := d.2.2.2.2.2.2.1
 if (decide (s9 < s1.1)) = true then
  if (idxIn s8 (List.length s5)) = true then
  if (at_ I s5 s8.toNat == s7) = true then
   if (idxIn s9 (List.length s5)) = true then
   if (decide (at_ I s5 s9.toNat < (0 : Int))) = true then
    (G_l2Near ((s1, (s8, (s9, ()))))).bind fun r63 =>
    if (r63.1) = true then
     let x64 : Int := IntKind.wrap .i64 (s7 + (1 : Int))
     if (idxIn s9 (List.length s5)) = true then
     let x65 : Int := IntKind.wrap .i64 (s9 + (1 : Int))
     back ((s1, (s3, (s4, (List.set s5 s9.toNat x64, (s7, (s8, (x65, ()))))))))
     else none
    else
     let x66 : Int := IntKind.wrap .i64 (s9 + (1 : Int))
     back ((s1, (s3, (s4, (s5, (s7, (s8, (x66, ()))))))))
   else
    let x67 : Int := IntKind.wrap .i64 (s9 + (1 : Int))
    back ((s1, (s3, (s4, (s5, (s7, (s8, (x67, ()))))))))
   else none
  else
   let x68 : Int := IntKind.wrap .i64 (s9 + (1 : Int))
   back ((s1, (s3, (s4, (s5, (s7, (s8, (x68, ()))))))))
  else none
 else
  some (.inl ((s1, (s3, (s4, (s5, (s7, (s8, ()))))))))
noncomputable def q80q_l8 (N : Nat) : Nat -> q80q_l8_H -> Option q80q_l8_O
 | 0, _ => none
 | k + 1, d => q80q_l8_r N (q80q_l8 N k) d
theorem q80q_l8_ok (N : Nat) (back) (d) : roundR Γ_q80q (assoc []) 8 q80q_l8_h q80q_l8_o (loopOf Try.f93 8) back d = q80q_l8_r N back d := by kernel_rfl
abbrev q80q_l6_H := (Int × (List (Int × Int × Unit)) × Unit) × List (List Int) × Int × List Int × Int × Int × Unit
abbrev q80q_l6_O := ((Int × (List (Int × Int × Unit)) × Unit) × List (List Int) × Int × List Int × Int × Unit) ⊕ Empty
def q80q_l6_h : Form := [(1, .box K_PiSPiiqq 0), (3, .own K_SSi 100), (4, .v I), (5, .own K_Si 99), (7, .v I), (8, .v I)]
def q80q_l6_o : Outs := [(.normal, [(1, .box K_PiSPiiqq 0), (3, .own K_SSi 100), (4, .v I), (5, .own K_Si 99), (7, .v I)])]
noncomputable def q80q_l6_r (N : Nat) (back : q80q_l6_H -> Option q80q_l6_O) (d : q80q_l6_H) : Option q80q_l6_O :=
 let s1 : Int × (List (Int × Int × Unit)) × Unit := d.1
 let s3 : List (List Int) := d.2.1
 let s4 : Int := d.2.2.1
 let s5 : List Int := d.2.2.2.1
 let s7 : Int := d.2.2.2.2.1
 let s8 : Int := d.2.2.2.2.2.1
 if (decide (s8 < s1.1)) = true then
  (q80q_l8 N N ((s1, (s3, (s4, (s5, (s7, (s8, ((0 : Int), ()))))))))).bind fun o60 => match o60 with
  | .inl d61 =>
   let x62 : Int := IntKind.wrap .i64 (d61.2.2.2.2.2.1 + (1 : Int))
   back ((d61.1, (d61.2.1, (d61.2.2.1, (d61.2.2.2.1, (d61.2.2.2.2.1, (x62, ())))))))
 else
  some (.inl ((s1, (s3, (s4, (s5, (s7, ())))))))
noncomputable def q80q_l6 (N : Nat) : Nat -> q80q_l6_H -> Option q80q_l6_O
 | 0, _ => none
 | k + 1, d => q80q_l6_r N (q80q_l6 N k) d
theorem q80q_l6_ok (N : Nat) (back) (d) : roundR Γ_q80q (assoc [(8, ⟨q80q_l8_h, q80q_l8_o, q80q_l8 N N⟩)]) 6 q80q_l6_h q80q_l6_o (loopOf Try.f93 6) back d = q80q_l6_r N back d := by kernel_rfl
abbrev q80q_l4_H := (Int × (List (Int × Int × Unit)) × Unit) × List (List Int) × Int × List Int × Int × Unit
abbrev q80q_l4_O := ((Int × (List (Int × Int × Unit)) × Unit) × List (List Int) × Int × List Int × Unit) ⊕ Empty
def q80q_l4_h : Form := [(1, .box K_PiSPiiqq 0), (3, .own K_SSi 100), (4, .v I), (5, .own K_Si 99), (7, .v I)]
def q80q_l4_o : Outs := [(.normal, [(1, .box K_PiSPiiqq 0), (3, .own K_SSi 100), (4, .v I), (5, .own K_Si 99)])]
noncomputable def q80q_l4_r (N : Nat) (back : q80q_l4_H -> Option q80q_l4_O) (d : q80q_l4_H) : Option q80q_l4_O :=
 let s1 : Int × (List (Int × Int × Unit)) × Unit := d.1
 let s3 : List (List Int) := d.2.1
 let s4 : Int := d.2.2.1
 let s5 : List Int := d.2.2.2.1
 let s7 : Int := d.2.2.2.2.1
 if (decide (s7 < s1.1)) = true then
  (q80q_l6 N N ((s1, (s3, (s4, (s5, (s7, ((0 : Int), ())))))))).bind fun o51 => match o51 with
  | .inl d52 =>
   let x53 : Int := IntKind.wrap .i64 (d52.2.2.2.2.1 + (1 : Int))
   back ((d52.1, (d52.2.1, (d52.2.2.1, (d52.2.2.2.1, (x53, ()))))))
 else
  some (.inl ((s1, (s3, (s4, (s5, ()))))))
noncomputable def q80q_l4 (N : Nat) : Nat -> q80q_l4_H -> Option q80q_l4_O
 | 0, _ => none
 | k + 1, d => q80q_l4_r N (q80q_l4 N k) d
theorem q80q_l4_ok (N : Nat) (back) (d) : roundR Γ_q80q (assoc [(6, ⟨q80q_l6_h, q80q_l6_o, q80q_l6 N N⟩)]) 4 q80q_l4_h q80q_l4_o (loopOf Try.f93 4) back d = q80q_l4_r N back d := by kernel_rfl
abbrev q80q_l0_H := (Int × (List (Int × Int × Unit)) × Unit) × List (List Int) × Int × Unit
abbrev q80q_l0_O := (List (List Int) × Unit) ⊕ Empty
def q80q_l0_h : Form := [(1, .box K_PiSPiiqq 0), (3, .own K_SSi 100), (4, .v I)]
def q80q_l0_o : Outs := [(.normal, [(3, .own K_SSi 100)])]
noncomputable def q80q_l0_r (N : Nat) (back : q80q_l0_H -> Option q80q_l0_O) (d : q80q_l0_H) : Option q80q_l0_O :=
 let s1 : Int × (List (Int × Int × Unit)) × Unit := d.1
 let s3 : List (List Int) := d.2.1
 let s4 : Int := d.2.2.1
 if (decide (s4 < s1.1)) = true then
  (q80q_l2 N N ((s1, (s3, (s4, (([] : List Int), ((0 : Int), ()))))))).bind fun o23 => match o23 with
  | .inl d24 =>
   if (idxIn d24.2.2.1 (List.length d24.2.2.2.1)) = true then
   let x25 : List Int := List.set d24.2.2.2.1 d24.2.2.1.toNat (0 : Int)
   (q80q_l4 N N ((d24.1, (d24.2.1, (d24.2.2.1, (x25, ((0 : Int), ()))))))).bind fun o38 => match o38 with
   | .inl d39 =>
    if (decide (List.length d39.2.1 + List.length ([d39.2.2.2.1]) <= lim)) = true then
    let x40 : Int := IntKind.wrap .i64 (d39.2.2.1 + (1 : Int))
    back ((d39.1, (d39.2.1 ++ ([d39.2.2.2.1]), (x40, ()))))
    else none
   else none
 else
  some (.inl (s3, ()))
noncomputable def q80q_l0 (N : Nat) : Nat -> q80q_l0_H -> Option q80q_l0_O
 | 0, _ => none
 | k + 1, d => q80q_l0_r N (q80q_l0 N k) d
theorem q80q_l0_ok (N : Nat) (back) (d) : roundR Γ_q80q (assoc [(2, ⟨q80q_l2_h, q80q_l2_o, q80q_l2 N N⟩), (4, ⟨q80q_l4_h, q80q_l4_o, q80q_l4 N N⟩)]) 0 q80q_l0_h q80q_l0_o (loopOf Try.f93 0) back d = q80q_l0_r N back d := by kernel_rfl
noncomputable def F_q80q (N : Nat) (d : (Int × (List (Int × Int × Unit)) × Unit) × Unit) : Option (List (List Int) × Unit) :=
 let a0 : Int × (List (Int × Int × Unit)) × Unit := d.1
 (q80q_l0 N N ((a0, (([] : List (List Int)), ((0 : Int), ()))))).bind fun o20 => match o20 with
 | .inl d21 =>
  some (d21.1, ())
theorem F_q80q_ok (N : Nat) (d) : fnR Γ_q80q (assoc [(0, ⟨q80q_l0_h, q80q_l0_o, q80q_l0 N N⟩)]) true [(K_PiSPiiqq, false)] [K_SSi] Try.f93.results.toList (bodyOf Try.f93) d = F_q80q N d := by kernel_rfl
noncomputable def S_q80q : FSig := ⟨[(K_PiSPiiqq, false)], [K_SSi], true, (G_l2Dist)⟩
noncomputable def Γ_q29q : Ctx := { tk := assoc tks, ar := assoc ars, fs := assoc [(90, S_q81q), (93, S_q80q)] }
noncomputable def F_q29q (N : Nat) (d : (Int × (List (Int × Int × Unit)) × Unit) × Unit) : Option (List (List Int) × Bool × Unit) :=
 let a0 : Int × (List (Int × Int × Unit)) × Unit := d.1
 (G_graph (a0, ())).bind fun r1 =>
 if (!r1.1) = true then
  some ((([] : List (List Int)), (false, ())))
 else
  (G_l2Dist (a0, ())).bind fun r2 =>
  some ((r2.1, (true, ())))
theorem F_q29q_ok (N : Nat) (d) : fnR Γ_q29q (assoc []) true [(K_PiSPiiqq, false)] [K_SSi, .bool] Try.f67.results.toList (bodyOf Try.f67) d = F_q29q N d := by kernel_rfl
noncomputable def S_q29q : FSig := ⟨[(K_PiSPiiqq, false)], [K_SSi, .bool], true, (F_q29q 0)⟩
noncomputable def Γ_q38q : Ctx := { tk := assoc tks, ar := assoc ars, fs := assoc [(26, S_q75q), (67, S_q29q)] }
noncomputable def F_q38q (N : Nat) (d : (Int × (List (Int × Int × Unit)) × Unit) × List (List Int) × Unit) : Option (Bool × Unit) :=
 let a0 : Int × (List (Int × Int × Unit)) × Unit := d.1
 let a1 : List (List Int) := d.2.1
 ((F_q29q 0) (a0, ())).bind fun r1 =>
 if (r1.2.1) = true then
  (G_rTable ((a1, (r1.1, ())))).bind fun r2 =>
  some (r2.1, ())
 else
  some (false, ())
theorem F_q38q_ok (N : Nat) (d) : fnR Γ_q38q (assoc []) true [(K_PiSPiiqq, false), (K_SSi, false)] [.bool] Try.f28.results.toList (bodyOf Try.f28) d = F_q38q N d := by kernel_rfl
noncomputable def S_q38q : FSig := ⟨[(K_PiSPiiqq, false), (K_SSi, false)], [.bool], true, (F_q38q 0)⟩
noncomputable def Γ_laws_FnTimetables : Ctx := { tk := assoc tks, ar := assoc ars, fs := assoc [(5, S_laws_rBig), (6, S_q9q), (7, S_q24q), (8, S_q22q), (9, S_laws_rInts), (10, S_q14q), (11, S_q16q), (12, S_q27q), (13, S_q48q), (14, S_q47q), (15, S_q71q), (16, S_q26q), (17, S_laws_rHas), (18, S_q44q), (19, S_q50q), (20, S_laws_rPart), (21, S_q21q), (22, S_q28q), (23, S_q4q), (24, S_q12q), (25, S_q13q), (26, S_q75q), (27, S_q32q), (28, S_q38q)] }
abbrev laws_FnTimetables_l0_H := List Int × ((Int × (List (Int × Int × Unit)) × Unit) × Int × List (List Int) × Unit) × Int × Int × Int × List Int × Int × Int × Unit
abbrev laws_FnTimetables_l0_O := (Bool × Unit) ⊕ (List Int × ((Int × (List (Int × Int × Unit)) × Unit) × Int × List (List Int) × Unit) × Int × Int × Int × Int × Unit) ⊕ Empty
def laws_FnTimetables_l0_h : Form := [(0, .v K_Su8), (3, .box K_PPiSPiiqqiSSiq 0), (4, .v I), (5, .v I), (6, .v I), (7, .own K_Si 99), (11, .v I), (15, .v I)]
def laws_FnTimetables_l0_o : Outs := [(.ret, [(2, .v .bool)]), (.normal, [(0, .v K_Su8), (3, .box K_PPiSPiiqqiSSiq 0), (4, .v I), (5, .v I), (6, .v I), (11, .v I)])]
noncomputable def laws_FnTimetables_l0_r (N : Nat) (back : laws_FnTimetables_l0_H -> Option laws_FnTimetables_l0_O) (d : laws_FnTimetables_l0_H) : Option laws_FnTimetables_l0_O :=
 let s0 : List Int := d.1
 let s3 : (Int × (List (Int × Int × Unit)) × Unit) × Int × List (List Int) × Unit := d.2.1
 let s4 : Int := d.2.2.1
 let s5 : Int := d.2.2.2.1
 let s6 : Int := d.2.2.2.2.1
 let s7 : List Int := d.2.2.2.2.2.1
 let s11 : Int := d.2.2.2.2.2.2.1
 let s15 : Int := d.2.2.2.2.2.2.2.1
 if (decide (s15 < s11)) = true then
  if (decide (IntKind.wrap .i64 (s6 + s15) <= (1000 : Int))) = true then
   ((F_q48q 0) ((s3, (IntKind.wrap .i64 (s6 + s15), ())))).bind fun r85 =>
   ((F_q47q 0) ((s3, (IntKind.wrap .i64 (s6 + s15), ())))).bind fun r86 =>
   if (!r85.2.1) = true then
    some (.inl (false, ()))
   else
    if (!r86.2.1) = true then
     some (.inl (false, ()))
    else
     (G_rGraph ((r85.1, (r86.1, ())))).bind fun r87 =>
     if (!r87.1) = true then
      some (.inl (false, ()))
     else
      if (idxIn s15 (List.length s7)) = true then
      ((F_q26q 0) ((r85.1, (at_ I s7 s15.toNat, ())))).bind fun r88 =>
      if (!r88.2.1) = true then
       some (.inl (false, ()))
      else
       let x89 : Int := IntKind.wrap .i64 (s15 + (1 : Int))
       if (idxIn x89 (List.length s7)) = true then
       if (idxIn s15 (List.length s7)) = true then
       if (at_ I s7 x89.toNat != at_ I s7 s15.toNat) = true then
        let x90 : Int := IntKind.wrap .i64 (s15 + (1 : Int))
        if (idxIn x90 (List.length s7)) = true then
        (G_rHas ((r88.1, (at_ I s7 x90.toNat, ())))).bind fun r91 =>
        if (!r91.1) = true then
         some (.inl (false, ()))
        else
         let x92 : Int := IntKind.wrap .i64 (s15 + (1 : Int))
         back ((s0, (s3, (s4, (s5, (s6, (s7, (s11, (x92, ())))))))))
        else none
       else
        let x93 : Int := IntKind.wrap .i64 (s15 + (1 : Int))
        back ((s0, (s3, (s4, (s5, (s6, (s7, (s11, (x93, ())))))))))
       else none
       else none
      else none
  else
   some (.inr (.inl ((s0, (s3, (s4, (s5, (s6, (s11, ())))))))))
 else
  some (.inr (.inl ((s0, (s3, (s4, (s5, (s6, (s11, ())))))))))
noncomputable def laws_FnTimetables_l0 (N : Nat) : Nat -> laws_FnTimetables_l0_H -> Option laws_FnTimetables_l0_O
 | 0, _ => none
 | k + 1, d => laws_FnTimetables_l0_r N (laws_FnTimetables_l0 N k) d
theorem laws_FnTimetables_l0_ok (N : Nat) (back) (d) : roundR Γ_laws_FnTimetables (assoc []) 0 laws_FnTimetables_l0_h laws_FnTimetables_l0_o (loopOf Try.f3 0) back d = laws_FnTimetables_l0_r N back d := by kernel_rfl
abbrev laws_FnTimetables_l4_H := (Int × (List (Int × Int × Unit)) × Unit) × ((Int × (List (Int × Int × Unit)) × Unit) × Int × List (List Int) × Unit) × List (List Int) × Int × Int × Unit
abbrev laws_FnTimetables_l4_O := (Bool × Unit) ⊕ ((Int × (List (Int × Int × Unit)) × Unit) × ((Int × (List (Int × Int × Unit)) × Unit) × Int × List (List Int) × Unit) × List (List Int) × Int × Unit) ⊕ Empty
def laws_FnTimetables_l4_h : Form := [(36, .box K_PiSPiiqq 99), (37, .box K_PPiSPiiqqiSSiq 99), (41, .own K_SSi 99), (43, .v I), (44, .v I)]
def laws_FnTimetables_l4_o : Outs := [(.ret, [(2, .v .bool)]), (.normal, [(36, .box K_PiSPiiqq 99), (37, .box K_PPiSPiiqqiSSiq 99), (41, .own K_SSi 99), (43, .v I)])]
noncomputable def laws_FnTimetables_l4_r (N : Nat) (back : laws_FnTimetables_l4_H -> Option laws_FnTimetables_l4_O) (d : laws_FnTimetables_l4_H) : Option laws_FnTimetables_l4_O :=
 let s36 : Int × (List (Int × Int × Unit)) × Unit := d.1
 let s37 : (Int × (List (Int × Int × Unit)) × Unit) × Int × List (List Int) × Unit := d.2.1
 let s41 : List (List Int) := d.2.2.1
 let s43 : Int := d.2.2.2.1
 let s44 : Int := d.2.2.2.2.1
 if (decide (s44 < s36.1)) = true then
  ((F_q14q 0) ((s37, (s43, (s44, ((7 : Int), ())))))).bind fun r101 =>
  if (idxIn s43 (List.length s41)) = true then
  if (idxIn s44 (List.length (at_ K_Si s41 s43.toNat))) = true then
  if (!(r101.2.1 == (decide (at_ I (at_ K_Si s41 s43.toNat) s44.toNat >= (0 : Int))))) = true then
   some (.inl (false, ()))
  else
   if (r101.2.1) = true then
    if (idxIn s43 (List.length s41)) = true then
    if (idxIn s44 (List.length (at_ K_Si s41 s43.toNat))) = true then
    if (r101.1 != at_ I (at_ K_Si s41 s43.toNat) s44.toNat) = true then
     some (.inl (false, ()))
    else
     let x102 : Int := IntKind.wrap .i64 (s44 + (1 : Int))
     back ((s36, (s37, (s41, (s43, (x102, ()))))))
    else none
    else none
   else
    let x103 : Int := IntKind.wrap .i64 (s44 + (1 : Int))
    back ((s36, (s37, (s41, (s43, (x103, ()))))))
  else none
  else none
 else
  some (.inr (.inl ((s36, (s37, (s41, (s43, ())))))))
noncomputable def laws_FnTimetables_l4 (N : Nat) : Nat -> laws_FnTimetables_l4_H -> Option laws_FnTimetables_l4_O
 | 0, _ => none
 | k + 1, d => laws_FnTimetables_l4_r N (laws_FnTimetables_l4 N k) d
theorem laws_FnTimetables_l4_ok (N : Nat) (back) (d) : roundR Γ_laws_FnTimetables (assoc []) 4 laws_FnTimetables_l4_h laws_FnTimetables_l4_o (loopOf Try.f3 4) back d = laws_FnTimetables_l4_r N back d := by kernel_rfl
abbrev laws_FnTimetables_l2_H := (Int × (List (Int × Int × Unit)) × Unit) × ((Int × (List (Int × Int × Unit)) × Unit) × Int × List (List Int) × Unit) × List (List Int) × Int × Unit
abbrev laws_FnTimetables_l2_O := (Bool × Unit) ⊕ Unit ⊕ Empty
def laws_FnTimetables_l2_h : Form := [(36, .box K_PiSPiiqq 99), (37, .box K_PPiSPiiqqiSSiq 99), (41, .own K_SSi 99), (43, .v I)]
def laws_FnTimetables_l2_o : Outs := [(.ret, [(2, .v .bool)]), (.normal, [])]
noncomputable def laws_FnTimetables_l2_r (N : Nat) (back : laws_FnTimetables_l2_H -> Option laws_FnTimetables_l2_O) (d : laws_FnTimetables_l2_H) : Option laws_FnTimetables_l2_O :=
 let s36 : Int × (List (Int × Int × Unit)) × Unit := d.1
 let s37 : (Int × (List (Int × Int × Unit)) × Unit) × Int × List (List Int) × Unit := d.2.1
 let s41 : List (List Int) := d.2.2.1
 let s43 : Int := d.2.2.2.1
 if (decide (s43 < s36.1)) = true then
  (laws_FnTimetables_l4 N N ((s36, (s37, (s41, (s43, ((0 : Int), ()))))))).bind fun o97 => match o97 with
  | .inl d98 =>
   some (.inl (d98.1, ()))
  | .inr (.inl d99) =>
   let x100 : Int := IntKind.wrap .i64 (d99.2.2.2.1 + (1 : Int))
   back ((d99.1, (d99.2.1, (d99.2.2.1, (x100, ())))))
 else
  some (.inr (.inl ()))
noncomputable def laws_FnTimetables_l2 (N : Nat) : Nat -> laws_FnTimetables_l2_H -> Option laws_FnTimetables_l2_O
 | 0, _ => none
 | k + 1, d => laws_FnTimetables_l2_r N (laws_FnTimetables_l2 N k) d
theorem laws_FnTimetables_l2_ok (N : Nat) (back) (d) : roundR Γ_laws_FnTimetables (assoc [(4, ⟨laws_FnTimetables_l4_h, laws_FnTimetables_l4_o, laws_FnTimetables_l4 N N⟩)]) 2 laws_FnTimetables_l2_h laws_FnTimetables_l2_o (loopOf Try.f3 2) back d = laws_FnTimetables_l2_r N back d := by kernel_rfl
noncomputable def F_laws_FnTimetables (N : Nat) (d : List Int × Unit) : Option (Bool × Unit) :=
 let a0 : List Int := d.1
 let r1 : Bool × Unit := g_laws_rBig (a0, ())
 if (r1.1) = true then
  some (true, ())
 else
  ((F_q9q 0) (a0, ())).bind fun r2 =>
  (G_earliestTrip ((r2.1, (r2.2.1, (r2.2.2.1, (r2.2.2.2.1, ())))))).bind fun r3 =>
  (G_earliestTrip ((r2.1, (r2.2.1, (r2.2.2.1, (r2.2.2.2.1, ())))))).bind fun r4 =>
  if (!(r3.2.1 == r4.2.1)) = true then
   some (false, ())
  else
   (G_rInts ((r3.1, (r4.1, ())))).bind fun r5 =>
   if (!r5.1) = true then
    some (false, ())
   else
    ((F_q14q 0) ((r2.1, (r2.2.1, (r2.2.2.1, (r2.2.2.2.1, ())))))).bind fun r6 =>
    ((F_q16q 0) ((r2.1, (r2.2.1, (r2.2.2.1, (r2.2.2.2.1, ())))))).bind fun r7 =>
    if (r6.1 != r7.1) = true then
     some (false, ())
    else
     if (!(r6.2.1 == r7.2.1)) = true then
      some (false, ())
     else
      if (!(r6.2.1 == r3.2.1)) = true then
       some (false, ())
      else
       if (r3.2.1) = true then
        let x8 : Int := IntKind.wrap .i64 (r6.1 + (1 : Int))
        if ((List.length r3.1 : Int) != x8) = true then
         some (false, ())
        else
         if (idxIn (0 : Int) (List.length r3.1)) = true then
         if (at_ I r3.1 (0 : Int).toNat != r2.2.1) = true then
          some (false, ())
         else
          if (idxIn r6.1 (List.length r3.1)) = true then
          if (at_ I r3.1 r6.1.toNat != r2.2.2.1) = true then
           some (false, ())
          else
           ((F_q27q 0) (r2.1, ())).bind fun r9 =>
           if (!r9.1) = true then
            some (false, ())
           else
            (laws_FnTimetables_l0 N N ((a0, (r2.1, (r2.2.1, (r2.2.2.1, (r2.2.2.2.1, (r3.1, (r6.1, ((0 : Int), ())))))))))).bind fun o19 => match o19 with
            | .inl d20 =>
             some (d20.1, ())
            | .inr (.inl d21) =>
             if (decide (d21.2.2.2.2.2.1 > (0 : Int))) = true then
              let x22 : Int := IntKind.wrap .i64 (d21.2.2.2.2.2.1 - (1 : Int))
              (G_reachedBy ((d21.2.1, (d21.2.2.1, (d21.2.2.2.2.1, (x22, ())))))).bind fun r23 =>
              (G_reachedBy ((d21.2.1, (d21.2.2.1, (d21.2.2.2.2.1, (d21.2.2.2.2.2.1, ())))))).bind fun r24 =>
              (G_reachedBy ((d21.2.1, (d21.2.2.1, (d21.2.2.2.2.1, (d21.2.2.2.2.2.1, ())))))).bind fun r25 =>
              if (!r23.2.1) = true then
               some (false, ())
              else
               if (!r24.2.1) = true then
                some (false, ())
               else
                if (!r25.2.1) = true then
                 some (false, ())
                else
                 (G_rInts ((r24.1, (r25.1, ())))).bind fun r26 =>
                 if (!r26.1) = true then
                  some (false, ())
                 else
                  (G_rHas ((r23.1, (d21.2.2.2.1, ())))).bind fun r27 =>
                  if (r27.1) = true then
                   some (false, ())
                  else
                   (G_rHas ((r24.1, (d21.2.2.2.1, ())))).bind fun r28 =>
                   if (!r28.1) = true then
                    some (false, ())
                   else
                    (G_rPart ((r23.1, (r24.1, ())))).bind fun r29 =>
                    if (!r29.1) = true then
                     some (false, ())
                    else
                     ((F_q21q 0) (d21.1, ())).bind fun r30 =>
                     (G_reachedBy ((r30.1, (r30.2.1, (r30.2.2.1, (r30.2.2.2.1, ())))))).bind fun r31 =>
                     (G_reachedBy ((r30.1, (r30.2.1, (r30.2.2.1, (r30.2.2.2.1, ())))))).bind fun r32 =>
                     if (!(r31.2.1 == r32.2.1)) = true then
                      some (false, ())
                     else
                      (G_rInts ((r31.1, (r32.1, ())))).bind fun r33 =>
                      if (!r33.1) = true then
                       some (false, ())
                      else
                       ((F_q27q 0) (r30.1, ())).bind fun r34 =>
                       ((F_q28q 0) (r30.1, ())).bind fun r35 =>
                       if (!(r34.1 == r35.1)) = true then
                        some (false, ())
                       else
                        ((F_q4q 0) (d21.1, ())).bind fun r36 =>
                        (G_static (r36.1, ())).bind fun r37 =>
                        (G_static (r36.1, ())).bind fun r38 =>
                        if (!(r37.2.1 == r38.2.1)) = true then
                         some (false, ())
                        else
                         if (r37.1.2.1 != r38.1.2.1) = true then
                          some (false, ())
                         else
                          (G_rGraph ((r37.1.1, (r38.1.1, ())))).bind fun r39 =>
                          if (!r39.1) = true then
                           some (false, ())
                          else
                           (G_rTable ((r37.1.2.2.1, (r38.1.2.2.1, ())))).bind fun r40 =>
                           if (!r40.1) = true then
                            some (false, ())
                           else
                            if (!r37.2.1) = true then
                             some (true, ())
                            else
                             ((F_q32q 0) (r36.1, ())).bind fun r41 =>
                             if (!r41.2.1) = true then
                              some (false, ())
                             else
                              ((F_q38q 0) ((r36.1, (r41.1, ())))).bind fun r42 =>
                              if (!r42.1) = true then
                               some (false, ())
                              else
                               (laws_FnTimetables_l2 N N ((r36.1, (r37.1, (r41.1, ((0 : Int), ())))))).bind fun o50 => match o50 with
                               | .inl d51 =>
                                some (d51.1, ())
                               | .inr (.inl d52) =>
                                some (true, ())
             else
              ((F_q21q 0) (d21.1, ())).bind fun r53 =>
              (G_reachedBy ((r53.1, (r53.2.1, (r53.2.2.1, (r53.2.2.2.1, ())))))).bind fun r54 =>
              (G_reachedBy ((r53.1, (r53.2.1, (r53.2.2.1, (r53.2.2.2.1, ())))))).bind fun r55 =>
              if (!(r54.2.1 == r55.2.1)) = true then
               some (false, ())
              else
               (G_rInts ((r54.1, (r55.1, ())))).bind fun r56 =>
               if (!r56.1) = true then
                some (false, ())
               else
                ((F_q27q 0) (r53.1, ())).bind fun r57 =>
                ((F_q28q 0) (r53.1, ())).bind fun r58 =>
                if (!(r57.1 == r58.1)) = true then
                 some (false, ())
                else
                 ((F_q4q 0) (d21.1, ())).bind fun r59 =>
                 (G_static (r59.1, ())).bind fun r60 =>
                 (G_static (r59.1, ())).bind fun r61 =>
                 if (!(r60.2.1 == r61.2.1)) = true then
                  some (false, ())
                 else
                  if (r60.1.2.1 != r61.1.2.1) = true then
                   some (false, ())
                  else
                   (G_rGraph ((r60.1.1, (r61.1.1, ())))).bind fun r62 =>
                   if (!r62.1) = true then
                    some (false, ())
                   else
                    (G_rTable ((r60.1.2.2.1, (r61.1.2.2.1, ())))).bind fun r63 =>
                    if (!r63.1) = true then
                     some (false, ())
                    else
                     if (!r60.2.1) = true then
                      some (true, ())
                     else
                      ((F_q32q 0) (r59.1, ())).bind fun r64 =>
                      if (!r64.2.1) = true then
                       some (false, ())
                      else
                       ((F_q38q 0) ((r59.1, (r64.1, ())))).bind fun r65 =>
                       if (!r65.1) = true then
                        some (false, ())
                       else
                        (laws_FnTimetables_l2 N N ((r59.1, (r60.1, (r64.1, ((0 : Int), ())))))).bind fun o66 => match o66 with
                        | .inl d67 =>
                         some (d67.1, ())
                        | .inr (.inl d68) =>
                         some (true, ())
          else none
         else none
       else
        ((F_q21q 0) (a0, ())).bind fun r69 =>
        (G_reachedBy ((r69.1, (r69.2.1, (r69.2.2.1, (r69.2.2.2.1, ())))))).bind fun r70 =>
        (G_reachedBy ((r69.1, (r69.2.1, (r69.2.2.1, (r69.2.2.2.1, ())))))).bind fun r71 =>
        if (!(r70.2.1 == r71.2.1)) = true then
         some (false, ())
        else
         (G_rInts ((r70.1, (r71.1, ())))).bind fun r72 =>
         if (!r72.1) = true then
          some (false, ())
         else
          ((F_q27q 0) (r69.1, ())).bind fun r73 =>
          ((F_q28q 0) (r69.1, ())).bind fun r74 =>
          if (!(r73.1 == r74.1)) = true then
           some (false, ())
          else
           ((F_q4q 0) (a0, ())).bind fun r75 =>
           (G_static (r75.1, ())).bind fun r76 =>
           (G_static (r75.1, ())).bind fun r77 =>
           if (!(r76.2.1 == r77.2.1)) = true then
            some (false, ())
           else
            if (r76.1.2.1 != r77.1.2.1) = true then
             some (false, ())
            else
             (G_rGraph ((r76.1.1, (r77.1.1, ())))).bind fun r78 =>
             if (!r78.1) = true then
              some (false, ())
             else
              (G_rTable ((r76.1.2.2.1, (r77.1.2.2.1, ())))).bind fun r79 =>
              if (!r79.1) = true then
               some (false, ())
              else
               if (!r76.2.1) = true then
                some (true, ())
               else
                ((F_q32q 0) (r75.1, ())).bind fun r80 =>
                if (!r80.2.1) = true then
                 some (false, ())
                else
                 ((F_q38q 0) ((r75.1, (r80.1, ())))).bind fun r81 =>
                 if (!r81.1) = true then
                  some (false, ())
                 else
                  (laws_FnTimetables_l2 N N ((r75.1, (r76.1, (r80.1, ((0 : Int), ())))))).bind fun o82 => match o82 with
                  | .inl d83 =>
                   some (d83.1, ())
                  | .inr (.inl d84) =>
                   some (true, ())
theorem F_laws_FnTimetables_ok (N : Nat) (d) : fnR Γ_laws_FnTimetables (assoc [(0, ⟨laws_FnTimetables_l0_h, laws_FnTimetables_l0_o, laws_FnTimetables_l0 N N⟩), (2, ⟨laws_FnTimetables_l2_h, laws_FnTimetables_l2_o, laws_FnTimetables_l2 N N⟩)]) true [(K_Su8, false)] [.bool] Try.f3.results.toList (bodyOf Try.f3) d = F_laws_FnTimetables N d := by kernel_rfl
noncomputable def S_laws_FnTimetables : FSig := ⟨[(K_Su8, false)], [.bool], true, (G_law)⟩
end Go.V.W
set_option linter.unusedVariables false
set_option linter.unusedSimpArgs false
namespace Go.V.W
theorem wrap_nat {m : Nat} (h : m < 9223372036854775808) : IntKind.wrap .i64 (m : Int) = (m : Int) := Go.IntWalk.i64_in _ (by omega)
theorem ofInt_nat (m : Nat) : BitVec.ofInt 64 (m : Int) = BitVec.ofNat 64 m := by simp
theorem bits_or {a b : Nat} (ha : a < 256) (hb : b < 256) : bits .or .i64 (a : Int) (b : Int) = ((a ||| b : Nat) : Int) := by
 have hab : a ||| b < 256 := Nat.or_lt_two_pow (n := 8) ha hb
 have e : (BitVec.ofInt IntKind.i64.bits (a : Int) ||| BitVec.ofInt IntKind.i64.bits (b : Int)).toNat = a ||| b := by
  show (BitVec.ofInt 64 (a : Int) ||| BitVec.ofInt 64 (b : Int)).toNat = a ||| b
  rw [ofInt_nat, ofInt_nat, BitVec.toNat_or, BitVec.toNat_ofNat, BitVec.toNat_ofNat, Nat.mod_eq_of_lt (by omega), Nat.mod_eq_of_lt (by omega)]
 unfold bits bitI
 simp only [Option.getD_some]
 rw [e]
 exact wrap_nat (by omega)
theorem bits_and {a b : Nat} (ha : a < 256) (hb : b < 256) : bits .and .i64 (a : Int) (b : Int) = ((a &&& b : Nat) : Int) := by
 have hab : a &&& b <= a := Nat.and_le_left
 have e : (BitVec.ofInt IntKind.i64.bits (a : Int) &&& BitVec.ofInt IntKind.i64.bits (b : Int)).toNat = a &&& b := by
  show (BitVec.ofInt 64 (a : Int) &&& BitVec.ofInt 64 (b : Int)).toNat = a &&& b
  rw [ofInt_nat, ofInt_nat, BitVec.toNat_and, BitVec.toNat_ofNat, BitVec.toNat_ofNat, Nat.mod_eq_of_lt (by omega), Nat.mod_eq_of_lt (by omega)]
 unfold bits bitI
 simp only [Option.getD_some]
 rw [e]
 exact wrap_nat (by omega)
theorem shl_one {y : Nat} (h : y < 8) : shl .i64 1 (y : Int) = ((2 ^ y : Nat) : Int) := by
 have : y = 0 \/ y = 1 \/ y = 2 \/ y = 3 \/ y = 4 \/ y = 5 \/ y = 6 \/ y = 7 := by omega
 rcases this with rfl | rfl | rfl | rfl | rfl | rfl | rfl | rfl <;> decide
theorem pow_small {y : Nat} (h : y < 8) : 2 ^ y < 256 := by
 have : y = 0 \/ y = 1 \/ y = 2 \/ y = 3 \/ y = 4 \/ y = 5 \/ y = 6 \/ y = 7 := by omega
 rcases this with rfl | rfl | rfl | rfl | rfl | rfl | rfl | rfl <;> decide
theorem shr_nat {m y : Nat} (h : y < 8) : shr .i64 (m : Int) (y : Int) = ((m >>> y : Nat) : Int) := by
 unfold shr
 have e : min (y : Int).toNat IntKind.i64.bits = y := by
  show min (y : Int).toNat 64 = y
  rw [Int.toNat_natCast]
  omega
 rw [e, Nat.shiftRight_eq_div_pow, Int.fdiv_eq_ediv_of_nonneg _ (by
  have := Nat.two_pow_pos y
  exact_mod_cast Nat.zero_le (2 ^ y))]
 norm_cast
theorem has_bit {m y : Nat} (hm : m < 256) (h : y < 8) : (bits .and .i64 (shr .i64 (m : Int) (y : Int)) 1 == (1 : Int)) = m.testBit y := by
 have h1 : m >>> y < 256 := by
  rw [Nat.shiftRight_eq_div_pow]
  exact Nat.lt_of_le_of_lt (Nat.div_le_self _ _) hm
 rw [shr_nat h]
 have := bits_and h1 (show 1 < 256 by omega)
 rw [show ((1 : Nat) : Int) = 1 from rfl] at this
 rw [this, Nat.testBit_eq_decide_div_mod_eq, Nat.shiftRight_eq_div_pow, Nat.and_one_is_mod]
 have : m / 2 ^ y % 2 = 0 \/ m / 2 ^ y % 2 = 1 := by omega
 rcases this with h | h <;> simp [h]
def okN (n : Nat) (ms : List Nat) : Prop := ms.length = n /\ ∀ x, ms.getD x 0 < 256
theorem okN_zero (n : Nat) : okN n (List.replicate n 0) := by
 refine ⟨by simp, fun x => ?_⟩
 simp only [List.getD_eq_getElem?_getD, List.getElem?_replicate]
 split <;> simp
theorem getD_set (ms : List Nat) (a x v : Nat) (h : a < ms.length) : (ms.set a v).getD x 0 = if x = a then v else ms.getD x 0 := by
 simp only [List.getD_eq_getElem?_getD, List.getElem?_set]
 by_cases e : x = a
 ·subst e; simp [h]
 ·simp [e, Ne.symm e]
theorem orN_ok {n : Nat} {ms : List Nat} (h : okN n ms) {a b : Nat} (ha : a < n) (hb : b < 8) : okN n (orN ms a b) := by
 refine ⟨by simp [orN, h.1], fun x => ?_⟩
 unfold orN
 rw [getD_set _ _ _ _ (by rw [h.1]; exact ha)]
 split
 ·exact Nat.or_lt_two_pow (n := 8) (h.2 a) (pow_small hb)
 ·exact h.2 x
theorem orN_bit {n : Nat} {ms : List Nat} (h : okN n ms) {a b : Nat} (ha : a < n) (x y : Nat) : ((orN ms a b).getD x 0).testBit y = ((ms.getD x 0).testBit y || (decide (x = a) && decide (y = b))) := by
 unfold orN
 rw [getD_set _ _ _ _ (by rw [h.1]; exact ha)]
 by_cases e : x = a
 ·subst e
  simp only [if_true, Nat.testBit_or, Nat.testBit_two_pow, decide_true, Bool.true_and]
  congr 1
  by_cases e : y = b
  ·simp [e]
  ·simp [e, Ne.symm e]
 ·simp [e]
theorem edgeB_nat {n : Nat} {e : E} (h : edgeB (n : Int) e = true) : e.1.toNat < e.2.1.toNat /\ e.2.1.toNat < n /\ e.1 = (e.1.toNat : Int) /\ e.2.1 = (e.2.1.toNat : Int) := by
 unfold edgeB at h
 simp only [Bool.and_eq_true, decide_eq_true_eq] at h
 omega
theorem addN_ok {n : Nat} {ms : List Nat} (hn : n <= 8) (h : okN n ms) {e : E} (he : edgeB (n : Int) e = true) : okN n (addN ms e) := by
 obtain ⟨h1, h2, _, _⟩ := edgeB_nat he
 exact orN_ok (orN_ok h (by omega) (by omega)) h2 (by omega)
def isE (e : E) (x y : Nat) : Bool := (decide (x = e.1.toNat) && decide (y = e.2.1.toNat)) || (decide (x = e.2.1.toNat) && decide (y = e.1.toNat))
theorem foldN_ok {n : Nat} (hn : n <= 8) : ∀ (es : List E) (ms : List Nat), okN n ms -> es.all (edgeB (n : Int)) = true -> okN n (es.foldl addN ms) /\ ∀ x y, ((es.foldl addN ms).getD x 0).testBit y = ((ms.getD x 0).testBit y || es.any (fun e => isE e x y)) := by
 intro es
 induction es with
 | nil => intro ms h _; exact ⟨h, fun x y => by simp⟩
 | cons e es ih =>
  intro ms h he
  simp only [List.all_cons, Bool.and_eq_true] at he
  obtain ⟨h1, h2, _, _⟩ := edgeB_nat he.1
  obtain ⟨k1, k2⟩ := ih (addN ms e) (addN_ok hn h he.1) he.2
  refine ⟨k1, fun x y => ?_⟩
  rw [List.foldl_cons, k2 x y]
  unfold addN
  rw [orN_bit (orN_ok h (show e.1.toNat < n by omega) (by omega)) h2, orN_bit h (show e.1.toNat < n by omega)]
  simp only [List.any_cons, isE, Bool.or_assoc]
theorem netN_ok {n : Nat} (hn : n <= 8) {es : List E} (h : es.all (edgeB (n : Int)) = true) : okN n (netN n es) := (foldN_ok hn es _ (okN_zero n) h).1
theorem netN_bit {n : Nat} (hn : n <= 8) {es : List E} (h : es.all (edgeB (n : Int)) = true) (x y : Nat) : hasN (netN n es) x y = es.any (fun e => isE e x y) := by
 unfold hasN netN
 rw [(foldN_ok hn es _ (okN_zero n) h).2 x y]
 have : ((List.replicate n 0).getD x 0).testBit y = false := by
  simp only [List.getD_eq_getElem?_getD, List.getElem?_replicate]
  split <;> simp
 rw [this, Bool.false_or]
theorem lessE_trans {a b c : E} (h1 : lessE a b = true) (h2 : lessE b c = true) : lessE a c = true := by
 simp only [lessE, Bool.or_eq_true, Bool.and_eq_true, decide_eq_true_eq] at h1 h2 |-
 omega
theorem lessE_irr (a : E) : lessE a a = false := by simp [lessE]
theorem rising_pair : ∀ {l : List E}, risingE l = true -> l.Pairwise fun a b => lessE a b = true := by
 intro l
 induction l with
 | nil => intro _; exact .nil
 | cons a l ih =>
  intro h
  cases l with
  | nil => simp
  | cons b l =>
   simp only [risingE, Bool.and_eq_true] at h
   have := ih h.2
   rw [List.pairwise_cons] at this |-
   refine ⟨fun c hc => ?_, by rw [List.pairwise_cons]; exact this⟩
   rcases List.mem_cons.1 hc with rfl | hc
   ·exact h.1
   ·exact lessE_trans h.1 (this.1 c hc)
theorem sorted_ext : ∀ {l m : List E}, (l.Pairwise fun a b => lessE a b = true) -> (m.Pairwise fun a b => lessE a b = true) -> (∀ x, x ∈ l ↔ x ∈ m) -> l = m := by
 intro l
 induction l with
 | nil =>
  intro m _ _ h
  cases m with
  | nil => rfl
  | cons b m => exact absurd ((h b).2 (by simp)) (by simp)
 | cons a l ih =>
  intro m hl hm h
  cases m with
  | nil => exact absurd ((h a).1 (by simp)) (by simp)
  | cons b m =>
   rw [List.pairwise_cons] at hl hm
   have e : a = b := by
    rcases List.mem_cons.1 ((h a).1 (by simp)) with e | ha
    ·exact e
    rcases List.mem_cons.1 ((h b).2 (by simp)) with e | hb
    ·exact e.symm
    have := lessE_trans (hl.1 b hb) (hm.1 a ha)
    rw [lessE_irr] at this
    cases this
   subst e
   congr 1
   refine ih hl.2 hm.2 fun x => ⟨fun hx => ?_, fun hx => ?_⟩
   ·rcases List.mem_cons.1 ((h x).1 (by simp [hx])) with e | hx'
    ·subst e
     have := hl.1 x hx
     rw [lessE_irr] at this
     cases this
    ·exact hx'
   ·rcases List.mem_cons.1 ((h x).2 (by simp [hx])) with e | hx'
    ·subst e
     have := hm.1 x hx
     rw [lessE_irr] at this
     cases this
    ·exact hx'
theorem rowE_mem {p : Nat -> Nat -> Bool} {x : Nat} : ∀ {m y : Nat} {e : E}, e ∈ rowE p x m y ↔ ∃ z, y <= z /\ z < y + m /\ p x z = true /\ e = ((x : Int), (z : Int), ()) := by
 intro m
 induction m with
 | zero => intro y e; simp only [rowE, List.not_mem_nil, false_iff]; rintro ⟨z, h1, h2, _⟩; omega
 | succ m ih =>
  intro y e
  unfold rowE
  by_cases h : p x y = true
  ·simp only [h, if_true, List.mem_cons, ih]
   constructor
   ·rintro (rfl | ⟨z, h1, h2, h3, h4⟩)
    ·exact ⟨y, Nat.le_refl _, by omega, h, rfl⟩
    ·exact ⟨z, by omega, by omega, h3, h4⟩
   ·rintro ⟨z, h1, h2, h3, h4⟩
    by_cases e : z = y
    ·subst e; exact .inl h4
    ·exact .inr ⟨z, by omega, by omega, h3, h4⟩
  ·rw [if_neg h, ih]
   constructor
   ·rintro ⟨z, h1, h2, h3, h4⟩
    exact ⟨z, by omega, by omega, h3, h4⟩
   ·rintro ⟨z, h1, h2, h3, h4⟩
    by_cases e : z = y
    ·subst e; exact absurd h3 h
    ·exact ⟨z, by omega, by omega, h3, h4⟩
theorem rowE_pair {p : Nat -> Nat -> Bool} {x : Nat} : ∀ {m y : Nat}, (rowE p x m y).Pairwise fun a b => lessE a b = true := by
 intro m
 induction m with
 | zero => intro y; exact .nil
 | succ m ih =>
  intro y
  unfold rowE
  split
  ·rw [List.pairwise_cons]
   refine ⟨fun b hb => ?_, ih⟩
   obtain ⟨z, h1, h2, h3, rfl⟩ := rowE_mem.1 hb
   simp [lessE]
   omega
  ·exact ih
theorem allE_mem {p : Nat -> Nat -> Bool} {n : Nat} : ∀ {m x : Nat} {e : E}, e ∈ allE p n m x ↔ ∃ u z, x <= u /\ u < x + m /\ u < z /\ z < n /\ p u z = true /\ e = ((u : Int), (z : Int), ()) := by
 intro m
 induction m with
 | zero => intro x e; simp only [allE, List.not_mem_nil, false_iff]; rintro ⟨u, z, h1, h2, _⟩; omega
 | succ m ih =>
  intro x e
  simp only [allE, List.mem_append, rowE_mem, ih]
  constructor
  ·rintro (⟨z, h1, h2, h3, h4⟩ | ⟨u, z, h1, h2, h3, h4, h5, h6⟩)
   ·exact ⟨x, z, Nat.le_refl _, by omega, by omega, by omega, h3, h4⟩
   ·exact ⟨u, z, by omega, by omega, h3, h4, h5, h6⟩
  ·rintro ⟨u, z, h1, h2, h3, h4, h5, h6⟩
   by_cases e : u = x
   ·subst e; exact .inl ⟨z, by omega, by omega, h5, h6⟩
   ·exact .inr ⟨u, z, by omega, by omega, h3, h4, h5, h6⟩
theorem allE_pair {p : Nat -> Nat -> Bool} {n : Nat} : ∀ {m x : Nat}, (allE p n m x).Pairwise fun a b => lessE a b = true := by
 intro m
 induction m with
 | zero => intro x; exact .nil
 | succ m ih =>
  intro x
  simp only [allE]
  rw [List.pairwise_append]
  refine ⟨rowE_pair, ih, fun a ha b hb => ?_⟩
  obtain ⟨z, _, _, _, rfl⟩ := rowE_mem.1 ha
  obtain ⟨u, z', h1, _, _, _, _, rfl⟩ := allE_mem.1 hb
  simp [lessE]
  omega
theorem allE_net {n : Nat} (hn : n <= 8) {es : List E} (h : es.all (edgeB (n : Int)) = true) (hp : es.Pairwise fun a b => lessE a b = true) : allE (hasN (netN n es)) n n 0 = es := by
 refine sorted_ext allE_pair hp fun e => ?_
 rw [allE_mem]
 constructor
 ·rintro ⟨u, z, _, h2, h3, h4, h5, rfl⟩
  rw [netN_bit hn h] at h5
  obtain ⟨e, he, h6⟩ := List.any_eq_true.1 h5
  obtain ⟨k1, k2, k3, k4⟩ := edgeB_nat (List.all_eq_true.1 h e he)
  simp only [isE, Bool.or_eq_true, Bool.and_eq_true, decide_eq_true_eq] at h6
  rcases h6 with ⟨rfl, rfl⟩ | ⟨h6, h7⟩
  ·rw [<- k3, <- k4]
   exact he
  ·omega
 ·intro he
  obtain ⟨k1, k2, k3, k4⟩ := edgeB_nat (List.all_eq_true.1 h e he)
  refine ⟨e.1.toNat, e.2.1.toNat, Nat.zero_le _, by omega, k1, k2, ?_, by rw [<- k3, <- k4]⟩
  rw [netN_bit hn h]
  exact List.any_eq_true.2 ⟨e, he, by simp [isE]⟩
theorem selE_sub : ∀ (es : List E) (ts : List (List Int)) (r : Int), (selE es ts r).Sublist es := by
 intro es
 induction es with
 | nil => intro ts r; cases ts <;> simp [selE]
 | cons e es ih =>
  intro ts r
  cases ts with
  | nil => simp [selE]
  | cons t ts =>
   simp only [selE]
   split
   ·exact (ih ts r).cons_cons e
   ·exact (ih ts r).cons e
theorem toI_from (ms : List Nat) : fromI (toI ms) = ms := by
 unfold fromI toI
 rw [List.map_map]
 exact List.map_id' _
theorem at_toI (ms : List Nat) (x : Nat) : at_ (.int .i64) (toI ms) x = ((ms.getD x 0 : Nat) : Int) := by
 unfold at_ toI
 simp only [List.getD_eq_getElem?_getD, List.getElem?_map]
 cases ms[x]? <;> rfl
theorem toI_set (ms : List Nat) (x v : Nat) : List.set (toI ms) x (v : Int) = toI (ms.set x v) := by
 simp [toI, List.map_set]
theorem toI_len (ms : List Nat) : (toI ms).length = ms.length := by simp [toI]
end Go.V.W
