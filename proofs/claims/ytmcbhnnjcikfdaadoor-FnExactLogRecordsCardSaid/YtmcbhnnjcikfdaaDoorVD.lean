/- What the law FnExactLogRecords leans on, part 4: an interpreter of the model as plain data, its soundness, the functions as it tells them, and their laws. -/
import Derived.Shelf.Lays
import Derived.Shelf.LaysM
import Derived.Shelf.Strings.IndexAnyAll
import Derived.Shelf.Strings.Cut
import Derived.Shelf.Strings.Search3
import Derived.Shelf.Strconv.Itoa3
import Derived.Test.YtmcbhnnjcikfdaaDoorVC
set_option linter.unusedVariables false
set_option linter.unusedSimpArgs false
set_option maxRecDepth 100000
set_option linter.unusedVariables false
set_option linter.unusedSimpArgs false
namespace Go.V.W
open Go.Proofs
theorem decode_none_ver {k : Nat} (hk : k < 9223372036854775807) {l : List UInt8} (h : verL l = false) : decodeL k l = none := by
  cases hd : decodeL k l with
  | none => rfl
  | some x =>
    obtain ⟨h1, h2⟩ := decode_of hd
    rw [ver_of hk h1 h2] at h
    cases h
theorem decode_unf (k : Nat) (l : List UInt8) : decodeL k l = if (validL (cutA 64 (cutB 32 (cutA 35 l))) (cutB 64 (cutB 32 (cutA 35 l))) && (lineL k (cutA 64 (cutB 32 (cutA 35 l))) (cutB 64 (cutB 32 (cutA 35 l))) == l ++ [10])) = true then some (cutA 64 (cutB 32 (cutA 35 l)), cutB 64 (cutB 32 (cutA 35 l))) else none := rfl
theorem open_no {n k : Nat} {l : List UInt8} (h : l.contains 10 = false) : openL n k l = ([], 0) := by
  cases n with
  | zero => rfl
  | succ n => unfold openL; rw [h]; rfl
theorem open_none {n k : Nat} {l : List UInt8} (h : decodeL k (cutA 10 l) = none) : openL n k l = ([], 0) := by
  cases n with
  | zero => rfl
  | succ n => unfold openL; rw [h]; split <;> rfl
theorem rdRec_some {n k : Nat} {l : List UInt8} {e : List UInt8 × List UInt8} (h1 : l.contains 10 = true) (h : decodeL k (cutA 10 l) = some e) : openL (n + 1) k l = (e :: (openL n (k + 1) (cutB 10 l)).1, (cutA 10 l).length + 1 + (openL n (k + 1) (cutB 10 l)).2) := by
  conv => lhs; unfold openL
  rw [h1, if_pos rfl, h]
theorem drop_cut {c : UInt8} {l : List UInt8} (h : c ∈ l) : l.drop ((cutA c l).length + 1) = cutB c l := by
  have hj := cut_join h
  generalize cutA c l = x at hj ⊢
  generalize cutB c l = y at hj ⊢
  rw [hj, List.append_assoc, ← List.drop_drop, List.drop_left]
  rfl
theorem sub_drop (l : List UInt8) (a : Nat) : subS (ba l) (a : Int) (l.length : Int) = ba (l.drop a) := by
  have := subS_end l a
  rw [ba_size] at this
  exact this
theorem read_l0 (N : Nat) (l : List UInt8) (hl : l.length ≤ 4194304) : ∀ (n a : Nat) (recs : List Rc), recs.length + n = 60 → a ≤ l.length →
    impl_readRecords_l0 N (n + 1) (ba l, recs, (a : Int), ()) = some (.inl (recs ++ (openL n recs.length (l.drop a)).1.map rcOf, ((a + (openL n recs.length (l.drop a)).2 : Nat) : Int), ())) := by
  intro n
  induction n with
  | zero =>
    intro a recs h1 h2
    have : decide ((recs.length : Int) < 60) = false := decide_eq_false (by omega)
    show impl_readRecords_l0_r N (impl_readRecords_l0 N 0) (ba l, recs, (a : Int), ()) = _
    unfold impl_readRecords_l0_r
    simp only [this, Bool.false_eq_true, if_false, openL, List.map_nil, List.append_nil, Nat.add_zero]
  | succ n ih =>
    intro a recs h1 h2
    have c0 : decide ((recs.length : Int) < 60) = true := decide_eq_true (by omega)
    have c1 : (decide ((0 : Int) ≤ (a : Int)) && decide ((a : Int) ≤ (l.length : Int)) && decide ((l.length : Int) ≤ (l.length : Int))) = true := by simp; omega
    have hX : (l.drop a).length ≤ 4194304 := by simp; omega
    have hXa : (l.drop a).length = l.length - a := by simp
    generalize hXe : l.drop a = X at *
    have hL : (cutA 10 X).length ≤ 4194304 := Nat.le_trans (cutA_le _ _) hX
    have hs : subS (ba l) (a : Int) (l.length : Int) = ba X := by rw [sub_drop, hXe]
    show impl_readRecords_l0_r N (impl_readRecords_l0 N (n + 1)) (ba l, recs, (a : Int), ()) = _
    unfold impl_readRecords_l0_r
    simp only [c0, if_true, ba_size, c1, hs, bytes_10, bytes_32, bytes_64, cut_eq 10 hX, Option.bind_some, verify_eq hL]
    cases d1 : X.contains 10
    · simp only [Bool.not_false, if_true, open_no d1, List.map_nil, List.append_nil, Nat.add_zero]
    · simp only [Bool.not_true, Bool.false_eq_true, if_false]
      cases d2 : verL (cutA 10 X)
      · simp only [Bool.not_false, if_true, open_none (decode_none_ver (by omega : recs.length < 9223372036854775807) d2), List.map_nil, List.append_nil, Nat.add_zero]
      · have hT := ver_len d2
        have hU : (cutB 32 (cutA 35 (cutA 10 X))).length ≤ 4000 := Nat.le_trans (cutB_le _ _) hT
        have hC : (cutA 64 (cutB 32 (cutA 35 (cutA 10 X)))).length ≤ 4000 := Nat.le_trans (cutA_le _ _) hU
        have hR : (cutB 64 (cutB 32 (cutA 35 (cutA 10 X)))).length ≤ 4000 := Nat.le_trans (cutB_le _ _) hU
        have hdec := decode_unf recs.length (cutA 10 X)
        simp only [Bool.not_true, Bool.false_eq_true, if_false, if_true, cut_eq 32 (by omega : (cutA 35 (cutA 10 X)).length ≤ 4194304), Option.bind_some, cut_eq 64 (by omega : (cutB 32 (cutA 35 (cutA 10 X))).length ≤ 4194304),
          validI_eq (by omega : (cutA 64 (cutB 32 (cutA 35 (cutA 10 X)))).length ≤ 1048576) (by omega : (cutB 64 (cutB 32 (cutA 35 (cutA 10 X)))).length ≤ 1048576)]
        generalize cutA 64 (cutB 32 (cutA 35 (cutA 10 X))) = C at hdec ⊢
        generalize cutB 64 (cutB 32 (cutA 35 (cutA 10 X))) = R at hdec ⊢
        cases d3 : validL C R
        · rw [d3] at hdec
          simp only [Bool.false_and, Bool.false_eq_true, if_false] at hdec
          simp only [Bool.not_false, if_true, open_none hdec, List.map_nil, List.append_nil, Nat.add_zero]
        · have c2 : decide ((cutA 10 X).length + 1 ≤ maxLen) = true := decide_eq_true (by unfold maxLen; omega)
          simp only [Bool.not_true, Bool.false_eq_true, if_false, encode_eq (by omega : recs.length < 9223372036854775807) d3, Option.bind_some, List.length_cons, List.length_nil, Nat.zero_add, c2, if_true, ba_append, seq_ba]
          cases d4 : (lineL recs.length C R == cutA 10 X ++ [10])
          · rw [d3, d4] at hdec
            simp only [Bool.and_false, Bool.false_eq_true, if_false] at hdec
            simp only [Bool.not_false, if_true, open_none hdec, List.map_nil, List.append_nil, Nat.add_zero]
          · rw [d3, d4] at hdec
            simp only [Bool.and_self, if_true] at hdec
            have hm : (10 : UInt8) ∈ X := List.contains_iff_mem.1 d1
            have hj := congrArg List.length (cut_join hm)
            simp only [List.length_append, List.length_cons, List.length_nil] at hj
            have c3 : decide (recs.length + 1 ≤ lim) = true := decide_eq_true (by unfold lim; omega)
            have w1 : IntKind.wrap .i64 (((cutA 10 X).length : Int) + 1) = ((cutA 10 X).length : Int) + 1 := wrap_in _ (by omega) (by omega)
            have w2 : IntKind.wrap .i64 ((a : Int) + (((cutA 10 X).length : Int) + 1)) = ((a + ((cutA 10 X).length + 1) : Nat) : Int) := by rw [wrap_in _ (by omega) (by omega)]; omega
            have ih' := ih (a + ((cutA 10 X).length + 1)) (recs ++ [(ba C, ba R, ())]) (by simp; omega) (by omega)
            have e1 : l.drop (a + ((cutA 10 X).length + 1)) = cutB 10 X := by rw [← List.drop_drop, hXe, drop_cut hm]
            rw [e1] at ih'
            simp only [List.length_append, List.length_cons, List.length_nil, Nat.zero_add] at ih'
            simp only [Bool.not_true, Bool.false_eq_true, if_false, c3, if_true, w1, w2, ih', rdRec_some d1 hdec, List.map_cons, List.append_assoc, List.cons_append, List.nil_append]
            have e2 : a + ((cutA 10 X).length + 1) + (openL n (recs.length + 1) (cutB 10 X)).2 = a + ((cutA 10 X).length + 1 + (openL n (recs.length + 1) (cutB 10 X)).2) := by omega
            rw [e2]
            rfl
theorem open_l0 (N : Nat) (l : List UInt8) (hl : l.length ≤ 4194304) : ∀ (n a : Nat) (recs : List Rc), recs.length + n = 60 → a ≤ l.length →
    spec_l12Open_l0 N (n + 1) (ba l, recs, (a : Int), ()) = some (.inl (recs ++ (openL n recs.length (l.drop a)).1.map rcOf, ((a + (openL n recs.length (l.drop a)).2 : Nat) : Int), ())) := by
  intro n
  have fin : ∀ (m n : Nat) (recs : List Rc), spec_l12Open_l0 N (m + 1) (ba l, recs, (l.length : Int), ()) = some (.inl (recs ++ (openL n recs.length (l.drop l.length)).1.map rcOf, ((l.length + (openL n recs.length (l.drop l.length)).2 : Nat) : Int), ())) := by
    intro m n recs
    show spec_l12Open_l0_r N (spec_l12Open_l0 N m) (ba l, recs, (l.length : Int), ()) = _
    have c0 : decide ((l.length : Int) < (l.length : Int)) = false := decide_eq_false (by omega)
    have e : l.drop l.length = [] := List.drop_of_length_le (Nat.le_refl _)
    unfold spec_l12Open_l0_r
    simp only [ba_size, c0, Bool.false_eq_true, if_false, e, open_no (n := n) (k := recs.length) (l := []) rfl, List.map_nil, List.append_nil, Nat.add_zero]
  induction n with
  | zero =>
    intro a recs h1 h2
    by_cases ha : a = l.length
    · subst ha; exact fin 0 0 recs
    · have c0 : decide ((a : Int) < (l.length : Int)) = true := decide_eq_true (by omega)
      have : decide ((recs.length : Int) < 60) = false := decide_eq_false (by omega)
      show spec_l12Open_l0_r N (spec_l12Open_l0 N 0) (ba l, recs, (a : Int), ()) = _
      unfold spec_l12Open_l0_r
      simp only [ba_size, c0, if_true, this, Bool.false_eq_true, if_false, openL, List.map_nil, List.append_nil, Nat.add_zero]
  | succ n ih =>
    intro a recs h1 h2
    by_cases ha : a = l.length
    · subst ha; exact fin (n + 1) (n + 1) recs
    · have c0 : decide ((recs.length : Int) < 60) = true := decide_eq_true (by omega)
      have c0' : decide ((a : Int) < (l.length : Int)) = true := decide_eq_true (by omega)
      have c1 : (decide ((0 : Int) ≤ (a : Int)) && decide ((a : Int) ≤ (l.length : Int)) && decide ((l.length : Int) ≤ (l.length : Int))) = true := by simp; omega
      have hX : (l.drop a).length ≤ 4194304 := by simp; omega
      have hXa : (l.drop a).length = l.length - a := by simp
      generalize hXe : l.drop a = X at *
      have hL : (cutA 10 X).length ≤ 4194304 := Nat.le_trans (cutA_le _ _) hX
      have hs : subS (ba l) (a : Int) (l.length : Int) = ba X := by rw [sub_drop, hXe]
      have e10 : ((10 : UInt8).toNat : Int) = 10 := rfl
      have hp := parts_eq 10 hX
      rw [e10] at hp
      have ix : ∀ n : Nat, idxIn (0 : Int) (n + 1) = true := fun n => by unfold idxIn; rw [decide_eq_true (by omega), decide_eq_true (by omega)]; rfl
      have ax : ∀ (x : ByteArray) (r : List ByteArray), at_ .str (x :: r) (0 : Int).toNat = x := fun x r => rfl
      obtain ⟨e, he, hrc⟩ := decodeS_eq (k := recs.length) (l := cutA 10 X) (by omega) hL
      show spec_l12Open_l0_r N (spec_l12Open_l0 N (n + 1)) (ba l, recs, (a : Int), ()) = _
      unfold spec_l12Open_l0_r
      simp only [c0, c0', if_true, ba_size, c1, hs, hp, Option.bind_some, List.length_cons, ix, ax, he]
      by_cases d1 : (10 : UInt8) ∈ X
      · have d1' : X.contains 10 = true := List.contains_iff_mem.2 d1
        have hne : 1 ≤ (splitL 10 (cutB 10 X)).length := by
          cases hsp : splitL 10 (cutB 10 X) with
          | nil => exact absurd hsp (split_ne _ _)
          | cons x r => simp
        have d1'' : decide ((((List.map ba (splitL 10 (cutB 10 X))).length + 1 : Nat) : Int) < 2) = false := decide_eq_false (by simp; omega)
        simp only [d1, if_true, d1'', Bool.false_eq_true, if_false]
        cases hd : decodeL recs.length (cutA 10 X) with
        | none => simp only [Option.isSome_none, Bool.not_false, if_true, open_none hd, List.map_nil, List.append_nil, Nat.add_zero]
        | some x =>
          obtain rfl := hrc x hd
          have hj := congrArg List.length (cut_join d1)
          simp only [List.length_append, List.length_cons, List.length_nil] at hj
          have c3 : decide (recs.length + 1 ≤ lim) = true := decide_eq_true (by unfold lim; omega)
          have w1 : IntKind.wrap .i64 ((a : Int) + ((cutA 10 X).length : Int)) = (a : Int) + ((cutA 10 X).length : Int) := wrap_in _ (by omega) (by omega)
          have w2 : IntKind.wrap .i64 ((a : Int) + ((cutA 10 X).length : Int) + 1) = ((a + ((cutA 10 X).length + 1) : Nat) : Int) := by rw [wrap_in _ (by omega) (by omega)]; omega
          have ih' := ih (a + ((cutA 10 X).length + 1)) (recs ++ [rcOf x]) (by simp; omega) (by omega)
          have e1 : l.drop (a + ((cutA 10 X).length + 1)) = cutB 10 X := by rw [← List.drop_drop, hXe, drop_cut d1]
          rw [e1] at ih'
          simp only [List.length_append, List.length_cons, List.length_nil, Nat.zero_add] at ih'
          simp only [Option.isSome_some, Bool.not_true, Bool.false_eq_true, if_false, List.length_nil, Nat.zero_add, c3, if_true, w1, w2, ih', rdRec_some d1' hd, List.map_cons, List.append_assoc, List.cons_append, List.nil_append]
          have e2 : a + ((cutA 10 X).length + 1) + (openL n (recs.length + 1) (cutB 10 X)).2 = a + ((cutA 10 X).length + 1 + (openL n (recs.length + 1) (cutB 10 X)).2) := by omega
          rw [e2]
      · have d1' : X.contains 10 = false := by simpa using d1
        have d1'' : decide ((((List.map ba ([] : List (List UInt8))).length + 1 : Nat) : Int) < 2) = true := rfl
        simp only [d1, if_false, d1'', if_true, open_no d1', List.map_nil, List.append_nil, Nat.add_zero]
        rfl
theorem readRecords_lim (d) (r) (h : G_open d = some r) : ∃ N, F_impl_readRecords N d = some r := by
  obtain ⟨s, _⟩ := d
  unfold G_open at h
  split at h
  · rename_i hs
    have hs : s.size ≤ 4194304 := of_decide_eq_true hs
    refine ⟨61, ?_⟩
    have := read_l0 61 (bl s) (by rw [bl_length]; exact hs) 60 0 [] rfl (Nat.zero_le _)
    rw [ba_bl] at this
    unfold F_impl_readRecords
    simp only [Int.natCast_zero, List.drop_zero, List.length_nil, List.nil_append, Nat.zero_add] at this
    simp only
    rw [this, ← h]
    rfl
  · cases h
theorem l12Open_lim (d) (r) (h : G_open d = some r) : ∃ N, F_spec_l12Open N d = some r := by
  obtain ⟨s, _⟩ := d
  unfold G_open at h
  split at h
  · rename_i hs
    have hs : s.size ≤ 4194304 := of_decide_eq_true hs
    refine ⟨61, ?_⟩
    have := open_l0 61 (bl s) (by rw [bl_length]; exact hs) 60 0 [] rfl (Nat.zero_le _)
    rw [ba_bl] at this
    unfold F_spec_l12Open
    simp only [Int.natCast_zero, List.drop_zero, List.length_nil, List.nil_append, Nat.zero_add] at this
    simp only
    rw [this, ← h]
    rfl
  · cases h
end Go.V.W
set_option linter.unusedVariables false
set_option linter.unusedSimpArgs false
namespace Go.V.W
open Go.Proofs
theorem g_open_eq {l : List UInt8} (h : l.length ≤ 4194304) : G_open (ba l, ()) = some ((openL 60 0 l).1.map rcOf, ((openL 60 0 l).2 : Int), ()) := by
  unfold G_open
  simp only [med_ba h, if_true, bl_ba]
theorem szLg (a b : ByteArray) (c : Int) (ha : a.size ≤ maxLen) (hb : b.size ≤ maxLen) : (g_laws_szLog ((a, b, c, ()), (1048576 : Int), ())).1 < 0 ∨ (a.size + b.size ≤ 1048576 ∧ (g_laws_szLog ((a, b, c, ()), (1048576 : Int), ())).1 = 1048576 - (a.size : Int) - (b.size : Int)) := by
  unfold maxLen at ha hb
  unfold g_laws_szLog
  have w1 : IntKind.wrap .i64 ((1048576 : Int) - (a.size : Int)) = 1048576 - (a.size : Int) := wrap_in _ (by omega) (by omega)
  simp only [w1]
  by_cases c1 : (1048576 : Int) - (a.size : Int) < 0
  · left; simp [c1]
  · have w2 : IntKind.wrap .i64 (1048576 - (a.size : Int) - (b.size : Int)) = 1048576 - (a.size : Int) - (b.size : Int) := wrap_in _ (by omega) (by omega)
    simp only [w2, c1, decide_false, Bool.false_eq_true, if_false]
    by_cases c2 : (1048576 : Int) - (a.size : Int) - (b.size : Int) < 0
    · left; simp [c2]
    · right; simp only [c2, decide_false, Bool.false_eq_true, if_false]; exact ⟨by omega, trivial⟩
def logB (d p : List UInt8) (c : Int) : Bool := decide (d.length + p.length ≤ 30000) && ((openL 60 0 (d ++ p)).2 == d.length + p.length) && ((openL 60 0 d).2 == d.length) && (((openL 60 0 (d ++ p)).1.length : Int) == c)
theorem int_beq (a b : Nat) : ((a : Int) == (b : Int)) = (a == b) := by
  rw [Bool.eq_iff_iff]
  simp only [beq_iff_eq]
  omega
theorem specV_eq {d p : List UInt8} (c : Int) (h : d.length + p.length ≤ 1048576) : F_spec_l12Valid 0 ((ba d, ba p, c, ()), ()) = some (logB d p c, ()) := by
  have w1 : IntKind.wrap .i64 ((d.length : Int) + (p.length : Int)) = ((d.length + p.length : Nat) : Int) := by rw [wrap_in _ (by omega) (by omega)]; rfl
  have c1 : decide (d.length + p.length ≤ maxLen) = true := decide_eq_true (by unfold maxLen; omega)
  unfold F_spec_l12Valid logB
  simp only [ba_size, w1, c1, if_true, ba_append, g_open_eq (by simp; omega : (d ++ p).length ≤ 4194304), g_open_eq (by omega : d.length ≤ 4194304), Option.bind_some, int_beq, List.length_map]
  by_cases h1 : d.length + p.length ≤ 30000
  · have c2 : decide (((d.length + p.length : Nat) : Int) > 30000) = false := decide_eq_false (by omega)
    simp only [c2, Bool.false_eq_true, if_false, decide_eq_true h1, Bool.true_and]
    cases (openL 60 0 (d ++ p)).2 == d.length + p.length <;> cases (openL 60 0 d).2 == d.length <;> simp
  · have c2 : decide (((d.length + p.length : Nat) : Int) > 30000) = true := decide_eq_true (by omega)
    simp only [c2, if_true, decide_eq_false h1, Bool.false_and]
theorem implV_eq {d p : List UInt8} (c : Int) (h : d.length + p.length ≤ 1048576) : F_impl_IsValidLog 0 ((ba d, ba p, c, ()), ()) = some (logB d p c, ()) := by
  have w1 : IntKind.wrap .i64 ((d.length : Int) + (p.length : Int)) = ((d.length + p.length : Nat) : Int) := by rw [wrap_in _ (by omega) (by omega)]; rfl
  have c1 : decide (d.length + p.length ≤ maxLen) = true := decide_eq_true (by unfold maxLen; omega)
  have e1 : (c != ((openL 60 0 (d ++ p)).1.length : Int)) = !(((openL 60 0 (d ++ p)).1.length : Int) == c) := by
    rw [Bool.eq_iff_iff]
    simp only [bne_iff_ne, ne_eq, Bool.not_eq_true', beq_eq_false_iff_ne]
    exact ⟨fun h e => h e.symm, fun h e => h e.symm⟩
  have e2 : ∀ a b : Nat, ((a : Int) != (b : Int)) = !(a == b) := fun a b => by unfold bne; rw [int_beq]
  unfold F_impl_IsValidLog logB
  simp only [ba_size, w1, c1, if_true, ba_append, g_open_eq (by simp; omega : (d ++ p).length ≤ 4194304), g_open_eq (by omega : d.length ≤ 4194304), Option.bind_some, e2, int_beq, List.length_map, e1]
  by_cases h1 : d.length + p.length ≤ 30000
  · have c2 : decide (((d.length + p.length : Nat) : Int) > 30000) = false := decide_eq_false (by omega)
    simp only [c2, Bool.false_eq_true, if_false, decide_eq_true h1, Bool.true_and]
    cases (openL 60 0 (d ++ p)).2 == d.length + p.length <;> cases (openL 60 0 d).2 == d.length <;> cases (((openL 60 0 (d ++ p)).1.length : Int) == c) <;> simp
  · have c2 : decide (((d.length + p.length : Nat) : Int) > 30000) = true := decide_eq_true (by omega)
    simp only [c2, if_true, decide_eq_false h1, Bool.false_and]
end Go.V.W
set_option linter.unusedVariables false
set_option linter.unusedSimpArgs false
namespace Go.V.W
open Go.Proofs
theorem bytesOf_one (n : Int) : bytesOf [n] = ba [UInt8.ofNat n.toNat] := by
  unfold bytesOf ba
  rfl
theorem wrap_u8 {n : Int} (h0 : 0 ≤ n) (h1 : n ≤ 255) : IntKind.wrap .u8 n = n := by
  obtain ⟨k, rfl⟩ : ∃ k : Nat, n = k := ⟨n.toNat, by omega⟩
  unfold IntKind.wrap
  simp [IntKind.bits, IntKind.signed]
  omega
theorem markText_l0 (N : Nat) : ∀ (n k : Nat) (out : List UInt8), 1 ≤ k → k ≤ n → k ≤ 9007199254740992 → out.length ≤ 9007199254740992 - k → laws_markText_l0 N (n + 1) ((k : Int), ba out, ()) = some (.inl (ba (Lib.decDigits k ++ out), ())) := by
  intro n
  induction n with
  | zero => intro k out h1 h2; omega
  | succ n ih =>
    intro k out h1 h2 h3 h4
    have c0 : decide ((k : Int) > 0) = true := decide_eq_true (by omega)
    have c1 : ((10 : Int) != 0) = true := by decide
    have e1 : (k : Int).tmod 10 = ((k % 10 : Nat) : Int) := by rw [Int.tmod_eq_emod_of_nonneg (by omega)]; omega
    have e0 : (k : Int).tdiv 10 = ((k / 10 : Nat) : Int) := by rw [Int.tdiv_eq_ediv_of_nonneg (by omega)]; omega
    have hm : k % 10 < 10 := Nat.mod_lt _ (by decide)
    have w1 : IntKind.wrap .i64 (48 + ((k % 10 : Nat) : Int)) = ((48 + k % 10 : Nat) : Int) := by rw [wrap_in _ (by omega) (by omega)]; omega
    have w2 : IntKind.wrap .u8 ((48 + k % 10 : Nat) : Int) = ((48 + k % 10 : Nat) : Int) := wrap_u8 (by omega) (by omega)
    have w3 : IntKind.wrap .i64 ((k / 10 : Nat) : Int) = ((k / 10 : Nat) : Int) := wrap_in _ (by omega) (by omega)
    have c2 : decide (1 + out.length ≤ maxLen) = true := decide_eq_true (by unfold maxLen; omega)
    show laws_markText_l0_r N (laws_markText_l0 N (n + 1)) ((k : Int), ba out, ()) = _
    unfold laws_markText_l0_r
    simp only [c0, c1, if_true, e0, e1, w1, w2, w3, bytesOf_one, Int.toNat_natCast, ba_size, List.length_cons, List.length_nil, Nat.zero_add, c2, ba_append, List.cons_append, List.nil_append]
    by_cases h10 : k < 10
    · have hk0 : k / 10 = 0 := by omega
      rw [Lib.decDigits, dif_pos h10, hk0, Nat.mod_eq_of_lt h10]
      have cz : decide (((0 : Nat) : Int) > 0) = false := by decide
      show laws_markText_l0_r N (laws_markText_l0 N n) (((0 : Nat) : Int), _, ()) = _
      unfold laws_markText_l0_r
      simp only [cz, Bool.false_eq_true, if_false]
      rfl
    · have := ih (k / 10) (UInt8.ofNat (48 + k % 10) :: out) (by omega) (by omega) (by omega) (by simp; omega)
      rw [this]
      conv => rhs; rw [Lib.decDigits, dif_neg h10]
      simp
theorem markText_lim (d) (r) (h : G_markText d = some r) : ∃ N, F_laws_markText N d = some r := by
  obtain ⟨n, _⟩ := d
  unfold G_markText at h
  split at h
  · rename_i hc
    simp only [Bool.and_eq_true, decide_eq_true_eq] at hc
    obtain ⟨k, rfl⟩ : ∃ k : Nat, n = k := ⟨n.toNat, by omega⟩
    obtain rfl := Option.some.inj h
    refine ⟨k + 1, ?_⟩
    have c0 : decide ((k : Int) ≤ 0) = false := decide_eq_false (by omega)
    have h1 := markText_l0 (k + 1) k k [] (by omega) (Nat.le_refl _) (by omega) (by simp)
    have hl := itoa_len (n := (k : Int)) (by omega) (by omega)
    rw [itoa_nat] at hl
    have c2 : decide (1 + (Lib.decDigits k).length ≤ maxLen) = true := decide_eq_true (by unfold maxLen; omega)
    have e1 : (⟨#[109]⟩ : ByteArray) = ba [109] := rfl
    unfold F_laws_markText
    simp only [c0, Bool.false_eq_true, if_false, bytes_nil, h1, Option.bind_some, e1, ba_size, List.length_cons, List.length_nil, Nat.zero_add, List.append_nil, c2, if_true, ba_append]
    rfl
  · cases h
theorem mtx_eq {k : Nat} (h : 1 ≤ k) (h1 : k ≤ 9007199254740992) : G_markText ((k : Int), ()) = some (mtx k, ()) := by
  unfold G_markText
  have : (decide (1 ≤ (k : Int)) && decide ((k : Int) ≤ 9007199254740992)) = true := by simp; omega
  simp only [this, if_true, Int.toNat_natCast]
theorem wrap_nat1 (k : Nat) (h : k ≤ 9007199254740992) : IntKind.wrap .i64 ((k : Int) + 1) = ((k + 1 : Nat) : Int) := by rw [wrap_in _ (by omega) (by omega)]; omega
theorem markR_l0 (N : Nat) : ∀ (rest pre : List Rc) (k n : Nat), pre.length + rest.length ≤ lim → rest.length ≤ n → 1 ≤ k → k + 2 * rest.length ≤ 9007199254740992 →
    laws_markLogRecordS_l0 N (n + 1) (pre ++ rest, (k : Int), (pre.length : Int), ()) = some (.inl (pre ++ markR k rest, ((k + 2 * rest.length : Nat) : Int), ())) := by
  intro rest
  induction rest with
  | nil =>
    intro pre k n h1 h2 h3 h4
    simp [laws_markLogRecordS_l0, laws_markLogRecordS_l0_r, markR]
  | cons x rest ih =>
    intro pre k n h1 h2 h3 h4
    simp only [List.length_cons] at h1 h2 h4
    have hlt := mid_lt pre x rest
    have hmx : (pre ++ x :: rest).length ≤ maxLen := by
      have := lim_max h1
      simpa using this
    obtain ⟨n, rfl⟩ : ∃ m, n = m + 1 := ⟨n - 1, by omega⟩
    have i1 : ∀ y : Rc, idxIn (pre.length : Int) (pre ++ y :: rest).length = true := fun y => idxIn_nat (mid_lt pre y rest)
    show laws_markLogRecordS_l0_r N (laws_markLogRecordS_l0 N (n + 1)) (pre ++ x :: rest, (k : Int), (pre.length : Int), ()) = _
    unfold laws_markLogRecordS_l0_r
    have a1 := at_mid (e := K_Pssq) pre x rest
    have a2 := at_mid (e := K_Pssq) pre (mtx k, x.2) rest
    have s1 : List.set (pre ++ x :: rest) pre.length (mtx k, x.2) = pre ++ (mtx k, x.2) :: rest := by simp
    have s2 : List.set (pre ++ (mtx k, x.2) :: rest) pre.length (mtx k, mtx (k + 1), x.2.2) = pre ++ (mtx k, mtx (k + 1), ()) :: rest := by simp
    have ih' := ih (pre ++ [(mtx k, mtx (k + 1), ())]) (k + 2) n (by simp; omega) (by omega) (by omega) (by omega)
    have e2 : k + 1 + 1 = k + 2 := rfl
    rw [show (pre ++ [((mtx k, mtx (k + 1), ()) : Rc)]).length = pre.length + 1 by simp, List.append_assoc] at ih'
    simp only [List.singleton_append] at ih'
    simp only [lt_dec hlt, if_true, mtx_eq h3 (by omega : k ≤ 9007199254740992), Option.bind_some, i1, Int.toNat_natCast, a1, s1, wrap_nat1 k (by omega), mtx_eq (by omega : 1 ≤ k + 1) (by omega : k + 1 ≤ 9007199254740992), a2, s2, wrap_nat1 (k + 1) (by omega), wrap_up hlt hmx, e2, ih']
    simp only [markR, List.length_cons, List.append_assoc, List.singleton_append]
    congr 4
    omega
theorem markR_len : ∀ (l : List Rc) (k : Nat), (markR k l).length = l.length := by
  intro l
  induction l with
  | nil => intro k; rfl
  | cons x l ih => intro k; simp [markR, ih]
theorem markR_self : ∀ (l : List Rc) (k : Nat), markR k (markR k l) = markR k l := by
  intro l
  induction l with
  | nil => intro k; rfl
  | cons x l ih => intro k; simp [markR, ih]
theorem heldR_l0 (N : Nat) : ∀ (rest pre : List Rc) (k n : Nat), rest = markR k rest → pre.length + rest.length ≤ lim → rest.length ≤ n → 1 ≤ k → k + 2 * rest.length ≤ 9007199254740992 →
    laws_heldLogRecordS_l0 N (n + 1) (pre ++ rest, (k : Int), (pre.length : Int), ()) = some (.inr (.inl (((k + 2 * rest.length : Nat) : Int), ()))) := by
  intro rest
  induction rest with
  | nil =>
    intro pre k n h0 h1 h2 h3 h4
    simp [laws_heldLogRecordS_l0, laws_heldLogRecordS_l0_r]
  | cons x rest ih =>
    intro pre k n h0 h1 h2 h3 h4
    simp only [List.length_cons] at h1 h2 h4
    have hlt := mid_lt pre x rest
    have hmx : (pre ++ x :: rest).length ≤ maxLen := by
      have := lim_max h1
      simpa using this
    obtain ⟨n, rfl⟩ : ∃ m, n = m + 1 := ⟨n - 1, by omega⟩
    simp only [markR, List.cons.injEq] at h0
    obtain ⟨hx, hr⟩ := h0
    have i1 : idxIn (pre.length : Int) (pre ++ x :: rest).length = true := idxIn_nat hlt
    have a1 := at_mid (e := K_Pssq) pre x rest
    have ih' := ih (pre ++ [x]) (k + 2) n hr (by simp; omega) (by omega) (by omega) (by omega)
    have e2 : k + 1 + 1 = k + 2 := rfl
    rw [show (pre ++ [x]).length = pre.length + 1 by simp, List.append_assoc] at ih'
    simp only [List.singleton_append] at ih'
    have hx1 : x.1 = mtx k := by rw [hx]
    have hx2 : x.2.1 = mtx (k + 1) := by rw [hx]
    show laws_heldLogRecordS_l0_r N (laws_heldLogRecordS_l0 N (n + 1)) (pre ++ x :: rest, (k : Int), (pre.length : Int), ()) = _
    unfold laws_heldLogRecordS_l0_r
    simp only [lt_dec hlt, if_true, i1, mtx_eq h3 (by omega : k ≤ 9007199254740992), Option.bind_some, Int.toNat_natCast, a1, hx1, hx2, seq_self, Bool.not_true, Bool.false_eq_true, if_false, wrap_nat1 k (by omega), mtx_eq (by omega : 1 ≤ k + 1) (by omega : k + 1 ≤ 9007199254740992), wrap_nat1 (k + 1) (by omega), wrap_up hlt hmx, e2, ih']
    simp only [List.length_cons]
    congr 4
    omega
theorem markLogRecordS_lim (d) (r) (h : G_markLogRecordS d = some r) : ∃ N, F_laws_markLogRecordS N d = some r := by
  obtain ⟨l, k, _⟩ := d
  unfold G_markLogRecordS okM okL at h
  split at h
  · rename_i hc
    simp only [Bool.and_eq_true, decide_eq_true_eq] at hc
    obtain ⟨k, rfl⟩ : ∃ n : Nat, k = n := ⟨k.toNat, by omega⟩
    obtain rfl := Option.some.inj h
    refine ⟨l.length + 1, ?_⟩
    have := markR_l0 (l.length + 1) l [] k l.length (by simpa using hc.1) (Nat.le_refl _) (by omega) (by omega)
    unfold F_laws_markLogRecordS
    simp only [List.nil_append, List.length_nil, Int.natCast_zero] at this
    simp only [this, Option.bind_some, Int.toNat_natCast]
    congr 2
  · cases h
theorem heldLogRecordS_lim (d) (r) (h : G_heldLogRecordS d = some r) : ∃ N, F_laws_heldLogRecordS N d = some r := by
  obtain ⟨l, k, _⟩ := d
  unfold G_heldLogRecordS okM okL at h
  split at h
  · rename_i hc
    obtain ⟨hc, hm⟩ := hc
    simp only [Bool.and_eq_true, decide_eq_true_eq] at hc
    obtain ⟨k, rfl⟩ : ∃ n : Nat, k = n := ⟨k.toNat, by omega⟩
    obtain rfl := Option.some.inj h
    refine ⟨l.length + 1, ?_⟩
    have := heldR_l0 (l.length + 1) l [] k l.length (by simpa using hm) (by simpa using hc.1) (Nat.le_refl _) (by omega) (by omega)
    unfold F_laws_heldLogRecordS
    simp only [List.nil_append, List.length_nil, Int.natCast_zero] at this
    simp only [this, Option.bind_some]
    congr 2
  · cases h
theorem eqLogRecordS_lim (d) (r) (h : G_eqLogRecordS d = some r) : ∃ N, F_laws_eqLogRecordS N d = some r := by
  obtain ⟨l, m, _⟩ := d
  unfold G_eqLogRecordS okL at h
  split at h
  · rename_i hc
    obtain ⟨hc, hm⟩ := hc
    have hm : l = m := hm
    subst hm
    have hl : l.length ≤ lim := of_decide_eq_true hc
    have hmx := lim_max hl
    obtain rfl := Option.some.inj h
    refine ⟨l.length + 1, ?_⟩
    have := loop_every (L := laws_eqLogRecordS_l0 (l.length + 1)) (r := laws_eqLogRecordS_l0_r (l.length + 1)) (fun _ _ => rfl) l (mk := fun i => (l, l, (i : Int), ())) (q := fun _ => true) (o := .inl (false, ())) (f := .inr (.inl ()))
      (by
        intro back i hi
        have g1 : ∀ x : Rc, g_laws_eqLogRecord (x, x, ()) = (true, ()) := fun x => by
          unfold g_laws_eqLogRecord
          simp only [seq_self, Bool.not_true, Bool.false_eq_true, if_false]
        unfold laws_eqLogRecordS_l0_r
        simp only [lt_dec hi, if_true, idxIn_nat hi, Int.toNat_natCast, g1, Bool.not_true, Bool.false_eq_true, if_false, wrap_up hi hmx])
      (by intro back; unfold laws_eqLogRecordS_l0_r; simp) l.length 0 (by simp) (by simp)
    unfold F_laws_eqLogRecordS
    simp only [Int.natCast_zero] at this
    have e : (if (l.drop 0).all (fun _ => true) = true then (.inr (.inl ()) : laws_eqLogRecordS_l0_O) else .inl (false, ())) = .inr (.inl ()) := by simp
    simp only [bne_self_eq_false, Bool.false_eq_true, if_false, this, e, Option.bind_some]
  · cases h
theorem records_eq {d p : List UInt8} (c : Int) (h : d.length + p.length ≤ 1048576) : ∃ (l : List Rc) (b : Bool), l.length ≤ 60 ∧ F_spec_LogRecords 0 ((ba d, ba p, c, ()), ()) = some (l, b, ()) ∧ F_impl_LogRecords 0 ((ba d, ba p, c, ()), ()) = some (l, b, ()) := by
  have c1 : decide (d.length + p.length ≤ maxLen) = true := decide_eq_true (by unfold maxLen; omega)
  have hle := (open_le 60 0 (d ++ p)).1
  unfold F_spec_LogRecords F_impl_LogRecords
  simp only [specV_eq c h, implV_eq c h, Option.bind_some]
  cases hb : logB d p c
  · simp only [Bool.not_false, if_true]
    exact ⟨[], false, by simp, rfl, rfl⟩
  · simp only [Bool.not_true, Bool.false_eq_true, if_false, ba_size, c1, if_true, ba_append, g_open_eq (by simp; omega : (d ++ p).length ≤ 4194304), Option.bind_some]
    exact ⟨_, true, by simpa using hle, rfl, rfl⟩
theorem law25 : ∀ d, WfD (Kd.tuple ([(K_Pssiq, false)].map (·.1))) d → ∃ out, F_laws_FnExactLogRecords 0 d = some out ∧ (splitT [.bool] [] out).1.1 = true := by
  rintro ⟨⟨a, b, c, _⟩, _⟩ ⟨⟨ha, hb, hc, _⟩, _⟩
  have ha : a.size ≤ maxLen := ha
  have hb : b.size ≤ maxLen := hb
  refine ⟨(true, ()), ?_, rfl⟩
  unfold F_laws_FnExactLogRecords
  rcases szLg a b c ha hb with h | ⟨h1, _⟩
  · simp only [h, decide_true, if_true]
  · obtain ⟨d, rfl⟩ : ∃ d, a = ba d := ⟨bl a, (ba_bl a).symm⟩
    obtain ⟨p, rfl⟩ : ∃ p, b = ba p := ⟨bl b, (ba_bl b).symm⟩
    rw [ba_size, ba_size] at h1
    have t : g_laws_toLog ((ba d, ba p, c, ()), ()) = ((ba d, ba p, c, ()), ()) := rfl
    obtain ⟨l, q, hl, e1, e2⟩ := records_eq (d := d) (p := p) c h1
    have hok : okL l = true := decide_eq_true (by unfold lim; omega)
    have hM : (okL l && okM 1 l.length) = true := by
      rw [hok]
      unfold okM
      simp
      omega
    have hM2 : (okL (markR 1 l) && okM 1 (markR 1 l).length) = true := by
      rw [markR_len]
      have : okL (markR 1 l) = true := decide_eq_true (by rw [markR_len]; unfold lim; omega)
      rw [this]
      unfold okM
      simp
      omega
    have k1 : G_eqLogRecordS (l, l, ()) = some (true, ()) := by unfold G_eqLogRecordS; rw [if_pos ⟨hok, rfl⟩]
    have k2 : G_markLogRecordS (l, 1, ()) = some (1 + 2 * (l.length : Int), markR 1 l, ()) := by unfold G_markLogRecordS; rw [if_pos hM]; rfl
    have k3 : G_heldLogRecordS (markR 1 l, 1, ()) = some (1 + 2 * (l.length : Int), ()) := by
      unfold G_heldLogRecordS
      rw [if_pos ⟨hM2, (markR_self l 1).symm⟩, markR_len]
    have c0 : decide (1 + 2 * (l.length : Int) < 0) = false := decide_eq_false (by omega)
    simp only [t, e1, e2, Option.bind_some, k1, k2, k3, beq_self_eq_true, bne_self_eq_false, Bool.not_true, Bool.false_eq_true, if_false, c0]
    split <;> rfl
end Go.V.W
namespace Go.V.W
open Go.Proofs Go.Shelf Go.RowKit
-- import Derived.Shelf.Lays
-- import Derived.Shelf.LaysM
-- import Derived.Test.XvLib2
-- import Derived.Shelf.Strings.IndexAnyAll
-- import Derived.Shelf.Strings.Cut
-- import Derived.Shelf.Strings.Search3
-- import Derived.Shelf.Strconv.Itoa3
def lays150_ren : Go.Shelf.Ren :=
{
  f := fun x =>
    match x with
    | 150 => 76
    | 153 => 82
    | 152 => 86
    | 226 => 87
    | 227 => 88
    | 228 => 89
    | 137 => 98
    | 119 => 99
    | 224 => 96
    | 225 => 95
    | 217 => 94
    | 266 => 105
    | n => n,
  t := fun x =>
    match x with
    | 9 => 9
    | 4 => 4
    | 3 => 3
    | 5 => 5
    | 21 => 21
    | 117 => 102
    | 116 => 101
    | 0 => 0
    | 46 => 96
    | 124 => 112
    | n => n,
  g := fun x =>
    x }
set_option maxRecDepth 1000000 in
theorem lays150 : Go.Proofs.Lays.n150 Go.Proofs.Tryd.prog lays150_ren :=
{ mixed := by kernel_rfl,
  f119 := (Go.Proofs.Tryd.func99).trans (congrArg some (by kernel_rfl)),
  f137 := (Go.Proofs.Tryd.func98).trans (congrArg some (by kernel_rfl)),
  f150 := (Go.Proofs.Tryd.func76).trans (congrArg some (by kernel_rfl)),
  f152 := (Go.Proofs.Tryd.func86).trans (congrArg some (by kernel_rfl)),
  f153 := (Go.Proofs.Tryd.func82).trans (congrArg some (by kernel_rfl)),
  f217 := (Go.Proofs.Tryd.func94).trans (congrArg some (by kernel_rfl)),
  f224 := (Go.Proofs.Tryd.func96).trans (congrArg some (by kernel_rfl)),
  f225 := (Go.Proofs.Tryd.func95).trans (congrArg some (by kernel_rfl)),
  f226 := (Go.Proofs.Tryd.func87).trans (congrArg some (by kernel_rfl)),
  f227 := (Go.Proofs.Tryd.func88).trans (congrArg some (by kernel_rfl)),
  f228 := (Go.Proofs.Tryd.func89).trans (congrArg some (by kernel_rfl)),
  f266 := (Go.Proofs.Tryd.func105).trans (congrArg some (by kernel_rfl)),
  t0 := Go.Proofs.Tryd.underlying0,
  a0 := Go.Proofs.Tryd.isAgg0,
  z0 := Go.Proofs.Tryd.sizeOf0,
  v0 := Go.Proofs.Tryd.zeroValue0,
  t3 := Go.Proofs.Tryd.underlying3,
  a3 := Go.Proofs.Tryd.isAgg3,
  z3 := Go.Proofs.Tryd.sizeOf3,
  v3 := Go.Proofs.Tryd.zeroValue3,
  t4 := Go.Proofs.Tryd.underlying4,
  a4 := Go.Proofs.Tryd.isAgg4,
  z4 := Go.Proofs.Tryd.sizeOf4,
  v4 := Go.Proofs.Tryd.zeroValue4,
  t5 := Go.Proofs.Tryd.underlying5,
  a5 := Go.Proofs.Tryd.isAgg5,
  z5 := Go.Proofs.Tryd.sizeOf5,
  v5 := Go.Proofs.Tryd.zeroValue5,
  t9 := Go.Proofs.Tryd.underlying9,
  a9 := Go.Proofs.Tryd.isAgg9,
  z9 := Go.Proofs.Tryd.sizeOf9,
  v9 := Go.Proofs.Tryd.zeroValue9,
  t21 := Go.Proofs.Tryd.underlying21,
  a21 := Go.Proofs.Tryd.isAgg21,
  z21 := Go.Proofs.Tryd.sizeOf21,
  v21 := Go.Proofs.Tryd.zeroValue21,
  t46 := Go.Proofs.Tryd.underlying96,
  a46 := Go.Proofs.Tryd.isAgg96,
  z46 := Go.Proofs.Tryd.sizeOf96,
  v46 := Go.Proofs.Tryd.zeroValue96,
  t116 := Go.Proofs.Tryd.underlying101,
  a116 := Go.Proofs.Tryd.isAgg101,
  z116 := Go.Proofs.Tryd.sizeOf101,
  t117 := Go.Proofs.Tryd.underlying102,
  a117 := Go.Proofs.Tryd.isAgg102,
  z117 := Go.Proofs.Tryd.sizeOf102,
  v117 := Go.Proofs.Tryd.zeroValue102,
  t124 := Go.Proofs.Tryd.underlying112,
  a124 := Go.Proofs.Tryd.isAgg112,
  z124 := Go.Proofs.Tryd.sizeOf112,
  v124 := Go.Proofs.Tryd.zeroValue112 }
def lays145_ren : Go.Shelf.Ren :=
{
  f := fun x =>
    match x with
    | 145 => 72
    | 220 => 81
    | 219 => 85
    | 217 => 94
    | 225 => 95
    | 224 => 96
    | 267 => 97
    | 266 => 105
    | 314 => 106
    | n => n,
  t := fun x =>
    match x with
    | 9 => 9
    | 4 => 4
    | 59 => 91
    | 3 => 3
    | 5 => 5
    | 46 => 96
    | 146 => 118
    | 51 => 115
    | n => n,
  g := fun x =>
    match x with
    | 1 => 0
    | n => n }
set_option maxRecDepth 1000000 in
theorem lays145 : Go.Proofs.Lays.n145 Go.Proofs.Tryd.prog lays145_ren :=
{ mixed := by kernel_rfl,
  f145 := (Go.Proofs.Tryd.func72).trans (congrArg some (by kernel_rfl)),
  f217 := (Go.Proofs.Tryd.func94).trans (congrArg some (by kernel_rfl)),
  f219 := (Go.Proofs.Tryd.func85).trans (congrArg some (by kernel_rfl)),
  f220 := (Go.Proofs.Tryd.func81).trans (congrArg some (by kernel_rfl)),
  f224 := (Go.Proofs.Tryd.func96).trans (congrArg some (by kernel_rfl)),
  f225 := (Go.Proofs.Tryd.func95).trans (congrArg some (by kernel_rfl)),
  f266 := (Go.Proofs.Tryd.func105).trans (congrArg some (by kernel_rfl)),
  f267 := (Go.Proofs.Tryd.func97).trans (congrArg some (by kernel_rfl)),
  f314 := (Go.Proofs.Tryd.func106).trans (congrArg some (by kernel_rfl)),
  t3 := Go.Proofs.Tryd.underlying3,
  a3 := Go.Proofs.Tryd.isAgg3,
  z3 := Go.Proofs.Tryd.sizeOf3,
  v3 := Go.Proofs.Tryd.zeroValue3,
  t4 := Go.Proofs.Tryd.underlying4,
  a4 := Go.Proofs.Tryd.isAgg4,
  z4 := Go.Proofs.Tryd.sizeOf4,
  v4 := Go.Proofs.Tryd.zeroValue4,
  t5 := Go.Proofs.Tryd.underlying5,
  a5 := Go.Proofs.Tryd.isAgg5,
  z5 := Go.Proofs.Tryd.sizeOf5,
  v5 := Go.Proofs.Tryd.zeroValue5,
  t9 := Go.Proofs.Tryd.underlying9,
  a9 := Go.Proofs.Tryd.isAgg9,
  z9 := Go.Proofs.Tryd.sizeOf9,
  v9 := Go.Proofs.Tryd.zeroValue9,
  t46 := Go.Proofs.Tryd.underlying96,
  a46 := Go.Proofs.Tryd.isAgg96,
  z46 := Go.Proofs.Tryd.sizeOf96,
  v46 := Go.Proofs.Tryd.zeroValue96,
  t51 := Go.Proofs.Tryd.underlying115,
  a51 := Go.Proofs.Tryd.isAgg115,
  z51 := Go.Proofs.Tryd.sizeOf115,
  v51 := Go.Proofs.Tryd.zeroValue115,
  t59 := Go.Proofs.Tryd.underlying91,
  a59 := Go.Proofs.Tryd.isAgg91,
  z59 := Go.Proofs.Tryd.sizeOf91,
  v59 := Go.Proofs.Tryd.zeroValue91,
  t146 := Go.Proofs.Tryd.underlying118,
  a146 := Go.Proofs.Tryd.isAgg118,
  z146 := Go.Proofs.Tryd.sizeOf118,
  v146 := Go.Proofs.Tryd.zeroValue118,
  g1 := by kernel_rfl }
def lays144_ren : Go.Shelf.Ren :=
{
  f := fun x =>
    match x with
    | 144 => 78
    | 143 => 83
    | 219 => 85
    | 217 => 94
    | 225 => 95
    | 224 => 96
    | 267 => 97
    | 266 => 105
    | 314 => 106
    | n => n,
  t := fun x =>
    match x with
    | 9 => 9
    | 4 => 4
    | 3 => 3
    | 5 => 5
    | 46 => 96
    | 146 => 118
    | 51 => 115
    | n => n,
  g := fun x =>
    match x with
    | 1 => 0
    | n => n }
set_option maxRecDepth 1000000 in
theorem lays144 : Go.Proofs.Lays.n144 Go.Proofs.Tryd.prog lays144_ren :=
{ mixed := by kernel_rfl,
  f143 := (Go.Proofs.Tryd.func83).trans (congrArg some (by kernel_rfl)),
  f144 := (Go.Proofs.Tryd.func78).trans (congrArg some (by kernel_rfl)),
  f217 := (Go.Proofs.Tryd.func94).trans (congrArg some (by kernel_rfl)),
  f219 := (Go.Proofs.Tryd.func85).trans (congrArg some (by kernel_rfl)),
  f224 := (Go.Proofs.Tryd.func96).trans (congrArg some (by kernel_rfl)),
  f225 := (Go.Proofs.Tryd.func95).trans (congrArg some (by kernel_rfl)),
  f266 := (Go.Proofs.Tryd.func105).trans (congrArg some (by kernel_rfl)),
  f267 := (Go.Proofs.Tryd.func97).trans (congrArg some (by kernel_rfl)),
  f314 := (Go.Proofs.Tryd.func106).trans (congrArg some (by kernel_rfl)),
  t3 := Go.Proofs.Tryd.underlying3,
  a3 := Go.Proofs.Tryd.isAgg3,
  z3 := Go.Proofs.Tryd.sizeOf3,
  v3 := Go.Proofs.Tryd.zeroValue3,
  t4 := Go.Proofs.Tryd.underlying4,
  a4 := Go.Proofs.Tryd.isAgg4,
  z4 := Go.Proofs.Tryd.sizeOf4,
  v4 := Go.Proofs.Tryd.zeroValue4,
  t5 := Go.Proofs.Tryd.underlying5,
  a5 := Go.Proofs.Tryd.isAgg5,
  z5 := Go.Proofs.Tryd.sizeOf5,
  v5 := Go.Proofs.Tryd.zeroValue5,
  t9 := Go.Proofs.Tryd.underlying9,
  a9 := Go.Proofs.Tryd.isAgg9,
  z9 := Go.Proofs.Tryd.sizeOf9,
  v9 := Go.Proofs.Tryd.zeroValue9,
  t46 := Go.Proofs.Tryd.underlying96,
  a46 := Go.Proofs.Tryd.isAgg96,
  z46 := Go.Proofs.Tryd.sizeOf96,
  v46 := Go.Proofs.Tryd.zeroValue96,
  t51 := Go.Proofs.Tryd.underlying115,
  a51 := Go.Proofs.Tryd.isAgg115,
  z51 := Go.Proofs.Tryd.sizeOf115,
  v51 := Go.Proofs.Tryd.zeroValue115,
  t146 := Go.Proofs.Tryd.underlying118,
  a146 := Go.Proofs.Tryd.isAgg118,
  z146 := Go.Proofs.Tryd.sizeOf118,
  v146 := Go.Proofs.Tryd.zeroValue118,
  g1 := by kernel_rfl }
def lays171_ren : Go.Shelf.Ren :=
{
  f := fun x =>
    match x with
    | 171 => 69
    | 243 => 80
    | 246 => 84
    | 283 => 90
    | 284 => 91
    | 285 => 92
    | 286 => 93
    | 129 => 101
    | 317 => 100
    | 318 => 102
    | 319 => 103
    | 320 => 104
    | 337 => 107
    | 338 => 108
    | n => n,
  t := fun x =>
    match x with
    | 3 => 3
    | 9 => 9
    | 2 => 2
    | 4 => 4
    | 171 => 105
    | 0 => 0
    | 53 => 72
    | 37 => 53
    | 5 => 5
    | 173 => 108
    | 212 => 114
    | 51 => 115
    | 20 => 20
    | 213 => 116
    | 46 => 96
    | 232 => 121
    | 233 => 122
    | n => n,
  g := fun x =>
    match x with
    | 17 => 1
    | 18 => 2
    | 19 => 3
    | n => n }
set_option maxRecDepth 1000000 in
theorem lays171 : Go.Proofs.LaysM.n171 Go.Proofs.Tryd.prog lays171_ren :=
{ mixed := by kernel_rfl,
  f129 := (Go.Proofs.Tryd.func101).trans (congrArg some (by kernel_rfl)),
  f171 := (Go.Proofs.Tryd.func69).trans (congrArg some (by kernel_rfl)),
  f243 := (Go.Proofs.Tryd.func80).trans (congrArg some (by kernel_rfl)),
  f246 := (Go.Proofs.Tryd.func84).trans (congrArg some (by kernel_rfl)),
  f283 := (Go.Proofs.Tryd.func90).trans (congrArg some (by kernel_rfl)),
  f284 := (Go.Proofs.Tryd.func91).trans (congrArg some (by kernel_rfl)),
  f285 := (Go.Proofs.Tryd.func92).trans (congrArg some (by kernel_rfl)),
  f286 := (Go.Proofs.Tryd.func93).trans (congrArg some (by kernel_rfl)),
  f317 := (Go.Proofs.Tryd.func100).trans (congrArg some (by kernel_rfl)),
  f318 := (Go.Proofs.Tryd.func102).trans (congrArg some (by kernel_rfl)),
  f319 := (Go.Proofs.Tryd.func103).trans (congrArg some (by kernel_rfl)),
  f320 := (Go.Proofs.Tryd.func104).trans (congrArg some (by kernel_rfl)),
  f337 := (Go.Proofs.Tryd.func107).trans (congrArg some (by kernel_rfl)),
  f338 := (Go.Proofs.Tryd.func108).trans (congrArg some (by kernel_rfl)),
  t0 := Go.Proofs.Tryd.underlying0,
  a0 := Go.Proofs.Tryd.isAgg0,
  z0 := Go.Proofs.Tryd.sizeOf0,
  v0 := Go.Proofs.Tryd.zeroValue0,
  t2 := Go.Proofs.Tryd.underlying2,
  a2 := Go.Proofs.Tryd.isAgg2,
  z2 := Go.Proofs.Tryd.sizeOf2,
  v2 := Go.Proofs.Tryd.zeroValue2,
  t3 := Go.Proofs.Tryd.underlying3,
  a3 := Go.Proofs.Tryd.isAgg3,
  z3 := Go.Proofs.Tryd.sizeOf3,
  v3 := Go.Proofs.Tryd.zeroValue3,
  t4 := Go.Proofs.Tryd.underlying4,
  a4 := Go.Proofs.Tryd.isAgg4,
  z4 := Go.Proofs.Tryd.sizeOf4,
  v4 := Go.Proofs.Tryd.zeroValue4,
  t5 := Go.Proofs.Tryd.underlying5,
  a5 := Go.Proofs.Tryd.isAgg5,
  z5 := Go.Proofs.Tryd.sizeOf5,
  v5 := Go.Proofs.Tryd.zeroValue5,
  t9 := Go.Proofs.Tryd.underlying9,
  a9 := Go.Proofs.Tryd.isAgg9,
  z9 := Go.Proofs.Tryd.sizeOf9,
  v9 := Go.Proofs.Tryd.zeroValue9,
  t20 := Go.Proofs.Tryd.underlying20,
  a20 := Go.Proofs.Tryd.isAgg20,
  z20 := Go.Proofs.Tryd.sizeOf20,
  v20 := Go.Proofs.Tryd.zeroValue20,
  t37 := Go.Proofs.Tryd.underlying53,
  a37 := Go.Proofs.Tryd.isAgg53,
  z37 := Go.Proofs.Tryd.sizeOf53,
  v37 := Go.Proofs.Tryd.zeroValue53,
  t46 := Go.Proofs.Tryd.underlying96,
  a46 := Go.Proofs.Tryd.isAgg96,
  z46 := Go.Proofs.Tryd.sizeOf96,
  v46 := Go.Proofs.Tryd.zeroValue96,
  t51 := Go.Proofs.Tryd.underlying115,
  a51 := Go.Proofs.Tryd.isAgg115,
  z51 := Go.Proofs.Tryd.sizeOf115,
  v51 := Go.Proofs.Tryd.zeroValue115,
  t53 := Go.Proofs.Tryd.underlying72,
  a53 := Go.Proofs.Tryd.isAgg72,
  z53 := Go.Proofs.Tryd.sizeOf72,
  v53 := Go.Proofs.Tryd.zeroValue72,
  t171 := Go.Proofs.Tryd.underlying105,
  a171 := Go.Proofs.Tryd.isAgg105,
  z171 := Go.Proofs.Tryd.sizeOf105,
  v171 := Go.Proofs.Tryd.zeroValue105,
  t173 := Go.Proofs.Tryd.underlying108,
  a173 := Go.Proofs.Tryd.isAgg108,
  z173 := Go.Proofs.Tryd.sizeOf108,
  v173 := Go.Proofs.Tryd.zeroValue108,
  t212 := Go.Proofs.Tryd.underlying114,
  a212 := Go.Proofs.Tryd.isAgg114,
  z212 := Go.Proofs.Tryd.sizeOf114,
  v212 := Go.Proofs.Tryd.zeroValue114,
  t213 := Go.Proofs.Tryd.underlying116,
  a213 := Go.Proofs.Tryd.isAgg116,
  z213 := Go.Proofs.Tryd.sizeOf116,
  t232 := Go.Proofs.Tryd.underlying121,
  a232 := Go.Proofs.Tryd.isAgg121,
  z232 := Go.Proofs.Tryd.sizeOf121,
  v232 := Go.Proofs.Tryd.zeroValue121,
  t233 := Go.Proofs.Tryd.underlying122,
  a233 := Go.Proofs.Tryd.isAgg122,
  z233 := Go.Proofs.Tryd.sizeOf122,
  v233 := Go.Proofs.Tryd.zeroValue122,
  g17 := by kernel_rfl,
  g18 := by kernel_rfl,
  g19 := by kernel_rfl,
  i0 := by kernel_rfl,
  i2 := by kernel_rfl,
  i3 := by kernel_rfl,
  i4 := by kernel_rfl,
  i5 := by kernel_rfl,
  i9 := by kernel_rfl,
  i20 := by kernel_rfl,
  i37 := by kernel_rfl,
  i46 := by kernel_rfl,
  i51 := by kernel_rfl,
  i53 := by kernel_rfl,
  i171 := by kernel_rfl,
  i173 := by kernel_rfl,
  i212 := by kernel_rfl,
  i232 := by kernel_rfl,
  i233 := by kernel_rfl,
  m17 := by kernel_rfl,
  m18 := by kernel_rfl,
  m19 := by kernel_rfl }
theorem tab : TabOk Tryd.prog (assoc tks) (assoc ars) := tab_of (by kernel_rfl)
theorem mixed : Tryd.prog.follows .mixedOrders = true := by kernel_rfl
theorem set150 : (Tryd.prog.info? (lays150_ren.t 116)).map (fun i => (i.zero, i.size)) = some (some (.agg (Array.replicate 256 (.bool false))), 256) := by kernel_rfl
theorem ascii_get {s : ByteArray} (h : asciiB s = true) : ∀ (j : Nat) b, s.data.toList[j]? = some b → b.toNat < 128 := fun j b hb => of_decide_eq_true (List.all_eq_true.1 h b (List.mem_of_getElem? hb))
theorem C_strings_ContainsAny : Contract Tryd.prog 76 S_strings_ContainsAny :=
  con_ssb (pre := fun s c => asciiB s = true ∧ asciiB c = true ∧ smallB s = true ∧ smallB c = true) (B := fun s c => Lib.containsAny s.data.toList c.data.toList) (enters_of Tryd.func76 (by kernel_rfl) rfl)
    (fun s c w h => Any.strings_ContainsAny_laid lays150 set150 s c w (of_decide_eq_true h.2.2.1) (of_decide_eq_true h.2.2.2) (ascii_get h.1) (ascii_get h.2.1))
    (fun d r h => by
      unfold G_containsAny at h
      split at h
      · rename_i hc
        simp only [Bool.and_eq_true] at hc
        exact ⟨⟨hc.1.1.1, hc.1.1.2, hc.1.2, hc.2⟩, (Option.some.inj h).symm⟩
      · cases h)
theorem C_strings_Cut : Contract Tryd.prog 72 S_strings_Cut :=
  con_sssbM (g := lays145_ren.g 1) (by kernel_rfl) (pre := fun s _ => smallB s = true) (B := fun s c => (ba (Lib.cut (bl s) (bl c)).1, ba (Lib.cut (bl s) (bl c)).2.1, (Lib.cut (bl s) (bl c)).2.2)) (enters_of Tryd.func72 (by kernel_rfl) rfl)
    (fun s c m w h hm => (Any.strings_Cut lays145 s c m w (of_decide_eq_true h) hm).mono fun e w' he => by
      obtain ⟨h1, n, rfl⟩ := he
      exact ⟨h1, below_drewN2 w n⟩)
    (fun d r h => by
      unfold G_cut at h
      split at h
      · rename_i hc
        exact ⟨hc, (Option.some.inj h).symm⟩
      · cases h)
theorem C_strings_Contains : Contract Tryd.prog 78 S_strings_Contains :=
  con_ssbM (g := lays144_ren.g 1) (by kernel_rfl) (pre := fun s _ => smallB s = true) (B := fun s c => Lib.contains (bl s) (bl c)) (enters_of Tryd.func78 (by kernel_rfl) rfl)
    (fun s c m w h hm => (Any.strings_Contains lays144 s c m w (of_decide_eq_true h) hm).mono fun e w' he => by
      obtain ⟨h1, rfl⟩ := he
      exact ⟨h1, Below.refl _ _⟩)
    (fun d r h => by
      unfold G_contains at h
      split at h
      · rename_i hc
        exact ⟨hc, (Option.some.inj h).symm⟩
      · cases h)
theorem pow10_cells : (pow10s.map fun z => Value.int .u64 z).toArray = (Lib.pow10Tab.map fun z => Value.int .u64 z).toArray := by rw [show pow10s = Lib.pow10Tab by decide]
theorem C_strconv_Itoa : Contract Tryd.prog 69 S_strconv_Itoa :=
  con_itoa (g := lays171_ren.g 17) (by kernel_rfl) (B := fun n => ba (Lib.itoa n)) (enters_of Tryd.func69 (by kernel_rfl) rfl)
    (fun n w h0 h1 hv => (Any.strconv_Itoa lays171 n h0 h1 w (hv.trans (congrArg some pow10_cells))).mono fun e w' he => by
      obtain ⟨h1, k, os, rfl⟩ := he
      exact ⟨h1, below_grow2 w k os⟩)
    (fun d r h => by
      unfold G_itoa at h
      split at h
      · rename_i hc
        simp only [Bool.and_eq_true, decide_eq_true_eq] at hc
        exact ⟨hc, (Option.some.inj h).symm⟩
      · cases h)
theorem C_laws_szLog_raw (N : Nat) : Contract Tryd.prog 19 ⟨[(K_Pssiq, false), (I, false)], [I], true, F_laws_szLog N⟩ :=
  have E : Env Tryd.prog Γ_laws_szLog := env_of tab trivial
  con_of (Pc := []) E mixed Tryd.func19 (by kernel_rfl) (by kernel_rfl) (by kernel_rfl) (by kernel_rfl) (fun A hA => trivial) (F_laws_szLog_ok N)
theorem C_laws_szLog : Contract Tryd.prog 19 S_laws_szLog := Contract.less (fun N : Nat => F_laws_szLog N) C_laws_szLog_raw (fun d r h => ⟨0, (F_laws_szLog_tot 0 d).trans h⟩)
theorem C_laws_toLog_raw (N : Nat) : Contract Tryd.prog 21 ⟨[(K_Pssiq, false)], [K_Pssiq], true, F_laws_toLog N⟩ :=
  have E : Env Tryd.prog Γ_laws_toLog := env_of tab trivial
  con_of (Pc := []) E mixed Tryd.func21 (by kernel_rfl) (by kernel_rfl) (by kernel_rfl) (by kernel_rfl) (fun A hA => trivial) (F_laws_toLog_ok N)
theorem C_laws_toLog : Contract Tryd.prog 21 S_laws_toLog := Contract.less (fun N : Nat => F_laws_toLog N) C_laws_toLog_raw (fun d r h => ⟨0, (F_laws_toLog_tot 0 d).trans h⟩)
theorem C_spec_l1Split_raw (N : Nat) : Contract Tryd.prog 70 ⟨[(.str, false), ((.int .u8), false)], [K_Ss], true, F_spec_l1Split N⟩ :=
  have E : Env Tryd.prog Γ_spec_l1Split := env_of tab trivial
  con_of (Pc := [(0, ⟨spec_l1Split_l0_h, spec_l1Split_l0_o, spec_l1Split_l0 N N⟩)]) E mixed Tryd.func70 (by kernel_rfl) (by kernel_rfl) (by kernel_rfl) (by kernel_rfl) (fun A hA => ⟨pc_of (inner := []) E mixed hA (by kernel_rfl) (by kernel_rfl) (by kernel_rfl) trivial (fun _ => rfl) (fun m d => (spec_l1Split_l0_ok N (spec_l1Split_l0 N m) d).symm) N, trivial⟩) (F_spec_l1Split_ok N)
theorem C_spec_l1Split : Contract Tryd.prog 70 S_spec_l1Split := Contract.less (fun N : Nat => F_spec_l1Split N) C_spec_l1Split_raw l1Split_lim
theorem C_spec_l1Num_raw : ∀ N : Nat, Contract Tryd.prog 67 ⟨[(I, false)], [.str], true, F_spec_l1Num N⟩
  | 0 => fun _ _ _ _ _ _ _ _ _ _ h => by cases h
  | N + 1 =>
    have E : Env Tryd.prog (Γ_spec_l1Num N) := env_of tab ⟨C_spec_l1Num_raw N, trivial⟩
    con_of (Pc := []) E mixed Tryd.func67 (by kernel_rfl) (by kernel_rfl) (by kernel_rfl) (by kernel_rfl) (fun A hA => trivial) (F_spec_l1Num_ok N)
theorem C_spec_l1Num : Contract Tryd.prog 67 S_spec_l1Num := Contract.less (fun N : Nat => F_spec_l1Num N) C_spec_l1Num_raw l1Num_lim
theorem C_spec_l1In_raw (N : Nat) : Contract Tryd.prog 45 ⟨[(I, false), (I, false), (I, false)], [.bool], true, F_spec_l1In N⟩ :=
  have E : Env Tryd.prog Γ_spec_l1In := env_of tab trivial
  con_of (Pc := []) E mixed Tryd.func45 (by kernel_rfl) (by kernel_rfl) (by kernel_rfl) (by kernel_rfl) (fun A hA => trivial) (F_spec_l1In_ok N)
theorem C_spec_l1In : Contract Tryd.prog 45 S_spec_l1In := Contract.less (fun N : Nat => F_spec_l1In N) C_spec_l1In_raw (fun d r h => ⟨0, (F_spec_l1In_tot 0 d).trans h⟩)
theorem C_spec_l12Bytes_raw (N : Nat) : Contract Tryd.prog 64 ⟨[(.str, false), (I, false)], [.bool], true, F_spec_l12Bytes N⟩ :=
  have E : Env Tryd.prog Γ_spec_l12Bytes := env_of tab ⟨C_spec_l1In, trivial⟩
  con_of (Pc := [(0, ⟨spec_l12Bytes_l0_h, spec_l12Bytes_l0_o, spec_l12Bytes_l0 N N⟩)]) E mixed Tryd.func64 (by kernel_rfl) (by kernel_rfl) (by kernel_rfl) (by kernel_rfl) (fun A hA => ⟨pc_of (inner := []) E mixed hA (by kernel_rfl) (by kernel_rfl) (by kernel_rfl) trivial (fun _ => rfl) (fun m d => (spec_l12Bytes_l0_ok N (spec_l12Bytes_l0 N m) d).symm) N, trivial⟩) (F_spec_l12Bytes_ok N)
theorem C_spec_l12Bytes : Contract Tryd.prog 64 S_spec_l12Bytes := Contract.less (fun N : Nat => F_spec_l12Bytes N) C_spec_l12Bytes_raw l12Bytes_lim
theorem C_spec_l1Stands_raw (N : Nat) : Contract Tryd.prog 65 ⟨[(.str, false), ((.int .u8), false)], [.bool], true, F_spec_l1Stands N⟩ :=
  have E : Env Tryd.prog Γ_spec_l1Stands := env_of tab trivial
  con_of (Pc := [(0, ⟨spec_l1Stands_l0_h, spec_l1Stands_l0_o, spec_l1Stands_l0 N N⟩)]) E mixed Tryd.func65 (by kernel_rfl) (by kernel_rfl) (by kernel_rfl) (by kernel_rfl) (fun A hA => ⟨pc_of (inner := []) E mixed hA (by kernel_rfl) (by kernel_rfl) (by kernel_rfl) trivial (fun _ => rfl) (fun m d => (spec_l1Stands_l0_ok N (spec_l1Stands_l0 N m) d).symm) N, trivial⟩) (F_spec_l1Stands_ok N)
theorem C_spec_l1Stands : Contract Tryd.prog 65 S_spec_l1Stands := Contract.less (fun N : Nat => F_spec_l1Stands N) C_spec_l1Stands_raw l1Stands_lim
theorem C_spec_l12Record_raw (N : Nat) : Contract Tryd.prog 46 ⟨[(K_Pssq, false)], [.bool], true, F_spec_l12Record N⟩ :=
  have E : Env Tryd.prog Γ_spec_l12Record := env_of tab ⟨C_spec_l12Bytes, ⟨C_spec_l1Stands, trivial⟩⟩
  con_of (Pc := []) E mixed Tryd.func46 (by kernel_rfl) (by kernel_rfl) (by kernel_rfl) (by kernel_rfl) (fun A hA => trivial) (F_spec_l12Record_ok N)
theorem C_spec_l12Record : Contract Tryd.prog 46 S_spec_l12Record := C_spec_l12Record_raw 0
theorem C_spec_l1Sum_raw (N : Nat) : Contract Tryd.prog 77 ⟨[(.str, false)], [I], true, F_spec_l1Sum N⟩ :=
  have E : Env Tryd.prog Γ_spec_l1Sum := env_of tab trivial
  con_of (Pc := [(0, ⟨spec_l1Sum_l0_h, spec_l1Sum_l0_o, spec_l1Sum_l0 N N⟩)]) E mixed Tryd.func77 (by kernel_rfl) (by kernel_rfl) (by kernel_rfl) (by kernel_rfl) (fun A hA => ⟨pc_of (inner := []) E mixed hA (by kernel_rfl) (by kernel_rfl) (by kernel_rfl) trivial (fun _ => rfl) (fun m d => (spec_l1Sum_l0_ok N (spec_l1Sum_l0 N m) d).symm) N, trivial⟩) (F_spec_l1Sum_ok N)
theorem C_spec_l1Sum : Contract Tryd.prog 77 S_spec_l1Sum := Contract.less (fun N : Nat => F_spec_l1Sum N) C_spec_l1Sum_raw l1Sum_lim
theorem C_spec_l1Seal_raw (N : Nat) : Contract Tryd.prog 66 ⟨[(.str, false)], [.str], true, F_spec_l1Seal N⟩ :=
  have E : Env Tryd.prog Γ_spec_l1Seal := env_of tab ⟨C_spec_l1Num, ⟨C_spec_l1Sum, trivial⟩⟩
  con_of (Pc := []) E mixed Tryd.func66 (by kernel_rfl) (by kernel_rfl) (by kernel_rfl) (by kernel_rfl) (fun A hA => trivial) (F_spec_l1Seal_ok N)
theorem C_spec_l1Seal : Contract Tryd.prog 66 S_spec_l1Seal := C_spec_l1Seal_raw 0
theorem C_spec_l12Line_raw (N : Nat) : Contract Tryd.prog 47 ⟨[(I, false), (K_Pssq, false)], [.str], true, F_spec_l12Line N⟩ :=
  have E : Env Tryd.prog Γ_spec_l12Line := env_of tab ⟨C_spec_l1Seal, ⟨C_spec_l1Num, trivial⟩⟩
  con_of (Pc := []) E mixed Tryd.func47 (by kernel_rfl) (by kernel_rfl) (by kernel_rfl) (by kernel_rfl) (fun A hA => trivial) (F_spec_l12Line_ok N)
theorem C_spec_l12Line : Contract Tryd.prog 47 S_spec_l12Line := C_spec_l12Line_raw 0
theorem C_spec_l12Decode_raw (N : Nat) : Contract Tryd.prog 71 ⟨[(.str, false), (I, false)], [K_Pssq, .bool], true, F_spec_l12Decode N⟩ :=
  have E : Env Tryd.prog Γ_spec_l12Decode := env_of tab ⟨C_spec_l12Record, ⟨C_spec_l12Line, ⟨C_spec_l1Num, ⟨C_spec_l1Split, trivial⟩⟩⟩⟩
  con_of (Pc := []) E mixed Tryd.func71 (by kernel_rfl) (by kernel_rfl) (by kernel_rfl) (by kernel_rfl) (fun A hA => trivial) (F_spec_l12Decode_ok N)
theorem C_spec_l12Decode : Contract Tryd.prog 71 S_spec_l12Decode := C_spec_l12Decode_raw 0
theorem C_spec_l12Open_raw (N : Nat) : Contract Tryd.prog 50 ⟨[(.str, false)], [K_SPssq, I], true, F_spec_l12Open N⟩ :=
  have E : Env Tryd.prog Γ_spec_l12Open := env_of tab ⟨C_spec_l1Split, ⟨C_spec_l12Decode, trivial⟩⟩
  con_of (Pc := [(0, ⟨spec_l12Open_l0_h, spec_l12Open_l0_o, spec_l12Open_l0 N N⟩)]) E mixed Tryd.func50 (by kernel_rfl) (by kernel_rfl) (by kernel_rfl) (by kernel_rfl) (fun A hA => ⟨pc_of (inner := []) E mixed hA (by kernel_rfl) (by kernel_rfl) (by kernel_rfl) trivial (fun _ => rfl) (fun m d => (spec_l12Open_l0_ok N (spec_l12Open_l0 N m) d).symm) N, trivial⟩) (F_spec_l12Open_ok N)
theorem C_spec_l12Open : Contract Tryd.prog 50 S_spec_l12Open := Contract.less (fun N : Nat => F_spec_l12Open N) C_spec_l12Open_raw l12Open_lim
theorem C_spec_l12Valid_raw (N : Nat) : Contract Tryd.prog 52 ⟨[(K_Pssiq, false)], [.bool], true, F_spec_l12Valid N⟩ :=
  have E : Env Tryd.prog Γ_spec_l12Valid := env_of tab ⟨C_spec_l12Open, trivial⟩
  con_of (Pc := []) E mixed Tryd.func52 (by kernel_rfl) (by kernel_rfl) (by kernel_rfl) (by kernel_rfl) (fun A hA => trivial) (F_spec_l12Valid_ok N)
theorem C_spec_l12Valid : Contract Tryd.prog 52 S_spec_l12Valid := C_spec_l12Valid_raw 0
theorem C_spec_LogRecords_raw (N : Nat) : Contract Tryd.prog 29 ⟨[(K_Pssiq, false)], [K_SPssq, .bool], true, F_spec_LogRecords N⟩ :=
  have E : Env Tryd.prog Γ_spec_LogRecords := env_of tab ⟨C_spec_l12Open, ⟨C_spec_l12Valid, trivial⟩⟩
  con_of (Pc := []) E mixed Tryd.func29 (by kernel_rfl) (by kernel_rfl) (by kernel_rfl) (by kernel_rfl) (fun A hA => trivial) (F_spec_LogRecords_ok N)
theorem C_spec_LogRecords : Contract Tryd.prog 29 S_spec_LogRecords := C_spec_LogRecords_raw 0
theorem C_impl_checksum_raw (N : Nat) : Contract Tryd.prog 79 ⟨[(.str, false)], [I], true, F_impl_checksum N⟩ :=
  have E : Env Tryd.prog Γ_impl_checksum := env_of tab trivial
  con_of (Pc := [(0, ⟨impl_checksum_l0_h, impl_checksum_l0_o, impl_checksum_l0 N N⟩)]) E mixed Tryd.func79 (by kernel_rfl) (by kernel_rfl) (by kernel_rfl) (by kernel_rfl) (fun A hA => ⟨pc_of (inner := []) E mixed hA (by kernel_rfl) (by kernel_rfl) (by kernel_rfl) trivial (fun _ => rfl) (fun m d => (impl_checksum_l0_ok N (impl_checksum_l0 N m) d).symm) N, trivial⟩) (F_impl_checksum_ok N)
theorem C_impl_checksum : Contract Tryd.prog 79 S_impl_checksum := Contract.less (fun N : Nat => F_impl_checksum N) C_impl_checksum_raw checksum_lim
theorem C_impl_AppendChecksum_raw (N : Nat) : Contract Tryd.prog 68 ⟨[(.str, false)], [.str, .bool], true, F_impl_AppendChecksum N⟩ :=
  have E : Env Tryd.prog Γ_impl_AppendChecksum := env_of tab ⟨C_strconv_Itoa, ⟨C_strings_Contains, ⟨C_impl_checksum, trivial⟩⟩⟩
  con_of (Pc := []) E mixed Tryd.func68 (by kernel_rfl) (by kernel_rfl) (by kernel_rfl) (by kernel_rfl) (fun A hA => trivial) (F_impl_AppendChecksum_ok N)
theorem C_impl_AppendChecksum : Contract Tryd.prog 68 S_impl_AppendChecksum := C_impl_AppendChecksum_raw 0
theorem C_impl_VerifyChecksum_raw (N : Nat) : Contract Tryd.prog 73 ⟨[(.str, false)], [.str, .bool], true, F_impl_VerifyChecksum N⟩ :=
  have E : Env Tryd.prog Γ_impl_VerifyChecksum := env_of tab ⟨C_impl_AppendChecksum, ⟨C_strings_Cut, trivial⟩⟩
  con_of (Pc := []) E mixed Tryd.func73 (by kernel_rfl) (by kernel_rfl) (by kernel_rfl) (by kernel_rfl) (fun A hA => trivial) (F_impl_VerifyChecksum_ok N)
theorem C_impl_VerifyChecksum : Contract Tryd.prog 73 S_impl_VerifyChecksum := C_impl_VerifyChecksum_raw 0
theorem C_impl_within_raw (N : Nat) : Contract Tryd.prog 48 ⟨[(I, false), (I, false), (I, false)], [.bool], true, F_impl_within N⟩ :=
  have E : Env Tryd.prog Γ_impl_within := env_of tab trivial
  con_of (Pc := []) E mixed Tryd.func48 (by kernel_rfl) (by kernel_rfl) (by kernel_rfl) (by kernel_rfl) (fun A hA => trivial) (F_impl_within_ok N)
theorem C_impl_within : Contract Tryd.prog 48 S_impl_within := Contract.less (fun N : Nat => F_impl_within N) C_impl_within_raw (fun d r h => ⟨0, (F_impl_within_tot 0 d).trans h⟩)
theorem C_impl_isPrinted_raw (N : Nat) : Contract Tryd.prog 63 ⟨[(.str, false), (.str, false)], [.bool], true, F_impl_isPrinted N⟩ :=
  have E : Env Tryd.prog Γ_impl_isPrinted := env_of tab ⟨C_strings_ContainsAny, trivial⟩
  con_of (Pc := [(0, ⟨impl_isPrinted_l0_h, impl_isPrinted_l0_o, impl_isPrinted_l0 N N⟩)]) E mixed Tryd.func63 (by kernel_rfl) (by kernel_rfl) (by kernel_rfl) (by kernel_rfl) (fun A hA => ⟨pc_of (inner := []) E mixed hA (by kernel_rfl) (by kernel_rfl) (by kernel_rfl) trivial (fun _ => rfl) (fun m d => (impl_isPrinted_l0_ok N (impl_isPrinted_l0 N m) d).symm) N, trivial⟩) (F_impl_isPrinted_ok N)
theorem C_impl_isPrinted : Contract Tryd.prog 63 S_impl_isPrinted := Contract.less (fun N : Nat => F_impl_isPrinted N) C_impl_isPrinted_raw isPrinted_lim
theorem C_impl_isCommand_raw (N : Nat) : Contract Tryd.prog 62 ⟨[(.str, false)], [.bool], true, F_impl_isCommand N⟩ :=
  have E : Env Tryd.prog Γ_impl_isCommand := env_of tab ⟨C_impl_within, ⟨C_impl_isPrinted, trivial⟩⟩
  con_of (Pc := []) E mixed Tryd.func62 (by kernel_rfl) (by kernel_rfl) (by kernel_rfl) (by kernel_rfl) (fun A hA => trivial) (F_impl_isCommand_ok N)
theorem C_impl_isCommand : Contract Tryd.prog 62 S_impl_isCommand := C_impl_isCommand_raw 0
theorem C_impl_IsValidRecord_raw (N : Nat) : Contract Tryd.prog 43 ⟨[(K_Pssq, false)], [.bool], true, F_impl_IsValidRecord N⟩ :=
  have E : Env Tryd.prog Γ_impl_IsValidRecord := env_of tab ⟨C_impl_isCommand, ⟨C_impl_isPrinted, trivial⟩⟩
  con_of (Pc := []) E mixed Tryd.func43 (by kernel_rfl) (by kernel_rfl) (by kernel_rfl) (by kernel_rfl) (fun A hA => trivial) (F_impl_IsValidRecord_ok N)
theorem C_impl_IsValidRecord : Contract Tryd.prog 43 S_impl_IsValidRecord := C_impl_IsValidRecord_raw 0
theorem C_impl_encodeRecord_raw (N : Nat) : Contract Tryd.prog 49 ⟨[(I, false), (K_Pssq, false)], [.str], true, F_impl_encodeRecord N⟩ :=
  have E : Env Tryd.prog Γ_impl_encodeRecord := env_of tab ⟨C_impl_AppendChecksum, ⟨C_strconv_Itoa, trivial⟩⟩
  con_of (Pc := []) E mixed Tryd.func49 (by kernel_rfl) (by kernel_rfl) (by kernel_rfl) (by kernel_rfl) (fun A hA => trivial) (F_impl_encodeRecord_ok N)
theorem C_impl_encodeRecord : Contract Tryd.prog 49 S_impl_encodeRecord := C_impl_encodeRecord_raw 0
theorem C_impl_readRecords_raw (N : Nat) : Contract Tryd.prog 51 ⟨[(.str, false)], [K_SPssq, I], true, F_impl_readRecords N⟩ :=
  have E : Env Tryd.prog Γ_impl_readRecords := env_of tab ⟨C_impl_IsValidRecord, ⟨C_impl_encodeRecord, ⟨C_strings_Cut, ⟨C_impl_VerifyChecksum, trivial⟩⟩⟩⟩
  con_of (Pc := [(0, ⟨impl_readRecords_l0_h, impl_readRecords_l0_o, impl_readRecords_l0 N N⟩)]) E mixed Tryd.func51 (by kernel_rfl) (by kernel_rfl) (by kernel_rfl) (by kernel_rfl) (fun A hA => ⟨pc_of (inner := []) E mixed hA (by kernel_rfl) (by kernel_rfl) (by kernel_rfl) trivial (fun _ => rfl) (fun m d => (impl_readRecords_l0_ok N (impl_readRecords_l0 N m) d).symm) N, trivial⟩) (F_impl_readRecords_ok N)
theorem C_impl_readRecords : Contract Tryd.prog 51 S_impl_readRecords := Contract.less (fun N : Nat => F_impl_readRecords N) C_impl_readRecords_raw readRecords_lim
theorem C_impl_IsValidLog_raw (N : Nat) : Contract Tryd.prog 22 ⟨[(K_Pssiq, false)], [.bool], true, F_impl_IsValidLog N⟩ :=
  have E : Env Tryd.prog Γ_impl_IsValidLog := env_of tab ⟨C_impl_readRecords, trivial⟩
  con_of (Pc := []) E mixed Tryd.func22 (by kernel_rfl) (by kernel_rfl) (by kernel_rfl) (by kernel_rfl) (fun A hA => trivial) (F_impl_IsValidLog_ok N)
theorem C_impl_IsValidLog : Contract Tryd.prog 22 S_impl_IsValidLog := C_impl_IsValidLog_raw 0
theorem C_impl_LogRecords_raw (N : Nat) : Contract Tryd.prog 30 ⟨[(K_Pssiq, false)], [K_SPssq, .bool], true, F_impl_LogRecords N⟩ :=
  have E : Env Tryd.prog Γ_impl_LogRecords := env_of tab ⟨C_impl_IsValidLog, ⟨C_impl_readRecords, trivial⟩⟩
  con_of (Pc := []) E mixed Tryd.func30 (by kernel_rfl) (by kernel_rfl) (by kernel_rfl) (by kernel_rfl) (fun A hA => trivial) (F_impl_LogRecords_ok N)
theorem C_impl_LogRecords : Contract Tryd.prog 30 S_impl_LogRecords := C_impl_LogRecords_raw 0
theorem C_laws_eqLogRecord_raw (N : Nat) : Contract Tryd.prog 53 ⟨[(K_Pssq, false), (K_Pssq, false)], [.bool], true, F_laws_eqLogRecord N⟩ :=
  have E : Env Tryd.prog Γ_laws_eqLogRecord := env_of tab trivial
  con_of (Pc := []) E mixed Tryd.func53 (by kernel_rfl) (by kernel_rfl) (by kernel_rfl) (by kernel_rfl) (fun A hA => trivial) (F_laws_eqLogRecord_ok N)
theorem C_laws_eqLogRecord : Contract Tryd.prog 53 S_laws_eqLogRecord := Contract.less (fun N : Nat => F_laws_eqLogRecord N) C_laws_eqLogRecord_raw (fun d r h => ⟨0, (F_laws_eqLogRecord_tot 0 d).trans h⟩)
theorem C_laws_eqLogRecordS_raw (N : Nat) : Contract Tryd.prog 31 ⟨[(K_SPssq, false), (K_SPssq, false)], [.bool], true, F_laws_eqLogRecordS N⟩ :=
  have E : Env Tryd.prog Γ_laws_eqLogRecordS := env_of tab ⟨C_laws_eqLogRecord, trivial⟩
  con_of (Pc := [(0, ⟨laws_eqLogRecordS_l0_h, laws_eqLogRecordS_l0_o, laws_eqLogRecordS_l0 N N⟩)]) E mixed Tryd.func31 (by kernel_rfl) (by kernel_rfl) (by kernel_rfl) (by kernel_rfl) (fun A hA => ⟨pc_of (inner := []) E mixed hA (by kernel_rfl) (by kernel_rfl) (by kernel_rfl) trivial (fun _ => rfl) (fun m d => (laws_eqLogRecordS_l0_ok N (laws_eqLogRecordS_l0 N m) d).symm) N, trivial⟩) (F_laws_eqLogRecordS_ok N)
theorem C_laws_eqLogRecordS : Contract Tryd.prog 31 S_laws_eqLogRecordS := Contract.less (fun N : Nat => F_laws_eqLogRecordS N) C_laws_eqLogRecordS_raw eqLogRecordS_lim
theorem C_laws_markText_raw (N : Nat) : Contract Tryd.prog 54 ⟨[(I, false)], [.str], true, F_laws_markText N⟩ :=
  have E : Env Tryd.prog Γ_laws_markText := env_of tab trivial
  con_of (Pc := [(0, ⟨laws_markText_l0_h, laws_markText_l0_o, laws_markText_l0 N N⟩)]) E mixed Tryd.func54 (by kernel_rfl) (by kernel_rfl) (by kernel_rfl) (by kernel_rfl) (fun A hA => ⟨pc_of (inner := []) E mixed hA (by kernel_rfl) (by kernel_rfl) (by kernel_rfl) trivial (fun _ => rfl) (fun m d => (laws_markText_l0_ok N (laws_markText_l0 N m) d).symm) N, trivial⟩) (F_laws_markText_ok N)
theorem C_laws_markText : Contract Tryd.prog 54 S_laws_markText := Contract.less (fun N : Nat => F_laws_markText N) C_laws_markText_raw markText_lim
theorem C_laws_markLogRecordS_raw (N : Nat) : Contract Tryd.prog 32 ⟨[(K_SPssq, true), (I, false)], [I], true, F_laws_markLogRecordS N⟩ :=
  have E : Env Tryd.prog Γ_laws_markLogRecordS := env_of tab ⟨C_laws_markText, trivial⟩
  con_of (Pc := [(0, ⟨laws_markLogRecordS_l0_h, laws_markLogRecordS_l0_o, laws_markLogRecordS_l0 N N⟩)]) E mixed Tryd.func32 (by kernel_rfl) (by kernel_rfl) (by kernel_rfl) (by kernel_rfl) (fun A hA => ⟨pc_of (inner := []) E mixed hA (by kernel_rfl) (by kernel_rfl) (by kernel_rfl) trivial (fun _ => rfl) (fun m d => (laws_markLogRecordS_l0_ok N (laws_markLogRecordS_l0 N m) d).symm) N, trivial⟩) (F_laws_markLogRecordS_ok N)
theorem C_laws_markLogRecordS : Contract Tryd.prog 32 S_laws_markLogRecordS := Contract.less (fun N : Nat => F_laws_markLogRecordS N) C_laws_markLogRecordS_raw markLogRecordS_lim
theorem C_laws_heldLogRecordS_raw (N : Nat) : Contract Tryd.prog 33 ⟨[(K_SPssq, false), (I, false)], [I], true, F_laws_heldLogRecordS N⟩ :=
  have E : Env Tryd.prog Γ_laws_heldLogRecordS := env_of tab ⟨C_laws_markText, trivial⟩
  con_of (Pc := [(0, ⟨laws_heldLogRecordS_l0_h, laws_heldLogRecordS_l0_o, laws_heldLogRecordS_l0 N N⟩)]) E mixed Tryd.func33 (by kernel_rfl) (by kernel_rfl) (by kernel_rfl) (by kernel_rfl) (fun A hA => ⟨pc_of (inner := []) E mixed hA (by kernel_rfl) (by kernel_rfl) (by kernel_rfl) trivial (fun _ => rfl) (fun m d => (laws_heldLogRecordS_l0_ok N (laws_heldLogRecordS_l0 N m) d).symm) N, trivial⟩) (F_laws_heldLogRecordS_ok N)
theorem C_laws_heldLogRecordS : Contract Tryd.prog 33 S_laws_heldLogRecordS := Contract.less (fun N : Nat => F_laws_heldLogRecordS N) C_laws_heldLogRecordS_raw heldLogRecordS_lim
theorem C_laws_FnExactLogRecords_raw (N : Nat) : Contract Tryd.prog 9 ⟨[(K_Pssiq, false)], [.bool], true, F_laws_FnExactLogRecords N⟩ :=
  have E : Env Tryd.prog Γ_laws_FnExactLogRecords := env_of tab ⟨C_laws_szLog, ⟨C_laws_toLog, ⟨C_spec_LogRecords, ⟨C_impl_LogRecords, ⟨C_laws_eqLogRecordS, ⟨C_laws_markLogRecordS, ⟨C_laws_heldLogRecordS, trivial⟩⟩⟩⟩⟩⟩⟩
  con_of (Pc := []) E mixed Tryd.func9 (by kernel_rfl) (by kernel_rfl) (by kernel_rfl) (by kernel_rfl) (fun A hA => trivial) (F_laws_FnExactLogRecords_ok N)
theorem C_laws_FnExactLogRecords : Contract Tryd.prog 9 S_laws_FnExactLogRecords := C_laws_FnExactLogRecords_raw 0
end Go.V.W
