/- What the document's small functions do: widths, pulses of a band, sizes, rows. -/
import Derived.Test.YtooogfnmhfocjaaGreatDoorSplFm
namespace SplA
open Go.Proofs.YtooogfnmhfocjaaGreatDoor.Spl Go Go.Proofs
set_option maxRecDepth 100000
set_option linter.unusedVariables false
set_option linter.unusedSimpArgs false

theorem rwidth_ok {b : Nat} {m : Mem} {Q : AV → Mem → Prop} (hb : b < 13) (hq : Q (.int .i64 (widthN b)) m) : Ok (R fn_ref13_Width [.int .i64 b]) m Q := by
  refine Ok.call (fun n => ref13_Width_eq rfl n _) ?_
  have d1 : ¬ (b : Int) < 0 := by omega
  have d2 : ¬ (12 : Int) < (b : Int) := by omega
  unfold widthN at hq
  simp -implicitDefEqProofs only [ref13_Width, ref13_Width_j0, lp_some', mc_true, mc_false, ok_ret, ok_mc, ok_snap, aBin_add, aBin_sub, aBin_mul, aBin_lss, aBin_leq, aBin_gtr, aBin_geq, aBin_eql, aBin_neq, aBin_eqlStr, aBin_neqStr, strEq_bs, aBin_eqlNil, aBin_eqlNil', aBin_neqNil, aBin_neqNil', aUn_not, aUn_neg, aNil_ptr, aOff_ptr, aInt_int, aLenStr_str, aLenS_slice, aLenS_nil, aFold_min, aFold_max, bs_size, bs_empty, Nat.zero_add, Nat.add_zero, Nat.reduceAdd, ok_load, Mem.get_set, Mem.set_set, List.getElem?_cons_zero, List.getElem?_cons_succ, Option.some.injEq, exists_eq_left', List.set_cons_zero, List.set_cons_succ, d1, d2, decide_false, Bool.false_eq_true, if_false]
  by_cases h4 : b < 4
  · have d4 : (b : Int) < 4 := by omega
    rw [if_pos h4] at hq
    simp -implicitDefEqProofs only [d4, decide_true, if_true]
    exact hq
  · have d4 : ¬ (b : Int) < 4 := by omega
    rw [if_neg h4] at hq
    by_cases h8 : b < 8
    · have d8 : (b : Int) < 8 := by omega
      rw [if_pos h8] at hq
      simp -implicitDefEqProofs only [d4, d8, decide_true, decide_false, Bool.false_eq_true, if_false, if_true]
      exact hq
    · have d8 : ¬ (b : Int) < 8 := by omega
      rw [if_neg h8, if_pos hb] at hq
      simp -implicitDefEqProofs only [d4, d8, decide_false, Bool.false_eq_true, if_false]
      exact hq
theorem rband_ok {q c : Int} {w : Nat} {m : Mem} {Q : AV → Mem → Prop} (hq : Q (.int .i64 (bandN q c w)) m) : Ok (R fn_ref15_Band [.int .i64 q, .int .i64 c, .int .i64 w]) m Q := by
  refine Ok.call (fun n => ref15_Band_eq rfl n _ _ _) ?_
  by_cases h : 0 ≤ q ∧ q ≤ 10 ∧ 1 ≤ c ∧ c ≤ 23
  · have hb : bandN q c w = timesN w * (min 8 (c + q - 8)).toNat := if_pos h
    have d1 : ¬ q < 0 := by omega
    have d2 : ¬ 10 < q := by omega
    have d3 : ¬ c < 1 := by omega
    have d4 : ¬ 23 < c := by omega
    have e1 : IntKind.i64.wrap (IntKind.i64.wrap (c + q) - 8) = c + q - 8 := by rw [IntWalk.i64_in (c + q) (by omega), IntWalk.i64_in _ (by omega)]
    have e0 : max 0 (min 8 (c + q - 8)) = (((min 8 (c + q - 8)).toNat : Nat) : Int) := by omega
    simp -implicitDefEqProofs only [ref15_Band, ref15_Band_j0, lp_some', mc_true, mc_false, ok_ret, ok_mc, ok_snap, aBin_add, aBin_sub, aBin_mul, aBin_lss, aBin_leq, aBin_gtr, aBin_geq, aBin_eql, aBin_neq, aBin_eqlStr, aBin_neqStr, strEq_bs, aBin_eqlNil, aBin_eqlNil', aBin_neqNil, aBin_neqNil', aUn_not, aUn_neg, aNil_ptr, aOff_ptr, aInt_int, aLenStr_str, aLenS_slice, aLenS_nil, aFold_min, aFold_max, bs_size, bs_empty, Nat.zero_add, Nat.add_zero, Nat.reduceAdd, ok_load, Mem.get_set, Mem.set_set, List.getElem?_cons_zero, List.getElem?_cons_succ, Option.some.injEq, exists_eq_left', List.set_cons_zero, List.set_cons_succ, d1, d2, d3, d4, decide_false, Bool.false_eq_true, if_false, e1, e0]
    rw [hb] at hq
    have h8 : (min 8 (c + q - 8)).toNat ≤ 8 := by omega
    generalize (min 8 (c + q - 8)).toNat = t at *
    have e2 : IntKind.i64.wrap (2 * (t : Int)) = ((2 * t : Nat) : Int) := by rw [IntWalk.i64_in _ (by omega)]; omega
    have e3 : IntKind.i64.wrap (3 * (t : Int)) = ((3 * t : Nat) : Int) := by rw [IntWalk.i64_in _ (by omega)]; omega
    unfold timesN at hq
    by_cases h2 : w = 2
    · subst h2
      rw [if_pos rfl, Nat.one_mul] at hq
      have z : ((2 : Nat) : Int) = 2 := rfl
      simp -implicitDefEqProofs only [z, decide_true, if_true]
      exact hq
    · have z2 : ¬ (w : Int) = 2 := by omega
      rw [if_neg h2] at hq
      by_cases h4 : w = 4
      · subst h4
        rw [if_pos rfl] at hq
        have z : ((4 : Nat) : Int) = 4 := rfl
        simp -implicitDefEqProofs only [z2, z, decide_true, decide_false, Bool.false_eq_true, if_false, if_true, e2]
        exact hq
      · have z4 : ¬ (w : Int) = 4 := by omega
        rw [if_neg h4] at hq
        by_cases h8 : w = 8
        · subst h8
          rw [if_pos rfl] at hq
          have z : ((8 : Nat) : Int) = 8 := rfl
          simp -implicitDefEqProofs only [z2, z4, z, decide_true, decide_false, Bool.false_eq_true, if_false, if_true, e3]
          exact hq
        · have z8 : ¬ (w : Int) = 8 := by omega
          rw [if_neg h8, Nat.zero_mul] at hq
          simp -implicitDefEqProofs only [z2, z4, z8, decide_false, Bool.false_eq_true, if_false]
          exact hq
  · have hb : bandN q c w = 0 := if_neg h
    rw [hb] at hq
    by_cases d1 : q < 0
    · simp -implicitDefEqProofs only [ref15_Band, ref15_Band_j0, lp_some', mc_true, mc_false, ok_ret, ok_mc, ok_snap, aBin_add, aBin_sub, aBin_mul, aBin_lss, aBin_leq, aBin_gtr, aBin_geq, aBin_eql, aBin_neq, aBin_eqlStr, aBin_neqStr, strEq_bs, aBin_eqlNil, aBin_eqlNil', aBin_neqNil, aBin_neqNil', aUn_not, aUn_neg, aNil_ptr, aOff_ptr, aInt_int, aLenStr_str, aLenS_slice, aLenS_nil, aFold_min, aFold_max, bs_size, bs_empty, Nat.zero_add, Nat.add_zero, Nat.reduceAdd, ok_load, Mem.get_set, Mem.set_set, List.getElem?_cons_zero, List.getElem?_cons_succ, Option.some.injEq, exists_eq_left', List.set_cons_zero, List.set_cons_succ, d1, decide_true, if_true]; exact hq
    · by_cases d2 : 10 < q
      · simp -implicitDefEqProofs only [ref15_Band, ref15_Band_j0, lp_some', mc_true, mc_false, ok_ret, ok_mc, ok_snap, aBin_add, aBin_sub, aBin_mul, aBin_lss, aBin_leq, aBin_gtr, aBin_geq, aBin_eql, aBin_neq, aBin_eqlStr, aBin_neqStr, strEq_bs, aBin_eqlNil, aBin_eqlNil', aBin_neqNil, aBin_neqNil', aUn_not, aUn_neg, aNil_ptr, aOff_ptr, aInt_int, aLenStr_str, aLenS_slice, aLenS_nil, aFold_min, aFold_max, bs_size, bs_empty, Nat.zero_add, Nat.add_zero, Nat.reduceAdd, ok_load, Mem.get_set, Mem.set_set, List.getElem?_cons_zero, List.getElem?_cons_succ, Option.some.injEq, exists_eq_left', List.set_cons_zero, List.set_cons_succ, d1, d2, decide_true, decide_false, Bool.false_eq_true, if_false, if_true]; exact hq
      · by_cases d3 : c < 1
        · simp -implicitDefEqProofs only [ref15_Band, ref15_Band_j0, lp_some', mc_true, mc_false, ok_ret, ok_mc, ok_snap, aBin_add, aBin_sub, aBin_mul, aBin_lss, aBin_leq, aBin_gtr, aBin_geq, aBin_eql, aBin_neq, aBin_eqlStr, aBin_neqStr, strEq_bs, aBin_eqlNil, aBin_eqlNil', aBin_neqNil, aBin_neqNil', aUn_not, aUn_neg, aNil_ptr, aOff_ptr, aInt_int, aLenStr_str, aLenS_slice, aLenS_nil, aFold_min, aFold_max, bs_size, bs_empty, Nat.zero_add, Nat.add_zero, Nat.reduceAdd, ok_load, Mem.get_set, Mem.set_set, List.getElem?_cons_zero, List.getElem?_cons_succ, Option.some.injEq, exists_eq_left', List.set_cons_zero, List.set_cons_succ, d1, d2, d3, decide_true, decide_false, Bool.false_eq_true, if_false, if_true]; exact hq
        · have d4 : 23 < c := by omega
          simp -implicitDefEqProofs only [ref15_Band, ref15_Band_j0, lp_some', mc_true, mc_false, ok_ret, ok_mc, ok_snap, aBin_add, aBin_sub, aBin_mul, aBin_lss, aBin_leq, aBin_gtr, aBin_geq, aBin_eql, aBin_neq, aBin_eqlStr, aBin_neqStr, strEq_bs, aBin_eqlNil, aBin_eqlNil', aBin_neqNil, aBin_neqNil', aUn_not, aUn_neg, aNil_ptr, aOff_ptr, aInt_int, aLenStr_str, aLenS_slice, aLenS_nil, aFold_min, aFold_max, bs_size, bs_empty, Nat.zero_add, Nat.add_zero, Nat.reduceAdd, ok_load, Mem.get_set, Mem.set_set, List.getElem?_cons_zero, List.getElem?_cons_succ, Option.some.injEq, exists_eq_left', List.set_cons_zero, List.set_cons_succ, d1, d2, d3, d4, decide_true, decide_false, Bool.false_eq_true, if_false, if_true]; exact hq

/-- How far a number is from 0; 25: too far. -/
def farN (x : Int) : Nat := if x < -24 ∨ 24 < x then 25 else x.natAbs
theorem far_ok {x : Int} {m : Mem} {Q : AV → Mem → Prop} (hq : Q (.int .i64 (farN x)) m) : Ok (R fn_ref16_far [.int .i64 x]) m Q := by
  refine Ok.call (fun n => ref16_far_eq rfl n _) ?_
  by_cases h1 : x < -24
  · have : farN x = 25 := if_pos (.inl h1)
    rw [this] at hq
    simp -implicitDefEqProofs only [ref16_far, ref16_far_j0, lp_some', mc_true, mc_false, ok_ret, ok_mc, ok_snap, aBin_add, aBin_sub, aBin_mul, aBin_lss, aBin_leq, aBin_gtr, aBin_geq, aBin_eql, aBin_neq, aBin_eqlStr, aBin_neqStr, strEq_bs, aBin_eqlNil, aBin_eqlNil', aBin_neqNil, aBin_neqNil', aUn_not, aUn_neg, aNil_ptr, aOff_ptr, aInt_int, aLenStr_str, aLenS_slice, aLenS_nil, aFold_min, aFold_max, bs_size, bs_empty, Nat.zero_add, Nat.add_zero, Nat.reduceAdd, ok_load, Mem.get_set, Mem.set_set, List.getElem?_cons_zero, List.getElem?_cons_succ, Option.some.injEq, exists_eq_left', List.set_cons_zero, List.set_cons_succ, h1, decide_true, if_true]; exact hq
  · by_cases h2 : 24 < x
    · have : farN x = 25 := if_pos (.inr h2)
      rw [this] at hq
      simp -implicitDefEqProofs only [ref16_far, ref16_far_j0, lp_some', mc_true, mc_false, ok_ret, ok_mc, ok_snap, aBin_add, aBin_sub, aBin_mul, aBin_lss, aBin_leq, aBin_gtr, aBin_geq, aBin_eql, aBin_neq, aBin_eqlStr, aBin_neqStr, strEq_bs, aBin_eqlNil, aBin_eqlNil', aBin_neqNil, aBin_neqNil', aUn_not, aUn_neg, aNil_ptr, aOff_ptr, aInt_int, aLenStr_str, aLenS_slice, aLenS_nil, aFold_min, aFold_max, bs_size, bs_empty, Nat.zero_add, Nat.add_zero, Nat.reduceAdd, ok_load, Mem.get_set, Mem.set_set, List.getElem?_cons_zero, List.getElem?_cons_succ, Option.some.injEq, exists_eq_left', List.set_cons_zero, List.set_cons_succ, h1, h2, decide_true, decide_false, Bool.false_eq_true, if_false, if_true]; exact hq
    · have : farN x = x.natAbs := if_neg (by omega)
      rw [this] at hq
      have e : max x (IntKind.i64.wrap (0 - x)) = (x.natAbs : Int) := by rw [IntWalk.i64_in _ (by omega)]; omega
      simp -implicitDefEqProofs only [ref16_far, ref16_far_j0, lp_some', mc_true, mc_false, ok_ret, ok_mc, ok_snap, aBin_add, aBin_sub, aBin_mul, aBin_lss, aBin_leq, aBin_gtr, aBin_geq, aBin_eql, aBin_neq, aBin_eqlStr, aBin_neqStr, strEq_bs, aBin_eqlNil, aBin_eqlNil', aBin_neqNil, aBin_neqNil', aUn_not, aUn_neg, aNil_ptr, aOff_ptr, aInt_int, aLenStr_str, aLenS_slice, aLenS_nil, aFold_min, aFold_max, bs_size, bs_empty, Nat.zero_add, Nat.add_zero, Nat.reduceAdd, ok_load, Mem.get_set, Mem.set_set, List.getElem?_cons_zero, List.getElem?_cons_succ, Option.some.injEq, exists_eq_left', List.set_cons_zero, List.set_cons_succ, h1, h2, decide_false, Bool.false_eq_true, if_false, e]; exact hq
def farSum : List Int → Nat
  | [] => 0
  | x :: l => farN x + farSum l
theorem farN_le (x : Int) : farN x ≤ 25 := by
  unfold farN
  split <;> omega
theorem farSum_eq : ∀ l : List Int, farSum l ≤ 24 ∨ absSum l ≤ 24 → farSum l = absSum l
  | [], _ => rfl
  | x :: l, h => by
    simp -implicitDefEqProofs only [farSum, absSum] at h ⊢
    have hx : farN x = x.natAbs := by
      unfold farN at h ⊢
      split at h
      · omega
      · rename_i h'; rw [if_neg h']
    have := farSum_eq l (by omega)
    omega
theorem rsize_ok {K : Nat → Prop} {l : List Int} {v : AV} {m : Mem} {Q : AV → Mem → Prop} (hl : IntsR K m v l) (hq : Q (sizeV (sizeN l)) m) : Ok (R fn_ref16_Size [v]) m Q := by
  refine Ok.call (fun n => ref16_Size_eq rfl n _) ?_
  by_cases h1 : 1 ≤ l.length ∧ l.length ≤ 8
  · have d1 : ¬ (l.length : Int) < 1 := by omega
    have d2 : ¬ (8 : Int) < (l.length : Int) := by omega
    simp -implicitDefEqProofs only [ref16_Size, ref16_Size_j0, lp_some', mc_true, mc_false, ok_ret, ok_mc, ok_snap, aBin_add, aBin_sub, aBin_mul, aBin_lss, aBin_leq, aBin_gtr, aBin_geq, aBin_eql, aBin_neq, aBin_eqlStr, aBin_neqStr, strEq_bs, aBin_eqlNil, aBin_eqlNil', aBin_neqNil, aBin_neqNil', aUn_not, aUn_neg, aNil_ptr, aOff_ptr, aInt_int, aLenStr_str, aLenS_slice, aLenS_nil, aFold_min, aFold_max, bs_size, bs_empty, Nat.zero_add, Nat.add_zero, Nat.reduceAdd, ok_load, Mem.get_set, Mem.set_set, List.getElem?_cons_zero, List.getElem?_cons_succ, Option.some.injEq, exists_eq_left', List.set_cons_zero, List.set_cons_succ, hl.len, d1, d2, decide_false, Bool.false_eq_true, if_false]
    refine Ok.loop (fun k z m' => m' = m ∧ ∃ (i s : Nat), k + i = l.length ∧ z = [v, .int .i64 s, .int .i64 i] ∧ s ≤ 25 * i ∧ s + farSum (l.drop i) = farSum l) ?_ (k := l.length) ⟨rfl, 0, 0, rfl, rfl, Nat.le_refl _, by simp⟩
    rintro k z m' rec ⟨rfl, i, s, hk, rfl, hs, he⟩ ih
    by_cases h2 : i < l.length
    · have d3 : (i : Int) < (l.length : Int) := by omega
      obtain ⟨x, hx, hdrop⟩ := drop_cons' h2
      obtain ⟨b', o, ce, hix, hKb, -, ⟨rfl, -⟩, -, hld⟩ := hl.at hx
      have hld0 : load? none (.ptr b' o) m' = some (.int .i64 x) := hld 0 _ rfl
      have hf := farN_le x
      rw [hdrop, farSum] at he
      simp -implicitDefEqProofs only [List.getD_cons_zero, List.getD_cons_succ, ref16_Size_l0, lp_some', mc_true, mc_false, ok_ret, ok_mc, ok_snap, aBin_add, aBin_sub, aBin_mul, aBin_lss, aBin_leq, aBin_gtr, aBin_geq, aBin_eql, aBin_neq, aBin_eqlStr, aBin_neqStr, strEq_bs, aBin_eqlNil, aBin_eqlNil', aBin_neqNil, aBin_neqNil', aUn_not, aUn_neg, aNil_ptr, aOff_ptr, aInt_int, aLenStr_str, aLenS_slice, aLenS_nil, aFold_min, aFold_max, bs_size, bs_empty, Nat.zero_add, Nat.add_zero, Nat.reduceAdd, ok_load, Mem.get_set, Mem.set_set, List.getElem?_cons_zero, List.getElem?_cons_succ, Option.some.injEq, exists_eq_left', List.set_cons_zero, List.set_cons_succ, hl.len, d3, decide_true, if_true, hix, hld0]
      refine Ok.bnd (far_ok ?_)
      have e1 : IntKind.i64.wrap ((s : Int) + (farN x : Int)) = ((s + farN x : Nat) : Int) := by rw [IntWalk.i64_in _ (by omega)]; omega
      have e2 : IntKind.i64.wrap ((i : Int) + 1) = ((i + 1 : Nat) : Int) := by rw [IntWalk.i64_in _ (by omega)]; omega
      simp -implicitDefEqProofs only [lp_some', mc_true, mc_false, ok_ret, ok_mc, ok_snap, aBin_add, aBin_sub, aBin_mul, aBin_lss, aBin_leq, aBin_gtr, aBin_geq, aBin_eql, aBin_neq, aBin_eqlStr, aBin_neqStr, strEq_bs, aBin_eqlNil, aBin_eqlNil', aBin_neqNil, aBin_neqNil', aUn_not, aUn_neg, aNil_ptr, aOff_ptr, aInt_int, aLenStr_str, aLenS_slice, aLenS_nil, aFold_min, aFold_max, bs_size, bs_empty, Nat.zero_add, Nat.add_zero, Nat.reduceAdd, ok_load, Mem.get_set, Mem.set_set, List.getElem?_cons_zero, List.getElem?_cons_succ, Option.some.injEq, exists_eq_left', List.set_cons_zero, List.set_cons_succ, e1, e2]
      exact ih (k - 1) _ _ (by omega) ⟨rfl, i + 1, s + farN x, by omega, rfl, by omega, by omega⟩
    · obtain rfl : i = l.length := by omega
      have d3 : ¬ (l.length : Int) < (l.length : Int) := by omega
      rw [List.drop_length, farSum, Nat.add_zero] at he
      subst he
      simp -implicitDefEqProofs only [List.getD_cons_zero, List.getD_cons_succ, ref16_Size_l0, lp_some', mc_true, mc_false, ok_ret, ok_mc, ok_snap, aBin_add, aBin_sub, aBin_mul, aBin_lss, aBin_leq, aBin_gtr, aBin_geq, aBin_eql, aBin_neq, aBin_eqlStr, aBin_neqStr, strEq_bs, aBin_eqlNil, aBin_eqlNil', aBin_neqNil, aBin_neqNil', aUn_not, aUn_neg, aNil_ptr, aOff_ptr, aInt_int, aLenStr_str, aLenS_slice, aLenS_nil, aFold_min, aFold_max, bs_size, bs_empty, Nat.zero_add, Nat.add_zero, Nat.reduceAdd, ok_load, Mem.get_set, Mem.set_set, List.getElem?_cons_zero, List.getElem?_cons_succ, Option.some.injEq, exists_eq_left', List.set_cons_zero, List.set_cons_succ, hl.len, d3, decide_false, Bool.false_eq_true, if_false]
      by_cases h3 : farSum l ≤ 24
      · have e := farSum_eq l (.inl h3)
        have : sizeN l = some (absSum l) := if_pos ⟨h1.1, h1.2, by omega⟩
        rw [this, ← e] at hq
        have d4 : ¬ (24 : Int) < (farSum l : Int) := by omega
        simp -implicitDefEqProofs only [d4, decide_false, Bool.false_eq_true, if_false]
        exact hq
      · have : sizeN l = none := if_neg (fun h => h3 (by rw [farSum_eq l (.inr h.2.2)]; exact h.2.2))
        rw [this] at hq
        have d4 : (24 : Int) < (farSum l : Int) := by omega
        simp -implicitDefEqProofs only [d4, decide_true, if_true]
        exact hq
  · have : sizeN l = none := if_neg (fun h => h1 ⟨h.1, h.2.1⟩)
    rw [this] at hq
    by_cases h0 : l.length = 0
    · have d1 : (l.length : Int) < 1 := by omega
      simp -implicitDefEqProofs only [ref16_Size, ref16_Size_j0, lp_some', mc_true, mc_false, ok_ret, ok_mc, ok_snap, aBin_add, aBin_sub, aBin_mul, aBin_lss, aBin_leq, aBin_gtr, aBin_geq, aBin_eql, aBin_neq, aBin_eqlStr, aBin_neqStr, strEq_bs, aBin_eqlNil, aBin_eqlNil', aBin_neqNil, aBin_neqNil', aUn_not, aUn_neg, aNil_ptr, aOff_ptr, aInt_int, aLenStr_str, aLenS_slice, aLenS_nil, aFold_min, aFold_max, bs_size, bs_empty, Nat.zero_add, Nat.add_zero, Nat.reduceAdd, ok_load, Mem.get_set, Mem.set_set, List.getElem?_cons_zero, List.getElem?_cons_succ, Option.some.injEq, exists_eq_left', List.set_cons_zero, List.set_cons_succ, hl.len, d1, decide_true, if_true]
      exact hq
    · have d1 : ¬ (l.length : Int) < 1 := by omega
      have d2 : (8 : Int) < (l.length : Int) := by omega
      simp -implicitDefEqProofs only [ref16_Size, ref16_Size_j0, lp_some', mc_true, mc_false, ok_ret, ok_mc, ok_snap, aBin_add, aBin_sub, aBin_mul, aBin_lss, aBin_leq, aBin_gtr, aBin_geq, aBin_eql, aBin_neq, aBin_eqlStr, aBin_neqStr, strEq_bs, aBin_eqlNil, aBin_eqlNil', aBin_neqNil, aBin_neqNil', aUn_not, aUn_neg, aNil_ptr, aOff_ptr, aInt_int, aLenStr_str, aLenS_slice, aLenS_nil, aFold_min, aFold_max, bs_size, bs_empty, Nat.zero_add, Nat.add_zero, Nat.reduceAdd, ok_load, Mem.get_set, Mem.set_set, List.getElem?_cons_zero, List.getElem?_cons_succ, Option.some.injEq, exists_eq_left', List.set_cons_zero, List.set_cons_succ, hl.len, d1, d2, decide_false, decide_true, Bool.false_eq_true, if_false, if_true]
      exact hq

theorem rwithin_ok {K : Nat → Prop} {l : List Int} {v : AV} {m : Mem} {Q : AV → Mem → Prop} (hl : IntsR K m v l) (hlen : l.length ≤ 1000)
    (hq : Q (.bool (decide (∀ x ∈ l, 0 ≤ x ∧ x ≤ 23))) m) : Ok (R fn_ref01_Within [v, .int .i64 0, .int .i64 23]) m Q := by
  refine Ok.call (fun n => ref01_Within_eq rfl n _ _ _) ?_
  simp -implicitDefEqProofs only [ref01_Within]
  refine Ok.loop (fun k z m' => m' = m ∧ ∃ (i : Nat) (a b c d e f : AV), k + i = l.length ∧ z = [v, .int .i64 0, .int .i64 23, .int .i64 i, a, b, c, d, e, f] ∧ ((∀ x ∈ l, 0 ≤ x ∧ x ≤ 23) ↔ ∀ x ∈ l.drop i, 0 ≤ x ∧ x ≤ 23)) ?_ (k := l.length) ⟨rfl, 0, _, _, _, _, _, _, rfl, rfl, by simp⟩
  rintro k z m' rec ⟨rfl, i, a, b, c, d, e, f, hk, rfl, he⟩ ih
  by_cases h2 : i < l.length
  · have d3 : (i : Int) < (l.length : Int) := by omega
    obtain ⟨x, hx, hdrop⟩ := drop_cons' h2
    obtain ⟨b', o, ce, hix, hKb, -, ⟨rfl, -⟩, -, hld⟩ := hl.at hx
    have hld0 : load? none (.ptr b' o) m' = some (.int .i64 x) := hld 0 _ rfl
    rw [hdrop, List.forall_mem_cons] at he
    simp -implicitDefEqProofs only [List.getD_cons_zero, List.getD_cons_succ, ref01_Within_l0, lp_some', mc_true, mc_false, ok_ret, ok_mc, ok_snap, aBin_add, aBin_sub, aBin_mul, aBin_lss, aBin_leq, aBin_gtr, aBin_geq, aBin_eql, aBin_neq, aBin_eqlStr, aBin_neqStr, strEq_bs, aBin_eqlNil, aBin_eqlNil', aBin_neqNil, aBin_neqNil', aUn_not, aUn_neg, aNil_ptr, aOff_ptr, aInt_int, aLenStr_str, aLenS_slice, aLenS_nil, aFold_min, aFold_max, bs_size, bs_empty, Nat.zero_add, Nat.add_zero, Nat.reduceAdd, ok_load, Mem.get_set, Mem.set_set, List.getElem?_cons_zero, List.getElem?_cons_succ, Option.some.injEq, exists_eq_left', List.set_cons_zero, List.set_cons_succ, hl.len, d3, decide_true, if_true, hix, hld0]
    by_cases h3 : x < 0
    · have : ¬ ∀ x ∈ l, 0 ≤ x ∧ x ≤ 23 := fun h => by have := (he.1 h).1; omega
      rw [decide_eq_false this] at hq
      simp -implicitDefEqProofs only [ref01_Within_j0, lp_some', mc_true, mc_false, ok_ret, ok_mc, ok_snap, aBin_add, aBin_sub, aBin_mul, aBin_lss, aBin_leq, aBin_gtr, aBin_geq, aBin_eql, aBin_neq, aBin_eqlStr, aBin_neqStr, strEq_bs, aBin_eqlNil, aBin_eqlNil', aBin_neqNil, aBin_neqNil', aUn_not, aUn_neg, aNil_ptr, aOff_ptr, aInt_int, aLenStr_str, aLenS_slice, aLenS_nil, aFold_min, aFold_max, bs_size, bs_empty, Nat.zero_add, Nat.add_zero, Nat.reduceAdd, ok_load, Mem.get_set, Mem.set_set, List.getElem?_cons_zero, List.getElem?_cons_succ, Option.some.injEq, exists_eq_left', List.set_cons_zero, List.set_cons_succ, h3, decide_true, if_true]
      exact hq
    · by_cases h4 : 23 < x
      · have : ¬ ∀ x ∈ l, 0 ≤ x ∧ x ≤ 23 := fun h => by have := (he.1 h).1; omega
        rw [decide_eq_false this] at hq
        simp -implicitDefEqProofs only [ref01_Within_j0, lp_some', mc_true, mc_false, ok_ret, ok_mc, ok_snap, aBin_add, aBin_sub, aBin_mul, aBin_lss, aBin_leq, aBin_gtr, aBin_geq, aBin_eql, aBin_neq, aBin_eqlStr, aBin_neqStr, strEq_bs, aBin_eqlNil, aBin_eqlNil', aBin_neqNil, aBin_neqNil', aUn_not, aUn_neg, aNil_ptr, aOff_ptr, aInt_int, aLenStr_str, aLenS_slice, aLenS_nil, aFold_min, aFold_max, bs_size, bs_empty, Nat.zero_add, Nat.add_zero, Nat.reduceAdd, ok_load, Mem.get_set, Mem.set_set, List.getElem?_cons_zero, List.getElem?_cons_succ, Option.some.injEq, exists_eq_left', List.set_cons_zero, List.set_cons_succ, h3, h4, decide_true, decide_false, Bool.false_eq_true, if_false, if_true, hix, hld0]
        exact hq
      · have e2 : IntKind.i64.wrap ((i : Int) + 1) = ((i + 1 : Nat) : Int) := by rw [IntWalk.i64_in _ (by omega)]; omega
        simp -implicitDefEqProofs only [ref01_Within_j0, lp_some', mc_true, mc_false, ok_ret, ok_mc, ok_snap, aBin_add, aBin_sub, aBin_mul, aBin_lss, aBin_leq, aBin_gtr, aBin_geq, aBin_eql, aBin_neq, aBin_eqlStr, aBin_neqStr, strEq_bs, aBin_eqlNil, aBin_eqlNil', aBin_neqNil, aBin_neqNil', aUn_not, aUn_neg, aNil_ptr, aOff_ptr, aInt_int, aLenStr_str, aLenS_slice, aLenS_nil, aFold_min, aFold_max, bs_size, bs_empty, Nat.zero_add, Nat.add_zero, Nat.reduceAdd, ok_load, Mem.get_set, Mem.set_set, List.getElem?_cons_zero, List.getElem?_cons_succ, Option.some.injEq, exists_eq_left', List.set_cons_zero, List.set_cons_succ, h3, h4, decide_false, Bool.false_eq_true, if_false, e2, hix, hld0]
        exact ih (k - 1) _ _ (by omega) ⟨rfl, i + 1, _, _, _, _, _, _, by omega, rfl, he.trans ⟨fun h => h.2, fun h => ⟨by omega, h⟩⟩⟩
  · obtain rfl : i = l.length := by omega
    have d3 : ¬ (l.length : Int) < (l.length : Int) := by omega
    have hall := he.2 (by rw [List.drop_length]; intro x hx; simp at hx)
    rw [decide_eq_true hall] at hq
    simp -implicitDefEqProofs only [List.getD_cons_zero, List.getD_cons_succ, ref01_Within_l0, lp_some', mc_true, mc_false, ok_ret, ok_mc, ok_snap, aBin_add, aBin_sub, aBin_mul, aBin_lss, aBin_leq, aBin_gtr, aBin_geq, aBin_eql, aBin_neq, aBin_eqlStr, aBin_neqStr, strEq_bs, aBin_eqlNil, aBin_eqlNil', aBin_neqNil, aBin_neqNil', aUn_not, aUn_neg, aNil_ptr, aOff_ptr, aInt_int, aLenStr_str, aLenS_slice, aLenS_nil, aFold_min, aFold_max, bs_size, bs_empty, Nat.zero_add, Nat.add_zero, Nat.reduceAdd, ok_load, Mem.get_set, Mem.set_set, List.getElem?_cons_zero, List.getElem?_cons_succ, Option.some.injEq, exists_eq_left', List.set_cons_zero, List.set_cons_succ, hl.len, d3, decide_false, Bool.false_eq_true, if_false]
    exact hq
theorem eright14_ok {K : Nat → Prop} {l : List Int} {v : AV} {m : Mem} {Q : AV → Mem → Prop} (hl : IntsR K m v l)
    (hq : Q (.bool (decide (RightP l))) m) : Ok (R fn_ref14_Right [v]) m Q := by
  refine Ok.call (fun n => ref14_Right_eq rfl n _) ?_
  simp -implicitDefEqProofs only [ref14_Right, lp_some', mc_true, mc_false, ok_ret, ok_mc, ok_snap, aBin_add, aBin_sub, aBin_mul, aBin_lss, aBin_leq, aBin_gtr, aBin_geq, aBin_eql, aBin_neq, aBin_eqlStr, aBin_neqStr, strEq_bs, aBin_eqlNil, aBin_eqlNil', aBin_neqNil, aBin_neqNil', aUn_not, aUn_neg, aNil_ptr, aOff_ptr, aInt_int, aLenStr_str, aLenS_slice, aLenS_nil, aFold_min, aFold_max, bs_size, bs_empty, Nat.zero_add, Nat.add_zero, Nat.reduceAdd, ok_load, Mem.get_set, Mem.set_set, List.getElem?_cons_zero, List.getElem?_cons_succ, Option.some.injEq, exists_eq_left', List.set_cons_zero, List.set_cons_succ, hl.len]
  by_cases h : l.length = 13
  · have d : (l.length : Int) = 13 := by omega
    have e : decide (RightP l) = decide (∀ x ∈ l, 0 ≤ x ∧ x ≤ 23) := decide_eq_decide.2 ⟨fun h => h.2, fun h' => ⟨h, h'⟩⟩
    rw [e] at hq
    simp -implicitDefEqProofs only [d, decide_true, if_true]
    refine Ok.bnd (rwithin_ok hl (by omega) ?_)
    simp -implicitDefEqProofs only [ref14_Right_j0, lp_some', mc_true, mc_false, ok_ret, ok_mc, ok_snap, aBin_add, aBin_sub, aBin_mul, aBin_lss, aBin_leq, aBin_gtr, aBin_geq, aBin_eql, aBin_neq, aBin_eqlStr, aBin_neqStr, strEq_bs, aBin_eqlNil, aBin_eqlNil', aBin_neqNil, aBin_neqNil', aUn_not, aUn_neg, aNil_ptr, aOff_ptr, aInt_int, aLenStr_str, aLenS_slice, aLenS_nil, aFold_min, aFold_max, bs_size, bs_empty, Nat.zero_add, Nat.add_zero, Nat.reduceAdd, ok_load, Mem.get_set, Mem.set_set, List.getElem?_cons_zero, List.getElem?_cons_succ, Option.some.injEq, exists_eq_left', List.set_cons_zero, List.set_cons_succ]
    exact hq
  · have d : ¬ (l.length : Int) = 13 := by omega
    rw [decide_eq_false (fun h' => h h'.1)] at hq
    simp -implicitDefEqProofs only [d, decide_false, Bool.false_eq_true, if_false, ref14_Right_j0, lp_some', mc_true, mc_false, ok_ret, ok_mc, ok_snap, aBin_add, aBin_sub, aBin_mul, aBin_lss, aBin_leq, aBin_gtr, aBin_geq, aBin_eql, aBin_neq, aBin_eqlStr, aBin_neqStr, strEq_bs, aBin_eqlNil, aBin_eqlNil', aBin_neqNil, aBin_neqNil', aUn_not, aUn_neg, aNil_ptr, aOff_ptr, aInt_int, aLenStr_str, aLenS_slice, aLenS_nil, aFold_min, aFold_max, bs_size, bs_empty, Nat.zero_add, Nat.add_zero, Nat.reduceAdd, ok_load, Mem.get_set, Mem.set_set, List.getElem?_cons_zero, List.getElem?_cons_succ, Option.some.injEq, exists_eq_left', List.set_cons_zero, List.set_cons_succ]
    exact hq
theorem rexpected_ok {K L : Nat → Prop} {intra : Bool} {p c : List Int} {v w : AV} {b : Nat} {last : Int} {m : Mem} {Q : AV → Mem → Prop} (hp : IntsR K m v p) (hc : IntsR L m w c) (hr : intra = true ∨ RightP p) (hb : b < 13) (hl : 0 < b → c[b - 1]? = some last) (hla : 0 ≤ last ∧ last ≤ 23)
    (hq : Q (.int .i64 (expN intra p b last)) m) : Ok (R fn_ref14_expected [.bool intra, v, w, .int .i64 b]) m Q := by
  refine Ok.call (fun n => ref14_expected_eq rfl n _ _ _ _) ?_
  have e1 : IntKind.i64.wrap ((b : Int) - 1) = (b : Int) - 1 := IntWalk.i64_in _ (by omega)
  have hback : 0 < b → ∃ b' o, aIdxS 1 w (.int .i64 ((b : Int) - 1)) = some (.ptr b' o) ∧ load? none (.ptr b' o) m = some (.int .i64 last) := by
    intro h
    obtain ⟨b', o, ce, hix, -, -, ⟨rfl, -⟩, -, hld⟩ := hc.at (hl h)
    have := hix .i64
    rw [show ((b - 1 : Nat) : Int) = (b : Int) - 1 by omega] at this
    exact ⟨b', o, this, hld 0 _ rfl⟩
  cases intra with
  | true =>
    by_cases h : b = 0
    · subst h
      simp -implicitDefEqProofs only [ref14_expected, ref14_expected_j0, lp_some', mc_true, mc_false, ok_ret, ok_mc, ok_snap, aBin_add, aBin_sub, aBin_mul, aBin_lss, aBin_leq, aBin_gtr, aBin_geq, aBin_eql, aBin_neq, aBin_eqlStr, aBin_neqStr, strEq_bs, aBin_eqlNil, aBin_eqlNil', aBin_neqNil, aBin_neqNil', aUn_not, aUn_neg, aNil_ptr, aOff_ptr, aInt_int, aLenStr_str, aLenS_slice, aLenS_nil, aFold_min, aFold_max, bs_size, bs_empty, Nat.zero_add, Nat.add_zero, Nat.reduceAdd, ok_load, Mem.get_set, Mem.set_set, List.getElem?_cons_zero, List.getElem?_cons_succ, Option.some.injEq, exists_eq_left', List.set_cons_zero, List.set_cons_succ, if_true, Int.natCast_zero, decide_true]
      exact hq
    · have d : ¬ (b : Int) = 0 := by omega
      obtain ⟨b', o, k1, k2⟩ := hback (by omega)
      simp -implicitDefEqProofs only [expN, h, if_true, if_false] at hq
      simp -implicitDefEqProofs only [ref14_expected, ref14_expected_j0, lp_some', mc_true, mc_false, ok_ret, ok_mc, ok_snap, aBin_add, aBin_sub, aBin_mul, aBin_lss, aBin_leq, aBin_gtr, aBin_geq, aBin_eql, aBin_neq, aBin_eqlStr, aBin_neqStr, strEq_bs, aBin_eqlNil, aBin_eqlNil', aBin_neqNil, aBin_neqNil', aUn_not, aUn_neg, aNil_ptr, aOff_ptr, aInt_int, aLenStr_str, aLenS_slice, aLenS_nil, aFold_min, aFold_max, bs_size, bs_empty, Nat.zero_add, Nat.add_zero, Nat.reduceAdd, ok_load, Mem.get_set, Mem.set_set, List.getElem?_cons_zero, List.getElem?_cons_succ, Option.some.injEq, exists_eq_left', List.set_cons_zero, List.set_cons_succ, if_true, d, decide_false, Bool.false_eq_true, if_false, e1, k1, k2]
      exact hq
  | false =>
    have hp' : RightP p := by simpa using hr
    have hx0 : p[0]? = some (p.getD 0 0) := by rw [List.getD_eq_getElem?_getD, List.getElem?_eq_getElem (by rw [hp'.1]; decide)]; rfl
    have hxb : p[b]? = some (p.getD b 0) := by rw [List.getD_eq_getElem?_getD, List.getElem?_eq_getElem (by rw [hp'.1]; exact hb)]; rfl
    obtain ⟨b0, o0, _, hix0, -, -, ⟨rfl, -⟩, -, hld0⟩ := hp.at hx0
    obtain ⟨b1, o1, _, hix1, -, -, ⟨rfl, -⟩, -, hld1⟩ := hp.at hxb
    have l0 : load? none (.ptr b0 o0) m = some (.int .i64 (p.getD 0 0)) := hld0 0 _ rfl
    have l1 : load? none (.ptr b1 o1) m = some (.int .i64 (p.getD b 0)) := hld1 0 _ rfl
    have i0 := hix0 .i64
    simp -implicitDefEqProofs only [Int.natCast_zero] at i0
    have r0 := hp'.get 0
    have r1 := hp'.get b
    have hj : ∀ z : Int, 0 ≤ z ∧ z ≤ 23 → Q (.int .i64 ((3 * p.getD b 0 + z) / 4)) m → Ok (fun n => ref14_expected_j1 (fcall Tryz.prog ext1 n) n v (.int .i64 b) (.int .i64 z)) m Q := by
      intro z hz hk
      have e1 : IntKind.i64.wrap (3 * p.getD b 0) = 3 * p.getD b 0 := IntWalk.i64_in _ (by omega)
      have e2 : IntKind.i64.wrap (3 * p.getD b 0 + z) = 3 * p.getD b 0 + z := IntWalk.i64_in _ (by omega)
      have e3 : aBin .quo [] (.int .i64 (3 * p.getD b 0 + z)) (.int .i64 4) = some (.int .i64 ((3 * p.getD b 0 + z) / 4)) := by
        rw [aBin_quo _ _ _ _ (by decide), Int.tdiv_eq_ediv_of_nonneg (by omega), IntWalk.i64_in _ (by omega)]
      simp -implicitDefEqProofs only [ref14_expected_j1, lp_some', mc_true, mc_false, ok_ret, ok_mc, ok_snap, aBin_add, aBin_sub, aBin_mul, aBin_lss, aBin_leq, aBin_gtr, aBin_geq, aBin_eql, aBin_neq, aBin_eqlStr, aBin_neqStr, strEq_bs, aBin_eqlNil, aBin_eqlNil', aBin_neqNil, aBin_neqNil', aUn_not, aUn_neg, aNil_ptr, aOff_ptr, aInt_int, aLenStr_str, aLenS_slice, aLenS_nil, aFold_min, aFold_max, bs_size, bs_empty, Nat.zero_add, Nat.add_zero, Nat.reduceAdd, ok_load, Mem.get_set, Mem.set_set, List.getElem?_cons_zero, List.getElem?_cons_succ, Option.some.injEq, exists_eq_left', List.set_cons_zero, List.set_cons_succ, hix1, l1, e1, e2, e3]
      exact hk
    by_cases h : b = 0
    · subst h
      simp -implicitDefEqProofs only [expN, Bool.false_eq_true, if_false, if_true] at hq
      simp -implicitDefEqProofs only [ref14_expected, ref14_expected_j0, lp_some', mc_true, mc_false, ok_ret, ok_mc, ok_snap, aBin_add, aBin_sub, aBin_mul, aBin_lss, aBin_leq, aBin_gtr, aBin_geq, aBin_eql, aBin_neq, aBin_eqlStr, aBin_neqStr, strEq_bs, aBin_eqlNil, aBin_eqlNil', aBin_neqNil, aBin_neqNil', aUn_not, aUn_neg, aNil_ptr, aOff_ptr, aInt_int, aLenStr_str, aLenS_slice, aLenS_nil, aFold_min, aFold_max, bs_size, bs_empty, Nat.zero_add, Nat.add_zero, Nat.reduceAdd, ok_load, Mem.get_set, Mem.set_set, List.getElem?_cons_zero, List.getElem?_cons_succ, Option.some.injEq, exists_eq_left', List.set_cons_zero, List.set_cons_succ, Bool.false_eq_true, if_false, i0, l0, Int.natCast_zero, Int.lt_irrefl, decide_false]
      exact hj _ r0 hq
    · have d : (0 : Int) < (b : Int) := by omega
      obtain ⟨b', o, k1, k2⟩ := hback (by omega)
      simp -implicitDefEqProofs only [expN, h, Bool.false_eq_true, if_false] at hq
      simp -implicitDefEqProofs only [ref14_expected, ref14_expected_j0, lp_some', mc_true, mc_false, ok_ret, ok_mc, ok_snap, aBin_add, aBin_sub, aBin_mul, aBin_lss, aBin_leq, aBin_gtr, aBin_geq, aBin_eql, aBin_neq, aBin_eqlStr, aBin_neqStr, strEq_bs, aBin_eqlNil, aBin_eqlNil', aBin_neqNil, aBin_neqNil', aUn_not, aUn_neg, aNil_ptr, aOff_ptr, aInt_int, aLenStr_str, aLenS_slice, aLenS_nil, aFold_min, aFold_max, bs_size, bs_empty, Nat.zero_add, Nat.add_zero, Nat.reduceAdd, ok_load, Mem.get_set, Mem.set_set, List.getElem?_cons_zero, List.getElem?_cons_succ, Option.some.injEq, exists_eq_left', List.set_cons_zero, List.set_cons_succ, Bool.false_eq_true, if_false, i0, l0, d, decide_true, if_true, e1, k1, k2]
      exact hj _ hla hq

theorem rdeltas_ok {K L : Nat → Prop} {intra : Bool} {p c : List Int} {v w : AV} {m : Mem} {Q : AV → Mem → Prop} (hc : IntsR K m w c) (hK : ∀ b, K b → b < m.next) (hp : IntsR L m v p) (hL : ∀ b, L b → b < m.next) (hbn : m.base ≤ m.next)
    (hq : ∀ m' u, Same m m' → IntsR (fun b => m.next ≤ b ∧ b < m'.next) m' u (deltasO intra p c) → Q u m') : Ok (R fn_ref14_Deltas [.bool intra, v, w]) m Q := by
  refine Ok.call (fun n => ref14_Deltas_eq rfl n _ _ _) ?_
  simp -implicitDefEqProofs only [ref14_Deltas]
  refine Ok.bnd (eright14_ok hc ?_)
  have hnone : ¬ DeltasP intra p c → Q .nilslice m := fun h => hq m _ (Same.refl m) (.inl ⟨.inl rfl, if_neg h⟩)
  have hsome : DeltasP intra p c → Ok (fun n => ref14_Deltas_j0 (fcall Tryz.prog ext1 n) n (.bool intra) v w (.bool false)) m Q := by
    intro hD
    simp -implicitDefEqProofs only [ref14_Deltas_j0, mc_false]
    have h13 := hD.1.1
    have hdl : deltasO intra p c = deltasN intra p 0 0 c := if_pos hD
    rw [hdl] at hq
    refine Ok.loop (fun k z m' => ∃ (i fz : Nat) (last : Int) (done : List Int) (u : AV), k + i = 13 ∧ z = [.bool intra, v, w, u, .int .i64 i] ∧ done.length = i ∧ (0 ≤ last ∧ last ≤ 23) ∧ (0 < i → c[i - 1]? = some last) ∧ Buf T_int fz m' u (done.map fun x => .int .i64 x) ∧ (∀ j, own u j → m.next ≤ j) ∧ done ++ deltasN intra p i last (c.drop i) = deltasN intra p 0 0 c ∧ Same m m') ?_ (k := 13) ⟨0, 0, 0, [], .nilslice, rfl, rfl, rfl, by decide, fun h => absurd h (by decide), .inl ⟨rfl, rfl⟩, fun j h => h.elim, rfl, Same.refl m⟩
    rintro k z m' rec ⟨i, fz, last, done, u, hk, rfl, hdn, hla, hlast, hB, hown, he, hS⟩ ih
    have hc' := hc.keep (m' := m') (fun b hb => hS.get (hK b hb))
    have hp' := hp.keep (m' := m') (fun b hb => hS.get (hL b hb))
    by_cases h2 : i < 13
    · have d3 : (i : Int) < 13 := by omega
      obtain ⟨x, hx, hdrop⟩ := drop_cons' (l := c) (i := i) (by omega)
      obtain ⟨b', o, ce, hix, hKb, -, ⟨rfl, -⟩, -, hld⟩ := hc'.at hx
      have hld0 : load? none (.ptr b' o) m' = some (.int .i64 x) := hld 0 _ rfl
      have hx23 := hD.1.2 x (List.mem_of_getElem? hx)
      have hex := expN_in (b := i) hD.2 hla
      rw [hdrop, deltasN] at he
      simp -implicitDefEqProofs only [List.getD_cons_zero, List.getD_cons_succ, ref14_Deltas_l0, lp_some', mc_true, mc_false, ok_ret, ok_mc, ok_snap, aBin_add, aBin_sub, aBin_mul, aBin_lss, aBin_leq, aBin_gtr, aBin_geq, aBin_eql, aBin_neq, aBin_eqlStr, aBin_neqStr, strEq_bs, aBin_eqlNil, aBin_eqlNil', aBin_neqNil, aBin_neqNil', aUn_not, aUn_neg, aNil_ptr, aOff_ptr, aInt_int, aLenStr_str, aLenS_slice, aLenS_nil, aFold_min, aFold_max, bs_size, bs_empty, Nat.zero_add, Nat.add_zero, Nat.reduceAdd, ok_load, Mem.get_set, Mem.set_set, List.getElem?_cons_zero, List.getElem?_cons_succ, Option.some.injEq, exists_eq_left', List.set_cons_zero, List.set_cons_succ, d3, decide_true, if_true, hix, hld0]
      refine Ok.bnd (rexpected_ok hp' hc' hD.2 h2 hlast hla ?_)
      have s1 : ∀ k : M AV, same none (.ptr b' o) (.int .i64 x) m' k = k := fun k => same_load hld0 (by simp [AV.eqb]) k
      have e1 : IntKind.i64.wrap (x - expN intra p i last) = x - expN intra p i last := IntWalk.i64_in _ (by omega)
      have e2 : IntKind.i64.wrap ((i : Int) + 1) = ((i + 1 : Nat) : Int) := by rw [IntWalk.i64_in _ (by omega)]; omega
      have e3 : aFill (fun i => some (i * 1, 1)) [.int .i64 0] [(0, .int .i64 (x - expN intra p i last))] = some [.int .i64 (x - expN intra p i last)] := aFill1 _ _ (by simp)
      simp -implicitDefEqProofs only [lp_some', mc_true, mc_false, ok_ret, ok_mc, ok_snap, aBin_add, aBin_sub, aBin_mul, aBin_lss, aBin_leq, aBin_gtr, aBin_geq, aBin_eql, aBin_neq, aBin_eqlStr, aBin_neqStr, strEq_bs, aBin_eqlNil, aBin_eqlNil', aBin_neqNil, aBin_neqNil', aUn_not, aUn_neg, aNil_ptr, aOff_ptr, aInt_int, aLenStr_str, aLenS_slice, aLenS_nil, aFold_min, aFold_max, bs_size, bs_empty, Nat.zero_add, Nat.add_zero, Nat.reduceAdd, ok_load, Mem.get_set, Mem.set_set, List.getElem?_cons_zero, List.getElem?_cons_succ, Option.some.injEq, exists_eq_left', List.set_cons_zero, List.set_cons_succ, s1, e1, e3, ok_allocS, ok_snap]
      refine ok_append1 hB (hS.bn hbn) (by simp) (by simp; omega) fun m2 u2 fz2 k1 k2 k3 k4 => ?_
      simp -implicitDefEqProofs only [lp_some', mc_true, mc_false, ok_ret, ok_mc, ok_snap, aBin_add, aBin_sub, aBin_mul, aBin_lss, aBin_leq, aBin_gtr, aBin_geq, aBin_eql, aBin_neq, aBin_eqlStr, aBin_neqStr, strEq_bs, aBin_eqlNil, aBin_eqlNil', aBin_neqNil, aBin_neqNil', aUn_not, aUn_neg, aNil_ptr, aOff_ptr, aInt_int, aLenStr_str, aLenS_slice, aLenS_nil, aFold_min, aFold_max, bs_size, bs_empty, Nat.zero_add, Nat.add_zero, Nat.reduceAdd, ok_load, Mem.get_set, Mem.set_set, List.getElem?_cons_zero, List.getElem?_cons_succ, Option.some.injEq, exists_eq_left', List.set_cons_zero, List.set_cons_succ, e2, ok_snap]
      refine ih (k - 1) _ _ (by omega) ⟨i + 1, fz2, x, done ++ [x - expN intra p i last], u2, by omega, rfl, by simp [hdn], hx23, fun _ => hx, by simpa using k2, fun j hj => Nat.le_trans hS.next (k3 j hj), by rw [List.append_assoc]; exact he, ⟨k1.base.trans hS.base, Nat.le_trans hS.next k1.next, fun b hb _ => (k1.get b (Nat.lt_of_lt_of_le hb hS.next) (fun h => by have := hown b h; omega)).trans (hS.get hb)⟩⟩
    · obtain rfl : i = 13 := by omega
      have d3 : ¬ ((13 : Nat) : Int) < 13 := by decide
      have hnil : c.drop 13 = [] := List.drop_eq_nil_of_le (by omega)
      rw [hnil, deltasN, List.append_nil] at he
      subst he
      simp -implicitDefEqProofs only [List.getD_cons_zero, List.getD_cons_succ, ref14_Deltas_l0, lp_some', mc_true, mc_false, ok_ret, ok_mc, ok_snap, aBin_add, aBin_sub, aBin_mul, aBin_lss, aBin_leq, aBin_gtr, aBin_geq, aBin_eql, aBin_neq, aBin_eqlStr, aBin_neqStr, strEq_bs, aBin_eqlNil, aBin_eqlNil', aBin_neqNil, aBin_neqNil', aUn_not, aUn_neg, aNil_ptr, aOff_ptr, aInt_int, aLenStr_str, aLenS_slice, aLenS_nil, aFold_min, aFold_max, bs_size, bs_empty, Nat.zero_add, Nat.add_zero, Nat.reduceAdd, ok_load, Mem.get_set, Mem.set_set, List.getElem?_cons_zero, List.getElem?_cons_succ, Option.some.injEq, exists_eq_left', List.set_cons_zero, List.set_cons_succ, d3, decide_false, Bool.false_eq_true, if_false]
      refine hq m' _ hS (buf_ints hB (fun j hj => ⟨hown j hj, (hB.own hj).2⟩) fun x hx => ?_)
      have := deltasN_in hD.2 (b := 0) (last := 0) hD.1.2 (by decide) x hx
      exact wf_i64 (by omega)
  by_cases h1 : RightP c
  · simp -implicitDefEqProofs only [h1, decide_true, lp_some', mc_true, mc_false, ok_ret, ok_mc, ok_snap, aBin_add, aBin_sub, aBin_mul, aBin_lss, aBin_leq, aBin_gtr, aBin_geq, aBin_eql, aBin_neq, aBin_eqlStr, aBin_neqStr, strEq_bs, aBin_eqlNil, aBin_eqlNil', aBin_neqNil, aBin_neqNil', aUn_not, aUn_neg, aNil_ptr, aOff_ptr, aInt_int, aLenStr_str, aLenS_slice, aLenS_nil, aFold_min, aFold_max, bs_size, bs_empty, Nat.zero_add, Nat.add_zero, Nat.reduceAdd, ok_load, Mem.get_set, Mem.set_set, List.getElem?_cons_zero, List.getElem?_cons_succ, Option.some.injEq, exists_eq_left', List.set_cons_zero, List.set_cons_succ, Bool.not_true, Bool.false_eq_true, if_false]
    cases intra with
    | true =>
      simp -implicitDefEqProofs only [Bool.not_true, Bool.false_eq_true, if_false]
      exact hsome ⟨h1, .inl rfl⟩
    | false =>
      simp -implicitDefEqProofs only [Bool.not_false, if_true]
      refine Ok.bnd (eright14_ok hp ?_)
      by_cases h2 : RightP p
      · simp -implicitDefEqProofs only [h2, decide_true, lp_some', mc_true, mc_false, ok_ret, ok_mc, ok_snap, aBin_add, aBin_sub, aBin_mul, aBin_lss, aBin_leq, aBin_gtr, aBin_geq, aBin_eql, aBin_neq, aBin_eqlStr, aBin_neqStr, strEq_bs, aBin_eqlNil, aBin_eqlNil', aBin_neqNil, aBin_neqNil', aUn_not, aUn_neg, aNil_ptr, aOff_ptr, aInt_int, aLenStr_str, aLenS_slice, aLenS_nil, aFold_min, aFold_max, bs_size, bs_empty, Nat.zero_add, Nat.add_zero, Nat.reduceAdd, ok_load, Mem.get_set, Mem.set_set, List.getElem?_cons_zero, List.getElem?_cons_succ, Option.some.injEq, exists_eq_left', List.set_cons_zero, List.set_cons_succ, Bool.not_true]
        exact hsome ⟨h1, .inr h2⟩
      · simp -implicitDefEqProofs only [h2, decide_false, lp_some', mc_true, mc_false, ok_ret, ok_mc, ok_snap, aBin_add, aBin_sub, aBin_mul, aBin_lss, aBin_leq, aBin_gtr, aBin_geq, aBin_eql, aBin_neq, aBin_eqlStr, aBin_neqStr, strEq_bs, aBin_eqlNil, aBin_eqlNil', aBin_neqNil, aBin_neqNil', aUn_not, aUn_neg, aNil_ptr, aOff_ptr, aInt_int, aLenStr_str, aLenS_slice, aLenS_nil, aFold_min, aFold_max, bs_size, bs_empty, Nat.zero_add, Nat.add_zero, Nat.reduceAdd, ok_load, Mem.get_set, Mem.set_set, List.getElem?_cons_zero, List.getElem?_cons_succ, Option.some.injEq, exists_eq_left', List.set_cons_zero, List.set_cons_succ, Bool.not_false, ref14_Deltas_j0, if_true]
        exact hnone (fun h => by rcases h.2 with h | h; cases h; exact h2 h)
  · simp -implicitDefEqProofs only [h1, decide_false, lp_some', mc_true, mc_false, ok_ret, ok_mc, ok_snap, aBin_add, aBin_sub, aBin_mul, aBin_lss, aBin_leq, aBin_gtr, aBin_geq, aBin_eql, aBin_neq, aBin_eqlStr, aBin_neqStr, strEq_bs, aBin_eqlNil, aBin_eqlNil', aBin_neqNil, aBin_neqNil', aUn_not, aUn_neg, aNil_ptr, aOff_ptr, aInt_int, aLenStr_str, aLenS_slice, aLenS_nil, aFold_min, aFold_max, bs_size, bs_empty, Nat.zero_add, Nat.add_zero, Nat.reduceAdd, ok_load, Mem.get_set, Mem.set_set, List.getElem?_cons_zero, List.getElem?_cons_succ, Option.some.injEq, exists_eq_left', List.set_cons_zero, List.set_cons_succ, Bool.not_false, if_true, ref14_Deltas_j0]
    exact hnone (fun h => h1 h.1)
end SplA
