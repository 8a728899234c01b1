/- What small functions do: numbers, widths, pulses of a band, the table. -/
import Derived.Test.YtooogfnmhfocjaaGreatDoorSplRc
import Derived.Test.YtooogfnmhfocjaaGreatDoorSplPvq
import Derived.Test.YtooogfnmhfocjaaGreatDoorSplBufN
import Derived.Test.YtooogfnmhfocjaaGreatDoorSplArr3
namespace SplA
open Go.Proofs.YtooogfnmhfocjaaGreatDoor.Spl Go Go.Proofs
set_option maxRecDepth 100000
set_option linter.unusedVariables false
set_option linter.unusedSimpArgs false

/-- Nothing is changed. -/
abbrev Same (m m' : Mem) : Prop := Chg (fun _ => False) m m'
theorem Same.get {m m' : Mem} (h : Same m m') {i : Nat} (hi : i < m.next) : m'.get i = m.get i := Chg.get h i hi id
theorem Same.trans {a b c : Mem} (h : Same a b) (g : Same b c) : Same a c := Chg.trans h g (fun _ _ h => h)
theorem Same.refl (m : Mem) : Same m m := Chg.refl _ _
theorem Same.bn {m m' : Mem} (h : Same m m') (hb : m.base ≤ m.next) : m'.base ≤ m'.next := by
  have := h.base; have := h.next; omega
theorem Same.alloc (m : Mem) (o : AObj) : Same m (m.alloc o) := Chg.alloc _ _ _

theorem Same.own {m m2 m' : Mem} {j : Nat} (h : Same m m2) (hj : m.next ≤ j) (hc : Chg (fun b => b = j) m2 m') : Same m m' :=
  ⟨hc.base.trans h.base, Nat.le_trans h.next hc.next, fun b hb _ => (hc.get b (Nat.lt_of_lt_of_le hb h.next) (fun h => by omega)).trans (h.get hb)⟩

theorem within1_ok {i ty fz : Nat} {x t : Int} {m : Mem} {Q : AV → Mem → Prop} (ht : 0 ≤ t ∧ t ≤ 4611686018427387904) (h : m.get i = .cells ty fz [.int .i64 x])
    (hq : Q (.bool (decide (-t ≤ x ∧ x ≤ t))) m) : Ok (R fn_num_within [.int .i64 t, .slice i 0 1 1]) m Q := by
  refine Ok.call (fun n => num_within_eq rfl n _ _) ?_
  have e1 : aIdxS 1 (.slice i 0 1 1) (.int .i64 0) = some (.ptr i 0) := rfl
  have e2 : IntKind.i64.wrap (0 - t) = -t := by rw [IntWalk.i64_in _ (by omega)]; omega
  have e3 : IntKind.i64.wrap (0 + 1) = 1 := rfl
  simp -implicitDefEqProofs only [num_within, lp_some', mc_true, mc_false, ok_ret, ok_mc, ok_snap, aBin_add, aBin_sub, aBin_mul, aBin_lss, aBin_leq, aBin_gtr, aBin_geq, aBin_eql, aBin_neq, aBin_eqlStr, aBin_neqStr, strEq_bs, aBin_eqlNil, aBin_eqlNil', aBin_neqNil, aBin_neqNil', aUn_not, aUn_neg, aNil_ptr, aOff_ptr, aInt_int, aLenStr_str, aLenS_slice, aLenS_nil, aFold_min, aFold_max, bs_size, bs_empty, Nat.zero_add, Nat.add_zero, Nat.reduceAdd, ok_load, Mem.get_set, Mem.set_set, List.getElem?_cons_zero, List.getElem?_cons_succ, Option.some.injEq, exists_eq_left', List.set_cons_zero, List.set_cons_succ]
  refine Ok.loop (fun k l m' => m' = m ∧ ∃ a b c, ((k = 1 ∧ l = [.int .i64 t, .slice i 0 1 1, .int .i64 1, .int .i64 0, a, b, c]) ∨ (k = 0 ∧ (-t ≤ x ∧ x ≤ t) ∧ l = [.int .i64 t, .slice i 0 1 1, .int .i64 1, .int .i64 1, a, b, c]))) ?_ (k := 1) ⟨rfl, _, _, _, .inl ⟨rfl, rfl⟩⟩
  rintro k l m' rec ⟨rfl, a, b, c, ⟨rfl, rfl⟩ | ⟨rfl, hx, rfl⟩⟩ ih
  · simp -implicitDefEqProofs only [List.getD_cons_zero, List.getD_cons_succ, num_within_l0, lp_some', mc_true, mc_false, ok_ret, ok_mc, ok_snap, aBin_add, aBin_sub, aBin_mul, aBin_lss, aBin_leq, aBin_gtr, aBin_geq, aBin_eql, aBin_neq, aBin_eqlStr, aBin_neqStr, strEq_bs, aBin_eqlNil, aBin_eqlNil', aBin_neqNil, aBin_neqNil', aUn_not, aUn_neg, aNil_ptr, aOff_ptr, aInt_int, aLenStr_str, aLenS_slice, aLenS_nil, aFold_min, aFold_max, bs_size, bs_empty, Nat.zero_add, Nat.add_zero, Nat.reduceAdd, ok_load, Mem.get_set, Mem.set_set, List.getElem?_cons_zero, List.getElem?_cons_succ, Option.some.injEq, exists_eq_left', List.set_cons_zero, List.set_cons_succ, e1, e2, load_at h, Int.zero_lt_one, decide_true, if_true]
    by_cases h1 : x < -t
    · have : ¬ (-t ≤ x ∧ x ≤ t) := by omega
      rw [decide_eq_false this] at hq
      simp -implicitDefEqProofs only [num_within_j0, lp_some', mc_true, mc_false, ok_ret, ok_mc, ok_snap, aBin_add, aBin_sub, aBin_mul, aBin_lss, aBin_leq, aBin_gtr, aBin_geq, aBin_eql, aBin_neq, aBin_eqlStr, aBin_neqStr, strEq_bs, aBin_eqlNil, aBin_eqlNil', aBin_neqNil, aBin_neqNil', aUn_not, aUn_neg, aNil_ptr, aOff_ptr, aInt_int, aLenStr_str, aLenS_slice, aLenS_nil, aFold_min, aFold_max, bs_size, bs_empty, Nat.zero_add, Nat.add_zero, Nat.reduceAdd, ok_load, Mem.get_set, Mem.set_set, List.getElem?_cons_zero, List.getElem?_cons_succ, Option.some.injEq, exists_eq_left', List.set_cons_zero, List.set_cons_succ, h1, decide_true, if_true, hq]
    · by_cases h2 : t < x
      · have : ¬ (-t ≤ x ∧ x ≤ t) := by omega
        rw [decide_eq_false this] at hq
        simp -implicitDefEqProofs only [num_within_j0, lp_some', mc_true, mc_false, ok_ret, ok_mc, ok_snap, aBin_add, aBin_sub, aBin_mul, aBin_lss, aBin_leq, aBin_gtr, aBin_geq, aBin_eql, aBin_neq, aBin_eqlStr, aBin_neqStr, strEq_bs, aBin_eqlNil, aBin_eqlNil', aBin_neqNil, aBin_neqNil', aUn_not, aUn_neg, aNil_ptr, aOff_ptr, aInt_int, aLenStr_str, aLenS_slice, aLenS_nil, aFold_min, aFold_max, bs_size, bs_empty, Nat.zero_add, Nat.add_zero, Nat.reduceAdd, ok_load, Mem.get_set, Mem.set_set, List.getElem?_cons_zero, List.getElem?_cons_succ, Option.some.injEq, exists_eq_left', List.set_cons_zero, List.set_cons_succ, h1, h2, decide_true, decide_false, Bool.false_eq_true, if_false, if_true, hq]
      · simp -implicitDefEqProofs only [num_within_j0, lp_some', mc_true, mc_false, ok_ret, ok_mc, ok_snap, aBin_add, aBin_sub, aBin_mul, aBin_lss, aBin_leq, aBin_gtr, aBin_geq, aBin_eql, aBin_neq, aBin_eqlStr, aBin_neqStr, strEq_bs, aBin_eqlNil, aBin_eqlNil', aBin_neqNil, aBin_neqNil', aUn_not, aUn_neg, aNil_ptr, aOff_ptr, aInt_int, aLenStr_str, aLenS_slice, aLenS_nil, aFold_min, aFold_max, bs_size, bs_empty, Nat.zero_add, Nat.add_zero, Nat.reduceAdd, ok_load, Mem.get_set, Mem.set_set, List.getElem?_cons_zero, List.getElem?_cons_succ, Option.some.injEq, exists_eq_left', List.set_cons_zero, List.set_cons_succ, h1, h2, decide_false, Bool.false_eq_true, if_false, e3]
        exact ih 0 _ _ (by omega) ⟨rfl, _, _, _, .inr ⟨rfl, by omega, rfl⟩⟩
  · rw [decide_eq_true hx] at hq
    simp -implicitDefEqProofs only [List.getD_cons_zero, List.getD_cons_succ, num_within_l0, lp_some', mc_true, mc_false, ok_ret, ok_mc, ok_snap, aBin_add, aBin_sub, aBin_mul, aBin_lss, aBin_leq, aBin_gtr, aBin_geq, aBin_eql, aBin_neq, aBin_eqlStr, aBin_neqStr, strEq_bs, aBin_eqlNil, aBin_eqlNil', aBin_neqNil, aBin_neqNil', aUn_not, aUn_neg, aNil_ptr, aOff_ptr, aInt_int, aLenStr_str, aLenS_slice, aLenS_nil, aFold_min, aFold_max, bs_size, bs_empty, Nat.zero_add, Nat.add_zero, Nat.reduceAdd, ok_load, Mem.get_set, Mem.set_set, List.getElem?_cons_zero, List.getElem?_cons_succ, Option.some.injEq, exists_eq_left', List.set_cons_zero, List.set_cons_succ, Int.lt_irrefl, decide_false, Bool.false_eq_true, if_false, hq]

theorem abs_ok {x : Int} {m : Mem} {Q : AV → Mem → Prop} (hx : -4611686018427387904 ≤ x ∧ x ≤ 4611686018427387904)
    (hq : ∀ m', Same m m' → Q (.int .i64 x.natAbs) m') : Ok (R fn_num_Abs [.int .i64 x]) m Q := by
  refine Ok.call (fun n => num_Abs_eq rfl n _) ?_
  have e1 : aFill (fun i => some (i * 1, 1)) [.int .i64 0] [(0, .int .i64 x)] = some [.int .i64 x] := aFill1 _ _ (by simp)
  simp -implicitDefEqProofs only [num_Abs, lp_some', mc_true, mc_false, ok_ret, ok_mc, ok_snap, aBin_add, aBin_sub, aBin_mul, aBin_lss, aBin_leq, aBin_gtr, aBin_geq, aBin_eql, aBin_neq, aBin_eqlStr, aBin_neqStr, strEq_bs, aBin_eqlNil, aBin_eqlNil', aBin_neqNil, aBin_neqNil', aUn_not, aUn_neg, aNil_ptr, aOff_ptr, aInt_int, aLenStr_str, aLenS_slice, aLenS_nil, aFold_min, aFold_max, bs_size, bs_empty, Nat.zero_add, Nat.add_zero, Nat.reduceAdd, ok_load, Mem.get_set, Mem.set_set, List.getElem?_cons_zero, List.getElem?_cons_succ, Option.some.injEq, exists_eq_left', List.set_cons_zero, List.set_cons_succ, e1, ok_allocS]
  refine Ok.bnd (within1_ok (by decide) (Mem.get_alloc m _) ?_)
  have hS := hq _ (Same.alloc m (.cells T_int 0 [.int .i64 x]))
  simp -implicitDefEqProofs only [hx, and_self, decide_true, lp_some', mc_true, mc_false, ok_ret, ok_mc, ok_snap, aBin_add, aBin_sub, aBin_mul, aBin_lss, aBin_leq, aBin_gtr, aBin_geq, aBin_eql, aBin_neq, aBin_eqlStr, aBin_neqStr, strEq_bs, aBin_eqlNil, aBin_eqlNil', aBin_neqNil, aBin_neqNil', aUn_not, aUn_neg, aNil_ptr, aOff_ptr, aInt_int, aLenStr_str, aLenS_slice, aLenS_nil, aFold_min, aFold_max, bs_size, bs_empty, Nat.zero_add, Nat.add_zero, Nat.reduceAdd, ok_load, Mem.get_set, Mem.set_set, List.getElem?_cons_zero, List.getElem?_cons_succ, Option.some.injEq, exists_eq_left', List.set_cons_zero, List.set_cons_succ, Bool.not_true, Bool.false_eq_true, if_false]
  by_cases h : x < 0
  · have e2 : IntKind.i64.wrap (0 - x) = (x.natAbs : Int) := by rw [IntWalk.i64_in _ (by omega)]; omega
    simp -implicitDefEqProofs only [h, decide_true, if_true, e2, hS]
  · have e2 : x = (x.natAbs : Int) := by omega
    simp -implicitDefEqProofs only [h, decide_false, Bool.false_eq_true, if_false]
    rw [← e2] at hS
    exact hS
def widthN (b : Nat) : Nat := if b < 4 then 2 else if b < 8 then 4 else if b < 13 then 8 else 0
def layoutZ : List AV := List.replicate 13 (.int .i64 0)
def layoutW : List AV := [.int .i64 2, .int .i64 2, .int .i64 2, .int .i64 2, .int .i64 4, .int .i64 4, .int .i64 4, .int .i64 4, .int .i64 8, .int .i64 8, .int .i64 8, .int .i64 8, .int .i64 8]
theorem widths_ok {m : Mem} {Q : AV → Mem → Prop} (hbn : m.base ≤ m.next) (hq : Q (.agg layoutW) (m.alloc (.cells T_13_int 0 layoutW))) : Ok (R fn_layout_widths []) m Q := by
  refine Ok.call (fun n => layout_widths_eq rfl n) ?_
  have hf : (aFill (fun i => some (i * 1, 1)) layoutZ [(0, (.int .i64 2)), (1, (.int .i64 2)), (2, (.int .i64 2)), (3, (.int .i64 2)), (4, (.int .i64 4)), (5, (.int .i64 4)), (6, (.int .i64 4)), (7, (.int .i64 4)), (8, (.int .i64 8)), (9, (.int .i64 8)), (10, (.int .i64 8)), (11, (.int .i64 8)), (12, (.int .i64 8))]).map AV.agg = some (.agg layoutW) := by kernel_rfl
  have hst := fun (k : Nat → AV → M AV) => ok_storeAll (i := m.next) (k := k) (Q := Q) (vs := layoutW) (n := 13) (Mem.get_alloc m (.cells T_13_int 0 layoutZ)) hbn rfl rfl rfl
  have hl : load? (some 13) (.ptr m.next 0) (m.alloc (.cells T_13_int 0 layoutW)) = some (.agg layoutW) := by rw [load_at' (Mem.get_alloc m _)]; rfl
  show Ok (fun n => bnd (alloc T_13_int layoutZ) fun v0 => lp ((aFill (fun i => some (i * 1, 1)) layoutZ [(0, (.int .i64 2)), (1, (.int .i64 2)), (2, (.int .i64 2)), (3, (.int .i64 2)), (4, (.int .i64 4)), (5, (.int .i64 4)), (6, (.int .i64 4)), (7, (.int .i64 4)), (8, (.int .i64 8)), (9, (.int .i64 8)), (10, (.int .i64 8)), (11, (.int .i64 8)), (12, (.int .i64 8))]).map AV.agg) fun v1 => bnd (store (some 13) v0 v1) fun u => bnd (load (some 13) v0) fun r => ret r) m Q
  rw [hf]
  simp -implicitDefEqProofs only [ok_alloc, lp_some', mc_true, mc_false, ok_ret, ok_mc, ok_snap, aBin_add, aBin_sub, aBin_mul, aBin_lss, aBin_leq, aBin_gtr, aBin_geq, aBin_eql, aBin_neq, aBin_eqlStr, aBin_neqStr, strEq_bs, aBin_eqlNil, aBin_eqlNil', aBin_neqNil, aBin_neqNil', aUn_not, aUn_neg, aNil_ptr, aOff_ptr, aInt_int, aLenStr_str, aLenS_slice, aLenS_nil, aFold_min, aFold_max, bs_size, bs_empty, Nat.zero_add, Nat.add_zero, Nat.reduceAdd, ok_load, Mem.get_set, Mem.set_set, List.getElem?_cons_zero, List.getElem?_cons_succ, Option.some.injEq, exists_eq_left', List.set_cons_zero, List.set_cons_succ, hst, Mem.alloc_set, hl, hq]
theorem width_ok {b : Nat} {m : Mem} {Q : AV → Mem → Prop} (hb : b < 13) (hbn : m.base ≤ m.next)
    (hq : ∀ m', Same m m' → Q (.int .i64 (widthN b)) m') : Ok (R fn_layout_Width [.int .i64 b]) m Q := by
  refine Ok.call (fun n => layout_Width_eq rfl n _) ?_
  have d1 : ¬ (b : Int) < 0 := by omega
  have d2 : ¬ (13 : Int) ≤ (b : Int) := by omega
  simp -implicitDefEqProofs only [layout_Width, layout_Width_j0, lp_some', mc_true, mc_false, ok_ret, ok_mc, ok_snap, aBin_add, aBin_sub, aBin_mul, aBin_lss, aBin_leq, aBin_gtr, aBin_geq, aBin_eql, aBin_neq, aBin_eqlStr, aBin_neqStr, strEq_bs, aBin_eqlNil, aBin_eqlNil', aBin_neqNil, aBin_neqNil', aUn_not, aUn_neg, aNil_ptr, aOff_ptr, aInt_int, aLenStr_str, aLenS_slice, aLenS_nil, aFold_min, aFold_max, bs_size, bs_empty, Nat.zero_add, Nat.add_zero, Nat.reduceAdd, ok_load, Mem.get_set, Mem.set_set, List.getElem?_cons_zero, List.getElem?_cons_succ, Option.some.injEq, exists_eq_left', List.set_cons_zero, List.set_cons_succ, d1, d2, decide_false, Bool.false_eq_true, if_false]
  refine Ok.bnd (widths_ok hbn ?_)
  have hbn1 : (m.alloc (.cells T_13_int 0 layoutW)).base ≤ (m.alloc (.cells T_13_int 0 layoutW)).next := Nat.le_succ_of_le hbn
  have hS := Same.alloc m (.cells T_13_int 0 layoutW)
  generalize m.alloc (.cells T_13_int 0 layoutW) = m1 at *
  have hst := fun (k : Nat → AV → M AV) => ok_storeAll (i := m1.next) (k := k) (Q := Q) (vs := layoutW) (n := 13) (Mem.get_alloc m1 (.cells T_13_int 0 layoutZ)) hbn1 rfl rfl rfl
  have hg : layoutW[b]? = some (.int .i64 (widthN b)) := by
    have : ∀ b, b < 13 → layoutW[b]? = some (.int .i64 (widthN b)) := by
      intro b hb
      have h : b = 0 ∨ b = 1 ∨ b = 2 ∨ b = 3 ∨ b = 4 ∨ b = 5 ∨ b = 6 ∨ b = 7 ∨ b = 8 ∨ b = 9 ∨ b = 10 ∨ b = 11 ∨ b = 12 := by omega
      rcases h with rfl | rfl | rfl | rfl | rfl | rfl | rfl | rfl | rfl | rfl | rfl | rfl | rfl <;> rfl
    exact this b hb
  have hi := aIdxA_at (size := 1) (len := 13) (i := m1.next) (o := 0) (kd := .i64) hb
  show Ok (fun n => bnd (alloc T_13_int layoutZ) fun v3 => bnd (store (some 13) v3 (.agg layoutW)) fun u => lp (aIdxA 13 1 v3 (.int .i64 b)) fun v12 => bnd (load none v12) fun v13 => ret v13) m1 Q
  simp -implicitDefEqProofs only [ok_alloc, lp_some', mc_true, mc_false, ok_ret, ok_mc, ok_snap, aBin_add, aBin_sub, aBin_mul, aBin_lss, aBin_leq, aBin_gtr, aBin_geq, aBin_eql, aBin_neq, aBin_eqlStr, aBin_neqStr, strEq_bs, aBin_eqlNil, aBin_eqlNil', aBin_neqNil, aBin_neqNil', aUn_not, aUn_neg, aNil_ptr, aOff_ptr, aInt_int, aLenStr_str, aLenS_slice, aLenS_nil, aFold_min, aFold_max, bs_size, bs_empty, Nat.zero_add, Nat.add_zero, Nat.reduceAdd, ok_load, Mem.get_set, Mem.set_set, List.getElem?_cons_zero, List.getElem?_cons_succ, Option.some.injEq, exists_eq_left', List.set_cons_zero, List.set_cons_succ, hst, Mem.alloc_set, hi, load_at (Mem.get_alloc m1 _), Nat.mul_one, hg]
  exact hq _ (hS.trans (Same.alloc m1 _))

def timesN (w : Nat) : Nat := if w = 2 then 1 else if w = 4 then 2 else if w = 8 then 3 else 0
theorem times_ok {w : Nat} {m : Mem} {Q : AV → Mem → Prop} (hq : Q (.int .i64 (timesN w)) m) : Ok (R fn_alloc_times [.int .i64 w]) m Q := by
  refine Ok.call (fun n => alloc_times_eq rfl n _) ?_
  unfold timesN at hq
  simp -implicitDefEqProofs only [alloc_times, lp_some', mc_true, mc_false, ok_ret, ok_mc, ok_snap, aBin_add, aBin_sub, aBin_mul, aBin_lss, aBin_leq, aBin_gtr, aBin_geq, aBin_eql, aBin_neq, aBin_eqlStr, aBin_neqStr, strEq_bs, aBin_eqlNil, aBin_eqlNil', aBin_neqNil, aBin_neqNil', aUn_not, aUn_neg, aNil_ptr, aOff_ptr, aInt_int, aLenStr_str, aLenS_slice, aLenS_nil, aFold_min, aFold_max, bs_size, bs_empty, Nat.zero_add, Nat.add_zero, Nat.reduceAdd, ok_load, Mem.get_set, Mem.set_set, List.getElem?_cons_zero, List.getElem?_cons_succ, Option.some.injEq, exists_eq_left', List.set_cons_zero, List.set_cons_succ]
  by_cases h2 : w = 2
  · subst h2; simpa using hq
  · have d2 : ¬ (w : Int) = 2 := by omega
    by_cases h4 : w = 4
    · subst h4; simpa using hq
    · have d4 : ¬ (w : Int) = 4 := by omega
      by_cases h8 : w = 8
      · subst h8; simpa using hq
      · have d8 : ¬ (w : Int) = 8 := by omega
        simp -implicitDefEqProofs only [d2, d4, d8, decide_false, Bool.false_eq_true, if_false]
        simpa [h2, h4, h8] using hq
theorem held_ok {x lo hi : Int} {m : Mem} {Q : AV → Mem → Prop} (hq : Q (.int .i64 (max lo (min hi x))) m) : Ok (R fn_alloc_held_int [.int .i64 x, .int .i64 lo, .int .i64 hi]) m Q := by
  refine Ok.call (fun n => alloc_held_int_eq rfl n _ _ _) ?_
  simp -implicitDefEqProofs only [alloc_held_int, lp_some', mc_true, mc_false, ok_ret, ok_mc, ok_snap, aBin_add, aBin_sub, aBin_mul, aBin_lss, aBin_leq, aBin_gtr, aBin_geq, aBin_eql, aBin_neq, aBin_eqlStr, aBin_neqStr, strEq_bs, aBin_eqlNil, aBin_eqlNil', aBin_neqNil, aBin_neqNil', aUn_not, aUn_neg, aNil_ptr, aOff_ptr, aInt_int, aLenStr_str, aLenS_slice, aLenS_nil, aFold_min, aFold_max, bs_size, bs_empty, Nat.zero_add, Nat.add_zero, Nat.reduceAdd, ok_load, Mem.get_set, Mem.set_set, List.getElem?_cons_zero, List.getElem?_cons_succ, Option.some.injEq, exists_eq_left', List.set_cons_zero, List.set_cons_succ]
  exact hq
theorem good_ok {x : Int} {m : Mem} {Q : AV → Mem → Prop} (hq : Q (.bool (decide (0 ≤ x ∧ x ≤ 10))) m) : Ok (R fn_alloc_good [.int .i64 x]) m Q := by
  refine Ok.call (fun n => alloc_good_eq rfl n _) ?_
  simp -implicitDefEqProofs only [alloc_good]
  refine Ok.bnd (held_ok ?_)
  have e : (max 0 (min 10 x) = x) = (0 ≤ x ∧ x ≤ 10) := propext (by omega)
  simp -implicitDefEqProofs only [lp_some', mc_true, mc_false, ok_ret, ok_mc, ok_snap, aBin_add, aBin_sub, aBin_mul, aBin_lss, aBin_leq, aBin_gtr, aBin_geq, aBin_eql, aBin_neq, aBin_eqlStr, aBin_neqStr, strEq_bs, aBin_eqlNil, aBin_eqlNil', aBin_neqNil, aBin_neqNil', aUn_not, aUn_neg, aNil_ptr, aOff_ptr, aInt_int, aLenStr_str, aLenS_slice, aLenS_nil, aFold_min, aFold_max, bs_size, bs_empty, Nat.zero_add, Nat.add_zero, Nat.reduceAdd, ok_load, Mem.get_set, Mem.set_set, List.getElem?_cons_zero, List.getElem?_cons_succ, Option.some.injEq, exists_eq_left', List.set_cons_zero, List.set_cons_succ, e]
  exact hq
/-- How many pulses a band of that quality, coarse number and width has. -/
def bandN (q c : Int) (w : Nat) : Nat := if 0 ≤ q ∧ q ≤ 10 ∧ 1 ≤ c ∧ c ≤ 23 then timesN w * (min 8 (c + q - 8)).toNat else 0
theorem timesN_le (w : Nat) : timesN w ≤ 3 := by
  unfold timesN
  split
  · decide
  · split
    · decide
    · split <;> decide
theorem bandN_le (q c : Int) (w : Nat) : bandN q c w ≤ 24 := by
  unfold bandN
  split
  · have h1 := timesN_le w
    have h2 : (min 8 (c + q - 8)).toNat ≤ 8 := by omega
    exact Nat.le_trans (Nat.mul_le_mul h1 h2) (by decide)
  · exact Nat.zero_le _
theorem band_ok {q c : Int} {w : Nat} {m : Mem} {Q : AV → Mem → Prop} (hq : Q (.int .i64 (bandN q c w)) m) : Ok (R fn_alloc_Band [.int .i64 q, .int .i64 c, .int .i64 w]) m Q := by
  refine Ok.call (fun n => alloc_Band_eq rfl n _ _ _) ?_
  simp -implicitDefEqProofs only [alloc_Band]
  refine Ok.bnd (good_ok ?_)
  by_cases h1 : 0 ≤ q ∧ q ≤ 10
  · simp -implicitDefEqProofs only [h1, and_self, decide_true, lp_some', mc_true, mc_false, ok_ret, ok_mc, ok_snap, aBin_add, aBin_sub, aBin_mul, aBin_lss, aBin_leq, aBin_gtr, aBin_geq, aBin_eql, aBin_neq, aBin_eqlStr, aBin_neqStr, strEq_bs, aBin_eqlNil, aBin_eqlNil', aBin_neqNil, aBin_neqNil', aUn_not, aUn_neg, aNil_ptr, aOff_ptr, aInt_int, aLenStr_str, aLenS_slice, aLenS_nil, aFold_min, aFold_max, bs_size, bs_empty, Nat.zero_add, Nat.add_zero, Nat.reduceAdd, ok_load, Mem.get_set, Mem.set_set, List.getElem?_cons_zero, List.getElem?_cons_succ, Option.some.injEq, exists_eq_left', List.set_cons_zero, List.set_cons_succ, Bool.not_true, Bool.false_eq_true, if_false]
    refine Ok.bnd (held_ok ?_)
    have e : (max 1 (min 23 c) = c) = (1 ≤ c ∧ c ≤ 23) := propext (by omega)
    simp -implicitDefEqProofs only [lp_some', mc_true, mc_false, ok_ret, ok_mc, ok_snap, aBin_add, aBin_sub, aBin_mul, aBin_lss, aBin_leq, aBin_gtr, aBin_geq, aBin_eql, aBin_neq, aBin_eqlStr, aBin_neqStr, strEq_bs, aBin_eqlNil, aBin_eqlNil', aBin_neqNil, aBin_neqNil', aUn_not, aUn_neg, aNil_ptr, aOff_ptr, aInt_int, aLenStr_str, aLenS_slice, aLenS_nil, aFold_min, aFold_max, bs_size, bs_empty, Nat.zero_add, Nat.add_zero, Nat.reduceAdd, ok_load, Mem.get_set, Mem.set_set, List.getElem?_cons_zero, List.getElem?_cons_succ, Option.some.injEq, exists_eq_left', List.set_cons_zero, List.set_cons_succ, ne_eq, e]
    by_cases h2 : 1 ≤ c ∧ c ≤ 23
    · have hb : bandN q c w = timesN w * (min 8 (c + q - 8)).toNat := if_pos ⟨h1.1, h1.2, h2⟩
      have hle := timesN_le w
      have hmul : timesN w * (min 8 (c + q - 8)).toNat ≤ 24 := hb ▸ bandN_le q c w
      have e1 : IntKind.i64.wrap (IntKind.i64.wrap (c + q) - 8) = c + q - 8 := by rw [IntWalk.i64_in (c + q) (by omega), IntWalk.i64_in _ (by omega)]
      have e2 : IntKind.i64.wrap ((timesN w : Int) * max 0 (min 8 (c + q - 8))) = (bandN q c w : Int) := by
        rw [hb, show max 0 (min 8 (c + q - 8)) = (((min 8 (c + q - 8)).toNat : Nat) : Int) by omega, ← Int.natCast_mul]
        exact IntWalk.i64_in _ (by omega)
      simp -implicitDefEqProofs only [h2, and_self, not_true_eq_false, decide_false, alloc_Band_j0, lp_some', mc_true, mc_false, ok_ret, ok_mc, ok_snap, aBin_add, aBin_sub, aBin_mul, aBin_lss, aBin_leq, aBin_gtr, aBin_geq, aBin_eql, aBin_neq, aBin_eqlStr, aBin_neqStr, strEq_bs, aBin_eqlNil, aBin_eqlNil', aBin_neqNil, aBin_neqNil', aUn_not, aUn_neg, aNil_ptr, aOff_ptr, aInt_int, aLenStr_str, aLenS_slice, aLenS_nil, aFold_min, aFold_max, bs_size, bs_empty, Nat.zero_add, Nat.add_zero, Nat.reduceAdd, ok_load, Mem.get_set, Mem.set_set, List.getElem?_cons_zero, List.getElem?_cons_succ, Option.some.injEq, exists_eq_left', List.set_cons_zero, List.set_cons_succ, Bool.false_eq_true, if_false]
      refine Ok.bnd (times_ok ?_)
      simp -implicitDefEqProofs only [lp_some', mc_true, mc_false, ok_ret, ok_mc, ok_snap, aBin_add, aBin_sub, aBin_mul, aBin_lss, aBin_leq, aBin_gtr, aBin_geq, aBin_eql, aBin_neq, aBin_eqlStr, aBin_neqStr, strEq_bs, aBin_eqlNil, aBin_eqlNil', aBin_neqNil, aBin_neqNil', aUn_not, aUn_neg, aNil_ptr, aOff_ptr, aInt_int, aLenStr_str, aLenS_slice, aLenS_nil, aFold_min, aFold_max, bs_size, bs_empty, Nat.zero_add, Nat.add_zero, Nat.reduceAdd, ok_load, Mem.get_set, Mem.set_set, List.getElem?_cons_zero, List.getElem?_cons_succ, Option.some.injEq, exists_eq_left', List.set_cons_zero, List.set_cons_succ, e1]
      refine Ok.bnd (held_ok ?_)
      simp -implicitDefEqProofs only [lp_some', mc_true, mc_false, ok_ret, ok_mc, ok_snap, aBin_add, aBin_sub, aBin_mul, aBin_lss, aBin_leq, aBin_gtr, aBin_geq, aBin_eql, aBin_neq, aBin_eqlStr, aBin_neqStr, strEq_bs, aBin_eqlNil, aBin_eqlNil', aBin_neqNil, aBin_neqNil', aUn_not, aUn_neg, aNil_ptr, aOff_ptr, aInt_int, aLenStr_str, aLenS_slice, aLenS_nil, aFold_min, aFold_max, bs_size, bs_empty, Nat.zero_add, Nat.add_zero, Nat.reduceAdd, ok_load, Mem.get_set, Mem.set_set, List.getElem?_cons_zero, List.getElem?_cons_succ, Option.some.injEq, exists_eq_left', List.set_cons_zero, List.set_cons_succ, e2]
      exact hq
    · have hb : bandN q c w = 0 := if_neg (fun h => h2 h.2.2)
      rw [hb] at hq
      simp -implicitDefEqProofs only [h2, not_false_eq_true, decide_true, alloc_Band_j0, lp_some', mc_true, mc_false, ok_ret, ok_mc, ok_snap, aBin_add, aBin_sub, aBin_mul, aBin_lss, aBin_leq, aBin_gtr, aBin_geq, aBin_eql, aBin_neq, aBin_eqlStr, aBin_neqStr, strEq_bs, aBin_eqlNil, aBin_eqlNil', aBin_neqNil, aBin_neqNil', aUn_not, aUn_neg, aNil_ptr, aOff_ptr, aInt_int, aLenStr_str, aLenS_slice, aLenS_nil, aFold_min, aFold_max, bs_size, bs_empty, Nat.zero_add, Nat.add_zero, Nat.reduceAdd, ok_load, Mem.get_set, Mem.set_set, List.getElem?_cons_zero, List.getElem?_cons_succ, Option.some.injEq, exists_eq_left', List.set_cons_zero, List.set_cons_succ, if_true]
      exact hq
  · have hb : bandN q c w = 0 := if_neg (fun h => h1 ⟨h.1, h.2.1⟩)
    rw [hb] at hq
    simp -implicitDefEqProofs only [h1, decide_false, lp_some', mc_true, mc_false, ok_ret, ok_mc, ok_snap, aBin_add, aBin_sub, aBin_mul, aBin_lss, aBin_leq, aBin_gtr, aBin_geq, aBin_eql, aBin_neq, aBin_eqlStr, aBin_neqStr, strEq_bs, aBin_eqlNil, aBin_eqlNil', aBin_neqNil, aBin_neqNil', aUn_not, aUn_neg, aNil_ptr, aOff_ptr, aInt_int, aLenStr_str, aLenS_slice, aLenS_nil, aFold_min, aFold_max, bs_size, bs_empty, Nat.zero_add, Nat.add_zero, Nat.reduceAdd, ok_load, Mem.get_set, Mem.set_set, List.getElem?_cons_zero, List.getElem?_cons_succ, Option.some.injEq, exists_eq_left', List.set_cons_zero, List.set_cons_succ, Bool.not_false, if_true, alloc_Band_j0]
    exact hq

/-! the table -/

theorem made_inner {i n : Nat} {m0 : Mem} {Q : AV → Mem → Prop} {rec : Nat → List AV → M AV} (hn : n < 8) (hb : m0.base ≤ i)
    (hq : ∀ m f, (∀ b, b < 25 → f (n + 1) b = true) → (∀ a, a ≤ n → ∀ b, b < 25 → f a b = true) → m.get i = .cells T_pvq_table 0 (pvTab f) → Chg (fun b => b = i) m0 m → Ok (fun q => rec q [.ptr i 0, .int .i64 (n + 1 : Nat)]) m Q)
    {f : Nat → Nat → Bool} (hf : ∀ a, a ≤ n → ∀ b, b < 25 → f a b = true) (hf0 : f (n + 1) 0 = true) (hg : m0.get i = .cells T_pvq_table 0 (pvTab f)) :
    Ok (fun q => loopN (fun r l => pvq_made_l1 (fcall Tryz.prog ext1 q) q (rec q) r (l.getD 0 .undef) (l.getD 1 .undef) (l.getD 2 .undef) (l.getD 3 .undef)) q [.ptr i 0, .int .i64 n, .int .i64 n, .int .i64 0]) m0 Q := by
  refine Ok.loop (fun k l m => ∃ (c : Nat) (f : Nat → Nat → Bool), k + c = 24 ∧ l = [.ptr i 0, .int .i64 n, .int .i64 n, .int .i64 c] ∧ (∀ a, a ≤ n → ∀ b, b < 25 → f a b = true) ∧ (∀ b, b ≤ c → f (n + 1) b = true) ∧ m.get i = .cells T_pvq_table 0 (pvTab f) ∧ Chg (fun b => b = i) m0 m) ?_ (k := 24) ⟨0, f, rfl, rfl, hf, fun b h0 => by rw [Nat.le_zero.1 h0]; exact hf0, hg, Chg.refl _ _⟩
  clear hg hf0 hf f
  rintro k l m rec' ⟨c, f, hk, rfl, hf, hf1, hg, hc⟩ ih
  have hbm : m.base ≤ i := by rw [hc.base]; exact hb
  by_cases h1 : c < 24
  · have d1 : (c : Int) < 24 := by omega
    have e1 : IntKind.i64.wrap ((n : Int) + 1) = ((n + 1 : Nat) : Int) := by rw [IntWalk.i64_in _ (by omega)]; omega
    have e2 : IntKind.i64.wrap ((c : Int) + 1) = ((c + 1 : Nat) : Int) := by rw [IntWalk.i64_in _ (by omega)]; omega
    have s1 := pvT_small n (by omega) (c + 1) (by omega)
    have s2 := pvT_small (n + 1) (by omega) c (by omega)
    have s3 := pvT_small n (by omega) c (by omega)
    have hs := pvT_succ (n := n) h1
    have e3 : IntKind.i64.wrap ((pvT n (c + 1) : Int) + (pvT (n + 1) c : Int)) = ((pvT n (c + 1) + pvT (n + 1) c : Nat) : Int) := by rw [IntWalk.i64_in _ (by omega)]; omega
    have e4 : IntKind.i64.wrap (((pvT n (c + 1) + pvT (n + 1) c : Nat) : Int) + (pvT n c : Int)) = ((pvT (n + 1) (c + 1) : Nat) : Int) := by rw [hs, IntWalk.i64_in _ (by omega)]; omega
    have i1 := aIdxA_at (size := 25) (len := 9) (i := i) (o := 0) (kd := .i64) (k := n) (by omega)
    have i2 := aIdxA_at (size := 25) (len := 9) (i := i) (o := 0) (kd := .i64) (k := n + 1) (by omega)
    have j1 := fun o => aIdxA_at (size := 1) (len := 25) (i := i) (o := o) (kd := .i64) (k := c) (by omega)
    have j2 := fun o => aIdxA_at (size := 1) (len := 25) (i := i) (o := o) (kd := .i64) (k := c + 1) (by omega)
    have g1 := pvTab_get (r := n) (c := c + 1) (by omega) (by omega) (hf n (Nat.le_refl _) _ (by omega))
    have g2 := pvTab_get (r := n + 1) (c := c) (by omega) (by omega) (hf1 c (Nat.le_refl _))
    have g3 := pvTab_get (r := n) (c := c) (by omega) (by omega) (hf n (Nat.le_refl _) _ (by omega))
    have hset := pvTab_set (f := f) (r := n + 1) (c := c + 1) (by omega) (by omega)
    have hst := fun (k : Nat → AV → M AV) => ok_store (k := k) (Q := Q) (o := (n + 1) * 25 + (c + 1)) (v := .int .i64 (pvT (n + 1) (c + 1) : Nat)) hg hbm (Nat.zero_le _) (by rw [pvTab_length]; omega) (by simp)
    simp -implicitDefEqProofs only [List.getD_cons_zero, List.getD_cons_succ, pvq_made_l1, lp_some', mc_true, mc_false, ok_ret, ok_mc, ok_snap, aBin_add, aBin_sub, aBin_mul, aBin_lss, aBin_leq, aBin_gtr, aBin_geq, aBin_eql, aBin_neq, aBin_eqlStr, aBin_neqStr, strEq_bs, aBin_eqlNil, aBin_eqlNil', aBin_neqNil, aBin_neqNil', aUn_not, aUn_neg, aNil_ptr, aOff_ptr, aInt_int, aLenStr_str, aLenS_slice, aLenS_nil, aFold_min, aFold_max, bs_size, bs_empty, Nat.zero_add, Nat.add_zero, Nat.reduceAdd, ok_load, Mem.get_set, Mem.set_set, List.getElem?_cons_zero, List.getElem?_cons_succ, Option.some.injEq, exists_eq_left', List.set_cons_zero, List.set_cons_succ, d1, decide_true, if_true, aNil_ptr, e1, e2, i1, i2, j1, j2, Nat.mul_one, load_at hg, g1, g2, g3, e3, e4, hst, hset]
    refine ih (k - 1) _ _ (by omega) ⟨c + 1, fun a b => f a b || (a == n + 1 && b == c + 1), by omega, rfl, fun a ha b hb => Bool.or_eq_true_iff.2 (.inl (hf a ha b hb)), fun b hb => ?_, by simp, hc.trans (Chg.set _ _ _) (fun _ _ h => h)⟩
    rcases Nat.lt_or_ge c b with h | h
    · obtain rfl : b = c + 1 := by omega
      simp
    · exact Bool.or_eq_true_iff.2 (.inl (hf1 b h))
  · obtain rfl : c = 24 := by omega
    have e1 : IntKind.i64.wrap ((n : Int) + 1) = ((n + 1 : Nat) : Int) := by rw [IntWalk.i64_in _ (by omega)]; omega
    simp -implicitDefEqProofs only [List.getD_cons_zero, List.getD_cons_succ, pvq_made_l1, lp_some', mc_true, mc_false, ok_ret, ok_mc, ok_snap, aBin_add, aBin_sub, aBin_mul, aBin_lss, aBin_leq, aBin_gtr, aBin_geq, aBin_eql, aBin_neq, aBin_eqlStr, aBin_neqStr, strEq_bs, aBin_eqlNil, aBin_eqlNil', aBin_neqNil, aBin_neqNil', aUn_not, aUn_neg, aNil_ptr, aOff_ptr, aInt_int, aLenStr_str, aLenS_slice, aLenS_nil, aFold_min, aFold_max, bs_size, bs_empty, Nat.zero_add, Nat.add_zero, Nat.reduceAdd, ok_load, Mem.get_set, Mem.set_set, List.getElem?_cons_zero, List.getElem?_cons_succ, Option.some.injEq, exists_eq_left', List.set_cons_zero, List.set_cons_succ, show ¬ ((24 : Nat) : Int) < 24 by decide, decide_false, Bool.false_eq_true, if_false, e1]
    exact hq m f (fun b hb => hf1 b (by omega)) hf hg hc
theorem made_ok {m : Mem} {Q : AV → Mem → Prop} (hbn : m.base ≤ m.next)
    (hq : ∀ m' i, Same m m' → m.next ≤ i → i < m'.next → m'.get i = .cells T_pvq_table 0 (pvTab fun _ _ => true) → Q (.ptr i 0) m') : Ok (R fn_pvq_made []) m Q := by
  refine Ok.call (fun n => pvq_made_eq rfl n) ?_
  have hf : (aFill (fun i => some (i * 25, 25)) (List.replicate 225 (AV.int .i64 0)) []).map AV.agg = some (.agg (pvTab fun _ _ => false)) := by kernel_rfl
  show Ok (fun n => lp ((aFill (fun i => some (i * 25, 25)) (List.replicate 225 (AV.int .i64 0)) []).map .agg) fun v4 => bnd (box T_pvq_table v4) fun v5 => lp (aNil v5) fun v7 => lp (aIdxA 9 25 v7 (.int .i64 0)) fun v8 => lp (aIdxA 25 1 v8 (.int .i64 0)) fun v9 => bnd (store none v9 (.int .i64 1)) fun u => loopN (fun r l => pvq_made_l0 (fcall Tryz.prog ext1 n) n r (l.getD 0 .undef) (l.getD 1 .undef)) n [v5, (.int .i64 0)]) m Q
  rw [hf]
  have hg := Mem.get_alloc m (.cells T_pvq_table 0 (pvTab fun _ _ => false))
  have hb1 : (m.alloc (.cells T_pvq_table 0 (pvTab fun _ _ => false))).base ≤ m.next := hbn
  have i1 : aIdxA 9 25 (.ptr m.next 0) (.int .i64 0) = some (.ptr m.next 0) := rfl
  have j1 : aIdxA 25 1 (.ptr m.next 0) (.int .i64 0) = some (.ptr m.next 0) := rfl
  have hset : (pvTab fun _ _ => false).set 0 (.int .i64 1) = pvTab (fun a b => false || (a == 0 && b == 0)) := pvTab_set (f := fun _ _ => false) (r := 0) (c := 0) (by decide) (by decide)
  have hst := fun (k : Nat → AV → M AV) => ok_store (k := k) (Q := Q) (o := 0) (v := .int .i64 1) hg hb1 (Nat.zero_le _) (by rw [pvTab_length]; decide) (by simp)
  simp -implicitDefEqProofs only [lp_some', mc_true, mc_false, ok_ret, ok_mc, ok_snap, aBin_add, aBin_sub, aBin_mul, aBin_lss, aBin_leq, aBin_gtr, aBin_geq, aBin_eql, aBin_neq, aBin_eqlStr, aBin_neqStr, strEq_bs, aBin_eqlNil, aBin_eqlNil', aBin_neqNil, aBin_neqNil', aUn_not, aUn_neg, aNil_ptr, aOff_ptr, aInt_int, aLenStr_str, aLenS_slice, aLenS_nil, aFold_min, aFold_max, bs_size, bs_empty, Nat.zero_add, Nat.add_zero, Nat.reduceAdd, ok_load, Mem.get_set, Mem.set_set, List.getElem?_cons_zero, List.getElem?_cons_succ, Option.some.injEq, exists_eq_left', List.set_cons_zero, List.set_cons_succ, ok_box, aNil_ptr, i1, j1, hst, hset, Mem.alloc_set]
  have h00 : pvTab (fun a b => false || (a == 0 && b == 0)) = pvTab (fun a _ => a == 0) := by kernel_rfl
  rw [h00]
  have hc0 := Same.alloc m (.cells T_pvq_table 0 (pvTab fun a _ => a == 0))
  have hg0 := Mem.get_alloc m (.cells T_pvq_table 0 (pvTab fun a _ => a == 0))
  have hnx : m.next < (m.alloc (.cells T_pvq_table 0 (pvTab fun a _ => a == 0))).next := Nat.lt_succ_self _
  have hbb : (m.alloc (.cells T_pvq_table 0 (pvTab fun a _ => a == 0))).base ≤ m.next := hbn
  clear hst hset hb1 hg hf i1 j1 h00
  generalize m.alloc (.cells T_pvq_table 0 (pvTab fun a _ => a == 0)) = m1 at *
  refine Ok.loop (fun k l m' => ∃ (n : Nat) (f : Nat → Nat → Bool), k + n = 8 ∧ l = [.ptr m.next 0, .int .i64 n] ∧ (∀ a, a ≤ n → ∀ b, b < 25 → f a b = true) ∧ m'.get m.next = .cells T_pvq_table 0 (pvTab f) ∧ Chg (fun b => b = m.next) m1 m') ?_ (k := 8) ⟨0, _, rfl, rfl, fun a ha b _ => by simp [Nat.le_zero.1 ha], hg0, Chg.refl _ _⟩
  rintro k l m' rec ⟨n, f, hk, rfl, hf, hg, hc⟩ ih
  have hbm : m'.base ≤ m.next := by rw [hc.base]; exact hbb
  by_cases h1 : n < 8
  · have d1 : (n : Int) < 8 := by omega
    have e1 : IntKind.i64.wrap ((n : Int) + 1) = ((n + 1 : Nat) : Int) := by rw [IntWalk.i64_in _ (by omega)]; omega
    have i2 := aIdxA_at (size := 25) (len := 9) (i := m.next) (o := 0) (kd := .i64) (k := n + 1) (by omega)
    have j2 : ∀ o, aIdxA 25 1 (.ptr m.next o) (.int .i64 0) = some (.ptr m.next o) := fun o => rfl
    have hst := fun (k : Nat → AV → M AV) => ok_store (k := k) (Q := Q) (o := (n + 1) * 25) (v := .int .i64 1) hg hbm (Nat.zero_le _) (by rw [pvTab_length]; omega) (by simp)
    have hset : (pvTab f).set ((n + 1) * 25) (.int .i64 1) = pvTab (fun a b => f a b || (a == n + 1 && b == 0)) := by
      have := pvTab_set (f := f) (r := n + 1) (c := 0) (by omega) (by omega)
      rw [pvT_zero] at this
      exact this
    simp -implicitDefEqProofs only [List.getD_cons_zero, List.getD_cons_succ, pvq_made_l0, lp_some', mc_true, mc_false, ok_ret, ok_mc, ok_snap, aBin_add, aBin_sub, aBin_mul, aBin_lss, aBin_leq, aBin_gtr, aBin_geq, aBin_eql, aBin_neq, aBin_eqlStr, aBin_neqStr, strEq_bs, aBin_eqlNil, aBin_eqlNil', aBin_neqNil, aBin_neqNil', aUn_not, aUn_neg, aNil_ptr, aOff_ptr, aInt_int, aLenStr_str, aLenS_slice, aLenS_nil, aFold_min, aFold_max, bs_size, bs_empty, Nat.zero_add, Nat.add_zero, Nat.reduceAdd, ok_load, Mem.get_set, Mem.set_set, List.getElem?_cons_zero, List.getElem?_cons_succ, Option.some.injEq, exists_eq_left', List.set_cons_zero, List.set_cons_succ, d1, decide_true, if_true, aNil_ptr, e1, i2, j2, hst, hset]
    refine made_inner h1 hbm ?_ (fun a ha b hb => Bool.or_eq_true_iff.2 (.inl (hf a ha b hb))) (by simp) (Mem.get_set _ _ _)
    intro m2 f2 k1 k2 k3 k4
    refine ih (k - 1) _ _ (by omega) ⟨n + 1, f2, by omega, rfl, fun a ha b hb => ?_, k3, (hc.trans (Chg.set _ _ _) (fun _ _ h => h)).trans k4 (fun _ _ h => h)⟩
    rcases Nat.lt_or_ge n a with h | h
    · obtain rfl : a = n + 1 := by omega
      exact k1 b hb
    · exact k2 a h b hb
  · obtain rfl : n = 8 := by omega
    simp -implicitDefEqProofs only [List.getD_cons_zero, List.getD_cons_succ, pvq_made_l0, lp_some', mc_true, mc_false, ok_ret, ok_mc, ok_snap, aBin_add, aBin_sub, aBin_mul, aBin_lss, aBin_leq, aBin_gtr, aBin_geq, aBin_eql, aBin_neq, aBin_eqlStr, aBin_neqStr, strEq_bs, aBin_eqlNil, aBin_eqlNil', aBin_neqNil, aBin_neqNil', aUn_not, aUn_neg, aNil_ptr, aOff_ptr, aInt_int, aLenStr_str, aLenS_slice, aLenS_nil, aFold_min, aFold_max, bs_size, bs_empty, Nat.zero_add, Nat.add_zero, Nat.reduceAdd, ok_load, Mem.get_set, Mem.set_set, List.getElem?_cons_zero, List.getElem?_cons_succ, Option.some.injEq, exists_eq_left', List.set_cons_zero, List.set_cons_succ, show ¬ ((8 : Nat) : Int) < 8 by decide, decide_false, Bool.false_eq_true, if_false]
    refine hq m' m.next ⟨hc.base.trans hc0.base, Nat.le_trans hc0.next hc.next, fun b hb _ => ?_⟩ (Nat.le_refl _) (Nat.lt_of_lt_of_le hnx hc.next) ?_
    · exact (hc.get b (Nat.lt_of_lt_of_le hb hc0.next) (fun h => by omega)).trans (hc0.get hb)
    · rw [hg, pvTab_all (fun a ha b hb => hf a (by omega) b hb)]
/-- How many pulses there are, if so many may be asked for. -/
def countN (n k : Int) : Nat := if 0 ≤ n ∧ n ≤ 8 ∧ 0 ≤ k ∧ k ≤ 24 then pvT n.toNat k.toNat else 0
theorem count_ok {n k : Int} {m : Mem} {Q : AV → Mem → Prop} (hbn : m.base ≤ m.next) (hq : ∀ m', Same m m' → Q (.int .i64 (countN n k)) m') : Ok (R fn_pvq_Count [.int .i64 n, .int .i64 k]) m Q := by
  refine Ok.call (fun q => pvq_Count_eq rfl q _ _) ?_
  by_cases h : 0 ≤ n ∧ n ≤ 8 ∧ 0 ≤ k ∧ k ≤ 24
  · have hc : countN n k = pvT n.toNat k.toNat := if_pos h
    rw [hc] at hq
    obtain ⟨n, rfl⟩ : ∃ z : Nat, n = z := ⟨n.toNat, by omega⟩
    obtain ⟨k, rfl⟩ : ∃ z : Nat, k = z := ⟨k.toNat, by omega⟩
    have d1 : ¬ (n : Int) < 0 := by omega
    have d2 : ¬ (8 : Int) < (n : Int) := by omega
    have d3 : ¬ (k : Int) < 0 := by omega
    have d4 : ¬ (24 : Int) < (k : Int) := by omega
    simp -implicitDefEqProofs only [pvq_Count, pvq_Count_j0, lp_some', mc_true, mc_false, ok_ret, ok_mc, ok_snap, aBin_add, aBin_sub, aBin_mul, aBin_lss, aBin_leq, aBin_gtr, aBin_geq, aBin_eql, aBin_neq, aBin_eqlStr, aBin_neqStr, strEq_bs, aBin_eqlNil, aBin_eqlNil', aBin_neqNil, aBin_neqNil', aUn_not, aUn_neg, aNil_ptr, aOff_ptr, aInt_int, aLenStr_str, aLenS_slice, aLenS_nil, aFold_min, aFold_max, bs_size, bs_empty, Nat.zero_add, Nat.add_zero, Nat.reduceAdd, ok_load, Mem.get_set, Mem.set_set, List.getElem?_cons_zero, List.getElem?_cons_succ, Option.some.injEq, exists_eq_left', List.set_cons_zero, List.set_cons_succ, d1, d2, d3, d4, decide_false, Bool.false_eq_true, if_false]
    refine Ok.bnd (made_ok hbn fun m' i hs _ _ hg => ?_)
    have i2 := aIdxA_at (size := 25) (len := 9) (i := i) (o := 0) (kd := .i64) (k := n) (by omega)
    have j2 := fun o => aIdxA_at (size := 1) (len := 25) (i := i) (o := o) (kd := .i64) (k := k) (by omega)
    have g1 := pvTab_get (f := fun _ _ => true) (r := n) (c := k) (by omega) (by omega) rfl
    simp -implicitDefEqProofs only [lp_some', mc_true, mc_false, ok_ret, ok_mc, ok_snap, aBin_add, aBin_sub, aBin_mul, aBin_lss, aBin_leq, aBin_gtr, aBin_geq, aBin_eql, aBin_neq, aBin_eqlStr, aBin_neqStr, strEq_bs, aBin_eqlNil, aBin_eqlNil', aBin_neqNil, aBin_neqNil', aUn_not, aUn_neg, aNil_ptr, aOff_ptr, aInt_int, aLenStr_str, aLenS_slice, aLenS_nil, aFold_min, aFold_max, bs_size, bs_empty, Nat.zero_add, Nat.add_zero, Nat.reduceAdd, ok_load, Mem.get_set, Mem.set_set, List.getElem?_cons_zero, List.getElem?_cons_succ, Option.some.injEq, exists_eq_left', List.set_cons_zero, List.set_cons_succ, aNil_ptr, i2, j2, Nat.mul_one, load_at hg, g1]
    exact hq m' hs
  · have hc : countN n k = 0 := if_neg h
    rw [hc] at hq
    have hq' := hq m (Same.refl m)
    by_cases d1 : n < 0
    · simp -implicitDefEqProofs only [pvq_Count, pvq_Count_j0, lp_some', mc_true, mc_false, ok_ret, ok_mc, ok_snap, aBin_add, aBin_sub, aBin_mul, aBin_lss, aBin_leq, aBin_gtr, aBin_geq, aBin_eql, aBin_neq, aBin_eqlStr, aBin_neqStr, strEq_bs, aBin_eqlNil, aBin_eqlNil', aBin_neqNil, aBin_neqNil', aUn_not, aUn_neg, aNil_ptr, aOff_ptr, aInt_int, aLenStr_str, aLenS_slice, aLenS_nil, aFold_min, aFold_max, bs_size, bs_empty, Nat.zero_add, Nat.add_zero, Nat.reduceAdd, ok_load, Mem.get_set, Mem.set_set, List.getElem?_cons_zero, List.getElem?_cons_succ, Option.some.injEq, exists_eq_left', List.set_cons_zero, List.set_cons_succ, d1, decide_true, if_true]; exact hq'
    · by_cases d2 : 8 < n
      · simp -implicitDefEqProofs only [pvq_Count, pvq_Count_j0, lp_some', mc_true, mc_false, ok_ret, ok_mc, ok_snap, aBin_add, aBin_sub, aBin_mul, aBin_lss, aBin_leq, aBin_gtr, aBin_geq, aBin_eql, aBin_neq, aBin_eqlStr, aBin_neqStr, strEq_bs, aBin_eqlNil, aBin_eqlNil', aBin_neqNil, aBin_neqNil', aUn_not, aUn_neg, aNil_ptr, aOff_ptr, aInt_int, aLenStr_str, aLenS_slice, aLenS_nil, aFold_min, aFold_max, bs_size, bs_empty, Nat.zero_add, Nat.add_zero, Nat.reduceAdd, ok_load, Mem.get_set, Mem.set_set, List.getElem?_cons_zero, List.getElem?_cons_succ, Option.some.injEq, exists_eq_left', List.set_cons_zero, List.set_cons_succ, d1, d2, decide_true, decide_false, Bool.false_eq_true, if_false, if_true]; exact hq'
      · by_cases d3 : k < 0
        · simp -implicitDefEqProofs only [pvq_Count, pvq_Count_j0, lp_some', mc_true, mc_false, ok_ret, ok_mc, ok_snap, aBin_add, aBin_sub, aBin_mul, aBin_lss, aBin_leq, aBin_gtr, aBin_geq, aBin_eql, aBin_neq, aBin_eqlStr, aBin_neqStr, strEq_bs, aBin_eqlNil, aBin_eqlNil', aBin_neqNil, aBin_neqNil', aUn_not, aUn_neg, aNil_ptr, aOff_ptr, aInt_int, aLenStr_str, aLenS_slice, aLenS_nil, aFold_min, aFold_max, bs_size, bs_empty, Nat.zero_add, Nat.add_zero, Nat.reduceAdd, ok_load, Mem.get_set, Mem.set_set, List.getElem?_cons_zero, List.getElem?_cons_succ, Option.some.injEq, exists_eq_left', List.set_cons_zero, List.set_cons_succ, d1, d2, d3, decide_true, decide_false, Bool.false_eq_true, if_false, if_true]; exact hq'
        · have d4 : 24 < k := by omega
          simp -implicitDefEqProofs only [pvq_Count, pvq_Count_j0, lp_some', mc_true, mc_false, ok_ret, ok_mc, ok_snap, aBin_add, aBin_sub, aBin_mul, aBin_lss, aBin_leq, aBin_gtr, aBin_geq, aBin_eql, aBin_neq, aBin_eqlStr, aBin_neqStr, strEq_bs, aBin_eqlNil, aBin_eqlNil', aBin_neqNil, aBin_neqNil', aUn_not, aUn_neg, aNil_ptr, aOff_ptr, aInt_int, aLenStr_str, aLenS_slice, aLenS_nil, aFold_min, aFold_max, bs_size, bs_empty, Nat.zero_add, Nat.add_zero, Nat.reduceAdd, ok_load, Mem.get_set, Mem.set_set, List.getElem?_cons_zero, List.getElem?_cons_succ, Option.some.injEq, exists_eq_left', List.set_cons_zero, List.set_cons_succ, d1, d2, d3, d4, decide_true, decide_false, Bool.false_eq_true, if_false, if_true]; exact hq'

/-! pulses -/

theorem drop_cons' {α : Type} {l : List α} {i : Nat} (h : i < l.length) : ∃ x, l[i]? = some x ∧ l.drop i = x :: l.drop (i + 1) := ⟨l[i], List.getElem?_eq_getElem h, List.drop_eq_getElem_cons h⟩
def sizeV (o : Option Nat) : AV := .tup [.int .i64 (o.getD 0 : Nat), .bool o.isSome]
theorem size_ok {K : Nat → Prop} {l : List Int} {v : AV} {m : Mem} {Q : AV → Mem → Prop} (hl : IntsR K m v l) (hK : ∀ b, K b → b < m.next)
    (hq : ∀ m', Same m m' → Q (sizeV (sizeN l)) m') : Ok (R fn_pvq_Size [v]) m Q := by
  refine Ok.call (fun n => pvq_Size_eq rfl n _) ?_
  by_cases h1 : 1 ≤ l.length ∧ l.length ≤ 8
  · have d1 : ¬ (l.length : Int) = 0 := by omega
    have d2 : ¬ (8 : Int) < (l.length : Int) := by omega
    simp -implicitDefEqProofs only [pvq_Size, pvq_Size_j0, lp_some', mc_true, mc_false, ok_ret, ok_mc, ok_snap, aBin_add, aBin_sub, aBin_mul, aBin_lss, aBin_leq, aBin_gtr, aBin_geq, aBin_eql, aBin_neq, aBin_eqlStr, aBin_neqStr, strEq_bs, aBin_eqlNil, aBin_eqlNil', aBin_neqNil, aBin_neqNil', aUn_not, aUn_neg, aNil_ptr, aOff_ptr, aInt_int, aLenStr_str, aLenS_slice, aLenS_nil, aFold_min, aFold_max, bs_size, bs_empty, Nat.zero_add, Nat.add_zero, Nat.reduceAdd, ok_load, Mem.get_set, Mem.set_set, List.getElem?_cons_zero, List.getElem?_cons_succ, Option.some.injEq, exists_eq_left', List.set_cons_zero, List.set_cons_succ, hl.len, d1, d2, decide_false, Bool.false_eq_true, if_false]
    refine Ok.loop (fun k z m' => ∃ (i s : Nat) (a b : AV), k + i = l.length ∧ z = [.int .i64 s, v, .int .i64 l.length, .int .i64 i, a, b] ∧ s ≤ 24 * i ∧ s + absSum (l.drop i) = absSum l ∧ Same m m') ?_ (k := l.length) ⟨0, 0, _, _, rfl, rfl, Nat.le_refl _, by simp, Same.refl m⟩
    rintro k z m' rec ⟨i, s, a, b, hk, rfl, hs, he, hS⟩ ih
    have hl' := hl.keep (m' := m') (fun b hb => hS.get (hK b hb))
    by_cases h2 : i < l.length
    · have d3 : (i : Int) < (l.length : Int) := by omega
      obtain ⟨x, hx, hdrop⟩ := drop_cons' h2
      obtain ⟨b', o, ce, hix, hKb, -, ⟨rfl, -⟩, -, hld⟩ := hl'.at hx
      have hld0 : load? none (.ptr b' o) m' = some (.int .i64 x) := hld 0 _ rfl
      rw [hdrop, absSum] at he
      have hsz : sizeN l = if absSum l ≤ 24 then some (absSum l) else none := by
        unfold sizeN
        simp -implicitDefEqProofs only [h1, true_and]
      simp -implicitDefEqProofs only [List.getD_cons_zero, List.getD_cons_succ, pvq_Size_l0, lp_some', mc_true, mc_false, ok_ret, ok_mc, ok_snap, aBin_add, aBin_sub, aBin_mul, aBin_lss, aBin_leq, aBin_gtr, aBin_geq, aBin_eql, aBin_neq, aBin_eqlStr, aBin_neqStr, strEq_bs, aBin_eqlNil, aBin_eqlNil', aBin_neqNil, aBin_neqNil', aUn_not, aUn_neg, aNil_ptr, aOff_ptr, aInt_int, aLenStr_str, aLenS_slice, aLenS_nil, aFold_min, aFold_max, bs_size, bs_empty, Nat.zero_add, Nat.add_zero, Nat.reduceAdd, ok_load, Mem.get_set, Mem.set_set, List.getElem?_cons_zero, List.getElem?_cons_succ, Option.some.injEq, exists_eq_left', List.set_cons_zero, List.set_cons_succ, d3, decide_true, if_true, hix, hld0]
      by_cases h3 : x < -24
      · have : sizeN l = none := by rw [hsz, if_neg (by omega)]
        rw [this] at hq
        simp -implicitDefEqProofs only [pvq_Size_j1, lp_some', mc_true, mc_false, ok_ret, ok_mc, ok_snap, aBin_add, aBin_sub, aBin_mul, aBin_lss, aBin_leq, aBin_gtr, aBin_geq, aBin_eql, aBin_neq, aBin_eqlStr, aBin_neqStr, strEq_bs, aBin_eqlNil, aBin_eqlNil', aBin_neqNil, aBin_neqNil', aUn_not, aUn_neg, aNil_ptr, aOff_ptr, aInt_int, aLenStr_str, aLenS_slice, aLenS_nil, aFold_min, aFold_max, bs_size, bs_empty, Nat.zero_add, Nat.add_zero, Nat.reduceAdd, ok_load, Mem.get_set, Mem.set_set, List.getElem?_cons_zero, List.getElem?_cons_succ, Option.some.injEq, exists_eq_left', List.set_cons_zero, List.set_cons_succ, h3, decide_true, if_true]
        exact hq m' hS
      · by_cases h4 : 24 < x
        · have : sizeN l = none := by rw [hsz, if_neg (by omega)]
          rw [this] at hq
          simp -implicitDefEqProofs only [pvq_Size_j1, lp_some', mc_true, mc_false, ok_ret, ok_mc, ok_snap, aBin_add, aBin_sub, aBin_mul, aBin_lss, aBin_leq, aBin_gtr, aBin_geq, aBin_eql, aBin_neq, aBin_eqlStr, aBin_neqStr, strEq_bs, aBin_eqlNil, aBin_eqlNil', aBin_neqNil, aBin_neqNil', aUn_not, aUn_neg, aNil_ptr, aOff_ptr, aInt_int, aLenStr_str, aLenS_slice, aLenS_nil, aFold_min, aFold_max, bs_size, bs_empty, Nat.zero_add, Nat.add_zero, Nat.reduceAdd, ok_load, Mem.get_set, Mem.set_set, List.getElem?_cons_zero, List.getElem?_cons_succ, Option.some.injEq, exists_eq_left', List.set_cons_zero, List.set_cons_succ, h3, h4, decide_true, decide_false, Bool.false_eq_true, if_false, if_true]
          exact hq m' hS
        · have e1 : IntKind.i64.wrap ((s : Int) + (x.natAbs : Int)) = ((s + x.natAbs : Nat) : Int) := by rw [IntWalk.i64_in _ (by omega)]; omega
          have e2 : IntKind.i64.wrap ((i : Int) + 1) = ((i + 1 : Nat) : Int) := by rw [IntWalk.i64_in _ (by omega)]; omega
          simp -implicitDefEqProofs only [pvq_Size_j1, lp_some', mc_true, mc_false, ok_ret, ok_mc, ok_snap, aBin_add, aBin_sub, aBin_mul, aBin_lss, aBin_leq, aBin_gtr, aBin_geq, aBin_eql, aBin_neq, aBin_eqlStr, aBin_neqStr, strEq_bs, aBin_eqlNil, aBin_eqlNil', aBin_neqNil, aBin_neqNil', aUn_not, aUn_neg, aNil_ptr, aOff_ptr, aInt_int, aLenStr_str, aLenS_slice, aLenS_nil, aFold_min, aFold_max, bs_size, bs_empty, Nat.zero_add, Nat.add_zero, Nat.reduceAdd, ok_load, Mem.get_set, Mem.set_set, List.getElem?_cons_zero, List.getElem?_cons_succ, Option.some.injEq, exists_eq_left', List.set_cons_zero, List.set_cons_succ, h3, h4, decide_false, Bool.false_eq_true, if_false]
          refine Ok.bnd (abs_ok (by omega) fun m2 hS2 => ?_)
          simp -implicitDefEqProofs only [lp_some', mc_true, mc_false, ok_ret, ok_mc, ok_snap, aBin_add, aBin_sub, aBin_mul, aBin_lss, aBin_leq, aBin_gtr, aBin_geq, aBin_eql, aBin_neq, aBin_eqlStr, aBin_neqStr, strEq_bs, aBin_eqlNil, aBin_eqlNil', aBin_neqNil, aBin_neqNil', aUn_not, aUn_neg, aNil_ptr, aOff_ptr, aInt_int, aLenStr_str, aLenS_slice, aLenS_nil, aFold_min, aFold_max, bs_size, bs_empty, Nat.zero_add, Nat.add_zero, Nat.reduceAdd, ok_load, Mem.get_set, Mem.set_set, List.getElem?_cons_zero, List.getElem?_cons_succ, Option.some.injEq, exists_eq_left', List.set_cons_zero, List.set_cons_succ, e1, e2]
          exact ih (k - 1) _ _ (by omega) ⟨i + 1, s + x.natAbs, _, _, by omega, rfl, by omega, by omega, hS.trans hS2⟩
    · obtain rfl : i = l.length := by omega
      have d3 : ¬ (l.length : Int) < (l.length : Int) := by omega
      rw [List.drop_length, absSum, Nat.add_zero] at he
      subst he
      simp -implicitDefEqProofs only [List.getD_cons_zero, List.getD_cons_succ, pvq_Size_l0, lp_some', mc_true, mc_false, ok_ret, ok_mc, ok_snap, aBin_add, aBin_sub, aBin_mul, aBin_lss, aBin_leq, aBin_gtr, aBin_geq, aBin_eql, aBin_neq, aBin_eqlStr, aBin_neqStr, strEq_bs, aBin_eqlNil, aBin_eqlNil', aBin_neqNil, aBin_neqNil', aUn_not, aUn_neg, aNil_ptr, aOff_ptr, aInt_int, aLenStr_str, aLenS_slice, aLenS_nil, aFold_min, aFold_max, bs_size, bs_empty, Nat.zero_add, Nat.add_zero, Nat.reduceAdd, ok_load, Mem.get_set, Mem.set_set, List.getElem?_cons_zero, List.getElem?_cons_succ, Option.some.injEq, exists_eq_left', List.set_cons_zero, List.set_cons_succ, d3, decide_false, Bool.false_eq_true, if_false]
      by_cases h3 : absSum l ≤ 24
      · have : sizeN l = some (absSum l) := if_pos ⟨h1.1, h1.2, h3⟩
        rw [this] at hq
        have d4 : ¬ (24 : Int) < (absSum l : Int) := by omega
        simp -implicitDefEqProofs only [d4, decide_false, Bool.false_eq_true, if_false]
        exact hq m' hS
      · have : sizeN l = none := if_neg (fun h => h3 h.2.2)
        rw [this] at hq
        have d4 : (24 : Int) < (absSum l : Int) := by omega
        simp -implicitDefEqProofs only [d4, decide_true, if_true]
        exact hq m' hS
  · have : sizeN l = none := if_neg (fun h => h1 ⟨h.1, h.2.1⟩)
    rw [this] at hq
    have hq' := hq m (Same.refl m)
    by_cases h0 : l.length = 0
    · have d1 : (l.length : Int) = 0 := by omega
      simp -implicitDefEqProofs only [pvq_Size, pvq_Size_j0, lp_some', mc_true, mc_false, ok_ret, ok_mc, ok_snap, aBin_add, aBin_sub, aBin_mul, aBin_lss, aBin_leq, aBin_gtr, aBin_geq, aBin_eql, aBin_neq, aBin_eqlStr, aBin_neqStr, strEq_bs, aBin_eqlNil, aBin_eqlNil', aBin_neqNil, aBin_neqNil', aUn_not, aUn_neg, aNil_ptr, aOff_ptr, aInt_int, aLenStr_str, aLenS_slice, aLenS_nil, aFold_min, aFold_max, bs_size, bs_empty, Nat.zero_add, Nat.add_zero, Nat.reduceAdd, ok_load, Mem.get_set, Mem.set_set, List.getElem?_cons_zero, List.getElem?_cons_succ, Option.some.injEq, exists_eq_left', List.set_cons_zero, List.set_cons_succ, hl.len, d1, decide_true, if_true]
      exact hq'
    · have d1 : ¬ (l.length : Int) = 0 := by omega
      have d2 : (8 : Int) < (l.length : Int) := by omega
      simp -implicitDefEqProofs only [pvq_Size, pvq_Size_j0, lp_some', mc_true, mc_false, ok_ret, ok_mc, ok_snap, aBin_add, aBin_sub, aBin_mul, aBin_lss, aBin_leq, aBin_gtr, aBin_geq, aBin_eql, aBin_neq, aBin_eqlStr, aBin_neqStr, strEq_bs, aBin_eqlNil, aBin_eqlNil', aBin_neqNil, aBin_neqNil', aUn_not, aUn_neg, aNil_ptr, aOff_ptr, aInt_int, aLenStr_str, aLenS_slice, aLenS_nil, aFold_min, aFold_max, bs_size, bs_empty, Nat.zero_add, Nat.add_zero, Nat.reduceAdd, ok_load, Mem.get_set, Mem.set_set, List.getElem?_cons_zero, List.getElem?_cons_succ, Option.some.injEq, exists_eq_left', List.set_cons_zero, List.set_cons_succ, hl.len, d1, d2, decide_false, decide_true, Bool.false_eq_true, if_false, if_true]
      exact hq'

abbrev Table (m : Mem) (t : Nat) : Prop := m.get t = .cells T_pvq_table 0 (pvTab fun _ _ => true)
theorem Table.ld {m : Mem} {t r c : Nat} (h : Table m t) (hr : r < 9) (hc : c < 25) : load? none (.ptr t (r * 25 + c)) m = some (.int .i64 (pvT r c : Nat)) := by
  rw [load_at h]; exact pvTab_get hr hc rfl
theorem lowN_small {n k m : Nat} (hn : n < 9) (hk : k < 25) (hm : m ≤ 24) : lowN (pvT n) k m < 140737488355328 := by
  have h1 := lowN_le (r := pvT n) (k := k) (B := 1099511627775) (fun j hj => Nat.le_of_lt_succ (pvT_small n hn j (by omega))) m
  omega
theorem index_inner {v w : AV} {t k n a mm len idx : Nat} {x : Int} {m0 : Mem} {Q : AV → Mem → Prop} {rec : Nat → List AV → M AV} (ht : Table m0 t) (hn : n < 9) (hk : k < 25) (hm : mm ≤ k) (ha : a < 2 ^ 60) (hi : idx < 100)
    (hq : Ok (fun q => rec q [v, .int .i64 (k - mm : Nat), .ptr t 0, .int .i64 (a + lowN (pvT n) k mm + (if x < 0 then pvT n (k - mm) else 0) : Nat), w, .int .i64 len, .int .i64 (idx + 1 : Nat)]) m0 Q) :
    Ok (fun q => loopN (fun r l => pvq_Index_l1 (fcall Tryz.prog ext1 q) q (rec q) r (l.getD 0 .undef) (l.getD 1 .undef) (l.getD 2 .undef) (l.getD 3 .undef) (l.getD 4 .undef) (l.getD 5 .undef) (l.getD 6 .undef) (l.getD 7 .undef) (l.getD 8 .undef) (l.getD 9 .undef) (l.getD 10 .undef)) q
      [v, .int .i64 k, .ptr t 0, .int .i64 (a + lowN (pvT n) k (min mm 1) : Nat), .int .i64 x, .ptr t (n * 25), .int .i64 mm, .int .i64 1, w, .int .i64 len, .int .i64 idx]) m0 Q := by
  refine Ok.loop (fun d l m => m = m0 ∧ ∃ j : Nat, d + j = mm + 1 ∧ 1 ≤ j ∧ l = [v, .int .i64 k, .ptr t 0, .int .i64 (a + lowN (pvT n) k (min mm j) : Nat), .int .i64 x, .ptr t (n * 25), .int .i64 mm, .int .i64 j, w, .int .i64 len, .int .i64 idx]) ?_ (k := mm) ⟨rfl, 1, rfl, Nat.le_refl _, rfl⟩
  rintro d l m rec' ⟨rfl, j, hd, hj, rfl⟩ ih
  have hlow := lowN_small (n := n) (k := k) hn hk (m := mm) (by omega)
  by_cases h1 : j < mm
  · have d1 : (j : Int) < (mm : Int) := by omega
    have e1 : IntKind.i64.wrap ((k : Int) - (j : Int)) = ((k - j : Nat) : Int) := by rw [IntWalk.i64_in _ (by omega)]; omega
    have i1 := aIdxA_at (size := 1) (len := 25) (i := t) (o := n * 25) (kd := .i64) (k := k - j) (by omega)
    have g1 := Table.ld ht hn (c := k - j) (by omega)
    have hs := pvT_small n hn (k - j) (by omega)
    have e2 : IntKind.i64.wrap (2 * (pvT n (k - j) : Int)) = ((2 * pvT n (k - j) : Nat) : Int) := by rw [IntWalk.i64_in _ (by omega)]; omega
    have m1 : min mm j = j := by omega
    have m2 : min mm (j + 1) = j + 1 := by omega
    have hl2 := lowN_succ (r := pvT n) (k := k) hj
    have hlow2 := lowN_small (n := n) (k := k) hn hk (m := j) (by omega)
    have e3 : IntKind.i64.wrap (((a + lowN (pvT n) k j : Nat) : Int) + ((2 * pvT n (k - j) : Nat) : Int)) = ((a + lowN (pvT n) k (j + 1) : Nat) : Int) := by rw [hl2, IntWalk.i64_in _ (by omega)]; omega
    have e4 : IntKind.i64.wrap ((j : Int) + 1) = ((j + 1 : Nat) : Int) := by rw [IntWalk.i64_in _ (by omega)]; omega
    simp -implicitDefEqProofs only [List.getD_cons_zero, List.getD_cons_succ, pvq_Index_l1, lp_some', mc_true, mc_false, ok_ret, ok_mc, ok_snap, aBin_add, aBin_sub, aBin_mul, aBin_lss, aBin_leq, aBin_gtr, aBin_geq, aBin_eql, aBin_neq, aBin_eqlStr, aBin_neqStr, strEq_bs, aBin_eqlNil, aBin_eqlNil', aBin_neqNil, aBin_neqNil', aUn_not, aUn_neg, aNil_ptr, aOff_ptr, aInt_int, aLenStr_str, aLenS_slice, aLenS_nil, aFold_min, aFold_max, bs_size, bs_empty, Nat.zero_add, Nat.add_zero, Nat.reduceAdd, ok_load, Mem.get_set, Mem.set_set, List.getElem?_cons_zero, List.getElem?_cons_succ, Option.some.injEq, exists_eq_left', List.set_cons_zero, List.set_cons_succ, d1, decide_true, if_true, e1, aNil_ptr, i1, Nat.mul_one, g1, e2, m1, e3, e4]
    exact ih (d - 1) _ _ (by omega) ⟨rfl, j + 1, by omega, by omega, by rw [m2]⟩
  · have d1 : ¬ (j : Int) < (mm : Int) := by omega
    have m1 : min mm j = mm := by omega
    have e1 : IntKind.i64.wrap ((k : Int) - (mm : Int)) = ((k - mm : Nat) : Int) := by rw [IntWalk.i64_in _ (by omega)]; omega
    have e4 : IntKind.i64.wrap ((idx : Int) + 1) = ((idx + 1 : Nat) : Int) := by rw [IntWalk.i64_in _ (by omega)]; omega
    simp -implicitDefEqProofs only [List.getD_cons_zero, List.getD_cons_succ, pvq_Index_l1, lp_some', mc_true, mc_false, ok_ret, ok_mc, ok_snap, aBin_add, aBin_sub, aBin_mul, aBin_lss, aBin_leq, aBin_gtr, aBin_geq, aBin_eql, aBin_neq, aBin_eqlStr, aBin_neqStr, strEq_bs, aBin_eqlNil, aBin_eqlNil', aBin_neqNil, aBin_neqNil', aUn_not, aUn_neg, aNil_ptr, aOff_ptr, aInt_int, aLenStr_str, aLenS_slice, aLenS_nil, aFold_min, aFold_max, bs_size, bs_empty, Nat.zero_add, Nat.add_zero, Nat.reduceAdd, ok_load, Mem.get_set, Mem.set_set, List.getElem?_cons_zero, List.getElem?_cons_succ, Option.some.injEq, exists_eq_left', List.set_cons_zero, List.set_cons_succ, d1, decide_false, Bool.false_eq_true, if_false, e1, m1]
    by_cases h2 : x < 0
    · have i1 := aIdxA_at (size := 1) (len := 25) (i := t) (o := n * 25) (kd := .i64) (k := k - mm) (by omega)
      have g1 := Table.ld ht hn (c := k - mm) (by omega)
      have hs := pvT_small n hn (k - mm) (by omega)
      have e3 : IntKind.i64.wrap (((a + lowN (pvT n) k mm : Nat) : Int) + (pvT n (k - mm) : Int)) = ((a + lowN (pvT n) k mm + pvT n (k - mm) : Nat) : Int) := by rw [IntWalk.i64_in _ (by omega)]; omega
      rw [if_pos h2] at hq
      simp -implicitDefEqProofs only [h2, decide_true, if_true, aNil_ptr, lp_some', mc_true, mc_false, ok_ret, ok_mc, ok_snap, aBin_add, aBin_sub, aBin_mul, aBin_lss, aBin_leq, aBin_gtr, aBin_geq, aBin_eql, aBin_neq, aBin_eqlStr, aBin_neqStr, strEq_bs, aBin_eqlNil, aBin_eqlNil', aBin_neqNil, aBin_neqNil', aUn_not, aUn_neg, aNil_ptr, aOff_ptr, aInt_int, aLenStr_str, aLenS_slice, aLenS_nil, aFold_min, aFold_max, bs_size, bs_empty, Nat.zero_add, Nat.add_zero, Nat.reduceAdd, ok_load, Mem.get_set, Mem.set_set, List.getElem?_cons_zero, List.getElem?_cons_succ, Option.some.injEq, exists_eq_left', List.set_cons_zero, List.set_cons_succ, i1, Nat.mul_one, g1, e3, pvq_Index_j1, e4]
      exact hq
    · rw [if_neg h2] at hq
      simp -implicitDefEqProofs only [h2, decide_false, Bool.false_eq_true, if_false, pvq_Index_j1, lp_some', mc_true, mc_false, ok_ret, ok_mc, ok_snap, aBin_add, aBin_sub, aBin_mul, aBin_lss, aBin_leq, aBin_gtr, aBin_geq, aBin_eql, aBin_neq, aBin_eqlStr, aBin_neqStr, strEq_bs, aBin_eqlNil, aBin_eqlNil', aBin_neqNil, aBin_neqNil', aUn_not, aUn_neg, aNil_ptr, aOff_ptr, aInt_int, aLenStr_str, aLenS_slice, aLenS_nil, aFold_min, aFold_max, bs_size, bs_empty, Nat.zero_add, Nat.add_zero, Nat.reduceAdd, ok_load, Mem.get_set, Mem.set_set, List.getElem?_cons_zero, List.getElem?_cons_succ, Option.some.injEq, exists_eq_left', List.set_cons_zero, List.set_cons_succ, e4]
      exact hq

theorem sizeN_some {l : List Int} (h : 1 ≤ l.length ∧ l.length ≤ 8 ∧ absSum l ≤ 24) : sizeN l = some (absSum l) := if_pos h
theorem index_ok {K : Nat → Prop} {l : List Int} {v : AV} {m : Mem} {Q : AV → Mem → Prop} (hl : IntsR K m v l) (hK : ∀ b, K b → b < m.next) (hbn : m.base ≤ m.next)
    (hq : ∀ m', Same m m' → Q (sizeV (indexN l)) m') : Ok (R fn_pvq_Index [v]) m Q := by
  refine Ok.call (fun n => pvq_Index_eq rfl n _) ?_
  simp -implicitDefEqProofs only [pvq_Index]
  refine Ok.bnd (size_ok hl hK fun m1 hS1 => ?_)
  by_cases h1 : 1 ≤ l.length ∧ l.length ≤ 8 ∧ absSum l ≤ 24
  · have hx : indexN l = some (idxN (absSum l) l) := if_pos h1
    rw [hx] at hq
    simp -implicitDefEqProofs only [sizeN_some h1, sizeV, Option.getD_some, Option.isSome_some, aExt, lp_some', mc_true, mc_false, ok_ret, ok_mc, ok_snap, aBin_add, aBin_sub, aBin_mul, aBin_lss, aBin_leq, aBin_gtr, aBin_geq, aBin_eql, aBin_neq, aBin_eqlStr, aBin_neqStr, strEq_bs, aBin_eqlNil, aBin_eqlNil', aBin_neqNil, aBin_neqNil', aUn_not, aUn_neg, aNil_ptr, aOff_ptr, aInt_int, aLenStr_str, aLenS_slice, aLenS_nil, aFold_min, aFold_max, bs_size, bs_empty, Nat.zero_add, Nat.add_zero, Nat.reduceAdd, ok_load, Mem.get_set, Mem.set_set, List.getElem?_cons_zero, List.getElem?_cons_succ, Option.some.injEq, exists_eq_left', List.set_cons_zero, List.set_cons_succ, Bool.not_true, Bool.false_eq_true, if_false, hl.len]
    refine Ok.bnd (made_ok (hS1.bn hbn) fun m2 t hS2 ht1 ht2 ht => ?_)
    have hS := hS1.trans hS2
    refine Ok.loop (fun k z m' => ∃ (i a : Nat), k + i = l.length ∧ z = [v, .int .i64 (absSum (l.drop i) : Nat), .ptr t 0, .int .i64 a, v, .int .i64 l.length, .int .i64 i] ∧ a ≤ i * 2 ^ 48 ∧ a + idxN (absSum (l.drop i)) (l.drop i) = idxN (absSum l) l ∧ absSum (l.drop i) ≤ 24 ∧ Table m' t ∧ t < m'.next ∧ Same m m') ?_ (k := l.length) ⟨0, 0, rfl, rfl, Nat.le_refl _, by simp, by simpa using h1.2.2, ht, ht2, hS⟩
    clear ht ht1 ht2 hS2 hS hS1
    rintro k z m' rec ⟨i, a, hk, rfl, ha, he, hle, ht, ht2, hS⟩ ih
    have hl' := hl.keep (m' := m') (fun b hb => hS.get (hK b hb))
    by_cases h2 : i < l.length
    · have d3 : (i : Int) < (l.length : Int) := by omega
      obtain ⟨x, hx', hdrop⟩ := drop_cons' h2
      obtain ⟨b', o, ce, hix, hKb, -, ⟨rfl, -⟩, -, hld⟩ := hl'.at hx'
      have hld0 : load? none (.ptr b' o) m' = some (.int .i64 x) := hld 0 _ rfl
      have hrl : (l.drop (i + 1)).length = l.length - 1 - i := by rw [List.length_drop]; omega
      rw [hdrop] at he hle ⊢
      simp -implicitDefEqProofs only [absSum, idxN, hrl] at he hle ⊢
      have e1 : IntKind.i64.wrap (IntKind.i64.wrap ((l.length : Int) - 1) - (i : Int)) = ((l.length - 1 - i : Nat) : Int) := by rw [IntWalk.i64_in ((l.length : Int) - 1) (by omega), IntWalk.i64_in _ (by omega)]; omega
      have i1 := aIdxA_at (size := 25) (len := 9) (i := t) (o := 0) (kd := .i64) (k := l.length - 1 - i) (by omega)
      simp -implicitDefEqProofs only [List.getD_cons_zero, List.getD_cons_succ, pvq_Index_l0, lp_some', mc_true, mc_false, ok_ret, ok_mc, ok_snap, aBin_add, aBin_sub, aBin_mul, aBin_lss, aBin_leq, aBin_gtr, aBin_geq, aBin_eql, aBin_neq, aBin_eqlStr, aBin_neqStr, strEq_bs, aBin_eqlNil, aBin_eqlNil', aBin_neqNil, aBin_neqNil', aUn_not, aUn_neg, aNil_ptr, aOff_ptr, aInt_int, aLenStr_str, aLenS_slice, aLenS_nil, aFold_min, aFold_max, bs_size, bs_empty, Nat.zero_add, Nat.add_zero, Nat.reduceAdd, ok_load, Mem.get_set, Mem.set_set, List.getElem?_cons_zero, List.getElem?_cons_succ, Option.some.injEq, exists_eq_left', List.set_cons_zero, List.set_cons_succ, d3, decide_true, if_true, hix, hld0, hl.len, e1, aNil_ptr, i1]
      refine Ok.bnd (abs_ok (by omega) fun m3 hS3 => ?_)
      have ht3 : Table m3 t := (hS3.get ht2).trans ht
      have hsub : x.natAbs + absSum (l.drop (i + 1)) - x.natAbs = absSum (l.drop (i + 1)) := by omega
      have hlow := lowN_small (n := l.length - 1 - i) (k := x.natAbs + absSum (l.drop (i + 1))) (m := x.natAbs) (by omega) (by omega) (by omega)
      have hsm := pvT_small (l.length - 1 - i) (by omega) (absSum (l.drop (i + 1))) (by omega)
      have hpow : i * 2 ^ 48 ≤ 8 * 2 ^ 48 := Nat.mul_le_mul_right _ (by omega)
      have hnext := index_inner (v := v) (w := v) (k := x.natAbs + absSum (l.drop (i + 1))) (a := a) (mm := x.natAbs) (len := l.length) (idx := i) (x := x) (Q := Q) (rec := rec) ht3 (n := l.length - 1 - i) (by omega) (by omega) (by omega) (by omega) (by omega) (by
        rw [hsub] at he ⊢
        refine ih (k - 1) _ _ (by omega) ⟨i + 1, _, by omega, rfl, ?_, ?_, by omega, ht3, Nat.lt_of_lt_of_le ht2 hS3.next, hS.trans hS3⟩
        · have : (i + 1) * 2 ^ 48 = i * 2 ^ 48 + 2 ^ 48 := by rw [Nat.add_mul, Nat.one_mul]
          split <;> omega
        · omega)
      simp -implicitDefEqProofs only [lp_some', mc_true, mc_false, ok_ret, ok_mc, ok_snap, aBin_add, aBin_sub, aBin_mul, aBin_lss, aBin_leq, aBin_gtr, aBin_geq, aBin_eql, aBin_neq, aBin_eqlStr, aBin_neqStr, strEq_bs, aBin_eqlNil, aBin_eqlNil', aBin_neqNil, aBin_neqNil', aUn_not, aUn_neg, aNil_ptr, aOff_ptr, aInt_int, aLenStr_str, aLenS_slice, aLenS_nil, aFold_min, aFold_max, bs_size, bs_empty, Nat.zero_add, Nat.add_zero, Nat.reduceAdd, ok_load, Mem.get_set, Mem.set_set, List.getElem?_cons_zero, List.getElem?_cons_succ, Option.some.injEq, exists_eq_left', List.set_cons_zero, List.set_cons_succ]
      by_cases h3 : x.natAbs = 0
      · have d4 : ¬ (0 : Int) < (x.natAbs : Int) := by omega
        have e2 : min x.natAbs 1 = 0 := by omega
        rw [e2] at hnext
        simp -implicitDefEqProofs only [d4, decide_false, Bool.false_eq_true, if_false, pvq_Index_j0]
        exact hnext
      · have d4 : (0 : Int) < (x.natAbs : Int) := by omega
        have e2 : min x.natAbs 1 = 1 := by omega
        rw [e2] at hnext
        have i2 := aIdxA_at (size := 1) (len := 25) (i := t) (o := (l.length - 1 - i) * 25) (kd := .i64) (k := x.natAbs + absSum (l.drop (i + 1))) (by omega)
        have g1 := Table.ld ht3 (r := l.length - 1 - i) (by omega) (c := x.natAbs + absSum (l.drop (i + 1))) (by omega)
        have hs := pvT_small (l.length - 1 - i) (by omega) (x.natAbs + absSum (l.drop (i + 1))) (by omega)
        have e3 : IntKind.i64.wrap ((a : Int) + (pvT (l.length - 1 - i) (x.natAbs + absSum (l.drop (i + 1))) : Int)) = ((a + lowN (pvT (l.length - 1 - i)) (x.natAbs + absSum (l.drop (i + 1))) 1 : Nat) : Int) := by
          simp -implicitDefEqProofs only [lowN]
          rw [IntWalk.i64_in _ (by omega)]; omega
        simp -implicitDefEqProofs only [d4, decide_true, if_true, lp_some', mc_true, mc_false, ok_ret, ok_mc, ok_snap, aBin_add, aBin_sub, aBin_mul, aBin_lss, aBin_leq, aBin_gtr, aBin_geq, aBin_eql, aBin_neq, aBin_eqlStr, aBin_neqStr, strEq_bs, aBin_eqlNil, aBin_eqlNil', aBin_neqNil, aBin_neqNil', aUn_not, aUn_neg, aNil_ptr, aOff_ptr, aInt_int, aLenStr_str, aLenS_slice, aLenS_nil, aFold_min, aFold_max, bs_size, bs_empty, Nat.zero_add, Nat.add_zero, Nat.reduceAdd, ok_load, Mem.get_set, Mem.set_set, List.getElem?_cons_zero, List.getElem?_cons_succ, Option.some.injEq, exists_eq_left', List.set_cons_zero, List.set_cons_succ, i2, Nat.mul_one, g1, e3, pvq_Index_j0]
        exact hnext
    · obtain rfl : i = l.length := by omega
      have d3 : ¬ (l.length : Int) < (l.length : Int) := by omega
      rw [List.drop_length, absSum, idxN, Nat.add_zero] at he
      subst he
      simp -implicitDefEqProofs only [List.getD_cons_zero, List.getD_cons_succ, pvq_Index_l0, lp_some', mc_true, mc_false, ok_ret, ok_mc, ok_snap, aBin_add, aBin_sub, aBin_mul, aBin_lss, aBin_leq, aBin_gtr, aBin_geq, aBin_eql, aBin_neq, aBin_eqlStr, aBin_neqStr, strEq_bs, aBin_eqlNil, aBin_eqlNil', aBin_neqNil, aBin_neqNil', aUn_not, aUn_neg, aNil_ptr, aOff_ptr, aInt_int, aLenStr_str, aLenS_slice, aLenS_nil, aFold_min, aFold_max, bs_size, bs_empty, Nat.zero_add, Nat.add_zero, Nat.reduceAdd, ok_load, Mem.get_set, Mem.set_set, List.getElem?_cons_zero, List.getElem?_cons_succ, Option.some.injEq, exists_eq_left', List.set_cons_zero, List.set_cons_succ, d3, decide_false, Bool.false_eq_true, if_false]
      exact hq m' hS
  · have hx : indexN l = none := if_neg h1
    have hs : sizeN l = none := if_neg h1
    rw [hx] at hq
    simp -implicitDefEqProofs only [hs, sizeV, Option.getD_none, Option.isSome_none, aExt, lp_some', mc_true, mc_false, ok_ret, ok_mc, ok_snap, aBin_add, aBin_sub, aBin_mul, aBin_lss, aBin_leq, aBin_gtr, aBin_geq, aBin_eql, aBin_neq, aBin_eqlStr, aBin_neqStr, strEq_bs, aBin_eqlNil, aBin_eqlNil', aBin_neqNil, aBin_neqNil', aUn_not, aUn_neg, aNil_ptr, aOff_ptr, aInt_int, aLenStr_str, aLenS_slice, aLenS_nil, aFold_min, aFold_max, bs_size, bs_empty, Nat.zero_add, Nat.add_zero, Nat.reduceAdd, ok_load, Mem.get_set, Mem.set_set, List.getElem?_cons_zero, List.getElem?_cons_succ, Option.some.injEq, exists_eq_left', List.set_cons_zero, List.set_cons_succ, Bool.not_false, if_true]
    exact hq m1 hS1
end SplA
