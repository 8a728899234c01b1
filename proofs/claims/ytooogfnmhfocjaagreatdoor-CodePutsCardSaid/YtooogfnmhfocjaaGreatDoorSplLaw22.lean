/- The law CodePuts. -/
import Derived.Test.YtooogfnmhfocjaaGreatDoorSplRz
import Derived.Test.YtooogfnmhfocjaaGreatDoorSplRcB
namespace SplA
open Go.Proofs.YtooogfnmhfocjaaGreatDoor.Spl Go Go.Proofs
set_option maxRecDepth 100000
set_option linter.unusedVariables false
set_option linter.unusedSimpArgs false

theorem few22_ok {K : Nat → Prop} {p : List (List Int)} {v : AV} {m : Mem} {Q : AV → Mem → Prop} (hp : RowsR K m v p) (hl : p.length ≤ 9223372036854775807)
    (hq : ∀ b : Bool, (b = true → p.length ≤ 4 ∧ ∀ r ∈ p, r.length ≤ 15) → Q (.bool b) m) : Ok (R fn_law22_few [v]) m Q := by
  refine Ok.call (fun n => law22_few_eq rfl n _) ?_
  simp -implicitDefEqProofs only [law22_few]
  refine Ok.loop (fun k l m' => m' = m ∧ ∃ i : Nat, k + i = p.length ∧ l = [v, .int .i64 i] ∧ ∀ r ∈ p.take i, r.length ≤ 15) ?_ (k := p.length) ⟨rfl, 0, rfl, rfl, fun _ h => by simp at h⟩
  rintro k l m' rec ⟨rfl, i, hk, rfl, hall⟩ ih
  by_cases h4 : i < p.length
  · have d1 : (i : Int) < (p.length : Int) := by omega
    obtain ⟨r, hr⟩ : ∃ r, p[i]? = some r := ⟨p[i], List.getElem?_eq_getElem h4⟩
    obtain ⟨b', o, ce, hix, hKb, -, ⟨vr, rfl, hR⟩, -, hld⟩ := hp.at hr
    have hld0 : load? none (.ptr b' o) m' = some vr := hld 0 _ rfl
    have e2 : IntKind.i64.wrap ((i : Int) + 1) = ((i + 1 : Nat) : Int) := by rw [IntWalk.i64_in _ (by omega)]; omega
    simp -implicitDefEqProofs only [List.getD_cons_zero, List.getD_cons_succ, law22_few_l0, lp_some', mc_true, mc_false, ok_ret, ok_mc, ok_snap, aBin_add, aBin_sub, aBin_mul, aBin_lss, aBin_leq, aBin_gtr, aBin_geq, aBin_eql, aBin_neq, aBin_eqlStr, aBin_neqStr, strEq_bs, aBin_eqlNil, aBin_eqlNil', aBin_neqNil, aBin_neqNil', aUn_not, aUn_neg, aNil_ptr, aOff_ptr, aInt_int, aLenStr_str, aLenS_slice, aLenS_nil, aFold_min, aFold_max, bs_size, bs_empty, Nat.zero_add, Nat.add_zero, Nat.reduceAdd, ok_load, Mem.get_set, Mem.set_set, List.getElem?_cons_zero, List.getElem?_cons_succ, Option.some.injEq, exists_eq_left', List.set_cons_zero, List.set_cons_succ, hp.len, d1, decide_true, if_true, hix, hld0, hR.len]
    by_cases h5 : r.length ≤ 15
    · have d2 : ¬ (15 : Int) < (r.length : Int) := by omega
      simp -implicitDefEqProofs only [d2, decide_false, Bool.false_eq_true, if_false, e2]
      refine ih (k - 1) _ _ (by omega) ⟨rfl, i + 1, by omega, rfl, fun r' hr' => ?_⟩
      rw [List.take_add_one, List.mem_append] at hr'
      rcases hr' with h | h
      · exact hall r' h
      · rw [hr] at h
        simp at h
        rw [h]; exact h5
    · have d2 : (15 : Int) < (r.length : Int) := by omega
      simp -implicitDefEqProofs only [d2, decide_true, if_true]
      exact hq false (fun h => by cases h)
  · obtain rfl : i = p.length := by omega
    have d1 : ¬ (p.length : Int) < (p.length : Int) := by omega
    rw [List.take_length] at hall
    simp -implicitDefEqProofs only [List.getD_cons_zero, List.getD_cons_succ, law22_few_l0, lp_some', mc_true, mc_false, ok_ret, ok_mc, ok_snap, aBin_add, aBin_sub, aBin_mul, aBin_lss, aBin_leq, aBin_gtr, aBin_geq, aBin_eql, aBin_neq, aBin_eqlStr, aBin_neqStr, strEq_bs, aBin_eqlNil, aBin_eqlNil', aBin_neqNil, aBin_neqNil', aUn_not, aUn_neg, aNil_ptr, aOff_ptr, aInt_int, aLenStr_str, aLenS_slice, aLenS_nil, aFold_min, aFold_max, bs_size, bs_empty, Nat.zero_add, Nat.add_zero, Nat.reduceAdd, ok_load, Mem.get_set, Mem.set_set, List.getElem?_cons_zero, List.getElem?_cons_succ, Option.some.injEq, exists_eq_left', List.set_cons_zero, List.set_cons_succ, hp.len, d1, decide_false, Bool.false_eq_true, if_false]
    exact hq _ (fun h => ⟨by have := of_decide_eq_true h; omega, hall⟩)

theorem few20_in {K : Nat → Prop} {f : FrameD} {v vb : AV} {c : List BandD} {i i4 b1 o1 : Nat} {m0 : Mem} {Q : AV → Mem → Prop} {rec : Nat → List AV → M AV} (hg4 : m0.get i4 = .cells T_api_Frame 0 (frameC f v)) (hix1 : aIdxS 1 v (.int .i64 i) = some (.ptr b1 o1)) (hl1 : load? none (.ptr b1 o1) m0 = some vb) (hv : BandsR K m0 vb c) (hc : c.length ≤ 15) (hi : i < 1000)
    (hno : Q (.bool false) m0) (hq : Ok (fun k => rec k [.ptr i4 0, .int .i64 (i + 1 : Nat)]) m0 Q) :
    Ok (fun k => loopN (fun r l => ref20_Few_l1 (fcall Tryz.prog ext1 k) k (rec k) r (l.getD 0 .undef) (l.getD 1 .undef) (l.getD 2 .undef)) k [.ptr i4 0, .int .i64 i, .int .i64 0]) m0 Q := by
  refine Ok.loop (fun k l m => m = m0 ∧ ∃ j : Nat, k + j = c.length ∧ l = [.ptr i4 0, .int .i64 i, .int .i64 j]) ?_ (k := c.length) ⟨rfl, 0, rfl, rfl⟩
  rintro k l m rec' ⟨rfl, j, hk, rfl⟩ ih
  unfold frameC at hg4
  by_cases h1 : j < c.length
  · have d1 : (j : Int) < (c.length : Int) := by omega
    obtain ⟨b, hb⟩ : ∃ b, c[j]? = some b := ⟨c[j], List.getElem?_eq_getElem h1⟩
    obtain ⟨b', o, ce, hix, hKb, hl3, ⟨vp, rfl, hw1, hw2, hp⟩, hl, hld⟩ := hv.at hb
    have l2 : load? none (.ptr b' (o + 2)) m = some vp := hld 2 _ rfl
    have e4 : IntKind.i64.wrap ((j : Int) + 1) = ((j + 1 : Nat) : Int) := by rw [IntWalk.i64_in _ (by omega)]; omega
    simp -implicitDefEqProofs only [List.getD_cons_zero, List.getD_cons_succ, ref20_Few_l1, lp_some', mc_true, mc_false, ok_ret, ok_mc, ok_snap, aBin_add, aBin_sub, aBin_mul, aBin_lss, aBin_leq, aBin_gtr, aBin_geq, aBin_eql, aBin_neq, aBin_eqlStr, aBin_neqStr, strEq_bs, aBin_eqlNil, aBin_eqlNil', aBin_neqNil, aBin_neqNil', aUn_not, aUn_neg, aNil_ptr, aOff_ptr, aInt_int, aLenStr_str, aLenS_slice, aLenS_nil, aFold_min, aFold_max, bs_size, bs_empty, Nat.zero_add, Nat.add_zero, Nat.reduceAdd, ok_load, Mem.get_set, Mem.set_set, List.getElem?_cons_zero, List.getElem?_cons_succ, Option.some.injEq, exists_eq_left', List.set_cons_zero, List.set_cons_succ, load_at hg4, hix1, hl1, hv.len, d1, decide_true, if_true, hix, l2, hp.len]
    by_cases h2 : (10 : Int) < (b.p.length : Int)
    · simp -implicitDefEqProofs only [h2, decide_true, if_true]
      exact hno
    · simp -implicitDefEqProofs only [h2, decide_false, Bool.false_eq_true, if_false, e4]
      exact ih (k - 1) _ _ (by omega) ⟨rfl, j + 1, by omega, rfl⟩
  · obtain rfl : j = c.length := by omega
    have d1 : ¬ (c.length : Int) < (c.length : Int) := by omega
    have e4 : IntKind.i64.wrap ((i : Int) + 1) = ((i + 1 : Nat) : Int) := by rw [IntWalk.i64_in _ (by omega)]; omega
    simp -implicitDefEqProofs only [List.getD_cons_zero, List.getD_cons_succ, ref20_Few_l1, lp_some', mc_true, mc_false, ok_ret, ok_mc, ok_snap, aBin_add, aBin_sub, aBin_mul, aBin_lss, aBin_leq, aBin_gtr, aBin_geq, aBin_eql, aBin_neq, aBin_eqlStr, aBin_neqStr, strEq_bs, aBin_eqlNil, aBin_eqlNil', aBin_neqNil, aBin_neqNil', aUn_not, aUn_neg, aNil_ptr, aOff_ptr, aInt_int, aLenStr_str, aLenS_slice, aLenS_nil, aFold_min, aFold_max, bs_size, bs_empty, Nat.zero_add, Nat.add_zero, Nat.reduceAdd, ok_load, Mem.get_set, Mem.set_set, List.getElem?_cons_zero, List.getElem?_cons_succ, Option.some.injEq, exists_eq_left', List.set_cons_zero, List.set_cons_succ, load_at hg4, hix1, hl1, hv.len, d1, decide_false, Bool.false_eq_true, if_false, e4]
    exact hq
theorem few20_ok {K : Nat → Prop} {f : FrameD} {v : AV} {m : Mem} {Q : AV → Mem → Prop} (hv : ChansR K m v f.chans) (hK : ∀ b, K b → b < m.next)
    (hq : ∀ m' (b : Bool), Same m m' → Q (.bool b) m') : Ok (R fn_ref20_Few [.agg (frameC f v)]) m Q := by
  refine Ok.call (fun n => ref20_Few_eq rfl n _) ?_
  have hS := Same.alloc m (.cells T_api_Frame 0 (frameC f v))
  have hg0 := Mem.get_alloc m (.cells T_api_Frame 0 (frameC f v))
  simp -implicitDefEqProofs only [ref20_Few, ok_box]
  generalize m.alloc (.cells T_api_Frame 0 (frameC f v)) = m1 at *
  have hv1 := hv.keep (m' := m1) (fun b hb => hS.get (hK b hb))
  have hg := hg0
  unfold frameC at hg
  have hq1 := fun b => hq m1 b hS
  simp -implicitDefEqProofs only [lp_some', mc_true, mc_false, ok_ret, ok_mc, ok_snap, aBin_add, aBin_sub, aBin_mul, aBin_lss, aBin_leq, aBin_gtr, aBin_geq, aBin_eql, aBin_neq, aBin_eqlStr, aBin_neqStr, strEq_bs, aBin_eqlNil, aBin_eqlNil', aBin_neqNil, aBin_neqNil', aUn_not, aUn_neg, aNil_ptr, aOff_ptr, aInt_int, aLenStr_str, aLenS_slice, aLenS_nil, aFold_min, aFold_max, bs_size, bs_empty, Nat.zero_add, Nat.add_zero, Nat.reduceAdd, ok_load, Mem.get_set, Mem.set_set, List.getElem?_cons_zero, List.getElem?_cons_succ, Option.some.injEq, exists_eq_left', List.set_cons_zero, List.set_cons_succ, load_at hg, hv1.len]
  by_cases h1 : (4 : Int) < (f.chans.length : Int)
  · simp -implicitDefEqProofs only [h1, decide_true, if_true]
    exact hq1 false
  · simp -implicitDefEqProofs only [h1, decide_false, Bool.false_eq_true, if_false]
    refine Ok.loop (fun k l m' => m' = m1 ∧ ∃ i : Nat, k + i = f.chans.length ∧ l = [.ptr m.next 0, .int .i64 i]) ?_ (k := f.chans.length) ⟨rfl, 0, rfl, rfl⟩
    rintro k l m' rec ⟨rfl, i, hk, rfl⟩ ih
    by_cases h2 : i < f.chans.length
    · have d1 : (i : Int) < (f.chans.length : Int) := by omega
      obtain ⟨c, hc⟩ : ∃ c, f.chans[i]? = some c := ⟨f.chans[i], List.getElem?_eq_getElem h2⟩
      obtain ⟨b', o, ce, hix, hKb, -, ⟨vb, rfl, hb⟩, -, hld⟩ := hv1.at hc
      have l0 : load? none (.ptr b' o) m' = some vb := hld 0 _ rfl
      simp -implicitDefEqProofs only [List.getD_cons_zero, List.getD_cons_succ, ref20_Few_l0, lp_some', mc_true, mc_false, ok_ret, ok_mc, ok_snap, aBin_add, aBin_sub, aBin_mul, aBin_lss, aBin_leq, aBin_gtr, aBin_geq, aBin_eql, aBin_neq, aBin_eqlStr, aBin_neqStr, strEq_bs, aBin_eqlNil, aBin_eqlNil', aBin_neqNil, aBin_neqNil', aUn_not, aUn_neg, aNil_ptr, aOff_ptr, aInt_int, aLenStr_str, aLenS_slice, aLenS_nil, aFold_min, aFold_max, bs_size, bs_empty, Nat.zero_add, Nat.add_zero, Nat.reduceAdd, ok_load, Mem.get_set, Mem.set_set, List.getElem?_cons_zero, List.getElem?_cons_succ, Option.some.injEq, exists_eq_left', List.set_cons_zero, List.set_cons_succ, load_at hg, hv1.len, d1, decide_true, if_true, hix, l0, hb.len]
      by_cases h3 : (15 : Int) < (c.length : Int)
      · simp -implicitDefEqProofs only [h3, decide_true, if_true]
        exact hq1 false
      · simp -implicitDefEqProofs only [h3, decide_false, Bool.false_eq_true, if_false]
        refine few20_in hg0 (hix .i64) l0 hb (by omega) (by omega) (hq1 false) (ih (k - 1) _ _ (by omega) ⟨rfl, i + 1, by omega, rfl⟩)
    · obtain rfl : i = f.chans.length := by omega
      have d1 : ¬ (f.chans.length : Int) < (f.chans.length : Int) := by omega
      simp -implicitDefEqProofs only [List.getD_cons_zero, List.getD_cons_succ, ref20_Few_l0, lp_some', mc_true, mc_false, ok_ret, ok_mc, ok_snap, aBin_add, aBin_sub, aBin_mul, aBin_lss, aBin_leq, aBin_gtr, aBin_geq, aBin_eql, aBin_neq, aBin_eqlStr, aBin_neqStr, strEq_bs, aBin_eqlNil, aBin_eqlNil', aBin_neqNil, aBin_neqNil', aUn_not, aUn_neg, aNil_ptr, aOff_ptr, aInt_int, aLenStr_str, aLenS_slice, aLenS_nil, aFold_min, aFold_max, bs_size, bs_empty, Nat.zero_add, Nat.add_zero, Nat.reduceAdd, ok_load, Mem.get_set, Mem.set_set, List.getElem?_cons_zero, List.getElem?_cons_succ, Option.some.injEq, exists_eq_left', List.set_cons_zero, List.set_cons_succ, load_at hg, hv1.len, d1, decide_false, Bool.false_eq_true, if_false]
      exact hq1 true

theorem codePuts_ok {K : Nat → Prop} {f : FrameD} {p : List (List Int)} {n q : Int} {m : Mem} {v vp : AV} (hv : ChansR K m v f.chans) (hK : ∀ b, K b → b < m.next) (hbn : m.base ≤ m.next) (hp : RowsR K m vp p) (hl : p.length ≤ 9223372036854775807) :
    Ok (R fn_law22_CodePuts [.agg (frameC f v), .int .i64 n, .int .i64 q, vp]) m (fun v _ => v = .bool true) := by
  refine Ok.call (fun k => law22_CodePuts_eq rfl k _ _ _ _) ?_
  have hS := Same.alloc m (.cells T_api_Frame 0 (frameC f v))
  have hg0 := Mem.get_alloc m (.cells T_api_Frame 0 (frameC f v))
  have hnx : m.next < (m.alloc (.cells T_api_Frame 0 (frameC f v))).next := Nat.lt_succ_self _
  simp -implicitDefEqProofs only [law22_CodePuts, ok_box]
  generalize m.alloc (.cells T_api_Frame 0 (frameC f v)) = m1 at *
  have hv1 := hv.keep (m' := m1) (fun b hb => hS.get (hK b hb))
  have hp1 := hp.keep (m' := m1) (fun b hb => hS.get (hK b hb))
  have hK1 : ∀ b, K b → b < m1.next := fun b hb => Nat.lt_of_lt_of_le (hK b hb) hS.next
  have hld : load? (some 5) (.ptr m.next 0) m1 = some (.agg (frameC f v)) := by rw [load_at' hg0]; rfl
  simp -implicitDefEqProofs only [lp_some', mc_true, mc_false, ok_ret, ok_mc, ok_snap, aBin_add, aBin_sub, aBin_mul, aBin_lss, aBin_leq, aBin_gtr, aBin_geq, aBin_eql, aBin_neq, aBin_eqlStr, aBin_neqStr, strEq_bs, aBin_eqlNil, aBin_eqlNil', aBin_neqNil, aBin_neqNil', aUn_not, aUn_neg, aNil_ptr, aOff_ptr, aInt_int, aLenStr_str, aLenS_slice, aLenS_nil, aFold_min, aFold_max, bs_size, bs_empty, Nat.zero_add, Nat.add_zero, Nat.reduceAdd, ok_load, Mem.get_set, Mem.set_set, List.getElem?_cons_zero, List.getElem?_cons_succ, Option.some.injEq, exists_eq_left', List.set_cons_zero, List.set_cons_succ, hld]
  refine Ok.bnd (few20_ok hv1 hK1 fun m2 b hS2 => ?_)
  have hS12 := hS.trans hS2
  have hp2 := hp.keep (m' := m2) (fun b hb => hS12.get (hK b hb))
  have hv2 := hv.keep (m' := m2) (fun b hb => hS12.get (hK b hb))
  have hg2 := (hS2.get hnx).trans hg0
  have haw : Ok (fun k => law22_CodePuts_j0 (fcall Tryz.prog ext1 k) k (.int .i64 n) (.int .i64 q) vp (.ptr m.next 0) (.bool true)) m2 (fun v _ => v = .bool true) := by
    simp -implicitDefEqProofs only [law22_CodePuts_j0, lp_some', mc_true, mc_false, ok_ret, ok_mc, ok_snap, aBin_add, aBin_sub, aBin_mul, aBin_lss, aBin_leq, aBin_gtr, aBin_geq, aBin_eql, aBin_neq, aBin_eqlStr, aBin_neqStr, strEq_bs, aBin_eqlNil, aBin_eqlNil', aBin_neqNil, aBin_neqNil', aUn_not, aUn_neg, aNil_ptr, aOff_ptr, aInt_int, aLenStr_str, aLenS_slice, aLenS_nil, aFold_min, aFold_max, bs_size, bs_empty, Nat.zero_add, Nat.add_zero, Nat.reduceAdd, ok_load, Mem.get_set, Mem.set_set, List.getElem?_cons_zero, List.getElem?_cons_succ, Option.some.injEq, exists_eq_left', List.set_cons_zero, List.set_cons_succ, if_true]
    refine Ok.bnd (awake_ok ?_)
    simp -implicitDefEqProofs only [lp_some', mc_true, mc_false, ok_ret, ok_mc, ok_snap, aBin_add, aBin_sub, aBin_mul, aBin_lss, aBin_leq, aBin_gtr, aBin_geq, aBin_eql, aBin_neq, aBin_eqlStr, aBin_neqStr, strEq_bs, aBin_eqlNil, aBin_eqlNil', aBin_neqNil, aBin_neqNil', aUn_not, aUn_neg, aNil_ptr, aOff_ptr, aInt_int, aLenStr_str, aLenS_slice, aLenS_nil, aFold_min, aFold_max, bs_size, bs_empty, Nat.zero_add, Nat.add_zero, Nat.reduceAdd, ok_load, Mem.get_set, Mem.set_set, List.getElem?_cons_zero, List.getElem?_cons_succ, Option.some.injEq, exists_eq_left', List.set_cons_zero, List.set_cons_succ]
  cases b with
  | false =>
    simp -implicitDefEqProofs only [lp_some', mc_true, mc_false, ok_ret, ok_mc, ok_snap, aBin_add, aBin_sub, aBin_mul, aBin_lss, aBin_leq, aBin_gtr, aBin_geq, aBin_eql, aBin_neq, aBin_eqlStr, aBin_neqStr, strEq_bs, aBin_eqlNil, aBin_eqlNil', aBin_neqNil, aBin_neqNil', aUn_not, aUn_neg, aNil_ptr, aOff_ptr, aInt_int, aLenStr_str, aLenS_slice, aLenS_nil, aFold_min, aFold_max, bs_size, bs_empty, Nat.zero_add, Nat.add_zero, Nat.reduceAdd, ok_load, Mem.get_set, Mem.set_set, List.getElem?_cons_zero, List.getElem?_cons_succ, Option.some.injEq, exists_eq_left', List.set_cons_zero, List.set_cons_succ, Bool.not_false, if_true]
    exact haw
  | true =>
    simp -implicitDefEqProofs only [lp_some', mc_true, mc_false, ok_ret, ok_mc, ok_snap, aBin_add, aBin_sub, aBin_mul, aBin_lss, aBin_leq, aBin_gtr, aBin_geq, aBin_eql, aBin_neq, aBin_eqlStr, aBin_neqStr, strEq_bs, aBin_eqlNil, aBin_eqlNil', aBin_neqNil, aBin_neqNil', aUn_not, aUn_neg, aNil_ptr, aOff_ptr, aInt_int, aLenStr_str, aLenS_slice, aLenS_nil, aFold_min, aFold_max, bs_size, bs_empty, Nat.zero_add, Nat.add_zero, Nat.reduceAdd, ok_load, Mem.get_set, Mem.set_set, List.getElem?_cons_zero, List.getElem?_cons_succ, Option.some.injEq, exists_eq_left', List.set_cons_zero, List.set_cons_succ, Bool.not_true, Bool.false_eq_true, if_false]
    refine Ok.bnd (few22_ok hp2 hl fun b hb => ?_)
    cases b with
    | false =>
      simp -implicitDefEqProofs only [lp_some', mc_true, mc_false, ok_ret, ok_mc, ok_snap, aBin_add, aBin_sub, aBin_mul, aBin_lss, aBin_leq, aBin_gtr, aBin_geq, aBin_eql, aBin_neq, aBin_eqlStr, aBin_neqStr, strEq_bs, aBin_eqlNil, aBin_eqlNil', aBin_neqNil, aBin_neqNil', aUn_not, aUn_neg, aNil_ptr, aOff_ptr, aInt_int, aLenStr_str, aLenS_slice, aLenS_nil, aFold_min, aFold_max, bs_size, bs_empty, Nat.zero_add, Nat.add_zero, Nat.reduceAdd, ok_load, Mem.get_set, Mem.set_set, List.getElem?_cons_zero, List.getElem?_cons_succ, Option.some.injEq, exists_eq_left', List.set_cons_zero, List.set_cons_succ, Bool.not_false]
      exact haw
    | true =>
      obtain ⟨hl4, hl15⟩ := hb rfl
      have hld2 : load? (some 5) (.ptr m.next 0) m2 = some (.agg (frameC f v)) := by rw [load_at' hg2]; rfl
      have hK2 : ∀ b, (K b ∨ b = m.next) → b < m2.next := fun b hb => by
        rcases hb with hb | rfl
        · exact Nat.lt_of_lt_of_le (hK b hb) hS12.next
        · exact Nat.lt_of_lt_of_le hnx hS2.next
      have hbn2 := hS12.bn hbn
      simp -implicitDefEqProofs only [lp_some', mc_true, mc_false, ok_ret, ok_mc, ok_snap, aBin_add, aBin_sub, aBin_mul, aBin_lss, aBin_leq, aBin_gtr, aBin_geq, aBin_eql, aBin_neq, aBin_eqlStr, aBin_neqStr, strEq_bs, aBin_eqlNil, aBin_eqlNil', aBin_neqNil, aBin_neqNil', aUn_not, aUn_neg, aNil_ptr, aOff_ptr, aInt_int, aLenStr_str, aLenS_slice, aLenS_nil, aFold_min, aFold_max, bs_size, bs_empty, Nat.zero_add, Nat.add_zero, Nat.reduceAdd, ok_load, Mem.get_set, Mem.set_set, List.getElem?_cons_zero, List.getElem?_cons_succ, Option.some.injEq, exists_eq_left', List.set_cons_zero, List.set_cons_succ, Bool.not_true, law22_CodePuts_j0, Bool.false_eq_true, if_false, hld2]
      have hrest : ∀ (s : List UInt8) (e : Int) (m3 : Mem), (∀ Q : AV → Mem → Prop, (∀ m4, Q (.tup [.str (bs s), .int .i64 e]) m4) → Ok (R fn_ref22_Put [.agg (frameC f v), .int .i64 n, .int .i64 q, vp]) m3 Q) → load? (some 5) (.ptr m.next 0) m3 = some (.agg (frameC f v)) →
          Ok (fun k => lp (aExt 0 (.tup [.str (bs s), .int .i64 e])) fun v28 => lp (aExt 1 (.tup [.str (bs s), .int .i64 e])) fun v29 => bnd (load (some 5) (.ptr m.next 0)) fun v31 => bnd (fcall Tryz.prog ext1 k fn_ref22_Put [v31, .int .i64 n, .int .i64 q, vp]) fun v35 => lp (aExt 0 v35) fun v36 => lp (aExt 1 v35) fun v37 => lp (aBin .eql [7] v28 v36) fun v40 => mc v40 (lp (aBin .eql [6] v29 v37) fun v44 => mc v44 (bnd (fcall Tryz.prog ext1 k fn_law22_awake []) fun v47 => law22_CodePuts_j1 (fcall Tryz.prog ext1 k) k v47) (law22_CodePuts_j1 (fcall Tryz.prog ext1 k) k (.bool false))) (law22_CodePuts_j1 (fcall Tryz.prog ext1 k) k (.bool false))) m3 (fun v _ => v = .bool true) := by
        intro s e m3 hR hld3
        simp -implicitDefEqProofs only [aExt, lp_some', mc_true, mc_false, ok_ret, ok_mc, ok_snap, aBin_add, aBin_sub, aBin_mul, aBin_lss, aBin_leq, aBin_gtr, aBin_geq, aBin_eql, aBin_neq, aBin_eqlStr, aBin_neqStr, strEq_bs, aBin_eqlNil, aBin_eqlNil', aBin_neqNil, aBin_neqNil', aUn_not, aUn_neg, aNil_ptr, aOff_ptr, aInt_int, aLenStr_str, aLenS_slice, aLenS_nil, aFold_min, aFold_max, bs_size, bs_empty, Nat.zero_add, Nat.add_zero, Nat.reduceAdd, ok_load, Mem.get_set, Mem.set_set, List.getElem?_cons_zero, List.getElem?_cons_succ, Option.some.injEq, exists_eq_left', List.set_cons_zero, List.set_cons_succ, hld3, List.getElem?_cons_zero, List.getElem?_cons_succ]
        refine Ok.bnd (hR _ fun m4 => ?_)
        simp -implicitDefEqProofs only [aExt, lp_some', mc_true, mc_false, ok_ret, ok_mc, ok_snap, aBin_add, aBin_sub, aBin_mul, aBin_lss, aBin_leq, aBin_gtr, aBin_geq, aBin_eql, aBin_neq, aBin_eqlStr, aBin_neqStr, strEq_bs, aBin_eqlNil, aBin_eqlNil', aBin_neqNil, aBin_neqNil', aUn_not, aUn_neg, aNil_ptr, aOff_ptr, aInt_int, aLenStr_str, aLenS_slice, aLenS_nil, aFold_min, aFold_max, bs_size, bs_empty, Nat.zero_add, Nat.add_zero, Nat.reduceAdd, ok_load, Mem.get_set, Mem.set_set, List.getElem?_cons_zero, List.getElem?_cons_succ, Option.some.injEq, exists_eq_left', List.set_cons_zero, List.set_cons_succ, List.getElem?_cons_zero, List.getElem?_cons_succ, decide_true, if_true]
        refine Ok.bnd (awake_ok ?_)
        simp -implicitDefEqProofs only [law22_CodePuts_j1, lp_some', mc_true, mc_false, ok_ret, ok_mc, ok_snap, aBin_add, aBin_sub, aBin_mul, aBin_lss, aBin_leq, aBin_gtr, aBin_geq, aBin_eql, aBin_neq, aBin_eqlStr, aBin_neqStr, strEq_bs, aBin_eqlNil, aBin_eqlNil', aBin_neqNil, aBin_neqNil', aUn_not, aUn_neg, aNil_ptr, aOff_ptr, aInt_int, aLenStr_str, aLenS_slice, aLenS_nil, aFold_min, aFold_max, bs_size, bs_empty, Nat.zero_add, Nat.add_zero, Nat.reduceAdd, ok_load, Mem.get_set, Mem.set_set, List.getElem?_cons_zero, List.getElem?_cons_succ, Option.some.injEq, exists_eq_left', List.set_cons_zero, List.set_cons_succ]
      have hKK : ∀ m3, Kept (fun b => K b ∨ b = m.next) m2 m3 → load? (some 5) (.ptr m.next 0) m3 = some (.agg (frameC f v)) := fun m3 hk => by
        rw [load_at' ((hk.get _ (.inr rfl)).trans hg2)]; rfl
      refine Ok.bnd (put_ok (K := fun b => K b ∨ b = m.next) (f := f) (p := p) (n := n) (q := q) (hv2.mono fun b hb => .inl hb) hK2 hbn2 (RowsR.mono hp2 fun b hb => .inl hb) (by omega) (fun r hr => by have := hl15 r hr; omega) (fun hP m3 hk => ?_) (fun hP m3 hk => ?_))
      · refine hrest _ _ m3 (fun Q hQ => ?_) (hKK m3 hk)
        refine rput_ok (K := K) (hv2.keep (m' := m3) fun b hb => hk.get b (.inl hb)) (fun b hb => Nat.lt_of_lt_of_le (hK2 b (.inl hb)) hk.next) (by rw [hk.base]; exact Nat.le_trans hbn2 hk.next) (hp2.keep (m' := m3) fun b hb => hk.get b (.inl hb)) (by omega) (fun _ m4 _ => hQ m4) (fun h => absurd hP h)
      · have e0 : (.str .empty : AV) = .str (bs []) := by rw [bs_empty]
        rw [e0]
        refine hrest _ _ m3 (fun Q hQ => ?_) (hKK m3 hk)
        refine rput_ok (K := K) (hv2.keep (m' := m3) fun b hb => hk.get b (.inl hb)) (fun b hb => Nat.lt_of_lt_of_le (hK2 b (.inl hb)) hk.next) (by rw [hk.base]; exact Nat.le_trans hbn2 hk.next) (hp2.keep (m' := m3) fun b hb => hk.get b (.inl hb)) (by omega) (fun h => absurd h hP) (fun _ m4 _ => by rw [e0]; exact hQ m4)
end SplA
