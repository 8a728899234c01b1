/- What the document's functions of frames do. -/
import Derived.Test.YtooogfnmhfocjaaGreatDoorSplRw
import Derived.Test.YtooogfnmhfocjaaGreatDoorSplWr
namespace SplA
open Go.Proofs.YtooogfnmhfocjaaGreatDoor.Spl Go Go.Proofs
set_option maxRecDepth 100000
set_option linter.unusedVariables false
set_option linter.unusedSimpArgs false

theorem bit_ok {b : Bool} {m : Mem} {Q : AV → Mem → Prop} (hq : Q (.int .i64 (if b then 1 else 0)) m) : Ok (R fn_ref22_bit [.bool b]) m Q := by
  refine Ok.call (fun n => ref22_bit_eq rfl n _) ?_
  cases b with
  | true => simp -implicitDefEqProofs only [ref22_bit, lp_some', mc_true, mc_false, ok_ret, ok_mc, ok_snap, aBin_add, aBin_sub, aBin_mul, aBin_lss, aBin_leq, aBin_gtr, aBin_geq, aBin_eql, aBin_neq, aBin_eqlStr, aBin_neqStr, strEq_bs, aBin_eqlNil, aBin_eqlNil', aBin_neqNil, aBin_neqNil', aUn_not, aUn_neg, aNil_ptr, aOff_ptr, aInt_int, aLenStr_str, aLenS_slice, aLenS_nil, aFold_min, aFold_max, bs_size, bs_empty, Nat.zero_add, Nat.add_zero, Nat.reduceAdd, ok_load, Mem.get_set, Mem.set_set, List.getElem?_cons_zero, List.getElem?_cons_succ, Option.some.injEq, exists_eq_left', List.set_cons_zero, List.set_cons_succ, if_true]; exact hq
  | false => simp -implicitDefEqProofs only [ref22_bit, lp_some', mc_true, mc_false, ok_ret, ok_mc, ok_snap, aBin_add, aBin_sub, aBin_mul, aBin_lss, aBin_leq, aBin_gtr, aBin_geq, aBin_eql, aBin_neq, aBin_eqlStr, aBin_neqStr, strEq_bs, aBin_eqlNil, aBin_eqlNil', aBin_neqNil, aBin_neqNil', aUn_not, aUn_neg, aNil_ptr, aOff_ptr, aInt_int, aLenStr_str, aLenS_slice, aLenS_nil, aFold_min, aFold_max, bs_size, bs_empty, Nat.zero_add, Nat.add_zero, Nat.reduceAdd, ok_load, Mem.get_set, Mem.set_set, List.getElem?_cons_zero, List.getElem?_cons_succ, Option.some.injEq, exists_eq_left', List.set_cons_zero, List.set_cons_succ, Bool.false_eq_true, if_false]; exact hq
theorem rrow_ok {K : Nat → Prop} {p : List (List Int)} {v : AV} {i : Nat} {m : Mem} {Q : AV → Mem → Prop} (hp : RowsR K m v p) (hq : ∀ u, IntsR K m u (p.getD i []) → Q u m) : Ok (R fn_ref22_row [v, .int .i64 i]) m Q := by
  refine Ok.call (fun n => ref22_row_eq rfl n _ _) ?_
  by_cases h : i < p.length
  · have d : ¬ (p.length : Int) ≤ (i : Int) := by omega
    have hpi : p[i]? = some (p.getD i []) := by rw [List.getD_eq_getElem?_getD, List.getElem?_eq_getElem h]; rfl
    obtain ⟨b, o, ce, hix, -, -, ⟨u, rfl, hu⟩, -, hld⟩ := hp.at hpi
    have l0 : load? none (.ptr b o) m = some u := hld 0 _ rfl
    simp -implicitDefEqProofs only [ref22_row, lp_some', mc_true, mc_false, ok_ret, ok_mc, ok_snap, aBin_add, aBin_sub, aBin_mul, aBin_lss, aBin_leq, aBin_gtr, aBin_geq, aBin_eql, aBin_neq, aBin_eqlStr, aBin_neqStr, strEq_bs, aBin_eqlNil, aBin_eqlNil', aBin_neqNil, aBin_neqNil', aUn_not, aUn_neg, aNil_ptr, aOff_ptr, aInt_int, aLenStr_str, aLenS_slice, aLenS_nil, aFold_min, aFold_max, bs_size, bs_empty, Nat.zero_add, Nat.add_zero, Nat.reduceAdd, ok_load, Mem.get_set, Mem.set_set, List.getElem?_cons_zero, List.getElem?_cons_succ, Option.some.injEq, exists_eq_left', List.set_cons_zero, List.set_cons_succ, hp.len, d, decide_false, Bool.false_eq_true, if_false, hix, l0]
    exact hq u hu
  · have d : (p.length : Int) ≤ (i : Int) := by omega
    have hpi : p.getD i [] = [] := by rw [List.getD_eq_getElem?_getD, List.getElem?_eq_none (by omega)]; rfl
    simp -implicitDefEqProofs only [ref22_row, lp_some', mc_true, mc_false, ok_ret, ok_mc, ok_snap, aBin_add, aBin_sub, aBin_mul, aBin_lss, aBin_leq, aBin_gtr, aBin_geq, aBin_eql, aBin_neq, aBin_eqlStr, aBin_neqStr, strEq_bs, aBin_eqlNil, aBin_eqlNil', aBin_neqNil, aBin_neqNil', aUn_not, aUn_neg, aNil_ptr, aOff_ptr, aInt_int, aLenStr_str, aLenS_slice, aLenS_nil, aFold_min, aFold_max, bs_size, bs_empty, Nat.zero_add, Nat.add_zero, Nat.reduceAdd, ok_load, Mem.get_set, Mem.set_set, List.getElem?_cons_zero, List.getElem?_cons_succ, Option.some.injEq, exists_eq_left', List.set_cons_zero, List.set_cons_succ, hp.len, d, decide_true, if_true]
    exact hq _ (by rw [hpi]; exact .inl ⟨.inl rfl, rfl⟩)
theorem rrows22_ok {K : Nat → Prop} {p : List (List Int)} {v : AV} {n : Int} {m : Mem} {Q : AV → Mem → Prop} (hp : RowsR K m v p) (hlen : p.length ≤ 1000) (h1 : AheadP p n → Q (.bool true) m) (h2 : ¬ AheadP p n → Q (.bool false) m) : Ok (R fn_ref22_rows [v, .int .i64 n]) m Q := by
  refine Ok.call (fun k => ref22_rows_eq rfl k _ _) ?_
  by_cases h3 : (p.length : Int) = n
  · simp -implicitDefEqProofs only [ref22_rows, lp_some', mc_true, mc_false, ok_ret, ok_mc, ok_snap, aBin_add, aBin_sub, aBin_mul, aBin_lss, aBin_leq, aBin_gtr, aBin_geq, aBin_eql, aBin_neq, aBin_eqlStr, aBin_neqStr, strEq_bs, aBin_eqlNil, aBin_eqlNil', aBin_neqNil, aBin_neqNil', aUn_not, aUn_neg, aNil_ptr, aOff_ptr, aInt_int, aLenStr_str, aLenS_slice, aLenS_nil, aFold_min, aFold_max, bs_size, bs_empty, Nat.zero_add, Nat.add_zero, Nat.reduceAdd, ok_load, Mem.get_set, Mem.set_set, List.getElem?_cons_zero, List.getElem?_cons_succ, Option.some.injEq, exists_eq_left', List.set_cons_zero, List.set_cons_succ, hp.len, h3, ne_eq, not_true_eq_false, decide_false, Bool.false_eq_true, if_false]
    rw [← h3]
    refine Ok.loop (fun k l m' => m' = m ∧ ∃ i : Nat, k + i = p.length ∧ l = [v, .int .i64 p.length, .int .i64 i] ∧ ∀ r ∈ p.take i, RightP r) ?_ (k := p.length) ⟨rfl, 0, rfl, rfl, fun _ h => by simp at h⟩
    rintro k l m' rec ⟨rfl, i, hk, rfl, hall⟩ ih
    by_cases h4 : i < p.length
    · have d1 : (i : Int) < (p.length : Int) := by omega
      obtain ⟨r, hr⟩ : ∃ r, p[i]? = some r := ⟨p[i], List.getElem?_eq_getElem h4⟩
      obtain ⟨b', o, ce, hix, hKb, -, ⟨vr, rfl, hR⟩, -, hld⟩ := hp.at hr
      have hld0 : load? none (.ptr b' o) m' = some vr := hld 0 _ rfl
      have hmem := List.mem_of_getElem? hr
      have e2 : IntKind.i64.wrap ((i : Int) + 1) = ((i + 1 : Nat) : Int) := by rw [IntWalk.i64_in _ (by omega)]; omega
      simp -implicitDefEqProofs only [List.getD_cons_zero, List.getD_cons_succ, ref22_rows_l0, lp_some', mc_true, mc_false, ok_ret, ok_mc, ok_snap, aBin_add, aBin_sub, aBin_mul, aBin_lss, aBin_leq, aBin_gtr, aBin_geq, aBin_eql, aBin_neq, aBin_eqlStr, aBin_neqStr, strEq_bs, aBin_eqlNil, aBin_eqlNil', aBin_neqNil, aBin_neqNil', aUn_not, aUn_neg, aNil_ptr, aOff_ptr, aInt_int, aLenStr_str, aLenS_slice, aLenS_nil, aFold_min, aFold_max, bs_size, bs_empty, Nat.zero_add, Nat.add_zero, Nat.reduceAdd, ok_load, Mem.get_set, Mem.set_set, List.getElem?_cons_zero, List.getElem?_cons_succ, Option.some.injEq, exists_eq_left', List.set_cons_zero, List.set_cons_succ, d1, decide_true, if_true, hix, hld0]
      refine Ok.bnd (eright14_ok hR ?_)
      by_cases h5 : RightP r
      · simp -implicitDefEqProofs only [h5, decide_true, lp_some', mc_true, mc_false, ok_ret, ok_mc, ok_snap, aBin_add, aBin_sub, aBin_mul, aBin_lss, aBin_leq, aBin_gtr, aBin_geq, aBin_eql, aBin_neq, aBin_eqlStr, aBin_neqStr, strEq_bs, aBin_eqlNil, aBin_eqlNil', aBin_neqNil, aBin_neqNil', aUn_not, aUn_neg, aNil_ptr, aOff_ptr, aInt_int, aLenStr_str, aLenS_slice, aLenS_nil, aFold_min, aFold_max, bs_size, bs_empty, Nat.zero_add, Nat.add_zero, Nat.reduceAdd, ok_load, Mem.get_set, Mem.set_set, List.getElem?_cons_zero, List.getElem?_cons_succ, Option.some.injEq, exists_eq_left', List.set_cons_zero, List.set_cons_succ, Bool.not_true, Bool.false_eq_true, if_false, e2]
        refine ih (k - 1) _ _ (by omega) ⟨rfl, i + 1, by omega, rfl, fun r' hr' => ?_⟩
        rw [List.take_add_one, List.mem_append] at hr'
        rcases hr' with h | h
        · exact hall r' h
        · rw [hr] at h
          simp at h
          rw [h]; exact h5
      · simp -implicitDefEqProofs only [h5, decide_false, lp_some', mc_true, mc_false, ok_ret, ok_mc, ok_snap, aBin_add, aBin_sub, aBin_mul, aBin_lss, aBin_leq, aBin_gtr, aBin_geq, aBin_eql, aBin_neq, aBin_eqlStr, aBin_neqStr, strEq_bs, aBin_eqlNil, aBin_eqlNil', aBin_neqNil, aBin_neqNil', aUn_not, aUn_neg, aNil_ptr, aOff_ptr, aInt_int, aLenStr_str, aLenS_slice, aLenS_nil, aFold_min, aFold_max, bs_size, bs_empty, Nat.zero_add, Nat.add_zero, Nat.reduceAdd, ok_load, Mem.get_set, Mem.set_set, List.getElem?_cons_zero, List.getElem?_cons_succ, Option.some.injEq, exists_eq_left', List.set_cons_zero, List.set_cons_succ, Bool.not_false, if_true]
        exact h2 (fun h => h5 (h.2 r hmem))
    · obtain rfl : i = p.length := by omega
      have d1 : ¬ (p.length : Int) < (p.length : Int) := by omega
      rw [List.take_length] at hall
      simp -implicitDefEqProofs only [List.getD_cons_zero, List.getD_cons_succ, ref22_rows_l0, lp_some', mc_true, mc_false, ok_ret, ok_mc, ok_snap, aBin_add, aBin_sub, aBin_mul, aBin_lss, aBin_leq, aBin_gtr, aBin_geq, aBin_eql, aBin_neq, aBin_eqlStr, aBin_neqStr, strEq_bs, aBin_eqlNil, aBin_eqlNil', aBin_neqNil, aBin_neqNil', aUn_not, aUn_neg, aNil_ptr, aOff_ptr, aInt_int, aLenStr_str, aLenS_slice, aLenS_nil, aFold_min, aFold_max, bs_size, bs_empty, Nat.zero_add, Nat.add_zero, Nat.reduceAdd, ok_load, Mem.get_set, Mem.set_set, List.getElem?_cons_zero, List.getElem?_cons_succ, Option.some.injEq, exists_eq_left', List.set_cons_zero, List.set_cons_succ, d1, decide_false, Bool.false_eq_true, if_false]
      exact h1 ⟨h3, hall⟩
  · simp -implicitDefEqProofs only [ref22_rows, lp_some', mc_true, mc_false, ok_ret, ok_mc, ok_snap, aBin_add, aBin_sub, aBin_mul, aBin_lss, aBin_leq, aBin_gtr, aBin_geq, aBin_eql, aBin_neq, aBin_eqlStr, aBin_neqStr, strEq_bs, aBin_eqlNil, aBin_eqlNil', aBin_neqNil, aBin_neqNil', aUn_not, aUn_neg, aNil_ptr, aOff_ptr, aInt_int, aLenStr_str, aLenS_slice, aLenS_nil, aFold_min, aFold_max, bs_size, bs_empty, Nat.zero_add, Nat.add_zero, Nat.reduceAdd, ok_load, Mem.get_set, Mem.set_set, List.getElem?_cons_zero, List.getElem?_cons_succ, Option.some.injEq, exists_eq_left', List.set_cons_zero, List.set_cons_succ, hp.len, h3, ne_eq, not_false_eq_true, decide_true, if_true]
    exact h2 (fun h => h3 h.1)

theorem rfits_ok {K : Nat → Prop} {b : BandD} {ce : List AV} {q : Int} {n : Nat} {m : Mem} {Q : AV → Mem → Prop} (hb : RBand K m ce b) (hK : ∀ b, K b → b < m.next)
    (hq : ∀ m', Same m m' → Q (.bool (decide (FitsP b q n))) m') : Ok (R fn_ref20_Band [.agg ce, .int .i64 q, .int .i64 (widthN n)]) m Q := by
  obtain ⟨v, rfl, hc, hf, hp⟩ := hb
  refine Ok.call (fun k => ref20_Band_eq rfl k _ _ _) ?_
  simp -implicitDefEqProofs only [ref20_Band, ok_box]
  have hS1 := Same.alloc m (.cells T_api_Band 0 [.int .i64 b.c, .int .i64 b.f, v])
  have hg := Mem.get_alloc m (.cells T_api_Band 0 [.int .i64 b.c, .int .i64 b.f, v])
  generalize m.alloc (.cells T_api_Band 0 [.int .i64 b.c, .int .i64 b.f, v]) = m1 at *
  have hp1 := hp.keep (m' := m1) (fun b hb => hS1.get (hK b hb))
  simp -implicitDefEqProofs only [lp_some', mc_true, mc_false, ok_ret, ok_mc, ok_snap, aBin_add, aBin_sub, aBin_mul, aBin_lss, aBin_leq, aBin_gtr, aBin_geq, aBin_eql, aBin_neq, aBin_eqlStr, aBin_neqStr, strEq_bs, aBin_eqlNil, aBin_eqlNil', aBin_neqNil, aBin_neqNil', aUn_not, aUn_neg, aNil_ptr, aOff_ptr, aInt_int, aLenStr_str, aLenS_slice, aLenS_nil, aFold_min, aFold_max, bs_size, bs_empty, Nat.zero_add, Nat.add_zero, Nat.reduceAdd, ok_load, Mem.get_set, Mem.set_set, List.getElem?_cons_zero, List.getElem?_cons_succ, Option.some.injEq, exists_eq_left', List.set_cons_zero, List.set_cons_succ, load_at hg]
  refine Ok.bnd (rsize_ok hp1 ?_)
  have hno : ¬ FitsP b q n → Q (.bool false) m1 := fun h => by
    have := hq m1 hS1
    rw [decide_eq_false h] at this
    exact this
  have hq1 := hq m1 hS1
  have htail : 0 ≤ b.c → b.c ≤ 23 → 0 ≤ b.f → b.f ≤ 3 → (b.c = 0 → b.f = 0) → ∀ hlen : b.p.length = widthN n, ∀ k, sizeN b.p = some k → ∀ x : Bool, (x = decide ((k : Int) = (bandN q b.c (widthN n) : Int))) → Q (.bool x) m1 := by
    intro k1 k2 k3 k4 k5 k6 k hk x hx
    have : x = decide (FitsP b q n) := by
      rw [hx]
      refine decide_eq_decide.2 ⟨fun h => ⟨by rw [hk]; congr 1; omega, k6, k5, k1, k2, k3, k4⟩, fun h => ?_⟩
      have := h.1
      rw [hk] at this
      cases this
      rfl
    rw [this]
    exact hq1
  simp -implicitDefEqProofs only [sizeV, aExt, lp_some', mc_true, mc_false, ok_ret, ok_mc, ok_snap, aBin_add, aBin_sub, aBin_mul, aBin_lss, aBin_leq, aBin_gtr, aBin_geq, aBin_eql, aBin_neq, aBin_eqlStr, aBin_neqStr, strEq_bs, aBin_eqlNil, aBin_eqlNil', aBin_neqNil, aBin_neqNil', aUn_not, aUn_neg, aNil_ptr, aOff_ptr, aInt_int, aLenStr_str, aLenS_slice, aLenS_nil, aFold_min, aFold_max, bs_size, bs_empty, Nat.zero_add, Nat.add_zero, Nat.reduceAdd, ok_load, Mem.get_set, Mem.set_set, List.getElem?_cons_zero, List.getElem?_cons_succ, Option.some.injEq, exists_eq_left', List.set_cons_zero, List.set_cons_succ, load_at hg]
  by_cases c1 : 0 ≤ b.c
  · by_cases c2 : b.c ≤ 23
    · by_cases c3 : 0 ≤ b.f
      · by_cases c4 : b.f ≤ 3
        · simp -implicitDefEqProofs only [c1, c2, c3, c4, decide_true, if_true, hp1.len]
          have hrest : (b.c = 0 → b.f = 0) → ∀ Z : Prop, (Z ↔ (if decide ((b.p.length : Int) = (widthN n : Int)) = true then if (sizeN b.p).isSome = true then Ok (fun k => bnd (fcall Tryz.prog ext1 k fn_ref15_Band [.int .i64 q, .int .i64 b.c, .int .i64 (widthN n)]) fun v59 => lp (aBin .eql [6] (.int .i64 ((sizeN b.p).getD 0 : Nat)) v59) fun v60 => ret v60) m1 Q else Q (.bool false) m1 else Q (.bool false) m1)) → Z := by
            intro k5 Z hZ
            rw [hZ]
            by_cases c6 : b.p.length = widthN n
            · have d6 : (b.p.length : Int) = (widthN n : Int) := by omega
              rw [if_pos (decide_eq_true d6)]
              cases hs : sizeN b.p with
              | none => exact hno (fun h => by rw [h.1] at hs; cases hs)
              | some k =>
                rw [if_pos (show (some k).isSome = true from rfl)]
                refine Ok.bnd (rband_ok ?_)
                simp -implicitDefEqProofs only [lp_some', mc_true, mc_false, ok_ret, ok_mc, ok_snap, aBin_add, aBin_sub, aBin_mul, aBin_lss, aBin_leq, aBin_gtr, aBin_geq, aBin_eql, aBin_neq, aBin_eqlStr, aBin_neqStr, strEq_bs, aBin_eqlNil, aBin_eqlNil', aBin_neqNil, aBin_neqNil', aUn_not, aUn_neg, aNil_ptr, aOff_ptr, aInt_int, aLenStr_str, aLenS_slice, aLenS_nil, aFold_min, aFold_max, bs_size, bs_empty, Nat.zero_add, Nat.add_zero, Nat.reduceAdd, ok_load, Mem.get_set, Mem.set_set, List.getElem?_cons_zero, List.getElem?_cons_succ, Option.some.injEq, exists_eq_left', List.set_cons_zero, List.set_cons_succ, Option.getD_some]
                exact htail c1 c2 c3 c4 k5 c6 k hs _ rfl
            · have d6 : ¬ (b.p.length : Int) = (widthN n : Int) := by omega
              rw [if_neg (by rw [decide_eq_false d6]; decide)]
              exact hno (fun h => c6 h.2.1)
          by_cases c5 : 0 < b.c
          · simp -implicitDefEqProofs only [c5, decide_true, if_true, ref20_Band_j0, lp_some', mc_true, mc_false, ok_ret, ok_mc, ok_snap, aBin_add, aBin_sub, aBin_mul, aBin_lss, aBin_leq, aBin_gtr, aBin_geq, aBin_eql, aBin_neq, aBin_eqlStr, aBin_neqStr, strEq_bs, aBin_eqlNil, aBin_eqlNil', aBin_neqNil, aBin_neqNil', aUn_not, aUn_neg, aNil_ptr, aOff_ptr, aInt_int, aLenStr_str, aLenS_slice, aLenS_nil, aFold_min, aFold_max, bs_size, bs_empty, Nat.zero_add, Nat.add_zero, Nat.reduceAdd, ok_load, Mem.get_set, Mem.set_set, List.getElem?_cons_zero, List.getElem?_cons_succ, Option.some.injEq, exists_eq_left', List.set_cons_zero, List.set_cons_succ, load_at hg, hp1.len]
            exact hrest (fun h => by omega) _ Iff.rfl
          · simp -implicitDefEqProofs only [c5, decide_false, Bool.false_eq_true, if_false]
            by_cases c7 : b.f = 0
            · simp -implicitDefEqProofs only [c7, decide_true, if_true, ref20_Band_j0, lp_some', mc_true, mc_false, ok_ret, ok_mc, ok_snap, aBin_add, aBin_sub, aBin_mul, aBin_lss, aBin_leq, aBin_gtr, aBin_geq, aBin_eql, aBin_neq, aBin_eqlStr, aBin_neqStr, strEq_bs, aBin_eqlNil, aBin_eqlNil', aBin_neqNil, aBin_neqNil', aUn_not, aUn_neg, aNil_ptr, aOff_ptr, aInt_int, aLenStr_str, aLenS_slice, aLenS_nil, aFold_min, aFold_max, bs_size, bs_empty, Nat.zero_add, Nat.add_zero, Nat.reduceAdd, ok_load, Mem.get_set, Mem.set_set, List.getElem?_cons_zero, List.getElem?_cons_succ, Option.some.injEq, exists_eq_left', List.set_cons_zero, List.set_cons_succ, load_at hg, hp1.len]
              exact hrest (fun _ => c7) _ Iff.rfl
            · simp -implicitDefEqProofs only [c7, decide_false, Bool.false_eq_true, if_false, ref20_Band_j0, lp_some', mc_true, mc_false, ok_ret, ok_mc, ok_snap, aBin_add, aBin_sub, aBin_mul, aBin_lss, aBin_leq, aBin_gtr, aBin_geq, aBin_eql, aBin_neq, aBin_eqlStr, aBin_neqStr, strEq_bs, aBin_eqlNil, aBin_eqlNil', aBin_neqNil, aBin_neqNil', aUn_not, aUn_neg, aNil_ptr, aOff_ptr, aInt_int, aLenStr_str, aLenS_slice, aLenS_nil, aFold_min, aFold_max, bs_size, bs_empty, Nat.zero_add, Nat.add_zero, Nat.reduceAdd, ok_load, Mem.get_set, Mem.set_set, List.getElem?_cons_zero, List.getElem?_cons_succ, Option.some.injEq, exists_eq_left', List.set_cons_zero, List.set_cons_succ]
              exact hno (fun h => c7 (h.2.2.1 (by omega)))
        · simp -implicitDefEqProofs only [c1, c2, c3, c4, decide_true, decide_false, Bool.false_eq_true, if_false, if_true, ref20_Band_j0, lp_some', mc_true, mc_false, ok_ret, ok_mc, ok_snap, aBin_add, aBin_sub, aBin_mul, aBin_lss, aBin_leq, aBin_gtr, aBin_geq, aBin_eql, aBin_neq, aBin_eqlStr, aBin_neqStr, strEq_bs, aBin_eqlNil, aBin_eqlNil', aBin_neqNil, aBin_neqNil', aUn_not, aUn_neg, aNil_ptr, aOff_ptr, aInt_int, aLenStr_str, aLenS_slice, aLenS_nil, aFold_min, aFold_max, bs_size, bs_empty, Nat.zero_add, Nat.add_zero, Nat.reduceAdd, ok_load, Mem.get_set, Mem.set_set, List.getElem?_cons_zero, List.getElem?_cons_succ, Option.some.injEq, exists_eq_left', List.set_cons_zero, List.set_cons_succ]
          exact hno (fun h => c4 h.2.2.2.2.2.2)
      · simp -implicitDefEqProofs only [c1, c2, c3, decide_true, decide_false, Bool.false_eq_true, if_false, if_true, ref20_Band_j0, lp_some', mc_true, mc_false, ok_ret, ok_mc, ok_snap, aBin_add, aBin_sub, aBin_mul, aBin_lss, aBin_leq, aBin_gtr, aBin_geq, aBin_eql, aBin_neq, aBin_eqlStr, aBin_neqStr, strEq_bs, aBin_eqlNil, aBin_eqlNil', aBin_neqNil, aBin_neqNil', aUn_not, aUn_neg, aNil_ptr, aOff_ptr, aInt_int, aLenStr_str, aLenS_slice, aLenS_nil, aFold_min, aFold_max, bs_size, bs_empty, Nat.zero_add, Nat.add_zero, Nat.reduceAdd, ok_load, Mem.get_set, Mem.set_set, List.getElem?_cons_zero, List.getElem?_cons_succ, Option.some.injEq, exists_eq_left', List.set_cons_zero, List.set_cons_succ]
        exact hno (fun h => c3 h.2.2.2.2.2.1)
    · simp -implicitDefEqProofs only [c1, c2, decide_true, decide_false, Bool.false_eq_true, if_false, if_true, ref20_Band_j0, lp_some', mc_true, mc_false, ok_ret, ok_mc, ok_snap, aBin_add, aBin_sub, aBin_mul, aBin_lss, aBin_leq, aBin_gtr, aBin_geq, aBin_eql, aBin_neq, aBin_eqlStr, aBin_neqStr, strEq_bs, aBin_eqlNil, aBin_eqlNil', aBin_neqNil, aBin_neqNil', aUn_not, aUn_neg, aNil_ptr, aOff_ptr, aInt_int, aLenStr_str, aLenS_slice, aLenS_nil, aFold_min, aFold_max, bs_size, bs_empty, Nat.zero_add, Nat.add_zero, Nat.reduceAdd, ok_load, Mem.get_set, Mem.set_set, List.getElem?_cons_zero, List.getElem?_cons_succ, Option.some.injEq, exists_eq_left', List.set_cons_zero, List.set_cons_succ]
      exact hno (fun h => c2 h.2.2.2.2.1)
  · simp -implicitDefEqProofs only [c1, decide_false, Bool.false_eq_true, if_false, ref20_Band_j0, lp_some', mc_true, mc_false, ok_ret, ok_mc, ok_snap, aBin_add, aBin_sub, aBin_mul, aBin_lss, aBin_leq, aBin_gtr, aBin_geq, aBin_eql, aBin_neq, aBin_eqlStr, aBin_neqStr, strEq_bs, aBin_eqlNil, aBin_eqlNil', aBin_neqNil, aBin_neqNil', aUn_not, aUn_neg, aNil_ptr, aOff_ptr, aInt_int, aLenStr_str, aLenS_slice, aLenS_nil, aFold_min, aFold_max, bs_size, bs_empty, Nat.zero_add, Nat.add_zero, Nat.reduceAdd, ok_load, Mem.get_set, Mem.set_set, List.getElem?_cons_zero, List.getElem?_cons_succ, Option.some.injEq, exists_eq_left', List.set_cons_zero, List.set_cons_succ]
    exact hno (fun h => c1 h.2.2.2.1)

theorem rfit_inner {K : Nat → Prop} {f : FrameD} {v vb : AV} {c : List BandD} {q : Int} {i i4 b1 o1 : Nat} {n : Int} {m0 : Mem} {Q : AV → Mem → Prop} {rec : Nat → List AV → M AV} (hg4 : m0.get i4 = .cells T_api_Frame 0 (frameC f v)) (hi4 : i4 < m0.next) (hve : AV.eqb v v = true) (hix1 : aIdxS 1 v (.int .i64 i) = some (.ptr b1 o1)) (hb1 : b1 < m0.next) (hl1 : load? none (.ptr b1 o1) m0 = some vb) (hv : BandsR K m0 vb c) (hK : ∀ b, K b → b < m0.next) (h13 : c.length = 13) (hi : i < 1000)
    (hno : ∀ m', Same m0 m' → ¬ ChanP q c → Q (.bool false) m')
    (hq : ∀ m', Same m0 m' → ChanP q c → Ok (fun k => rec k [.int .i64 n, .int .i64 q, .ptr i4 0, .int .i64 (i + 1 : Nat)]) m' Q) :
    Ok (fun k => loopN (fun r l => ref20_Fit_l1 (fcall Tryz.prog ext1 k) k (rec k) r (l.getD 0 .undef) (l.getD 1 .undef) (l.getD 2 .undef) (l.getD 3 .undef) (l.getD 4 .undef)) k [.int .i64 n, .int .i64 q, .ptr i4 0, .int .i64 i, .int .i64 0]) m0 Q := by
  refine Ok.loop (fun k l m => ∃ j : Nat, k + j = 13 ∧ l = [.int .i64 n, .int .i64 q, .ptr i4 0, .int .i64 i, .int .i64 j] ∧ (∀ k b, k < j → c[k]? = some b → FitsP b q k) ∧ Same m0 m) ?_ (k := 13) ⟨0, rfl, rfl, fun _ _ h => by omega, Same.refl _⟩
  rintro k l m rec' ⟨j, hk, rfl, hall, hS⟩ ih
  have hv' := hv.keep (m' := m) (fun b hb => hS.get (hK b hb))
  have hg := (hS.get hi4).trans hg4
  unfold frameC at hg
  have hl1' : load? none (.ptr b1 o1) m = some vb := (load_keep (hS.get hb1)).trans hl1
  by_cases h1 : j < 13
  · have d1 : (j : Int) < 13 := by omega
    obtain ⟨b, hb⟩ : ∃ b, c[j]? = some b := ⟨c[j], List.getElem?_eq_getElem (by omega)⟩
    obtain ⟨b', o, ce, hix, hKb, hl3, hR, hl, hld⟩ := hv'.at hb
    obtain ⟨vp, rfl, hw1, hw2, hp⟩ := id hR
    have s1 : ∀ k : M AV, same (some 3) (.ptr b' o) (.agg [.int .i64 b.c, .int .i64 b.f, vp]) m k = k := fun k => same_load hl (by simp [AV.eqb, AV.eqbs, hp.eqb]) k
    have s2 : ∀ k : M AV, same none (.ptr b1 o1) vb m k = k := fun k => same_load hl1' hv.eqb k
    have s3 : ∀ k : M AV, same none (.ptr i4 4) v m k = k := fun k => same_load (by rw [load_at hg]; rfl) hve k
    simp -implicitDefEqProofs only [List.getD_cons_zero, List.getD_cons_succ, ref20_Fit_l1, lp_some', mc_true, mc_false, ok_ret, ok_mc, ok_snap, aBin_add, aBin_sub, aBin_mul, aBin_lss, aBin_leq, aBin_gtr, aBin_geq, aBin_eql, aBin_neq, aBin_eqlStr, aBin_neqStr, strEq_bs, aBin_eqlNil, aBin_eqlNil', aBin_neqNil, aBin_neqNil', aUn_not, aUn_neg, aNil_ptr, aOff_ptr, aInt_int, aLenStr_str, aLenS_slice, aLenS_nil, aFold_min, aFold_max, bs_size, bs_empty, Nat.zero_add, Nat.add_zero, Nat.reduceAdd, ok_load, Mem.get_set, Mem.set_set, List.getElem?_cons_zero, List.getElem?_cons_succ, Option.some.injEq, exists_eq_left', List.set_cons_zero, List.set_cons_succ, d1, decide_true, if_true, load_at hg, hix1, hl1', hix, hl]
    refine Ok.bnd (rwidth_ok h1 ?_)
    simp -implicitDefEqProofs only [lp_some', mc_true, mc_false, ok_ret, ok_mc, ok_snap, aBin_add, aBin_sub, aBin_mul, aBin_lss, aBin_leq, aBin_gtr, aBin_geq, aBin_eql, aBin_neq, aBin_eqlStr, aBin_neqStr, strEq_bs, aBin_eqlNil, aBin_eqlNil', aBin_neqNil, aBin_neqNil', aUn_not, aUn_neg, aNil_ptr, aOff_ptr, aInt_int, aLenStr_str, aLenS_slice, aLenS_nil, aFold_min, aFold_max, bs_size, bs_empty, Nat.zero_add, Nat.add_zero, Nat.reduceAdd, ok_load, Mem.get_set, Mem.set_set, List.getElem?_cons_zero, List.getElem?_cons_succ, Option.some.injEq, exists_eq_left', List.set_cons_zero, List.set_cons_succ, s1, s2, s3]
    refine Ok.bnd (rfits_ok hR (fun b hb => Nat.lt_of_lt_of_le (hK b hb) hS.next) fun m2 hS2 => ?_)
    by_cases h2 : FitsP b q j
    · have e4 : IntKind.i64.wrap ((j : Int) + 1) = ((j + 1 : Nat) : Int) := by rw [IntWalk.i64_in _ (by omega)]; omega
      simp -implicitDefEqProofs only [h2, decide_true, lp_some', mc_true, mc_false, ok_ret, ok_mc, ok_snap, aBin_add, aBin_sub, aBin_mul, aBin_lss, aBin_leq, aBin_gtr, aBin_geq, aBin_eql, aBin_neq, aBin_eqlStr, aBin_neqStr, strEq_bs, aBin_eqlNil, aBin_eqlNil', aBin_neqNil, aBin_neqNil', aUn_not, aUn_neg, aNil_ptr, aOff_ptr, aInt_int, aLenStr_str, aLenS_slice, aLenS_nil, aFold_min, aFold_max, bs_size, bs_empty, Nat.zero_add, Nat.add_zero, Nat.reduceAdd, ok_load, Mem.get_set, Mem.set_set, List.getElem?_cons_zero, List.getElem?_cons_succ, Option.some.injEq, exists_eq_left', List.set_cons_zero, List.set_cons_succ, Bool.not_true, Bool.false_eq_true, if_false, e4]
      refine ih (k - 1) _ _ (by omega) ⟨j + 1, by omega, rfl, fun k b' hk hb' => ?_, hS.trans hS2⟩
      rcases Nat.lt_or_ge k j with h | h
      · exact hall k b' h hb'
      · obtain rfl : k = j := by omega
        rw [hb] at hb'; cases hb'
        exact h2
    · simp -implicitDefEqProofs only [h2, decide_false, lp_some', mc_true, mc_false, ok_ret, ok_mc, ok_snap, aBin_add, aBin_sub, aBin_mul, aBin_lss, aBin_leq, aBin_gtr, aBin_geq, aBin_eql, aBin_neq, aBin_eqlStr, aBin_neqStr, strEq_bs, aBin_eqlNil, aBin_eqlNil', aBin_neqNil, aBin_neqNil', aUn_not, aUn_neg, aNil_ptr, aOff_ptr, aInt_int, aLenStr_str, aLenS_slice, aLenS_nil, aFold_min, aFold_max, bs_size, bs_empty, Nat.zero_add, Nat.add_zero, Nat.reduceAdd, ok_load, Mem.get_set, Mem.set_set, List.getElem?_cons_zero, List.getElem?_cons_succ, Option.some.injEq, exists_eq_left', List.set_cons_zero, List.set_cons_succ, Bool.not_false, if_true]
      exact hno m2 (hS.trans hS2) (fun h => h2 (h.2 j b hb))
  · obtain rfl : j = 13 := by omega
    have d1 : ¬ ((13 : Nat) : Int) < 13 := by decide
    have e4 : IntKind.i64.wrap ((i : Int) + 1) = ((i + 1 : Nat) : Int) := by rw [IntWalk.i64_in _ (by omega)]; omega
    simp -implicitDefEqProofs only [List.getD_cons_zero, List.getD_cons_succ, ref20_Fit_l1, lp_some', mc_true, mc_false, ok_ret, ok_mc, ok_snap, aBin_add, aBin_sub, aBin_mul, aBin_lss, aBin_leq, aBin_gtr, aBin_geq, aBin_eql, aBin_neq, aBin_eqlStr, aBin_neqStr, strEq_bs, aBin_eqlNil, aBin_eqlNil', aBin_neqNil, aBin_neqNil', aUn_not, aUn_neg, aNil_ptr, aOff_ptr, aInt_int, aLenStr_str, aLenS_slice, aLenS_nil, aFold_min, aFold_max, bs_size, bs_empty, Nat.zero_add, Nat.add_zero, Nat.reduceAdd, ok_load, Mem.get_set, Mem.set_set, List.getElem?_cons_zero, List.getElem?_cons_succ, Option.some.injEq, exists_eq_left', List.set_cons_zero, List.set_cons_succ, d1, decide_false, Bool.false_eq_true, if_false, e4]
    exact hq m hS ⟨h13, fun k b hb => hall k b (by have := (List.getElem?_eq_some_iff.1 hb).1; omega) hb⟩

theorem rfit_ok {K : Nat → Prop} {f : FrameD} {v : AV} {n q : Int} {m : Mem} {Q : AV → Mem → Prop} (hv : ChansR K m v f.chans) (hK : ∀ b, K b → b < m.next)
    (hq : ∀ m' (x : Bool), (x = true ↔ FitP f n q) → Same m m' → Q (.bool x) m') : Ok (R fn_ref20_Fit [.agg (frameC f v), .int .i64 n, .int .i64 q]) m Q := by
  refine Ok.call (fun k => ref20_Fit_eq rfl k _ _ _) ?_
  simp -implicitDefEqProofs only [ref20_Fit, ok_box]
  have hS1 := Same.alloc m (.cells T_api_Frame 0 (frameC f v))
  have hg0 := Mem.get_alloc m (.cells T_api_Frame 0 (frameC f v))
  have hnx : m.next < (m.alloc (.cells T_api_Frame 0 (frameC f v))).next := Nat.lt_succ_self _
  generalize m.alloc (.cells T_api_Frame 0 (frameC f v)) = m1 at *
  have hv1 := hv.keep (m' := m1) (fun b hb => hS1.get (hK b hb))
  have hno : ∀ m', Same m1 m' → ¬ FitP f n q → Q (.bool false) m' := fun m' hS h => hq m' false ⟨fun h => absurd h (by decide), fun h' => absurd h' h⟩ (hS1.trans hS)
  have hno1 := hno m1 (Same.refl _)
  have hg := hg0
  unfold frameC at hg
  have hj0' : ¬ FitP f n q → Ok (fun k => ref20_Fit_j0 (fcall Tryz.prog ext1 k) k (.int .i64 n) (.int .i64 q) (.ptr m.next 0) (.bool true)) m1 Q := by
    intro h
    simp -implicitDefEqProofs only [ref20_Fit_j0, lp_some', mc_true, mc_false, ok_ret, ok_mc, ok_snap, aBin_add, aBin_sub, aBin_mul, aBin_lss, aBin_leq, aBin_gtr, aBin_geq, aBin_eql, aBin_neq, aBin_eqlStr, aBin_neqStr, strEq_bs, aBin_eqlNil, aBin_eqlNil', aBin_neqNil, aBin_neqNil', aUn_not, aUn_neg, aNil_ptr, aOff_ptr, aInt_int, aLenStr_str, aLenS_slice, aLenS_nil, aFold_min, aFold_max, bs_size, bs_empty, Nat.zero_add, Nat.add_zero, Nat.reduceAdd, ok_load, Mem.get_set, Mem.set_set, List.getElem?_cons_zero, List.getElem?_cons_succ, Option.some.injEq, exists_eq_left', List.set_cons_zero, List.set_cons_succ, if_true]
    exact hno1 h
  have hj0 : (1 ≤ n ∧ n ≤ 2) → (f.chans.length : Int) = n → ¬ (f.side = true ∧ n = 1) → (0 ≤ q ∧ q ≤ 10) → (-64 ≤ f.gain ∧ f.gain ≤ 32) → Ok (fun k => ref20_Fit_j0 (fcall Tryz.prog ext1 k) k (.int .i64 n) (.int .i64 q) (.ptr m.next 0) (.bool false)) m1 Q := by
    intro k1 k2 k3 k4 k5
    simp -implicitDefEqProofs only [ref20_Fit_j0, lp_some', mc_true, mc_false, ok_ret, ok_mc, ok_snap, aBin_add, aBin_sub, aBin_mul, aBin_lss, aBin_leq, aBin_gtr, aBin_geq, aBin_eql, aBin_neq, aBin_eqlStr, aBin_neqStr, strEq_bs, aBin_eqlNil, aBin_eqlNil', aBin_neqNil, aBin_neqNil', aUn_not, aUn_neg, aNil_ptr, aOff_ptr, aInt_int, aLenStr_str, aLenS_slice, aLenS_nil, aFold_min, aFold_max, bs_size, bs_empty, Nat.zero_add, Nat.add_zero, Nat.reduceAdd, ok_load, Mem.get_set, Mem.set_set, List.getElem?_cons_zero, List.getElem?_cons_succ, Option.some.injEq, exists_eq_left', List.set_cons_zero, List.set_cons_succ, Bool.false_eq_true, if_false]
    refine Ok.loop (fun k l m' => ∃ i : Nat, k + i = f.chans.length ∧ l = [.int .i64 n, .int .i64 q, .ptr m.next 0, .int .i64 i] ∧ (∀ c ∈ f.chans.take i, ChanP q c) ∧ Same m1 m') ?_ (k := f.chans.length) ⟨0, rfl, rfl, fun _ h => by simp at h, Same.refl _⟩
    rintro k l m' rec ⟨i, hk, rfl, hall, hS⟩ ih
    have hv' := hv1.keep (m' := m') (fun b hb => hS.get (Nat.lt_of_lt_of_le (hK b hb) hS1.next))
    have hg0' := (hS.get hnx).trans hg0
    have hg' := (hS.get hnx).trans hg
    by_cases h1 : i < f.chans.length
    · have d1 : (i : Int) < n := by omega
      obtain ⟨c, hc⟩ : ∃ c, f.chans[i]? = some c := ⟨f.chans[i], List.getElem?_eq_getElem h1⟩
      obtain ⟨b', o, ce, hix, hKb, hl3, ⟨vb, rfl, hb⟩, hl, hld⟩ := hv'.at hc
      have hl0 : load? none (.ptr b' o) m' = some vb := hld 0 _ rfl
      have hmem := List.mem_of_getElem? hc
      have hKm : ∀ b, K b → b < m'.next := fun b hb => Nat.lt_of_lt_of_le (hK b hb) (hS1.trans hS).next
      simp -implicitDefEqProofs only [List.getD_cons_zero, List.getD_cons_succ, ref20_Fit_l0, lp_some', mc_true, mc_false, ok_ret, ok_mc, ok_snap, aBin_add, aBin_sub, aBin_mul, aBin_lss, aBin_leq, aBin_gtr, aBin_geq, aBin_eql, aBin_neq, aBin_eqlStr, aBin_neqStr, strEq_bs, aBin_eqlNil, aBin_eqlNil', aBin_neqNil, aBin_neqNil', aUn_not, aUn_neg, aNil_ptr, aOff_ptr, aInt_int, aLenStr_str, aLenS_slice, aLenS_nil, aFold_min, aFold_max, bs_size, bs_empty, Nat.zero_add, Nat.add_zero, Nat.reduceAdd, ok_load, Mem.get_set, Mem.set_set, List.getElem?_cons_zero, List.getElem?_cons_succ, Option.some.injEq, exists_eq_left', List.set_cons_zero, List.set_cons_succ, d1, decide_true, if_true, load_at hg', hix, hl0, hb.len]
      by_cases h2 : c.length = 13
      · have d2 : ¬ (c.length : Int) ≠ 13 := by omega
        simp -implicitDefEqProofs only [d2, decide_false, Bool.false_eq_true, if_false]
        refine rfit_inner hg0' (Nat.lt_of_lt_of_le hnx hS.next) hv.eqb (hix .i64) (hKm b' hKb) hl0 hb hKm h2 (by omega) (fun m3 hS3 hn => hno m3 (hS.trans hS3) (fun h => hn (h.2.2.2.2.2 c hmem))) fun m3 hS3 hp => ?_
        refine ih (k - 1) _ _ (by omega) ⟨i + 1, by omega, rfl, fun d hd => ?_, hS.trans hS3⟩
        rw [List.take_add_one, List.mem_append] at hd
        rcases hd with hd | hd
        · exact hall d hd
        · rw [hc] at hd
          simp at hd
          rw [hd]; exact hp
      · have d2 : (c.length : Int) ≠ 13 := by omega
        simp -implicitDefEqProofs only [d2, ne_eq, not_false_eq_true, decide_true, if_true]
        exact hno m' hS (fun h => h2 (h.2.2.2.2.2 c hmem).1)
    · obtain rfl : i = f.chans.length := by omega
      have d1 : ¬ (f.chans.length : Int) < n := by omega
      simp -implicitDefEqProofs only [List.getD_cons_zero, List.getD_cons_succ, ref20_Fit_l0, lp_some', mc_true, mc_false, ok_ret, ok_mc, ok_snap, aBin_add, aBin_sub, aBin_mul, aBin_lss, aBin_leq, aBin_gtr, aBin_geq, aBin_eql, aBin_neq, aBin_eqlStr, aBin_neqStr, strEq_bs, aBin_eqlNil, aBin_eqlNil', aBin_neqNil, aBin_neqNil', aUn_not, aUn_neg, aNil_ptr, aOff_ptr, aInt_int, aLenStr_str, aLenS_slice, aLenS_nil, aFold_min, aFold_max, bs_size, bs_empty, Nat.zero_add, Nat.add_zero, Nat.reduceAdd, ok_load, Mem.get_set, Mem.set_set, List.getElem?_cons_zero, List.getElem?_cons_succ, Option.some.injEq, exists_eq_left', List.set_cons_zero, List.set_cons_succ, d1, decide_false, Bool.false_eq_true, if_false]
      rw [List.take_length] at hall
      exact hq m' true ⟨fun _ => ⟨k1, k2, k3, k4, k5, hall⟩, fun _ => rfl⟩ (hS1.trans hS)
  by_cases h1 : n < 1
  · simp -implicitDefEqProofs only [lp_some', mc_true, mc_false, ok_ret, ok_mc, ok_snap, aBin_add, aBin_sub, aBin_mul, aBin_lss, aBin_leq, aBin_gtr, aBin_geq, aBin_eql, aBin_neq, aBin_eqlStr, aBin_neqStr, strEq_bs, aBin_eqlNil, aBin_eqlNil', aBin_neqNil, aBin_neqNil', aUn_not, aUn_neg, aNil_ptr, aOff_ptr, aInt_int, aLenStr_str, aLenS_slice, aLenS_nil, aFold_min, aFold_max, bs_size, bs_empty, Nat.zero_add, Nat.add_zero, Nat.reduceAdd, ok_load, Mem.get_set, Mem.set_set, List.getElem?_cons_zero, List.getElem?_cons_succ, Option.some.injEq, exists_eq_left', List.set_cons_zero, List.set_cons_succ, h1, decide_true, if_true]; exact hj0' (fun h => by have := h.1; omega)
  by_cases h2 : 2 < n
  · simp -implicitDefEqProofs only [lp_some', mc_true, mc_false, ok_ret, ok_mc, ok_snap, aBin_add, aBin_sub, aBin_mul, aBin_lss, aBin_leq, aBin_gtr, aBin_geq, aBin_eql, aBin_neq, aBin_eqlStr, aBin_neqStr, strEq_bs, aBin_eqlNil, aBin_eqlNil', aBin_neqNil, aBin_neqNil', aUn_not, aUn_neg, aNil_ptr, aOff_ptr, aInt_int, aLenStr_str, aLenS_slice, aLenS_nil, aFold_min, aFold_max, bs_size, bs_empty, Nat.zero_add, Nat.add_zero, Nat.reduceAdd, ok_load, Mem.get_set, Mem.set_set, List.getElem?_cons_zero, List.getElem?_cons_succ, Option.some.injEq, exists_eq_left', List.set_cons_zero, List.set_cons_succ, h1, h2, decide_true, decide_false, Bool.false_eq_true, if_false, if_true]; exact hj0' (fun h => by have := h.1; omega)
  by_cases h3 : q < 0
  · simp -implicitDefEqProofs only [lp_some', mc_true, mc_false, ok_ret, ok_mc, ok_snap, aBin_add, aBin_sub, aBin_mul, aBin_lss, aBin_leq, aBin_gtr, aBin_geq, aBin_eql, aBin_neq, aBin_eqlStr, aBin_neqStr, strEq_bs, aBin_eqlNil, aBin_eqlNil', aBin_neqNil, aBin_neqNil', aUn_not, aUn_neg, aNil_ptr, aOff_ptr, aInt_int, aLenStr_str, aLenS_slice, aLenS_nil, aFold_min, aFold_max, bs_size, bs_empty, Nat.zero_add, Nat.add_zero, Nat.reduceAdd, ok_load, Mem.get_set, Mem.set_set, List.getElem?_cons_zero, List.getElem?_cons_succ, Option.some.injEq, exists_eq_left', List.set_cons_zero, List.set_cons_succ, h1, h2, h3, decide_true, decide_false, Bool.false_eq_true, if_false, if_true]; exact hj0' (fun h => by have := h.2.2.2.1; omega)
  by_cases h4 : 10 < q
  · simp -implicitDefEqProofs only [lp_some', mc_true, mc_false, ok_ret, ok_mc, ok_snap, aBin_add, aBin_sub, aBin_mul, aBin_lss, aBin_leq, aBin_gtr, aBin_geq, aBin_eql, aBin_neq, aBin_eqlStr, aBin_neqStr, strEq_bs, aBin_eqlNil, aBin_eqlNil', aBin_neqNil, aBin_neqNil', aUn_not, aUn_neg, aNil_ptr, aOff_ptr, aInt_int, aLenStr_str, aLenS_slice, aLenS_nil, aFold_min, aFold_max, bs_size, bs_empty, Nat.zero_add, Nat.add_zero, Nat.reduceAdd, ok_load, Mem.get_set, Mem.set_set, List.getElem?_cons_zero, List.getElem?_cons_succ, Option.some.injEq, exists_eq_left', List.set_cons_zero, List.set_cons_succ, h1, h2, h3, h4, decide_true, decide_false, Bool.false_eq_true, if_false, if_true]; exact hj0' (fun h => by have := h.2.2.2.1; omega)
  by_cases h5 : (f.chans.length : Int) = n
  · by_cases h6 : f.gain < -64
    · simp -implicitDefEqProofs only [lp_some', mc_true, mc_false, ok_ret, ok_mc, ok_snap, aBin_add, aBin_sub, aBin_mul, aBin_lss, aBin_leq, aBin_gtr, aBin_geq, aBin_eql, aBin_neq, aBin_eqlStr, aBin_neqStr, strEq_bs, aBin_eqlNil, aBin_eqlNil', aBin_neqNil, aBin_neqNil', aUn_not, aUn_neg, aNil_ptr, aOff_ptr, aInt_int, aLenStr_str, aLenS_slice, aLenS_nil, aFold_min, aFold_max, bs_size, bs_empty, Nat.zero_add, Nat.add_zero, Nat.reduceAdd, ok_load, Mem.get_set, Mem.set_set, List.getElem?_cons_zero, List.getElem?_cons_succ, Option.some.injEq, exists_eq_left', List.set_cons_zero, List.set_cons_succ, h1, h2, h3, h4, h5, h6, load_at hg, hv1.len, ne_eq, not_true_eq_false, decide_true, decide_false, Bool.false_eq_true, if_false, if_true]; exact hj0' (fun h => by have := h.2.2.2.2.1; omega)
    by_cases h7 : 32 < f.gain
    · simp -implicitDefEqProofs only [lp_some', mc_true, mc_false, ok_ret, ok_mc, ok_snap, aBin_add, aBin_sub, aBin_mul, aBin_lss, aBin_leq, aBin_gtr, aBin_geq, aBin_eql, aBin_neq, aBin_eqlStr, aBin_neqStr, strEq_bs, aBin_eqlNil, aBin_eqlNil', aBin_neqNil, aBin_neqNil', aUn_not, aUn_neg, aNil_ptr, aOff_ptr, aInt_int, aLenStr_str, aLenS_slice, aLenS_nil, aFold_min, aFold_max, bs_size, bs_empty, Nat.zero_add, Nat.add_zero, Nat.reduceAdd, ok_load, Mem.get_set, Mem.set_set, List.getElem?_cons_zero, List.getElem?_cons_succ, Option.some.injEq, exists_eq_left', List.set_cons_zero, List.set_cons_succ, h1, h2, h3, h4, h5, h6, h7, load_at hg, hv1.len, ne_eq, not_true_eq_false, decide_true, decide_false, Bool.false_eq_true, if_false, if_true]; exact hj0' (fun h => by have := h.2.2.2.2.1; omega)
    cases h8 : f.side with
    | true =>
      by_cases h9 : n = 1
      · simp -implicitDefEqProofs only [lp_some', mc_true, mc_false, ok_ret, ok_mc, ok_snap, aBin_add, aBin_sub, aBin_mul, aBin_lss, aBin_leq, aBin_gtr, aBin_geq, aBin_eql, aBin_neq, aBin_eqlStr, aBin_neqStr, strEq_bs, aBin_eqlNil, aBin_eqlNil', aBin_neqNil, aBin_neqNil', aUn_not, aUn_neg, aNil_ptr, aOff_ptr, aInt_int, aLenStr_str, aLenS_slice, aLenS_nil, aFold_min, aFold_max, bs_size, bs_empty, Nat.zero_add, Nat.add_zero, Nat.reduceAdd, ok_load, Mem.get_set, Mem.set_set, List.getElem?_cons_zero, List.getElem?_cons_succ, Option.some.injEq, exists_eq_left', List.set_cons_zero, List.set_cons_succ, h1, h2, h3, h4, h5, h6, h7, h8, load_at hg, hv1.len, ne_eq, not_true_eq_false, decide_false, Bool.false_eq_true, if_false, if_true]
        rw [decide_eq_true h9]
        exact hj0' (fun h => h.2.2.1 ⟨h8, h9⟩)
      · simp -implicitDefEqProofs only [lp_some', mc_true, mc_false, ok_ret, ok_mc, ok_snap, aBin_add, aBin_sub, aBin_mul, aBin_lss, aBin_leq, aBin_gtr, aBin_geq, aBin_eql, aBin_neq, aBin_eqlStr, aBin_neqStr, strEq_bs, aBin_eqlNil, aBin_eqlNil', aBin_neqNil, aBin_neqNil', aUn_not, aUn_neg, aNil_ptr, aOff_ptr, aInt_int, aLenStr_str, aLenS_slice, aLenS_nil, aFold_min, aFold_max, bs_size, bs_empty, Nat.zero_add, Nat.add_zero, Nat.reduceAdd, ok_load, Mem.get_set, Mem.set_set, List.getElem?_cons_zero, List.getElem?_cons_succ, Option.some.injEq, exists_eq_left', List.set_cons_zero, List.set_cons_succ, h1, h2, h3, h4, h5, h6, h7, h8, load_at hg, hv1.len, ne_eq, not_true_eq_false, decide_false, Bool.false_eq_true, if_false, if_true]
        rw [decide_eq_false h9]
        exact hj0 (by omega) h5 (fun h => h9 h.2) (by omega) (by omega)
    | false =>
      simp -implicitDefEqProofs only [lp_some', mc_true, mc_false, ok_ret, ok_mc, ok_snap, aBin_add, aBin_sub, aBin_mul, aBin_lss, aBin_leq, aBin_gtr, aBin_geq, aBin_eql, aBin_neq, aBin_eqlStr, aBin_neqStr, strEq_bs, aBin_eqlNil, aBin_eqlNil', aBin_neqNil, aBin_neqNil', aUn_not, aUn_neg, aNil_ptr, aOff_ptr, aInt_int, aLenStr_str, aLenS_slice, aLenS_nil, aFold_min, aFold_max, bs_size, bs_empty, Nat.zero_add, Nat.add_zero, Nat.reduceAdd, ok_load, Mem.get_set, Mem.set_set, List.getElem?_cons_zero, List.getElem?_cons_succ, Option.some.injEq, exists_eq_left', List.set_cons_zero, List.set_cons_succ, h1, h2, h3, h4, h5, h6, h7, h8, load_at hg, hv1.len, ne_eq, not_true_eq_false, decide_false, Bool.false_eq_true, if_false]
      exact hj0 (by omega) h5 (fun h => by have := h.1; rw [h8] at this; cases this) (by omega) (by omega)
  · simp -implicitDefEqProofs only [lp_some', mc_true, mc_false, ok_ret, ok_mc, ok_snap, aBin_add, aBin_sub, aBin_mul, aBin_lss, aBin_leq, aBin_gtr, aBin_geq, aBin_eql, aBin_neq, aBin_eqlStr, aBin_neqStr, strEq_bs, aBin_eqlNil, aBin_eqlNil', aBin_neqNil, aBin_neqNil', aUn_not, aUn_neg, aNil_ptr, aOff_ptr, aInt_int, aLenStr_str, aLenS_slice, aLenS_nil, aFold_min, aFold_max, bs_size, bs_empty, Nat.zero_add, Nat.add_zero, Nat.reduceAdd, ok_load, Mem.get_set, Mem.set_set, List.getElem?_cons_zero, List.getElem?_cons_succ, Option.some.injEq, exists_eq_left', List.set_cons_zero, List.set_cons_succ, h1, h2, h3, h4, h5, load_at hg, hv1.len, ne_eq, not_false_eq_true, decide_true, decide_false, Bool.false_eq_true, if_false, if_true]
    exact hj0' (fun h => h5 h.2.1)
end SplA
