/- The laws RcCodes and RcBack. -/
import Derived.Test.YtimominjaikblaaDoorSplTwo
namespace SplA
open Go.Proofs.YtimominjaikblaaDoor.Spl Go Go.Proofs
set_option maxRecDepth 100000
set_option linter.unusedVariables false
set_option linter.unusedSimpArgs false

/-! RcCodes -/

theorem codes_loop {L : List (Nat × Nat × Nat)} {m0 : Mem} {v : AV} {ix i1 i2 : Nat} {o0 o1 o2 : Int} (hA : Arr3 m0 v L) (hL : L.length ≤ 60) {Q : AV → Mem → Prop} (hq : ∀ m, Q (.bool true) m) {c0 : Cst} {a0 buf0 w0 j0 : AV} {m : Mem}
    (hT : Two m0 (fun b => b = ix) (fun _ => .cells T_3_int 0 [.int .i64 o0, .int .i64 o1, .int .i64 o2]) i1 i2 Iv.start Iv.start c0 a0 buf0 w0 m) :
    Ok (fun n => loopN (fun r l => law04_RcCodes_l0 (fcall Tryd.prog ext1 n) n r (l.getD 0 .undef) (l.getD 1 .undef) (l.getD 2 .undef) (l.getD 3 .undef) (l.getD 4 .undef) (l.getD 5 .undef)) n [v, .ptr ix 0, .ptr i1 0, .ptr i2 0, .int .i64 0, j0]) m Q := by
  refine Ok.loop (fun k l m => ∃ (idx : Nat) (x : Iv) (c : Cst) (a buf w j5 : AV), k + idx = L.length ∧ l = [v, .ptr ix 0, .ptr i1 0, .ptr i2 0, .int .i64 idx, j5] ∧ x.Fits ∧ x.n ≤ 6 * idx ∧ Two m0 (fun b => b = ix) (fun _ => .cells T_3_int 0 [.int .i64 o0, .int .i64 o1, .int .i64 o2]) i1 i2 x x c a buf w m) ?_ (k := L.length) ⟨0, Iv.start, c0, a0, buf0, w0, j0, rfl, rfl, Iv.start_fits, by show 0 ≤ _; omega, hT⟩
  clear hT
  rintro k l m rec ⟨idx, x, c, a, buf, w, j5, hk, rfl, hx, hn, hT⟩ ih
  cases k with
  | zero =>
    have h1 : ¬ (idx : Int) < (L.length : Int) := by omega
    simp -implicitDefEqProofs only [List.getD_cons_zero, List.getD_cons_succ, law04_RcCodes_l0, lp_some', mc_true, mc_false, ok_ret, ok_mc, ok_snap, aBin_add, aBin_sub, aBin_mul, aBin_lss, aBin_leq, aBin_gtr, aBin_geq, aBin_eql, aBin_neq, aBin_eqlStr, aBin_neqStr, strEq_bs, aBin_eqlNil, aBin_eqlNil', aBin_neqNil, aBin_neqNil', aUn_not, aUn_neg, aNil_ptr, aOff_ptr, aInt_int, aLenStr_str, aLenS_slice, aLenS_nil, aFold_min, aFold_max, bs_size, bs_empty, Nat.zero_add, Nat.add_zero, Nat.reduceAdd, ok_load, Mem.get_set, Mem.set_set, List.getElem?_cons_zero, List.getElem?_cons_succ, Option.some.injEq, exists_eq_left', List.set_cons_zero, List.set_cons_succ, hA.len, h1, decide_false, Bool.false_eq_true, if_false]
    refine Ok.bnd (end_ok hT.cod hT.is (by omega) fun m1 hc1 hch1 => ?_)
    have hT1 := hT.setCod hc1 hT.is ⟨hch1.mono fun _ _ h => .inr h, fun _ h => .inl h⟩
    refine Ok.bnd (rend_ok hT1.ref (by omega) fun m2 hr2 hch2 => ?_)
    simp -implicitDefEqProofs only [lp_some', mc_true, mc_false, ok_ret, ok_mc, ok_snap, aBin_add, aBin_sub, aBin_mul, aBin_lss, aBin_leq, aBin_gtr, aBin_geq, aBin_eql, aBin_neq, aBin_eqlStr, aBin_neqStr, strEq_bs, aBin_eqlNil, aBin_eqlNil', aBin_neqNil, aBin_neqNil', aUn_not, aUn_neg, aNil_ptr, aOff_ptr, aInt_int, aLenStr_str, aLenS_slice, aLenS_nil, aFold_min, aFold_max, bs_size, bs_empty, Nat.zero_add, Nat.add_zero, Nat.reduceAdd, ok_load, Mem.get_set, Mem.set_set, List.getElem?_cons_zero, List.getElem?_cons_succ, Option.some.injEq, exists_eq_left', List.set_cons_zero, List.set_cons_succ, eq_self, decide_true, if_true]
    refine Ok.bnd (awake_ok ?_)
    simp -implicitDefEqProofs only [law04_RcCodes_j1, lp_some', mc_true, mc_false, ok_ret, ok_mc, ok_snap, aBin_add, aBin_sub, aBin_mul, aBin_lss, aBin_leq, aBin_gtr, aBin_geq, aBin_eql, aBin_neq, aBin_eqlStr, aBin_neqStr, strEq_bs, aBin_eqlNil, aBin_eqlNil', aBin_neqNil, aBin_neqNil', aUn_not, aUn_neg, aNil_ptr, aOff_ptr, aInt_int, aLenStr_str, aLenS_slice, aLenS_nil, aFold_min, aFold_max, bs_size, bs_empty, Nat.zero_add, Nat.add_zero, Nat.reduceAdd, ok_load, Mem.get_set, Mem.set_set, List.getElem?_cons_zero, List.getElem?_cons_succ, Option.some.injEq, exists_eq_left', List.set_cons_zero, List.set_cons_succ]
    exact hq _
  | succ k =>
    have h1 : (idx : Int) < (L.length : Int) := by omega
    have h1' : idx < L.length := by omega
    rcases hA with ⟨_, rfl⟩ | ⟨b, o, rfl, hb, hel⟩
    · simp at h1'
    obtain ⟨⟨l0, l1, l2⟩, p0, p1, p2⟩ := hel idx L[idx] (List.getElem?_eq_getElem h1')
    generalize L[idx] = p at *
    obtain ⟨x0, y0, z0⟩ := p
    simp only at l0 l1 l2 p0 p1 p2
    have x0' : ∀ i q, aIdxA 3 1 (.ptr i q) (.int .i64 0) = some (.ptr i q) := fun i q => by simp [aIdxA]
    have x1' : ∀ i q, aIdxA 3 1 (.ptr i q) (.int .i64 1) = some (.ptr i (q + 1)) := fun i q => by simp [aIdxA]
    have x2' : ∀ i q, aIdxA 3 1 (.ptr i q) (.int .i64 2) = some (.ptr i (q + 2)) := fun i q => by simp [aIdxA]
    have xi : aIdxS 3 (.slice b o L.length 0) (.int .i64 idx) = some (.ptr b (o + idx * 3)) := aIdxS_at h1'
    have g0 : ∀ m', Old m0 m' → load? none (.ptr b (o + idx * 3)) m' = some (.int .u16 x0) := fun m' h => (h.load hb).trans l0
    have g1 : ∀ m', Old m0 m' → load? none (.ptr b (o + idx * 3 + 1)) m' = some (.int .u16 y0) := fun m' h => (h.load hb).trans l1
    have g2 : ∀ m', Old m0 m' → load? none (.ptr b (o + idx * 3 + 2)) m' = some (.int .u16 z0) := fun m' h => (h.load hb).trans l2
    have hj0 : ∀ (m : Mem) (x : Iv) (c : Cst) (a buf w : AV), x.Fits → x.n ≤ 6 * (idx + 1) → Two m0 (fun b => b = ix) (fun _ => .cells T_3_int 0 [.int .i64 o0, .int .i64 o1, .int .i64 o2]) i1 i2 x x c a buf w m → Ok (fun n => law04_RcCodes_j0 (fcall Tryd.prog ext1 n) n (rec n) (.slice b o L.length 0) (.ptr ix 0) (.ptr i1 0) (.ptr i2 0) (.int .i64 idx) j5) m Q := by
      intro m x c a buf w hx hn hT
      simp -implicitDefEqProofs only [law04_RcCodes_j0]
      refine Ok.bnd (end_ok hT.cod hT.is (by omega) fun m1 hc1 hch1 => ?_)
      have hT1 := hT.setCod hc1 hT.is ⟨hch1.mono fun _ _ h => .inr h, fun _ h => .inl h⟩
      refine Ok.bnd (rend_ok hT1.ref (by omega) fun m2 hr2 hch2 => ?_)
      have e9 : IntKind.i64.wrap ((idx : Int) + 1) = ((idx + 1 : Nat) : Int) := by rw [IntWalk.i64_in _ (by omega)]; rfl
      simp -implicitDefEqProofs only [lp_some', mc_true, mc_false, ok_ret, ok_mc, ok_snap, aBin_add, aBin_sub, aBin_mul, aBin_lss, aBin_leq, aBin_gtr, aBin_geq, aBin_eql, aBin_neq, aBin_eqlStr, aBin_neqStr, strEq_bs, aBin_eqlNil, aBin_eqlNil', aBin_neqNil, aBin_neqNil', aUn_not, aUn_neg, aNil_ptr, aOff_ptr, aInt_int, aLenStr_str, aLenS_slice, aLenS_nil, aFold_min, aFold_max, bs_size, bs_empty, Nat.zero_add, Nat.add_zero, Nat.reduceAdd, ok_load, Mem.get_set, Mem.set_set, List.getElem?_cons_zero, List.getElem?_cons_succ, Option.some.injEq, exists_eq_left', List.set_cons_zero, List.set_cons_succ, eq_self, decide_true, Bool.not_true, Bool.false_eq_true, if_false, e9]
      exact ih k _ _ (Nat.lt_succ_self _) ⟨idx + 1, x, c, a, buf, w, j5, by omega, rfl, hx, by omega, hT1.chg hch2⟩
    simp -implicitDefEqProofs only [List.getD_cons_zero, List.getD_cons_succ, law04_RcCodes_l0, lp_some', mc_true, mc_false, ok_ret, ok_mc, ok_snap, aBin_add, aBin_sub, aBin_mul, aBin_lss, aBin_leq, aBin_gtr, aBin_geq, aBin_eql, aBin_neq, aBin_eqlStr, aBin_neqStr, strEq_bs, aBin_eqlNil, aBin_eqlNil', aBin_neqNil, aBin_neqNil', aUn_not, aUn_neg, aNil_ptr, aOff_ptr, aInt_int, aLenStr_str, aLenS_slice, aLenS_nil, aFold_min, aFold_max, bs_size, bs_empty, Nat.zero_add, Nat.add_zero, Nat.reduceAdd, ok_load, Mem.get_set, Mem.set_set, List.getElem?_cons_zero, List.getElem?_cons_succ, Option.some.injEq, exists_eq_left', List.set_cons_zero, List.set_cons_succ, h1, decide_true, if_true, xi, x0', x1', x2', g0 m hT.old, g1 m hT.old, g2 m hT.old]
    refine Ok.bnd (some_ok p0 p1 p2 hT.bn fun ob => ?_)
    have hpart := some_part (a := x0) (b := y0) p2
    have hT1 := hT.chg (Chg.alloc _ m ob)
    generalize hm1 : m.alloc ob = m1 at *
    simp -implicitDefEqProofs only [lp_some', mc_true, mc_false, ok_ret, ok_mc, ok_snap, aBin_add, aBin_sub, aBin_mul, aBin_lss, aBin_leq, aBin_gtr, aBin_geq, aBin_eql, aBin_neq, aBin_eqlStr, aBin_neqStr, strEq_bs, aBin_eqlNil, aBin_eqlNil', aBin_neqNil, aBin_neqNil', aUn_not, aUn_neg, aNil_ptr, aOff_ptr, aInt_int, aLenStr_str, aLenS_slice, aLenS_nil, aFold_min, aFold_max, bs_size, bs_empty, Nat.zero_add, Nat.add_zero, Nat.reduceAdd, ok_load, Mem.get_set, Mem.set_set, List.getElem?_cons_zero, List.getElem?_cons_succ, Option.some.injEq, exists_eq_left', List.set_cons_zero, List.set_cons_succ, ok_alloc]
    have hT2 := hT1.chg (Chg.alloc _ m1 (.cells T_ref04_Part 0 [.int .i64 0, .int .i64 0, .int .i64 0]))
    have s2 := fun (k : M AV) => same_load (g2 _ hT2.old) (eqb_int _ _) k
    have s1 := fun (k : M AV) => same_load (g1 _ hT2.old) (eqb_int _ _) k
    have s0 := fun (k : M AV) => same_load (g0 _ hT2.old) (eqb_int _ _) k
    have hst := fun (k : Nat → AV → M AV) => ok_storeAll (i := m1.next) (k := k) (Q := Q) (vs := [.int .i64 (someLo x0 z0), .int .i64 (someHi x0 y0 z0), .int .i64 (1 + z0 : Nat)]) (n := 3) (Mem.get_alloc m1 (.cells T_ref04_Part 0 [.int .i64 0, .int .i64 0, .int .i64 0])) hT1.bn rfl rfl (by simp)
    simp -implicitDefEqProofs only [s2, s1, s0, lp_some', mc_true, mc_false, ok_ret, ok_mc, ok_snap, aBin_add, aBin_sub, aBin_mul, aBin_lss, aBin_leq, aBin_gtr, aBin_geq, aBin_eql, aBin_neq, aBin_eqlStr, aBin_neqStr, strEq_bs, aBin_eqlNil, aBin_eqlNil', aBin_neqNil, aBin_neqNil', aUn_not, aUn_neg, aNil_ptr, aOff_ptr, aInt_int, aLenStr_str, aLenS_slice, aLenS_nil, aFold_min, aFold_max, bs_size, bs_empty, Nat.zero_add, Nat.add_zero, Nat.reduceAdd, ok_load, Mem.get_set, Mem.set_set, List.getElem?_cons_zero, List.getElem?_cons_succ, Option.some.injEq, exists_eq_left', List.set_cons_zero, List.set_cons_succ, hst, Mem.alloc_set]
    have hT3 := hT1.chg (Chg.alloc _ m1 (.cells T_ref04_Part 0 [.int .i64 (someLo x0 z0), .int .i64 (someHi x0 y0 z0), .int .i64 (1 + z0 : Nat)]))
    have hget := Mem.get_alloc m1 (.cells T_ref04_Part 0 [.int .i64 (someLo x0 z0), .int .i64 (someHi x0 y0 z0), .int .i64 (1 + z0 : Nat)])
    have hipn : m1.next < (m1.alloc (.cells T_ref04_Part 0 [.int .i64 (someLo x0 z0), .int .i64 (someHi x0 y0 z0), .int .i64 (1 + z0 : Nat)])).next := Nat.lt_succ_self _
    have hipc : ¬ foot i1 buf m1.next := fun hg => by have := (hT1.cod.foot_lt _ hg).1; omega
    have hipx : ix ≠ m1.next := by have := (hT1.keep ix rfl).1; omega
    generalize m1.alloc (.cells T_ref04_Part 0 [.int .i64 (someLo x0 z0), .int .i64 (someHi x0 y0 z0), .int .i64 (1 + z0 : Nat)]) = m3 at *
    generalize m1.next = ip at *
    simp -implicitDefEqProofs only [load_at hget, lp_some', mc_true, mc_false, ok_ret, ok_mc, ok_snap, aBin_add, aBin_sub, aBin_mul, aBin_lss, aBin_leq, aBin_gtr, aBin_geq, aBin_eql, aBin_neq, aBin_eqlStr, aBin_neqStr, strEq_bs, aBin_eqlNil, aBin_eqlNil', aBin_neqNil, aBin_neqNil', aUn_not, aUn_neg, aNil_ptr, aOff_ptr, aInt_int, aLenStr_str, aLenS_slice, aLenS_nil, aFold_min, aFold_max, bs_size, bs_empty, Nat.zero_add, Nat.add_zero, Nat.reduceAdd, ok_load, Mem.get_set, Mem.set_set, List.getElem?_cons_zero, List.getElem?_cons_succ, Option.some.injEq, exists_eq_left', List.set_cons_zero, List.set_cons_succ]
    refine Ok.bnd (code_ok hT3.cod hT3.is hx (by omega) hpart fun m4 c4 a4 buf4 hc4 hI4 hF4 => ?_)
    have hT4 := hT3.setCod hc4 hI4 hF4
    have hget4 := (hF4.chg.get ip hipn hipc).trans hget
    simp -implicitDefEqProofs only [load_at hget4, lp_some', mc_true, mc_false, ok_ret, ok_mc, ok_snap, aBin_add, aBin_sub, aBin_mul, aBin_lss, aBin_leq, aBin_gtr, aBin_geq, aBin_eql, aBin_neq, aBin_eqlStr, aBin_neqStr, strEq_bs, aBin_eqlNil, aBin_eqlNil', aBin_neqNil, aBin_neqNil', aUn_not, aUn_neg, aNil_ptr, aOff_ptr, aInt_int, aLenStr_str, aLenS_slice, aLenS_nil, aFold_min, aFold_max, bs_size, bs_empty, Nat.zero_add, Nat.add_zero, Nat.reduceAdd, ok_load, Mem.get_set, Mem.set_set, List.getElem?_cons_zero, List.getElem?_cons_succ, Option.some.injEq, exists_eq_left', List.set_cons_zero, List.set_cons_succ]
    refine Ok.bnd (rcode_ok hT4.ref hx (by omega) hpart fun m5 w5 hr5 hF5 => ?_)
    have hT5 := hT4.setRef hr5 hF5
    have hx5 := Iv.code_fits hx hpart
    have hn5 := (Iv.code_n (someLo x0 z0) (someHi x0 y0 z0) (1 + z0) x).2
    generalize x.code (someLo x0 z0) (someHi x0 y0 z0) (1 + z0) = x5 at *
    have e7 : aBin .rem [] (.int .i64 (idx : Int)) (.int .i64 7) = some (.int .i64 ((idx % 7 : Nat) : Int)) := by
      rw [aBin_rem _ _ _ _ (by decide), show (7 : Int) = ((7 : Nat) : Int) from rfl, tmod_nat]
    simp -implicitDefEqProofs only [lp_some', mc_true, mc_false, ok_ret, ok_mc, ok_snap, aBin_add, aBin_sub, aBin_mul, aBin_lss, aBin_leq, aBin_gtr, aBin_geq, aBin_eql, aBin_neq, aBin_eqlStr, aBin_neqStr, strEq_bs, aBin_eqlNil, aBin_eqlNil', aBin_neqNil, aBin_neqNil', aUn_not, aUn_neg, aNil_ptr, aOff_ptr, aInt_int, aLenStr_str, aLenS_slice, aLenS_nil, aFold_min, aFold_max, bs_size, bs_empty, Nat.zero_add, Nat.add_zero, Nat.reduceAdd, ok_load, Mem.get_set, Mem.set_set, List.getElem?_cons_zero, List.getElem?_cons_succ, Option.some.injEq, exists_eq_left', List.set_cons_zero, List.set_cons_succ, e7]
    by_cases h7 : ((idx % 7 : Nat) : Int) = 3
    · simp -implicitDefEqProofs only [h7, decide_true, if_true, lp_some', mc_true, mc_false, ok_ret, ok_mc, ok_snap, aBin_add, aBin_sub, aBin_mul, aBin_lss, aBin_leq, aBin_gtr, aBin_geq, aBin_eql, aBin_neq, aBin_eqlStr, aBin_neqStr, strEq_bs, aBin_eqlNil, aBin_eqlNil', aBin_neqNil, aBin_neqNil', aUn_not, aUn_neg, aNil_ptr, aOff_ptr, aInt_int, aLenStr_str, aLenS_slice, aLenS_nil, aFold_min, aFold_max, bs_size, bs_empty, Nat.zero_add, Nat.add_zero, Nat.reduceAdd, ok_load, Mem.get_set, Mem.set_set, List.getElem?_cons_zero, List.getElem?_cons_succ, Option.some.injEq, exists_eq_left', List.set_cons_zero, List.set_cons_succ, x0', x1', x2', load_at (hT5.keep ix rfl).2]
      refine Ok.bnd (code_any hT5.cod hT5.is hx5 (by omega) fun m6 c6 a6 buf6 hc6 hI6 hF6 => ?_)
      have hT6 := hT5.setCod hc6 hI6 hF6
      simp -implicitDefEqProofs only [lp_some', mc_true, mc_false, ok_ret, ok_mc, ok_snap, aBin_add, aBin_sub, aBin_mul, aBin_lss, aBin_leq, aBin_gtr, aBin_geq, aBin_eql, aBin_neq, aBin_eqlStr, aBin_neqStr, strEq_bs, aBin_eqlNil, aBin_eqlNil', aBin_neqNil, aBin_neqNil', aUn_not, aUn_neg, aNil_ptr, aOff_ptr, aInt_int, aLenStr_str, aLenS_slice, aLenS_nil, aFold_min, aFold_max, bs_size, bs_empty, Nat.zero_add, Nat.add_zero, Nat.reduceAdd, ok_load, Mem.get_set, Mem.set_set, List.getElem?_cons_zero, List.getElem?_cons_succ, Option.some.injEq, exists_eq_left', List.set_cons_zero, List.set_cons_succ, x0', x1', x2', load_at (hT6.keep ix rfl).2]
      refine Ok.bnd (rcode_any hT6.ref hx5 (by omega) fun m7 w7 hr7 hF7 => ?_)
      have hT7 := hT6.setRef hr7 hF7
      have := codeAny_n o0 o1 o2 x5
      exact hj0 m7 _ c6 a6 buf6 w7 (codeAny_fits hx5) (by omega) hT7
    · simp -implicitDefEqProofs only [h7, decide_false, Bool.false_eq_true, if_false]
      exact hj0 m5 x5 c4 a4 buf4 w5 hx5 (by omega) hT5

theorem codes_ok {L : List (Nat × Nat × Nat)} {m0 : Mem} {v : AV} {o0 o1 o2 : Int} (hA : Arr3 m0 v L) (hbn : m0.base ≤ m0.next) : Ok (R fn_law04_RcCodes [v, .agg [.int .i64 o0, .int .i64 o1, .int .i64 o2]]) m0 (fun v _ => v = .bool true) := by
  refine Ok.call (fun n => law04_RcCodes_eq rfl n _ _) ?_
  simp -implicitDefEqProofs only [law04_RcCodes, ok_box, hA.len, lp_some', mc_true, mc_false, ok_ret, ok_mc, ok_snap, aBin_add, aBin_sub, aBin_mul, aBin_lss, aBin_leq, aBin_gtr, aBin_geq, aBin_eql, aBin_neq, aBin_eqlStr, aBin_neqStr, strEq_bs, aBin_eqlNil, aBin_eqlNil', aBin_neqNil, aBin_neqNil', aUn_not, aUn_neg, aNil_ptr, aOff_ptr, aInt_int, aLenStr_str, aLenS_slice, aLenS_nil, aFold_min, aFold_max, bs_size, bs_empty, Nat.zero_add, Nat.add_zero, Nat.reduceAdd, ok_load, Mem.get_set, Mem.set_set, List.getElem?_cons_zero, List.getElem?_cons_succ, Option.some.injEq, exists_eq_left', List.set_cons_zero, List.set_cons_succ]
  rcases Nat.lt_or_ge 60 L.length with h3 | h3
  · have h4 : (60 : Int) < (L.length : Int) := by omega
    simp -implicitDefEqProofs only [h4, decide_true, if_true]
    refine Ok.bnd (awake_ok ?_)
    simp -implicitDefEqProofs only [lp_some', mc_true, mc_false, ok_ret, ok_mc, ok_snap, aBin_add, aBin_sub, aBin_mul, aBin_lss, aBin_leq, aBin_gtr, aBin_geq, aBin_eql, aBin_neq, aBin_eqlStr, aBin_neqStr, strEq_bs, aBin_eqlNil, aBin_eqlNil', aBin_neqNil, aBin_neqNil', aUn_not, aUn_neg, aNil_ptr, aOff_ptr, aInt_int, aLenStr_str, aLenS_slice, aLenS_nil, aFold_min, aFold_max, bs_size, bs_empty, Nat.zero_add, Nat.add_zero, Nat.reduceAdd, ok_load, Mem.get_set, Mem.set_set, List.getElem?_cons_zero, List.getElem?_cons_succ, Option.some.injEq, exists_eq_left', List.set_cons_zero, List.set_cons_succ]
  · have h4 : ¬ (60 : Int) < (L.length : Int) := by omega
    have f1 : (aFill (fun i => [(0, 2), (2, 2), (4, 1), (5, 1), (6, 1)][i]?) [.bool false, .int .u64 0, .nilptr, .nilslice, .int .u64 0, .int .i64 0, .int .i64 0] []).map AV.agg = some (.agg [.bool false, .int .u64 0, .nilptr, .nilslice, .int .u64 0, .int .i64 0, .int .i64 0]) := rfl
    have f2 : (aFill (fun i => [(0, 1), (1, 1), (2, 1)][i]?) [.nilslice, .int .i64 0, .int .i64 0] []).map AV.agg = some (.agg [.nilslice, .int .i64 0, .int .i64 0]) := rfl
    simp -implicitDefEqProofs only [h4, decide_false, Bool.false_eq_true, if_false, f1, f2, lp_some', ok_box]
    have hbx := Mem.get_alloc m0 (.cells T_3_int 0 [.int .i64 o0, .int .i64 o1, .int .i64 o2])
    have hox := (Old.refl m0).alloc hbn (.cells T_3_int 0 [.int .i64 o0, .int .i64 o1, .int .i64 o2])
    have hnx : (m0.alloc (.cells T_3_int 0 [.int .i64 o0, .int .i64 o1, .int .i64 o2])).next = m0.next + 1 := rfl
    have hb1 : (m0.alloc (.cells T_3_int 0 [.int .i64 o0, .int .i64 o1, .int .i64 o2])).base ≤ (m0.alloc (.cells T_3_int 0 [.int .i64 o0, .int .i64 o1, .int .i64 o2])).next := Nat.le_succ_of_le hbn
    generalize m0.alloc (.cells T_3_int 0 [.int .i64 o0, .int .i64 o1, .int .i64 o2]) = m1 at *
    have hc := codNew_ok hb1
    have hch := Chg.alloc (fun _ => False) m1 (.cells T_rc_Coder 0 [.bool false, .int .u64 0, .nilptr, .nilslice, .int .u64 0, .int .i64 0, .int .i64 0])
    have ho2 := hox.alloc hb1 (.cells T_rc_Coder 0 [.bool false, .int .u64 0, .nilptr, .nilslice, .int .u64 0, .int .i64 0, .int .i64 0])
    have hnx2 : (m1.alloc (.cells T_rc_Coder 0 [.bool false, .int .u64 0, .nilptr, .nilslice, .int .u64 0, .int .i64 0, .int .i64 0])).next = m1.next + 1 := rfl
    have hb2 : (m1.alloc (.cells T_rc_Coder 0 [.bool false, .int .u64 0, .nilptr, .nilslice, .int .u64 0, .int .i64 0, .int .i64 0])).base ≤ (m1.alloc (.cells T_rc_Coder 0 [.bool false, .int .u64 0, .nilptr, .nilslice, .int .u64 0, .int .i64 0, .int .i64 0])).next := Nat.le_succ_of_le hb1
    generalize m1.alloc (.cells T_rc_Coder 0 [.bool false, .int .u64 0, .nilptr, .nilslice, .int .u64 0, .int .i64 0, .int .i64 0]) = m2 at *
    have hr := refNew_ok hb2
    have hch3 := Chg.alloc (fun _ => False) m2 (.cells T_ref04_Coder 0 [.nilslice, .int .i64 0, .int .i64 0])
    have ho3 := ho2.alloc hb2 (.cells T_ref04_Coder 0 [.nilslice, .int .i64 0, .int .i64 0])
    have hnx3 : (m2.alloc (.cells T_ref04_Coder 0 [.nilslice, .int .i64 0, .int .i64 0])).next = m2.next + 1 := rfl
    have hb3 : (m2.alloc (.cells T_ref04_Coder 0 [.nilslice, .int .i64 0, .int .i64 0])).base ≤ (m2.alloc (.cells T_ref04_Coder 0 [.nilslice, .int .i64 0, .int .i64 0])).next := Nat.le_succ_of_le hb2
    generalize m2.alloc (.cells T_ref04_Coder 0 [.nilslice, .int .i64 0, .int .i64 0]) = m3 at *
    refine codes_loop (o0 := o0) (o1 := o1) (o2 := o2) hA h3 (fun _ => rfl) ⟨ho3, hb3, ?_, CodAt.chg hc hch3 id (fun _ _ => id), start_is, hr, ?_, ?_, ?_⟩
    · intro b hb
      obtain rfl : b = m0.next := hb
      exact ⟨by omega, (hch3.get _ (by omega) id).trans ((hch.get _ (by omega) id).trans hbx)⟩
    · intro b h1 h2
      rcases h1 with h1 | h1
      · rcases h2 with h2 | h2
        · omega
        · exact h2.elim
      · exact h1.elim
    · intro b h1 h2
      rcases h1 with h1 | h1
      · have h2 : b = m0.next := h2
        omega
      · exact h1.elim
    · intro b h1 h2
      rcases h1 with h1 | h1
      · have h2 : b = m0.next := h2
        omega
      · exact h1.elim

/-! RcBack -/

/-- The part that three numbers say. -/
def ivSome (x : Iv) (p : Nat × Nat × Nat) : Iv := x.code (someLo p.1 p.2.2) (someHi p.1 p.2.1 p.2.2) (1 + p.2.2)
def Small (L : List (Nat × Nat × Nat)) : Prop := ∀ p ∈ L, p.2.2 < 65536
theorem somes_sub : ∀ (L : List (Nat × Nat × Nat)) (x : Iv), Small L → x.Sub (L.foldl ivSome x)
  | [], x, _ => Iv.Sub.refl x
  | p :: L, x, h => by
    have hp := some_part (a := p.1) (b := p.2.1) (h p (by simp))
    exact (Iv.code_sub x ⟨hp.1, hp.2.1⟩).trans (somes_sub L (ivSome x p) (fun q hq => h q (by simp [hq])))
theorem somes_fits : ∀ (L : List (Nat × Nat × Nat)) (x : Iv), Small L → x.Fits → (L.foldl ivSome x).Fits
  | [], x, _, hx => hx
  | p :: L, x, h, hx => somes_fits L (ivSome x p) (fun q hq => h q (by simp [hq])) (Iv.code_fits hx (some_part (a := p.1) (b := p.2.1) (h p (by simp))))
theorem somes_n : ∀ (L : List (Nat × Nat × Nat)) (x : Iv), (L.foldl ivSome x).n ≤ x.n + 3 * L.length
  | [], x => by simp
  | p :: L, x => by
    have h1 := somes_n L (ivSome x p)
    have h2 := (Iv.code_n (someLo p.1 p.2.2) (someHi p.1 p.2.1 p.2.2) (1 + p.2.2) x).2
    have h3 : (ivSome x p).n ≤ x.n + 3 := h2
    simp -implicitDefEqProofs only [List.foldl_cons, List.length_cons]
    omega
theorem somes_take {L : List (Nat × Nat × Nat)} {k : Nat} (x : Iv) (h : Small L) : ((L.take k).foldl ivSome x).Sub (L.foldl ivSome x) := by
  have := somes_sub (L.drop k) ((L.take k).foldl ivSome x) (fun q hq => h q (List.mem_of_mem_drop hq))
  rwa [← List.foldl_append, List.take_append_drop] at this
theorem somes_succ {L : List (Nat × Nat × Nat)} {k : Nat} {p : Nat × Nat × Nat} (x : Iv) (h : L[k]? = Option.some p) : (L.take (k + 1)).foldl ivSome x = ivSome ((L.take k).foldl ivSome x) p := by
  rw [List.take_add_one, h]
  simp [List.foldl_append]

theorem back_takes {L : List (Nat × Nat × Nat)} {m0 : Mem} {v : AV} {i : Nat} {S : List UInt8} (hA : Arr3 m0 v L) (hL : L.length ≤ 60) (hs : Small L) (hS : S = (L.foldl ivSome Iv.start).ends) {Q : AV → Mem → Prop} (hq : ∀ m, Q (.bool true) m) {m : Mem} {s : Bool} {r : Nat}
    (ho : Old m0 m) (hb : m.base ≤ i) (hn : i < m.next) (hg : m.get i = decObj s r (Dec.start S).code (Dec.start S).l) (hr : rngOf s r = (Dec.start S).rng) {j3 j4 j5 j6 : AV} :
    Ok (fun n => loopN (fun r l => law04_RcBack_l1 (fcall Tryd.prog ext1 n) n r (l.getD 0 .undef) (l.getD 1 .undef) (l.getD 2 .undef) (l.getD 3 .undef) (l.getD 4 .undef) (l.getD 5 .undef) (l.getD 6 .undef)) n [v, .ptr i 0, .int .i64 0, j3, j4, j5, j6]) m Q := by
  have hw : ∀ k, Within S ((L.take k).foldl ivSome Iv.start) := fun k => by
    rw [hS]
    exact within_ends (somes_fits L _ hs Iv.start_fits) (somes_take _ hs)
  refine Ok.loop (fun k l m => ∃ (idx : Nat) (d : Dec) (s : Bool) (r : Nat) (j3 j4 j5 j6 : AV), k + idx = L.length ∧ l = [v, .ptr i 0, .int .i64 idx, j3, j4, j5, j6] ∧ Old m0 m ∧ m.base ≤ i ∧ i < m.next ∧ m.get i = decObj s r d.code d.l ∧ rngOf s r = d.rng ∧ d.Fits ∧ d.At S ((L.take idx).foldl ivSome Iv.start)) ?_ (k := L.length) ⟨0, Dec.start S, s, r, j3, j4, j5, j6, rfl, rfl, ho, hb, hn, hg, hr, start_fits S, at_start S⟩
  clear ho hb hn hg hr
  rintro k l m rec ⟨idx, d, s, r, j3, j4, j5, j6, hk, rfl, ho, hb, hn, hg, hr, hfit, hat⟩ ih
  cases k with
  | zero =>
    have h1 : ¬ (idx : Int) < (L.length : Int) := by omega
    simp -implicitDefEqProofs only [List.getD_cons_zero, List.getD_cons_succ, law04_RcBack_l1, lp_some', mc_true, mc_false, ok_ret, ok_mc, ok_snap, aBin_add, aBin_sub, aBin_mul, aBin_lss, aBin_leq, aBin_gtr, aBin_geq, aBin_eql, aBin_neq, aBin_eqlStr, aBin_neqStr, strEq_bs, aBin_eqlNil, aBin_eqlNil', aBin_neqNil, aBin_neqNil', aUn_not, aUn_neg, aNil_ptr, aOff_ptr, aInt_int, aLenStr_str, aLenS_slice, aLenS_nil, aFold_min, aFold_max, bs_size, bs_empty, Nat.zero_add, Nat.add_zero, Nat.reduceAdd, ok_load, Mem.get_set, Mem.set_set, List.getElem?_cons_zero, List.getElem?_cons_succ, Option.some.injEq, exists_eq_left', List.set_cons_zero, List.set_cons_succ, hA.len, h1, decide_false, Bool.false_eq_true, if_false]
    refine Ok.bnd (awake_ok ?_)
    simp -implicitDefEqProofs only [lp_some', mc_true, mc_false, ok_ret, ok_mc, ok_snap, aBin_add, aBin_sub, aBin_mul, aBin_lss, aBin_leq, aBin_gtr, aBin_geq, aBin_eql, aBin_neq, aBin_eqlStr, aBin_neqStr, strEq_bs, aBin_eqlNil, aBin_eqlNil', aBin_neqNil, aBin_neqNil', aUn_not, aUn_neg, aNil_ptr, aOff_ptr, aInt_int, aLenStr_str, aLenS_slice, aLenS_nil, aFold_min, aFold_max, bs_size, bs_empty, Nat.zero_add, Nat.add_zero, Nat.reduceAdd, ok_load, Mem.get_set, Mem.set_set, List.getElem?_cons_zero, List.getElem?_cons_succ, Option.some.injEq, exists_eq_left', List.set_cons_zero, List.set_cons_succ]
    exact hq _
  | succ k =>
    have h1 : (idx : Int) < (L.length : Int) := by omega
    have h1' : idx < L.length := by omega
    rcases hA with ⟨_, rfl⟩ | ⟨b, o, rfl, hbb, hel⟩
    · simp at h1'
    have hLi : L[idx]? = Option.some L[idx] := List.getElem?_eq_getElem h1'
    obtain ⟨⟨l0, l1, l2⟩, p0, p1, p2⟩ := hel idx L[idx] hLi
    have hsucc := somes_succ Iv.start hLi
    generalize L[idx] = p at *
    obtain ⟨x0, y0, z0⟩ := p
    simp only at l0 l1 l2 p0 p1 p2
    have hw1 := hw (idx + 1)
    rw [hsucc] at hw1
    have hwx : (ivSome ((L.take idx).foldl ivSome Iv.start) (x0, y0, z0)) = ((L.take idx).foldl ivSome Iv.start).code (someLo x0 z0) (someHi x0 y0 z0) (1 + z0) := rfl
    rw [hwx] at hw1 hsucc
    have x0' : ∀ i q, aIdxA 3 1 (.ptr i q) (.int .i64 0) = some (.ptr i q) := fun i q => by simp [aIdxA]
    have x1' : ∀ i q, aIdxA 3 1 (.ptr i q) (.int .i64 1) = some (.ptr i (q + 1)) := fun i q => by simp [aIdxA]
    have x2' : ∀ i q, aIdxA 3 1 (.ptr i q) (.int .i64 2) = some (.ptr i (q + 2)) := fun i q => by simp [aIdxA]
    have xi : aIdxS 3 (.slice b o L.length 0) (.int .i64 idx) = some (.ptr b (o + idx * 3)) := aIdxS_at h1'
    have g0 : ∀ m', Old m0 m' → load? none (.ptr b (o + idx * 3)) m' = some (.int .u16 x0) := fun m' h => (h.load hbb).trans l0
    have g1 : ∀ m', Old m0 m' → load? none (.ptr b (o + idx * 3 + 1)) m' = some (.int .u16 y0) := fun m' h => (h.load hbb).trans l1
    have g2 : ∀ m', Old m0 m' → load? none (.ptr b (o + idx * 3 + 2)) m' = some (.int .u16 z0) := fun m' h => (h.load hbb).trans l2
    have hbn : m.base ≤ m.next := by omega
    simp -implicitDefEqProofs only [List.getD_cons_zero, List.getD_cons_succ, law04_RcBack_l1, lp_some', mc_true, mc_false, ok_ret, ok_mc, ok_snap, aBin_add, aBin_sub, aBin_mul, aBin_lss, aBin_leq, aBin_gtr, aBin_geq, aBin_eql, aBin_neq, aBin_eqlStr, aBin_neqStr, strEq_bs, aBin_eqlNil, aBin_eqlNil', aBin_neqNil, aBin_neqNil', aUn_not, aUn_neg, aNil_ptr, aOff_ptr, aInt_int, aLenStr_str, aLenS_slice, aLenS_nil, aFold_min, aFold_max, bs_size, bs_empty, Nat.zero_add, Nat.add_zero, Nat.reduceAdd, ok_load, Mem.get_set, Mem.set_set, List.getElem?_cons_zero, List.getElem?_cons_succ, Option.some.injEq, exists_eq_left', List.set_cons_zero, List.set_cons_succ, h1, decide_true, if_true, xi, x0', x1', x2', g0 m ho, g1 m ho, g2 m ho]
    refine Ok.bnd (some_ok p0 p1 p2 hbn fun ob => ?_)
    have hpart := some_part (a := x0) (b := y0) p2
    have ho1 := ho.alloc hbn ob
    have hg1 : (m.alloc ob).get i = decObj s r d.code d.l := (get_alloc_ne (by omega)).trans hg
    have hb1 : (m.alloc ob).base ≤ i := hb
    have hn1 : i < (m.alloc ob).next := Nat.lt_succ_of_lt hn
    generalize hm1 : m.alloc ob = m1 at *
    have hbn1 : m1.base ≤ m1.next := by omega
    simp -implicitDefEqProofs only [lp_some', mc_true, mc_false, ok_ret, ok_mc, ok_snap, aBin_add, aBin_sub, aBin_mul, aBin_lss, aBin_leq, aBin_gtr, aBin_geq, aBin_eql, aBin_neq, aBin_eqlStr, aBin_neqStr, strEq_bs, aBin_eqlNil, aBin_eqlNil', aBin_neqNil, aBin_neqNil', aUn_not, aUn_neg, aNil_ptr, aOff_ptr, aInt_int, aLenStr_str, aLenS_slice, aLenS_nil, aFold_min, aFold_max, bs_size, bs_empty, Nat.zero_add, Nat.add_zero, Nat.reduceAdd, ok_load, Mem.get_set, Mem.set_set, List.getElem?_cons_zero, List.getElem?_cons_succ, Option.some.injEq, exists_eq_left', List.set_cons_zero, List.set_cons_succ, ok_alloc]
    have ho2 := ho1.alloc hbn1 (.cells T_ref04_Part 0 [.int .i64 0, .int .i64 0, .int .i64 0])
    have s2 := fun (k : M AV) => same_load (g2 _ ho2) (eqb_int _ _) k
    have s1 := fun (k : M AV) => same_load (g1 _ ho2) (eqb_int _ _) k
    have s0 := fun (k : M AV) => same_load (g0 _ ho2) (eqb_int _ _) k
    have hst := fun (k : Nat → AV → M AV) => ok_storeAll (i := m1.next) (k := k) (Q := Q) (vs := [.int .i64 (someLo x0 z0), .int .i64 (someHi x0 y0 z0), .int .i64 (1 + z0 : Nat)]) (n := 3) (Mem.get_alloc m1 (.cells T_ref04_Part 0 [.int .i64 0, .int .i64 0, .int .i64 0])) hbn1 rfl rfl (by simp)
    simp -implicitDefEqProofs only [s2, s1, s0, lp_some', mc_true, mc_false, ok_ret, ok_mc, ok_snap, aBin_add, aBin_sub, aBin_mul, aBin_lss, aBin_leq, aBin_gtr, aBin_geq, aBin_eql, aBin_neq, aBin_eqlStr, aBin_neqStr, strEq_bs, aBin_eqlNil, aBin_eqlNil', aBin_neqNil, aBin_neqNil', aUn_not, aUn_neg, aNil_ptr, aOff_ptr, aInt_int, aLenStr_str, aLenS_slice, aLenS_nil, aFold_min, aFold_max, bs_size, bs_empty, Nat.zero_add, Nat.add_zero, Nat.reduceAdd, ok_load, Mem.get_set, Mem.set_set, List.getElem?_cons_zero, List.getElem?_cons_succ, Option.some.injEq, exists_eq_left', List.set_cons_zero, List.set_cons_succ, hst, Mem.alloc_set]
    have ho3 := ho1.alloc hbn1 (.cells T_ref04_Part 0 [.int .i64 (someLo x0 z0), .int .i64 (someHi x0 y0 z0), .int .i64 (1 + z0 : Nat)])
    have hget := Mem.get_alloc m1 (.cells T_ref04_Part 0 [.int .i64 (someLo x0 z0), .int .i64 (someHi x0 y0 z0), .int .i64 (1 + z0 : Nat)])
    have hg3 : (m1.alloc (.cells T_ref04_Part 0 [.int .i64 (someLo x0 z0), .int .i64 (someHi x0 y0 z0), .int .i64 (1 + z0 : Nat)])).get i = decObj s r d.code d.l := (get_alloc_ne (by omega)).trans hg1
    have hb3 : (m1.alloc (.cells T_ref04_Part 0 [.int .i64 (someLo x0 z0), .int .i64 (someHi x0 y0 z0), .int .i64 (1 + z0 : Nat)])).base ≤ i := hb1
    have hn3 : i < (m1.alloc (.cells T_ref04_Part 0 [.int .i64 (someLo x0 z0), .int .i64 (someHi x0 y0 z0), .int .i64 (1 + z0 : Nat)])).next := Nat.lt_succ_of_lt hn1
    have hne : m1.next ≠ i := by omega
    generalize m1.alloc (.cells T_ref04_Part 0 [.int .i64 (someLo x0 z0), .int .i64 (someHi x0 y0 z0), .int .i64 (1 + z0 : Nat)]) = m3 at *
    generalize m1.next = ip at *
    simp -implicitDefEqProofs only [load_at hget, lp_some', mc_true, mc_false, ok_ret, ok_mc, ok_snap, aBin_add, aBin_sub, aBin_mul, aBin_lss, aBin_leq, aBin_gtr, aBin_geq, aBin_eql, aBin_neq, aBin_eqlStr, aBin_neqStr, strEq_bs, aBin_eqlNil, aBin_eqlNil', aBin_neqNil, aBin_neqNil', aUn_not, aUn_neg, aNil_ptr, aOff_ptr, aInt_int, aLenStr_str, aLenS_slice, aLenS_nil, aFold_min, aFold_max, bs_size, bs_empty, Nat.zero_add, Nat.add_zero, Nat.reduceAdd, ok_load, Mem.get_set, Mem.set_set, List.getElem?_cons_zero, List.getElem?_cons_succ, Option.some.injEq, exists_eq_left', List.set_cons_zero, List.set_cons_succ]
    refine Ok.bnd (place_ok hg3 hb3 hr hfit ⟨by omega, hpart.2.2⟩ ?_)
    have hget4 := (get_set_ne (m := m3) (i := i) (o := decObj true d.rng d.code d.l) hne).trans hget
    have hg4 : (m3.set i (decObj true d.rng d.code d.l)).get i = decObj true d.rng d.code d.l := by simp
    have ho4 := ho3.set hb3 (decObj true d.rng d.code d.l)
    have hb4 : (m3.set i (decObj true d.rng d.code d.l)).base ≤ i := hb3
    have hn4 : i < (m3.set i (decObj true d.rng d.code d.l)).next := hn3
    generalize m3.set i (decObj true d.rng d.code d.l) = m4 at *
    obtain ⟨hp1, hp2⟩ := at_place hat (somes_fits (L.take idx) _ (fun q hq => hs q (List.mem_of_mem_take hq)) Iv.start_fits) hpart hw1
    have hd1 : ¬ ((d.place (1 + z0) : Nat) : Int) < (someLo x0 z0 : Int) := by omega
    have hd2 : ¬ (someHi x0 y0 z0 : Int) ≤ ((d.place (1 + z0) : Nat) : Int) := by omega
    simp -implicitDefEqProofs only [load_at hget4, lp_some', mc_true, mc_false, ok_ret, ok_mc, ok_snap, aBin_add, aBin_sub, aBin_mul, aBin_lss, aBin_leq, aBin_gtr, aBin_geq, aBin_eql, aBin_neq, aBin_eqlStr, aBin_neqStr, strEq_bs, aBin_eqlNil, aBin_eqlNil', aBin_neqNil, aBin_neqNil', aUn_not, aUn_neg, aNil_ptr, aOff_ptr, aInt_int, aLenStr_str, aLenS_slice, aLenS_nil, aFold_min, aFold_max, bs_size, bs_empty, Nat.zero_add, Nat.add_zero, Nat.reduceAdd, ok_load, Mem.get_set, Mem.set_set, List.getElem?_cons_zero, List.getElem?_cons_succ, Option.some.injEq, exists_eq_left', List.set_cons_zero, List.set_cons_succ, hd1, hd2, decide_false, Bool.false_eq_true, if_false, law04_RcBack_j0]
    refine Ok.bnd (take_ok hg4 hb4 (by simp [rngOf]) hfit hpart ?_)
    have e9 : IntKind.i64.wrap ((idx : Int) + 1) = ((idx + 1 : Nat) : Int) := by rw [IntWalk.i64_in _ (by omega)]; rfl
    simp -implicitDefEqProofs only [lp_some', mc_true, mc_false, ok_ret, ok_mc, ok_snap, aBin_add, aBin_sub, aBin_mul, aBin_lss, aBin_leq, aBin_gtr, aBin_geq, aBin_eql, aBin_neq, aBin_eqlStr, aBin_neqStr, strEq_bs, aBin_eqlNil, aBin_eqlNil', aBin_neqNil, aBin_neqNil', aUn_not, aUn_neg, aNil_ptr, aOff_ptr, aInt_int, aLenStr_str, aLenS_slice, aLenS_nil, aFold_min, aFold_max, bs_size, bs_empty, Nat.zero_add, Nat.add_zero, Nat.reduceAdd, ok_load, Mem.get_set, Mem.set_set, List.getElem?_cons_zero, List.getElem?_cons_succ, Option.some.injEq, exists_eq_left', List.set_cons_zero, List.set_cons_succ, e9]
    exact ih k _ _ (Nat.lt_succ_self _) ⟨idx + 1, d.take (someLo x0 z0) (someHi x0 y0 z0) (1 + z0), true, _, _, _, _, _, by omega, rfl, ho4.set hb4 _, hb4, hn4, by simp; rfl, by simp [rngOf], take_fits hfit hpart, by rw [hsucc]; exact at_take hat hw1⟩

theorem back_loop {L : List (Nat × Nat × Nat)} {m0 : Mem} {v : AV} {i1 : Nat} (hA : Arr3 m0 v L) (hL : L.length ≤ 60) (hs : Small L) {Q : AV → Mem → Prop} (hq : ∀ m, Q (.bool true) m) {m : Mem} {c0 : Cst} {a0 buf0 : AV} (ho : Old m0 m) (hc0 : CodAt m i1 c0 a0 buf0) (hI0 : c0.Is Iv.start) :
    Ok (fun n => loopN (fun r l => law04_RcBack_l0 (fcall Tryd.prog ext1 n) n r (l.getD 0 .undef) (l.getD 1 .undef) (l.getD 2 .undef) (l.getD 3 .undef) (l.getD 4 .undef) (l.getD 5 .undef) (l.getD 6 .undef)) n [v, .ptr i1 0, .int .i64 0, .undef, .undef, .undef, .undef]) m Q := by
  refine Ok.loop (fun k l m => ∃ (idx : Nat) (c : Cst) (a buf : AV), k + idx = L.length ∧ l = [v, .ptr i1 0, .int .i64 idx, .undef, .undef, .undef, .undef] ∧ Old m0 m ∧ CodAt m i1 c a buf ∧ c.Is ((L.take idx).foldl ivSome Iv.start)) ?_ (k := L.length) ⟨0, c0, a0, buf0, rfl, rfl, ho, hc0, hI0⟩
  clear ho hc0 hI0
  rintro k l m rec ⟨idx, c, a, buf, hk, rfl, ho, hc, hI⟩ ih
  have hbn : m.base ≤ m.next := by have := hc.base; have := hc.next; omega
  have hxn := somes_n (L.take idx) Iv.start
  have hx := somes_fits (L.take idx) _ (fun q hq => hs q (List.mem_of_mem_take hq)) Iv.start_fits
  have hn : ((L.take idx).foldl ivSome Iv.start).n ≤ 180 := by
    have : (L.take idx).length ≤ 60 := by rw [List.length_take]; omega
    have h0 : Iv.start.n = 0 := rfl
    omega
  cases k with
  | zero =>
    have h1 : ¬ (idx : Int) < (L.length : Int) := by omega
    have e : L.take idx = L := List.take_of_length_le (by omega)
    rw [e] at hI hn
    simp -implicitDefEqProofs only [List.getD_cons_zero, List.getD_cons_succ, law04_RcBack_l0, lp_some', mc_true, mc_false, ok_ret, ok_mc, ok_snap, aBin_add, aBin_sub, aBin_mul, aBin_lss, aBin_leq, aBin_gtr, aBin_geq, aBin_eql, aBin_neq, aBin_eqlStr, aBin_neqStr, strEq_bs, aBin_eqlNil, aBin_eqlNil', aBin_neqNil, aBin_neqNil', aUn_not, aUn_neg, aNil_ptr, aOff_ptr, aInt_int, aLenStr_str, aLenS_slice, aLenS_nil, aFold_min, aFold_max, bs_size, bs_empty, Nat.zero_add, Nat.add_zero, Nat.reduceAdd, ok_load, Mem.get_set, Mem.set_set, List.getElem?_cons_zero, List.getElem?_cons_succ, Option.some.injEq, exists_eq_left', List.set_cons_zero, List.set_cons_succ, hA.len, h1, decide_false, Bool.false_eq_true, if_false]
    refine Ok.bnd (end_ok hc hI (by omega) fun m1 hc1 hch1 => ?_)
    have ho1 : Old m0 m1 := hch1.old ho hbn (fun b hb => (hc.foot_lt b (.inr hb)).2)
    have hbn1 : m1.base ≤ m1.next := by have := hc1.base; have := hc1.next; omega
    refine Ok.bnd (new_ok hbn1 ?_)
    refine back_takes hA hL hs rfl hq (ho1.alloc hbn1 _) hbn1 (Nat.lt_succ_self _) (Mem.get_alloc _ _) ?_
    simp [rngOf, start_rng]
  | succ k =>
    have h1 : (idx : Int) < (L.length : Int) := by omega
    have h1' : idx < L.length := by omega
    rcases hA with ⟨_, rfl⟩ | ⟨b, o, rfl, hbb, hel⟩
    · simp at h1'
    have hLi : L[idx]? = Option.some L[idx] := List.getElem?_eq_getElem h1'
    obtain ⟨⟨l0, l1, l2⟩, p0, p1, p2⟩ := hel idx L[idx] hLi
    have hsucc := somes_succ Iv.start hLi
    generalize L[idx] = p at *
    obtain ⟨x0, y0, z0⟩ := p
    simp only at l0 l1 l2 p0 p1 p2
    have hwx : (ivSome ((L.take idx).foldl ivSome Iv.start) (x0, y0, z0)) = ((L.take idx).foldl ivSome Iv.start).code (someLo x0 z0) (someHi x0 y0 z0) (1 + z0) := rfl
    rw [hwx] at hsucc
    have x0' : ∀ i q, aIdxA 3 1 (.ptr i q) (.int .i64 0) = some (.ptr i q) := fun i q => by simp [aIdxA]
    have x1' : ∀ i q, aIdxA 3 1 (.ptr i q) (.int .i64 1) = some (.ptr i (q + 1)) := fun i q => by simp [aIdxA]
    have x2' : ∀ i q, aIdxA 3 1 (.ptr i q) (.int .i64 2) = some (.ptr i (q + 2)) := fun i q => by simp [aIdxA]
    have xi : aIdxS 3 (.slice b o L.length 0) (.int .i64 idx) = some (.ptr b (o + idx * 3)) := aIdxS_at h1'
    have g0 : ∀ m', Old m0 m' → load? none (.ptr b (o + idx * 3)) m' = some (.int .u16 x0) := fun m' h => (h.load hbb).trans l0
    have g1 : ∀ m', Old m0 m' → load? none (.ptr b (o + idx * 3 + 1)) m' = some (.int .u16 y0) := fun m' h => (h.load hbb).trans l1
    have g2 : ∀ m', Old m0 m' → load? none (.ptr b (o + idx * 3 + 2)) m' = some (.int .u16 z0) := fun m' h => (h.load hbb).trans l2
    simp -implicitDefEqProofs only [List.getD_cons_zero, List.getD_cons_succ, law04_RcBack_l0, lp_some', mc_true, mc_false, ok_ret, ok_mc, ok_snap, aBin_add, aBin_sub, aBin_mul, aBin_lss, aBin_leq, aBin_gtr, aBin_geq, aBin_eql, aBin_neq, aBin_eqlStr, aBin_neqStr, strEq_bs, aBin_eqlNil, aBin_eqlNil', aBin_neqNil, aBin_neqNil', aUn_not, aUn_neg, aNil_ptr, aOff_ptr, aInt_int, aLenStr_str, aLenS_slice, aLenS_nil, aFold_min, aFold_max, bs_size, bs_empty, Nat.zero_add, Nat.add_zero, Nat.reduceAdd, ok_load, Mem.get_set, Mem.set_set, List.getElem?_cons_zero, List.getElem?_cons_succ, Option.some.injEq, exists_eq_left', List.set_cons_zero, List.set_cons_succ, h1, decide_true, if_true, xi, x0', x1', x2', g0 m ho, g1 m ho, g2 m ho]
    refine Ok.bnd (some_ok p0 p1 p2 hbn fun ob => ?_)
    have hpart := some_part (a := x0) (b := y0) p2
    have ho1 := ho.alloc hbn ob
    have hc1 := CodAt.chg hc (Chg.alloc (fun _ => False) m ob) id (fun _ _ => id)
    generalize hm1 : m.alloc ob = m1 at *
    have hbn1 : m1.base ≤ m1.next := by have := hc1.base; have := hc1.next; omega
    simp -implicitDefEqProofs only [lp_some', mc_true, mc_false, ok_ret, ok_mc, ok_snap, aBin_add, aBin_sub, aBin_mul, aBin_lss, aBin_leq, aBin_gtr, aBin_geq, aBin_eql, aBin_neq, aBin_eqlStr, aBin_neqStr, strEq_bs, aBin_eqlNil, aBin_eqlNil', aBin_neqNil, aBin_neqNil', aUn_not, aUn_neg, aNil_ptr, aOff_ptr, aInt_int, aLenStr_str, aLenS_slice, aLenS_nil, aFold_min, aFold_max, bs_size, bs_empty, Nat.zero_add, Nat.add_zero, Nat.reduceAdd, ok_load, Mem.get_set, Mem.set_set, List.getElem?_cons_zero, List.getElem?_cons_succ, Option.some.injEq, exists_eq_left', List.set_cons_zero, List.set_cons_succ, ok_alloc]
    have ho2 := ho1.alloc hbn1 (.cells T_ref04_Part 0 [.int .i64 0, .int .i64 0, .int .i64 0])
    have s2 := fun (k : M AV) => same_load (g2 _ ho2) (eqb_int _ _) k
    have s1 := fun (k : M AV) => same_load (g1 _ ho2) (eqb_int _ _) k
    have s0 := fun (k : M AV) => same_load (g0 _ ho2) (eqb_int _ _) k
    have hst := fun (k : Nat → AV → M AV) => ok_storeAll (i := m1.next) (k := k) (Q := Q) (vs := [.int .i64 (someLo x0 z0), .int .i64 (someHi x0 y0 z0), .int .i64 (1 + z0 : Nat)]) (n := 3) (Mem.get_alloc m1 (.cells T_ref04_Part 0 [.int .i64 0, .int .i64 0, .int .i64 0])) hbn1 rfl rfl (by simp)
    simp -implicitDefEqProofs only [s2, s1, s0, lp_some', mc_true, mc_false, ok_ret, ok_mc, ok_snap, aBin_add, aBin_sub, aBin_mul, aBin_lss, aBin_leq, aBin_gtr, aBin_geq, aBin_eql, aBin_neq, aBin_eqlStr, aBin_neqStr, strEq_bs, aBin_eqlNil, aBin_eqlNil', aBin_neqNil, aBin_neqNil', aUn_not, aUn_neg, aNil_ptr, aOff_ptr, aInt_int, aLenStr_str, aLenS_slice, aLenS_nil, aFold_min, aFold_max, bs_size, bs_empty, Nat.zero_add, Nat.add_zero, Nat.reduceAdd, ok_load, Mem.get_set, Mem.set_set, List.getElem?_cons_zero, List.getElem?_cons_succ, Option.some.injEq, exists_eq_left', List.set_cons_zero, List.set_cons_succ, hst, Mem.alloc_set]
    have ho3 := ho1.alloc hbn1 (.cells T_ref04_Part 0 [.int .i64 (someLo x0 z0), .int .i64 (someHi x0 y0 z0), .int .i64 (1 + z0 : Nat)])
    have hget := Mem.get_alloc m1 (.cells T_ref04_Part 0 [.int .i64 (someLo x0 z0), .int .i64 (someHi x0 y0 z0), .int .i64 (1 + z0 : Nat)])
    have hc3 := CodAt.chg hc1 (Chg.alloc (fun _ => False) m1 (.cells T_ref04_Part 0 [.int .i64 (someLo x0 z0), .int .i64 (someHi x0 y0 z0), .int .i64 (1 + z0 : Nat)])) id (fun _ _ => id)
    generalize m1.alloc (.cells T_ref04_Part 0 [.int .i64 (someLo x0 z0), .int .i64 (someHi x0 y0 z0), .int .i64 (1 + z0 : Nat)]) = m3 at *
    have hbn3 : m3.base ≤ m3.next := by have := hc3.base; have := hc3.next; omega
    simp -implicitDefEqProofs only [load_at hget, lp_some', mc_true, mc_false, ok_ret, ok_mc, ok_snap, aBin_add, aBin_sub, aBin_mul, aBin_lss, aBin_leq, aBin_gtr, aBin_geq, aBin_eql, aBin_neq, aBin_eqlStr, aBin_neqStr, strEq_bs, aBin_eqlNil, aBin_eqlNil', aBin_neqNil, aBin_neqNil', aUn_not, aUn_neg, aNil_ptr, aOff_ptr, aInt_int, aLenStr_str, aLenS_slice, aLenS_nil, aFold_min, aFold_max, bs_size, bs_empty, Nat.zero_add, Nat.add_zero, Nat.reduceAdd, ok_load, Mem.get_set, Mem.set_set, List.getElem?_cons_zero, List.getElem?_cons_succ, Option.some.injEq, exists_eq_left', List.set_cons_zero, List.set_cons_succ]
    refine Ok.bnd (code_ok hc3 hI hx (by omega) hpart fun m4 c4 a4 buf4 hc4 hI4 hF4 => ?_)
    have e9 : IntKind.i64.wrap ((idx : Int) + 1) = ((idx + 1 : Nat) : Int) := by rw [IntWalk.i64_in _ (by omega)]; rfl
    simp -implicitDefEqProofs only [lp_some', mc_true, mc_false, ok_ret, ok_mc, ok_snap, aBin_add, aBin_sub, aBin_mul, aBin_lss, aBin_leq, aBin_gtr, aBin_geq, aBin_eql, aBin_neq, aBin_eqlStr, aBin_neqStr, strEq_bs, aBin_eqlNil, aBin_eqlNil', aBin_neqNil, aBin_neqNil', aUn_not, aUn_neg, aNil_ptr, aOff_ptr, aInt_int, aLenStr_str, aLenS_slice, aLenS_nil, aFold_min, aFold_max, bs_size, bs_empty, Nat.zero_add, Nat.add_zero, Nat.reduceAdd, ok_load, Mem.get_set, Mem.set_set, List.getElem?_cons_zero, List.getElem?_cons_succ, Option.some.injEq, exists_eq_left', List.set_cons_zero, List.set_cons_succ, e9]
    exact ih k _ _ (Nat.lt_succ_self _) ⟨idx + 1, c4, a4, buf4, by omega, rfl, hF4.old ho3 hc3.foot_lt hbn3, hc4, by rw [hsucc]; exact hI4⟩

theorem arr3_small {m : Mem} {v : AV} {L : List (Nat × Nat × Nat)} (h : Arr3 m v L) : Small L := by
  rcases h with ⟨_, rfl⟩ | ⟨b, o, _, _, hel⟩
  · intro p hp; simp at hp
  · intro p hp
    obtain ⟨k, hk, rfl⟩ := List.mem_iff_getElem.1 hp
    exact (hel k _ (List.getElem?_eq_getElem hk)).2.2.2

theorem back_ok {L : List (Nat × Nat × Nat)} {m0 : Mem} {v : AV} (hA : Arr3 m0 v L) (hbn : m0.base ≤ m0.next) : Ok (R fn_law04_RcBack [v]) m0 (fun v _ => v = .bool true) := by
  refine Ok.call (fun n => law04_RcBack_eq rfl n _) ?_
  simp -implicitDefEqProofs only [law04_RcBack, hA.len, lp_some', mc_true, mc_false, ok_ret, ok_mc, ok_snap, aBin_add, aBin_sub, aBin_mul, aBin_lss, aBin_leq, aBin_gtr, aBin_geq, aBin_eql, aBin_neq, aBin_eqlStr, aBin_neqStr, strEq_bs, aBin_eqlNil, aBin_eqlNil', aBin_neqNil, aBin_neqNil', aUn_not, aUn_neg, aNil_ptr, aOff_ptr, aInt_int, aLenStr_str, aLenS_slice, aLenS_nil, aFold_min, aFold_max, bs_size, bs_empty, Nat.zero_add, Nat.add_zero, Nat.reduceAdd, ok_load, Mem.get_set, Mem.set_set, List.getElem?_cons_zero, List.getElem?_cons_succ, Option.some.injEq, exists_eq_left', List.set_cons_zero, List.set_cons_succ]
  rcases Nat.lt_or_ge 60 L.length with h3 | h3
  · have h4 : (60 : Int) < (L.length : Int) := by omega
    simp -implicitDefEqProofs only [h4, decide_true, if_true]
    refine Ok.bnd (awake_ok ?_)
    simp -implicitDefEqProofs only [lp_some', mc_true, mc_false, ok_ret, ok_mc, ok_snap, aBin_add, aBin_sub, aBin_mul, aBin_lss, aBin_leq, aBin_gtr, aBin_geq, aBin_eql, aBin_neq, aBin_eqlStr, aBin_neqStr, strEq_bs, aBin_eqlNil, aBin_eqlNil', aBin_neqNil, aBin_neqNil', aUn_not, aUn_neg, aNil_ptr, aOff_ptr, aInt_int, aLenStr_str, aLenS_slice, aLenS_nil, aFold_min, aFold_max, bs_size, bs_empty, Nat.zero_add, Nat.add_zero, Nat.reduceAdd, ok_load, Mem.get_set, Mem.set_set, List.getElem?_cons_zero, List.getElem?_cons_succ, Option.some.injEq, exists_eq_left', List.set_cons_zero, List.set_cons_succ]
  · have h4 : ¬ (60 : Int) < (L.length : Int) := by omega
    have f1 : (aFill (fun i => [(0, 2), (2, 2), (4, 1), (5, 1), (6, 1)][i]?) [.bool false, .int .u64 0, .nilptr, .nilslice, .int .u64 0, .int .i64 0, .int .i64 0] []).map AV.agg = some (.agg [.bool false, .int .u64 0, .nilptr, .nilslice, .int .u64 0, .int .i64 0, .int .i64 0]) := rfl
    simp -implicitDefEqProofs only [h4, decide_false, Bool.false_eq_true, if_false, f1, lp_some', ok_box]
    exact back_loop hA h3 (arr3_small hA) (fun _ => rfl) ((Old.refl m0).alloc hbn _) (codNew_ok hbn) start_is
end SplA
