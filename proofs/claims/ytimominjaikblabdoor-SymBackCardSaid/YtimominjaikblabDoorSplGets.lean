/- The law SymGets. -/
import Derived.Test.YtimominjaikblabDoorSplSym3
import Derived.Test.YtimominjaikblabDoorSplLaw05
namespace SplA
open Go.Proofs.YtimominjaikblabDoor.Spl Go Go.Proofs
set_option maxRecDepth 100000
set_option linter.unusedVariables false
set_option linter.unusedSimpArgs false

structure Duo (m0 : Mem) (i1 i2 : Nat) (S : List UInt8) (dc dr : Dec) (A : Nat) (m : Mem) : Prop where
  old : Old m0 m
  dec : DecAt m i1 dc
  ref : RDecAt m i2 S dr A
  ne : i1 ≠ i2
theorem Duo.bn {m0 m : Mem} {i1 i2 A : Nat} {S : List UInt8} {dc dr : Dec} (h : Duo m0 i1 i2 S dc dr A m) : m.base ≤ m.next := by have := h.dec.base; have := h.dec.next; omega
theorem Duo.setDec {m0 m m' : Mem} {i1 i2 A : Nat} {S : List UInt8} {dc dr d' : Dec} (h : Duo m0 i1 i2 S dc dr A m) (h1 : DecAt m' i1 d') (hc : Chg (fun b => b = i1) m m') : Duo m0 i1 i2 S d' dr A m' :=
  ⟨hc.old h.old h.bn (fun b hb => by have hb : b = i1 := hb; subst hb; exact h.dec.base), h1, h.ref.chg hc (fun e => h.ne e.symm), h.ne⟩
theorem Duo.setRef {m0 m m' : Mem} {i1 i2 A A' : Nat} {S : List UInt8} {dc dr d' : Dec} (h : Duo m0 i1 i2 S dc dr A m) (h1 : RDecAt m' i2 S d' A') (hc : Chg (fun b => b = i2) m m') : Duo m0 i1 i2 S dc d' A' m' :=
  ⟨hc.old h.old h.bn (fun b hb => by have hb : b = i2 := hb; subst hb; exact h.ref.base), h.dec.chg hc (fun e => h.ne e), h1, h.ne⟩

theorem gets_loop {S : List UInt8} {L : List Itm} {m0 : Mem} {v : AV} {i1 i2 : Nat} (hA : ArrOf 3 itemF m0 v L) (hL : L.length ≤ 40) {Q : AV → Mem → Prop} (hq : ∀ m, Q (.bool true) m) {d0 : Dec} {A0 : Nat} {j1 j2 j3 j4 : AV} {m : Mem} (hA0 : A0 ≤ 4) (hT : Duo m0 i1 i2 S d0 d0 A0 m) :
    Ok (fun n => loopN (fun r l => law05_SymGets_l0 (fcall Tryd.prog ext1 n) n r (l.getD 0 .undef) (l.getD 1 .undef) (l.getD 2 .undef) (l.getD 3 .undef) (l.getD 4 .undef) (l.getD 5 .undef) (l.getD 6 .undef) (l.getD 7 .undef)) n [v, .ptr i1 0, .ptr i2 0, .int .i64 0, j1, j2, j3, j4]) m Q := by
  refine Ok.loop (fun k l m => ∃ (idx A : Nat) (d : Dec) (j1 j2 j3 j4 : AV), k + idx = L.length ∧ l = [v, .ptr i1 0, .ptr i2 0, .int .i64 idx, j1, j2, j3, j4] ∧ A ≤ 4 + 30 * idx ∧ Duo m0 i1 i2 S d d A m) ?_ (k := L.length) ⟨0, A0, d0, j1, j2, j3, j4, rfl, rfl, by omega, hT⟩
  clear hT
  rintro k l m rec ⟨idx, A, d, j1, j2, j3, j4, hk, rfl, hn, hT⟩ ih
  cases k with
  | zero =>
    have h1 : ¬ (idx : Int) < (L.length : Int) := by omega
    simp -implicitDefEqProofs only [List.getD_cons_zero, List.getD_cons_succ, law05_SymGets_l0, lp_some', mc_true, mc_false, ok_ret, ok_mc, ok_snap, aBin_add, aBin_sub, aBin_mul, aBin_lss, aBin_leq, aBin_gtr, aBin_geq, aBin_eql, aBin_neq, aBin_eqlStr, aBin_neqStr, strEq_bs, aBin_eqlNil, aBin_eqlNil', aBin_neqNil, aBin_neqNil', aUn_not, aUn_neg, aNil_ptr, aOff_ptr, aInt_int, aLenStr_str, aLenS_slice, aLenS_nil, aFold_min, aFold_max, bs_size, bs_empty, Nat.zero_add, Nat.add_zero, Nat.reduceAdd, ok_load, Mem.get_set, Mem.set_set, List.getElem?_cons_zero, List.getElem?_cons_succ, Option.some.injEq, exists_eq_left', List.set_cons_zero, List.set_cons_succ, hA.len, h1, decide_false, Bool.false_eq_true, if_false]
    refine Ok.bnd (cplace (t := 256) ⟨by decide, by decide⟩ m d _ hT.dec fun m1 g1 c1 => ?_)
    have hT1 := hT.setDec g1 c1
    refine Ok.bnd (rplace (t := 256) ⟨by decide, by decide⟩ m1 S d A _ hT1.ref (by omega) fun m2 g2 c2 => ?_)
    simp -implicitDefEqProofs only [lp_some', mc_true, mc_false, ok_ret, ok_mc, ok_snap, aBin_add, aBin_sub, aBin_mul, aBin_lss, aBin_leq, aBin_gtr, aBin_geq, aBin_eql, aBin_neq, aBin_eqlStr, aBin_neqStr, strEq_bs, aBin_eqlNil, aBin_eqlNil', aBin_neqNil, aBin_neqNil', aUn_not, aUn_neg, aNil_ptr, aOff_ptr, aInt_int, aLenStr_str, aLenS_slice, aLenS_nil, aFold_min, aFold_max, bs_size, bs_empty, Nat.zero_add, Nat.add_zero, Nat.reduceAdd, ok_load, Mem.get_set, Mem.set_set, List.getElem?_cons_zero, List.getElem?_cons_succ, Option.some.injEq, exists_eq_left', List.set_cons_zero, List.set_cons_succ, eq_self, decide_true, if_true]
    refine Ok.bnd (awake_ok ?_)
    simp -implicitDefEqProofs only [law05_SymGets_j3, lp_some', mc_true, mc_false, ok_ret, ok_mc, ok_snap, aBin_add, aBin_sub, aBin_mul, aBin_lss, aBin_leq, aBin_gtr, aBin_geq, aBin_eql, aBin_neq, aBin_eqlStr, aBin_neqStr, strEq_bs, aBin_eqlNil, aBin_eqlNil', aBin_neqNil, aBin_neqNil', aUn_not, aUn_neg, aNil_ptr, aOff_ptr, aInt_int, aLenStr_str, aLenS_slice, aLenS_nil, aFold_min, aFold_max, bs_size, bs_empty, Nat.zero_add, Nat.add_zero, Nat.reduceAdd, ok_load, Mem.get_set, Mem.set_set, List.getElem?_cons_zero, List.getElem?_cons_succ, Option.some.injEq, exists_eq_left', List.set_cons_zero, List.set_cons_succ]
    exact hq _
  | succ k =>
    have h1 : (idx : Int) < (L.length : Int) := by omega
    have h1' : idx < L.length := by omega
    have hLi := List.getElem?_eq_getElem h1'
    obtain ⟨b, o, hix, hel⟩ := hA.at hLi
    generalize L[idx] = y at *
    have f0 : ∀ m', Old m0 m' → load? none (.ptr b (o + 0)) m' = some (.int .i64 y.k) := fun m' h => (hel m' h).2 0 _ rfl
    have f2 : ∀ m', Old m0 m' → load? none (.ptr b (o + 2)) m' = some (.int .i64 y.n) := fun m' h => (hel m' h).2 2 _ rfl
    have e9 : IntKind.i64.wrap ((idx : Int) + 1) = ((idx + 1 : Nat) : Int) := by rw [IntWalk.i64_in _ (by omega)]; rfl
    have hnext : ∀ (m' : Mem) (d' : Dec) (A' : Nat) (j1 j2 j3 j4 : AV), A' ≤ A + 30 → Duo m0 i1 i2 S d' d' A' m' → Ok (fun n => law05_SymGets_j2 (fcall Tryd.prog ext1 n) n (rec n) v (.ptr i1 0) (.ptr i2 0) (.int .i64 idx) j1 j2 j3 j4) m' Q := by
      intro m' d' A' j1 j2 j3 j4 hA' hT'
      simp -implicitDefEqProofs only [law05_SymGets_j2, lp_some', mc_true, mc_false, ok_ret, ok_mc, ok_snap, aBin_add, aBin_sub, aBin_mul, aBin_lss, aBin_leq, aBin_gtr, aBin_geq, aBin_eql, aBin_neq, aBin_eqlStr, aBin_neqStr, strEq_bs, aBin_eqlNil, aBin_eqlNil', aBin_neqNil, aBin_neqNil', aUn_not, aUn_neg, aNil_ptr, aOff_ptr, aInt_int, aLenStr_str, aLenS_slice, aLenS_nil, aFold_min, aFold_max, bs_size, bs_empty, Nat.zero_add, Nat.add_zero, Nat.reduceAdd, ok_load, Mem.get_set, Mem.set_set, List.getElem?_cons_zero, List.getElem?_cons_succ, Option.some.injEq, exists_eq_left', List.set_cons_zero, List.set_cons_succ, e9]
      exact ih k _ _ (Nat.lt_succ_self _) ⟨idx + 1, A', d', j1, j2, j3, j4, by omega, rfl, by omega, hT'⟩
    have l0 := f0 m hT.old
    rw [Nat.add_zero] at l0
    simp -implicitDefEqProofs only [List.getD_cons_zero, List.getD_cons_succ, law05_SymGets_l0, lp_some', mc_true, mc_false, ok_ret, ok_mc, ok_snap, aBin_add, aBin_sub, aBin_mul, aBin_lss, aBin_leq, aBin_gtr, aBin_geq, aBin_eql, aBin_neq, aBin_eqlStr, aBin_neqStr, strEq_bs, aBin_eqlNil, aBin_eqlNil', aBin_neqNil, aBin_neqNil', aUn_not, aUn_neg, aNil_ptr, aOff_ptr, aInt_int, aLenStr_str, aLenS_slice, aLenS_nil, aFold_min, aFold_max, bs_size, bs_empty, Nat.zero_add, Nat.add_zero, Nat.reduceAdd, ok_load, Mem.get_set, Mem.set_set, List.getElem?_cons_zero, List.getElem?_cons_succ, Option.some.injEq, exists_eq_left', List.set_cons_zero, List.set_cons_succ, hA.len, h1, decide_true, if_true, hix, l0]
    by_cases k0 : y.k = 0
    · simp -implicitDefEqProofs only [k0, decide_true, if_true, lp_some', mc_true, mc_false, ok_ret, ok_mc, ok_snap, aBin_add, aBin_sub, aBin_mul, aBin_lss, aBin_leq, aBin_gtr, aBin_geq, aBin_eql, aBin_neq, aBin_eqlStr, aBin_neqStr, strEq_bs, aBin_eqlNil, aBin_eqlNil', aBin_neqNil, aBin_neqNil', aUn_not, aUn_neg, aNil_ptr, aOff_ptr, aInt_int, aLenStr_str, aLenS_slice, aLenS_nil, aFold_min, aFold_max, bs_size, bs_empty, Nat.zero_add, Nat.add_zero, Nat.reduceAdd, ok_load, Mem.get_set, Mem.set_set, List.getElem?_cons_zero, List.getElem?_cons_succ, Option.some.injEq, exists_eq_left', List.set_cons_zero, List.set_cons_succ, hix, f2 m hT.old]
      refine Ok.bnd (cbits m d _ hT.dec fun m1 g1 c1 => ?_)
      have hT1 := hT.setDec g1 c1
      have s1 := fun (q : M AV) => same_load (f2 m hT.old) (eqb_int _ _) q
      simp -implicitDefEqProofs only [lp_some', mc_true, mc_false, ok_ret, ok_mc, ok_snap, aBin_add, aBin_sub, aBin_mul, aBin_lss, aBin_leq, aBin_gtr, aBin_geq, aBin_eql, aBin_neq, aBin_eqlStr, aBin_neqStr, strEq_bs, aBin_eqlNil, aBin_eqlNil', aBin_neqNil, aBin_neqNil', aUn_not, aUn_neg, aNil_ptr, aOff_ptr, aInt_int, aLenStr_str, aLenS_slice, aLenS_nil, aFold_min, aFold_max, bs_size, bs_empty, Nat.zero_add, Nat.add_zero, Nat.reduceAdd, ok_load, Mem.get_set, Mem.set_set, List.getElem?_cons_zero, List.getElem?_cons_succ, Option.some.injEq, exists_eq_left', List.set_cons_zero, List.set_cons_succ, hix, f2 m1 hT1.old, s1]
      refine Ok.bnd (rbits m1 S d A _ hT1.ref (by omega) fun m2 g2 c2 => ?_)
      have hT2 := hT1.setRef g2 c2
      simp -implicitDefEqProofs only [lp_some', mc_true, mc_false, ok_ret, ok_mc, ok_snap, aBin_add, aBin_sub, aBin_mul, aBin_lss, aBin_leq, aBin_gtr, aBin_geq, aBin_eql, aBin_neq, aBin_eqlStr, aBin_neqStr, strEq_bs, aBin_eqlNil, aBin_eqlNil', aBin_neqNil, aBin_neqNil', aUn_not, aUn_neg, aNil_ptr, aOff_ptr, aInt_int, aLenStr_str, aLenS_slice, aLenS_nil, aFold_min, aFold_max, bs_size, bs_empty, Nat.zero_add, Nat.add_zero, Nat.reduceAdd, ok_load, Mem.get_set, Mem.set_set, List.getElem?_cons_zero, List.getElem?_cons_succ, Option.some.injEq, exists_eq_left', List.set_cons_zero, List.set_cons_succ, ne_eq, not_true_eq_false, decide_false, Bool.false_eq_true, if_false]
      exact hnext m2 _ _ _ _ _ _ (by omega) hT2
    · by_cases k1 : y.k = 1
      · simp -implicitDefEqProofs only [k1, decide_true, if_true, decide_false, Bool.false_eq_true, if_false, Int.one_ne_zero, lp_some', mc_true, mc_false, ok_ret, ok_mc, ok_snap, aBin_add, aBin_sub, aBin_mul, aBin_lss, aBin_leq, aBin_gtr, aBin_geq, aBin_eql, aBin_neq, aBin_eqlStr, aBin_neqStr, strEq_bs, aBin_eqlNil, aBin_eqlNil', aBin_neqNil, aBin_neqNil', aUn_not, aUn_neg, aNil_ptr, aOff_ptr, aInt_int, aLenStr_str, aLenS_slice, aLenS_nil, aFold_min, aFold_max, bs_size, bs_empty, Nat.zero_add, Nat.add_zero, Nat.reduceAdd, ok_load, Mem.get_set, Mem.set_set, List.getElem?_cons_zero, List.getElem?_cons_succ, Option.some.injEq, exists_eq_left', List.set_cons_zero, List.set_cons_succ, hix, f2 m hT.old]
        refine Ok.bnd (cbelow m d _ hT.dec fun m1 g1 c1 => ?_)
        have hT1 := hT.setDec g1 c1
        simp -implicitDefEqProofs only [belowR, aExt, List.getElem?_cons_zero, List.getElem?_cons_succ, lp_some', mc_true, mc_false, ok_ret, ok_mc, ok_snap, aBin_add, aBin_sub, aBin_mul, aBin_lss, aBin_leq, aBin_gtr, aBin_geq, aBin_eql, aBin_neq, aBin_eqlStr, aBin_neqStr, strEq_bs, aBin_eqlNil, aBin_eqlNil', aBin_neqNil, aBin_neqNil', aUn_not, aUn_neg, aNil_ptr, aOff_ptr, aInt_int, aLenStr_str, aLenS_slice, aLenS_nil, aFold_min, aFold_max, bs_size, bs_empty, Nat.zero_add, Nat.add_zero, Nat.reduceAdd, ok_load, Mem.get_set, Mem.set_set, List.getElem?_cons_zero, List.getElem?_cons_succ, Option.some.injEq, exists_eq_left', List.set_cons_zero, List.set_cons_succ, hix, f2 m1 hT1.old]
        refine Ok.bnd (rbelow m1 S d A _ hT1.ref (by omega) fun m2 g2 c2 => ?_)
        have hT2 := hT1.setRef g2 c2
        simp -implicitDefEqProofs only [belowR, aExt, List.getElem?_cons_zero, List.getElem?_cons_succ, lp_some', mc_true, mc_false, ok_ret, ok_mc, ok_snap, aBin_add, aBin_sub, aBin_mul, aBin_lss, aBin_leq, aBin_gtr, aBin_geq, aBin_eql, aBin_neq, aBin_eqlStr, aBin_neqStr, strEq_bs, aBin_eqlNil, aBin_eqlNil', aBin_neqNil, aBin_neqNil', aUn_not, aUn_neg, aNil_ptr, aOff_ptr, aInt_int, aLenStr_str, aLenS_slice, aLenS_nil, aFold_min, aFold_max, bs_size, bs_empty, Nat.zero_add, Nat.add_zero, Nat.reduceAdd, ok_load, Mem.get_set, Mem.set_set, List.getElem?_cons_zero, List.getElem?_cons_succ, Option.some.injEq, exists_eq_left', List.set_cons_zero, List.set_cons_succ, ne_eq, not_true_eq_false, decide_false, Bool.false_eq_true, if_false, aBin_neqBool, beq_self_eq_true, Bool.not_true, law05_SymGets_j1]
        exact hnext m2 _ _ _ _ _ _ (by omega) hT2
      · simp -implicitDefEqProofs only [k0, k1, decide_false, Bool.false_eq_true, if_false, lp_some', mc_true, mc_false, ok_ret, ok_mc, ok_snap, aBin_add, aBin_sub, aBin_mul, aBin_lss, aBin_leq, aBin_gtr, aBin_geq, aBin_eql, aBin_neq, aBin_eqlStr, aBin_neqStr, strEq_bs, aBin_eqlNil, aBin_eqlNil', aBin_neqNil, aBin_neqNil', aUn_not, aUn_neg, aNil_ptr, aOff_ptr, aInt_int, aLenStr_str, aLenS_slice, aLenS_nil, aFold_min, aFold_max, bs_size, bs_empty, Nat.zero_add, Nat.add_zero, Nat.reduceAdd, ok_load, Mem.get_set, Mem.set_set, List.getElem?_cons_zero, List.getElem?_cons_succ, Option.some.injEq, exists_eq_left', List.set_cons_zero, List.set_cons_succ]
        refine Ok.bnd (cdelta m d _ hT.dec fun m1 g1 c1 => ?_)
        have hT1 := hT.setDec g1 c1
        refine Ok.bnd (rdelta m1 S d A _ hT1.ref (by omega) fun m2 g2 c2 => ?_)
        have hT2 := hT1.setRef g2 c2
        simp -implicitDefEqProofs only [lp_some', mc_true, mc_false, ok_ret, ok_mc, ok_snap, aBin_add, aBin_sub, aBin_mul, aBin_lss, aBin_leq, aBin_gtr, aBin_geq, aBin_eql, aBin_neq, aBin_eqlStr, aBin_neqStr, strEq_bs, aBin_eqlNil, aBin_eqlNil', aBin_neqNil, aBin_neqNil', aUn_not, aUn_neg, aNil_ptr, aOff_ptr, aInt_int, aLenStr_str, aLenS_slice, aLenS_nil, aFold_min, aFold_max, bs_size, bs_empty, Nat.zero_add, Nat.add_zero, Nat.reduceAdd, ok_load, Mem.get_set, Mem.set_set, List.getElem?_cons_zero, List.getElem?_cons_succ, Option.some.injEq, exists_eq_left', List.set_cons_zero, List.set_cons_succ, ne_eq, not_true_eq_false, decide_false, Bool.false_eq_true, if_false]
        exact hnext m2 _ _ _ _ _ _ (by omega) hT2

theorem symGets_ok {S : List UInt8} {L : List Itm} {m0 : Mem} {v : AV} (hA : ArrOf 3 itemF m0 v L) (hbn : m0.base ≤ m0.next) : Ok (R fn_law05_SymGets [.str (bs S), v]) m0 (fun v _ => v = .bool true) := by
  refine Ok.call (fun n => law05_SymGets_eq rfl n _ _) ?_
  rcases Nat.lt_or_ge 200 S.length with h1 | h1
  · have h2 : (200 : Int) < (S.length : Int) := by omega
    simp -implicitDefEqProofs only [law05_SymGets, law05_SymGets_j0, lp_some', mc_true, mc_false, ok_ret, ok_mc, ok_snap, aBin_add, aBin_sub, aBin_mul, aBin_lss, aBin_leq, aBin_gtr, aBin_geq, aBin_eql, aBin_neq, aBin_eqlStr, aBin_neqStr, strEq_bs, aBin_eqlNil, aBin_eqlNil', aBin_neqNil, aBin_neqNil', aUn_not, aUn_neg, aNil_ptr, aOff_ptr, aInt_int, aLenStr_str, aLenS_slice, aLenS_nil, aFold_min, aFold_max, bs_size, bs_empty, Nat.zero_add, Nat.add_zero, Nat.reduceAdd, ok_load, Mem.get_set, Mem.set_set, List.getElem?_cons_zero, List.getElem?_cons_succ, Option.some.injEq, exists_eq_left', List.set_cons_zero, List.set_cons_succ, h2, decide_true, if_true]
    refine Ok.bnd (awake_ok ?_)
    simp -implicitDefEqProofs only [lp_some', mc_true, mc_false, ok_ret, ok_mc, ok_snap, aBin_add, aBin_sub, aBin_mul, aBin_lss, aBin_leq, aBin_gtr, aBin_geq, aBin_eql, aBin_neq, aBin_eqlStr, aBin_neqStr, strEq_bs, aBin_eqlNil, aBin_eqlNil', aBin_neqNil, aBin_neqNil', aUn_not, aUn_neg, aNil_ptr, aOff_ptr, aInt_int, aLenStr_str, aLenS_slice, aLenS_nil, aFold_min, aFold_max, bs_size, bs_empty, Nat.zero_add, Nat.add_zero, Nat.reduceAdd, ok_load, Mem.get_set, Mem.set_set, List.getElem?_cons_zero, List.getElem?_cons_succ, Option.some.injEq, exists_eq_left', List.set_cons_zero, List.set_cons_succ]
  · have h2 : ¬ (200 : Int) < (S.length : Int) := by omega
    rcases Nat.lt_or_ge 40 L.length with h3 | h3
    · have h4 : (40 : Int) < (L.length : Int) := by omega
      simp -implicitDefEqProofs only [law05_SymGets, law05_SymGets_j0, lp_some', mc_true, mc_false, ok_ret, ok_mc, ok_snap, aBin_add, aBin_sub, aBin_mul, aBin_lss, aBin_leq, aBin_gtr, aBin_geq, aBin_eql, aBin_neq, aBin_eqlStr, aBin_neqStr, strEq_bs, aBin_eqlNil, aBin_eqlNil', aBin_neqNil, aBin_neqNil', aUn_not, aUn_neg, aNil_ptr, aOff_ptr, aInt_int, aLenStr_str, aLenS_slice, aLenS_nil, aFold_min, aFold_max, bs_size, bs_empty, Nat.zero_add, Nat.add_zero, Nat.reduceAdd, ok_load, Mem.get_set, Mem.set_set, List.getElem?_cons_zero, List.getElem?_cons_succ, Option.some.injEq, exists_eq_left', List.set_cons_zero, List.set_cons_succ, h2, decide_true, decide_false, Bool.false_eq_true, if_false, if_true, hA.len, h4]
      refine Ok.bnd (awake_ok ?_)
      simp -implicitDefEqProofs only [lp_some', mc_true, mc_false, ok_ret, ok_mc, ok_snap, aBin_add, aBin_sub, aBin_mul, aBin_lss, aBin_leq, aBin_gtr, aBin_geq, aBin_eql, aBin_neq, aBin_eqlStr, aBin_neqStr, strEq_bs, aBin_eqlNil, aBin_eqlNil', aBin_neqNil, aBin_neqNil', aUn_not, aUn_neg, aNil_ptr, aOff_ptr, aInt_int, aLenStr_str, aLenS_slice, aLenS_nil, aFold_min, aFold_max, bs_size, bs_empty, Nat.zero_add, Nat.add_zero, Nat.reduceAdd, ok_load, Mem.get_set, Mem.set_set, List.getElem?_cons_zero, List.getElem?_cons_succ, Option.some.injEq, exists_eq_left', List.set_cons_zero, List.set_cons_succ]
    · have h4 : ¬ (40 : Int) < (L.length : Int) := by omega
      simp -implicitDefEqProofs only [law05_SymGets, law05_SymGets_j0, lp_some', mc_true, mc_false, ok_ret, ok_mc, ok_snap, aBin_add, aBin_sub, aBin_mul, aBin_lss, aBin_leq, aBin_gtr, aBin_geq, aBin_eql, aBin_neq, aBin_eqlStr, aBin_neqStr, strEq_bs, aBin_eqlNil, aBin_eqlNil', aBin_neqNil, aBin_neqNil', aUn_not, aUn_neg, aNil_ptr, aOff_ptr, aInt_int, aLenStr_str, aLenS_slice, aLenS_nil, aFold_min, aFold_max, bs_size, bs_empty, Nat.zero_add, Nat.add_zero, Nat.reduceAdd, ok_load, Mem.get_set, Mem.set_set, List.getElem?_cons_zero, List.getElem?_cons_succ, Option.some.injEq, exists_eq_left', List.set_cons_zero, List.set_cons_succ, h2, decide_false, Bool.false_eq_true, if_false, hA.len, h4]
      refine Ok.bnd (new_ok hbn ?_)
      refine Ok.bnd (ref_new_ok (Nat.le_succ_of_le hbn) fun hd => ?_)
      simp -implicitDefEqProofs only [lp_some', mc_true, mc_false, ok_ret, ok_mc, ok_snap, aBin_add, aBin_sub, aBin_mul, aBin_lss, aBin_leq, aBin_gtr, aBin_geq, aBin_eql, aBin_neq, aBin_eqlStr, aBin_neqStr, strEq_bs, aBin_eqlNil, aBin_eqlNil', aBin_neqNil, aBin_neqNil', aUn_not, aUn_neg, aNil_ptr, aOff_ptr, aInt_int, aLenStr_str, aLenS_slice, aLenS_nil, aFold_min, aFold_max, bs_size, bs_empty, Nat.zero_add, Nat.add_zero, Nat.reduceAdd, ok_load, Mem.get_set, Mem.set_set, List.getElem?_cons_zero, List.getElem?_cons_succ, Option.some.injEq, exists_eq_left', List.set_cons_zero, List.set_cons_succ, Bool.false_eq_true, if_false]
      refine gets_loop (S := S) (L := L) (m0 := m0) (A0 := 4) (d0 := Dec.start S) hA h3 (fun _ => rfl) (Nat.le_refl _) ?_
      have hb1 : m0.base ≤ (m0.alloc (decObj false 0 (Dec.start S).code (Dec.start S).l)).next := Nat.le_succ_of_le hbn
      exact ⟨((Old.refl m0).alloc hbn _).alloc hb1 _, ⟨hbn, by show m0.next < m0.next + 1 + 1; omega, ⟨false, 0, by rw [get_alloc_ne (by show m0.next ≠ m0.next + 1; omega)]; exact Mem.get_alloc _ _, by simp [rngOf, start_rng]⟩, start_fits S⟩, ⟨hb1, Nat.lt_succ_self _, ⟨4, Nat.le_refl _, Mem.get_alloc _ _, hd⟩, start_fits S⟩, by show m0.next ≠ m0.next + 1; omega⟩
end SplA
