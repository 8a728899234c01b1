/- The document's table of pulses. -/
import Derived.Test.YtooogfnmhfocjaaGreatDoorSplRv
namespace SplA
open Go.Proofs.YtooogfnmhfocjaaGreatDoor.Spl Go Go.Proofs
set_option maxRecDepth 100000
set_option linter.unusedVariables false
set_option linter.unusedSimpArgs false

theorem rows_l2_ok {K : Nat → Prop} {tv u' row : AV} {n mm k fz bt ot : Nat} {cs : List Int} {m : Mem} {Q : AV → Mem → Prop} {rec rec1 : Nat → List AV → M AV} (hmm : 1 ≤ mm ∧ mm ≤ 8) (hk : k < 25) (hcs : cs.length = k) (hix : aIdxS 1 tv (.int .i64 (mm - 1 : Nat)) = some (.ptr bt ot)) (hld : load? none (.ptr bt ot) m = some u') (hu : IntsR K m u' (rowsI (mm - 1))) (hbn : m.base ≤ m.next)
    (hB : Buf T_int fz m row (cs.map fun x => .int .i64 x))
    (hq : ∀ m' row' fz', Chg (own row) m m' → Buf T_int fz' m' row' ((cs ++ [(pvT mm k : Int)]).map fun x => .int .i64 x) → (∀ j, own row' j → m.next ≤ j) → Ok (fun q => rec1 q [.int .i64 n, tv, .int .i64 mm, row', .int .i64 (k + 1 : Nat)]) m' Q) :
    Ok (fun q => loopN (fun r l => ref16_rows_l2 (fcall Tryz.prog ext1 q) q (rec q) (rec1 q) r (l.getD 0 .undef) (l.getD 1 .undef) (l.getD 2 .undef) (l.getD 3 .undef) (l.getD 4 .undef) (l.getD 5 .undef) (l.getD 6 .undef)) q [.int .i64 n, tv, .int .i64 mm, row, .int .i64 k, .int .i64 (pvT (mm - 1) k : Nat), .int .i64 1]) m Q := by
  refine Ok.loop (fun d l m' => m' = m ∧ ∃ j : Nat, d + j = k + 1 ∧ 1 ≤ j ∧ l = [.int .i64 n, tv, .int .i64 mm, row, .int .i64 k, .int .i64 (lowN (pvT (mm - 1)) k j : Nat), .int .i64 j]) ?_ (k := k) ⟨rfl, 1, rfl, Nat.le_refl _, rfl⟩
  rintro d l m' rec' ⟨rfl, j, hd, hj, rfl⟩ ih
  have hlow := lowN_le (r := pvT (mm - 1)) (k := k) (B := 1099511627775) (fun j hj => Nat.le_of_lt_succ (pvT_small (mm - 1) (by omega) j (by omega))) j
  by_cases h1 : j ≤ k
  · have d1 : (j : Int) ≤ (k : Int) := by omega
    obtain ⟨b', o, ce, hix2, -, -, ⟨rfl, -⟩, -, hld2⟩ := hu.at (rowsI_get (r := mm - 1) (k := k - j) (by omega))
    have l2 : load? none (.ptr b' o) m' = some (.int .i64 (pvT (mm - 1) (k - j) : Nat)) := hld2 0 _ rfl
    have e0 : IntKind.i64.wrap ((mm : Int) - 1) = ((mm - 1 : Nat) : Int) := by rw [IntWalk.i64_in _ (by omega)]; omega
    have e1 : IntKind.i64.wrap ((k : Int) - (j : Int)) = ((k - j : Nat) : Int) := by rw [IntWalk.i64_in _ (by omega)]; omega
    have hs := pvT_small (mm - 1) (by omega) (k - j) (by omega)
    have e2 : IntKind.i64.wrap (2 * ((pvT (mm - 1) (k - j) : Nat) : Int)) = ((2 * pvT (mm - 1) (k - j) : Nat) : Int) := by rw [IntWalk.i64_in _ (by omega)]; omega
    have hl2 := lowN_succ (r := pvT (mm - 1)) (k := k) hj
    have e3 : IntKind.i64.wrap (((lowN (pvT (mm - 1)) k j : Nat) : Int) + ((2 * pvT (mm - 1) (k - j) : Nat) : Int)) = ((lowN (pvT (mm - 1)) k (j + 1) : Nat) : Int) := by rw [hl2, IntWalk.i64_in _ (by omega)]; omega
    have e4 : IntKind.i64.wrap ((j : Int) + 1) = ((j + 1 : Nat) : Int) := by rw [IntWalk.i64_in _ (by omega)]; omega
    simp -implicitDefEqProofs only [List.getD_cons_zero, List.getD_cons_succ, ref16_rows_l2, lp_some', mc_true, mc_false, ok_ret, ok_mc, ok_snap, aBin_add, aBin_sub, aBin_mul, aBin_lss, aBin_leq, aBin_gtr, aBin_geq, aBin_eql, aBin_neq, aBin_eqlStr, aBin_neqStr, strEq_bs, aBin_eqlNil, aBin_eqlNil', aBin_neqNil, aBin_neqNil', aUn_not, aUn_neg, aNil_ptr, aOff_ptr, aInt_int, aLenStr_str, aLenS_slice, aLenS_nil, aFold_min, aFold_max, bs_size, bs_empty, Nat.zero_add, Nat.add_zero, Nat.reduceAdd, ok_load, Mem.get_set, Mem.set_set, List.getElem?_cons_zero, List.getElem?_cons_succ, Option.some.injEq, exists_eq_left', List.set_cons_zero, List.set_cons_succ, d1, decide_true, if_true, e0, hix, hld, e1, hix2, l2, e2, e3, e4]
    exact ih (d - 1) _ _ (by omega) ⟨rfl, j + 1, by omega, by omega, rfl⟩
  · obtain rfl : j = k + 1 := by omega
    have d1 : ¬ ((k + 1 : Nat) : Int) ≤ (k : Int) := by omega
    have hf := lowN_full (mm - 1) k hk
    rw [show mm - 1 + 1 = mm by omega] at hf
    have e3 : aFill (fun i => some (i * 1, 1)) [.int .i64 0] [(0, .int .i64 (pvT mm k : Nat))] = some [.int .i64 (pvT mm k : Nat)] := aFill1 _ _ (by simp)
    have e4 : IntKind.i64.wrap ((k : Int) + 1) = ((k + 1 : Nat) : Int) := by rw [IntWalk.i64_in _ (by omega)]; omega
    simp -implicitDefEqProofs only [List.getD_cons_zero, List.getD_cons_succ, ref16_rows_l2, lp_some', mc_true, mc_false, ok_ret, ok_mc, ok_snap, aBin_add, aBin_sub, aBin_mul, aBin_lss, aBin_leq, aBin_gtr, aBin_geq, aBin_eql, aBin_neq, aBin_eqlStr, aBin_neqStr, strEq_bs, aBin_eqlNil, aBin_eqlNil', aBin_neqNil, aBin_neqNil', aUn_not, aUn_neg, aNil_ptr, aOff_ptr, aInt_int, aLenStr_str, aLenS_slice, aLenS_nil, aFold_min, aFold_max, bs_size, bs_empty, Nat.zero_add, Nat.add_zero, Nat.reduceAdd, ok_load, Mem.get_set, Mem.set_set, List.getElem?_cons_zero, List.getElem?_cons_succ, Option.some.injEq, exists_eq_left', List.set_cons_zero, List.set_cons_succ, d1, decide_false, Bool.false_eq_true, if_false, hf, e3, ok_allocS]
    refine ok_append1 hB hbn (by simp) (by simp; omega) fun m2 row2 fz2 k1 k2 k3 k4 => ?_
    simp -implicitDefEqProofs only [lp_some', mc_true, mc_false, ok_ret, ok_mc, ok_snap, aBin_add, aBin_sub, aBin_mul, aBin_lss, aBin_leq, aBin_gtr, aBin_geq, aBin_eql, aBin_neq, aBin_eqlStr, aBin_neqStr, strEq_bs, aBin_eqlNil, aBin_eqlNil', aBin_neqNil, aBin_neqNil', aUn_not, aUn_neg, aNil_ptr, aOff_ptr, aInt_int, aLenStr_str, aLenS_slice, aLenS_nil, aFold_min, aFold_max, bs_size, bs_empty, Nat.zero_add, Nat.add_zero, Nat.reduceAdd, ok_load, Mem.get_set, Mem.set_set, List.getElem?_cons_zero, List.getElem?_cons_succ, Option.some.injEq, exists_eq_left', List.set_cons_zero, List.set_cons_succ, e4]
    exact hq m2 row2 fz2 k1 (by simpa using k2) k3
theorem rows_l1_ok {K : Nat → Prop} {tv u' : AV} {n mm bt ot : Nat} {m0 : Mem} {Q : AV → Mem → Prop} {rec : Nat → List AV → M AV} (hmm : 1 ≤ mm ∧ mm ≤ 8) (hix : aIdxS 1 tv (.int .i64 (mm - 1 : Nat)) = some (.ptr bt ot)) (hbt : bt < m0.next) (hld : load? none (.ptr bt ot) m0 = some u') (hu : IntsR K m0 u' (rowsI (mm - 1))) (hK : ∀ b, K b → b < m0.next) (hbn : m0.base ≤ m0.next)
    (hq : ∀ m' row fz, Same m0 m' → Buf T_int fz m' row ((rowsI mm).map fun x => .int .i64 x) → (∀ j, own row j → m0.next ≤ j) → Ok (fun q => bnd (allocS T_sl_int 1 1 [row]) fun v56 => bnd (append T_sl_int 1 24 tv v56) fun v57 => rec q [.int .i64 n, v57, .int .i64 (mm + 1 : Nat)]) m' Q) :
    Ok (fun q => loopN (fun r l => ref16_rows_l1 (fcall Tryz.prog ext1 q) q (rec q) r (l.getD 0 .undef) (l.getD 1 .undef) (l.getD 2 .undef) (l.getD 3 .undef) (l.getD 4 .undef)) q [.int .i64 n, tv, .int .i64 mm, .nilslice, .int .i64 0]) m0 Q := by
  refine Ok.loop (fun d l m => ∃ (k fz : Nat) (row : AV), d + k = 25 ∧ l = [.int .i64 n, tv, .int .i64 mm, row, .int .i64 k] ∧ Buf T_int fz m row (((rowsI mm).take k).map fun x => .int .i64 x) ∧ (∀ j, own row j → m0.next ≤ j) ∧ Same m0 m) ?_ (k := 25) ⟨0, 0, .nilslice, rfl, rfl, .inl ⟨rfl, rfl⟩, fun j h => h.elim, Same.refl _⟩
  rintro d l m rec' ⟨k, fz, row, hd, rfl, hB, hown, hS⟩ ih
  have hld' : load? none (.ptr bt ot) m = some u' := (load_keep (hS.get hbt)).trans hld
  have hu' := hu.keep (m' := m) (fun b hb => hS.get (hK b hb))
  by_cases h1 : k < 25
  · have d1 : (k : Int) ≤ 24 := by omega
    obtain ⟨b', o, ce, hix2, -, -, ⟨rfl, -⟩, -, hld2⟩ := hu'.at (rowsI_get (r := mm - 1) (k := k) h1)
    have l2 : load? none (.ptr b' o) m = some (.int .i64 (pvT (mm - 1) k : Nat)) := hld2 0 _ rfl
    have e0 : IntKind.i64.wrap ((mm : Int) - 1) = ((mm - 1 : Nat) : Int) := by rw [IntWalk.i64_in _ (by omega)]; omega
    simp -implicitDefEqProofs only [List.getD_cons_zero, List.getD_cons_succ, ref16_rows_l1, lp_some', mc_true, mc_false, ok_ret, ok_mc, ok_snap, aBin_add, aBin_sub, aBin_mul, aBin_lss, aBin_leq, aBin_gtr, aBin_geq, aBin_eql, aBin_neq, aBin_eqlStr, aBin_neqStr, strEq_bs, aBin_eqlNil, aBin_eqlNil', aBin_neqNil, aBin_neqNil', aUn_not, aUn_neg, aNil_ptr, aOff_ptr, aInt_int, aLenStr_str, aLenS_slice, aLenS_nil, aFold_min, aFold_max, bs_size, bs_empty, Nat.zero_add, Nat.add_zero, Nat.reduceAdd, ok_load, Mem.get_set, Mem.set_set, List.getElem?_cons_zero, List.getElem?_cons_succ, Option.some.injEq, exists_eq_left', List.set_cons_zero, List.set_cons_succ, d1, decide_true, if_true, e0, hix, hld', hix2, l2]
    refine rows_l2_ok (cs := (rowsI mm).take k) hmm h1 (by simp [rowsI_length]; omega) hix hld' hu' (hS.bn hbn) hB fun m2 row2 fz2 k1 k2 k3 => ?_
    refine ih (d - 1) _ _ (by omega) ⟨k + 1, fz2, row2, by omega, rfl, ?_, fun j hj => Nat.le_trans hS.next (k3 j hj), ⟨k1.base.trans hS.base, Nat.le_trans hS.next k1.next, fun b hb _ => (k1.get b (Nat.lt_of_lt_of_le hb hS.next) (fun h => by have := hown b h; omega)).trans (hS.get hb)⟩⟩
    rw [List.take_add_one, rowsI_get h1]
    exact k2
  · obtain rfl : k = 25 := by omega
    have d1 : ¬ ((25 : Nat) : Int) ≤ 24 := by decide
    have e3 : aFill (fun i => some (i * 1, 1)) [.nilslice] [(0, row)] = some [row] := aFill1 _ _ hB.one
    have e4 : IntKind.i64.wrap ((mm : Int) + 1) = ((mm + 1 : Nat) : Int) := by rw [IntWalk.i64_in _ (by omega)]; omega
    rw [List.take_of_length_le (by rw [rowsI_length]; exact Nat.le_refl _)] at hB
    simp -implicitDefEqProofs only [List.getD_cons_zero, List.getD_cons_succ, ref16_rows_l1, lp_some', mc_true, mc_false, ok_ret, ok_mc, ok_snap, aBin_add, aBin_sub, aBin_mul, aBin_lss, aBin_leq, aBin_gtr, aBin_geq, aBin_eql, aBin_neq, aBin_eqlStr, aBin_neqStr, strEq_bs, aBin_eqlNil, aBin_eqlNil', aBin_neqNil, aBin_neqNil', aUn_not, aUn_neg, aNil_ptr, aOff_ptr, aInt_int, aLenStr_str, aLenS_slice, aLenS_nil, aFold_min, aFold_max, bs_size, bs_empty, Nat.zero_add, Nat.add_zero, Nat.reduceAdd, ok_load, Mem.get_set, Mem.set_set, List.getElem?_cons_zero, List.getElem?_cons_succ, Option.some.injEq, exists_eq_left', List.set_cons_zero, List.set_cons_succ, d1, decide_false, Bool.false_eq_true, if_false, e3, e4]
    exact hq m row fz hS hB hown

theorem rrows_ok {n : Nat} {m : Mem} {Q : AV → Mem → Prop} (hn : n ≤ 8) (hbn : m.base ≤ m.next)
    (hq : ∀ m' u, Same m m' → RowsR (fun b => m.next ≤ b ∧ b < m'.next) m' u ((List.range (n + 1)).map rowsI) → Q u m') : Ok (R fn_ref16_rows [.int .i64 n]) m Q := by
  refine Ok.call (fun q => ref16_rows_eq rfl q _) ?_
  have h25 : (25 : Int) = ((25 : Nat) : Int) := rfl
  simp -implicitDefEqProofs only [ref16_rows]
  rw [h25]
  have hmk := fun (k : Nat → AV → M AV) => ok_mkSlice1 (k := k) (m := m) (Q := Q) (ty := T_int) (z := .int .i64 0) (show 8 * 25 ≤ 35184372088832 by decide)
  refine (hmk _).2 ?_
  have hg0 := Mem.get_alloc m (.cells T_int 0 (List.replicate 25 (.int .i64 0)))
  have i0 : aIdxS 1 (.slice m.next 0 25 1) (.int .i64 0) = some (.ptr m.next 0) := rfl
  have hst := fun (k : Nat → AV → M AV) => ok_store (k := k) (Q := Q) (o := 0) (v := .int .i64 1) hg0 (show (m.alloc (.cells T_int 0 (List.replicate 25 (.int .i64 0)))).base ≤ m.next from hbn) (Nat.zero_le _) (by simp) (by simp)
  have hset : (List.replicate 25 (AV.int .i64 0)).set 0 (.int .i64 1) = (rowsI 0).map fun x => .int .i64 x := by kernel_rfl
  have e3 : aFill (fun i => some (i * 1, 1)) [.nilslice] [(0, .slice m.next 0 25 1)] = some [.slice m.next 0 25 1] := aFill1 _ _ (by simp)
  simp -implicitDefEqProofs only [lp_some', mc_true, mc_false, ok_ret, ok_mc, ok_snap, aBin_add, aBin_sub, aBin_mul, aBin_lss, aBin_leq, aBin_gtr, aBin_geq, aBin_eql, aBin_neq, aBin_eqlStr, aBin_neqStr, strEq_bs, aBin_eqlNil, aBin_eqlNil', aBin_neqNil, aBin_neqNil', aUn_not, aUn_neg, aNil_ptr, aOff_ptr, aInt_int, aLenStr_str, aLenS_slice, aLenS_nil, aFold_min, aFold_max, bs_size, bs_empty, Nat.zero_add, Nat.add_zero, Nat.reduceAdd, ok_load, Mem.get_set, Mem.set_set, List.getElem?_cons_zero, List.getElem?_cons_succ, Option.some.injEq, exists_eq_left', List.set_cons_zero, List.set_cons_succ, i0, hst, hset, Mem.alloc_set, e3, ok_allocS]
  have hg1 := Mem.get_alloc m (.cells T_int 0 ((rowsI 0).map fun x => AV.int .i64 x))
  have hS1 := Same.alloc m (.cells T_int 0 ((rowsI 0).map fun x => AV.int .i64 x))
  have hnx1 : (m.alloc (.cells T_int 0 ((rowsI 0).map fun x => AV.int .i64 x))).next = m.next + 1 := rfl
  generalize m.alloc (.cells T_int 0 ((rowsI 0).map fun x => AV.int .i64 x)) = m1 at *
  have hg2 := Mem.get_alloc m1 (.cells T_sl_int 0 [.slice m.next 0 25 1])
  have hS2 := Same.alloc m1 (.cells T_sl_int 0 [.slice m.next 0 25 1])
  have hnx2 : (m1.alloc (.cells T_sl_int 0 [.slice m.next 0 25 1])).next = m1.next + 1 := rfl
  generalize m1.alloc (.cells T_sl_int 0 [.slice m.next 0 25 1]) = m2 at *
  have hS := hS1.trans hS2
  have hg1' := (hS2.get (by omega)).trans hg1
  have hw0 : ∀ x ∈ rowsI 0, (Lit.int .i64 x).wf = true := by decide +kernel
  refine Ok.loop (fun k l m' => ∃ (mm fz : Nat) (us : List AV) (tv : AV) (KR : Nat → Prop), k + mm = n + 1 ∧ 1 ≤ mm ∧ l = [.int .i64 n, tv, .int .i64 mm] ∧ us.length = mm ∧ Buf T_sl_int fz m' tv us ∧ (∀ j, own tv j → m.next ≤ j) ∧ (∀ b, KR b → (m.next ≤ b ∧ b < m'.next) ∧ ¬ own tv b) ∧ (∀ (r : Nat) u, us[r]? = some u → IntsR KR m' u (rowsI r)) ∧ Same m m') ?_ (k := n) ⟨1, 0, [.slice m.next 0 25 1], .slice m1.next 0 1 1, fun b => b = m.next, rfl, Nat.le_refl _, rfl, rfl, .inr ⟨m1.next, rfl, by simp, hg2, Nat.zero_le _, by have := hS.base; omega, by omega⟩, fun j hj => by cases hj; omega, fun b hb => ⟨by omega, fun h => by have : b = m1.next := h; omega⟩, fun r u hr => ?_, hS⟩
  · rintro k l m' rec ⟨mm, fz, us, tv, KR, hk, h1, rfl, hul, hB, hown, hKR, hus, hS⟩ ih
    by_cases h2 : mm ≤ n
    · have d1 : (mm : Int) ≤ (n : Int) := by omega
      obtain ⟨j, hix, hgj, hjb, hjn, hjo⟩ := hB.idx (k := mm - 1) (kd := .i64) (by omega)
      obtain ⟨u', hu'⟩ : ∃ u', us[mm - 1]? = some u' := ⟨us[mm - 1], List.getElem?_eq_getElem (by omega)⟩
      have hld : load? none (.ptr j (mm - 1)) m' = some u' := by rw [load_at hgj]; exact hu'
      simp -implicitDefEqProofs only [List.getD_cons_zero, List.getD_cons_succ, ref16_rows_l0, lp_some', mc_true, mc_false, ok_ret, ok_mc, ok_snap, aBin_add, aBin_sub, aBin_mul, aBin_lss, aBin_leq, aBin_gtr, aBin_geq, aBin_eql, aBin_neq, aBin_eqlStr, aBin_neqStr, strEq_bs, aBin_eqlNil, aBin_eqlNil', aBin_neqNil, aBin_neqNil', aUn_not, aUn_neg, aNil_ptr, aOff_ptr, aInt_int, aLenStr_str, aLenS_slice, aLenS_nil, aFold_min, aFold_max, bs_size, bs_empty, Nat.zero_add, Nat.add_zero, Nat.reduceAdd, ok_load, Mem.get_set, Mem.set_set, List.getElem?_cons_zero, List.getElem?_cons_succ, Option.some.injEq, exists_eq_left', List.set_cons_zero, List.set_cons_succ, d1, decide_true, if_true]
      refine rows_l1_ok ⟨h1, by omega⟩ hix hjn hld (hus _ _ hu') (fun b hb => (hKR b hb).1.2) (hS.bn hbn) fun m3 row fz3 hS3 hB3 hown3 => ?_
      simp -implicitDefEqProofs only [ok_allocS]
      have hBt := hB.chg hS3 (fun _ _ => id)
      refine ok_append1 hBt ((hS.trans hS3).bn hbn) hB3.one (by rw [hul]; omega) fun m4 tv4 fz4 k1 k2 k3 k4 => ?_
      have hlt : ∀ b, own tv b → b < m'.next := fun b hb => (hB.own hb).2
      have hrow : ∀ b, own row b → m'.next ≤ b ∧ b < m3.next := fun b hb => ⟨hown3 b hb, (hB3.own hb).2⟩
      have hn3 := hS3.next
      have hn0 := hS.next
      have hn4 := k1.next
      refine ih (k - 1) _ _ (by omega) ⟨mm + 1, fz4, us ++ [row], tv4, fun b => KR b ∨ own row b, by omega, by omega, rfl, by simp [hul], k2, fun j hj => by have := k3 j hj; omega, fun b hb => ?_, fun r u hr => ?_, ⟨k1.base.trans (hS.trans hS3).base, by omega, fun b hb _ => (k1.get b (by omega) (fun h => by have := hown b h; omega)).trans ((hS.trans hS3).get hb)⟩⟩
      · rcases hb with hb | hb
        · have := hKR b hb
          exact ⟨by omega, fun h => by have := k3 b h; omega⟩
        · have := hrow b hb
          exact ⟨by omega, fun h => by have := k3 b h; omega⟩
      · rcases Nat.lt_or_ge r mm with h | h
        · rw [List.getElem?_append_left (by omega)] at hr
          have h5 := (hus r u hr).keep (m' := m4) (fun b hb => (k1.get b (by have := hKR b hb; omega) (hKR b hb).2).trans (hS3.get (hKR b hb).1.2))
          exact h5.mono fun b hb => .inl hb
        · have hrm : r = mm := by
            have := (List.getElem?_eq_some_iff.1 hr).1
            simp at this; omega
          subst hrm
          rw [List.getElem?_append_right (by omega), hul, Nat.sub_self] at hr
          cases hr
          have hwf : ∀ x ∈ rowsI r, (Lit.int .i64 x).wf = true := fun x hx => by
            obtain ⟨i, hi⟩ := List.mem_iff_getElem?.1 hx
            have hi25 : i < 25 := by have := (List.getElem?_eq_some_iff.1 hi).1; rwa [rowsI_length] at this
            rw [rowsI_get hi25] at hi
            cases hi
            have := pvT_small r (by omega) i hi25
            exact wf_i64 (by omega)
          exact buf_ints (hB3.chg k1 (fun b hb h => by have := hlt b h; have := hrow b hb; omega)) (fun j hj => .inr hj) hwf
    · obtain rfl : mm = n + 1 := by omega
      have d1 : ¬ ((n + 1 : Nat) : Int) ≤ (n : Int) := by omega
      simp -implicitDefEqProofs only [List.getD_cons_zero, List.getD_cons_succ, ref16_rows_l0, lp_some', mc_true, mc_false, ok_ret, ok_mc, ok_snap, aBin_add, aBin_sub, aBin_mul, aBin_lss, aBin_leq, aBin_gtr, aBin_geq, aBin_eql, aBin_neq, aBin_eqlStr, aBin_neqStr, strEq_bs, aBin_eqlNil, aBin_eqlNil', aBin_neqNil, aBin_neqNil', aUn_not, aUn_neg, aNil_ptr, aOff_ptr, aInt_int, aLenStr_str, aLenS_slice, aLenS_nil, aFold_min, aFold_max, bs_size, bs_empty, Nat.zero_add, Nat.add_zero, Nat.reduceAdd, ok_load, Mem.get_set, Mem.set_set, List.getElem?_cons_zero, List.getElem?_cons_succ, Option.some.injEq, exists_eq_left', List.set_cons_zero, List.set_cons_succ, d1, decide_false, Bool.false_eq_true, if_false]
      refine hq m' tv hS ?_
      rcases hB with ⟨-, hnil⟩ | ⟨j, rfl, -, hgj, -, -, hjn⟩
      · rw [hnil] at hul; simp at hul
      · have := slR_own2 (K := fun b => m.next ≤ b ∧ b < m'.next) (R := RSl (IntsR fun b => m.next ≤ b ∧ b < m'.next)) (e := 1) (l := (List.range (n + 1)).map rowsI) ⟨hown j rfl, hjn⟩ hgj (by simp [hul]) (fun r u x hr hx => ?_)
        · rw [List.length_map, List.length_range] at this
          rw [hul]
          exact this
        · have hr' : r < n + 1 := by rw [← hul]; exact (List.getElem?_eq_some_iff.1 hr).1
          simp [hr'] at hx
          subst hx
          exact ⟨u, rfl, (hus r u hr).mono fun b hb => (hKR b hb).1⟩
  · cases r with
    | zero =>
      cases hr
      exact slR_own (f := fun x => .int .i64 x) (l := rowsI 0) rfl hg1' (fun x hx => ⟨rfl, hw0 x hx⟩)
    | succ r => simp at hr

theorem rowsR_at {K : Nat → Prop} {n : Nat} {m : Mem} {u : AV} (h : RowsR K m u ((List.range (n + 1)).map rowsI)) {r : Nat} (hr : r ≤ n) : ∃ b o w, (∀ kd, aIdxS 1 u (.int kd r) = some (.ptr b o)) ∧ load? none (.ptr b o) m = some w ∧ IntsR K m w (rowsI r) := by
  obtain ⟨b, o, ce, hix, -, -, ⟨w, rfl, hw⟩, -, hld⟩ := h.at (k := r) (x := rowsI r) (by simp [Nat.lt_succ_of_le hr])
  exact ⟨b, o, w, hix, hld 0 _ rfl, hw⟩
theorem rowI_at {K : Nat → Prop} {r : Nat} {m : Mem} {w : AV} (h : IntsR K m w (rowsI r)) {k : Nat} (hk : k < 25) : ∃ b o, (∀ kd, aIdxS 1 w (.int kd k) = some (.ptr b o)) ∧ load? none (.ptr b o) m = some (.int .i64 (pvT r k : Nat)) := by
  obtain ⟨b, o, ce, hix, -, -, ⟨rfl, -⟩, -, hld⟩ := h.at (rowsI_get hk)
  exact ⟨b, o, hix, hld 0 _ rfl⟩
theorem rcount_ok {n k : Int} {m : Mem} {Q : AV → Mem → Prop} (hbn : m.base ≤ m.next) (hq : ∀ m', Same m m' → Q (.int .i64 (countN n k)) m') : Ok (R fn_ref16_Count [.int .i64 n, .int .i64 k]) m Q := by
  refine Ok.call (fun q => ref16_Count_eq rfl q _ _) ?_
  by_cases h : 0 ≤ n ∧ n ≤ 8 ∧ 0 ≤ k ∧ k ≤ 24
  · have hc : countN n k = pvT n.toNat k.toNat := if_pos h
    rw [hc] at hq
    obtain ⟨n, rfl⟩ : ∃ z : Nat, n = z := ⟨n.toNat, by omega⟩
    obtain ⟨k, rfl⟩ : ∃ z : Nat, k = z := ⟨k.toNat, by omega⟩
    have d1 : ¬ (n : Int) < 0 := by omega
    have d2 : ¬ (8 : Int) < (n : Int) := by omega
    have d3 : ¬ (k : Int) < 0 := by omega
    have d4 : ¬ (24 : Int) < (k : Int) := by omega
    simp -implicitDefEqProofs only [ref16_Count, ref16_Count_j0, lp_some', mc_true, mc_false, ok_ret, ok_mc, ok_snap, aBin_add, aBin_sub, aBin_mul, aBin_lss, aBin_leq, aBin_gtr, aBin_geq, aBin_eql, aBin_neq, aBin_eqlStr, aBin_neqStr, strEq_bs, aBin_eqlNil, aBin_eqlNil', aBin_neqNil, aBin_neqNil', aUn_not, aUn_neg, aNil_ptr, aOff_ptr, aInt_int, aLenStr_str, aLenS_slice, aLenS_nil, aFold_min, aFold_max, bs_size, bs_empty, Nat.zero_add, Nat.add_zero, Nat.reduceAdd, ok_load, Mem.get_set, Mem.set_set, List.getElem?_cons_zero, List.getElem?_cons_succ, Option.some.injEq, exists_eq_left', List.set_cons_zero, List.set_cons_succ, d1, d2, d3, d4, decide_false, Bool.false_eq_true, if_false]
    refine Ok.bnd (rrows_ok (by omega) hbn fun m' u hs hu => ?_)
    obtain ⟨b, o, w, i1, l1, hw⟩ := rowsR_at hu (Nat.le_refl n)
    obtain ⟨b2, o2, i2, l2⟩ := rowI_at hw (k := k) (by omega)
    simp -implicitDefEqProofs only [lp_some', mc_true, mc_false, ok_ret, ok_mc, ok_snap, aBin_add, aBin_sub, aBin_mul, aBin_lss, aBin_leq, aBin_gtr, aBin_geq, aBin_eql, aBin_neq, aBin_eqlStr, aBin_neqStr, strEq_bs, aBin_eqlNil, aBin_eqlNil', aBin_neqNil, aBin_neqNil', aUn_not, aUn_neg, aNil_ptr, aOff_ptr, aInt_int, aLenStr_str, aLenS_slice, aLenS_nil, aFold_min, aFold_max, bs_size, bs_empty, Nat.zero_add, Nat.add_zero, Nat.reduceAdd, ok_load, Mem.get_set, Mem.set_set, List.getElem?_cons_zero, List.getElem?_cons_succ, Option.some.injEq, exists_eq_left', List.set_cons_zero, List.set_cons_succ, i1, l1, i2, l2]
    exact hq m' hs
  · have hc : countN n k = 0 := if_neg h
    rw [hc] at hq
    have hq' := hq m (Same.refl m)
    by_cases d1 : n < 0
    · simp -implicitDefEqProofs only [ref16_Count, ref16_Count_j0, lp_some', mc_true, mc_false, ok_ret, ok_mc, ok_snap, aBin_add, aBin_sub, aBin_mul, aBin_lss, aBin_leq, aBin_gtr, aBin_geq, aBin_eql, aBin_neq, aBin_eqlStr, aBin_neqStr, strEq_bs, aBin_eqlNil, aBin_eqlNil', aBin_neqNil, aBin_neqNil', aUn_not, aUn_neg, aNil_ptr, aOff_ptr, aInt_int, aLenStr_str, aLenS_slice, aLenS_nil, aFold_min, aFold_max, bs_size, bs_empty, Nat.zero_add, Nat.add_zero, Nat.reduceAdd, ok_load, Mem.get_set, Mem.set_set, List.getElem?_cons_zero, List.getElem?_cons_succ, Option.some.injEq, exists_eq_left', List.set_cons_zero, List.set_cons_succ, d1, decide_true, if_true]; exact hq'
    · by_cases d2 : 8 < n
      · simp -implicitDefEqProofs only [ref16_Count, ref16_Count_j0, lp_some', mc_true, mc_false, ok_ret, ok_mc, ok_snap, aBin_add, aBin_sub, aBin_mul, aBin_lss, aBin_leq, aBin_gtr, aBin_geq, aBin_eql, aBin_neq, aBin_eqlStr, aBin_neqStr, strEq_bs, aBin_eqlNil, aBin_eqlNil', aBin_neqNil, aBin_neqNil', aUn_not, aUn_neg, aNil_ptr, aOff_ptr, aInt_int, aLenStr_str, aLenS_slice, aLenS_nil, aFold_min, aFold_max, bs_size, bs_empty, Nat.zero_add, Nat.add_zero, Nat.reduceAdd, ok_load, Mem.get_set, Mem.set_set, List.getElem?_cons_zero, List.getElem?_cons_succ, Option.some.injEq, exists_eq_left', List.set_cons_zero, List.set_cons_succ, d1, d2, decide_true, decide_false, Bool.false_eq_true, if_false, if_true]; exact hq'
      · by_cases d3 : k < 0
        · simp -implicitDefEqProofs only [ref16_Count, ref16_Count_j0, lp_some', mc_true, mc_false, ok_ret, ok_mc, ok_snap, aBin_add, aBin_sub, aBin_mul, aBin_lss, aBin_leq, aBin_gtr, aBin_geq, aBin_eql, aBin_neq, aBin_eqlStr, aBin_neqStr, strEq_bs, aBin_eqlNil, aBin_eqlNil', aBin_neqNil, aBin_neqNil', aUn_not, aUn_neg, aNil_ptr, aOff_ptr, aInt_int, aLenStr_str, aLenS_slice, aLenS_nil, aFold_min, aFold_max, bs_size, bs_empty, Nat.zero_add, Nat.add_zero, Nat.reduceAdd, ok_load, Mem.get_set, Mem.set_set, List.getElem?_cons_zero, List.getElem?_cons_succ, Option.some.injEq, exists_eq_left', List.set_cons_zero, List.set_cons_succ, d1, d2, d3, decide_true, decide_false, Bool.false_eq_true, if_false, if_true]; exact hq'
        · have d4 : 24 < k := by omega
          simp -implicitDefEqProofs only [ref16_Count, ref16_Count_j0, lp_some', mc_true, mc_false, ok_ret, ok_mc, ok_snap, aBin_add, aBin_sub, aBin_mul, aBin_lss, aBin_leq, aBin_gtr, aBin_geq, aBin_eql, aBin_neq, aBin_eqlStr, aBin_neqStr, strEq_bs, aBin_eqlNil, aBin_eqlNil', aBin_neqNil, aBin_neqNil', aUn_not, aUn_neg, aNil_ptr, aOff_ptr, aInt_int, aLenStr_str, aLenS_slice, aLenS_nil, aFold_min, aFold_max, bs_size, bs_empty, Nat.zero_add, Nat.add_zero, Nat.reduceAdd, ok_load, Mem.get_set, Mem.set_set, List.getElem?_cons_zero, List.getElem?_cons_succ, Option.some.injEq, exists_eq_left', List.set_cons_zero, List.set_cons_succ, d1, d2, d3, d4, decide_true, decide_false, Bool.false_eq_true, if_false, if_true]; exact hq'

theorem rindex_inner {K L : Nat → Prop} {v tv w : AV} {l : List Int} {k n a mm i : Nat} {x : Int} {m0 : Mem} {Q : AV → Mem → Prop} {rec : Nat → List AV → M AV} (hl : IntsR L m0 v l) (hx : l[i]? = some x) (hw : IntsR K m0 w (rowsI n)) (hn : n < 9) (hk : k < 25) (hm : mm ≤ k) (ha : a < 2 ^ 60) (hi : i < 100)
    (hq : Ok (fun q => rec q [v, .int .i64 (k - mm : Nat), .int .i64 (a + lowN (pvT n) k mm + (if x < 0 then pvT n (k - mm) else 0) : Nat), tv, .int .i64 (i + 1 : Nat)]) m0 Q) :
    Ok (fun q => loopN (fun r l => ref16_Index_l1 (fcall Tryz.prog ext1 q) q (rec q) r (l.getD 0 .undef) (l.getD 1 .undef) (l.getD 2 .undef) (l.getD 3 .undef) (l.getD 4 .undef) (l.getD 5 .undef) (l.getD 6 .undef) (l.getD 7 .undef)) q
      [v, .int .i64 k, .int .i64 a, tv, .int .i64 i, w, .int .i64 mm, .int .i64 0]) m0 Q := by
  refine Ok.loop (fun d l m => m = m0 ∧ ∃ j : Nat, d + j = mm ∧ l = [v, .int .i64 k, .int .i64 (a + lowN (pvT n) k j : Nat), tv, .int .i64 i, w, .int .i64 mm, .int .i64 j]) ?_ (k := mm) ⟨rfl, 0, rfl, rfl⟩
  rintro d l m rec' ⟨rfl, j, hd, rfl⟩ ih
  have hlow := lowN_small (n := n) (k := k) hn hk (m := mm) (by omega)
  by_cases h1 : j < mm
  · have d1 : (j : Int) < (mm : Int) := by omega
    have e1 : IntKind.i64.wrap ((k : Int) - (j : Int)) = ((k - j : Nat) : Int) := by rw [IntWalk.i64_in _ (by omega)]; omega
    obtain ⟨b, o, i1, l1⟩ := rowI_at hw (k := k - j) (by omega)
    have hs := pvT_small n hn (k - j) (by omega)
    have hlow2 := lowN_small (n := n) (k := k) hn hk (m := j) (by omega)
    have e4 : IntKind.i64.wrap ((j : Int) + 1) = ((j + 1 : Nat) : Int) := by rw [IntWalk.i64_in _ (by omega)]; omega
    have e2 : IntKind.i64.wrap (((a + lowN (pvT n) k j : Nat) : Int) + ((pvT n (k - j) : Nat) : Int)) = ((a + lowN (pvT n) k j + pvT n (k - j) : Nat) : Int) := by rw [IntWalk.i64_in _ (by omega)]; omega
    simp -implicitDefEqProofs only [List.getD_cons_zero, List.getD_cons_succ, ref16_Index_l1, lp_some', mc_true, mc_false, ok_ret, ok_mc, ok_snap, aBin_add, aBin_sub, aBin_mul, aBin_lss, aBin_leq, aBin_gtr, aBin_geq, aBin_eql, aBin_neq, aBin_eqlStr, aBin_neqStr, strEq_bs, aBin_eqlNil, aBin_eqlNil', aBin_neqNil, aBin_neqNil', aUn_not, aUn_neg, aNil_ptr, aOff_ptr, aInt_int, aLenStr_str, aLenS_slice, aLenS_nil, aFold_min, aFold_max, bs_size, bs_empty, Nat.zero_add, Nat.add_zero, Nat.reduceAdd, ok_load, Mem.get_set, Mem.set_set, List.getElem?_cons_zero, List.getElem?_cons_succ, Option.some.injEq, exists_eq_left', List.set_cons_zero, List.set_cons_succ, d1, decide_true, if_true, e1, i1, l1, e2]
    by_cases h0 : j = 0
    · subst h0
      have d0 : ¬ (0 : Int) < ((0 : Nat) : Int) := by decide
      simp -implicitDefEqProofs only [d0, decide_false, Bool.false_eq_true, if_false, ref16_Index_j0, lp_some', mc_true, mc_false, ok_ret, ok_mc, ok_snap, aBin_add, aBin_sub, aBin_mul, aBin_lss, aBin_leq, aBin_gtr, aBin_geq, aBin_eql, aBin_neq, aBin_eqlStr, aBin_neqStr, strEq_bs, aBin_eqlNil, aBin_eqlNil', aBin_neqNil, aBin_neqNil', aUn_not, aUn_neg, aNil_ptr, aOff_ptr, aInt_int, aLenStr_str, aLenS_slice, aLenS_nil, aFold_min, aFold_max, bs_size, bs_empty, Nat.zero_add, Nat.add_zero, Nat.reduceAdd, ok_load, Mem.get_set, Mem.set_set, List.getElem?_cons_zero, List.getElem?_cons_succ, Option.some.injEq, exists_eq_left', List.set_cons_zero, List.set_cons_succ, e4]
      refine ih (d - 1) _ _ (by omega) ⟨rfl, 1, by omega, ?_⟩
      simp [lowN]
    · have d0 : (0 : Int) < (j : Int) := by omega
      have hl2 := lowN_succ (r := pvT n) (k := k) (j := j) (by omega)
      have e3 : IntKind.i64.wrap (((a + lowN (pvT n) k j + pvT n (k - j) : Nat) : Int) + ((pvT n (k - j) : Nat) : Int)) = ((a + lowN (pvT n) k (j + 1) : Nat) : Int) := by rw [hl2, IntWalk.i64_in _ (by omega)]; omega
      simp -implicitDefEqProofs only [d0, decide_true, if_true, lp_some', mc_true, mc_false, ok_ret, ok_mc, ok_snap, aBin_add, aBin_sub, aBin_mul, aBin_lss, aBin_leq, aBin_gtr, aBin_geq, aBin_eql, aBin_neq, aBin_eqlStr, aBin_neqStr, strEq_bs, aBin_eqlNil, aBin_eqlNil', aBin_neqNil, aBin_neqNil', aUn_not, aUn_neg, aNil_ptr, aOff_ptr, aInt_int, aLenStr_str, aLenS_slice, aLenS_nil, aFold_min, aFold_max, bs_size, bs_empty, Nat.zero_add, Nat.add_zero, Nat.reduceAdd, ok_load, Mem.get_set, Mem.set_set, List.getElem?_cons_zero, List.getElem?_cons_succ, Option.some.injEq, exists_eq_left', List.set_cons_zero, List.set_cons_succ, e1, i1, l1, e3, ref16_Index_j0, e4]
      exact ih (d - 1) _ _ (by omega) ⟨rfl, j + 1, by omega, rfl⟩
  · obtain rfl : j = mm := by omega
    have d1 : ¬ (j : Int) < (j : Int) := by omega
    have e1 : IntKind.i64.wrap ((k : Int) - (j : Int)) = ((k - j : Nat) : Int) := by rw [IntWalk.i64_in _ (by omega)]; omega
    have e4 : IntKind.i64.wrap ((i : Int) + 1) = ((i + 1 : Nat) : Int) := by rw [IntWalk.i64_in _ (by omega)]; omega
    obtain ⟨b', o', ce, hix, -, -, ⟨rfl, -⟩, -, hld⟩ := hl.at hx
    have hld0 : load? none (.ptr b' o') m = some (.int .i64 x) := hld 0 _ rfl
    simp -implicitDefEqProofs only [List.getD_cons_zero, List.getD_cons_succ, ref16_Index_l1, lp_some', mc_true, mc_false, ok_ret, ok_mc, ok_snap, aBin_add, aBin_sub, aBin_mul, aBin_lss, aBin_leq, aBin_gtr, aBin_geq, aBin_eql, aBin_neq, aBin_eqlStr, aBin_neqStr, strEq_bs, aBin_eqlNil, aBin_eqlNil', aBin_neqNil, aBin_neqNil', aUn_not, aUn_neg, aNil_ptr, aOff_ptr, aInt_int, aLenStr_str, aLenS_slice, aLenS_nil, aFold_min, aFold_max, bs_size, bs_empty, Nat.zero_add, Nat.add_zero, Nat.reduceAdd, ok_load, Mem.get_set, Mem.set_set, List.getElem?_cons_zero, List.getElem?_cons_succ, Option.some.injEq, exists_eq_left', List.set_cons_zero, List.set_cons_succ, d1, decide_false, Bool.false_eq_true, if_false, hix, hld0]
    by_cases h2 : x < 0
    · obtain ⟨b, o, i1, l1⟩ := rowI_at hw (k := k - j) (by omega)
      have hs := pvT_small n hn (k - j) (by omega)
      have e3 : IntKind.i64.wrap (((a + lowN (pvT n) k j : Nat) : Int) + (pvT n (k - j) : Int)) = ((a + lowN (pvT n) k j + pvT n (k - j) : Nat) : Int) := by rw [IntWalk.i64_in _ (by omega)]; omega
      rw [if_pos h2] at hq
      simp -implicitDefEqProofs only [h2, decide_true, if_true, lp_some', mc_true, mc_false, ok_ret, ok_mc, ok_snap, aBin_add, aBin_sub, aBin_mul, aBin_lss, aBin_leq, aBin_gtr, aBin_geq, aBin_eql, aBin_neq, aBin_eqlStr, aBin_neqStr, strEq_bs, aBin_eqlNil, aBin_eqlNil', aBin_neqNil, aBin_neqNil', aUn_not, aUn_neg, aNil_ptr, aOff_ptr, aInt_int, aLenStr_str, aLenS_slice, aLenS_nil, aFold_min, aFold_max, bs_size, bs_empty, Nat.zero_add, Nat.add_zero, Nat.reduceAdd, ok_load, Mem.get_set, Mem.set_set, List.getElem?_cons_zero, List.getElem?_cons_succ, Option.some.injEq, exists_eq_left', List.set_cons_zero, List.set_cons_succ, e1, i1, l1, e3, ref16_Index_j1, e4]
      exact hq
    · rw [if_neg h2] at hq
      simp -implicitDefEqProofs only [h2, decide_false, Bool.false_eq_true, if_false, ref16_Index_j1, lp_some', mc_true, mc_false, ok_ret, ok_mc, ok_snap, aBin_add, aBin_sub, aBin_mul, aBin_lss, aBin_leq, aBin_gtr, aBin_geq, aBin_eql, aBin_neq, aBin_eqlStr, aBin_neqStr, strEq_bs, aBin_eqlNil, aBin_eqlNil', aBin_neqNil, aBin_neqNil', aUn_not, aUn_neg, aNil_ptr, aOff_ptr, aInt_int, aLenStr_str, aLenS_slice, aLenS_nil, aFold_min, aFold_max, bs_size, bs_empty, Nat.zero_add, Nat.add_zero, Nat.reduceAdd, ok_load, Mem.get_set, Mem.set_set, List.getElem?_cons_zero, List.getElem?_cons_succ, Option.some.injEq, exists_eq_left', List.set_cons_zero, List.set_cons_succ, e1, e4]
      exact hq

theorem farN_abs {x : Int} (h : x.natAbs ≤ 24) : farN x = x.natAbs := if_neg (by omega)
theorem rindex_ok {K : Nat → Prop} {l : List Int} {v : AV} {m : Mem} {Q : AV → Mem → Prop} (hl : IntsR K m v l) (hK : ∀ b, K b → b < m.next) (hbn : m.base ≤ m.next)
    (hq : ∀ m', Same m m' → Q (sizeV (indexN l)) m') : Ok (R fn_ref16_Index [v]) m Q := by
  refine Ok.call (fun n => ref16_Index_eq rfl n _) ?_
  simp -implicitDefEqProofs only [ref16_Index]
  refine Ok.bnd (rsize_ok hl ?_)
  by_cases h1 : 1 ≤ l.length ∧ l.length ≤ 8 ∧ absSum l ≤ 24
  · have hx : indexN l = some (idxN (absSum l) l) := if_pos h1
    rw [hx] at hq
    simp -implicitDefEqProofs only [sizeN_some h1, sizeV, Option.getD_some, Option.isSome_some, aExt, lp_some', mc_true, mc_false, ok_ret, ok_mc, ok_snap, aBin_add, aBin_sub, aBin_mul, aBin_lss, aBin_leq, aBin_gtr, aBin_geq, aBin_eql, aBin_neq, aBin_eqlStr, aBin_neqStr, strEq_bs, aBin_eqlNil, aBin_eqlNil', aBin_neqNil, aBin_neqNil', aUn_not, aUn_neg, aNil_ptr, aOff_ptr, aInt_int, aLenStr_str, aLenS_slice, aLenS_nil, aFold_min, aFold_max, bs_size, bs_empty, Nat.zero_add, Nat.add_zero, Nat.reduceAdd, ok_load, Mem.get_set, Mem.set_set, List.getElem?_cons_zero, List.getElem?_cons_succ, Option.some.injEq, exists_eq_left', List.set_cons_zero, List.set_cons_succ, Bool.not_true, Bool.false_eq_true, if_false, hl.len]
    refine Ok.bnd (rrows_ok h1.2.1 hbn fun m2 t hS ht => ?_)
    refine Ok.loop (fun k z m' => m' = m2 ∧ ∃ (i a : Nat), k + i = l.length ∧ z = [v, .int .i64 (absSum (l.drop i) : Nat), .int .i64 a, t, .int .i64 i] ∧ a ≤ i * 2 ^ 48 ∧ a + idxN (absSum (l.drop i)) (l.drop i) = idxN (absSum l) l ∧ absSum (l.drop i) ≤ 24) ?_ (k := l.length) ⟨rfl, 0, 0, rfl, rfl, Nat.le_refl _, by simp, by simpa using h1.2.2⟩
    rintro k z m' rec ⟨rfl, i, a, hk, rfl, ha, he, hle⟩ ih
    have hl' := hl.keep (m' := m') (fun b hb => hS.get (hK b hb))
    by_cases h2 : i < l.length
    · have d3 : (i : Int) < (l.length : Int) := by omega
      obtain ⟨x, hx', hdrop⟩ := drop_cons' h2
      obtain ⟨b', o, ce, hix, hKb, -, ⟨rfl, -⟩, -, hld⟩ := hl'.at hx'
      have hld0 : load? none (.ptr b' o) m' = some (.int .i64 x) := hld 0 _ rfl
      have hrl : (l.drop (i + 1)).length = l.length - 1 - i := by rw [List.length_drop]; omega
      rw [hdrop] at he hle ⊢
      simp -implicitDefEqProofs only [absSum, idxN, hrl] at he hle ⊢
      have e1 : IntKind.i64.wrap (IntKind.i64.wrap ((l.length : Int) - 1) - (i : Int)) = ((l.length - 1 - i : Nat) : Int) := by rw [IntWalk.i64_in ((l.length : Int) - 1) (by omega), IntWalk.i64_in _ (by omega)]; omega
      obtain ⟨b2, o2, w, i2, l2, hw⟩ := rowsR_at ht (r := l.length - 1 - i) (by omega)
      have hf := farN_abs (x := x) (by omega)
      simp -implicitDefEqProofs only [List.getD_cons_zero, List.getD_cons_succ, ref16_Index_l0, lp_some', mc_true, mc_false, ok_ret, ok_mc, ok_snap, aBin_add, aBin_sub, aBin_mul, aBin_lss, aBin_leq, aBin_gtr, aBin_geq, aBin_eql, aBin_neq, aBin_eqlStr, aBin_neqStr, strEq_bs, aBin_eqlNil, aBin_eqlNil', aBin_neqNil, aBin_neqNil', aUn_not, aUn_neg, aNil_ptr, aOff_ptr, aInt_int, aLenStr_str, aLenS_slice, aLenS_nil, aFold_min, aFold_max, bs_size, bs_empty, Nat.zero_add, Nat.add_zero, Nat.reduceAdd, ok_load, Mem.get_set, Mem.set_set, List.getElem?_cons_zero, List.getElem?_cons_succ, Option.some.injEq, exists_eq_left', List.set_cons_zero, List.set_cons_succ, hl'.len, d3, decide_true, if_true, e1, i2, l2, hix, hld0]
      refine Ok.bnd (far_ok ?_)
      rw [hf]
      have hsub : x.natAbs + absSum (l.drop (i + 1)) - x.natAbs = absSum (l.drop (i + 1)) := by omega
      have hlow := lowN_small (n := l.length - 1 - i) (k := x.natAbs + absSum (l.drop (i + 1))) (m := x.natAbs) (by omega) (by omega) (by omega)
      have hsm := pvT_small (l.length - 1 - i) (by omega) (absSum (l.drop (i + 1))) (by omega)
      have hpow : i * 2 ^ 48 ≤ 8 * 2 ^ 48 := Nat.mul_le_mul_right _ (by omega)
      refine rindex_inner (x := x) (mm := x.natAbs) (a := a) (i := i) (n := l.length - 1 - i) hl' hx' hw (by omega) (by omega) (by omega) (by omega) (by omega) ?_
      rw [hsub] at he ⊢
      refine ih (k - 1) _ _ (by omega) ⟨rfl, i + 1, _, by omega, rfl, ?_, ?_, by omega⟩
      · have : (i + 1) * 2 ^ 48 = i * 2 ^ 48 + 2 ^ 48 := by rw [Nat.add_mul, Nat.one_mul]
        split <;> omega
      · omega
    · obtain rfl : i = l.length := by omega
      have d3 : ¬ (l.length : Int) < (l.length : Int) := by omega
      rw [List.drop_length, absSum, idxN, Nat.add_zero] at he
      subst he
      simp -implicitDefEqProofs only [List.getD_cons_zero, List.getD_cons_succ, ref16_Index_l0, lp_some', mc_true, mc_false, ok_ret, ok_mc, ok_snap, aBin_add, aBin_sub, aBin_mul, aBin_lss, aBin_leq, aBin_gtr, aBin_geq, aBin_eql, aBin_neq, aBin_eqlStr, aBin_neqStr, strEq_bs, aBin_eqlNil, aBin_eqlNil', aBin_neqNil, aBin_neqNil', aUn_not, aUn_neg, aNil_ptr, aOff_ptr, aInt_int, aLenStr_str, aLenS_slice, aLenS_nil, aFold_min, aFold_max, bs_size, bs_empty, Nat.zero_add, Nat.add_zero, Nat.reduceAdd, ok_load, Mem.get_set, Mem.set_set, List.getElem?_cons_zero, List.getElem?_cons_succ, Option.some.injEq, exists_eq_left', List.set_cons_zero, List.set_cons_succ, hl'.len, d3, decide_false, Bool.false_eq_true, if_false]
      exact hq m' hS
  · have hx : indexN l = none := if_neg h1
    have hs : sizeN l = none := if_neg h1
    rw [hx] at hq
    simp -implicitDefEqProofs only [hs, sizeV, Option.getD_none, Option.isSome_none, aExt, lp_some', mc_true, mc_false, ok_ret, ok_mc, ok_snap, aBin_add, aBin_sub, aBin_mul, aBin_lss, aBin_leq, aBin_gtr, aBin_geq, aBin_eql, aBin_neq, aBin_eqlStr, aBin_neqStr, strEq_bs, aBin_eqlNil, aBin_eqlNil', aBin_neqNil, aBin_neqNil', aUn_not, aUn_neg, aNil_ptr, aOff_ptr, aInt_int, aLenStr_str, aLenS_slice, aLenS_nil, aFold_min, aFold_max, bs_size, bs_empty, Nat.zero_add, Nat.add_zero, Nat.reduceAdd, ok_load, Mem.get_set, Mem.set_set, List.getElem?_cons_zero, List.getElem?_cons_succ, Option.some.injEq, exists_eq_left', List.set_cons_zero, List.set_cons_succ, Bool.not_false, if_true]
    exact hq m (Same.refl m)
end SplA
