/- The document's writer of frames. -/
import Derived.Test.YtooogfnmhfocjaaGreatDoorSplRx
namespace SplA
open Go.Proofs.YtooogfnmhfocjaaGreatDoor.Spl Go Go.Proofs
set_option maxRecDepth 100000
set_option linter.unusedVariables false
set_option linter.unusedSimpArgs false

/-- The document's coder, which touches nothing of K. -/
def Rst (K : Nat → Prop) (i : Nat) (x : Iv) (m : Mem) : Prop :=
  ∃ v, RefAt m i x v ((4294967295 - x.R : Nat) : Int) ∧ x.Fits ∧ m.base ≤ m.next ∧ (∀ b, K b → b < m.next) ∧ Dis (foot i v) K
theorem Rst.bn {K : Nat → Prop} {i : Nat} {x : Iv} {m : Mem} (h : Rst K i x m) : m.base ≤ m.next := by
  obtain ⟨_, _, _, h, _⟩ := h; exact h
theorem Rst.lt {K : Nat → Prop} {i : Nat} {x : Iv} {m : Mem} (h : Rst K i x m) : ∀ b, K b → b < m.next := by
  obtain ⟨_, _, _, _, h, _⟩ := h; exact h
theorem Rst.puts {K : Nat → Prop} {i : Nat} {x : Iv} {m : Mem} {call : Nat → M AV} {ps : List Pt} {r : AV} {Q : AV → Mem → Prop} (hp : PutsR call i ps r) (h : Rst K i x m) (hn : x.n + 3 * ps.length < 2 ^ 38)
    (hq : ∀ m', Rst K i (x.parts ps) m' → Kept K m m' → Q r m') : Ok call m Q := by
  obtain ⟨v, h1, h3, h4, h5, h6⟩ := h
  refine hp m v x Q h1 h3 hn fun m' v' k1 k3 hF => hq m' ⟨v', k1, k3, ?_, ?_, hF.dis h5 h6⟩ ⟨hF.chg.base, hF.chg.next, fun b hb => hF.chg.get b (h5 b hb) (fun h => h6 b h hb)⟩
  · have := hF.chg.base; have := hF.chg.next; omega
  · exact fun b hb => Nat.lt_of_lt_of_le (h5 b hb) hF.chg.next
theorem Rst.same {K : Nat → Prop} {i : Nat} {x : Iv} {m m' : Mem} (h : Rst K i x m) (hS : Same m m') : Rst (fun b => K b ∨ (m.next ≤ b ∧ b < m'.next)) i x m' := by
  obtain ⟨v, h1, h3, h4, h5, h6⟩ := h
  refine ⟨v, h1.chg hS id (fun _ _ => id), h3, hS.bn h4, fun b hb => ?_, fun b hb hK => ?_⟩
  · rcases hb with hb | hb
    · exact Nat.lt_of_lt_of_le (h5 b hb) hS.next
    · exact hb.2
  · rcases hK with hK | hK
    · exact h6 b hb hK
    · have := (h1.foot_lt b hb).1
      omega
theorem Rst.mono {K L : Nat → Prop} {i : Nat} {x : Iv} {m : Mem} (h : Rst K i x m) (hL : ∀ b, L b → K b) : Rst L i x m := by
  obtain ⟨v, h1, h3, h4, h5, h6⟩ := h
  exact ⟨v, h1, h3, h4, fun b hb => h5 b (hL b hb), fun b hb hl => h6 b hb (hL b hl)⟩
theorem Rst.same' {K : Nat → Prop} {i : Nat} {x : Iv} {m m' : Mem} (h : Rst K i x m) (hS : Same m m') : Rst K i x m' := (h.same hS).mono fun _ h => .inl h
theorem deltasN_intra (p p' : List Int) : ∀ (l : List Int) (b : Nat) (last : Int), deltasN true p b last l = deltasN true p' b last l
  | [], _, _ => rfl
  | x :: l, b, last => by
    simp -implicitDefEqProofs only [deltasN, expN, if_true]
    rw [deltasN_intra p p' l]
theorem deltasO_intra (p p' c : List Int) : deltasO true p c = deltasO true p' c := by
  unfold deltasO DeltasP
  simp -implicitDefEqProofs only [true_or, and_true]
  rw [deltasN_intra p p']

theorem rchan_l3_ok {K : Nat → Prop} {i i6 : Nat} {q : Int} {x0 : Iv} {m0 : Mem} {c : List BandD} {vb vr : AV} {Q : AV → Mem → Prop} (hv : BandsR K m0 vb c) (h13 : c.length = 13) (hr : IntsR K m0 vr (c.map BandD.c)) (hK6 : K i6) (hg6 : m0.get i6 = .cells T_api_Chan 0 [vb]) (hn : x0.n + 3 * (40 * 13) < 2 ^ 38)
    (hw : Rst K i x0 m0) (hq : ∀ m', Rst K i (x0.parts (pPs q 0 c)) m' → Kept K m0 m' → Q (.tup []) m') :
    Ok (fun n => loopN (fun r l => ref22_channel_l3 (fcall Tryz.prog ext1 n) n r (l.getD 0 .undef) (l.getD 1 .undef) (l.getD 2 .undef) (l.getD 3 .undef) (l.getD 4 .undef)) n [.ptr i 0, .int .i64 q, .ptr i6 0, vr, .int .i64 0]) m0 Q := by
  refine Ok.loop (fun k l m => ∃ (j : Nat) (x : Iv), k + j = 13 ∧ l = [.ptr i 0, .int .i64 q, .ptr i6 0, vr, .int .i64 j] ∧ x.n ≤ x0.n + 3 * (40 * j) ∧ x.parts (pPs q j (c.drop j)) = x0.parts (pPs q 0 c) ∧ Rst K i x m ∧ Kept K m0 m) ?_ (k := 13) ⟨0, x0, rfl, rfl, Nat.le_refl _, rfl, hw, Kept.refl _ _⟩
  clear hw
  rintro k l m rec ⟨j, x, hk, rfl, hxn, hx, hw, hkept⟩ ih
  have hv' := hv.keep (m' := m) hkept.get
  have hr' := hr.keep (m' := m) hkept.get
  have hg6' := (hkept.get i6 hK6).trans hg6
  by_cases h1 : j < 13
  · have d1 : (j : Int) < 13 := by omega
    obtain ⟨b, hb, hdrop⟩ := drop_cons' (l := c) (i := j) (by omega)
    obtain ⟨b', o, ce, hix, hKb, hl3, hR, hl, hld⟩ := hv'.at hb
    obtain ⟨vp, rfl, hw1, hw2, hp⟩ := hR
    have hld2 : load? none (.ptr b' (o + 2)) m = some vp := hld 2 _ rfl
    obtain ⟨b1, o1, ce1, hix1, -, -, ⟨rfl, -⟩, -, hld1⟩ := hr'.at (k := j) (x := b.c) (by rw [List.getElem?_map, hb]; rfl)
    have l1 : load? none (.ptr b1 o1) m = some (.int .i64 b.c) := hld1 0 _ rfl
    have hbm := hw.bn
    rw [hdrop, pPs, Iv.parts_append] at hx
    have e4 : IntKind.i64.wrap ((j : Int) + 1) = ((j + 1 : Nat) : Int) := by rw [IntWalk.i64_in _ (by omega)]; omega
    have hpn := Iv.parts_n (pP q j b) x
    have hple := pP_le q j b
    have hKm : ∀ b, K b → b < m.next := hw.lt
    simp -implicitDefEqProofs only [List.getD_cons_zero, List.getD_cons_succ, ref22_channel_l3, lp_some', mc_true, mc_false, ok_ret, ok_mc, ok_snap, aBin_add, aBin_sub, aBin_mul, aBin_lss, aBin_leq, aBin_gtr, aBin_geq, aBin_eql, aBin_neq, aBin_eqlStr, aBin_neqStr, strEq_bs, aBin_eqlNil, aBin_eqlNil', aBin_neqNil, aBin_neqNil', aUn_not, aUn_neg, aNil_ptr, aOff_ptr, aInt_int, aLenStr_str, aLenS_slice, aLenS_nil, aFold_min, aFold_max, bs_size, bs_empty, Nat.zero_add, Nat.add_zero, Nat.reduceAdd, ok_load, Mem.get_set, Mem.set_set, List.getElem?_cons_zero, List.getElem?_cons_succ, Option.some.injEq, exists_eq_left', List.set_cons_zero, List.set_cons_succ, d1, decide_true, if_true]
    refine Ok.bnd (rwidth_ok h1 ?_)
    simp -implicitDefEqProofs only [lp_some', mc_true, mc_false, ok_ret, ok_mc, ok_snap, aBin_add, aBin_sub, aBin_mul, aBin_lss, aBin_leq, aBin_gtr, aBin_geq, aBin_eql, aBin_neq, aBin_eqlStr, aBin_neqStr, strEq_bs, aBin_eqlNil, aBin_eqlNil', aBin_neqNil, aBin_neqNil', aUn_not, aUn_neg, aNil_ptr, aOff_ptr, aInt_int, aLenStr_str, aLenS_slice, aLenS_nil, aFold_min, aFold_max, bs_size, bs_empty, Nat.zero_add, Nat.add_zero, Nat.reduceAdd, ok_load, Mem.get_set, Mem.set_set, List.getElem?_cons_zero, List.getElem?_cons_succ, Option.some.injEq, exists_eq_left', List.set_cons_zero, List.set_cons_succ, hix1, l1]
    refine Ok.bnd (rband_ok ?_)
    simp -implicitDefEqProofs only [lp_some', mc_true, mc_false, ok_ret, ok_mc, ok_snap, aBin_add, aBin_sub, aBin_mul, aBin_lss, aBin_leq, aBin_gtr, aBin_geq, aBin_eql, aBin_neq, aBin_eqlStr, aBin_neqStr, strEq_bs, aBin_eqlNil, aBin_eqlNil', aBin_neqNil, aBin_neqNil', aUn_not, aUn_neg, aNil_ptr, aOff_ptr, aInt_int, aLenStr_str, aLenS_slice, aLenS_nil, aFold_min, aFold_max, bs_size, bs_empty, Nat.zero_add, Nat.add_zero, Nat.reduceAdd, ok_load, Mem.get_set, Mem.set_set, List.getElem?_cons_zero, List.getElem?_cons_succ, Option.some.injEq, exists_eq_left', List.set_cons_zero, List.set_cons_succ]
    have hlast : ∀ m', Rst K i (x.parts (pP q j b)) m' → Kept K m m' → Ok (fun n => ref22_channel_j1 (fcall Tryz.prog ext1 n) n (rec n) (.ptr i 0) (.int .i64 q) (.ptr i6 0) vr (.int .i64 j)) m' Q := by
      intro m' k1 k2
      simp -implicitDefEqProofs only [ref22_channel_j1, lp_some', mc_true, mc_false, ok_ret, ok_mc, ok_snap, aBin_add, aBin_sub, aBin_mul, aBin_lss, aBin_leq, aBin_gtr, aBin_geq, aBin_eql, aBin_neq, aBin_eqlStr, aBin_neqStr, strEq_bs, aBin_eqlNil, aBin_eqlNil', aBin_neqNil, aBin_neqNil', aUn_not, aUn_neg, aNil_ptr, aOff_ptr, aInt_int, aLenStr_str, aLenS_slice, aLenS_nil, aFold_min, aFold_max, bs_size, bs_empty, Nat.zero_add, Nat.add_zero, Nat.reduceAdd, ok_load, Mem.get_set, Mem.set_set, List.getElem?_cons_zero, List.getElem?_cons_succ, Option.some.injEq, exists_eq_left', List.set_cons_zero, List.set_cons_succ, e4]
      exact ih (k - 1) _ _ (by omega) ⟨j + 1, _, by omega, rfl, by omega, hx, k1, hkept.trans k2⟩
    by_cases h2 : 0 < bandN q b.c (widthN j)
    · have d2 : (0 : Int) < (bandN q b.c (widthN j) : Int) := by omega
      simp -implicitDefEqProofs only [d2, decide_true, if_true, load_at hg6', lp_some', mc_true, mc_false, ok_ret, ok_mc, ok_snap, aBin_add, aBin_sub, aBin_mul, aBin_lss, aBin_leq, aBin_gtr, aBin_geq, aBin_eql, aBin_neq, aBin_eqlStr, aBin_neqStr, strEq_bs, aBin_eqlNil, aBin_eqlNil', aBin_neqNil, aBin_neqNil', aUn_not, aUn_neg, aNil_ptr, aOff_ptr, aInt_int, aLenStr_str, aLenS_slice, aLenS_nil, aFold_min, aFold_max, bs_size, bs_empty, Nat.zero_add, Nat.add_zero, Nat.reduceAdd, ok_load, Mem.get_set, Mem.set_set, List.getElem?_cons_zero, List.getElem?_cons_succ, Option.some.injEq, exists_eq_left', List.set_cons_zero, List.set_cons_succ, hix, hld2]
      refine Ok.bnd (rindex_ok hp hKm hbm fun m3 hS3 => ?_)
      simp -implicitDefEqProofs only [sizeV, aExt, lp_some', mc_true, mc_false, ok_ret, ok_mc, ok_snap, aBin_add, aBin_sub, aBin_mul, aBin_lss, aBin_leq, aBin_gtr, aBin_geq, aBin_eql, aBin_neq, aBin_eqlStr, aBin_neqStr, strEq_bs, aBin_eqlNil, aBin_eqlNil', aBin_neqNil, aBin_neqNil', aUn_not, aUn_neg, aNil_ptr, aOff_ptr, aInt_int, aLenStr_str, aLenS_slice, aLenS_nil, aFold_min, aFold_max, bs_size, bs_empty, Nat.zero_add, Nat.add_zero, Nat.reduceAdd, ok_load, Mem.get_set, Mem.set_set, List.getElem?_cons_zero, List.getElem?_cons_succ, Option.some.injEq, exists_eq_left', List.set_cons_zero, List.set_cons_succ]
      refine Ok.bnd (rcount_ok (hS3.bn hbm) fun m4 hS4 => ?_)
      have hS14 := hS3.trans hS4
      have hpe : pP q j b = (belowO (((indexN b.p).getD 0 : Nat) : Int) ((countN (widthN j) (bandN q b.c (widthN j)) : Nat) : Int)).getD [] := if_pos h2
      rw [hpe] at hlast hple
      refine Ok.bnd (Rst.puts rputBelow_ok (hw.same' hS14) (by omega) fun m5 k1 k2 => ?_)
      exact hlast m5 k1 ((hS14.kept hKm).trans k2)
    · have d2 : ¬ (0 : Int) < (bandN q b.c (widthN j) : Int) := by omega
      have hpe : pP q j b = [] := if_neg h2
      rw [hpe] at hlast
      simp -implicitDefEqProofs only [d2, decide_false, Bool.false_eq_true, if_false]
      exact hlast m hw (Kept.refl _ _)
  · obtain rfl : j = 13 := by omega
    have d1 : ¬ ((13 : Nat) : Int) < 13 := by decide
    rw [List.drop_eq_nil_of_le (by omega), pPs] at hx
    simp -implicitDefEqProofs only [List.getD_cons_zero, List.getD_cons_succ, ref22_channel_l3, lp_some', mc_true, mc_false, ok_ret, ok_mc, ok_snap, aBin_add, aBin_sub, aBin_mul, aBin_lss, aBin_leq, aBin_gtr, aBin_geq, aBin_eql, aBin_neq, aBin_eqlStr, aBin_neqStr, strEq_bs, aBin_eqlNil, aBin_eqlNil', aBin_neqNil, aBin_neqNil', aUn_not, aUn_neg, aNil_ptr, aOff_ptr, aInt_int, aLenStr_str, aLenS_slice, aLenS_nil, aFold_min, aFold_max, bs_size, bs_empty, Nat.zero_add, Nat.add_zero, Nat.reduceAdd, ok_load, Mem.get_set, Mem.set_set, List.getElem?_cons_zero, List.getElem?_cons_succ, Option.some.injEq, exists_eq_left', List.set_cons_zero, List.set_cons_succ, d1, decide_false, Bool.false_eq_true, if_false]
    refine hq m ?_ hkept
    rw [← hx]
    exact hw

theorem rchan_l2_ok {K : Nat → Prop} {i i6 : Nat} {q : Int} {x0 : Iv} {m0 : Mem} {c : List BandD} {vb vr : AV} {Q : AV → Mem → Prop} (hv : BandsR K m0 vb c) (h13 : c.length = 13) (hr : IntsR K m0 vr (c.map BandD.c)) (hK6 : K i6) (hg6 : m0.get i6 = .cells T_api_Chan 0 [vb]) (hn : x0.n + 3 * (40 * 26) < 2 ^ 38)
    (hw : Rst K i x0 m0) (hq : ∀ m', Rst K i (x0.parts (fPs c ++ pPs q 0 c)) m' → Kept K m0 m' → Q (.tup []) m') :
    Ok (fun n => loopN (fun r l => ref22_channel_l2 (fcall Tryz.prog ext1 n) n r (l.getD 0 .undef) (l.getD 1 .undef) (l.getD 2 .undef) (l.getD 3 .undef) (l.getD 4 .undef)) n [.ptr i 0, .int .i64 q, .ptr i6 0, vr, .int .i64 0]) m0 Q := by
  refine Ok.loop (fun k l m => ∃ (j : Nat) (x : Iv), k + j = 13 ∧ l = [.ptr i 0, .int .i64 q, .ptr i6 0, vr, .int .i64 j] ∧ x.n ≤ x0.n + 3 * (40 * j) ∧ x.parts (fPs (c.drop j)) = x0.parts (fPs c) ∧ Rst K i x m ∧ Kept K m0 m) ?_ (k := 13) ⟨0, x0, rfl, rfl, Nat.le_refl _, rfl, hw, Kept.refl _ _⟩
  clear hw
  rintro k l m rec ⟨j, x, hk, rfl, hxn, hx, hw, hkept⟩ ih
  have hv' := hv.keep (m' := m) hkept.get
  have hr' := hr.keep (m' := m) hkept.get
  have hg6' := (hkept.get i6 hK6).trans hg6
  by_cases h1 : j < 13
  · have d1 : (j : Int) < 13 := by omega
    obtain ⟨b, hb, hdrop⟩ := drop_cons' (l := c) (i := j) (by omega)
    obtain ⟨b', o, ce, hix, hKb, hl3, hR, hl, hld⟩ := hv'.at hb
    obtain ⟨vp, rfl, hw1, hw2, hp⟩ := hR
    have hld1' : load? none (.ptr b' (o + 1)) m = some (.int .i64 b.f) := hld 1 _ rfl
    obtain ⟨b1, o1, ce1, hix1, -, -, ⟨rfl, -⟩, -, hld1⟩ := hr'.at (k := j) (x := b.c) (by rw [List.getElem?_map, hb]; rfl)
    have l1 : load? none (.ptr b1 o1) m = some (.int .i64 b.c) := hld1 0 _ rfl
    rw [hdrop, fPs, List.map_cons, List.flatten_cons, Iv.parts_append] at hx
    have e4 : IntKind.i64.wrap ((j : Int) + 1) = ((j + 1 : Nat) : Int) := by rw [IntWalk.i64_in _ (by omega)]; omega
    have hpn := Iv.parts_n (fP b) x
    have hple := fP_le b
    simp -implicitDefEqProofs only [List.getD_cons_zero, List.getD_cons_succ, ref22_channel_l2, lp_some', mc_true, mc_false, ok_ret, ok_mc, ok_snap, aBin_add, aBin_sub, aBin_mul, aBin_lss, aBin_leq, aBin_gtr, aBin_geq, aBin_eql, aBin_neq, aBin_eqlStr, aBin_neqStr, strEq_bs, aBin_eqlNil, aBin_eqlNil', aBin_neqNil, aBin_neqNil', aUn_not, aUn_neg, aNil_ptr, aOff_ptr, aInt_int, aLenStr_str, aLenS_slice, aLenS_nil, aFold_min, aFold_max, bs_size, bs_empty, Nat.zero_add, Nat.add_zero, Nat.reduceAdd, ok_load, Mem.get_set, Mem.set_set, List.getElem?_cons_zero, List.getElem?_cons_succ, Option.some.injEq, exists_eq_left', List.set_cons_zero, List.set_cons_succ, d1, decide_true, if_true, hix1, l1]
    have hlast : ∀ m', Rst K i (x.parts (fP b)) m' → Kept K m m' → Ok (fun n => ref22_channel_j0 (fcall Tryz.prog ext1 n) n (rec n) (.ptr i 0) (.int .i64 q) (.ptr i6 0) vr (.int .i64 j)) m' Q := by
      intro m' k1 k2
      simp -implicitDefEqProofs only [ref22_channel_j0, lp_some', mc_true, mc_false, ok_ret, ok_mc, ok_snap, aBin_add, aBin_sub, aBin_mul, aBin_lss, aBin_leq, aBin_gtr, aBin_geq, aBin_eql, aBin_neq, aBin_eqlStr, aBin_neqStr, strEq_bs, aBin_eqlNil, aBin_eqlNil', aBin_neqNil, aBin_neqNil', aUn_not, aUn_neg, aNil_ptr, aOff_ptr, aInt_int, aLenStr_str, aLenS_slice, aLenS_nil, aFold_min, aFold_max, bs_size, bs_empty, Nat.zero_add, Nat.add_zero, Nat.reduceAdd, ok_load, Mem.get_set, Mem.set_set, List.getElem?_cons_zero, List.getElem?_cons_succ, Option.some.injEq, exists_eq_left', List.set_cons_zero, List.set_cons_succ, e4]
      exact ih (k - 1) _ _ (by omega) ⟨j + 1, _, by omega, rfl, by omega, hx, k1, hkept.trans k2⟩
    by_cases h2 : 0 < b.c
    · have hpe : fP b = (bitsO b.f 2).getD [] := if_pos h2
      rw [hpe] at hlast hple
      simp -implicitDefEqProofs only [h2, decide_true, if_true, load_at hg6', lp_some', mc_true, mc_false, ok_ret, ok_mc, ok_snap, aBin_add, aBin_sub, aBin_mul, aBin_lss, aBin_leq, aBin_gtr, aBin_geq, aBin_eql, aBin_neq, aBin_eqlStr, aBin_neqStr, strEq_bs, aBin_eqlNil, aBin_eqlNil', aBin_neqNil, aBin_neqNil', aUn_not, aUn_neg, aNil_ptr, aOff_ptr, aInt_int, aLenStr_str, aLenS_slice, aLenS_nil, aFold_min, aFold_max, bs_size, bs_empty, Nat.zero_add, Nat.add_zero, Nat.reduceAdd, ok_load, Mem.get_set, Mem.set_set, List.getElem?_cons_zero, List.getElem?_cons_succ, Option.some.injEq, exists_eq_left', List.set_cons_zero, List.set_cons_succ, hix, hld1']
      exact Ok.bnd (Rst.puts (rputBits_ok (fine_in hw2)) hw (by omega) fun m5 k1 k2 => hlast m5 k1 k2)
    · have hpe : fP b = [] := if_neg h2
      rw [hpe] at hlast
      simp -implicitDefEqProofs only [h2, decide_false, Bool.false_eq_true, if_false]
      exact hlast m hw (Kept.refl _ _)
  · obtain rfl : j = 13 := by omega
    have d1 : ¬ ((13 : Nat) : Int) < 13 := by decide
    rw [List.drop_eq_nil_of_le (by omega)] at hx
    simp -implicitDefEqProofs only [List.getD_cons_zero, List.getD_cons_succ, ref22_channel_l2, lp_some', mc_true, mc_false, ok_ret, ok_mc, ok_snap, aBin_add, aBin_sub, aBin_mul, aBin_lss, aBin_leq, aBin_gtr, aBin_geq, aBin_eql, aBin_neq, aBin_eqlStr, aBin_neqStr, strEq_bs, aBin_eqlNil, aBin_eqlNil', aBin_neqNil, aBin_neqNil', aUn_not, aUn_neg, aNil_ptr, aOff_ptr, aInt_int, aLenStr_str, aLenS_slice, aLenS_nil, aFold_min, aFold_max, bs_size, bs_empty, Nat.zero_add, Nat.add_zero, Nat.reduceAdd, ok_load, Mem.get_set, Mem.set_set, List.getElem?_cons_zero, List.getElem?_cons_succ, Option.some.injEq, exists_eq_left', List.set_cons_zero, List.set_cons_succ, d1, decide_false, Bool.false_eq_true, if_false]
    refine rchan_l3_ok hv' h13 hr' hK6 hg6' (by omega) hw fun m' k1 k2 => hq m' ?_ (hkept.trans k2)
    rw [Iv.parts_append, ← hx]
    exact k1

theorem rchan_l1_ok {K : Nat → Prop} {i i6 : Nat} {q : Int} {x0 : Iv} {m0 : Mem} {c : List BandD} {d : List Int} {vb vr vd : AV} {Q : AV → Mem → Prop} (hv : BandsR K m0 vb c) (h13 : c.length = 13) (hd : IntsR K m0 vd d) (hd13 : d.length = 13) (hr : IntsR K m0 vr (c.map BandD.c)) (hK6 : K i6) (hg6 : m0.get i6 = .cells T_api_Chan 0 [vb]) (hn : x0.n + 3 * (40 * 39) < 2 ^ 38)
    (hw : Rst K i x0 m0) (hq : ∀ m', Rst K i (x0.parts (chanP q c d)) m' → Kept K m0 m' → Q (.tup []) m') :
    Ok (fun n => loopN (fun r l => ref22_channel_l1 (fcall Tryz.prog ext1 n) n r (l.getD 0 .undef) (l.getD 1 .undef) (l.getD 2 .undef) (l.getD 3 .undef) (l.getD 4 .undef) (l.getD 5 .undef)) n [.ptr i 0, .int .i64 q, .ptr i6 0, vr, vd, .int .i64 0]) m0 Q := by
  refine Ok.loop (fun k l m => ∃ (j : Nat) (x : Iv), k + j = 13 ∧ l = [.ptr i 0, .int .i64 q, .ptr i6 0, vr, vd, .int .i64 j] ∧ x.n ≤ x0.n + 3 * (40 * j) ∧ x.parts (dPs (d.drop j)) = x0.parts (dPs d) ∧ Rst K i x m ∧ Kept K m0 m) ?_ (k := 13) ⟨0, x0, rfl, rfl, Nat.le_refl _, rfl, hw, Kept.refl _ _⟩
  clear hw
  rintro k l m rec ⟨j, x, hk, rfl, hxn, hx, hw, hkept⟩ ih
  have hd' := hd.keep (m' := m) hkept.get
  by_cases h1 : j < 13
  · have d1 : (j : Int) < 13 := by omega
    obtain ⟨y, hy, hdrop⟩ := drop_cons' (l := d) (i := j) (by omega)
    obtain ⟨b', o, ce, hix, hKb, -, ⟨rfl, -⟩, -, hld⟩ := hd'.at hy
    have hld0 : load? none (.ptr b' o) m = some (.int .i64 y) := hld 0 _ rfl
    rw [hdrop, dPs, List.map_cons, List.flatten_cons, Iv.parts_append] at hx
    have e4 : IntKind.i64.wrap ((j : Int) + 1) = ((j + 1 : Nat) : Int) := by rw [IntWalk.i64_in _ (by omega)]; omega
    have hpn := Iv.parts_n (dP y) x
    have hple := dP_le y
    simp -implicitDefEqProofs only [List.getD_cons_zero, List.getD_cons_succ, ref22_channel_l1, lp_some', mc_true, mc_false, ok_ret, ok_mc, ok_snap, aBin_add, aBin_sub, aBin_mul, aBin_lss, aBin_leq, aBin_gtr, aBin_geq, aBin_eql, aBin_neq, aBin_eqlStr, aBin_neqStr, strEq_bs, aBin_eqlNil, aBin_eqlNil', aBin_neqNil, aBin_neqNil', aUn_not, aUn_neg, aNil_ptr, aOff_ptr, aInt_int, aLenStr_str, aLenS_slice, aLenS_nil, aFold_min, aFold_max, bs_size, bs_empty, Nat.zero_add, Nat.add_zero, Nat.reduceAdd, ok_load, Mem.get_set, Mem.set_set, List.getElem?_cons_zero, List.getElem?_cons_succ, Option.some.injEq, exists_eq_left', List.set_cons_zero, List.set_cons_succ, d1, decide_true, if_true, hix, hld0]
    refine Ok.bnd (Rst.puts (ps := dP y) rputDelta_ok hw (by omega) fun m5 k1 k2 => ?_)
    simp -implicitDefEqProofs only [lp_some', mc_true, mc_false, ok_ret, ok_mc, ok_snap, aBin_add, aBin_sub, aBin_mul, aBin_lss, aBin_leq, aBin_gtr, aBin_geq, aBin_eql, aBin_neq, aBin_eqlStr, aBin_neqStr, strEq_bs, aBin_eqlNil, aBin_eqlNil', aBin_neqNil, aBin_neqNil', aUn_not, aUn_neg, aNil_ptr, aOff_ptr, aInt_int, aLenStr_str, aLenS_slice, aLenS_nil, aFold_min, aFold_max, bs_size, bs_empty, Nat.zero_add, Nat.add_zero, Nat.reduceAdd, ok_load, Mem.get_set, Mem.set_set, List.getElem?_cons_zero, List.getElem?_cons_succ, Option.some.injEq, exists_eq_left', List.set_cons_zero, List.set_cons_succ, e4]
    exact ih (k - 1) _ _ (by omega) ⟨j + 1, _, by omega, rfl, by omega, hx, k1, hkept.trans k2⟩
  · obtain rfl : j = 13 := by omega
    have d1 : ¬ ((13 : Nat) : Int) < 13 := by decide
    rw [List.drop_eq_nil_of_le (by omega)] at hx
    simp -implicitDefEqProofs only [List.getD_cons_zero, List.getD_cons_succ, ref22_channel_l1, lp_some', mc_true, mc_false, ok_ret, ok_mc, ok_snap, aBin_add, aBin_sub, aBin_mul, aBin_lss, aBin_leq, aBin_gtr, aBin_geq, aBin_eql, aBin_neq, aBin_eqlStr, aBin_neqStr, strEq_bs, aBin_eqlNil, aBin_eqlNil', aBin_neqNil, aBin_neqNil', aUn_not, aUn_neg, aNil_ptr, aOff_ptr, aInt_int, aLenStr_str, aLenS_slice, aLenS_nil, aFold_min, aFold_max, bs_size, bs_empty, Nat.zero_add, Nat.add_zero, Nat.reduceAdd, ok_load, Mem.get_set, Mem.set_set, List.getElem?_cons_zero, List.getElem?_cons_succ, Option.some.injEq, exists_eq_left', List.set_cons_zero, List.set_cons_succ, d1, decide_false, Bool.false_eq_true, if_false]
    refine rchan_l2_ok (hv.keep (m' := m) hkept.get) h13 (hr.keep (m' := m) hkept.get) hK6 ((hkept.get i6 hK6).trans hg6) (by omega) hw fun m' k1 k2 => hq m' ?_ (hkept.trans k2)
    rw [chanP, Iv.parts_append, ← hx]
    exact k1

theorem rchannel_ok {K : Nat → Prop} {i : Nat} {intra : Bool} {p : List Int} {q : Int} {x0 : Iv} {m : Mem} {c : List BandD} {vb vp : AV} {Q : AV → Mem → Prop} (hv : BandsR K m vb c) (h13 : c.length = 13) (hp : IntsR K m vp p) (hD : DeltasP intra p (c.map BandD.c)) (hn : x0.n + 3 * (40 * 39) < 2 ^ 38)
    (hw : Rst K i x0 m) (hq : ∀ m', Rst K i (x0.parts (chanP q c (deltasO intra p (c.map BandD.c)))) m' → Kept K m m' → Q (.tup []) m') : Ok (R fn_ref22_channel [.ptr i 0, .agg [vb], .bool intra, vp, .int .i64 q]) m Q := by
  refine Ok.call (fun n => ref22_channel_eq rfl n _ _ _ _ _) ?_
  have hS1 := Same.alloc m (.cells T_api_Chan 0 [vb])
  have hg := Mem.get_alloc m (.cells T_api_Chan 0 [vb])
  have hnx : m.next < (m.alloc (.cells T_api_Chan 0 [vb])).next := Nat.lt_succ_self _
  simp -implicitDefEqProofs only [ref22_channel, ok_box]
  generalize m.alloc (.cells T_api_Chan 0 [vb]) = m1 at *
  have hbn1 := hS1.bn hw.bn
  refine Ok.loop (fun k l m' => ∃ (j fz : Nat) (u : AV), k + j = 13 ∧ l = [.ptr i 0, .bool intra, vp, .int .i64 q, .ptr m.next 0, u, .int .i64 j] ∧ Buf T_int fz m' u (((c.take j).map BandD.c).map fun x => .int .i64 x) ∧ (∀ b, own u b → m1.next ≤ b) ∧ Same m1 m') ?_ (k := 13) ⟨0, 0, .nilslice, rfl, rfl, .inl ⟨rfl, rfl⟩, fun b h => h.elim, Same.refl _⟩
  rintro k l m' rec ⟨j, fz, u, hk, rfl, hB, hown, hS⟩ ih
  have hS' := hS1.trans hS
  have hkm : ∀ b, K b → m'.get b = m.get b := fun b hb => hS'.get (hw.lt b hb)
  have hg' := (hS.get hnx).trans hg
  by_cases h1 : j < 13
  · have d1 : (j : Int) < 13 := by omega
    obtain ⟨b, hb⟩ : ∃ b, c[j]? = some b := ⟨c[j], List.getElem?_eq_getElem (by omega)⟩
    obtain ⟨b', o, ce, hix, hKb, hl3, ⟨vq, rfl, hw1, hw2, hpp⟩, hl, hld⟩ := (hv.keep hkm).at hb
    have hld0 : load? none (.ptr b' o) m' = some (.int .i64 b.c) := hld 0 _ rfl
    have e4 : IntKind.i64.wrap ((j : Int) + 1) = ((j + 1 : Nat) : Int) := by rw [IntWalk.i64_in _ (by omega)]; omega
    have e3 : aFill (fun i => some (i * 1, 1)) [.int .i64 0] [(0, .int .i64 b.c)] = some [.int .i64 b.c] := aFill1 _ _ (by simp)
    simp -implicitDefEqProofs only [List.getD_cons_zero, List.getD_cons_succ, ref22_channel_l0, lp_some', mc_true, mc_false, ok_ret, ok_mc, ok_snap, aBin_add, aBin_sub, aBin_mul, aBin_lss, aBin_leq, aBin_gtr, aBin_geq, aBin_eql, aBin_neq, aBin_eqlStr, aBin_neqStr, strEq_bs, aBin_eqlNil, aBin_eqlNil', aBin_neqNil, aBin_neqNil', aUn_not, aUn_neg, aNil_ptr, aOff_ptr, aInt_int, aLenStr_str, aLenS_slice, aLenS_nil, aFold_min, aFold_max, bs_size, bs_empty, Nat.zero_add, Nat.add_zero, Nat.reduceAdd, ok_load, Mem.get_set, Mem.set_set, List.getElem?_cons_zero, List.getElem?_cons_succ, Option.some.injEq, exists_eq_left', List.set_cons_zero, List.set_cons_succ, d1, decide_true, if_true, load_at hg', hix, hld0, e3, ok_allocS]
    refine ok_append1 hB (hS.bn hbn1) (by simp) (by simp; omega) fun m2 u2 fz2 k1 k2 k3 k4 => ?_
    simp -implicitDefEqProofs only [lp_some', mc_true, mc_false, ok_ret, ok_mc, ok_snap, aBin_add, aBin_sub, aBin_mul, aBin_lss, aBin_leq, aBin_gtr, aBin_geq, aBin_eql, aBin_neq, aBin_eqlStr, aBin_neqStr, strEq_bs, aBin_eqlNil, aBin_eqlNil', aBin_neqNil, aBin_neqNil', aUn_not, aUn_neg, aNil_ptr, aOff_ptr, aInt_int, aLenStr_str, aLenS_slice, aLenS_nil, aFold_min, aFold_max, bs_size, bs_empty, Nat.zero_add, Nat.add_zero, Nat.reduceAdd, ok_load, Mem.get_set, Mem.set_set, List.getElem?_cons_zero, List.getElem?_cons_succ, Option.some.injEq, exists_eq_left', List.set_cons_zero, List.set_cons_succ, e4]
    have htk : (c.take j).map BandD.c ++ [b.c] = (c.take (j + 1)).map BandD.c := by rw [List.take_add_one, hb]; simp
    refine ih (k - 1) _ _ (by omega) ⟨j + 1, fz2, u2, by omega, rfl, ?_, fun b hb => Nat.le_trans hS.next (k3 b hb), ⟨k1.base.trans hS.base, Nat.le_trans hS.next k1.next, fun b hb _ => (k1.get b (Nat.lt_of_lt_of_le hb hS.next) (fun h => by have := hown b h; omega)).trans (hS.get hb)⟩⟩
    rw [← htk]
    simpa using k2
  · obtain rfl : j = 13 := by omega
    have d1 : ¬ ((13 : Nat) : Int) < 13 := by decide
    rw [List.take_of_length_le (by omega)] at hB
    have hrow : IntsR (fun b => m1.next ≤ b ∧ b < m'.next) m' u (c.map BandD.c) := buf_ints hB (fun b hb => ⟨hown b hb, (hB.own hb).2⟩) fun x hx => by
      have := hD.1.2 x hx
      exact wf_i64 (by omega)
    simp -implicitDefEqProofs only [List.getD_cons_zero, List.getD_cons_succ, ref22_channel_l0, lp_some', mc_true, mc_false, ok_ret, ok_mc, ok_snap, aBin_add, aBin_sub, aBin_mul, aBin_lss, aBin_leq, aBin_gtr, aBin_geq, aBin_eql, aBin_neq, aBin_eqlStr, aBin_neqStr, strEq_bs, aBin_eqlNil, aBin_eqlNil', aBin_neqNil, aBin_neqNil', aUn_not, aUn_neg, aNil_ptr, aOff_ptr, aInt_int, aLenStr_str, aLenS_slice, aLenS_nil, aFold_min, aFold_max, bs_size, bs_empty, Nat.zero_add, Nat.add_zero, Nat.reduceAdd, ok_load, Mem.get_set, Mem.set_set, List.getElem?_cons_zero, List.getElem?_cons_succ, Option.some.injEq, exists_eq_left', List.set_cons_zero, List.set_cons_succ, d1, decide_false, Bool.false_eq_true, if_false]
    refine Ok.bnd (rdeltas_ok hrow (fun b hb => hb.2) (hp.keep hkm) (fun b hb => Nat.lt_of_lt_of_le (hw.lt b hb) hS'.next) (hS.bn hbn1) fun m3 vd hS3 hvd => ?_)
    have hS03 := hS'.trans hS3
    have hw3 := hw.same hS03
    have hn1 := hS1.next
    have hn2 := hS.next
    have hn3 := hS3.next
    have hdl : (deltasO intra p (c.map BandD.c)).length = 13 := by
      rw [show deltasO intra p (c.map BandD.c) = deltasN intra p 0 0 (c.map BandD.c) from if_pos hD, deltasN_length, List.length_map, h13]
    refine rchan_l1_ok (K := fun b => K b ∨ (m.next ≤ b ∧ b < m3.next)) (SlR.mono (hv.keep (m' := m3) (fun b hb => hS03.get (hw.lt b hb))) (fun b hb => .inl hb) (fun _ _ ⟨v, k1, k2, k3, k4⟩ => ⟨v, k1, k2, k3, k4.mono fun b hb => .inl hb⟩)) h13 (hvd.mono fun b hb => .inr ⟨by omega, hb.2⟩) hdl ((hrow.keep (m' := m3) (fun b hb => hS3.get hb.2)).mono fun b hb => .inr ⟨by omega, by omega⟩) (.inr ⟨Nat.le_refl _, by omega⟩) ((hS3.get (by omega)).trans hg') hn hw3 fun m4 k1 k2 => hq m4 (k1.mono fun b hb => .inl hb) ((hS03.kept hw.lt).trans (k2.mono fun b hb => .inl hb))
end SplA
