/- Put, by the document. -/
import Derived.Test.YtooogfnmhfocjaaGreatDoorSplRy
import Derived.Test.YtooogfnmhfocjaaGreatDoorSplPutC
namespace SplA
open Go.Proofs.YtooogfnmhfocjaaGreatDoor.Spl Go Go.Proofs
set_option maxRecDepth 100000
set_option linter.unusedVariables false
set_option linter.unusedSimpArgs false

theorem chan_right {q : Int} {c : List BandD} (h : ChanP q c) : RightP (c.map BandD.c) := by
  refine ⟨by rw [List.length_map, h.1], fun x hx => ?_⟩
  obtain ⟨b, hb, rfl⟩ := List.mem_map.1 hx
  obtain ⟨k, hk⟩ := List.getElem?_of_mem hb
  have := h.2 k b hk
  exact ⟨this.2.2.2.1, this.2.2.2.2.1⟩
theorem rbitf_ok {i : Nat} {b : Bool} : PutsR (R fn_ref05_PutBits [.ptr i 0, .int .i64 (if b then 1 else 0), .int .i64 1]) i (bitsP 1 (if b then 1 else 0)) (.bool true) := by
  have b1 := bitsO1 (if b then 1 else 0) (by split <;> decide)
  have e : ((if b then 1 else 0 : Nat) : Int) = (if b then 1 else 0 : Int) := by split <;> rfl
  rw [e] at b1
  have := rputBits_ok (i := i) (v := if b then 1 else 0) (n := 1) (by split <;> decide)
  rw [b1] at this
  simpa using this

theorem rput_l0_ok {K : Nat → Prop} {i i4 : Nat} {f : FrameD} {p : List (List Int)} {n q : Int} {x0 : Iv} {m0 : Mem} {v vp : AV} {Q : AV → Mem → Prop} (hv : ChansR K m0 v f.chans) (hp : RowsR K m0 vp p) (hA : f.intra = true ∨ AheadP p n) (hfit : FitP f n q) (hn : x0.n + 3 * (40 * 39 * 2) < 2 ^ 38) (hK4 : K i4) (hg4 : m0.get i4 = .cells T_api_Frame 0 (frameC f v))
    (hw : Rst K i x0 m0) (hq : ∀ m', Kept K m0 m' → Q (.tup [.str (bs (x0.parts (chansP q f p 0 f.chans)).ends), .int .i64 0]) m') :
    Ok (fun k => loopN (fun r l => ref22_Put_l0 (fcall Tryz.prog ext1 k) k r (l.getD 0 .undef) (l.getD 1 .undef) (l.getD 2 .undef) (l.getD 3 .undef) (l.getD 4 .undef) (l.getD 5 .undef)) k [.int .i64 n, .int .i64 q, vp, .ptr i4 0, .ptr i 0, .int .i64 0]) m0 Q := by
  have hlen2 : f.chans.length ≤ 2 := by have := hfit.1; have := hfit.2.1; omega
  have hfn : (f.chans.length : Int) = n := hfit.2.1
  refine Ok.loop (fun k l m => ∃ (j : Nat) (x : Iv), k + j = f.chans.length ∧ l = [.int .i64 n, .int .i64 q, vp, .ptr i4 0, .ptr i 0, .int .i64 j] ∧ x.n ≤ x0.n + 3 * (40 * 39 * j) ∧ x.parts (chansP q f p j (f.chans.drop j)) = x0.parts (chansP q f p 0 f.chans) ∧ Rst K i x m ∧ Kept K m0 m) ?_ (k := f.chans.length) ⟨0, x0, rfl, rfl, Nat.le_refl _, rfl, hw, Kept.refl _ _⟩
  clear hw
  rintro k l m rec ⟨j, x, hk, rfl, hxn, hx, hw, hkept⟩ ih
  have hv' := hv.keep (m' := m) hkept.get
  have hp' := hp.keep (m' := m) hkept.get
  have hg4' := (hkept.get i4 hK4).trans hg4
  unfold frameC at hg4'
  by_cases h1 : j < f.chans.length
  · have d1 : (j : Int) < n := by omega
    obtain ⟨c, hc, hdrop⟩ := drop_cons' h1
    have hcP := hfit.2.2.2.2.2 c (List.mem_of_getElem? hc)
    obtain ⟨b2, o2, ce2, hix2, hKb2, -, ⟨vb, rfl, hb⟩, l2, -⟩ := hv'.at hc
    have e4 : IntKind.i64.wrap ((j : Int) + 1) = ((j + 1 : Nat) : Int) := by rw [IntWalk.i64_in _ (by omega)]; omega
    have hRc := chan_right hcP
    have hds : deltasO f.intra (p.getD j []) (c.map BandD.c) = deltasO f.intra (lastN f p j) (c.map BandD.c) := by
      unfold lastN
      by_cases h2 : f.intra = true
      · rw [h2]; exact deltasO_intra _ _ _
      · rw [if_neg h2]
    have hD : DeltasP f.intra (p.getD j []) (c.map BandD.c) := by
      refine ⟨hRc, hA.imp id fun hA => ?_⟩
      have hjp : j < p.length := by have := hA.1; omega
      rw [List.getD_eq_getElem?_getD, List.getElem?_eq_getElem hjp]
      exact hA.2 _ (List.getElem_mem hjp)
    rw [hdrop, chansP, Iv.parts_append, ← hds] at hx
    have hdl : (deltasO f.intra (p.getD j []) (c.map BandD.c)).length ≤ 13 := by
      refine Nat.le_trans (deltasO_length _ _ _) ?_
      rw [List.length_map, hcP.1]
      exact Nat.le_refl _
    have hle := chanP_le (q := q) (d := deltasO f.intra (p.getD j []) (c.map BandD.c)) hcP.1 hdl
    have hpn := Iv.parts_n (chanP q c (deltasO f.intra (p.getD j []) (c.map BandD.c))) x
    simp -implicitDefEqProofs only [List.getD_cons_zero, List.getD_cons_succ, ref22_Put_l0, lp_some', mc_true, mc_false, ok_ret, ok_mc, ok_snap, aBin_add, aBin_sub, aBin_mul, aBin_lss, aBin_leq, aBin_gtr, aBin_geq, aBin_eql, aBin_neq, aBin_eqlStr, aBin_neqStr, strEq_bs, aBin_eqlNil, aBin_eqlNil', aBin_neqNil, aBin_neqNil', aUn_not, aUn_neg, aNil_ptr, aOff_ptr, aInt_int, aLenStr_str, aLenS_slice, aLenS_nil, aFold_min, aFold_max, bs_size, bs_empty, Nat.zero_add, Nat.add_zero, Nat.reduceAdd, ok_load, Mem.get_set, Mem.set_set, List.getElem?_cons_zero, List.getElem?_cons_succ, Option.some.injEq, exists_eq_left', List.set_cons_zero, List.set_cons_succ, d1, decide_true, if_true, load_at hg4', hix2, l2]
    refine Ok.bnd (rrow_ok hp' fun u hu => ?_)
    have s1 : ∀ k : M AV, same none (.ptr i4 4) v m k = k := fun k => same_load (by rw [load_at hg4']; rfl) hv.eqb k
    have s2 : ∀ k : M AV, same (some 1) (.ptr b2 o2) (.agg [vb]) m k = k := fun k => same_load l2 (by simp [AV.eqb, AV.eqbs, hb.eqb]) k
    have s3 : ∀ k : M AV, same none (.ptr i4 2) (.bool f.intra) m k = k := fun k => same_load (by rw [load_at hg4']; rfl) (by simp [AV.eqb]) k
    simp -implicitDefEqProofs only [lp_some', mc_true, mc_false, ok_ret, ok_mc, ok_snap, aBin_add, aBin_sub, aBin_mul, aBin_lss, aBin_leq, aBin_gtr, aBin_geq, aBin_eql, aBin_neq, aBin_eqlStr, aBin_neqStr, strEq_bs, aBin_eqlNil, aBin_eqlNil', aBin_neqNil, aBin_neqNil', aUn_not, aUn_neg, aNil_ptr, aOff_ptr, aInt_int, aLenStr_str, aLenS_slice, aLenS_nil, aFold_min, aFold_max, bs_size, bs_empty, Nat.zero_add, Nat.add_zero, Nat.reduceAdd, ok_load, Mem.get_set, Mem.set_set, List.getElem?_cons_zero, List.getElem?_cons_succ, Option.some.injEq, exists_eq_left', List.set_cons_zero, List.set_cons_succ, s1, s2, s3]
    refine Ok.bnd (rchannel_ok hb hcP.1 hu hD (by omega) hw fun m2 k1 k2 => ?_)
    simp -implicitDefEqProofs only [lp_some', mc_true, mc_false, ok_ret, ok_mc, ok_snap, aBin_add, aBin_sub, aBin_mul, aBin_lss, aBin_leq, aBin_gtr, aBin_geq, aBin_eql, aBin_neq, aBin_eqlStr, aBin_neqStr, strEq_bs, aBin_eqlNil, aBin_eqlNil', aBin_neqNil, aBin_neqNil', aUn_not, aUn_neg, aNil_ptr, aOff_ptr, aInt_int, aLenStr_str, aLenS_slice, aLenS_nil, aFold_min, aFold_max, bs_size, bs_empty, Nat.zero_add, Nat.add_zero, Nat.reduceAdd, ok_load, Mem.get_set, Mem.set_set, List.getElem?_cons_zero, List.getElem?_cons_succ, Option.some.injEq, exists_eq_left', List.set_cons_zero, List.set_cons_succ, e4]
    exact ih (k - 1) _ _ (by omega) ⟨j + 1, _, by omega, rfl, by omega, hx, k1, hkept.trans k2⟩
  · obtain rfl : j = f.chans.length := by omega
    have d1 : ¬ (f.chans.length : Int) < n := by omega
    rw [List.drop_length, chansP] at hx
    obtain ⟨w, g1, g3, g4, g5, g6⟩ := hw
    simp -implicitDefEqProofs only [List.getD_cons_zero, List.getD_cons_succ, ref22_Put_l0, lp_some', mc_true, mc_false, ok_ret, ok_mc, ok_snap, aBin_add, aBin_sub, aBin_mul, aBin_lss, aBin_leq, aBin_gtr, aBin_geq, aBin_eql, aBin_neq, aBin_eqlStr, aBin_neqStr, strEq_bs, aBin_eqlNil, aBin_eqlNil', aBin_neqNil, aBin_neqNil', aUn_not, aUn_neg, aNil_ptr, aOff_ptr, aInt_int, aLenStr_str, aLenS_slice, aLenS_nil, aFold_min, aFold_max, bs_size, bs_empty, Nat.zero_add, Nat.add_zero, Nat.reduceAdd, ok_load, Mem.get_set, Mem.set_set, List.getElem?_cons_zero, List.getElem?_cons_succ, Option.some.injEq, exists_eq_left', List.set_cons_zero, List.set_cons_succ, d1, decide_false, Bool.false_eq_true, if_false]
    refine Ok.bnd (rend_ok g1 (by omega) fun m' k1 k2 => ?_)
    simp -implicitDefEqProofs only [lp_some', mc_true, mc_false, ok_ret, ok_mc, ok_snap, aBin_add, aBin_sub, aBin_mul, aBin_lss, aBin_leq, aBin_gtr, aBin_geq, aBin_eql, aBin_neq, aBin_eqlStr, aBin_neqStr, strEq_bs, aBin_eqlNil, aBin_eqlNil', aBin_neqNil, aBin_neqNil', aUn_not, aUn_neg, aNil_ptr, aOff_ptr, aInt_int, aLenStr_str, aLenS_slice, aLenS_nil, aFold_min, aFold_max, bs_size, bs_empty, Nat.zero_add, Nat.add_zero, Nat.reduceAdd, ok_load, Mem.get_set, Mem.set_set, List.getElem?_cons_zero, List.getElem?_cons_succ, Option.some.injEq, exists_eq_left', List.set_cons_zero, List.set_cons_succ]
    have hq' := hq m' (hkept.trans ⟨k2.base, k2.next, fun b hb => k2.get b (g5 b hb) id⟩)
    rw [← hx] at hq'
    exact hq'

theorem rput_ok {K : Nat → Prop} {f : FrameD} {p : List (List Int)} {n q : Int} {m : Mem} {v vp : AV} {Q : AV → Mem → Prop} (hv : ChansR K m v f.chans) (hK : ∀ b, K b → b < m.next) (hbn : m.base ≤ m.next) (hp : RowsR K m vp p) (hlen : p.length ≤ 1000)
    (h1 : PutP f n q p → ∀ m', Kept K m m' → Q (.tup [.str (bs (Iv.start.parts (frameP f n q p)).ends), .int .i64 0]) m')
    (h2 : ¬ PutP f n q p → ∀ m', Kept K m m' → Q (.tup [.str .empty, .int .i64 1]) m') : Ok (R fn_ref22_Put [.agg (frameC f v), .int .i64 n, .int .i64 q, vp]) m Q := by
  refine Ok.call (fun k => ref22_Put_eq rfl k _ _ _ _) ?_
  have hS0 := Same.alloc m (.cells T_api_Frame 0 (frameC f v))
  have hg := Mem.get_alloc m (.cells T_api_Frame 0 (frameC f v))
  have hnx : m.next < (m.alloc (.cells T_api_Frame 0 (frameC f v))).next := Nat.lt_succ_self _
  simp -implicitDefEqProofs only [ref22_Put, ok_box]
  generalize m.alloc (.cells T_api_Frame 0 (frameC f v)) = m1 at *
  have hk1 : ∀ b, K b → m1.get b = m.get b := fun b hb => hS0.get (hK b hb)
  have hv1 := hv.keep hk1
  have hK1 : ∀ b, K b → b < m1.next := fun b hb => Nat.lt_of_lt_of_le (hK b hb) hS0.next
  have hld : load? (some 5) (.ptr m.next 0) m1 = some (.agg (frameC f v)) := by rw [load_at' hg]; rfl
  simp -implicitDefEqProofs only [lp_some', mc_true, mc_false, ok_ret, ok_mc, ok_snap, aBin_add, aBin_sub, aBin_mul, aBin_lss, aBin_leq, aBin_gtr, aBin_geq, aBin_eql, aBin_neq, aBin_eqlStr, aBin_neqStr, strEq_bs, aBin_eqlNil, aBin_eqlNil', aBin_neqNil, aBin_neqNil', aUn_not, aUn_neg, aNil_ptr, aOff_ptr, aInt_int, aLenStr_str, aLenS_slice, aLenS_nil, aFold_min, aFold_max, bs_size, bs_empty, Nat.zero_add, Nat.add_zero, Nat.reduceAdd, ok_load, Mem.get_set, Mem.set_set, List.getElem?_cons_zero, List.getElem?_cons_succ, Option.some.injEq, exists_eq_left', List.set_cons_zero, List.set_cons_succ, hld]
  refine Ok.bnd (rfit_ok hv1 hK1 fun m2 b hb hS1 => ?_)
  have hS2 := hS0.trans hS1
  have hg2 := (hS1.get hnx).trans hg
  unfold frameC at hg2
  have hp2 := hp.keep (m' := m2) (fun b hb => hS2.get (hK b hb))
  have hbad : ¬ PutP f n q p → Ok (fun k => ref22_Put_j0 (fcall Tryz.prog ext1 k) k (.int .i64 n) (.int .i64 q) vp (.ptr m.next 0) (.bool true)) m2 Q := by
    intro h
    simp -implicitDefEqProofs only [ref22_Put_j0, lp_some', mc_true, mc_false, ok_ret, ok_mc, ok_snap, aBin_add, aBin_sub, aBin_mul, aBin_lss, aBin_leq, aBin_gtr, aBin_geq, aBin_eql, aBin_neq, aBin_eqlStr, aBin_neqStr, strEq_bs, aBin_eqlNil, aBin_eqlNil', aBin_neqNil, aBin_neqNil', aUn_not, aUn_neg, aNil_ptr, aOff_ptr, aInt_int, aLenStr_str, aLenS_slice, aLenS_nil, aFold_min, aFold_max, bs_size, bs_empty, Nat.zero_add, Nat.add_zero, Nat.reduceAdd, ok_load, Mem.get_set, Mem.set_set, List.getElem?_cons_zero, List.getElem?_cons_succ, Option.some.injEq, exists_eq_left', List.set_cons_zero, List.set_cons_succ, if_true]
    exact h2 h m2 (hS2.kept hK)
  cases b with
  | false =>
    have hnf : ¬ FitP f n q := fun h => by have := hb.2 h; cases this
    simp -implicitDefEqProofs only [lp_some', mc_true, mc_false, ok_ret, ok_mc, ok_snap, aBin_add, aBin_sub, aBin_mul, aBin_lss, aBin_leq, aBin_gtr, aBin_geq, aBin_eql, aBin_neq, aBin_eqlStr, aBin_neqStr, strEq_bs, aBin_eqlNil, aBin_eqlNil', aBin_neqNil, aBin_neqNil', aUn_not, aUn_neg, aNil_ptr, aOff_ptr, aInt_int, aLenStr_str, aLenS_slice, aLenS_nil, aFold_min, aFold_max, bs_size, bs_empty, Nat.zero_add, Nat.add_zero, Nat.reduceAdd, ok_load, Mem.get_set, Mem.set_set, List.getElem?_cons_zero, List.getElem?_cons_succ, Option.some.injEq, exists_eq_left', List.set_cons_zero, List.set_cons_succ, Bool.not_false, if_true]
    exact hbad (fun h => hnf h.1)
  | true =>
    have hF := hb.1 rfl
    simp -implicitDefEqProofs only [lp_some', mc_true, mc_false, ok_ret, ok_mc, ok_snap, aBin_add, aBin_sub, aBin_mul, aBin_lss, aBin_leq, aBin_gtr, aBin_geq, aBin_eql, aBin_neq, aBin_eqlStr, aBin_neqStr, strEq_bs, aBin_eqlNil, aBin_eqlNil', aBin_neqNil, aBin_neqNil', aUn_not, aUn_neg, aNil_ptr, aOff_ptr, aInt_int, aLenStr_str, aLenS_slice, aLenS_nil, aFold_min, aFold_max, bs_size, bs_empty, Nat.zero_add, Nat.add_zero, Nat.reduceAdd, ok_load, Mem.get_set, Mem.set_set, List.getElem?_cons_zero, List.getElem?_cons_succ, Option.some.injEq, exists_eq_left', List.set_cons_zero, List.set_cons_succ, Bool.not_true, Bool.false_eq_true, if_false, load_at hg2]
    have hgood : (f.intra = true ∨ AheadP p n) → Ok (fun k => ref22_Put_j0 (fcall Tryz.prog ext1 k) k (.int .i64 n) (.int .i64 q) vp (.ptr m.next 0) (.bool false)) m2 Q := by
      intro hA
      have hf : (aFill (fun i => [(0, 1), (1, 1), (2, 1)][i]?) [.nilslice, .int .i64 0, .int .i64 0] []).map AV.agg = some (.agg [.nilslice, .int .i64 0, .int .i64 0]) := rfl
      have hbn2 := hS2.bn hbn
      have href := refNew_ok hbn2
      simp -implicitDefEqProofs only [ref22_Put_j0, lp_some', mc_true, mc_false, ok_ret, ok_mc, ok_snap, aBin_add, aBin_sub, aBin_mul, aBin_lss, aBin_leq, aBin_gtr, aBin_geq, aBin_eql, aBin_neq, aBin_eqlStr, aBin_neqStr, strEq_bs, aBin_eqlNil, aBin_eqlNil', aBin_neqNil, aBin_neqNil', aUn_not, aUn_neg, aNil_ptr, aOff_ptr, aInt_int, aLenStr_str, aLenS_slice, aLenS_nil, aFold_min, aFold_max, bs_size, bs_empty, Nat.zero_add, Nat.add_zero, Nat.reduceAdd, ok_load, Mem.get_set, Mem.set_set, List.getElem?_cons_zero, List.getElem?_cons_succ, Option.some.injEq, exists_eq_left', List.set_cons_zero, List.set_cons_succ, Bool.false_eq_true, if_false, hf, ok_box]
      have hS3 := Same.alloc m2 (.cells T_ref04_Coder 0 [.nilslice, .int .i64 0, .int .i64 0])
      generalize m2.alloc (.cells T_ref04_Coder 0 [.nilslice, .int .i64 0, .int .i64 0]) = m3 at *
      have hnx2 : m.next < m2.next := Nat.lt_of_lt_of_le hnx hS1.next
      have hKK : ∀ b, (K b ∨ b = m.next) → b < m2.next := fun b hb => by
        rcases hb with hb | hb
        · exact Nat.lt_of_lt_of_le (hK b hb) hS2.next
        · rw [hb]; exact hnx2
      have hW : Rst (fun b => K b ∨ b = m.next) m2.next Iv.start m3 := by
        refine ⟨_, href, Iv.start_fits, hS3.bn hbn2, fun b hb => Nat.lt_of_lt_of_le (hKK b hb) hS3.next, fun b hb hb' => ?_⟩
        have := hKK b hb'
        rcases hb with hb | hb
        · omega
        · exact hb.elim
      have hg3 := (hS3.get hnx2).trans hg2
      have hKm : Kept K m m3 := (hS2.trans hS3).kept hK
      have hn0 : Iv.start.n = 0 := rfl
      have hj1 : ∀ m4, Rst (fun b => K b ∨ b = m.next) m2.next (Iv.start.parts (bitsP 1 (if f.short then 1 else 0) ++ (if n = 2 then bitsP 1 (if f.side then 1 else 0) else []))) m4 → Kept (fun b => K b ∨ b = m.next) m3 m4 → Ok (fun k => ref22_Put_j1 (fcall Tryz.prog ext1 k) k (.int .i64 n) (.int .i64 q) vp (.ptr m.next 0) (.ptr m2.next 0)) m4 Q := by
        intro m4 hW4 hk4
        have hg4 := (hk4.get _ (.inr rfl)).trans hg3
        have hlen5 := headP_le f n
        simp -implicitDefEqProofs only [headP, List.length_append] at hlen5
        have hpn4 := Iv.parts_n (bitsP 1 (if f.short then 1 else 0) ++ (if n = 2 then bitsP 1 (if f.side then 1 else 0) else [])) Iv.start
        simp -implicitDefEqProofs only [List.length_append] at hpn4
        have hga := hF.2.2.2.2.1
        have e1 : IntKind.i64.wrap (f.gain + 64) = f.gain + 64 := by rw [IntWalk.i64_in _ (by omega)]
        simp -implicitDefEqProofs only [ref22_Put_j1, lp_some', mc_true, mc_false, ok_ret, ok_mc, ok_snap, aBin_add, aBin_sub, aBin_mul, aBin_lss, aBin_leq, aBin_gtr, aBin_geq, aBin_eql, aBin_neq, aBin_eqlStr, aBin_neqStr, strEq_bs, aBin_eqlNil, aBin_eqlNil', aBin_neqNil, aBin_neqNil', aUn_not, aUn_neg, aNil_ptr, aOff_ptr, aInt_int, aLenStr_str, aLenS_slice, aLenS_nil, aFold_min, aFold_max, bs_size, bs_empty, Nat.zero_add, Nat.add_zero, Nat.reduceAdd, ok_load, Mem.get_set, Mem.set_set, List.getElem?_cons_zero, List.getElem?_cons_succ, Option.some.injEq, exists_eq_left', List.set_cons_zero, List.set_cons_succ, load_at hg4]
        refine Ok.bnd (bit_ok ?_)
        refine Ok.bnd (Rst.puts rbitf_ok hW4 (by omega) fun m5 hW5 hk5 => ?_)
        have hg5 := (hk5.get _ (.inr rfl)).trans hg4
        have hpn5 := Iv.parts_n (bitsP 1 (if f.intra then 1 else 0)) (Iv.start.parts (bitsP 1 (if f.short then 1 else 0) ++ (if n = 2 then bitsP 1 (if f.side then 1 else 0) else [])))
        simp -implicitDefEqProofs only [lp_some', mc_true, mc_false, ok_ret, ok_mc, ok_snap, aBin_add, aBin_sub, aBin_mul, aBin_lss, aBin_leq, aBin_gtr, aBin_geq, aBin_eql, aBin_neq, aBin_eqlStr, aBin_neqStr, strEq_bs, aBin_eqlNil, aBin_eqlNil', aBin_neqNil, aBin_neqNil', aUn_not, aUn_neg, aNil_ptr, aOff_ptr, aInt_int, aLenStr_str, aLenS_slice, aLenS_nil, aFold_min, aFold_max, bs_size, bs_empty, Nat.zero_add, Nat.add_zero, Nat.reduceAdd, ok_load, Mem.get_set, Mem.set_set, List.getElem?_cons_zero, List.getElem?_cons_succ, Option.some.injEq, exists_eq_left', List.set_cons_zero, List.set_cons_succ, load_at hg5, e1]
        refine Ok.bnd (Rst.puts rputBelow_ok hW5 (by omega) fun m6 hW6 hk6 => ?_)
        have hg6 := (hk6.get _ (.inr rfl)).trans hg5
        have hk36 := (hk4.trans hk5).trans hk6
        have hkm6 : ∀ b, K b → m6.get b = m.get b := fun b hb => (hk36.get b (.inl hb)).trans (hKm.get b hb)
        rw [← Iv.parts_append, ← Iv.parts_append, List.append_assoc] at hW6
        have hpn7 := Iv.parts_n (headP f n) Iv.start
        have hlen6 := headP_le f n
        refine rput_l0_ok (K := fun b => K b ∨ b = m.next) (p := p) ((hv.keep hkm6).mono fun b hb => .inl hb) (RowsR.mono (hp.keep hkm6) fun b hb => .inl hb) hA hF ?_ (.inr rfl) hg6 hW6 fun m8 hk8 => ?_
        · have hpe : (bitsP 1 (if f.short then 1 else 0) ++ ((if n = 2 then bitsP 1 (if f.side then 1 else 0) else []) ++ (bitsP 1 (if f.intra then 1 else 0) ++ (belowO (f.gain + 64) 97).getD []))) = headP f n := rfl
          rw [hpe]
          omega
        · rw [← Iv.parts_append]
          exact h1 ⟨hF, hA⟩ m8 (hKm.trans ((hk36.mono fun b hb => .inl hb).trans (hk8.mono fun b hb => .inl hb)))
      have hb1 := bitsP_length 1 (if f.short then 1 else 0)
      have hpn3 := Iv.parts_n (bitsP 1 (if f.short then 1 else 0)) Iv.start
      have hb2 := bitsP_length 1 (if f.side then 1 else 0)
      simp -implicitDefEqProofs only [load_at hg3, lp_some', mc_true, mc_false, ok_ret, ok_mc, ok_snap, aBin_add, aBin_sub, aBin_mul, aBin_lss, aBin_leq, aBin_gtr, aBin_geq, aBin_eql, aBin_neq, aBin_eqlStr, aBin_neqStr, strEq_bs, aBin_eqlNil, aBin_eqlNil', aBin_neqNil, aBin_neqNil', aUn_not, aUn_neg, aNil_ptr, aOff_ptr, aInt_int, aLenStr_str, aLenS_slice, aLenS_nil, aFold_min, aFold_max, bs_size, bs_empty, Nat.zero_add, Nat.add_zero, Nat.reduceAdd, ok_load, Mem.get_set, Mem.set_set, List.getElem?_cons_zero, List.getElem?_cons_succ, Option.some.injEq, exists_eq_left', List.set_cons_zero, List.set_cons_succ]
      refine Ok.bnd (bit_ok ?_)
      refine Ok.bnd (Rst.puts rbitf_ok hW (by omega) fun m4 hW4 hk4 => ?_)
      have hg4 := (hk4.get _ (.inr rfl)).trans hg3
      by_cases h5 : n = 2
      · rw [if_pos h5] at hj1
        simp -implicitDefEqProofs only [lp_some', mc_true, mc_false, ok_ret, ok_mc, ok_snap, aBin_add, aBin_sub, aBin_mul, aBin_lss, aBin_leq, aBin_gtr, aBin_geq, aBin_eql, aBin_neq, aBin_eqlStr, aBin_neqStr, strEq_bs, aBin_eqlNil, aBin_eqlNil', aBin_neqNil, aBin_neqNil', aUn_not, aUn_neg, aNil_ptr, aOff_ptr, aInt_int, aLenStr_str, aLenS_slice, aLenS_nil, aFold_min, aFold_max, bs_size, bs_empty, Nat.zero_add, Nat.add_zero, Nat.reduceAdd, ok_load, Mem.get_set, Mem.set_set, List.getElem?_cons_zero, List.getElem?_cons_succ, Option.some.injEq, exists_eq_left', List.set_cons_zero, List.set_cons_succ, h5, decide_true, if_true, load_at hg4]
        refine Ok.bnd (bit_ok ?_)
        refine Ok.bnd (Rst.puts rbitf_ok hW4 (by omega) fun m5 hW5 hk5 => ?_)
        rw [← Iv.parts_append] at hW5
        subst h5
        exact hj1 m5 hW5 (hk4.trans hk5)
      · rw [if_neg h5, List.append_nil] at hj1
        simp -implicitDefEqProofs only [lp_some', mc_true, mc_false, ok_ret, ok_mc, ok_snap, aBin_add, aBin_sub, aBin_mul, aBin_lss, aBin_leq, aBin_gtr, aBin_geq, aBin_eql, aBin_neq, aBin_eqlStr, aBin_neqStr, strEq_bs, aBin_eqlNil, aBin_eqlNil', aBin_neqNil, aBin_neqNil', aUn_not, aUn_neg, aNil_ptr, aOff_ptr, aInt_int, aLenStr_str, aLenS_slice, aLenS_nil, aFold_min, aFold_max, bs_size, bs_empty, Nat.zero_add, Nat.add_zero, Nat.reduceAdd, ok_load, Mem.get_set, Mem.set_set, List.getElem?_cons_zero, List.getElem?_cons_succ, Option.some.injEq, exists_eq_left', List.set_cons_zero, List.set_cons_succ, h5, decide_false, Bool.false_eq_true, if_false]
        exact hj1 m4 hW4 hk4
    by_cases h3 : f.intra = true
    · simp -implicitDefEqProofs only [h3, Bool.not_true, Bool.false_eq_true, if_false]
      exact hgood (.inl h3)
    · have h3' : f.intra = false := by simpa using h3
      simp -implicitDefEqProofs only [h3', Bool.not_false, if_true]
      refine Ok.bnd (rrows22_ok hp2 hlen (fun h4 => ?_) (fun h4 => ?_))
      · simp -implicitDefEqProofs only [lp_some', mc_true, mc_false, ok_ret, ok_mc, ok_snap, aBin_add, aBin_sub, aBin_mul, aBin_lss, aBin_leq, aBin_gtr, aBin_geq, aBin_eql, aBin_neq, aBin_eqlStr, aBin_neqStr, strEq_bs, aBin_eqlNil, aBin_eqlNil', aBin_neqNil, aBin_neqNil', aUn_not, aUn_neg, aNil_ptr, aOff_ptr, aInt_int, aLenStr_str, aLenS_slice, aLenS_nil, aFold_min, aFold_max, bs_size, bs_empty, Nat.zero_add, Nat.add_zero, Nat.reduceAdd, ok_load, Mem.get_set, Mem.set_set, List.getElem?_cons_zero, List.getElem?_cons_succ, Option.some.injEq, exists_eq_left', List.set_cons_zero, List.set_cons_succ, Bool.not_true]
        exact hgood (.inr h4)
      · simp -implicitDefEqProofs only [lp_some', mc_true, mc_false, ok_ret, ok_mc, ok_snap, aBin_add, aBin_sub, aBin_mul, aBin_lss, aBin_leq, aBin_gtr, aBin_geq, aBin_eql, aBin_neq, aBin_eqlStr, aBin_neqStr, strEq_bs, aBin_eqlNil, aBin_eqlNil', aBin_neqNil, aBin_neqNil', aUn_not, aUn_neg, aNil_ptr, aOff_ptr, aInt_int, aLenStr_str, aLenS_slice, aLenS_nil, aFold_min, aFold_max, bs_size, bs_empty, Nat.zero_add, Nat.add_zero, Nat.reduceAdd, ok_load, Mem.get_set, Mem.set_set, List.getElem?_cons_zero, List.getElem?_cons_succ, Option.some.injEq, exists_eq_left', List.set_cons_zero, List.set_cons_succ, Bool.not_false]
        exact hbad (fun h => by rcases h.2 with h | h; exact h3 h; exact h4 h)
end SplA
