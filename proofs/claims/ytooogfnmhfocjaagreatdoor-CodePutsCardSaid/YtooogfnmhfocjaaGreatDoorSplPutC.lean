/- Put: the octets of a frame. -/
import Derived.Test.YtooogfnmhfocjaaGreatDoorSplWr
import Derived.Test.YtooogfnmhfocjaaGreatDoorSplEnd
namespace SplA
open Go.Proofs.YtooogfnmhfocjaaGreatDoor.Spl Go Go.Proofs
set_option maxRecDepth 100000
set_option linter.unusedVariables false
set_option linter.unusedSimpArgs false

theorem ChansR.mono {K L : Nat → Prop} {m : Mem} {v : AV} {l : List (List BandD)} (h : ChansR K m v l) (hK : ∀ b, K b → L b) : ChansR L m v l :=
  SlR.mono h hK (fun _ _ ⟨v, h1, h2⟩ => ⟨v, h1, SlR.mono h2 hK (fun _ _ ⟨v, k1, k2, k3, k4⟩ => ⟨v, k1, k2, k3, k4.mono hK⟩)⟩)
theorem RowsR.mono {K L : Nat → Prop} {m : Mem} {v : AV} {l : List (List Int)} (h : RowsR K m v l) (hK : ∀ b, K b → L b) : RowsR L m v l :=
  SlR.mono h hK (fun _ _ ⟨v, h1, h2⟩ => ⟨v, h1, h2.mono hK⟩)

theorem put_l0_ok {K : Nat → Prop} {i i4 : Nat} {f : FrameD} {p : List (List Int)} {n q : Int} {x0 : Iv} {m0 : Mem} {v u vp : AV} {Q : AV → Mem → Prop} (hv : ChansR K m0 v f.chans) (hu : RowsR K m0 u (f.chans.map fun c => c.map BandD.c)) (hp : f.intra = true ∨ (RowsR K m0 vp p ∧ AheadP p n)) (hfit : FitP f n q) (hn : x0.n + 3 * (40 * 39 * 2) < 2 ^ 38) (hK4 : K i4) (hg4 : m0.get i4 = .cells T_api_Frame 0 (frameC f v))
    (hw : Wst K i [.int .i64 q] x0 m0) (hq : ∀ m', Kept K m0 m' → Q (.tup [.str (bs (x0.parts (chansP q f p 0 f.chans)).ends), .int .i64 0]) m') :
    Ok (fun n => loopN (fun r l => code_Put_l0 (fcall Tryz.prog ext1 n) n r (l.getD 0 .undef) (l.getD 1 .undef) (l.getD 2 .undef) (l.getD 3 .undef) (l.getD 4 .undef) (l.getD 5 .undef)) n [vp, .ptr i4 0, .ptr i 0, u, .int .i64 f.chans.length, .int .i64 0]) m0 Q := by
  have hlen2 : f.chans.length ≤ 2 := by have := hfit.1; have := hfit.2.1; omega
  refine Ok.loop (fun k l m => ∃ (j : Nat) (x : Iv), k + j = f.chans.length ∧ l = [vp, .ptr i4 0, .ptr i 0, u, .int .i64 f.chans.length, .int .i64 j] ∧ x.n ≤ x0.n + 3 * (40 * 39 * j) ∧ x.parts (chansP q f p j (f.chans.drop j)) = x0.parts (chansP q f p 0 f.chans) ∧ Wst K i [.int .i64 q] x m ∧ Kept K m0 m) ?_ (k := f.chans.length) ⟨0, x0, rfl, rfl, Nat.le_refl _, rfl, hw, Kept.refl _ _⟩
  clear hw
  rintro k l m rec ⟨j, x, hk, rfl, hxn, hx, hw, hkept⟩ ih
  have hv' := hv.keep (m' := m) hkept.get
  have hu' := hu.keep (m' := m) hkept.get
  have hg4' := (hkept.get i4 hK4).trans hg4
  unfold frameC at hg4'
  by_cases h1 : j < f.chans.length
  · have d1 : (j : Int) < (f.chans.length : Int) := by omega
    obtain ⟨c, hc, hdrop⟩ := drop_cons' h1
    have hcP := hfit.2.2.2.2.2 c (List.mem_of_getElem? hc)
    obtain ⟨b1, o1, ce1, hix1, -, -, ⟨vr, rfl, hR1⟩, -, hld1⟩ := hu'.at (k := j) (x := c.map BandD.c) (by rw [List.getElem?_map, hc]; rfl)
    have l1 : load? none (.ptr b1 o1) m = some vr := hld1 0 _ rfl
    obtain ⟨b2, o2, ce2, hix2, hKb2, -, ⟨vb, rfl, hb⟩, l2, -⟩ := hv'.at hc
    have hrow : (c.map BandD.c).length ≤ 4611686018427387904 := by rw [List.length_map, hcP.1]; decide
    have e4 : IntKind.i64.wrap ((j : Int) + 1) = ((j + 1 : Nat) : Int) := by rw [IntWalk.i64_in _ (by omega)]; omega
    rw [hdrop, chansP, Iv.parts_append] at hx
    generalize hds : deltasO f.intra (lastN f p j) (c.map BandD.c) = ds at hx
    have hdl : ds.length ≤ 13 := by
      rw [← hds]
      refine Nat.le_trans (deltasO_length _ _ _) ?_
      rw [List.length_map, hcP.1]
      exact Nat.le_refl _
    have hle := chanP_le (q := q) (d := ds) hcP.1 hdl
    have hpn := Iv.parts_n (chanP q c ds) x
    have hj2 : ∀ (L : Nat → Prop) (vl : AV), IntsR L m vl (lastN f p j) → (∀ b, L b → b < m.next) → (lastN f p j).length ≤ 1000 → Ok (fun n => code_Put_j2 (fcall Tryz.prog ext1 n) n (rec n) vp (.ptr i4 0) (.ptr i 0) (.int .i64 j) vr vl u (.int .i64 f.chans.length) (.int .i64 j)) m Q := by
      intro L vl hvl hL hll
      simp -implicitDefEqProofs only [code_Put_j2, lp_some', mc_true, mc_false, ok_ret, ok_mc, ok_snap, aBin_add, aBin_sub, aBin_mul, aBin_lss, aBin_leq, aBin_gtr, aBin_geq, aBin_eql, aBin_neq, aBin_eqlStr, aBin_neqStr, strEq_bs, aBin_eqlNil, aBin_eqlNil', aBin_neqNil, aBin_neqNil', aUn_not, aUn_neg, aNil_ptr, aOff_ptr, aInt_int, aLenStr_str, aLenS_slice, aLenS_nil, aFold_min, aFold_max, bs_size, bs_empty, Nat.zero_add, Nat.add_zero, Nat.reduceAdd, ok_load, Mem.get_set, Mem.set_set, List.getElem?_cons_zero, List.getElem?_cons_succ, Option.some.injEq, exists_eq_left', List.set_cons_zero, List.set_cons_succ, load_at hg4', hix2, l2]
      refine Ok.bnd (deltas_ok hR1 hw.lt hvl hL hw.bn (by omega) hrow fun m1 vd hS hvd => ?_)
      rw [hds] at hvd
      have hw1 := hw.same hS
      have hg1 : m1.get i4 = m.get i4 := hS.get (hw.lt i4 hK4)
      have s1 : ∀ k : M AV, same none (.ptr i4 4) v m1 k = k := fun k => same_load (by rw [load_keep hg1, load_at hg4']; rfl) hv.eqb k
      have s2 : ∀ k : M AV, same (some 1) (.ptr b2 o2) (.agg [vb]) m1 k = k := fun k => same_load (by rw [load_keep (hS.get (hw.lt b2 hKb2))]; exact l2) (by simp [AV.eqb, AV.eqbs, hb.eqb]) k
      simp -implicitDefEqProofs only [lp_some', mc_true, mc_false, ok_ret, ok_mc, ok_snap, aBin_add, aBin_sub, aBin_mul, aBin_lss, aBin_leq, aBin_gtr, aBin_geq, aBin_eql, aBin_neq, aBin_eqlStr, aBin_neqStr, strEq_bs, aBin_eqlNil, aBin_eqlNil', aBin_neqNil, aBin_neqNil', aUn_not, aUn_neg, aNil_ptr, aOff_ptr, aInt_int, aLenStr_str, aLenS_slice, aLenS_nil, aFold_min, aFold_max, bs_size, bs_empty, Nat.zero_add, Nat.add_zero, Nat.reduceAdd, ok_load, Mem.get_set, Mem.set_set, List.getElem?_cons_zero, List.getElem?_cons_succ, Option.some.injEq, exists_eq_left', List.set_cons_zero, List.set_cons_succ, s1, s2]
      have hkm : ∀ b, K b → m1.get b = m.get b := fun b hb => hS.get (hw.lt b hb)
      refine Ok.bnd (channel_ok (K := fun b => K b ∨ (m.next ≤ b ∧ b < m1.next)) (c := c) (d := ds) (SlR.mono (hb.keep hkm) (fun b hb => .inl hb) (fun _ _ ⟨v, k1, k2, k3, k4⟩ => ⟨v, k1, k2, k3, k4.mono fun b hb => .inl hb⟩)) hcP.1 (hvd.mono fun b hb => .inr hb) hdl (by omega) hw1 fun m2 k1 k2 => ?_)
      simp -implicitDefEqProofs only [lp_some', mc_true, mc_false, ok_ret, ok_mc, ok_snap, aBin_add, aBin_sub, aBin_mul, aBin_lss, aBin_leq, aBin_gtr, aBin_geq, aBin_eql, aBin_neq, aBin_eqlStr, aBin_neqStr, strEq_bs, aBin_eqlNil, aBin_eqlNil', aBin_neqNil, aBin_neqNil', aUn_not, aUn_neg, aNil_ptr, aOff_ptr, aInt_int, aLenStr_str, aLenS_slice, aLenS_nil, aFold_min, aFold_max, bs_size, bs_empty, Nat.zero_add, Nat.add_zero, Nat.reduceAdd, ok_load, Mem.get_set, Mem.set_set, List.getElem?_cons_zero, List.getElem?_cons_succ, Option.some.injEq, exists_eq_left', List.set_cons_zero, List.set_cons_succ, e4]
      exact ih (k - 1) _ _ (by omega) ⟨j + 1, _, by omega, rfl, by omega, hx, k1.mono fun b hb => .inl hb, hkept.trans ((hS.kept hw.lt).trans (k2.mono fun b hb => .inl hb))⟩
    simp -implicitDefEqProofs only [List.getD_cons_zero, List.getD_cons_succ, code_Put_l0, lp_some', mc_true, mc_false, ok_ret, ok_mc, ok_snap, aBin_add, aBin_sub, aBin_mul, aBin_lss, aBin_leq, aBin_gtr, aBin_geq, aBin_eql, aBin_neq, aBin_eqlStr, aBin_neqStr, strEq_bs, aBin_eqlNil, aBin_eqlNil', aBin_neqNil, aBin_neqNil', aUn_not, aUn_neg, aNil_ptr, aOff_ptr, aInt_int, aLenStr_str, aLenS_slice, aLenS_nil, aFold_min, aFold_max, bs_size, bs_empty, Nat.zero_add, Nat.add_zero, Nat.reduceAdd, ok_load, Mem.get_set, Mem.set_set, List.getElem?_cons_zero, List.getElem?_cons_succ, Option.some.injEq, exists_eq_left', List.set_cons_zero, List.set_cons_succ, d1, decide_true, if_true, hix1, l1, load_at hg4']
    by_cases h2 : f.intra = true
    · simp -implicitDefEqProofs only [h2, Bool.not_true, Bool.false_eq_true, if_false]
      have : lastN f p j = [] := if_pos h2
      exact hj2 (fun _ => False) .nilslice (by rw [this]; exact .inl ⟨.inl rfl, rfl⟩) (fun _ h => h.elim) (by rw [this]; exact Nat.zero_le _)
    · have h2' : f.intra = false := by simpa using h2
      simp -implicitDefEqProofs only [h2', Bool.not_false, if_true]
      rcases hp with hp | ⟨hp, hA⟩
      · exact absurd hp h2
      have hpl : p.length = f.chans.length := by have := hA.1; have := hfit.2.1; omega
      have hpj : p[j]? = some (lastN f p j) := by
        simp -implicitDefEqProofs only [lastN, h2', Bool.false_eq_true, if_false]
        rw [List.getD_eq_getElem?_getD, List.getElem?_eq_getElem (by omega)]; rfl
      obtain ⟨b3, o3, ce3, hix3, -, -, ⟨vl, rfl, hR3⟩, -, hld3⟩ := (hp.keep (m' := m) hkept.get).at hpj
      have l3 : load? none (.ptr b3 o3) m = some vl := hld3 0 _ rfl
      have hrl := (hA.2 _ (List.mem_of_getElem? hpj)).1
      simp -implicitDefEqProofs only [hix3, lp_some', mc_true, mc_false, ok_ret, ok_mc, ok_snap, aBin_add, aBin_sub, aBin_mul, aBin_lss, aBin_leq, aBin_gtr, aBin_geq, aBin_eql, aBin_neq, aBin_eqlStr, aBin_neqStr, strEq_bs, aBin_eqlNil, aBin_eqlNil', aBin_neqNil, aBin_neqNil', aUn_not, aUn_neg, aNil_ptr, aOff_ptr, aInt_int, aLenStr_str, aLenS_slice, aLenS_nil, aFold_min, aFold_max, bs_size, bs_empty, Nat.zero_add, Nat.add_zero, Nat.reduceAdd, ok_load, Mem.get_set, Mem.set_set, List.getElem?_cons_zero, List.getElem?_cons_succ, Option.some.injEq, exists_eq_left', List.set_cons_zero, List.set_cons_succ, l3]
      exact hj2 K vl hR3 hw.lt (by omega)
  · obtain rfl : j = f.chans.length := by omega
    have d1 : ¬ (f.chans.length : Int) < (f.chans.length : Int) := by omega
    rw [List.drop_length, chansP] at hx
    obtain ⟨c, a, buf, g1, g2, g3, g4, g5, g6⟩ := hw
    simp -implicitDefEqProofs only [List.getD_cons_zero, List.getD_cons_succ, code_Put_l0, lp_some', mc_true, mc_false, ok_ret, ok_mc, ok_snap, aBin_add, aBin_sub, aBin_mul, aBin_lss, aBin_leq, aBin_gtr, aBin_geq, aBin_eql, aBin_neq, aBin_eqlStr, aBin_neqStr, strEq_bs, aBin_eqlNil, aBin_eqlNil', aBin_neqNil, aBin_neqNil', aUn_not, aUn_neg, aNil_ptr, aOff_ptr, aInt_int, aLenStr_str, aLenS_slice, aLenS_nil, aFold_min, aFold_max, bs_size, bs_empty, Nat.zero_add, Nat.add_zero, Nat.reduceAdd, ok_load, Mem.get_set, Mem.set_set, List.getElem?_cons_zero, List.getElem?_cons_succ, Option.some.injEq, exists_eq_left', List.set_cons_zero, List.set_cons_succ, d1, decide_false, Bool.false_eq_true, if_false, aNil_ptr]
    refine Ok.bnd (end_ok g1 g2 (by omega) fun m' k1 k2 => ?_)
    simp -implicitDefEqProofs only [lp_some', mc_true, mc_false, ok_ret, ok_mc, ok_snap, aBin_add, aBin_sub, aBin_mul, aBin_lss, aBin_leq, aBin_gtr, aBin_geq, aBin_eql, aBin_neq, aBin_eqlStr, aBin_neqStr, strEq_bs, aBin_eqlNil, aBin_eqlNil', aBin_neqNil, aBin_neqNil', aUn_not, aUn_neg, aNil_ptr, aOff_ptr, aInt_int, aLenStr_str, aLenS_slice, aLenS_nil, aFold_min, aFold_max, bs_size, bs_empty, Nat.zero_add, Nat.add_zero, Nat.reduceAdd, ok_load, Mem.get_set, Mem.set_set, List.getElem?_cons_zero, List.getElem?_cons_succ, Option.some.injEq, exists_eq_left', List.set_cons_zero, List.set_cons_succ]
    have hq' := hq m' (hkept.trans ⟨k2.base, k2.next, fun b hb => k2.get b (g5 b hb) (fun h => g6 b (.inr h) hb)⟩)
    rw [← hx] at hq'
    exact hq'

theorem put_ok {K : Nat → Prop} {f : FrameD} {p : List (List Int)} {n q : Int} {m : Mem} {v vp : AV} {Q : AV → Mem → Prop} (hv : ChansR K m v f.chans) (hK : ∀ b, K b → b < m.next) (hbn : m.base ≤ m.next) (hp : RowsR K m vp p) (hlen : p.length ≤ 1000) (hlen2 : ∀ r ∈ p, r.length ≤ 1000)
    (h1 : PutP f n q p → ∀ m', Kept K m m' → Q (.tup [.str (bs (Iv.start.parts (frameP f n q p)).ends), .int .i64 0]) m')
    (h2 : ¬ PutP f n q p → ∀ m', Kept K m m' → Q (.tup [.str .empty, .int .i64 1]) m') : Ok (R fn_code_Put [.agg (frameC f v), .int .i64 n, .int .i64 q, vp]) m Q := by
  refine Ok.call (fun k => code_Put_eq rfl k _ _ _ _) ?_
  have hS0 := Same.alloc m (.cells T_api_Frame 0 (frameC f v))
  have hg := Mem.get_alloc m (.cells T_api_Frame 0 (frameC f v))
  have hnx : m.next < (m.alloc (.cells T_api_Frame 0 (frameC f v))).next := Nat.lt_succ_self _
  simp -implicitDefEqProofs only [code_Put, ok_box]
  generalize m.alloc (.cells T_api_Frame 0 (frameC f v)) = m1 at *
  have hk1 : ∀ b, K b → m1.get b = m.get b := fun b hb => hS0.get (hK b hb)
  have hv1 := hv.keep hk1
  have hp1 := hp.keep hk1
  have hK1 : ∀ b, K b → b < m1.next := fun b hb => Nat.lt_of_lt_of_le (hK b hb) hS0.next
  have hld : load? (some 5) (.ptr m.next 0) m1 = some (.agg (frameC f v)) := by rw [load_at' hg]; rfl
  have hmain : ∀ (va : AV), (AheadP p n → va = vp) → (¬ AheadP p n → va = .nilslice) → Ok (fun k => bnd (load (some 5) (.ptr m.next 0)) fun v17 => bnd (fcall Tryz.prog ext1 k fn_frame_Fit [v17, .int .i64 n, .int .i64 q]) fun v20 => lp (aUn .not v20) fun v21 => mc v21 (code_Put_j0 (fcall Tryz.prog ext1 k) k (.int .i64 n) (.int .i64 q) va (.ptr m.next 0) (.bool true)) (lp (aOff 2 (.ptr m.next 0)) fun v23 => bnd (load none v23) fun v24 => lp (aUn .not v24) fun v25 => mc v25 (lp (aBin .eql [4] va .nilslice) fun v28 => code_Put_j0 (fcall Tryz.prog ext1 k) k (.int .i64 n) (.int .i64 q) va (.ptr m.next 0) v28) (code_Put_j0 (fcall Tryz.prog ext1 k) k (.int .i64 n) (.int .i64 q) va (.ptr m.next 0) (.bool false)))) m1 Q := by
    intro va hva1 hva2
    simp -implicitDefEqProofs only [lp_some', mc_true, mc_false, ok_ret, ok_mc, ok_snap, aBin_add, aBin_sub, aBin_mul, aBin_lss, aBin_leq, aBin_gtr, aBin_geq, aBin_eql, aBin_neq, aBin_eqlStr, aBin_neqStr, strEq_bs, aBin_eqlNil, aBin_eqlNil', aBin_neqNil, aBin_neqNil', aUn_not, aUn_neg, aNil_ptr, aOff_ptr, aInt_int, aLenStr_str, aLenS_slice, aLenS_nil, aFold_min, aFold_max, bs_size, bs_empty, Nat.zero_add, Nat.add_zero, Nat.reduceAdd, ok_load, Mem.get_set, Mem.set_set, List.getElem?_cons_zero, List.getElem?_cons_succ, Option.some.injEq, exists_eq_left', List.set_cons_zero, List.set_cons_succ, hld]
    refine Ok.bnd (fit_ok hv1 hK1 (hS0.bn hbn) fun m2 b hb hS1 => ?_)
    have hS2 := hS0.trans hS1
    have hg2 := (hS1.get hnx).trans hg
    unfold frameC at hg2
    have hbad : ¬ PutP f n q p → Ok (fun k => code_Put_j0 (fcall Tryz.prog ext1 k) k (.int .i64 n) (.int .i64 q) va (.ptr m.next 0) (.bool true)) m2 Q := by
      intro h
      simp -implicitDefEqProofs only [code_Put_j0, lp_some', mc_true, mc_false, ok_ret, ok_mc, ok_snap, aBin_add, aBin_sub, aBin_mul, aBin_lss, aBin_leq, aBin_gtr, aBin_geq, aBin_eql, aBin_neq, aBin_eqlStr, aBin_neqStr, strEq_bs, aBin_eqlNil, aBin_eqlNil', aBin_neqNil, aBin_neqNil', aUn_not, aUn_neg, aNil_ptr, aOff_ptr, aInt_int, aLenStr_str, aLenS_slice, aLenS_nil, aFold_min, aFold_max, bs_size, bs_empty, Nat.zero_add, Nat.add_zero, Nat.reduceAdd, ok_load, Mem.get_set, Mem.set_set, List.getElem?_cons_zero, List.getElem?_cons_succ, Option.some.injEq, exists_eq_left', List.set_cons_zero, List.set_cons_succ, if_true]
      exact h2 h m2 (hS2.kept hK)
    cases b with
    | false =>
      have hnf : ¬ FitP f n q := fun h => by have := hb.2 h; cases this
      simp -implicitDefEqProofs only [lp_some', mc_true, mc_false, ok_ret, ok_mc, ok_snap, aBin_add, aBin_sub, aBin_mul, aBin_lss, aBin_leq, aBin_gtr, aBin_geq, aBin_eql, aBin_neq, aBin_eqlStr, aBin_neqStr, strEq_bs, aBin_eqlNil, aBin_eqlNil', aBin_neqNil, aBin_neqNil', aUn_not, aUn_neg, aNil_ptr, aOff_ptr, aInt_int, aLenStr_str, aLenS_slice, aLenS_nil, aFold_min, aFold_max, bs_size, bs_empty, Nat.zero_add, Nat.add_zero, Nat.reduceAdd, ok_load, Mem.get_set, Mem.set_set, List.getElem?_cons_zero, List.getElem?_cons_succ, Option.some.injEq, exists_eq_left', List.set_cons_zero, List.set_cons_succ, Bool.not_false, if_true]
      exact hbad (fun h => hnf h.1)
    | true =>
      have hF := hb.1 rfl
      simp -implicitDefEqProofs only [lp_some', mc_true, mc_false, ok_ret, ok_mc, ok_snap, aBin_add, aBin_sub, aBin_mul, aBin_lss, aBin_leq, aBin_gtr, aBin_geq, aBin_eql, aBin_neq, aBin_eqlStr, aBin_neqStr, strEq_bs, aBin_eqlNil, aBin_eqlNil', aBin_neqNil, aBin_neqNil', aUn_not, aUn_neg, aNil_ptr, aOff_ptr, aInt_int, aLenStr_str, aLenS_slice, aLenS_nil, aFold_min, aFold_max, bs_size, bs_empty, Nat.zero_add, Nat.add_zero, Nat.reduceAdd, ok_load, Mem.get_set, Mem.set_set, List.getElem?_cons_zero, List.getElem?_cons_succ, Option.some.injEq, exists_eq_left', List.set_cons_zero, List.set_cons_succ, Bool.not_true, Bool.false_eq_true, if_false, load_at hg2]
      have hgood : (f.intra = true ∨ AheadP p n) → Ok (fun k => code_Put_j0 (fcall Tryz.prog ext1 k) k (.int .i64 n) (.int .i64 q) va (.ptr m.next 0) (.bool false)) m2 Q := by
        intro hA
        have hf : (aFill (fun i => [(0, 7), (7, 1)][i]?) [.bool false, .int .u64 0, .nilptr, .nilslice, .int .u64 0, .int .i64 0, .int .i64 0, .int .i64 0] [(1, .int .i64 q)]).map AV.agg = some (.agg [.bool false, .int .u64 0, .nilptr, .nilslice, .int .u64 0, .int .i64 0, .int .i64 0, .int .i64 q]) := rfl
        have hbn2 := hS2.bn hbn
        have hcod := codNew_ok (rest := [.int .i64 q]) rfl hbn2
        simp -implicitDefEqProofs only [code_Put_j0, lp_some', mc_true, mc_false, ok_ret, ok_mc, ok_snap, aBin_add, aBin_sub, aBin_mul, aBin_lss, aBin_leq, aBin_gtr, aBin_geq, aBin_eql, aBin_neq, aBin_eqlStr, aBin_neqStr, strEq_bs, aBin_eqlNil, aBin_eqlNil', aBin_neqNil, aBin_neqNil', aUn_not, aUn_neg, aNil_ptr, aOff_ptr, aInt_int, aLenStr_str, aLenS_slice, aLenS_nil, aFold_min, aFold_max, bs_size, bs_empty, Nat.zero_add, Nat.add_zero, Nat.reduceAdd, ok_load, Mem.get_set, Mem.set_set, List.getElem?_cons_zero, List.getElem?_cons_succ, Option.some.injEq, exists_eq_left', List.set_cons_zero, List.set_cons_succ, Bool.false_eq_true, if_false, hf, ok_box]
        have hS3 := Same.alloc m2 (.cells T_code_writer 0 [.bool false, .int .u64 0, .nilptr, .nilslice, .int .u64 0, .int .i64 0, .int .i64 0, .int .i64 q])
        generalize m2.alloc (.cells T_code_writer 0 [.bool false, .int .u64 0, .nilptr, .nilslice, .int .u64 0, .int .i64 0, .int .i64 0, .int .i64 q]) = m3 at *
        have hnx2 : m.next < m2.next := Nat.lt_of_lt_of_le hnx hS1.next
        have hKK : ∀ b, (K b ∨ b = m.next) → b < m2.next := fun b hb => by
          rcases hb with hb | hb
          · exact Nat.lt_of_lt_of_le (hK b hb) hS2.next
          · rw [hb]; exact hnx2
        have hW : Wst (fun b => K b ∨ b = m.next) m2.next [.int .i64 q] Iv.start m3 := by
          refine ⟨_, _, _, hcod, start_is, Iv.start_fits, hS3.bn hbn2, fun b hb => Nat.lt_of_lt_of_le (hKK b hb) hS3.next, fun b hb hb' => ?_⟩
          have := hKK b hb'
          rcases hb with hb | hb
          · omega
          · exact hb.elim
        have hg3 := (hS3.get hnx2).trans hg2
        have hKm : Kept K m m3 := (hS2.trans hS3).kept hK
        have hn0 : Iv.start.n = 0 := rfl
        have hj1 : ∀ m4, Wst (fun b => K b ∨ b = m.next) m2.next [.int .i64 q] (Iv.start.parts (bitsP 1 (if f.short then 1 else 0) ++ (if n = 2 then bitsP 1 (if f.side then 1 else 0) else []))) m4 → Kept (fun b => K b ∨ b = m.next) m3 m4 → Ok (fun k => code_Put_j1 (fcall Tryz.prog ext1 k) k va (.ptr m.next 0) (.ptr m2.next 0)) m4 Q := by
          intro m4 hW4 hk4
          have hg4 := (hk4.get _ (.inr rfl)).trans hg3
          have hlen5 := headP_le f n
          simp -implicitDefEqProofs only [headP, List.length_append] at hlen5
          have hpn4 := Iv.parts_n (bitsP 1 (if f.short then 1 else 0) ++ (if n = 2 then bitsP 1 (if f.side then 1 else 0) else [])) Iv.start
          simp -implicitDefEqProofs only [List.length_append] at hpn4
          simp -implicitDefEqProofs only [code_Put_j1, lp_some', mc_true, mc_false, ok_ret, ok_mc, ok_snap, aBin_add, aBin_sub, aBin_mul, aBin_lss, aBin_leq, aBin_gtr, aBin_geq, aBin_eql, aBin_neq, aBin_eqlStr, aBin_neqStr, strEq_bs, aBin_eqlNil, aBin_eqlNil', aBin_neqNil, aBin_neqNil', aUn_not, aUn_neg, aNil_ptr, aOff_ptr, aInt_int, aLenStr_str, aLenS_slice, aLenS_nil, aFold_min, aFold_max, bs_size, bs_empty, Nat.zero_add, Nat.add_zero, Nat.reduceAdd, ok_load, Mem.get_set, Mem.set_set, List.getElem?_cons_zero, List.getElem?_cons_succ, Option.some.injEq, exists_eq_left', List.set_cons_zero, List.set_cons_succ, load_at hg4]
          refine Ok.bnd (Wst.puts flag_ok hW4 (by omega) fun m5 hW5 hk5 => ?_)
          have hg5 := (hk5.get _ (.inr rfl)).trans hg4
          have hpn5 := Iv.parts_n (bitsP 1 (if f.intra then 1 else 0)) (Iv.start.parts (bitsP 1 (if f.short then 1 else 0) ++ (if n = 2 then bitsP 1 (if f.side then 1 else 0) else [])))
          have hga := hF.2.2.2.2.1
          have e1 : IntKind.i64.wrap (f.gain - -64) = f.gain + 64 := by rw [IntWalk.i64_in _ (by omega)]; omega
          simp -implicitDefEqProofs only [aNil_ptr, lp_some', mc_true, mc_false, ok_ret, ok_mc, ok_snap, aBin_add, aBin_sub, aBin_mul, aBin_lss, aBin_leq, aBin_gtr, aBin_geq, aBin_eql, aBin_neq, aBin_eqlStr, aBin_neqStr, strEq_bs, aBin_eqlNil, aBin_eqlNil', aBin_neqNil, aBin_neqNil', aUn_not, aUn_neg, aNil_ptr, aOff_ptr, aInt_int, aLenStr_str, aLenS_slice, aLenS_nil, aFold_min, aFold_max, bs_size, bs_empty, Nat.zero_add, Nat.add_zero, Nat.reduceAdd, ok_load, Mem.get_set, Mem.set_set, List.getElem?_cons_zero, List.getElem?_cons_succ, Option.some.injEq, exists_eq_left', List.set_cons_zero, List.set_cons_succ, load_at hg5, e1]
          refine Ok.bnd (Wst.puts putBelow_ok hW5 (by omega) fun m6 hW6 hk6 => ?_)
          have hg6 := (hk6.get _ (.inr rfl)).trans hg5
          have hk36 := (hk4.trans hk5).trans hk6
          have hkm6 : ∀ b, K b → m6.get b = m.get b := fun b hb => (hk36.get b (.inl hb)).trans (hKm.get b hb)
          have hld6 : load? (some 5) (.ptr m.next 0) m6 = some (.agg (frameC f v)) := by rw [load_at' hg6]; rfl
          rw [← Iv.parts_append, ← Iv.parts_append, List.append_assoc] at hW6
          have hch13 : ∀ c ∈ f.chans, c.length ≤ 1000 := fun c hc => by have := (hF.2.2.2.2.2 c hc).1; omega
          have hl2 : f.chans.length ≤ 2 := by have := hF.1; have := hF.2.1; omega
          simp -implicitDefEqProofs only [lp_some', mc_true, mc_false, ok_ret, ok_mc, ok_snap, aBin_add, aBin_sub, aBin_mul, aBin_lss, aBin_leq, aBin_gtr, aBin_geq, aBin_eql, aBin_neq, aBin_eqlStr, aBin_neqStr, strEq_bs, aBin_eqlNil, aBin_eqlNil', aBin_neqNil, aBin_neqNil', aUn_not, aUn_neg, aNil_ptr, aOff_ptr, aInt_int, aLenStr_str, aLenS_slice, aLenS_nil, aFold_min, aFold_max, bs_size, bs_empty, Nat.zero_add, Nat.add_zero, Nat.reduceAdd, ok_load, Mem.get_set, Mem.set_set, List.getElem?_cons_zero, List.getElem?_cons_succ, Option.some.injEq, exists_eq_left', List.set_cons_zero, List.set_cons_succ, hld6]
          refine Ok.bnd (rows_ok (hv.keep (m' := m6) hkm6) (fun b hb => hW6.lt b (.inl hb)) hW6.bn (by omega) hch13 fun m7 u hS7 hu => ?_)
          have hW7 := hW6.same hS7
          have hlu := hu.len
          rw [List.length_map] at hlu
          simp -implicitDefEqProofs only [lp_some', mc_true, mc_false, ok_ret, ok_mc, ok_snap, aBin_add, aBin_sub, aBin_mul, aBin_lss, aBin_leq, aBin_gtr, aBin_geq, aBin_eql, aBin_neq, aBin_eqlStr, aBin_neqStr, strEq_bs, aBin_eqlNil, aBin_eqlNil', aBin_neqNil, aBin_neqNil', aUn_not, aUn_neg, aNil_ptr, aOff_ptr, aInt_int, aLenStr_str, aLenS_slice, aLenS_nil, aFold_min, aFold_max, bs_size, bs_empty, Nat.zero_add, Nat.add_zero, Nat.reduceAdd, ok_load, Mem.get_set, Mem.set_set, List.getElem?_cons_zero, List.getElem?_cons_succ, Option.some.injEq, exists_eq_left', List.set_cons_zero, List.set_cons_succ, hlu]
          have hpn7 := Iv.parts_n (headP f n) Iv.start
          have hlen6 := headP_le f n
          have hkm7 : ∀ b, K b → m7.get b = m.get b := fun b hb => (hS7.get (hW6.lt b (.inl hb))).trans (hkm6 b hb)
          refine put_l0_ok (K := fun b => (K b ∨ b = m.next) ∨ (m6.next ≤ b ∧ b < m7.next)) (p := p) (n := n) ((hv.keep hkm7).mono fun b hb => .inl (.inl hb)) (RowsR.mono hu fun b hb => .inr hb) ?_ hF ?_ (.inl (.inr rfl)) ((hS7.get (hW6.lt _ (.inr rfl))).trans hg6) hW7 fun m8 hk8 => ?_
          · rcases hA with hA | hA
            · exact .inl hA
            · rw [hva1 hA]
              exact .inr ⟨RowsR.mono (hp.keep hkm7) fun b hb => .inl (.inl hb), hA⟩
          · have hpe : (bitsP 1 (if f.short then 1 else 0) ++ ((if n = 2 then bitsP 1 (if f.side then 1 else 0) else []) ++ (bitsP 1 (if f.intra then 1 else 0) ++ (belowO (f.gain + 64) 97).getD []))) = headP f n := rfl
            rw [hpe]
            omega
          · rw [← Iv.parts_append]
            exact h1 ⟨hF, hA⟩ m8 (hKm.trans ((hk36.mono fun b hb => .inl hb).trans ((hS7.kept (fun b hb => hW6.lt b (.inl hb))).trans (hk8.mono fun b hb => .inl (.inl hb)))))
        have hb1 := bitsP_length 1 (if f.short then 1 else 0)
        have hpn3 := Iv.parts_n (bitsP 1 (if f.short then 1 else 0)) Iv.start
        have hb2 := bitsP_length 1 (if f.side then 1 else 0)
        simp -implicitDefEqProofs only [load_at hg3, lp_some', mc_true, mc_false, ok_ret, ok_mc, ok_snap, aBin_add, aBin_sub, aBin_mul, aBin_lss, aBin_leq, aBin_gtr, aBin_geq, aBin_eql, aBin_neq, aBin_eqlStr, aBin_neqStr, strEq_bs, aBin_eqlNil, aBin_eqlNil', aBin_neqNil, aBin_neqNil', aUn_not, aUn_neg, aNil_ptr, aOff_ptr, aInt_int, aLenStr_str, aLenS_slice, aLenS_nil, aFold_min, aFold_max, bs_size, bs_empty, Nat.zero_add, Nat.add_zero, Nat.reduceAdd, ok_load, Mem.get_set, Mem.set_set, List.getElem?_cons_zero, List.getElem?_cons_succ, Option.some.injEq, exists_eq_left', List.set_cons_zero, List.set_cons_succ]
        refine Ok.bnd (Wst.puts flag_ok hW (by omega) fun m4 hW4 hk4 => ?_)
        have hg4 := (hk4.get _ (.inr rfl)).trans hg3
        by_cases h5 : n = 2
        · rw [if_pos h5] at hj1
          simp -implicitDefEqProofs only [lp_some', mc_true, mc_false, ok_ret, ok_mc, ok_snap, aBin_add, aBin_sub, aBin_mul, aBin_lss, aBin_leq, aBin_gtr, aBin_geq, aBin_eql, aBin_neq, aBin_eqlStr, aBin_neqStr, strEq_bs, aBin_eqlNil, aBin_eqlNil', aBin_neqNil, aBin_neqNil', aUn_not, aUn_neg, aNil_ptr, aOff_ptr, aInt_int, aLenStr_str, aLenS_slice, aLenS_nil, aFold_min, aFold_max, bs_size, bs_empty, Nat.zero_add, Nat.add_zero, Nat.reduceAdd, ok_load, Mem.get_set, Mem.set_set, List.getElem?_cons_zero, List.getElem?_cons_succ, Option.some.injEq, exists_eq_left', List.set_cons_zero, List.set_cons_succ, h5, decide_true, if_true, load_at hg4]
          refine Ok.bnd (Wst.puts flag_ok hW4 (by omega) fun m5 hW5 hk5 => ?_)
          rw [← Iv.parts_append] at hW5
          exact hj1 m5 hW5 (hk4.trans hk5)
        · rw [if_neg h5, List.append_nil] at hj1
          simp -implicitDefEqProofs only [lp_some', mc_true, mc_false, ok_ret, ok_mc, ok_snap, aBin_add, aBin_sub, aBin_mul, aBin_lss, aBin_leq, aBin_gtr, aBin_geq, aBin_eql, aBin_neq, aBin_eqlStr, aBin_neqStr, strEq_bs, aBin_eqlNil, aBin_eqlNil', aBin_neqNil, aBin_neqNil', aUn_not, aUn_neg, aNil_ptr, aOff_ptr, aInt_int, aLenStr_str, aLenS_slice, aLenS_nil, aFold_min, aFold_max, bs_size, bs_empty, Nat.zero_add, Nat.add_zero, Nat.reduceAdd, ok_load, Mem.get_set, Mem.set_set, List.getElem?_cons_zero, List.getElem?_cons_succ, Option.some.injEq, exists_eq_left', List.set_cons_zero, List.set_cons_succ, h5, decide_false, Bool.false_eq_true, if_false]
          exact hj1 m4 hW4 hk4
      by_cases h3 : f.intra = true
      · simp -implicitDefEqProofs only [h3, Bool.not_true, Bool.false_eq_true, if_false]
        exact hgood (.inl h3)
      · have h3' : f.intra = false := by simpa using h3
        simp -implicitDefEqProofs only [h3', Bool.not_false, if_true]
        by_cases h4 : AheadP p n
        · have hva := hva1 h4
          subst hva
          have hne : aBin .eql [4] va .nilslice = some (.bool false) := by
            rcases hp with ⟨h | h, hnil⟩ | ⟨b, o, e, rfl, -⟩
            · have := h4.1; have := hF.1; rw [hnil] at *; simp at *; omega
            · have := h4.1; have := hF.1; rw [hnil] at *; simp at *; omega
            · rfl
          simp -implicitDefEqProofs only [hne, lp_some', mc_true, mc_false, ok_ret, ok_mc, ok_snap, aBin_add, aBin_sub, aBin_mul, aBin_lss, aBin_leq, aBin_gtr, aBin_geq, aBin_eql, aBin_neq, aBin_eqlStr, aBin_neqStr, strEq_bs, aBin_eqlNil, aBin_eqlNil', aBin_neqNil, aBin_neqNil', aUn_not, aUn_neg, aNil_ptr, aOff_ptr, aInt_int, aLenStr_str, aLenS_slice, aLenS_nil, aFold_min, aFold_max, bs_size, bs_empty, Nat.zero_add, Nat.add_zero, Nat.reduceAdd, ok_load, Mem.get_set, Mem.set_set, List.getElem?_cons_zero, List.getElem?_cons_succ, Option.some.injEq, exists_eq_left', List.set_cons_zero, List.set_cons_succ]
          exact hgood (.inr h4)
        · have hva := hva2 h4
          subst hva
          have hne : aBin .eql [4] .nilslice .nilslice = some (.bool true) := rfl
          simp -implicitDefEqProofs only [hne, lp_some', mc_true, mc_false, ok_ret, ok_mc, ok_snap, aBin_add, aBin_sub, aBin_mul, aBin_lss, aBin_leq, aBin_gtr, aBin_geq, aBin_eql, aBin_neq, aBin_eqlStr, aBin_neqStr, strEq_bs, aBin_eqlNil, aBin_eqlNil', aBin_neqNil, aBin_neqNil', aUn_not, aUn_neg, aNil_ptr, aOff_ptr, aInt_int, aLenStr_str, aLenS_slice, aLenS_nil, aFold_min, aFold_max, bs_size, bs_empty, Nat.zero_add, Nat.add_zero, Nat.reduceAdd, ok_load, Mem.get_set, Mem.set_set, List.getElem?_cons_zero, List.getElem?_cons_succ, Option.some.injEq, exists_eq_left', List.set_cons_zero, List.set_cons_succ]
          exact hbad (fun h => by rcases h.2 with h | h; exact h3 h; exact h4 h)
  refine Ok.bnd (ahead_ok hp1 hlen hlen2 (fun h => hmain vp (fun _ => rfl) (fun h' => absurd h h')) (fun h => hmain .nilslice (fun h' => absurd h' h) (fun _ => rfl)))
end SplA
