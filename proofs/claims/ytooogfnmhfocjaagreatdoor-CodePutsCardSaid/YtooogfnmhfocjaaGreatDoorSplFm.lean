/- Frames: what may be. -/
import Derived.Test.YtooogfnmhfocjaaGreatDoorSplEn
namespace SplA
open Go.Proofs.YtooogfnmhfocjaaGreatDoor.Spl Go Go.Proofs
set_option maxRecDepth 100000
set_option linter.unusedVariables false
set_option linter.unusedSimpArgs false

/-- A band, as it is read. -/
structure BandD where
  c : Int
  f : Int
  p : List Int
def RBand (K : Nat → Prop) (m : Mem) (ce : List AV) (b : BandD) : Prop := ∃ v, ce = [.int .i64 b.c, .int .i64 b.f, v] ∧ (Lit.int .i64 b.c).wf = true ∧ (Lit.int .i64 b.f).wf = true ∧ IntsR K m v b.p
theorem RBand.keep {K : Nat → Prop} {m m' : Mem} {ce : List AV} {b : BandD} (h : RBand K m ce b) (hK : ∀ b, K b → m'.get b = m.get b) : RBand K m' ce b := by
  obtain ⟨v, h1, h2, h3, h4⟩ := h
  exact ⟨v, h1, h2, h3, h4.keep hK⟩
abbrev BandsR (K : Nat → Prop) (m : Mem) (v : AV) (l : List BandD) : Prop := SlR K 3 (RBand K) m v l
theorem BandsR.keep {K : Nat → Prop} {m m' : Mem} {v : AV} {l : List BandD} (h : BandsR K m v l) (hK : ∀ b, K b → m'.get b = m.get b) : BandsR K m' v l := SlR.keep h hK (fun _ _ h => h.keep hK)
abbrev ChansR (K : Nat → Prop) (m : Mem) (v : AV) (l : List (List BandD)) : Prop := SlR K 1 (RSl (BandsR K)) m v l
theorem ChansR.keep {K : Nat → Prop} {m m' : Mem} {v : AV} {l : List (List BandD)} (h : ChansR K m v l) (hK : ∀ b, K b → m'.get b = m.get b) : ChansR K m' v l :=
  SlR.keep h hK (fun _ _ ⟨v, h1, h2⟩ => ⟨v, h1, h2.keep hK⟩)
/-- A frame, as it is read. -/
structure FrameD where
  short : Bool
  side : Bool
  intra : Bool
  gain : Int
  chans : List (List BandD)
def frameC (f : FrameD) (v : AV) : List AV := [.bool f.short, .bool f.side, .bool f.intra, .int .i64 f.gain, v]

/-- May a band be? -/
def FitsP (b : BandD) (q : Int) (n : Nat) : Prop := sizeN b.p = some (bandN q b.c (widthN n)) ∧ b.p.length = widthN n ∧ (b.c = 0 → b.f = 0) ∧ 0 ≤ b.c ∧ b.c ≤ 23 ∧ 0 ≤ b.f ∧ b.f ≤ 3
instance (b : BandD) (q : Int) (n : Nat) : Decidable (FitsP b q n) := by unfold FitsP; infer_instance
theorem widthN_le (n : Nat) : widthN n ≤ 8 := by
  unfold widthN
  repeat' split
  all_goals decide
theorem fits_ok {K : Nat → Prop} {b : BandD} {ce : List AV} {q : Int} {n : Nat} {m : Mem} {Q : AV → Mem → Prop} (hb : RBand K m ce b) (hK : ∀ b, K b → b < m.next) (hbn : m.base ≤ m.next) (hn : n < 13)
    (hq : ∀ m', Same m m' → Q (.bool (decide (FitsP b q n))) m') : Ok (R fn_frame_fits [.agg ce, .int .i64 q, .int .i64 n]) m Q := by
  obtain ⟨v, rfl, hc, hf, hp⟩ := hb
  refine Ok.call (fun k => frame_fits_eq rfl k _ _ _) ?_
  simp -implicitDefEqProofs only [frame_fits, ok_box]
  have hS1 := Same.alloc m (.cells T_api_Band 0 [.int .i64 b.c, .int .i64 b.f, v])
  have hg := Mem.get_alloc m (.cells T_api_Band 0 [.int .i64 b.c, .int .i64 b.f, v])
  have hnx : m.next < (m.alloc (.cells T_api_Band 0 [.int .i64 b.c, .int .i64 b.f, v])).next := Nat.lt_succ_self _
  generalize m.alloc (.cells T_api_Band 0 [.int .i64 b.c, .int .i64 b.f, v]) = m1 at *
  refine Ok.bnd (width_ok hn (hS1.bn hbn) fun m2 hS2 => ?_)
  have hg2 := (hS2.get hnx).trans hg
  have hnx2 := Nat.lt_of_lt_of_le hnx hS2.next
  have hw := widthN_le n
  simp -implicitDefEqProofs only [lp_some', mc_true, mc_false, ok_ret, ok_mc, ok_snap, aBin_add, aBin_sub, aBin_mul, aBin_lss, aBin_leq, aBin_gtr, aBin_geq, aBin_eql, aBin_neq, aBin_eqlStr, aBin_neqStr, strEq_bs, aBin_eqlNil, aBin_eqlNil', aBin_neqNil, aBin_neqNil', aUn_not, aUn_neg, aNil_ptr, aOff_ptr, aInt_int, aLenStr_str, aLenS_slice, aLenS_nil, aFold_min, aFold_max, bs_size, bs_empty, Nat.zero_add, Nat.add_zero, Nat.reduceAdd, ok_load, Mem.get_set, Mem.set_set, List.getElem?_cons_zero, List.getElem?_cons_succ, Option.some.injEq, exists_eq_left', List.set_cons_zero, List.set_cons_succ, load_at hg2]
  refine Ok.bnd (size_ok (hp.keep (fun b hb => (hS1.trans hS2).get (hK b hb))) (fun b hb => Nat.lt_of_lt_of_le (hK b hb) (hS1.trans hS2).next) fun m3 hS3 => ?_)
  have hg3 := (hS3.get hnx2).trans hg2
  have hS := (hS1.trans hS2).trans hS3
  have hno : ¬ FitsP b q n → Q (.bool false) m3 := fun h => by
    have := hq m3 hS
    rw [decide_eq_false h] at this
    exact this
  simp -implicitDefEqProofs only [lp_some', mc_true, mc_false, ok_ret, ok_mc, ok_snap, aBin_add, aBin_sub, aBin_mul, aBin_lss, aBin_leq, aBin_gtr, aBin_geq, aBin_eql, aBin_neq, aBin_eqlStr, aBin_neqStr, strEq_bs, aBin_eqlNil, aBin_eqlNil', aBin_neqNil, aBin_neqNil', aUn_not, aUn_neg, aNil_ptr, aOff_ptr, aInt_int, aLenStr_str, aLenS_slice, aLenS_nil, aFold_min, aFold_max, bs_size, bs_empty, Nat.zero_add, Nat.add_zero, Nat.reduceAdd, ok_load, Mem.get_set, Mem.set_set, List.getElem?_cons_zero, List.getElem?_cons_succ, Option.some.injEq, exists_eq_left', List.set_cons_zero, List.set_cons_succ, sizeV, aExt, load_at hg3]
  cases hs : sizeN b.p with
  | none =>
    simp -implicitDefEqProofs only [Option.isSome_none, Bool.not_false, lp_some', mc_true, mc_false, ok_ret, ok_mc, ok_snap, aBin_add, aBin_sub, aBin_mul, aBin_lss, aBin_leq, aBin_gtr, aBin_geq, aBin_eql, aBin_neq, aBin_eqlStr, aBin_neqStr, strEq_bs, aBin_eqlNil, aBin_eqlNil', aBin_neqNil, aBin_neqNil', aUn_not, aUn_neg, aNil_ptr, aOff_ptr, aInt_int, aLenStr_str, aLenS_slice, aLenS_nil, aFold_min, aFold_max, bs_size, bs_empty, Nat.zero_add, Nat.add_zero, Nat.reduceAdd, ok_load, Mem.get_set, Mem.set_set, List.getElem?_cons_zero, List.getElem?_cons_succ, Option.some.injEq, exists_eq_left', List.set_cons_zero, List.set_cons_succ, if_true, frame_fits_j0]
    exact hno (fun h => by rw [h.1] at hs; cases hs)
  | some k =>
    simp -implicitDefEqProofs only [Option.isSome_some, Bool.not_true, lp_some', mc_true, mc_false, ok_ret, ok_mc, ok_snap, aBin_add, aBin_sub, aBin_mul, aBin_lss, aBin_leq, aBin_gtr, aBin_geq, aBin_eql, aBin_neq, aBin_eqlStr, aBin_neqStr, strEq_bs, aBin_eqlNil, aBin_eqlNil', aBin_neqNil, aBin_neqNil', aUn_not, aUn_neg, aNil_ptr, aOff_ptr, aInt_int, aLenStr_str, aLenS_slice, aLenS_nil, aFold_min, aFold_max, bs_size, bs_empty, Nat.zero_add, Nat.add_zero, Nat.reduceAdd, ok_load, Mem.get_set, Mem.set_set, List.getElem?_cons_zero, List.getElem?_cons_succ, Option.some.injEq, exists_eq_left', List.set_cons_zero, List.set_cons_succ, Bool.false_eq_true, if_false, load_at hg3, hp.len, Option.getD_some]
    by_cases h1 : b.p.length = widthN n
    · have d1 : ¬ (b.p.length : Int) ≠ (widthN n : Int) := by omega
      simp -implicitDefEqProofs only [d1, decide_false, Bool.false_eq_true, if_false]
      refine Ok.bnd (band_ok ?_)
      simp -implicitDefEqProofs only [lp_some', mc_true, mc_false, ok_ret, ok_mc, ok_snap, aBin_add, aBin_sub, aBin_mul, aBin_lss, aBin_leq, aBin_gtr, aBin_geq, aBin_eql, aBin_neq, aBin_eqlStr, aBin_neqStr, strEq_bs, aBin_eqlNil, aBin_eqlNil', aBin_neqNil, aBin_neqNil', aUn_not, aUn_neg, aNil_ptr, aOff_ptr, aInt_int, aLenStr_str, aLenS_slice, aLenS_nil, aFold_min, aFold_max, bs_size, bs_empty, Nat.zero_add, Nat.add_zero, Nat.reduceAdd, ok_load, Mem.get_set, Mem.set_set, List.getElem?_cons_zero, List.getElem?_cons_succ, Option.some.injEq, exists_eq_left', List.set_cons_zero, List.set_cons_succ]
      by_cases h2 : k = bandN q b.c (widthN n)
      · have d2 : ¬ (k : Int) ≠ (bandN q b.c (widthN n) : Int) := by omega
        simp -implicitDefEqProofs only [d2, decide_false, frame_fits_j0, frame_fits_j1, lp_some', mc_true, mc_false, ok_ret, ok_mc, ok_snap, aBin_add, aBin_sub, aBin_mul, aBin_lss, aBin_leq, aBin_gtr, aBin_geq, aBin_eql, aBin_neq, aBin_eqlStr, aBin_neqStr, strEq_bs, aBin_eqlNil, aBin_eqlNil', aBin_neqNil, aBin_neqNil', aUn_not, aUn_neg, aNil_ptr, aOff_ptr, aInt_int, aLenStr_str, aLenS_slice, aLenS_nil, aFold_min, aFold_max, bs_size, bs_empty, Nat.zero_add, Nat.add_zero, Nat.reduceAdd, ok_load, Mem.get_set, Mem.set_set, List.getElem?_cons_zero, List.getElem?_cons_succ, Option.some.injEq, exists_eq_left', List.set_cons_zero, List.set_cons_succ, Bool.false_eq_true, if_false, load_at hg3]
        have hq' := hq m3 hS
        have e : ∀ x, x = decide (FitsP b q n) → Q (.bool x) m3 := fun x hx => hx ▸ hq'
        subst h2
        by_cases h3 : b.c = 0
        · simp -implicitDefEqProofs only [h3, decide_true, if_true]
          exact e _ (decide_eq_decide.2 ⟨fun h => ⟨hs, h1, fun _ => h, by omega, by omega, by omega, by omega⟩, fun h => h.2.2.1 h3⟩)
        · simp -implicitDefEqProofs only [h3, decide_false, Bool.false_eq_true, if_false]
          by_cases h4 : 0 < b.c
          · simp -implicitDefEqProofs only [h4, decide_true, if_true]
            by_cases h5 : b.c ≤ 23
            · simp -implicitDefEqProofs only [h5, decide_true, if_true]
              by_cases h6 : 0 ≤ b.f
              · simp -implicitDefEqProofs only [h6, decide_true, if_true]
                exact e _ (decide_eq_decide.2 ⟨fun h => ⟨hs, h1, fun h => absurd h h3, by omega, by omega, by omega, by omega⟩, fun h => h.2.2.2.2.2.2⟩)
              · simp -implicitDefEqProofs only [h6, decide_false, Bool.false_eq_true, if_false]
                exact e _ (decide_eq_false (fun h => h6 h.2.2.2.2.2.1)).symm
            · simp -implicitDefEqProofs only [h5, decide_false, Bool.false_eq_true, if_false]
              exact e _ (decide_eq_false (fun h => h5 h.2.2.2.2.1)).symm
          · simp -implicitDefEqProofs only [h4, decide_false, Bool.false_eq_true, if_false]
            exact e _ (decide_eq_false (fun h => by have := h.2.2.2.1; omega)).symm
      · have d2 : (k : Int) ≠ (bandN q b.c (widthN n) : Int) := by omega
        simp -implicitDefEqProofs only [d2, ne_eq, not_false_eq_true, decide_true, frame_fits_j0, lp_some', mc_true, mc_false, ok_ret, ok_mc, ok_snap, aBin_add, aBin_sub, aBin_mul, aBin_lss, aBin_leq, aBin_gtr, aBin_geq, aBin_eql, aBin_neq, aBin_eqlStr, aBin_neqStr, strEq_bs, aBin_eqlNil, aBin_eqlNil', aBin_neqNil, aBin_neqNil', aUn_not, aUn_neg, aNil_ptr, aOff_ptr, aInt_int, aLenStr_str, aLenS_slice, aLenS_nil, aFold_min, aFold_max, bs_size, bs_empty, Nat.zero_add, Nat.add_zero, Nat.reduceAdd, ok_load, Mem.get_set, Mem.set_set, List.getElem?_cons_zero, List.getElem?_cons_succ, Option.some.injEq, exists_eq_left', List.set_cons_zero, List.set_cons_succ, if_true]
        exact hno (fun h => h2 (by rw [h.1] at hs; cases hs; rfl))
    · have d1 : (b.p.length : Int) ≠ (widthN n : Int) := by omega
      simp -implicitDefEqProofs only [d1, ne_eq, not_false_eq_true, decide_true, if_true, frame_fits_j0, lp_some', mc_true, mc_false, ok_ret, ok_mc, ok_snap, aBin_add, aBin_sub, aBin_mul, aBin_lss, aBin_leq, aBin_gtr, aBin_geq, aBin_eql, aBin_neq, aBin_eqlStr, aBin_neqStr, strEq_bs, aBin_eqlNil, aBin_eqlNil', aBin_neqNil, aBin_neqNil', aUn_not, aUn_neg, aNil_ptr, aOff_ptr, aInt_int, aLenStr_str, aLenS_slice, aLenS_nil, aFold_min, aFold_max, bs_size, bs_empty, Nat.zero_add, Nat.add_zero, Nat.reduceAdd, ok_load, Mem.get_set, Mem.set_set, List.getElem?_cons_zero, List.getElem?_cons_succ, Option.some.injEq, exists_eq_left', List.set_cons_zero, List.set_cons_succ]
      exact hno (fun h => h1 h.2.1)

def ChanP (q : Int) (c : List BandD) : Prop := c.length = 13 ∧ ∀ k b, c[k]? = some b → FitsP b q k
theorem fit_inner {K : Nat → Prop} {c : List BandD} {v vb : AV} {q : Int} {len i : Nat} {m0 : Mem} {Q : AV → Mem → Prop} {rec : Nat → List AV → M AV} (hv : BandsR K m0 vb c) (hK : ∀ b, K b → b < m0.next) (hbn : m0.base ≤ m0.next) (h13 : c.length = 13) (hi : i < 4611686018427387904)
    (hno : ∀ m', Same m0 m' → ¬ ChanP q c → Q (.bool false) m')
    (hq : ∀ m', Same m0 m' → ChanP q c → Ok (fun n => rec n [.int .i64 q, v, .int .i64 len, .int .i64 (i + 1 : Nat)]) m' Q) :
    Ok (fun n => loopN (fun r l => frame_Fit_l1 (fcall Tryz.prog ext1 n) n (rec n) r (l.getD 0 .undef) (l.getD 1 .undef) (l.getD 2 .undef) (l.getD 3 .undef) (l.getD 4 .undef) (l.getD 5 .undef) (l.getD 6 .undef)) n [.int .i64 q, v, .int .i64 len, .int .i64 i, vb, .int .i64 (13 : Nat), .int .i64 0]) m0 Q := by
  refine Ok.loop (fun k l m => ∃ j : Nat, k + j = 13 ∧ l = [.int .i64 q, v, .int .i64 len, .int .i64 i, vb, .int .i64 (13 : Nat), .int .i64 j] ∧ (∀ k b, k < j → c[k]? = some b → FitsP b q k) ∧ Same m0 m) ?_ (k := 13) ⟨0, rfl, rfl, fun _ _ h => by omega, Same.refl _⟩
  rintro k l m rec' ⟨j, hk, rfl, hall, hS⟩ ih
  have hv' := hv.keep (m' := m) (fun b hb => hS.get (hK b hb))
  by_cases h1 : j < 13
  · have d1 : (j : Int) < ((13 : Nat) : Int) := by omega
    obtain ⟨b, hb⟩ : ∃ b, c[j]? = some b := ⟨c[j], List.getElem?_eq_getElem (by omega)⟩
    obtain ⟨b', o, ce, hix, hKb, hl3, hR, hl, hld⟩ := hv'.at hb
    obtain ⟨vp, rfl, hw1, hw2, hp⟩ := hR
    have hbm := hS.bn hbn
    have hst := fun (k : Nat → AV → M AV) => ok_storeAll (i := m.next) (k := k) (Q := Q) (vs := [.int .i64 b.c, .int .i64 b.f, vp]) (n := 3) (Mem.get_alloc m (.cells T_api_Band 0 [.int .i64 0, .int .i64 0, .nilslice])) hbm rfl rfl (by simp [hp.one])
    have hg := Mem.get_alloc m (.cells T_api_Band 0 [.int .i64 b.c, .int .i64 b.f, vp])
    have hS1 := Same.alloc m (.cells T_api_Band 0 [.int .i64 b.c, .int .i64 b.f, vp])
    simp -implicitDefEqProofs only [List.getD_cons_zero, List.getD_cons_succ, frame_Fit_l1, lp_some', mc_true, mc_false, ok_ret, ok_mc, ok_snap, aBin_add, aBin_sub, aBin_mul, aBin_lss, aBin_leq, aBin_gtr, aBin_geq, aBin_eql, aBin_neq, aBin_eqlStr, aBin_neqStr, strEq_bs, aBin_eqlNil, aBin_eqlNil', aBin_neqNil, aBin_neqNil', aUn_not, aUn_neg, aNil_ptr, aOff_ptr, aInt_int, aLenStr_str, aLenS_slice, aLenS_nil, aFold_min, aFold_max, bs_size, bs_empty, Nat.zero_add, Nat.add_zero, Nat.reduceAdd, ok_load, Mem.get_set, Mem.set_set, List.getElem?_cons_zero, List.getElem?_cons_succ, Option.some.injEq, exists_eq_left', List.set_cons_zero, List.set_cons_succ, d1, decide_true, if_true, hix, hl, ok_alloc, hst, Mem.alloc_set, load_at' hg, List.length_cons, List.length_nil, Nat.reduceLeDiff, List.drop_zero, List.take_succ_cons, List.take_zero]
    generalize m.alloc (.cells T_api_Band 0 [.int .i64 b.c, .int .i64 b.f, vp]) = m1 at *
    refine Ok.bnd (fits_ok (b := b) ⟨vp, rfl, hw1, hw2, hp.keep (fun b hb => hS1.get (Nat.lt_of_lt_of_le (hK b hb) hS.next))⟩ (fun b hb => Nat.lt_of_lt_of_le (hK b hb) (hS.trans hS1).next) (hS1.bn hbm) h1 fun m2 hS2 => ?_)
    by_cases h2 : FitsP b q j
    · have e4 : IntKind.i64.wrap ((j : Int) + 1) = ((j + 1 : Nat) : Int) := by rw [IntWalk.i64_in _ (by omega)]; omega
      simp -implicitDefEqProofs only [h2, decide_true, lp_some', mc_true, mc_false, ok_ret, ok_mc, ok_snap, aBin_add, aBin_sub, aBin_mul, aBin_lss, aBin_leq, aBin_gtr, aBin_geq, aBin_eql, aBin_neq, aBin_eqlStr, aBin_neqStr, strEq_bs, aBin_eqlNil, aBin_eqlNil', aBin_neqNil, aBin_neqNil', aUn_not, aUn_neg, aNil_ptr, aOff_ptr, aInt_int, aLenStr_str, aLenS_slice, aLenS_nil, aFold_min, aFold_max, bs_size, bs_empty, Nat.zero_add, Nat.add_zero, Nat.reduceAdd, ok_load, Mem.get_set, Mem.set_set, List.getElem?_cons_zero, List.getElem?_cons_succ, Option.some.injEq, exists_eq_left', List.set_cons_zero, List.set_cons_succ, Bool.not_true, Bool.false_eq_true, if_false, e4]
      refine ih (k - 1) _ _ (by omega) ⟨j + 1, by omega, rfl, fun k b' hk hb' => ?_, (hS.trans hS1).trans hS2⟩
      rcases Nat.lt_or_ge k j with h | h
      · exact hall k b' h hb'
      · obtain rfl : k = j := by omega
        rw [hb] at hb'; cases hb'
        exact h2
    · simp -implicitDefEqProofs only [h2, decide_false, lp_some', mc_true, mc_false, ok_ret, ok_mc, ok_snap, aBin_add, aBin_sub, aBin_mul, aBin_lss, aBin_leq, aBin_gtr, aBin_geq, aBin_eql, aBin_neq, aBin_eqlStr, aBin_neqStr, strEq_bs, aBin_eqlNil, aBin_eqlNil', aBin_neqNil, aBin_neqNil', aUn_not, aUn_neg, aNil_ptr, aOff_ptr, aInt_int, aLenStr_str, aLenS_slice, aLenS_nil, aFold_min, aFold_max, bs_size, bs_empty, Nat.zero_add, Nat.add_zero, Nat.reduceAdd, ok_load, Mem.get_set, Mem.set_set, List.getElem?_cons_zero, List.getElem?_cons_succ, Option.some.injEq, exists_eq_left', List.set_cons_zero, List.set_cons_succ, Bool.not_false, if_true]
      exact hno m2 ((hS.trans hS1).trans hS2) (fun h => h2 (h.2 j b hb))
  · obtain rfl : j = 13 := by omega
    have d1 : ¬ ((13 : Nat) : Int) < ((13 : Nat) : Int) := by decide
    have e4 : IntKind.i64.wrap ((i : Int) + 1) = ((i + 1 : Nat) : Int) := by rw [IntWalk.i64_in _ (by omega)]; omega
    simp -implicitDefEqProofs only [List.getD_cons_zero, List.getD_cons_succ, frame_Fit_l1, lp_some', mc_true, mc_false, ok_ret, ok_mc, ok_snap, aBin_add, aBin_sub, aBin_mul, aBin_lss, aBin_leq, aBin_gtr, aBin_geq, aBin_eql, aBin_neq, aBin_eqlStr, aBin_neqStr, strEq_bs, aBin_eqlNil, aBin_eqlNil', aBin_neqNil, aBin_neqNil', aUn_not, aUn_neg, aNil_ptr, aOff_ptr, aInt_int, aLenStr_str, aLenS_slice, aLenS_nil, aFold_min, aFold_max, bs_size, bs_empty, Nat.zero_add, Nat.add_zero, Nat.reduceAdd, ok_load, Mem.get_set, Mem.set_set, List.getElem?_cons_zero, List.getElem?_cons_succ, Option.some.injEq, exists_eq_left', List.set_cons_zero, List.set_cons_succ, d1, decide_false, Bool.false_eq_true, if_false, e4]
    exact hq m hS ⟨h13, fun k b hb => hall k b (by have := (List.getElem?_eq_some_iff.1 hb).1; omega) hb⟩
/-- May a frame be? -/
def FitP (f : FrameD) (n q : Int) : Prop := (1 ≤ n ∧ n ≤ 2) ∧ (f.chans.length : Int) = n ∧ ¬ (f.side = true ∧ n = 1) ∧ (0 ≤ q ∧ q ≤ 10) ∧ (-64 ≤ f.gain ∧ f.gain ≤ 32) ∧ ∀ c ∈ f.chans, ChanP q c
theorem fit_ok {K : Nat → Prop} {f : FrameD} {v : AV} {n q : Int} {m : Mem} {Q : AV → Mem → Prop} (hv : ChansR K m v f.chans) (hK : ∀ b, K b → b < m.next) (hbn : m.base ≤ m.next)
    (hq : ∀ m' (x : Bool), (x = true ↔ FitP f n q) → Same m m' → Q (.bool x) m') : Ok (R fn_frame_Fit [.agg (frameC f v), .int .i64 n, .int .i64 q]) m Q := by
  refine Ok.call (fun k => frame_Fit_eq rfl k _ _ _) ?_
  simp -implicitDefEqProofs only [frame_Fit, ok_box]
  have hS1 := Same.alloc m (.cells T_api_Frame 0 (frameC f v))
  have hg := Mem.get_alloc m (.cells T_api_Frame 0 (frameC f v))
  generalize m.alloc (.cells T_api_Frame 0 (frameC f v)) = m1 at *
  have hv1 := hv.keep (m' := m1) (fun b hb => hS1.get (hK b hb))
  have hno : ∀ m', Same m1 m' → ¬ FitP f n q → Q (.bool false) m' := fun m' hS h => hq m' false ⟨fun h => absurd h (by decide), fun h' => absurd h' h⟩ (hS1.trans hS)
  have hno1 := hno m1 (Same.refl _)
  unfold frameC at hg
  have hloop : (1 ≤ n ∧ n ≤ 2) → (f.chans.length : Int) = n → ¬ (f.side = true ∧ n = 1) → (0 ≤ q ∧ q ≤ 10) → (-64 ≤ f.gain ∧ f.gain ≤ 32) → Ok (fun k => frame_Fit_j1 (fcall Tryz.prog ext1 k) k (.int .i64 q) (.ptr m.next 0) (.bool false)) m1 Q := by
    intro k1 k2 k3 k4 k5
    simp -implicitDefEqProofs only [frame_Fit_j1, lp_some', mc_true, mc_false, ok_ret, ok_mc, ok_snap, aBin_add, aBin_sub, aBin_mul, aBin_lss, aBin_leq, aBin_gtr, aBin_geq, aBin_eql, aBin_neq, aBin_eqlStr, aBin_neqStr, strEq_bs, aBin_eqlNil, aBin_eqlNil', aBin_neqNil, aBin_neqNil', aUn_not, aUn_neg, aNil_ptr, aOff_ptr, aInt_int, aLenStr_str, aLenS_slice, aLenS_nil, aFold_min, aFold_max, bs_size, bs_empty, Nat.zero_add, Nat.add_zero, Nat.reduceAdd, ok_load, Mem.get_set, Mem.set_set, List.getElem?_cons_zero, List.getElem?_cons_succ, Option.some.injEq, exists_eq_left', List.set_cons_zero, List.set_cons_succ, Bool.false_eq_true, if_false, load_at hg, hv1.len]
    refine Ok.loop (fun k l m' => ∃ i : Nat, k + i = f.chans.length ∧ l = [.int .i64 q, v, .int .i64 f.chans.length, .int .i64 i] ∧ (∀ c ∈ f.chans.take i, ChanP q c) ∧ Same m1 m') ?_ (k := f.chans.length) ⟨0, rfl, rfl, fun _ h => by simp at h, Same.refl _⟩
    rintro k l m' rec ⟨i, hk, rfl, hall, hS⟩ ih
    have hv' := hv1.keep (m' := m') (fun b hb => hS.get (Nat.lt_of_lt_of_le (hK b hb) hS1.next))
    by_cases h1 : i < f.chans.length
    · have d1 : (i : Int) < (f.chans.length : Int) := by omega
      obtain ⟨c, hc⟩ : ∃ c, f.chans[i]? = some c := ⟨f.chans[i], List.getElem?_eq_getElem h1⟩
      obtain ⟨b', o, ce, hix, hKb, hl3, hR, hl, hld⟩ := hv'.at hc
      obtain ⟨vb, rfl, hb⟩ := hR
      have hbm := hS.bn (hS1.bn hbn)
      have hst := fun (k : Nat → AV → M AV) => ok_storeAll (i := m'.next) (k := k) (Q := Q) (vs := [vb]) (n := 1) (Mem.get_alloc m' (.cells T_api_Chan 0 [.nilslice])) hbm rfl rfl (by simp [hb.one])
      have hg2 := Mem.get_alloc m' (.cells T_api_Chan 0 [vb])
      have hS2 := Same.alloc m' (.cells T_api_Chan 0 [vb])
      simp -implicitDefEqProofs only [List.getD_cons_zero, List.getD_cons_succ, frame_Fit_l0, lp_some', mc_true, mc_false, ok_ret, ok_mc, ok_snap, aBin_add, aBin_sub, aBin_mul, aBin_lss, aBin_leq, aBin_gtr, aBin_geq, aBin_eql, aBin_neq, aBin_eqlStr, aBin_neqStr, strEq_bs, aBin_eqlNil, aBin_eqlNil', aBin_neqNil, aBin_neqNil', aUn_not, aUn_neg, aNil_ptr, aOff_ptr, aInt_int, aLenStr_str, aLenS_slice, aLenS_nil, aFold_min, aFold_max, bs_size, bs_empty, Nat.zero_add, Nat.add_zero, Nat.reduceAdd, ok_load, Mem.get_set, Mem.set_set, List.getElem?_cons_zero, List.getElem?_cons_succ, Option.some.injEq, exists_eq_left', List.set_cons_zero, List.set_cons_succ, d1, decide_true, if_true, hix, hl, ok_alloc, hst, Mem.alloc_set, load_at hg2, hb.len]
      generalize m'.alloc (.cells T_api_Chan 0 [vb]) = m2 at *
      have hmem := List.mem_of_getElem? hc
      by_cases h2 : c.length = 13
      · have d2 : ¬ (c.length : Int) ≠ 13 := by omega
        have hz : (c.length : Int) = ((13 : Nat) : Int) := by omega
        simp -implicitDefEqProofs only [d2, decide_false, Bool.false_eq_true, if_false, hz]
        refine fit_inner (hb.keep (fun b hb => hS2.get (Nat.lt_of_lt_of_le (hK b hb) (hS1.trans hS).next))) (fun b hb => Nat.lt_of_lt_of_le (hK b hb) ((hS1.trans hS).trans hS2).next) (hS2.bn hbm) h2 (by omega) (fun m3 hS3 hn => hno m3 ((hS.trans hS2).trans hS3) (fun h => hn (h.2.2.2.2.2 c hmem))) fun m3 hS3 hp => ?_
        refine ih (k - 1) _ _ (by omega) ⟨i + 1, by omega, rfl, fun d hd => ?_, (hS.trans hS2).trans hS3⟩
        rw [List.take_add_one, List.mem_append] at hd
        rcases hd with hd | hd
        · exact hall d hd
        · rw [hc] at hd
          simp at hd
          rw [hd]; exact hp
      · have d2 : (c.length : Int) ≠ 13 := by omega
        simp -implicitDefEqProofs only [d2, ne_eq, not_false_eq_true, decide_true, if_true]
        exact hno m2 (hS.trans hS2) (fun h => h2 (h.2.2.2.2.2 c hmem).1)
    · obtain rfl : i = f.chans.length := by omega
      have d1 : ¬ (f.chans.length : Int) < (f.chans.length : Int) := by omega
      simp -implicitDefEqProofs only [List.getD_cons_zero, List.getD_cons_succ, frame_Fit_l0, lp_some', mc_true, mc_false, ok_ret, ok_mc, ok_snap, aBin_add, aBin_sub, aBin_mul, aBin_lss, aBin_leq, aBin_gtr, aBin_geq, aBin_eql, aBin_neq, aBin_eqlStr, aBin_neqStr, strEq_bs, aBin_eqlNil, aBin_eqlNil', aBin_neqNil, aBin_neqNil', aUn_not, aUn_neg, aNil_ptr, aOff_ptr, aInt_int, aLenStr_str, aLenS_slice, aLenS_nil, aFold_min, aFold_max, bs_size, bs_empty, Nat.zero_add, Nat.add_zero, Nat.reduceAdd, ok_load, Mem.get_set, Mem.set_set, List.getElem?_cons_zero, List.getElem?_cons_succ, Option.some.injEq, exists_eq_left', List.set_cons_zero, List.set_cons_succ, d1, decide_false, Bool.false_eq_true, if_false]
      rw [List.take_length] at hall
      exact hq m' true ⟨fun _ => ⟨k1, k2, k3, k4, k5, hall⟩, fun _ => rfl⟩ (hS1.trans hS)
  have hj0 : (1 ≤ n ∧ n ≤ 2) → (f.chans.length : Int) = n → ¬ (f.side = true ∧ n = 1) → Ok (fun k => frame_Fit_j0 (fcall Tryz.prog ext1 k) k (.int .i64 q) (.ptr m.next 0) (.bool false)) m1 Q := by
    intro k1 k2 k3
    have hj1 : ¬ ((0 ≤ q ∧ q ≤ 10) ∧ (-64 ≤ f.gain ∧ f.gain ≤ 32)) → Ok (fun k => frame_Fit_j1 (fcall Tryz.prog ext1 k) k (.int .i64 q) (.ptr m.next 0) (.bool true)) m1 Q := by
      intro h
      simp -implicitDefEqProofs only [frame_Fit_j1, lp_some', mc_true, mc_false, ok_ret, ok_mc, ok_snap, aBin_add, aBin_sub, aBin_mul, aBin_lss, aBin_leq, aBin_gtr, aBin_geq, aBin_eql, aBin_neq, aBin_eqlStr, aBin_neqStr, strEq_bs, aBin_eqlNil, aBin_eqlNil', aBin_neqNil, aBin_neqNil', aUn_not, aUn_neg, aNil_ptr, aOff_ptr, aInt_int, aLenStr_str, aLenS_slice, aLenS_nil, aFold_min, aFold_max, bs_size, bs_empty, Nat.zero_add, Nat.add_zero, Nat.reduceAdd, ok_load, Mem.get_set, Mem.set_set, List.getElem?_cons_zero, List.getElem?_cons_succ, Option.some.injEq, exists_eq_left', List.set_cons_zero, List.set_cons_succ, if_true]
      exact hno1 (fun h' => h ⟨h'.2.2.2.1, h'.2.2.2.2.1⟩)
    simp -implicitDefEqProofs only [frame_Fit_j0, lp_some', mc_true, mc_false, ok_ret, ok_mc, ok_snap, aBin_add, aBin_sub, aBin_mul, aBin_lss, aBin_leq, aBin_gtr, aBin_geq, aBin_eql, aBin_neq, aBin_eqlStr, aBin_neqStr, strEq_bs, aBin_eqlNil, aBin_eqlNil', aBin_neqNil, aBin_neqNil', aUn_not, aUn_neg, aNil_ptr, aOff_ptr, aInt_int, aLenStr_str, aLenS_slice, aLenS_nil, aFold_min, aFold_max, bs_size, bs_empty, Nat.zero_add, Nat.add_zero, Nat.reduceAdd, ok_load, Mem.get_set, Mem.set_set, List.getElem?_cons_zero, List.getElem?_cons_succ, Option.some.injEq, exists_eq_left', List.set_cons_zero, List.set_cons_succ, Bool.false_eq_true, if_false, load_at hg]
    by_cases h1 : q < 0
    · simp -implicitDefEqProofs only [h1, decide_true, if_true]; exact hj1 (by omega)
    · by_cases h2 : 10 < q
      · simp -implicitDefEqProofs only [h1, h2, decide_true, decide_false, Bool.false_eq_true, if_false, if_true]; exact hj1 (by omega)
      · by_cases h3 : f.gain < -64
        · simp -implicitDefEqProofs only [h1, h2, h3, decide_true, decide_false, Bool.false_eq_true, if_false, if_true]; exact hj1 (by omega)
        · by_cases h4 : 32 < f.gain
          · simp -implicitDefEqProofs only [h1, h2, h3, h4, decide_true, decide_false, Bool.false_eq_true, if_false]; exact hj1 (by omega)
          · simp -implicitDefEqProofs only [h1, h2, h3, h4, decide_false, Bool.false_eq_true, if_false]
            exact hloop k1 k2 k3 (by omega) (by omega)
  have hj0' : ¬ FitP f n q → Ok (fun k => frame_Fit_j0 (fcall Tryz.prog ext1 k) k (.int .i64 q) (.ptr m.next 0) (.bool true)) m1 Q := by
    intro h
    simp -implicitDefEqProofs only [frame_Fit_j0, lp_some', mc_true, mc_false, ok_ret, ok_mc, ok_snap, aBin_add, aBin_sub, aBin_mul, aBin_lss, aBin_leq, aBin_gtr, aBin_geq, aBin_eql, aBin_neq, aBin_eqlStr, aBin_neqStr, strEq_bs, aBin_eqlNil, aBin_eqlNil', aBin_neqNil, aBin_neqNil', aUn_not, aUn_neg, aNil_ptr, aOff_ptr, aInt_int, aLenStr_str, aLenS_slice, aLenS_nil, aFold_min, aFold_max, bs_size, bs_empty, Nat.zero_add, Nat.add_zero, Nat.reduceAdd, ok_load, Mem.get_set, Mem.set_set, List.getElem?_cons_zero, List.getElem?_cons_succ, Option.some.injEq, exists_eq_left', List.set_cons_zero, List.set_cons_succ, if_true]
    exact hno1 h
  by_cases h1 : n < 1
  · simp -implicitDefEqProofs only [lp_some', mc_true, mc_false, ok_ret, ok_mc, ok_snap, aBin_add, aBin_sub, aBin_mul, aBin_lss, aBin_leq, aBin_gtr, aBin_geq, aBin_eql, aBin_neq, aBin_eqlStr, aBin_neqStr, strEq_bs, aBin_eqlNil, aBin_eqlNil', aBin_neqNil, aBin_neqNil', aUn_not, aUn_neg, aNil_ptr, aOff_ptr, aInt_int, aLenStr_str, aLenS_slice, aLenS_nil, aFold_min, aFold_max, bs_size, bs_empty, Nat.zero_add, Nat.add_zero, Nat.reduceAdd, ok_load, Mem.get_set, Mem.set_set, List.getElem?_cons_zero, List.getElem?_cons_succ, Option.some.injEq, exists_eq_left', List.set_cons_zero, List.set_cons_succ, h1, decide_true, if_true]; exact hj0' (fun h => by have := h.1; omega)
  · by_cases h2 : 2 < n
    · simp -implicitDefEqProofs only [lp_some', mc_true, mc_false, ok_ret, ok_mc, ok_snap, aBin_add, aBin_sub, aBin_mul, aBin_lss, aBin_leq, aBin_gtr, aBin_geq, aBin_eql, aBin_neq, aBin_eqlStr, aBin_neqStr, strEq_bs, aBin_eqlNil, aBin_eqlNil', aBin_neqNil, aBin_neqNil', aUn_not, aUn_neg, aNil_ptr, aOff_ptr, aInt_int, aLenStr_str, aLenS_slice, aLenS_nil, aFold_min, aFold_max, bs_size, bs_empty, Nat.zero_add, Nat.add_zero, Nat.reduceAdd, ok_load, Mem.get_set, Mem.set_set, List.getElem?_cons_zero, List.getElem?_cons_succ, Option.some.injEq, exists_eq_left', List.set_cons_zero, List.set_cons_succ, h1, h2, decide_true, decide_false, Bool.false_eq_true, if_false, if_true]; exact hj0' (fun h => by have := h.1; omega)
    · by_cases h3 : (f.chans.length : Int) = n
      · by_cases h4 : f.side = true
        · by_cases h5 : n = 1
          · simp -implicitDefEqProofs only [lp_some', mc_true, mc_false, ok_ret, ok_mc, ok_snap, aBin_add, aBin_sub, aBin_mul, aBin_lss, aBin_leq, aBin_gtr, aBin_geq, aBin_eql, aBin_neq, aBin_eqlStr, aBin_neqStr, strEq_bs, aBin_eqlNil, aBin_eqlNil', aBin_neqNil, aBin_neqNil', aUn_not, aUn_neg, aNil_ptr, aOff_ptr, aInt_int, aLenStr_str, aLenS_slice, aLenS_nil, aFold_min, aFold_max, bs_size, bs_empty, Nat.zero_add, Nat.add_zero, Nat.reduceAdd, ok_load, Mem.get_set, Mem.set_set, List.getElem?_cons_zero, List.getElem?_cons_succ, Option.some.injEq, exists_eq_left', List.set_cons_zero, List.set_cons_succ, h1, h2, h3, h4, h5, load_at hg, hv1.len, ne_eq, not_true_eq_false, decide_true, decide_false, Bool.false_eq_true, if_false, if_true]
            subst h5
            exact hj0' (fun h => h.2.2.1 ⟨h4, rfl⟩)
          · simp -implicitDefEqProofs only [lp_some', mc_true, mc_false, ok_ret, ok_mc, ok_snap, aBin_add, aBin_sub, aBin_mul, aBin_lss, aBin_leq, aBin_gtr, aBin_geq, aBin_eql, aBin_neq, aBin_eqlStr, aBin_neqStr, strEq_bs, aBin_eqlNil, aBin_eqlNil', aBin_neqNil, aBin_neqNil', aUn_not, aUn_neg, aNil_ptr, aOff_ptr, aInt_int, aLenStr_str, aLenS_slice, aLenS_nil, aFold_min, aFold_max, bs_size, bs_empty, Nat.zero_add, Nat.add_zero, Nat.reduceAdd, ok_load, Mem.get_set, Mem.set_set, List.getElem?_cons_zero, List.getElem?_cons_succ, Option.some.injEq, exists_eq_left', List.set_cons_zero, List.set_cons_succ, h1, h2, h3, h4, h5, load_at hg, hv1.len, ne_eq, not_true_eq_false, decide_true, decide_false, Bool.false_eq_true, if_false, if_true]
            exact hj0 (by omega) h3 (fun h => h5 h.2)
        · have h4' : f.side = false := by simpa using h4
          simp -implicitDefEqProofs only [lp_some', mc_true, mc_false, ok_ret, ok_mc, ok_snap, aBin_add, aBin_sub, aBin_mul, aBin_lss, aBin_leq, aBin_gtr, aBin_geq, aBin_eql, aBin_neq, aBin_eqlStr, aBin_neqStr, strEq_bs, aBin_eqlNil, aBin_eqlNil', aBin_neqNil, aBin_neqNil', aUn_not, aUn_neg, aNil_ptr, aOff_ptr, aInt_int, aLenStr_str, aLenS_slice, aLenS_nil, aFold_min, aFold_max, bs_size, bs_empty, Nat.zero_add, Nat.add_zero, Nat.reduceAdd, ok_load, Mem.get_set, Mem.set_set, List.getElem?_cons_zero, List.getElem?_cons_succ, Option.some.injEq, exists_eq_left', List.set_cons_zero, List.set_cons_succ, h1, h2, h3, h4', load_at hg, hv1.len, ne_eq, not_true_eq_false, decide_false, Bool.false_eq_true, if_false]
          exact hj0 (by omega) h3 (fun h => h4 h.1)
      · simp -implicitDefEqProofs only [lp_some', mc_true, mc_false, ok_ret, ok_mc, ok_snap, aBin_add, aBin_sub, aBin_mul, aBin_lss, aBin_leq, aBin_gtr, aBin_geq, aBin_eql, aBin_neq, aBin_eqlStr, aBin_neqStr, strEq_bs, aBin_eqlNil, aBin_eqlNil', aBin_neqNil, aBin_neqNil', aUn_not, aUn_neg, aNil_ptr, aOff_ptr, aInt_int, aLenStr_str, aLenS_slice, aLenS_nil, aFold_min, aFold_max, bs_size, bs_empty, Nat.zero_add, Nat.add_zero, Nat.reduceAdd, ok_load, Mem.get_set, Mem.set_set, List.getElem?_cons_zero, List.getElem?_cons_succ, Option.some.injEq, exists_eq_left', List.set_cons_zero, List.set_cons_succ, h1, h2, h3, load_at hg, hv1.len, ne_eq, not_false_eq_true, decide_true, decide_false, Bool.false_eq_true, if_false, if_true]
        exact hj0' (fun h => h3 h.2.1)

/-! rows -/

theorem bandRow_ok {K : Nat → Prop} {c : List BandD} {vb : AV} {m : Mem} {Q : AV → Mem → Prop} (hv : BandsR K m vb c) (hK : ∀ b, K b → b < m.next) (hbn : m.base ≤ m.next) (hlen : c.length ≤ 1000)
    (hq : ∀ m' u, Same m m' → IntsR (fun b => m.next ≤ b ∧ b < m'.next) m' u (c.map BandD.c) → Q u m') : Ok (R fn_frame_mapped_api_Band_int [vb, .func (.func fn_frame_Rows_c1_c1) [] []]) m Q := by
  refine Ok.call (fun k => frame_mapped_api_Band_int_eq rfl k _ _) ?_
  simp -implicitDefEqProofs only [frame_mapped_api_Band_int, lp_some', mc_true, mc_false, ok_ret, ok_mc, ok_snap, aBin_add, aBin_sub, aBin_mul, aBin_lss, aBin_leq, aBin_gtr, aBin_geq, aBin_eql, aBin_neq, aBin_eqlStr, aBin_neqStr, strEq_bs, aBin_eqlNil, aBin_eqlNil', aBin_neqNil, aBin_neqNil', aUn_not, aUn_neg, aNil_ptr, aOff_ptr, aInt_int, aLenStr_str, aLenS_slice, aLenS_nil, aFold_min, aFold_max, bs_size, bs_empty, Nat.zero_add, Nat.add_zero, Nat.reduceAdd, ok_load, Mem.get_set, Mem.set_set, List.getElem?_cons_zero, List.getElem?_cons_succ, Option.some.injEq, exists_eq_left', List.set_cons_zero, List.set_cons_succ, hv.len, ok_mkSlice1 (show 8 * c.length ≤ 35184372088832 by omega)]
  have hS0 := Same.alloc m (.cells T_int 0 (List.replicate c.length (.int .i64 0)))
  have hg0 := Mem.get_alloc m (.cells T_int 0 (List.replicate c.length (.int .i64 0)))
  have hnx0 : m.next < (m.alloc (.cells T_int 0 (List.replicate c.length (.int .i64 0)))).next := Nat.lt_succ_self _
  generalize m.alloc (.cells T_int 0 (List.replicate c.length (.int .i64 0))) = m1 at *
  have hbn1 : m1.base ≤ m.next := by rw [hS0.base]; exact hbn
  refine Ok.loop (fun k z m' => ∃ i : Nat, k + i = c.length ∧ z = [.func (.func fn_frame_Rows_c1_c1) [] [], .slice m.next 0 c.length 1, vb, .int .i64 c.length, .int .i64 i] ∧ m'.get m.next = .cells T_int 0 (((c.take i).map BandD.c).map (fun x => .int .i64 x) ++ List.replicate (c.length - i) (.int .i64 0)) ∧ Chg (fun b => b = m.next) m1 m') ?_ (k := c.length) ⟨0, rfl, rfl, hg0, Chg.refl _ _⟩
  clear hg0
  rintro k z m' rec ⟨i, hk, rfl, hg, hch⟩ ih
  have hS := hS0.own (Nat.le_refl _) hch
  have hv' := hv.keep (m' := m') (fun b hb => hS.get (hK b hb))
  by_cases h1 : i < c.length
  · have d1 : (i : Int) < (c.length : Int) := by omega
    obtain ⟨b, hb⟩ : ∃ b, c[i]? = some b := ⟨c[i], List.getElem?_eq_getElem h1⟩
    obtain ⟨b', o, ce, hix, hKb, hl3, hR, hl, hld⟩ := hv'.at hb
    obtain ⟨vp, rfl, hw1, hw2, hp⟩ := hR
    have hbm := hS.bn hbn
    have hst := fun (k : Nat → AV → M AV) => ok_storeAll (i := m'.next) (k := k) (Q := Q) (vs := [.int .i64 b.c, .int .i64 b.f, vp]) (n := 3) (Mem.get_alloc m' (.cells T_api_Band 0 [.int .i64 0, .int .i64 0, .nilslice])) hbm rfl rfl (by simp [hp.one])
    have hg1 := Mem.get_alloc m' (.cells T_api_Band 0 [.int .i64 b.c, .int .i64 b.f, vp])
    have hS1 := Same.alloc m' (.cells T_api_Band 0 [.int .i64 b.c, .int .i64 b.f, vp])
    simp -implicitDefEqProofs only [List.getD_cons_zero, List.getD_cons_succ, frame_mapped_api_Band_int_l0, lp_some', mc_true, mc_false, ok_ret, ok_mc, ok_snap, aBin_add, aBin_sub, aBin_mul, aBin_lss, aBin_leq, aBin_gtr, aBin_geq, aBin_eql, aBin_neq, aBin_eqlStr, aBin_neqStr, strEq_bs, aBin_eqlNil, aBin_eqlNil', aBin_neqNil, aBin_neqNil', aUn_not, aUn_neg, aNil_ptr, aOff_ptr, aInt_int, aLenStr_str, aLenS_slice, aLenS_nil, aFold_min, aFold_max, bs_size, bs_empty, Nat.zero_add, Nat.add_zero, Nat.reduceAdd, ok_load, Mem.get_set, Mem.set_set, List.getElem?_cons_zero, List.getElem?_cons_succ, Option.some.injEq, exists_eq_left', List.set_cons_zero, List.set_cons_succ, d1, decide_true, if_true, hix, hl, ok_alloc, hst, Mem.alloc_set, load_at' hg1, List.length_cons, List.length_nil, Nat.reduceLeDiff, List.drop_zero, List.take_succ_cons, List.take_zero]
    generalize m'.alloc (.cells T_api_Band 0 [.int .i64 b.c, .int .i64 b.f, vp]) = m2 at *
    show Ok (fun n => bnd (fcall Tryz.prog ext1 n fn_frame_Rows_c1_c1 [.agg [.int .i64 b.c, .int .i64 b.f, vp]]) _) m2 Q
    refine Ok.bnd (Ok.call (fun n => frame_Rows_c1_c1_eq rfl n _) ?_)
    have hg3 := Mem.get_alloc m2 (.cells T_api_Band 0 [.int .i64 b.c, .int .i64 b.f, vp])
    have hS2 := Same.alloc m2 (.cells T_api_Band 0 [.int .i64 b.c, .int .i64 b.f, vp])
    simp -implicitDefEqProofs only [frame_Rows_c1_c1, ok_box, lp_some', mc_true, mc_false, ok_ret, ok_mc, ok_snap, aBin_add, aBin_sub, aBin_mul, aBin_lss, aBin_leq, aBin_gtr, aBin_geq, aBin_eql, aBin_neq, aBin_eqlStr, aBin_neqStr, strEq_bs, aBin_eqlNil, aBin_eqlNil', aBin_neqNil, aBin_neqNil', aUn_not, aUn_neg, aNil_ptr, aOff_ptr, aInt_int, aLenStr_str, aLenS_slice, aLenS_nil, aFold_min, aFold_max, bs_size, bs_empty, Nat.zero_add, Nat.add_zero, Nat.reduceAdd, ok_load, Mem.get_set, Mem.set_set, List.getElem?_cons_zero, List.getElem?_cons_succ, Option.some.injEq, exists_eq_left', List.set_cons_zero, List.set_cons_succ, load_at hg3]
    generalize m2.alloc (.cells T_api_Band 0 [.int .i64 b.c, .int .i64 b.f, vp]) = m3 at *
    have hS3 := hS1.trans hS2
    have hnx' : m.next < m'.next := Nat.lt_of_lt_of_le hnx0 hch.next
    have hg' := (hS3.get hnx').trans hg
    have hbm3 : m3.base ≤ m.next := by rw [hS3.base, hch.base]; exact hbn1
    have i2 := aIdxS_at (size := 1) (i := m.next) (o := 0) (n := c.length) (e := 1) (kd := .i64) h1
    have htl : ((c.take i).map BandD.c).length = i := by simp; omega
    have hset := set_fill (fun x => AV.int .i64 x) (.int .i64 0) ((c.take i).map BandD.c) b.c (c.length - (i + 1))
    rw [show c.length - (i + 1) + 1 = c.length - i by omega, htl] at hset
    have htk : (c.take i).map BandD.c ++ [b.c] = (c.take (i + 1)).map BandD.c := by rw [List.take_add_one, hb]; simp
    rw [htk] at hset
    have e2 : IntKind.i64.wrap ((i : Int) + 1) = ((i + 1 : Nat) : Int) := by rw [IntWalk.i64_in _ (by omega)]; omega
    have hst2 := fun (k : Nat → AV → M AV) => ok_store (k := k) (Q := Q) (o := i) (v := .int .i64 b.c) hg' hbm3 (Nat.zero_le _) (by simp; omega) (by simp)
    simp -implicitDefEqProofs only [i2, lp_some', mc_true, mc_false, ok_ret, ok_mc, ok_snap, aBin_add, aBin_sub, aBin_mul, aBin_lss, aBin_leq, aBin_gtr, aBin_geq, aBin_eql, aBin_neq, aBin_eqlStr, aBin_neqStr, strEq_bs, aBin_eqlNil, aBin_eqlNil', aBin_neqNil, aBin_neqNil', aUn_not, aUn_neg, aNil_ptr, aOff_ptr, aInt_int, aLenStr_str, aLenS_slice, aLenS_nil, aFold_min, aFold_max, bs_size, bs_empty, Nat.zero_add, Nat.add_zero, Nat.reduceAdd, ok_load, Mem.get_set, Mem.set_set, List.getElem?_cons_zero, List.getElem?_cons_succ, Option.some.injEq, exists_eq_left', List.set_cons_zero, List.set_cons_succ, Nat.mul_one, hst2, hset, e2]
    refine ih (k - 1) _ _ (by omega) ⟨i + 1, by omega, rfl, by simp, ?_⟩
    exact (hch.trans hS3 (fun _ _ h => h.elim)).trans (Chg.set _ _ _) (fun _ _ h => h)
  · obtain rfl : i = c.length := by omega
    have d1 : ¬ (c.length : Int) < (c.length : Int) := by omega
    simp -implicitDefEqProofs only [List.getD_cons_zero, List.getD_cons_succ, frame_mapped_api_Band_int_l0, lp_some', mc_true, mc_false, ok_ret, ok_mc, ok_snap, aBin_add, aBin_sub, aBin_mul, aBin_lss, aBin_leq, aBin_gtr, aBin_geq, aBin_eql, aBin_neq, aBin_eqlStr, aBin_neqStr, strEq_bs, aBin_eqlNil, aBin_eqlNil', aBin_neqNil, aBin_neqNil', aUn_not, aUn_neg, aNil_ptr, aOff_ptr, aInt_int, aLenStr_str, aLenS_slice, aLenS_nil, aFold_min, aFold_max, bs_size, bs_empty, Nat.zero_add, Nat.add_zero, Nat.reduceAdd, ok_load, Mem.get_set, Mem.set_set, List.getElem?_cons_zero, List.getElem?_cons_succ, Option.some.injEq, exists_eq_left', List.set_cons_zero, List.set_cons_succ, d1, decide_false, Bool.false_eq_true, if_false]
    rw [List.take_length, Nat.sub_self, List.replicate_zero, List.append_nil] at hg
    refine hq m' _ hS ?_
    have := slR_own (K := fun b => m.next ≤ b ∧ b < m'.next) (R := RInt .i64) (f := fun x => .int .i64 x) (m := m') (i := m.next) (ty := T_int) (fz := 0) (e := 1) (l := c.map BandD.c) ⟨Nat.le_refl _, Nat.lt_of_lt_of_le hnx0 hch.next⟩ hg (fun x hx => ⟨rfl, ?_⟩)
    · rw [List.length_map] at this
      exact this
    · obtain ⟨b, hb, rfl⟩ := List.mem_map.1 hx
      obtain ⟨k, hk⟩ := List.mem_iff_getElem?.1 hb
      obtain ⟨-, -, -, -, -, -, ⟨vp, -, hw1, -, -⟩, -, -⟩ := hv.at hk
      exact hw1

theorem rows_c1_ok {K : Nat → Prop} {c : List BandD} {vb : AV} {m : Mem} {Q : AV → Mem → Prop} (hv : BandsR K m vb c) (hK : ∀ b, K b → b < m.next) (hbn : m.base ≤ m.next) (hlen : c.length ≤ 1000)
    (hq : ∀ m' u, Same m m' → IntsR (fun b => m.next ≤ b ∧ b < m'.next) m' u (c.map BandD.c) → Q u m') : Ok (R fn_frame_Rows_c1 [.agg [vb]]) m Q := by
  refine Ok.call (fun k => frame_Rows_c1_eq rfl k _) ?_
  have hS1 := Same.alloc m (.cells T_api_Chan 0 [vb])
  have hg := Mem.get_alloc m (.cells T_api_Chan 0 [vb])
  simp -implicitDefEqProofs only [frame_Rows_c1, ok_box, lp_some', mc_true, mc_false, ok_ret, ok_mc, ok_snap, aBin_add, aBin_sub, aBin_mul, aBin_lss, aBin_leq, aBin_gtr, aBin_geq, aBin_eql, aBin_neq, aBin_eqlStr, aBin_neqStr, strEq_bs, aBin_eqlNil, aBin_eqlNil', aBin_neqNil, aBin_neqNil', aUn_not, aUn_neg, aNil_ptr, aOff_ptr, aInt_int, aLenStr_str, aLenS_slice, aLenS_nil, aFold_min, aFold_max, bs_size, bs_empty, Nat.zero_add, Nat.add_zero, Nat.reduceAdd, ok_load, Mem.get_set, Mem.set_set, List.getElem?_cons_zero, List.getElem?_cons_succ, Option.some.injEq, exists_eq_left', List.set_cons_zero, List.set_cons_succ, load_at hg]
  generalize m.alloc (.cells T_api_Chan 0 [vb]) = m1 at *
  refine Ok.bnd (bandRow_ok (hv.keep (fun b hb => hS1.get (hK b hb))) (fun b hb => Nat.lt_of_lt_of_le (hK b hb) hS1.next) (hS1.bn hbn) hlen fun m2 u hS2 hu => ?_)
  simp -implicitDefEqProofs only [lp_some', mc_true, mc_false, ok_ret, ok_mc, ok_snap, aBin_add, aBin_sub, aBin_mul, aBin_lss, aBin_leq, aBin_gtr, aBin_geq, aBin_eql, aBin_neq, aBin_eqlStr, aBin_neqStr, strEq_bs, aBin_eqlNil, aBin_eqlNil', aBin_neqNil, aBin_neqNil', aUn_not, aUn_neg, aNil_ptr, aOff_ptr, aInt_int, aLenStr_str, aLenS_slice, aLenS_nil, aFold_min, aFold_max, bs_size, bs_empty, Nat.zero_add, Nat.add_zero, Nat.reduceAdd, ok_load, Mem.get_set, Mem.set_set, List.getElem?_cons_zero, List.getElem?_cons_succ, Option.some.injEq, exists_eq_left', List.set_cons_zero, List.set_cons_succ]
  exact hq m2 u (hS1.trans hS2) (hu.mono fun b hb => ⟨Nat.le_trans hS1.next hb.1, hb.2⟩)

theorem rows_ok {K : Nat → Prop} {f : FrameD} {v : AV} {m : Mem} {Q : AV → Mem → Prop} (hv : ChansR K m v f.chans) (hK : ∀ b, K b → b < m.next) (hbn : m.base ≤ m.next) (hlen : f.chans.length ≤ 1000) (hlen2 : ∀ c ∈ f.chans, c.length ≤ 1000)
    (hq : ∀ m' u, Same m m' → RowsR (fun b => m.next ≤ b ∧ b < m'.next) m' u (f.chans.map fun c => c.map BandD.c) → Q u m') : Ok (R fn_frame_Rows [.agg (frameC f v)]) m Q := by
  refine Ok.call (fun k => frame_Rows_eq rfl k _) ?_
  have hS0 := Same.alloc m (.cells T_api_Frame 0 (frameC f v))
  have hg := Mem.get_alloc m (.cells T_api_Frame 0 (frameC f v))
  simp -implicitDefEqProofs only [frame_Rows, ok_box]
  generalize m.alloc (.cells T_api_Frame 0 (frameC f v)) = m0 at *
  unfold frameC at hg
  simp -implicitDefEqProofs only [lp_some', mc_true, mc_false, ok_ret, ok_mc, ok_snap, aBin_add, aBin_sub, aBin_mul, aBin_lss, aBin_leq, aBin_gtr, aBin_geq, aBin_eql, aBin_neq, aBin_eqlStr, aBin_neqStr, strEq_bs, aBin_eqlNil, aBin_eqlNil', aBin_neqNil, aBin_neqNil', aUn_not, aUn_neg, aNil_ptr, aOff_ptr, aInt_int, aLenStr_str, aLenS_slice, aLenS_nil, aFold_min, aFold_max, bs_size, bs_empty, Nat.zero_add, Nat.add_zero, Nat.reduceAdd, ok_load, Mem.get_set, Mem.set_set, List.getElem?_cons_zero, List.getElem?_cons_succ, Option.some.injEq, exists_eq_left', List.set_cons_zero, List.set_cons_succ, load_at hg]
  clear hg
  have hv0 := hv.keep (m' := m0) (fun b hb => hS0.get (hK b hb))
  refine Ok.bnd (Ok.call (fun k => frame_mapped_api_Chan_sl_int_eq rfl k _ _) ?_)
  simp -implicitDefEqProofs only [frame_mapped_api_Chan_sl_int, lp_some', mc_true, mc_false, ok_ret, ok_mc, ok_snap, aBin_add, aBin_sub, aBin_mul, aBin_lss, aBin_leq, aBin_gtr, aBin_geq, aBin_eql, aBin_neq, aBin_eqlStr, aBin_neqStr, strEq_bs, aBin_eqlNil, aBin_eqlNil', aBin_neqNil, aBin_neqNil', aUn_not, aUn_neg, aNil_ptr, aOff_ptr, aInt_int, aLenStr_str, aLenS_slice, aLenS_nil, aFold_min, aFold_max, bs_size, bs_empty, Nat.zero_add, Nat.add_zero, Nat.reduceAdd, ok_load, Mem.get_set, Mem.set_set, List.getElem?_cons_zero, List.getElem?_cons_succ, Option.some.injEq, exists_eq_left', List.set_cons_zero, List.set_cons_succ, hv0.len, ok_mkSlice1 (show 24 * f.chans.length ≤ 35184372088832 by omega)]
  have hS1 := Same.alloc m0 (.cells T_sl_int 0 (List.replicate f.chans.length .nilslice))
  have hg1 := Mem.get_alloc m0 (.cells T_sl_int 0 (List.replicate f.chans.length .nilslice))
  have hnx1 : m0.next < (m0.alloc (.cells T_sl_int 0 (List.replicate f.chans.length .nilslice))).next := Nat.lt_succ_self _
  generalize m0.alloc (.cells T_sl_int 0 (List.replicate f.chans.length .nilslice)) = m1 at *
  have hbn1 : m1.base ≤ m0.next := by rw [hS1.base]; exact hS0.bn hbn
  refine Ok.loop (fun k z m' => ∃ (i : Nat) (us : List AV), k + i = f.chans.length ∧ z = [.func (.func fn_frame_Rows_c1) [] [], .slice m0.next 0 f.chans.length 1, v, .int .i64 f.chans.length, .int .i64 i] ∧ us.length = i ∧ (∀ (k : Nat) u x, us[k]? = some u → f.chans[k]? = some x → IntsR (fun b => m0.next < b ∧ b < m'.next) m' u (x.map BandD.c)) ∧ m'.get m0.next = .cells T_sl_int 0 (us.map (fun x => x) ++ List.replicate (f.chans.length - i) .nilslice) ∧ Chg (fun b => b = m0.next) m1 m') ?_ (k := f.chans.length) ⟨0, [], rfl, rfl, rfl, fun k u x h => by simp at h, hg1, Chg.refl _ _⟩
  clear hg1
  rintro k z m' rec ⟨i, us, hk, rfl, hul, hus, hg, hch⟩ ih
  have hS := hS1.own (Nat.le_refl _) hch
  have hv' := hv0.keep (m' := m') (fun b hb => hS.get (Nat.lt_of_lt_of_le (hK b hb) hS0.next))
  by_cases h1 : i < f.chans.length
  · have d1 : (i : Int) < (f.chans.length : Int) := by omega
    obtain ⟨c, hc⟩ : ∃ c, f.chans[i]? = some c := ⟨f.chans[i], List.getElem?_eq_getElem h1⟩
    obtain ⟨b', o, ce, hix, hKb, hl3, hR, hl, hld⟩ := hv'.at hc
    obtain ⟨vb, rfl, hb⟩ := hR
    have hbm := hS.bn (hS0.bn hbn)
    have hst := fun (k : Nat → AV → M AV) (Q : AV → Mem → Prop) => ok_storeAll (i := m'.next) (k := k) (Q := Q) (vs := [vb]) (n := 1) (Mem.get_alloc m' (.cells T_api_Chan 0 [.nilslice])) hbm rfl rfl (by simp [hb.one])
    have hg1 := Mem.get_alloc m' (.cells T_api_Chan 0 [vb])
    have hS2 := Same.alloc m' (.cells T_api_Chan 0 [vb])
    simp -implicitDefEqProofs only [List.getD_cons_zero, List.getD_cons_succ, frame_mapped_api_Chan_sl_int_l0, lp_some', mc_true, mc_false, ok_ret, ok_mc, ok_snap, aBin_add, aBin_sub, aBin_mul, aBin_lss, aBin_leq, aBin_gtr, aBin_geq, aBin_eql, aBin_neq, aBin_eqlStr, aBin_neqStr, strEq_bs, aBin_eqlNil, aBin_eqlNil', aBin_neqNil, aBin_neqNil', aUn_not, aUn_neg, aNil_ptr, aOff_ptr, aInt_int, aLenStr_str, aLenS_slice, aLenS_nil, aFold_min, aFold_max, bs_size, bs_empty, Nat.zero_add, Nat.add_zero, Nat.reduceAdd, ok_load, Mem.get_set, Mem.set_set, List.getElem?_cons_zero, List.getElem?_cons_succ, Option.some.injEq, exists_eq_left', List.set_cons_zero, List.set_cons_succ, d1, decide_true, if_true, hix, hl, ok_alloc, hst, Mem.alloc_set, load_at' hg1, List.length_cons, List.length_nil, Nat.reduceLeDiff, List.drop_zero, List.take_succ_cons, List.take_zero]
    generalize m'.alloc (.cells T_api_Chan 0 [vb]) = m2 at *
    show Ok (fun n => bnd (fcall Tryz.prog ext1 n fn_frame_Rows_c1 [.agg [vb]]) _) m2 _
    have hKm2 : ∀ b, K b → b < m2.next := fun b hb => Nat.lt_of_lt_of_le (hK b hb) ((hS0.trans hS).trans hS2).next
    refine Ok.bnd (rows_c1_ok (hb.keep (fun b hb => hS2.get (Nat.lt_of_lt_of_le (hK b hb) (hS0.trans hS).next))) hKm2 (hS2.bn hbm) (hlen2 c (List.mem_of_getElem? hc)) fun m3 u hS3 hu => ?_)
    have hS23 := hS2.trans hS3
    have hnx' : m0.next < m'.next := Nat.lt_of_lt_of_le hnx1 hch.next
    have hg' := (hS23.get hnx').trans hg
    have hbm3 : m3.base ≤ m0.next := by rw [hS23.base, hch.base]; exact hbn1
    have i2 := aIdxS_at (size := 1) (i := m0.next) (o := 0) (n := f.chans.length) (e := 1) (kd := .i64) h1
    have hset := set_fill (fun x : AV => x) .nilslice us u (f.chans.length - (i + 1))
    rw [show f.chans.length - (i + 1) + 1 = f.chans.length - i by omega, hul] at hset
    have e2 : IntKind.i64.wrap ((i : Int) + 1) = ((i + 1 : Nat) : Int) := by rw [IntWalk.i64_in _ (by omega)]; omega
    have hst2 := fun (k : Nat → AV → M AV) (Q : AV → Mem → Prop) => ok_store (k := k) (Q := Q) (o := i) (v := u) hg' hbm3 (Nat.zero_le _) (by simp; omega) hu.one
    simp -implicitDefEqProofs only [i2, lp_some', mc_true, mc_false, ok_ret, ok_mc, ok_snap, aBin_add, aBin_sub, aBin_mul, aBin_lss, aBin_leq, aBin_gtr, aBin_geq, aBin_eql, aBin_neq, aBin_eqlStr, aBin_neqStr, strEq_bs, aBin_eqlNil, aBin_eqlNil', aBin_neqNil, aBin_neqNil', aUn_not, aUn_neg, aNil_ptr, aOff_ptr, aInt_int, aLenStr_str, aLenS_slice, aLenS_nil, aFold_min, aFold_max, bs_size, bs_empty, Nat.zero_add, Nat.add_zero, Nat.reduceAdd, ok_load, Mem.get_set, Mem.set_set, List.getElem?_cons_zero, List.getElem?_cons_succ, Option.some.injEq, exists_eq_left', List.set_cons_zero, List.set_cons_succ, Nat.mul_one, hst2, hset, e2]
    refine ih (k - 1) _ _ (by omega) ⟨i + 1, us ++ [u], by omega, rfl, by simp [hul], fun k w x hw hx => ?_, by simp, ?_⟩
    · have hn2 : m'.next ≤ m2.next := hS2.next
      have hn3 : m2.next ≤ m3.next := hS3.next
      rcases Nat.lt_or_ge k i with h | h
      · rw [List.getElem?_append_left (by omega)] at hw
        have h3 := ((hus k w x hw hx).keep (m' := m3) (fun b hb => hS23.get hb.2)).keep (m' := m3.set m0.next (.cells T_sl_int 0 ((us ++ [u]).map (fun x => x) ++ List.replicate (f.chans.length - (i + 1)) .nilslice))) (fun b hb => get_set_ne (by omega))
        exact h3.mono fun b hb => ⟨hb.1, Nat.lt_of_lt_of_le hb.2 (Nat.le_trans hn2 hn3)⟩
      · have hki : k = i := by
          have := (List.getElem?_eq_some_iff.1 hw).1
          simp at this; omega
        subst hki
        rw [List.getElem?_append_right (by omega), hul, Nat.sub_self] at hw
        cases hw
        rw [hc] at hx; cases hx
        have h3 := hu.keep (m' := m3.set m0.next (.cells T_sl_int 0 ((us ++ [u]).map (fun x => x) ++ List.replicate (f.chans.length - (k + 1)) .nilslice))) (fun b hb => get_set_ne (by omega))
        exact h3.mono fun b hb => ⟨by omega, hb.2⟩
    · exact (hch.trans hS23 (fun _ _ h => h.elim)).trans (Chg.set _ _ _) (fun _ _ h => h)
  · obtain rfl : i = f.chans.length := by omega
    have d1 : ¬ (f.chans.length : Int) < (f.chans.length : Int) := by omega
    simp -implicitDefEqProofs only [List.getD_cons_zero, List.getD_cons_succ, frame_mapped_api_Chan_sl_int_l0, lp_some', mc_true, mc_false, ok_ret, ok_mc, ok_snap, aBin_add, aBin_sub, aBin_mul, aBin_lss, aBin_leq, aBin_gtr, aBin_geq, aBin_eql, aBin_neq, aBin_eqlStr, aBin_neqStr, strEq_bs, aBin_eqlNil, aBin_eqlNil', aBin_neqNil, aBin_neqNil', aUn_not, aUn_neg, aNil_ptr, aOff_ptr, aInt_int, aLenStr_str, aLenS_slice, aLenS_nil, aFold_min, aFold_max, bs_size, bs_empty, Nat.zero_add, Nat.add_zero, Nat.reduceAdd, ok_load, Mem.get_set, Mem.set_set, List.getElem?_cons_zero, List.getElem?_cons_succ, Option.some.injEq, exists_eq_left', List.set_cons_zero, List.set_cons_succ, d1, decide_false, Bool.false_eq_true, if_false]
    rw [Nat.sub_self, List.replicate_zero, List.append_nil, List.map_id'] at hg
    refine hq m' _ (hS0.trans hS) ?_
    have := slR_own2 (K := fun b => m.next ≤ b ∧ b < m'.next) (R := RSl (IntsR fun b => m.next ≤ b ∧ b < m'.next)) (e := 1) (l := f.chans.map fun c => c.map BandD.c) ⟨hS0.next, Nat.lt_of_lt_of_le hnx1 hch.next⟩ hg (by rw [hul, List.length_map]) (fun k u x hu hx => ?_)
    · rw [List.length_map] at this
      exact this
    · rw [List.getElem?_map, Option.map_eq_some_iff] at hx
      obtain ⟨c, hc, rfl⟩ := hx
      exact ⟨u, rfl, (hus k u c hu hc).mono fun b hb => ⟨by have := hS0.next; omega, hb.2⟩⟩
end SplA
