/- How loud bands are: rows and their differences. -/
import Derived.Test.YtooogfnmhfocjaaGreatDoorSplPv
import Derived.Test.YtooogfnmhfocjaaGreatDoorSplFill
namespace SplA
open Go.Proofs.YtooogfnmhfocjaaGreatDoor.Spl Go Go.Proofs
set_option maxRecDepth 100000
set_option linter.unusedVariables false
set_option linter.unusedSimpArgs false

theorem eright_ok {K : Nat → Prop} {l : List Int} {v : AV} {m : Mem} {Q : AV → Mem → Prop} (hl : IntsR K m v l) (hlen : l.length ≤ 4611686018427387904)
    (hq : Q (.bool (decide (RightP l))) m) : Ok (R fn_energy_Right [v]) m Q := by
  refine Ok.call (fun n => energy_Right_eq rfl n _) ?_
  simp -implicitDefEqProofs only [energy_Right, lp_some', mc_true, mc_false, ok_ret, ok_mc, ok_snap, aBin_add, aBin_sub, aBin_mul, aBin_lss, aBin_leq, aBin_gtr, aBin_geq, aBin_eql, aBin_neq, aBin_eqlStr, aBin_neqStr, strEq_bs, aBin_eqlNil, aBin_eqlNil', aBin_neqNil, aBin_neqNil', aUn_not, aUn_neg, aNil_ptr, aOff_ptr, aInt_int, aLenStr_str, aLenS_slice, aLenS_nil, aFold_min, aFold_max, bs_size, bs_empty, Nat.zero_add, Nat.add_zero, Nat.reduceAdd, ok_load, Mem.get_set, Mem.set_set, List.getElem?_cons_zero, List.getElem?_cons_succ, Option.some.injEq, exists_eq_left', List.set_cons_zero, List.set_cons_succ, hl.len]
  refine Ok.loop (fun k z m' => m' = m ∧ ∃ (i : Nat) (a b : AV), k + i = l.length ∧ z = [v, v, .int .i64 l.length, .int .i64 i, a, b] ∧ ((∀ x ∈ l, 0 ≤ x ∧ x ≤ 23) ↔ ∀ x ∈ l.drop i, 0 ≤ x ∧ x ≤ 23)) ?_ (k := l.length) ⟨rfl, 0, _, _, rfl, rfl, by simp⟩
  rintro k z m' rec ⟨rfl, i, a, b, hk, rfl, he⟩ ih
  by_cases h2 : i < l.length
  · have d3 : (i : Int) < (l.length : Int) := by omega
    obtain ⟨x, hx, hdrop⟩ := drop_cons' h2
    obtain ⟨b', o, ce, hix, hKb, -, ⟨rfl, -⟩, -, hld⟩ := hl.at hx
    have hld0 : load? none (.ptr b' o) m' = some (.int .i64 x) := hld 0 _ rfl
    rw [hdrop, List.forall_mem_cons] at he
    simp -implicitDefEqProofs only [List.getD_cons_zero, List.getD_cons_succ, energy_Right_l0, lp_some', mc_true, mc_false, ok_ret, ok_mc, ok_snap, aBin_add, aBin_sub, aBin_mul, aBin_lss, aBin_leq, aBin_gtr, aBin_geq, aBin_eql, aBin_neq, aBin_eqlStr, aBin_neqStr, strEq_bs, aBin_eqlNil, aBin_eqlNil', aBin_neqNil, aBin_neqNil', aUn_not, aUn_neg, aNil_ptr, aOff_ptr, aInt_int, aLenStr_str, aLenS_slice, aLenS_nil, aFold_min, aFold_max, bs_size, bs_empty, Nat.zero_add, Nat.add_zero, Nat.reduceAdd, ok_load, Mem.get_set, Mem.set_set, List.getElem?_cons_zero, List.getElem?_cons_succ, Option.some.injEq, exists_eq_left', List.set_cons_zero, List.set_cons_succ, d3, decide_true, if_true, hix, hld0]
    by_cases h3 : x < 0
    · have : ¬ RightP l := fun h => by have := (he.1 h.2).1; omega
      rw [decide_eq_false this] at hq
      simp -implicitDefEqProofs only [energy_Right_j0, lp_some', mc_true, mc_false, ok_ret, ok_mc, ok_snap, aBin_add, aBin_sub, aBin_mul, aBin_lss, aBin_leq, aBin_gtr, aBin_geq, aBin_eql, aBin_neq, aBin_eqlStr, aBin_neqStr, strEq_bs, aBin_eqlNil, aBin_eqlNil', aBin_neqNil, aBin_neqNil', aUn_not, aUn_neg, aNil_ptr, aOff_ptr, aInt_int, aLenStr_str, aLenS_slice, aLenS_nil, aFold_min, aFold_max, bs_size, bs_empty, Nat.zero_add, Nat.add_zero, Nat.reduceAdd, ok_load, Mem.get_set, Mem.set_set, List.getElem?_cons_zero, List.getElem?_cons_succ, Option.some.injEq, exists_eq_left', List.set_cons_zero, List.set_cons_succ, h3, decide_true, if_true]
      exact hq
    · by_cases h4 : 23 < x
      · have : ¬ RightP l := fun h => by have := (he.1 h.2).1; omega
        rw [decide_eq_false this] at hq
        simp -implicitDefEqProofs only [energy_Right_j0, lp_some', mc_true, mc_false, ok_ret, ok_mc, ok_snap, aBin_add, aBin_sub, aBin_mul, aBin_lss, aBin_leq, aBin_gtr, aBin_geq, aBin_eql, aBin_neq, aBin_eqlStr, aBin_neqStr, strEq_bs, aBin_eqlNil, aBin_eqlNil', aBin_neqNil, aBin_neqNil', aUn_not, aUn_neg, aNil_ptr, aOff_ptr, aInt_int, aLenStr_str, aLenS_slice, aLenS_nil, aFold_min, aFold_max, bs_size, bs_empty, Nat.zero_add, Nat.add_zero, Nat.reduceAdd, ok_load, Mem.get_set, Mem.set_set, List.getElem?_cons_zero, List.getElem?_cons_succ, Option.some.injEq, exists_eq_left', List.set_cons_zero, List.set_cons_succ, h3, h4, decide_true, decide_false, Bool.false_eq_true, if_false, if_true]
        exact hq
      · have e2 : IntKind.i64.wrap ((i : Int) + 1) = ((i + 1 : Nat) : Int) := by rw [IntWalk.i64_in _ (by omega)]; omega
        simp -implicitDefEqProofs only [energy_Right_j0, lp_some', mc_true, mc_false, ok_ret, ok_mc, ok_snap, aBin_add, aBin_sub, aBin_mul, aBin_lss, aBin_leq, aBin_gtr, aBin_geq, aBin_eql, aBin_neq, aBin_eqlStr, aBin_neqStr, strEq_bs, aBin_eqlNil, aBin_eqlNil', aBin_neqNil, aBin_neqNil', aUn_not, aUn_neg, aNil_ptr, aOff_ptr, aInt_int, aLenStr_str, aLenS_slice, aLenS_nil, aFold_min, aFold_max, bs_size, bs_empty, Nat.zero_add, Nat.add_zero, Nat.reduceAdd, ok_load, Mem.get_set, Mem.set_set, List.getElem?_cons_zero, List.getElem?_cons_succ, Option.some.injEq, exists_eq_left', List.set_cons_zero, List.set_cons_succ, h3, h4, decide_false, Bool.false_eq_true, if_false, e2]
        exact ih (k - 1) _ _ (by omega) ⟨rfl, i + 1, _, _, by omega, rfl, he.trans ⟨fun h => h.2, fun h => ⟨by omega, h⟩⟩⟩
  · obtain rfl : i = l.length := by omega
    have d3 : ¬ (l.length : Int) < (l.length : Int) := by omega
    have hall := he.2 (by rw [List.drop_length]; intro x hx; simp at hx)
    have e3 : decide ((l.length : Int) = 13) = decide (RightP l) := decide_eq_decide.2 ⟨fun h => ⟨by omega, hall⟩, fun h => by have := h.1; omega⟩
    simp -implicitDefEqProofs only [List.getD_cons_zero, List.getD_cons_succ, energy_Right_l0, lp_some', mc_true, mc_false, ok_ret, ok_mc, ok_snap, aBin_add, aBin_sub, aBin_mul, aBin_lss, aBin_leq, aBin_gtr, aBin_geq, aBin_eql, aBin_neq, aBin_eqlStr, aBin_neqStr, strEq_bs, aBin_eqlNil, aBin_eqlNil', aBin_neqNil, aBin_neqNil', aUn_not, aUn_neg, aNil_ptr, aOff_ptr, aInt_int, aLenStr_str, aLenS_slice, aLenS_nil, aFold_min, aFold_max, bs_size, bs_empty, Nat.zero_add, Nat.add_zero, Nat.reduceAdd, ok_load, Mem.get_set, Mem.set_set, List.getElem?_cons_zero, List.getElem?_cons_succ, Option.some.injEq, exists_eq_left', List.set_cons_zero, List.set_cons_succ, d3, decide_false, Bool.false_eq_true, if_false, hl.len, e3]
    exact hq

/-- What expects tells: a function that tells what is expected. -/
def Expects (m : Mem) (F : AV) (intra : Bool) (p : List Int) : Prop :=
  ∀ (m' : Mem), Same m m' → ∀ (b : Nat) (last : Int) (k : Nat → AV → M AV) (Q : AV → Mem → Prop), b < 13 → 0 ≤ last ∧ last ≤ 23 → Ok (fun n => k n (.int .i64 (expN intra p b last))) m' Q → Ok (fun n => callee (fcall Tryz.prog ext1 n) F [.int .i64 b, .int .i64 last] (k n)) m' Q
theorem expects_ok {K : Nat → Prop} {intra : Bool} {p : List Int} {v : AV} {m : Mem} {Q : AV → Mem → Prop} (hl : IntsR K m v p) (hK : ∀ b, K b → b < m.next) (hp : intra = true ∨ RightP p)
    (hq : ∀ m' F, Same m m' → Expects m' F intra p → Q F m') : Ok (R fn_energy_expects [.bool intra, v]) m Q := by
  refine Ok.call (fun n => energy_expects_eq rfl n _ _) ?_
  have hv := hl.one
  have e0 : box T_sl_int v = alloc T_sl_int [v] := by rcases hl with ⟨rfl | rfl, -⟩ | ⟨b, o, e, rfl, -⟩ <;> rfl
  simp -implicitDefEqProofs only [energy_expects, e0, ok_alloc]
  have hS := Same.alloc m (.cells T_sl_int 0 [v])
  have hg := Mem.get_alloc m (.cells T_sl_int 0 [v])
  have hnx : m.next < (m.alloc (.cells T_sl_int 0 [v])).next := Nat.lt_succ_self _
  generalize m.alloc (.cells T_sl_int 0 [v]) = m1 at *
  cases intra with
  | true =>
    simp -implicitDefEqProofs only [lp_some', mc_true, mc_false, ok_ret, ok_mc, ok_snap, aBin_add, aBin_sub, aBin_mul, aBin_lss, aBin_leq, aBin_gtr, aBin_geq, aBin_eql, aBin_neq, aBin_eqlStr, aBin_neqStr, strEq_bs, aBin_eqlNil, aBin_eqlNil', aBin_neqNil, aBin_neqNil', aUn_not, aUn_neg, aNil_ptr, aOff_ptr, aInt_int, aLenStr_str, aLenS_slice, aLenS_nil, aFold_min, aFold_max, bs_size, bs_empty, Nat.zero_add, Nat.add_zero, Nat.reduceAdd, ok_load, Mem.get_set, Mem.set_set, List.getElem?_cons_zero, List.getElem?_cons_succ, Option.some.injEq, exists_eq_left', List.set_cons_zero, List.set_cons_succ, if_true]
    refine hq m1 _ hS ?_
    intro m' hS' b last k Q' hb hla hk
    show Ok (fun n => bnd (fcall Tryz.prog ext1 n fn_energy_expects_c1 [.int .i64 b, .int .i64 last]) (k n)) m' Q'
    refine Ok.bnd (Ok.call (fun n => energy_expects_c1_eq rfl n _ _) ?_)
    simp -implicitDefEqProofs only [energy_expects_c1, lp_some', mc_true, mc_false, ok_ret, ok_mc, ok_snap, aBin_add, aBin_sub, aBin_mul, aBin_lss, aBin_leq, aBin_gtr, aBin_geq, aBin_eql, aBin_neq, aBin_eqlStr, aBin_neqStr, strEq_bs, aBin_eqlNil, aBin_eqlNil', aBin_neqNil, aBin_neqNil', aUn_not, aUn_neg, aNil_ptr, aOff_ptr, aInt_int, aLenStr_str, aLenS_slice, aLenS_nil, aFold_min, aFold_max, bs_size, bs_empty, Nat.zero_add, Nat.add_zero, Nat.reduceAdd, ok_load, Mem.get_set, Mem.set_set, List.getElem?_cons_zero, List.getElem?_cons_succ, Option.some.injEq, exists_eq_left', List.set_cons_zero, List.set_cons_succ]
    by_cases h : b = 0
    · subst h
      simp -implicitDefEqProofs only [expN, if_true] at hk
      simp -implicitDefEqProofs only [Int.natCast_zero, decide_true, if_true]
      exact hk
    · have d : ¬ (b : Int) = 0 := by omega
      simp -implicitDefEqProofs only [expN, h, if_true, if_false] at hk
      simp -implicitDefEqProofs only [d, decide_false, Bool.false_eq_true, if_false]
      exact hk
  | false =>
    have hp' : RightP p := by simpa using hp
    simp -implicitDefEqProofs only [lp_some', mc_true, mc_false, ok_ret, ok_mc, ok_snap, aBin_add, aBin_sub, aBin_mul, aBin_lss, aBin_leq, aBin_gtr, aBin_geq, aBin_eql, aBin_neq, aBin_eqlStr, aBin_neqStr, strEq_bs, aBin_eqlNil, aBin_eqlNil', aBin_neqNil, aBin_neqNil', aUn_not, aUn_neg, aNil_ptr, aOff_ptr, aInt_int, aLenStr_str, aLenS_slice, aLenS_nil, aFold_min, aFold_max, bs_size, bs_empty, Nat.zero_add, Nat.add_zero, Nat.reduceAdd, ok_load, Mem.get_set, Mem.set_set, List.getElem?_cons_zero, List.getElem?_cons_succ, Option.some.injEq, exists_eq_left', List.set_cons_zero, List.set_cons_succ, Bool.false_eq_true, if_false]
    refine hq m1 _ hS ?_
    intro m' hS' b last k Q' hb hla hk
    have hg' : m'.get m.next = .cells T_sl_int 0 [v] := (hS'.get hnx).trans hg
    have hl' := hl.keep (m' := m') (fun b hb => (hS.trans hS').get (hK b hb))
    have hx0 : p[0]? = some (p.getD 0 0) := by rw [List.getD_eq_getElem?_getD, List.getElem?_eq_getElem (by rw [hp'.1]; decide)]; rfl
    have hxb : p[b]? = some (p.getD b 0) := by rw [List.getD_eq_getElem?_getD, List.getElem?_eq_getElem (by rw [hp'.1]; exact hb)]; rfl
    obtain ⟨b0, o0, _, hix0, -, -, ⟨rfl, -⟩, -, hld0⟩ := hl'.at hx0
    obtain ⟨b1, o1, _, hix1, -, -, ⟨rfl, -⟩, -, hld1⟩ := hl'.at hxb
    have l0 : load? none (.ptr b0 o0) m' = some (.int .i64 (p.getD 0 0)) := hld0 0 _ rfl
    have l1 : load? none (.ptr b1 o1) m' = some (.int .i64 (p.getD b 0)) := hld1 0 _ rfl
    have r0 := hp'.get 0
    have r1 := hp'.get b
    have hj : ∀ z : Int, 0 ≤ z ∧ z ≤ 23 → Ok (fun n => k n (.int .i64 ((3 * p.getD b 0 + z) / 4))) m' Q' → Ok (fun n => energy_expects_c2_j0 (fcall Tryz.prog ext1 n) n (.int .i64 b) (.int .i64 z) (.ptr m.next 0)) m' fun v m2 => Ok (fun n => k n v) m2 Q' := by
      intro z hz hk
      have e1 : IntKind.i64.wrap (3 * p.getD b 0) = 3 * p.getD b 0 := IntWalk.i64_in _ (by omega)
      have e2 : IntKind.i64.wrap (3 * p.getD b 0 + z) = 3 * p.getD b 0 + z := IntWalk.i64_in _ (by omega)
      have e3 : aBin .quo [] (.int .i64 (3 * p.getD b 0 + z)) (.int .i64 4) = some (.int .i64 ((3 * p.getD b 0 + z) / 4)) := by
        rw [aBin_quo _ _ _ _ (by decide), Int.tdiv_eq_ediv_of_nonneg (by omega), IntWalk.i64_in _ (by omega)]
      simp -implicitDefEqProofs only [energy_expects_c2_j0, lp_some', mc_true, mc_false, ok_ret, ok_mc, ok_snap, aBin_add, aBin_sub, aBin_mul, aBin_lss, aBin_leq, aBin_gtr, aBin_geq, aBin_eql, aBin_neq, aBin_eqlStr, aBin_neqStr, strEq_bs, aBin_eqlNil, aBin_eqlNil', aBin_neqNil, aBin_neqNil', aUn_not, aUn_neg, aNil_ptr, aOff_ptr, aInt_int, aLenStr_str, aLenS_slice, aLenS_nil, aFold_min, aFold_max, bs_size, bs_empty, Nat.zero_add, Nat.add_zero, Nat.reduceAdd, ok_load, Mem.get_set, Mem.set_set, List.getElem?_cons_zero, List.getElem?_cons_succ, Option.some.injEq, exists_eq_left', List.set_cons_zero, List.set_cons_succ, load_at hg', hix1, l1, e1, e2, e3]
      exact hk
    show Ok (fun n => bnd (fcall Tryz.prog ext1 n fn_energy_expects_c2 [.int .i64 b, .int .i64 last, .ptr m.next 0]) (k n)) m' Q'
    refine Ok.bnd (Ok.call (fun n => energy_expects_c2_eq rfl n _ _ _) ?_)
    simp -implicitDefEqProofs only [energy_expects_c2, lp_some', mc_true, mc_false, ok_ret, ok_mc, ok_snap, aBin_add, aBin_sub, aBin_mul, aBin_lss, aBin_leq, aBin_gtr, aBin_geq, aBin_eql, aBin_neq, aBin_eqlStr, aBin_neqStr, strEq_bs, aBin_eqlNil, aBin_eqlNil', aBin_neqNil, aBin_neqNil', aUn_not, aUn_neg, aNil_ptr, aOff_ptr, aInt_int, aLenStr_str, aLenS_slice, aLenS_nil, aFold_min, aFold_max, bs_size, bs_empty, Nat.zero_add, Nat.add_zero, Nat.reduceAdd, ok_load, Mem.get_set, Mem.set_set, List.getElem?_cons_zero, List.getElem?_cons_succ, Option.some.injEq, exists_eq_left', List.set_cons_zero, List.set_cons_succ]
    by_cases h : b = 0
    · subst h
      simp -implicitDefEqProofs only [expN, Bool.false_eq_true, if_false, if_true] at hk
      simp -implicitDefEqProofs only [Int.natCast_zero, decide_true, if_true, load_at hg', lp_some', mc_true, mc_false, ok_ret, ok_mc, ok_snap, aBin_add, aBin_sub, aBin_mul, aBin_lss, aBin_leq, aBin_gtr, aBin_geq, aBin_eql, aBin_neq, aBin_eqlStr, aBin_neqStr, strEq_bs, aBin_eqlNil, aBin_eqlNil', aBin_neqNil, aBin_neqNil', aUn_not, aUn_neg, aNil_ptr, aOff_ptr, aInt_int, aLenStr_str, aLenS_slice, aLenS_nil, aFold_min, aFold_max, bs_size, bs_empty, Nat.zero_add, Nat.add_zero, Nat.reduceAdd, ok_load, Mem.get_set, Mem.set_set, List.getElem?_cons_zero, List.getElem?_cons_succ, Option.some.injEq, exists_eq_left', List.set_cons_zero, List.set_cons_succ, hix0 .i64]
      have hix0' := hix0 .i64
      simp -implicitDefEqProofs only [Int.natCast_zero] at hix0'
      simp -implicitDefEqProofs only [hix0', lp_some', mc_true, mc_false, ok_ret, ok_mc, ok_snap, aBin_add, aBin_sub, aBin_mul, aBin_lss, aBin_leq, aBin_gtr, aBin_geq, aBin_eql, aBin_neq, aBin_eqlStr, aBin_neqStr, strEq_bs, aBin_eqlNil, aBin_eqlNil', aBin_neqNil, aBin_neqNil', aUn_not, aUn_neg, aNil_ptr, aOff_ptr, aInt_int, aLenStr_str, aLenS_slice, aLenS_nil, aFold_min, aFold_max, bs_size, bs_empty, Nat.zero_add, Nat.add_zero, Nat.reduceAdd, ok_load, Mem.get_set, Mem.set_set, List.getElem?_cons_zero, List.getElem?_cons_succ, Option.some.injEq, exists_eq_left', List.set_cons_zero, List.set_cons_succ, l0]
      exact hj _ r0 hk
    · have d : ¬ (b : Int) = 0 := by omega
      simp -implicitDefEqProofs only [expN, h, Bool.false_eq_true, if_false] at hk
      simp -implicitDefEqProofs only [d, decide_false, Bool.false_eq_true, if_false]
      exact hj _ hla hk

theorem deltas_ok {K L : Nat → Prop} {intra : Bool} {p c : List Int} {v w : AV} {m : Mem} {Q : AV → Mem → Prop} (hc : IntsR K m w c) (hK : ∀ b, K b → b < m.next) (hp : IntsR L m v p) (hL : ∀ b, L b → b < m.next) (hbn : m.base ≤ m.next) (hlp : p.length ≤ 4611686018427387904) (hlc : c.length ≤ 4611686018427387904)
    (hq : ∀ m' u, Same m m' → IntsR (fun b => m.next ≤ b ∧ b < m'.next) m' u (deltasO intra p c) → Q u m') : Ok (R fn_energy_Deltas [.bool intra, v, w]) m Q := by
  refine Ok.call (fun n => energy_Deltas_eq rfl n _ _ _) ?_
  simp -implicitDefEqProofs only [energy_Deltas]
  refine Ok.bnd (eright_ok hc hlc ?_)
  have hnone : ¬ DeltasP intra p c → Q .nilslice m := fun h => hq m _ (Same.refl m) (.inl ⟨.inl rfl, if_neg h⟩)
  have hsome : DeltasP intra p c → Ok (fun n => energy_Deltas_j0 (fcall Tryz.prog ext1 n) n (.bool intra) v w (.bool false)) m Q := by
    intro hD
    simp -implicitDefEqProofs only [energy_Deltas_j0, mc_false]
    refine Ok.bnd (expects_ok hp hL hD.2 fun m1 F hS1 hF => ?_)
    have h13 := hD.1.1
    have hdl : deltasO intra p c = deltasN intra p 0 0 c := if_pos hD
    rw [hdl] at hq
    have hz : (c.length : Int) = ((13 : Nat) : Int) := by omega
    simp -implicitDefEqProofs only [hc.len, lp_some', hz, ok_mkSlice1 (show 8 * 13 ≤ 35184372088832 by decide)]
    have hS2 := hS1.trans (Same.alloc m1 (.cells T_int 0 (List.replicate 13 (.int .i64 0))))
    have hS12 := Same.alloc m1 (.cells T_int 0 (List.replicate 13 (.int .i64 0)))
    have hg2 := Mem.get_alloc m1 (.cells T_int 0 (List.replicate 13 (.int .i64 0)))
    have hbn1 : (m1.alloc (.cells T_int 0 (List.replicate 13 (.int .i64 0)))).base ≤ m1.next := hS1.bn hbn
    have hnx2 : m1.next < (m1.alloc (.cells T_int 0 (List.replicate 13 (.int .i64 0)))).next := Nat.lt_succ_self _
    generalize m1.alloc (.cells T_int 0 (List.replicate 13 (.int .i64 0))) = m2 at *
    refine Ok.loop (fun k z m' => ∃ (i : Nat) (last : Int) (done : List Int), k + i = 13 ∧ z = [F, .slice m1.next 0 13 1, .int .i64 last, w, .int .i64 (13 : Nat), .int .i64 i] ∧ done.length = i ∧ (0 ≤ last ∧ last ≤ 23) ∧ m'.get m1.next = .cells T_int 0 (done.map (fun x => .int .i64 x) ++ List.replicate (13 - i) (.int .i64 0)) ∧ done ++ deltasN intra p i last (c.drop i) = deltasN intra p 0 0 c ∧ Chg (fun b => b = m1.next) m2 m') ?_ (k := 13) ⟨0, 0, [], rfl, rfl, rfl, by decide, hg2, rfl, Chg.refl _ _⟩
    clear hg2 hdl
    rintro k z m' rec ⟨i, last, done, hk, rfl, hdn, hla, hg, he, hch⟩ ih
    have hS := hS2.own (hS1.next) hch
    have hS1' := hS12.own (Nat.le_refl _) hch
    have hc' := hc.keep (m' := m') (fun b hb => hS.get (hK b hb))
    by_cases h2 : i < 13
    · have d3 : (i : Int) < ((13 : Nat) : Int) := by omega
      obtain ⟨x, hx, hdrop⟩ := drop_cons' (l := c) (i := i) (by omega)
      obtain ⟨b', o, ce, hix, hKb, -, ⟨rfl, -⟩, -, hld⟩ := hc'.at hx
      have hld0 : load? none (.ptr b' o) m' = some (.int .i64 x) := hld 0 _ rfl
      have hx23 := hD.1.2 x (List.mem_of_getElem? hx)
      have hex := expN_in (b := i) hD.2 hla
      rw [hdrop, deltasN] at he
      simp -implicitDefEqProofs only [List.getD_cons_zero, List.getD_cons_succ, energy_Deltas_l0, lp_some', mc_true, mc_false, ok_ret, ok_mc, ok_snap, aBin_add, aBin_sub, aBin_mul, aBin_lss, aBin_leq, aBin_gtr, aBin_geq, aBin_eql, aBin_neq, aBin_eqlStr, aBin_neqStr, strEq_bs, aBin_eqlNil, aBin_eqlNil', aBin_neqNil, aBin_neqNil', aUn_not, aUn_neg, aNil_ptr, aOff_ptr, aInt_int, aLenStr_str, aLenS_slice, aLenS_nil, aFold_min, aFold_max, bs_size, bs_empty, Nat.zero_add, Nat.add_zero, Nat.reduceAdd, ok_load, Mem.get_set, Mem.set_set, List.getElem?_cons_zero, List.getElem?_cons_succ, Option.some.injEq, exists_eq_left', List.set_cons_zero, List.set_cons_succ, d3, decide_true, if_true, hix, hld0]
      refine hF m' hS1' i last _ _ h2 hla ?_
      have e1 : IntKind.i64.wrap (x - expN intra p i last) = x - expN intra p i last := IntWalk.i64_in _ (by omega)
      have e2 : IntKind.i64.wrap ((i : Int) + 1) = ((i + 1 : Nat) : Int) := by rw [IntWalk.i64_in _ (by omega)]; omega
      have i2 := aIdxS_at (size := 1) (i := m1.next) (o := 0) (n := 13) (e := 1) (kd := .i64) h2
      have hbm : m'.base ≤ m1.next := by rw [hch.base]; exact hbn1
      have hset := set_fill (fun x => AV.int .i64 x) (.int .i64 0) done (x - expN intra p i last) (13 - (i + 1))
      rw [show 13 - (i + 1) + 1 = 13 - i by omega, hdn] at hset
      have hst := fun (k : Nat → AV → M AV) => ok_store (k := k) (Q := Q) (o := i) (v := .int .i64 (x - expN intra p i last)) hg hbm (Nat.zero_le _) (by simp; omega) (by simp)
      simp -implicitDefEqProofs only [lp_some', mc_true, mc_false, ok_ret, ok_mc, ok_snap, aBin_add, aBin_sub, aBin_mul, aBin_lss, aBin_leq, aBin_gtr, aBin_geq, aBin_eql, aBin_neq, aBin_eqlStr, aBin_neqStr, strEq_bs, aBin_eqlNil, aBin_eqlNil', aBin_neqNil, aBin_neqNil', aUn_not, aUn_neg, aNil_ptr, aOff_ptr, aInt_int, aLenStr_str, aLenS_slice, aLenS_nil, aFold_min, aFold_max, bs_size, bs_empty, Nat.zero_add, Nat.add_zero, Nat.reduceAdd, ok_load, Mem.get_set, Mem.set_set, List.getElem?_cons_zero, List.getElem?_cons_succ, Option.some.injEq, exists_eq_left', List.set_cons_zero, List.set_cons_succ, e1, e2, i2, Nat.mul_one, hst, hset]
      exact ih (k - 1) _ _ (by omega) ⟨i + 1, x, done ++ [x - expN intra p i last], by omega, rfl, by simp [hdn], hx23, by simp, by rw [List.append_assoc]; exact he, hch.trans (Chg.set _ _ _) (fun _ _ h => h)⟩
    · obtain rfl : i = 13 := by omega
      have d3 : ¬ ((13 : Nat) : Int) < ((13 : Nat) : Int) := by decide
      have hnil : c.drop 13 = [] := List.drop_eq_nil_of_le (by omega)
      rw [hnil, deltasN, List.append_nil] at he
      subst he
      simp -implicitDefEqProofs only [List.getD_cons_zero, List.getD_cons_succ, energy_Deltas_l0, lp_some', mc_true, mc_false, ok_ret, ok_mc, ok_snap, aBin_add, aBin_sub, aBin_mul, aBin_lss, aBin_leq, aBin_gtr, aBin_geq, aBin_eql, aBin_neq, aBin_eqlStr, aBin_neqStr, strEq_bs, aBin_eqlNil, aBin_eqlNil', aBin_neqNil, aBin_neqNil', aUn_not, aUn_neg, aNil_ptr, aOff_ptr, aInt_int, aLenStr_str, aLenS_slice, aLenS_nil, aFold_min, aFold_max, bs_size, bs_empty, Nat.zero_add, Nat.add_zero, Nat.reduceAdd, ok_load, Mem.get_set, Mem.set_set, List.getElem?_cons_zero, List.getElem?_cons_succ, Option.some.injEq, exists_eq_left', List.set_cons_zero, List.set_cons_succ, d3, decide_false, Bool.false_eq_true, if_false]
      refine hq m' _ hS ?_
      have := slR_own (K := fun b => m.next ≤ b ∧ b < m'.next) (R := RInt .i64) (f := fun x => .int .i64 x) (m := m') (i := m1.next) (ty := T_int) (fz := 0) (e := 1) (l := deltasN intra p 0 0 c) ⟨hS1.next, Nat.lt_of_lt_of_le hnx2 hch.next⟩ (by rw [hg]; simp) (fun x hx => ⟨rfl, ?_⟩)
      · rw [hdn] at this
        exact this
      · have := deltasN_in hD.2 (b := 0) (last := 0) hD.1.2 (by decide) x hx
        exact wf_i64 (by omega)
  by_cases h1 : RightP c
  · simp -implicitDefEqProofs only [h1, decide_true, lp_some', mc_true, mc_false, ok_ret, ok_mc, ok_snap, aBin_add, aBin_sub, aBin_mul, aBin_lss, aBin_leq, aBin_gtr, aBin_geq, aBin_eql, aBin_neq, aBin_eqlStr, aBin_neqStr, strEq_bs, aBin_eqlNil, aBin_eqlNil', aBin_neqNil, aBin_neqNil', aUn_not, aUn_neg, aNil_ptr, aOff_ptr, aInt_int, aLenStr_str, aLenS_slice, aLenS_nil, aFold_min, aFold_max, bs_size, bs_empty, Nat.zero_add, Nat.add_zero, Nat.reduceAdd, ok_load, Mem.get_set, Mem.set_set, List.getElem?_cons_zero, List.getElem?_cons_succ, Option.some.injEq, exists_eq_left', List.set_cons_zero, List.set_cons_succ, Bool.not_true, Bool.false_eq_true, if_false]
    cases intra with
    | true =>
      simp -implicitDefEqProofs only [Bool.not_true, Bool.false_eq_true, if_false]
      exact hsome ⟨h1, .inl rfl⟩
    | false =>
      simp -implicitDefEqProofs only [Bool.not_false, if_true]
      refine Ok.bnd (eright_ok hp hlp ?_)
      by_cases h2 : RightP p
      · simp -implicitDefEqProofs only [h2, decide_true, lp_some', mc_true, mc_false, ok_ret, ok_mc, ok_snap, aBin_add, aBin_sub, aBin_mul, aBin_lss, aBin_leq, aBin_gtr, aBin_geq, aBin_eql, aBin_neq, aBin_eqlStr, aBin_neqStr, strEq_bs, aBin_eqlNil, aBin_eqlNil', aBin_neqNil, aBin_neqNil', aUn_not, aUn_neg, aNil_ptr, aOff_ptr, aInt_int, aLenStr_str, aLenS_slice, aLenS_nil, aFold_min, aFold_max, bs_size, bs_empty, Nat.zero_add, Nat.add_zero, Nat.reduceAdd, ok_load, Mem.get_set, Mem.set_set, List.getElem?_cons_zero, List.getElem?_cons_succ, Option.some.injEq, exists_eq_left', List.set_cons_zero, List.set_cons_succ, Bool.not_true]
        exact hsome ⟨h1, .inr h2⟩
      · simp -implicitDefEqProofs only [h2, decide_false, lp_some', mc_true, mc_false, ok_ret, ok_mc, ok_snap, aBin_add, aBin_sub, aBin_mul, aBin_lss, aBin_leq, aBin_gtr, aBin_geq, aBin_eql, aBin_neq, aBin_eqlStr, aBin_neqStr, strEq_bs, aBin_eqlNil, aBin_eqlNil', aBin_neqNil, aBin_neqNil', aUn_not, aUn_neg, aNil_ptr, aOff_ptr, aInt_int, aLenStr_str, aLenS_slice, aLenS_nil, aFold_min, aFold_max, bs_size, bs_empty, Nat.zero_add, Nat.add_zero, Nat.reduceAdd, ok_load, Mem.get_set, Mem.set_set, List.getElem?_cons_zero, List.getElem?_cons_succ, Option.some.injEq, exists_eq_left', List.set_cons_zero, List.set_cons_succ, Bool.not_false, energy_Deltas_j0, if_true]
        exact hnone (fun h => by rcases h.2 with h | h; cases h; exact h2 h)
  · simp -implicitDefEqProofs only [h1, decide_false, lp_some', mc_true, mc_false, ok_ret, ok_mc, ok_snap, aBin_add, aBin_sub, aBin_mul, aBin_lss, aBin_leq, aBin_gtr, aBin_geq, aBin_eql, aBin_neq, aBin_eqlStr, aBin_neqStr, strEq_bs, aBin_eqlNil, aBin_eqlNil', aBin_neqNil, aBin_neqNil', aUn_not, aUn_neg, aNil_ptr, aOff_ptr, aInt_int, aLenStr_str, aLenS_slice, aLenS_nil, aFold_min, aFold_max, bs_size, bs_empty, Nat.zero_add, Nat.add_zero, Nat.reduceAdd, ok_load, Mem.get_set, Mem.set_set, List.getElem?_cons_zero, List.getElem?_cons_succ, Option.some.injEq, exists_eq_left', List.set_cons_zero, List.set_cons_succ, Bool.not_false, if_true, energy_Deltas_j0]
    exact hnone (fun h => h1 h.1)
end SplA
