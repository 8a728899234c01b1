/- What the functions of the decoders do. -/
import Derived.Test.YtooogfnmhfocjaaGreatDoorSplIv
import Derived.Test.YtooogfnmhfocjaaGreatDoorSplFA
namespace SplA
open Go.Proofs.YtooogfnmhfocjaaGreatDoor.Spl Go Go.Proofs
set_option maxRecDepth 100000
set_option linter.unusedVariables false
set_option linter.unusedSimpArgs false

noncomputable def ext0 : Ext := Ext.none.plus fn_internal_abi_NoEscape same1
noncomputable def ext1 : Ext := ext0.plus fn_law22_awake trueAlways
/-- A function's run. -/
noncomputable abbrev R (f : Nat) (args : List AV) : Nat → M AV := fun n => fcall Tryz.prog ext1 n f args

theorem right_ok {lo hi t : Int} {m : Mem} {Q : AV → Mem → Prop} (hq : Q (.bool (decide (0 ≤ lo ∧ lo < hi ∧ hi ≤ t ∧ t ≤ 65536))) m) : Ok (R fn_rc_right [.int .i64 lo, .int .i64 hi, .int .i64 t]) m Q := by
  refine Ok.call (fun n => rc_right_eq rfl n _ _ _) ?_
  simp -implicitDefEqProofs only [rc_right, rc_right_j0, aBin_leq, aBin_lss, lp_some', ok_mc, ok_ret]
  by_cases h1 : 0 ≤ lo <;> by_cases h2 : lo < hi <;> by_cases h3 : hi ≤ t <;> simp_all
  all_goals (intros; omega)

theorem next_ok {i : Nat} {a0 a1 a3 a4 : AV} {l : List UInt8} {m : Mem} {Q : AV → Mem → Prop} (h : m.get i = .cells T_rc_Decoder 0 [a0, a1, .str (bs l), a3, a4]) (hb : m.base ≤ i)
    (hq : Q (.int .u64 (hd l)) (m.set i (.cells T_rc_Decoder 0 [a0, a1, .str (bs l.tail), a3, a4]))) : Ok (R fn_rc_Decoder_next [.ptr i 0]) m Q := by
  refine Ok.call (fun n => rc_Decoder_next_eq rfl n _) ?_
  simp -implicitDefEqProofs only [rc_Decoder_next, lp_some', mc_true, mc_false, ok_ret, ok_mc, ok_snap, aBin_add, aBin_sub, aBin_mul, aBin_lss, aBin_leq, aBin_gtr, aBin_geq, aBin_eql, aBin_neq, aBin_eqlStr, aBin_neqStr, strEq_bs, aBin_eqlNil, aBin_eqlNil', aBin_neqNil, aBin_neqNil', aUn_not, aUn_neg, aNil_ptr, aOff_ptr, aInt_int, aLenStr_str, aLenS_slice, aLenS_nil, aFold_min, aFold_max, bs_size, bs_empty, Nat.zero_add, Nat.add_zero, Nat.reduceAdd, ok_load, Mem.get_set, Mem.set_set, List.getElem?_cons_zero, List.getElem?_cons_succ, Option.some.injEq, exists_eq_left', List.set_cons_zero, List.set_cons_succ, load_at h]
  cases l with
  | nil => simpa [hd, m.set_self i h] using hq
  | cons b l =>
    have hb8 := b.toNat_lt
    have e1 : aIdxStr (.str (bs (b :: l))) (.int .i64 0) = some (.int .u8 b.toNat) := by rw [aIdxStr_int _ _ _ (by omega)]; rfl
    have e2 : aSliceStr (.str (bs (b :: l))) (some (.int .i64 1)) none = some (.str (bs l)) := by rw [aSliceStr_from' _ _ _ (by simp; omega)]; rfl
    have e3 : IntKind.u64.wrap (b.toNat : Int) = (b.toNat : Int) := IntWalk.u64_in _ (by omega)
    simp -implicitDefEqProofs (disch := first | assumption | omega | (simp; done) | (simp; omega)) only [lp_some', mc_true, mc_false, ok_ret, ok_mc, ok_snap, aBin_add, aBin_sub, aBin_mul, aBin_lss, aBin_leq, aBin_gtr, aBin_geq, aBin_eql, aBin_neq, aBin_eqlStr, aBin_neqStr, strEq_bs, aBin_eqlNil, aBin_eqlNil', aBin_neqNil, aBin_neqNil', aUn_not, aUn_neg, aNil_ptr, aOff_ptr, aInt_int, aLenStr_str, aLenS_slice, aLenS_nil, aFold_min, aFold_max, bs_size, bs_empty, Nat.zero_add, Nat.add_zero, Nat.reduceAdd, ok_load, Mem.get_set, Mem.set_set, List.getElem?_cons_zero, List.getElem?_cons_succ, Option.some.injEq, exists_eq_left', List.set_cons_zero, List.set_cons_succ, load_at h, e1, e2, e3, ok_store h hb, reduceCtorEq, decide_false, Bool.false_eq_true, if_false]
    simpa [hd] using hq

theorem now_ok {i T : Nat} {s : Bool} {r : Nat} {rest : List AV} {m : Mem} {Q : AV → Mem → Prop} (h : m.get i = .cells T 0 (.bool s :: .int .u64 r :: rest)) (hb : m.base ≤ i)
    (hq : Q (.int .u64 (rngOf s r)) (m.set i (.cells T 0 (.bool true :: .int .u64 (rngOf s r) :: rest)))) : Ok (R fn_rc_narrowed_now [.ptr i 0]) m Q := by
  refine Ok.call (fun n => rc_narrowed_now_eq rfl n _) ?_
  cases s with
  | true =>
    rw [m.set_self i (by simpa [rngOf] using h)] at hq
    simp -implicitDefEqProofs only [rc_narrowed_now, rc_narrowed_now_j0, lp_some', mc_true, mc_false, ok_ret, ok_mc, ok_snap, aBin_add, aBin_sub, aBin_mul, aBin_lss, aBin_leq, aBin_gtr, aBin_geq, aBin_eql, aBin_neq, aBin_eqlStr, aBin_neqStr, strEq_bs, aBin_eqlNil, aBin_eqlNil', aBin_neqNil, aBin_neqNil', aUn_not, aUn_neg, aNil_ptr, aOff_ptr, aInt_int, aLenStr_str, aLenS_slice, aLenS_nil, aFold_min, aFold_max, bs_size, bs_empty, Nat.zero_add, Nat.add_zero, Nat.reduceAdd, ok_load, Mem.get_set, Mem.set_set, List.getElem?_cons_zero, List.getElem?_cons_succ, Option.some.injEq, exists_eq_left', List.set_cons_zero, List.set_cons_succ, load_at h]
    simpa [rngOf] using hq
  | false =>
    have h1 : (m.set i (.cells T 0 (.bool true :: .int .u64 r :: rest))).get i = .cells T 0 (.bool true :: .int .u64 r :: rest) := by simp
    have h2 : (m.set i (.cells T 0 (.bool true :: .int .u64 4294967295 :: rest))).get i = .cells T 0 (.bool true :: .int .u64 4294967295 :: rest) := by simp
    have hb1 : (m.set i (.cells T 0 (.bool true :: .int .u64 r :: rest))).base ≤ i := hb
    simp -implicitDefEqProofs (disch := first | assumption | omega | (simp; done) | (simp; omega)) only [rc_narrowed_now, rc_narrowed_now_j0, lp_some', mc_true, mc_false, ok_ret, ok_mc, ok_snap, aBin_add, aBin_sub, aBin_mul, aBin_lss, aBin_leq, aBin_gtr, aBin_geq, aBin_eql, aBin_neq, aBin_eqlStr, aBin_neqStr, strEq_bs, aBin_eqlNil, aBin_eqlNil', aBin_neqNil, aBin_neqNil', aUn_not, aUn_neg, aNil_ptr, aOff_ptr, aInt_int, aLenStr_str, aLenS_slice, aLenS_nil, aFold_min, aFold_max, bs_size, bs_empty, Nat.zero_add, Nat.add_zero, Nat.reduceAdd, ok_load, Mem.get_set, Mem.set_set, List.getElem?_cons_zero, List.getElem?_cons_succ, Option.some.injEq, exists_eq_left', List.set_cons_zero, List.set_cons_succ, load_at h, ok_store h hb, ok_store h1 hb1, load_at h2, Bool.not_false, if_true]
    simpa [rngOf] using hq

theorem narrow_ok {i T : Nat} {s : Bool} {r lo hi t : Nat} {rest : List AV} {m : Mem} {Q : AV → Mem → Prop} (h : m.get i = .cells T 0 (.bool s :: .int .u64 r :: rest)) (hb : m.base ≤ i)
    (hr : rngOf s r ≤ 4294967295) (hp : lo < hi ∧ hi ≤ t ∧ t ≤ 65536)
    (hq : Q (.int .u64 (rngOf s r / t * lo : Nat)) (m.set i (.cells T 0 (.bool true :: .int .u64 (partOf (rngOf s r) lo hi t) :: rest)))) : Ok (R fn_rc_narrowed_narrow [.ptr i 0, .int .i64 lo, .int .i64 hi, .int .i64 t]) m Q := by
  refine Ok.call (fun n => rc_narrowed_narrow_eq rfl n _ _ _ _) ?_
  refine Ok.bnd (now_ok h hb ?_)
  generalize hR : rngOf s r = R at *
  have h1 : (m.set i (.cells T 0 (.bool true :: .int .u64 R :: rest))).get i = .cells T 0 (.bool true :: .int .u64 R :: rest) := by simp
  have hb1 : (m.set i (.cells T 0 (.bool true :: .int .u64 R :: rest))).base ≤ i := hb
  have hd : R / t ≤ R := Nat.div_le_self _ _
  have hm : R / t * lo ≤ R := Nat.le_trans (Nat.mul_le_mul_left _ (by omega)) (Nat.div_mul_le_self R t)
  have hm2 : R / t * (hi - lo) ≤ R := Nat.le_trans (Nat.mul_le_mul_left _ (by omega)) (Nat.div_mul_le_self R t)
  have ht : (t : Int) ≠ 0 := by omega
  have e1 : IntKind.u64.wrap (t : Int) = t := IntWalk.u64_in _ (by omega)
  have e2 : IntKind.u64.wrap ((R : Int).tdiv t) = ((R / t : Nat) : Int) := by
    rw [show (R : Int).tdiv t = ((R / t : Nat) : Int) by rw [Int.tdiv_eq_ediv_of_nonneg (by omega)]; rfl]
    exact IntWalk.u64_in _ ⟨Int.natCast_nonneg _, by omega⟩
  have e3 : IntKind.u64.wrap (lo : Int) = lo := IntWalk.u64_in _ (by omega)
  have e4 : IntKind.u64.wrap (((R / t : Nat) : Int) * lo) = ((R / t * lo : Nat) : Int) := by
    rw [show ((R / t : Nat) : Int) * lo = ((R / t * lo : Nat) : Int) by rw [Int.natCast_mul]]
    exact IntWalk.u64_in _ ⟨Int.natCast_nonneg _, by omega⟩
  have e5 : IntKind.u64.wrap ((R : Int) - ((R / t * lo : Nat) : Int)) = ((R - R / t * lo : Nat) : Int) := by
    rw [show (R : Int) - ((R / t * lo : Nat) : Int) = ((R - R / t * lo : Nat) : Int) by omega]
    exact IntWalk.u64_in _ (by omega)
  have e6 : IntKind.u64.wrap (IntKind.i64.wrap ((hi : Int) - lo)) = ((hi - lo : Nat) : Int) := by
    rw [show (hi : Int) - lo = ((hi - lo : Nat) : Int) by omega, IntWalk.i64_in _ (by omega)]
    exact IntWalk.u64_in _ (by omega)
  have e7 : IntKind.u64.wrap (((R / t : Nat) : Int) * ((hi - lo : Nat) : Int)) = ((R / t * (hi - lo) : Nat) : Int) := by
    rw [show ((R / t : Nat) : Int) * ((hi - lo : Nat) : Int) = ((R / t * (hi - lo) : Nat) : Int) by rw [Int.natCast_mul]]
    exact IntWalk.u64_in _ ⟨Int.natCast_nonneg _, by omega⟩
  simp -implicitDefEqProofs (disch := first | assumption | omega | (simp; done) | (simp; omega)) only [rc_narrowed_narrow_j0, lp_some', mc_true, mc_false, ok_ret, ok_mc, ok_snap, aBin_add, aBin_sub, aBin_mul, aBin_lss, aBin_leq, aBin_gtr, aBin_geq, aBin_eql, aBin_neq, aBin_eqlStr, aBin_neqStr, strEq_bs, aBin_eqlNil, aBin_eqlNil', aBin_neqNil, aBin_neqNil', aUn_not, aUn_neg, aNil_ptr, aOff_ptr, aInt_int, aLenStr_str, aLenS_slice, aLenS_nil, aFold_min, aFold_max, bs_size, bs_empty, Nat.zero_add, Nat.add_zero, Nat.reduceAdd, ok_load, Mem.get_set, Mem.set_set, List.getElem?_cons_zero, List.getElem?_cons_succ, Option.some.injEq, exists_eq_left', List.set_cons_zero, List.set_cons_succ, e1, e2, e3, e4, e6, e7, aBin_quo _ _ _ _ ht, load_at h1, e5, ok_store h1 hb1]
  by_cases e : hi = t
  · subst e
    simpa [partOf] using hq
  · have : ¬ (hi : Int) = t := by omega
    simpa [partOf, e, this] using hq

theorem small_ok {i T : Nat} {b : AV} {r : Nat} {rest : List AV} {m : Mem} {Q : AV → Mem → Prop} (h : m.get i = .cells T 0 (b :: .int .u64 r :: rest)) (hb : m.base ≤ i)
    (hq : if 16777216 ≤ r then Q (.bool false) m else Q (.bool true) (m.set i (.cells T 0 (b :: .int .u64 (r * 256 : Nat) :: rest)))) : Ok (R fn_rc_narrowed_small [.ptr i 0]) m Q := by
  refine Ok.call (fun n => rc_narrowed_small_eq rfl n _) ?_
  have e1 : aBin .shl [] (.int .u64 r) (.int .u64 8) = some (.int .u64 (IntKind.u64.wrap ((r * 256 : Nat) : Int))) := by
    rw [aBin_shl _ _ _ _ _ (by decide), Int.natCast_mul]; rfl
  simp -implicitDefEqProofs (disch := first | assumption | omega | (simp; done) | (simp; omega)) only [rc_narrowed_small, lp_some', mc_true, mc_false, ok_ret, ok_mc, ok_snap, aBin_add, aBin_sub, aBin_mul, aBin_lss, aBin_leq, aBin_gtr, aBin_geq, aBin_eql, aBin_neq, aBin_eqlStr, aBin_neqStr, strEq_bs, aBin_eqlNil, aBin_eqlNil', aBin_neqNil, aBin_neqNil', aUn_not, aUn_neg, aNil_ptr, aOff_ptr, aInt_int, aLenStr_str, aLenS_slice, aLenS_nil, aFold_min, aFold_max, bs_size, bs_empty, Nat.zero_add, Nat.add_zero, Nat.reduceAdd, ok_load, Mem.get_set, Mem.set_set, List.getElem?_cons_zero, List.getElem?_cons_succ, Option.some.injEq, exists_eq_left', List.set_cons_zero, List.set_cons_succ, load_at h, e1, ok_store h hb]
  by_cases hr : 16777216 ≤ r
  · have : (16777216 : Int) ≤ r := by omega
    simp -implicitDefEqProofs only [hr, this, decide_true, if_true] at hq ⊢
    exact hq
  · have : ¬ (16777216 : Int) ≤ r := by omega
    simp -implicitDefEqProofs only [hr, this, decide_false, if_false] at hq ⊢
    rw [IntWalk.u64_in _ ⟨Int.natCast_nonneg _, by omega⟩]
    exact hq

def decObj (s : Bool) (r : Nat) (c : Nat) (l : List UInt8) : AObj := .cells T_rc_Decoder 0 [.bool s, .int .u64 r, .str (bs l), .int .u64 c, .bool true]

theorem take_loop {i : Nat} {T : Dec} {m0 : Mem} {Q : AV → Mem → Prop} (hb : m0.base ≤ i) (hq : Q (.tup []) (m0.set i (decObj true T.rng T.code T.l))) :
    ∀ {k : Nat} {d : Dec}, 1 ≤ d.rng → d.rng ≤ 4294967295 → d.code < d.rng → 16777216 ≤ d.rng * 256 ^ k → d.fill k = T →
      Ok (fun n => loopN (fun r l => rc_Decoder_Take_l0 (fcall Tryz.prog ext1 n) n r (l.getD 0 .undef)) n [.ptr i 0]) (m0.set i (decObj true d.rng d.code d.l)) Q := by
  intro k d h1 h2 h3 h4 h5
  refine Ok.loop (fun k l m => l = [.ptr i 0] ∧ ∃ d : Dec, m = m0.set i (decObj true d.rng d.code d.l) ∧ 1 ≤ d.rng ∧ d.rng ≤ 4294967295 ∧ d.code < d.rng ∧ 16777216 ≤ d.rng * 256 ^ k ∧ d.fill k = T) ?_ (k := k) ⟨rfl, d, rfl, h1, h2, h3, h4, h5⟩
  rintro k l m rec ⟨rfl, d, rfl, h1, h2, h3, h4, h5⟩ ih
  have hget : (m0.set i (decObj true d.rng d.code d.l)).get i = .cells T_rc_Decoder 0 [.bool true, .int .u64 d.rng, .str (bs d.l), .int .u64 d.code, .bool true] := by simp [decObj]
  simp -implicitDefEqProofs only [List.getD_cons_zero, rc_Decoder_Take_l0, aNil_ptr, aOff_ptr, lp_some', Nat.add_zero]
  refine Ok.bnd (small_ok hget hb ?_)
  by_cases hr : 16777216 ≤ d.rng
  · rw [if_pos hr]
    simp -implicitDefEqProofs only [mc_false, ok_ret]
    rw [Dec.fill_done hr] at h5
    subst h5; exact hq
  · rw [if_neg hr]
    have hh := hd_lt d.l
    have hget2 : (m0.set i (decObj true (d.rng * 256) d.code d.l)).get i = .cells T_rc_Decoder 0 [.bool true, .int .u64 (d.rng * 256 : Nat), .str (bs d.l), .int .u64 d.code, .bool true] := by simp [decObj]
    have hget3 : (m0.set i (decObj true (d.rng * 256) d.code d.l.tail)).get i = .cells T_rc_Decoder 0 [.bool true, .int .u64 (d.rng * 256 : Nat), .str (bs d.l.tail), .int .u64 d.code, .bool true] := by simp [decObj]
    have hb2 : (m0.set i (decObj true (d.rng * 256) d.code d.l.tail)).base ≤ i := hb
    have e1 : aBin .shl [] (.int .u64 d.code) (.int .u64 8) = some (.int .u64 ((d.code * 256 : Nat) : Int)) := by
      rw [aBin_shl _ _ _ _ _ (by decide), show (d.code : Int) * 2 ^ (8 : Int).toNat = ((d.code * 256 : Nat) : Int) by rw [Int.natCast_mul]; rfl, IntWalk.u64_in _ ⟨Int.natCast_nonneg _, by omega⟩]
    have e2 := aBin_or_u64 [] d.code (hd d.l) (by omega) hh
    simp -implicitDefEqProofs only [mc_true, Mem.set_set]
    have hm : m0.set i (.cells T_rc_Decoder 0 [.bool true, .int .u64 (d.rng * 256 : Nat), .str (bs d.l), .int .u64 d.code, .bool true]) = m0.set i (decObj true (d.rng * 256) d.code d.l) := rfl
    simp -implicitDefEqProofs only [hm, lp_some', mc_true, mc_false, ok_ret, ok_mc, ok_snap, aBin_add, aBin_sub, aBin_mul, aBin_lss, aBin_leq, aBin_gtr, aBin_geq, aBin_eql, aBin_neq, aBin_eqlStr, aBin_neqStr, strEq_bs, aBin_eqlNil, aBin_eqlNil', aBin_neqNil, aBin_neqNil', aUn_not, aUn_neg, aNil_ptr, aOff_ptr, aInt_int, aLenStr_str, aLenS_slice, aLenS_nil, aFold_min, aFold_max, bs_size, bs_empty, Nat.zero_add, Nat.add_zero, Nat.reduceAdd, ok_load, Mem.get_set, Mem.set_set, List.getElem?_cons_zero, List.getElem?_cons_succ, Option.some.injEq, exists_eq_left', List.set_cons_zero, List.set_cons_succ, load_at hget2, e1]
    refine Ok.bnd (next_ok hget2 hb ?_)
    simp -implicitDefEqProofs only [Mem.set_set]
    have hm2 : m0.set i (.cells T_rc_Decoder 0 [.bool true, .int .u64 (d.rng * 256 : Nat), .str (bs d.l.tail), .int .u64 d.code, .bool true]) = m0.set i (decObj true (d.rng * 256) d.code d.l.tail) := rfl
    rw [hm2]
    have e3 := fun (k : M AV) => same_at (o := 3) hget3 rfl (eqb_int _ _) k
    simp -implicitDefEqProofs (disch := first | assumption | omega | (simp; done) | (simp; omega)) only [lp_some', mc_true, mc_false, ok_ret, ok_mc, ok_snap, aBin_add, aBin_sub, aBin_mul, aBin_lss, aBin_leq, aBin_gtr, aBin_geq, aBin_eql, aBin_neq, aBin_eqlStr, aBin_neqStr, strEq_bs, aBin_eqlNil, aBin_eqlNil', aBin_neqNil, aBin_neqNil', aUn_not, aUn_neg, aNil_ptr, aOff_ptr, aInt_int, aLenStr_str, aLenS_slice, aLenS_nil, aFold_min, aFold_max, bs_size, bs_empty, Nat.zero_add, Nat.add_zero, Nat.reduceAdd, ok_load, Mem.get_set, Mem.set_set, List.getElem?_cons_zero, List.getElem?_cons_succ, Option.some.injEq, exists_eq_left', List.set_cons_zero, List.set_cons_succ, e3, e2, ok_store hget3 hb2]
    cases k with
    | zero => omega
    | succ k =>
      have h6 : d.fill (k + 1) = Dec.fill k ⟨d.rng * 256, d.code * 256 + hd d.l, d.l.tail⟩ := by simp [Dec.fill, hr]
      exact ih k _ _ (Nat.lt_succ_self _) ⟨rfl, ⟨d.rng * 256, d.code * 256 + hd d.l, d.l.tail⟩, rfl, by show 1 ≤ d.rng * 256; omega, by show d.rng * 256 ≤ _; omega, by show d.code * 256 + hd d.l < d.rng * 256; omega, by show _ ≤ d.rng * 256 * 256 ^ k; rw [Nat.mul_assoc, ← Nat.pow_succ']; exact h4, by rw [← h6]; exact h5⟩

/-- Take, of a part. -/
theorem take_ok {i lo hi t : Nat} {s : Bool} {r : Nat} {d : Dec} {m : Mem} {Q : AV → Mem → Prop} (h : m.get i = decObj s r d.code d.l) (hb : m.base ≤ i) (hr : rngOf s r = d.rng) (hd : d.Fits)
    (hp : lo < hi ∧ hi ≤ t ∧ t ≤ 65536) (hq : Q (.tup []) (m.set i (decObj true (d.take lo hi t).rng (d.take lo hi t).code (d.take lo hi t).l))) : Ok (R fn_rc_Decoder_Take [.ptr i 0, .int .i64 lo, .int .i64 hi, .int .i64 t]) m Q := by
  refine Ok.call (fun n => rc_Decoder_Take_eq rfl n _ _ _ _) ?_
  have hh := hd.hi
  have hc := hd.code
  obtain ⟨hp1, hp2⟩ := partOf_bounds hd.lo hd.hi hp
  have hget : m.get i = .cells T_rc_Decoder 0 [.bool s, .int .u64 r, .str (bs d.l), .int .u64 d.code, .bool true] := h
  simp -implicitDefEqProofs only [rc_Decoder_Take, lp_some', mc_true, mc_false, ok_ret, ok_mc, ok_snap, aBin_add, aBin_sub, aBin_mul, aBin_lss, aBin_leq, aBin_gtr, aBin_geq, aBin_eql, aBin_neq, aBin_eqlStr, aBin_neqStr, strEq_bs, aBin_eqlNil, aBin_eqlNil', aBin_neqNil, aBin_neqNil', aUn_not, aUn_neg, aNil_ptr, aOff_ptr, aInt_int, aLenStr_str, aLenS_slice, aLenS_nil, aFold_min, aFold_max, bs_size, bs_empty, Nat.zero_add, Nat.add_zero, Nat.reduceAdd, ok_load, Mem.get_set, Mem.set_set, List.getElem?_cons_zero, List.getElem?_cons_succ, Option.some.injEq, exists_eq_left', List.set_cons_zero, List.set_cons_succ, load_at hget, Bool.not_true, Bool.false_eq_true, if_false]
  refine Ok.bnd (right_ok ?_)
  have hdec : decide ((0 : Int) ≤ lo ∧ (lo : Int) < hi ∧ (hi : Int) ≤ t ∧ (t : Int) ≤ 65536) = true := decide_eq_true (by omega)
  simp -implicitDefEqProofs only [hdec, rc_Decoder_Take_j0, lp_some', mc_true, mc_false, ok_ret, ok_mc, ok_snap, aBin_add, aBin_sub, aBin_mul, aBin_lss, aBin_leq, aBin_gtr, aBin_geq, aBin_eql, aBin_neq, aBin_eqlStr, aBin_neqStr, strEq_bs, aBin_eqlNil, aBin_eqlNil', aBin_neqNil, aBin_neqNil', aUn_not, aUn_neg, aNil_ptr, aOff_ptr, aInt_int, aLenStr_str, aLenS_slice, aLenS_nil, aFold_min, aFold_max, bs_size, bs_empty, Nat.zero_add, Nat.add_zero, Nat.reduceAdd, ok_load, Mem.get_set, Mem.set_set, List.getElem?_cons_zero, List.getElem?_cons_succ, Option.some.injEq, exists_eq_left', List.set_cons_zero, List.set_cons_succ, Bool.not_true, Bool.false_eq_true, if_false]
  refine Ok.bnd (narrow_ok hget hb (by omega) hp ?_)
  rw [hr]
  have hget2 : (m.set i (.cells T_rc_Decoder 0 [.bool true, .int .u64 (partOf d.rng lo hi t), .str (bs d.l), .int .u64 d.code, .bool true])).get i = .cells T_rc_Decoder 0 [.bool true, .int .u64 (partOf d.rng lo hi t), .str (bs d.l), .int .u64 d.code, .bool true] := by simp
  have hb2 : (m.set i (.cells T_rc_Decoder 0 [.bool true, .int .u64 (partOf d.rng lo hi t), .str (bs d.l), .int .u64 d.code, .bool true])).base ≤ i := hb
  have e1 : IntKind.u64.wrap ((d.code : Int) - min (d.code : Int) ((d.rng / t * lo : Nat) : Int)) = ((d.code - d.rng / t * lo : Nat) : Int) := by
    rw [show (d.code : Int) - min (d.code : Int) ((d.rng / t * lo : Nat) : Int) = ((d.code - d.rng / t * lo : Nat) : Int) by omega]
    exact IntWalk.u64_in _ ⟨Int.natCast_nonneg _, by omega⟩
  have e2 : IntKind.u64.wrap ((partOf d.rng lo hi t : Int) - 1) = ((partOf d.rng lo hi t - 1 : Nat) : Int) := by
    rw [show (partOf d.rng lo hi t : Int) - 1 = ((partOf d.rng lo hi t - 1 : Nat) : Int) by omega]
    exact IntWalk.u64_in _ ⟨Int.natCast_nonneg _, by omega⟩
  have e3 : min ((d.code - d.rng / t * lo : Nat) : Int) ((partOf d.rng lo hi t - 1 : Nat) : Int) = ((min (d.code - d.rng / t * lo) (partOf d.rng lo hi t - 1) : Nat) : Int) := by omega
  simp -implicitDefEqProofs (disch := first | assumption | omega | (simp; done) | (simp; omega)) only [lp_some', mc_true, mc_false, ok_ret, ok_mc, ok_snap, aBin_add, aBin_sub, aBin_mul, aBin_lss, aBin_leq, aBin_gtr, aBin_geq, aBin_eql, aBin_neq, aBin_eqlStr, aBin_neqStr, strEq_bs, aBin_eqlNil, aBin_eqlNil', aBin_neqNil, aBin_neqNil', aUn_not, aUn_neg, aNil_ptr, aOff_ptr, aInt_int, aLenStr_str, aLenS_slice, aLenS_nil, aFold_min, aFold_max, bs_size, bs_empty, Nat.zero_add, Nat.add_zero, Nat.reduceAdd, ok_load, Mem.get_set, Mem.set_set, List.getElem?_cons_zero, List.getElem?_cons_succ, Option.some.injEq, exists_eq_left', List.set_cons_zero, List.set_cons_succ, load_at hget2, e1, e2, e3, ok_store hget2 hb2]
  exact take_loop (d := ⟨partOf d.rng lo hi t, min (d.code - d.rng / t * lo) (partOf d.rng lo hi t - 1), d.l⟩) (k := 3) hb hq (by show 1 ≤ partOf d.rng lo hi t; omega) (by show partOf d.rng lo hi t ≤ _; omega) (by show min _ _ < partOf d.rng lo hi t; omega) (by show _ ≤ partOf d.rng lo hi t * _; omega) rfl

/-- Take, of what is no part. -/
theorem take_not {i : Nat} {lo hi t : Int} {s : Bool} {r c : Nat} {l : List UInt8} {m : Mem} {Q : AV → Mem → Prop} (h : m.get i = decObj s r c l) (hp : ¬ (0 ≤ lo ∧ lo < hi ∧ hi ≤ t ∧ t ≤ 65536)) (hq : Q (.tup []) m) :
    Ok (R fn_rc_Decoder_Take [.ptr i 0, .int .i64 lo, .int .i64 hi, .int .i64 t]) m Q := by
  refine Ok.call (fun n => rc_Decoder_Take_eq rfl n _ _ _ _) ?_
  have hget : m.get i = .cells T_rc_Decoder 0 [.bool s, .int .u64 r, .str (bs l), .int .u64 c, .bool true] := h
  simp -implicitDefEqProofs only [rc_Decoder_Take, lp_some', mc_true, mc_false, ok_ret, ok_mc, ok_snap, aBin_add, aBin_sub, aBin_mul, aBin_lss, aBin_leq, aBin_gtr, aBin_geq, aBin_eql, aBin_neq, aBin_eqlStr, aBin_neqStr, strEq_bs, aBin_eqlNil, aBin_eqlNil', aBin_neqNil, aBin_neqNil', aUn_not, aUn_neg, aNil_ptr, aOff_ptr, aInt_int, aLenStr_str, aLenS_slice, aLenS_nil, aFold_min, aFold_max, bs_size, bs_empty, Nat.zero_add, Nat.add_zero, Nat.reduceAdd, ok_load, Mem.get_set, Mem.set_set, List.getElem?_cons_zero, List.getElem?_cons_succ, Option.some.injEq, exists_eq_left', List.set_cons_zero, List.set_cons_succ, load_at hget, Bool.not_true, Bool.false_eq_true, if_false]
  refine Ok.bnd (right_ok ?_)
  have hdec : decide (0 ≤ lo ∧ lo < hi ∧ hi ≤ t ∧ t ≤ 65536) = false := decide_eq_false hp
  simp -implicitDefEqProofs only [hdec, rc_Decoder_Take_j0, lp_some', mc_true, mc_false, ok_ret, ok_mc, ok_snap, aBin_add, aBin_sub, aBin_mul, aBin_lss, aBin_leq, aBin_gtr, aBin_geq, aBin_eql, aBin_neq, aBin_eqlStr, aBin_neqStr, strEq_bs, aBin_eqlNil, aBin_eqlNil', aBin_neqNil, aBin_neqNil', aUn_not, aUn_neg, aNil_ptr, aOff_ptr, aInt_int, aLenStr_str, aLenS_slice, aLenS_nil, aFold_min, aFold_max, bs_size, bs_empty, Nat.zero_add, Nat.add_zero, Nat.reduceAdd, ok_load, Mem.get_set, Mem.set_set, List.getElem?_cons_zero, List.getElem?_cons_succ, Option.some.injEq, exists_eq_left', List.set_cons_zero, List.set_cons_succ, Bool.not_false, if_true]
  exact hq

/-- Place, in a whole. -/
theorem place_ok {i t : Nat} {s : Bool} {r : Nat} {d : Dec} {m : Mem} {Q : AV → Mem → Prop} (h : m.get i = decObj s r d.code d.l) (hb : m.base ≤ i) (hr : rngOf s r = d.rng) (hd : d.Fits)
    (ht : 1 ≤ t ∧ t ≤ 65536) (hq : Q (.int .i64 (d.place t)) (m.set i (decObj true d.rng d.code d.l))) : Ok (R fn_rc_Decoder_Place [.ptr i 0, .int .i64 t]) m Q := by
  refine Ok.call (fun n => rc_Decoder_Place_eq rfl n _ _) ?_
  have hh := hd.hi
  have hl := hd.lo
  have hc := hd.code
  have hget : m.get i = .cells T_rc_Decoder 0 [.bool s, .int .u64 r, .str (bs d.l), .int .u64 d.code, .bool true] := h
  simp -implicitDefEqProofs only [rc_Decoder_Place, lp_some', mc_true, mc_false, ok_ret, ok_mc, ok_snap, aBin_add, aBin_sub, aBin_mul, aBin_lss, aBin_leq, aBin_gtr, aBin_geq, aBin_eql, aBin_neq, aBin_eqlStr, aBin_neqStr, strEq_bs, aBin_eqlNil, aBin_eqlNil', aBin_neqNil, aBin_neqNil', aUn_not, aUn_neg, aNil_ptr, aOff_ptr, aInt_int, aLenStr_str, aLenS_slice, aLenS_nil, aFold_min, aFold_max, bs_size, bs_empty, Nat.zero_add, Nat.add_zero, Nat.reduceAdd, ok_load, Mem.get_set, Mem.set_set, List.getElem?_cons_zero, List.getElem?_cons_succ, Option.some.injEq, exists_eq_left', List.set_cons_zero, List.set_cons_succ, load_at hget, Bool.not_true, Bool.false_eq_true, if_false]
  refine Ok.bnd (right_ok ?_)
  have hdec : decide ((0 : Int) ≤ 0 ∧ (0 : Int) < t ∧ (t : Int) ≤ t ∧ (t : Int) ≤ 65536) = true := decide_eq_true (by omega)
  simp -implicitDefEqProofs only [hdec, rc_Decoder_Place_j0, lp_some', mc_true, mc_false, ok_ret, ok_mc, ok_snap, aBin_add, aBin_sub, aBin_mul, aBin_lss, aBin_leq, aBin_gtr, aBin_geq, aBin_eql, aBin_neq, aBin_eqlStr, aBin_neqStr, strEq_bs, aBin_eqlNil, aBin_eqlNil', aBin_neqNil, aBin_neqNil', aUn_not, aUn_neg, aNil_ptr, aOff_ptr, aInt_int, aLenStr_str, aLenS_slice, aLenS_nil, aFold_min, aFold_max, bs_size, bs_empty, Nat.zero_add, Nat.add_zero, Nat.reduceAdd, ok_load, Mem.get_set, Mem.set_set, List.getElem?_cons_zero, List.getElem?_cons_succ, Option.some.injEq, exists_eq_left', List.set_cons_zero, List.set_cons_succ, Bool.not_true, Bool.false_eq_true, if_false, load_at hget]
  refine Ok.bnd (now_ok hget hb ?_)
  rw [hr]
  have hget2 : (m.set i (.cells T_rc_Decoder 0 [.bool true, .int .u64 d.rng, .str (bs d.l), .int .u64 d.code, .bool true])).get i = .cells T_rc_Decoder 0 [.bool true, .int .u64 d.rng, .str (bs d.l), .int .u64 d.code, .bool true] := by simp
  have e0 := fun (k : M AV) => same_at (o := 3) hget2 rfl (eqb_int _ _) k
  have hq1 : 256 ≤ d.rng / t := (Nat.le_div_iff_mul_le (by omega)).2 (by omega)
  have hq2 : d.rng / t ≤ d.rng := Nat.div_le_self _ _
  have hq3 : d.code / (d.rng / t) ≤ d.code := Nat.div_le_self _ _
  have e1 : IntKind.u64.wrap (t : Int) = t := IntWalk.u64_in _ (by omega)
  have e2 : IntKind.u64.wrap ((d.rng : Int).tdiv t) = ((d.rng / t : Nat) : Int) := by
    rw [show (d.rng : Int).tdiv t = ((d.rng / t : Nat) : Int) by rw [Int.tdiv_eq_ediv_of_nonneg (by omega)]; rfl]
    exact IntWalk.u64_in _ ⟨Int.natCast_nonneg _, by omega⟩
  have e3 : IntKind.u64.wrap ((d.code : Int).tdiv ((d.rng / t : Nat) : Int)) = ((d.code / (d.rng / t) : Nat) : Int) := by
    rw [show (d.code : Int).tdiv ((d.rng / t : Nat) : Int) = ((d.code / (d.rng / t) : Nat) : Int) by rw [Int.tdiv_eq_ediv_of_nonneg (by omega)]; rfl]
    exact IntWalk.u64_in _ ⟨Int.natCast_nonneg _, by omega⟩
  have e4 : IntKind.i64.wrap ((d.code / (d.rng / t) : Nat) : Int) = ((d.code / (d.rng / t) : Nat) : Int) := IntWalk.i64_in _ ⟨Int.le_trans (by decide) (Int.natCast_nonneg _), by omega⟩
  have e5 : IntKind.i64.wrap ((t : Int) - 1) = ((t - 1 : Nat) : Int) := by
    rw [show (t : Int) - 1 = ((t - 1 : Nat) : Int) by omega]
    exact IntWalk.i64_in _ ⟨Int.le_trans (by decide) (Int.natCast_nonneg _), by omega⟩
  have e6 : min ((t - 1 : Nat) : Int) ((d.code / (d.rng / t) : Nat) : Int) = ((d.place t : Nat) : Int) := by unfold Dec.place; omega
  have h1 : (t : Int) ≠ 0 := by omega
  have h2 : ((d.rng / t : Nat) : Int) ≠ 0 := by omega
  simp -implicitDefEqProofs only [lp_some', mc_true, mc_false, ok_ret, ok_mc, ok_snap, aBin_add, aBin_sub, aBin_mul, aBin_lss, aBin_leq, aBin_gtr, aBin_geq, aBin_eql, aBin_neq, aBin_eqlStr, aBin_neqStr, strEq_bs, aBin_eqlNil, aBin_eqlNil', aBin_neqNil, aBin_neqNil', aUn_not, aUn_neg, aNil_ptr, aOff_ptr, aInt_int, aLenStr_str, aLenS_slice, aLenS_nil, aFold_min, aFold_max, bs_size, bs_empty, Nat.zero_add, Nat.add_zero, Nat.reduceAdd, ok_load, Mem.get_set, Mem.set_set, List.getElem?_cons_zero, List.getElem?_cons_succ, Option.some.injEq, exists_eq_left', List.set_cons_zero, List.set_cons_succ, e0, e1, e5, aBin_quo _ _ _ _ h1, e2, aBin_quo _ _ _ _ h2, e3, e4, e6]
  exact hq

/-- Place, in what is no whole. -/
theorem place_not {i : Nat} {t : Int} {s : Bool} {r c : Nat} {l : List UInt8} {m : Mem} {Q : AV → Mem → Prop} (h : m.get i = decObj s r c l) (ht : ¬ (1 ≤ t ∧ t ≤ 65536)) (hq : Q (.int .i64 0) m) :
    Ok (R fn_rc_Decoder_Place [.ptr i 0, .int .i64 t]) m Q := by
  refine Ok.call (fun n => rc_Decoder_Place_eq rfl n _ _) ?_
  have hget : m.get i = .cells T_rc_Decoder 0 [.bool s, .int .u64 r, .str (bs l), .int .u64 c, .bool true] := h
  simp -implicitDefEqProofs only [rc_Decoder_Place, lp_some', mc_true, mc_false, ok_ret, ok_mc, ok_snap, aBin_add, aBin_sub, aBin_mul, aBin_lss, aBin_leq, aBin_gtr, aBin_geq, aBin_eql, aBin_neq, aBin_eqlStr, aBin_neqStr, strEq_bs, aBin_eqlNil, aBin_eqlNil', aBin_neqNil, aBin_neqNil', aUn_not, aUn_neg, aNil_ptr, aOff_ptr, aInt_int, aLenStr_str, aLenS_slice, aLenS_nil, aFold_min, aFold_max, bs_size, bs_empty, Nat.zero_add, Nat.add_zero, Nat.reduceAdd, ok_load, Mem.get_set, Mem.set_set, List.getElem?_cons_zero, List.getElem?_cons_succ, Option.some.injEq, exists_eq_left', List.set_cons_zero, List.set_cons_succ, load_at hget, Bool.not_true, Bool.false_eq_true, if_false]
  refine Ok.bnd (right_ok ?_)
  have hdec : decide (0 ≤ (0 : Int) ∧ 0 < t ∧ t ≤ t ∧ t ≤ 65536) = false := decide_eq_false (by omega)
  simp -implicitDefEqProofs only [hdec, rc_Decoder_Place_j0, lp_some', mc_true, mc_false, ok_ret, ok_mc, ok_snap, aBin_add, aBin_sub, aBin_mul, aBin_lss, aBin_leq, aBin_gtr, aBin_geq, aBin_eql, aBin_neq, aBin_eqlStr, aBin_neqStr, strEq_bs, aBin_eqlNil, aBin_eqlNil', aBin_neqNil, aBin_neqNil', aUn_not, aUn_neg, aNil_ptr, aOff_ptr, aInt_int, aLenStr_str, aLenS_slice, aLenS_nil, aFold_min, aFold_max, bs_size, bs_empty, Nat.zero_add, Nat.add_zero, Nat.reduceAdd, ok_load, Mem.get_set, Mem.set_set, List.getElem?_cons_zero, List.getElem?_cons_succ, Option.some.injEq, exists_eq_left', List.set_cons_zero, List.set_cons_succ, Bool.not_false, if_true]
  exact hq

/-! New -/
theorem new_ok {l : List UInt8} {m : Mem} {Q : AV → Mem → Prop} (hb : m.base ≤ m.next) (hq : Q (.ptr m.next 0) (m.alloc (decObj false 0 (Dec.start l).code (Dec.start l).l))) : Ok (R fn_rc_New [.str (bs l)]) m Q := by
  refine Ok.call (fun n => rc_New_eq rfl n _) ?_
  have hfill : (aFill (fun i => [(0, 2), (2, 1), (3, 1), (4, 1)][i]?) [.bool false, .int .u64 0, .str .empty, .int .u64 0, .bool false] [(1, .str (bs l)), (3, (.bool true))]).map AV.agg = some (.agg [.bool false, .int .u64 0, .str (bs l), .int .u64 0, .bool true]) := rfl
  simp -implicitDefEqProofs only [rc_New, hfill, lp_some', ok_box]
  have hm : m.alloc (.cells T_rc_Decoder 0 [.bool false, .int .u64 0, .str (bs l), .int .u64 0, .bool true]) = m.alloc (decObj false 0 0 l) := rfl
  rw [hm]
  refine Ok.loop (fun k v m' => ∃ j : Nat, k + j = 4 ∧ v = [.ptr m.next 0, .int .i64 j] ∧ ∃ d : Dec, m' = m.alloc (decObj false 0 d.code d.l) ∧ d.code < 256 ^ j ∧ d.rng = 4294967295 ∧ d.init k = Dec.start l) ?_ (k := 4) ⟨0, rfl, rfl, ⟨4294967295, 0, l⟩, rfl, by show 0 < 256 ^ 0; decide, rfl, rfl⟩
  rintro k v m' rec ⟨j, hk, rfl, d, rfl, hc, hr, hi⟩ ih
  have hget : (m.alloc (decObj false 0 d.code d.l)).get m.next = .cells T_rc_Decoder 0 [.bool false, .int .u64 (0 : Nat), .str (bs d.l), .int .u64 d.code, .bool true] := Mem.get_alloc _ _
  have hb1 : (m.alloc (decObj false 0 d.code d.l)).base ≤ m.next := hb
  simp -implicitDefEqProofs only [List.getD_cons_zero, List.getD_cons_succ, rc_New_l0, lp_some', mc_true, mc_false, ok_ret, ok_mc, ok_snap, aBin_add, aBin_sub, aBin_mul, aBin_lss, aBin_leq, aBin_gtr, aBin_geq, aBin_eql, aBin_neq, aBin_eqlStr, aBin_neqStr, strEq_bs, aBin_eqlNil, aBin_eqlNil', aBin_neqNil, aBin_neqNil', aUn_not, aUn_neg, aNil_ptr, aOff_ptr, aInt_int, aLenStr_str, aLenS_slice, aLenS_nil, aFold_min, aFold_max, bs_size, bs_empty, Nat.zero_add, Nat.add_zero, Nat.reduceAdd, ok_load, Mem.get_set, Mem.set_set, List.getElem?_cons_zero, List.getElem?_cons_succ, Option.some.injEq, exists_eq_left', List.set_cons_zero, List.set_cons_succ]
  cases k with
  | zero =>
    have : ¬ (j : Int) < 4 := by omega
    simp -implicitDefEqProofs only [this, decide_false, Bool.false_eq_true, if_false]
    have e : Dec.start l = d := hi.symm
    rw [e] at hq
    exact hq
  | succ k =>
    have hj : (j : Int) < 4 := by omega
    have hh := hd_lt d.l
    have hc4 : d.code < 16777216 := by
      have : 256 ^ j ≤ 256 ^ 3 := Nat.pow_le_pow_right (by decide) (by omega)
      omega
    have e1 : aBin .shl [] (.int .u64 d.code) (.int .u64 8) = some (.int .u64 ((d.code * 256 : Nat) : Int)) := by
      rw [aBin_shl _ _ _ _ _ (by decide), show (d.code : Int) * 2 ^ (8 : Int).toNat = ((d.code * 256 : Nat) : Int) by rw [Int.natCast_mul]; rfl, IntWalk.u64_in _ ⟨Int.natCast_nonneg _, by omega⟩]
    have e2 := aBin_or_u64 [] d.code (hd d.l) (by omega) hh
    simp -implicitDefEqProofs only [hj, decide_true, if_true, load_at hget, lp_some', mc_true, mc_false, ok_ret, ok_mc, ok_snap, aBin_add, aBin_sub, aBin_mul, aBin_lss, aBin_leq, aBin_gtr, aBin_geq, aBin_eql, aBin_neq, aBin_eqlStr, aBin_neqStr, strEq_bs, aBin_eqlNil, aBin_eqlNil', aBin_neqNil, aBin_neqNil', aUn_not, aUn_neg, aNil_ptr, aOff_ptr, aInt_int, aLenStr_str, aLenS_slice, aLenS_nil, aFold_min, aFold_max, bs_size, bs_empty, Nat.zero_add, Nat.add_zero, Nat.reduceAdd, ok_load, Mem.get_set, Mem.set_set, List.getElem?_cons_zero, List.getElem?_cons_succ, Option.some.injEq, exists_eq_left', List.set_cons_zero, List.set_cons_succ, e1]
    refine Ok.bnd (next_ok hget hb1 ?_)
    have hm2 : (m.alloc (decObj false 0 d.code d.l)).set m.next (.cells T_rc_Decoder 0 [.bool false, .int .u64 (0 : Nat), .str (bs d.l.tail), .int .u64 d.code, .bool true]) = m.alloc (decObj false 0 d.code d.l.tail) := Mem.alloc_set _ _ _
    rw [hm2]
    have hget3 : (m.alloc (decObj false 0 d.code d.l.tail)).get m.next = .cells T_rc_Decoder 0 [.bool false, .int .u64 (0 : Nat), .str (bs d.l.tail), .int .u64 d.code, .bool true] := Mem.get_alloc _ _
    have hb3 : (m.alloc (decObj false 0 d.code d.l.tail)).base ≤ m.next := hb
    have e3 := fun (k : M AV) => same_at (o := 3) hget3 rfl (eqb_int _ _) k
    have e4 : IntKind.i64.wrap ((j : Int) + 1) = ((j + 1 : Nat) : Int) := by rw [IntWalk.i64_in _ (by omega)]; rfl
    simp -implicitDefEqProofs (disch := first | assumption | omega | (simp; done) | (simp; omega)) only [lp_some', mc_true, mc_false, ok_ret, ok_mc, ok_snap, aBin_add, aBin_sub, aBin_mul, aBin_lss, aBin_leq, aBin_gtr, aBin_geq, aBin_eql, aBin_neq, aBin_eqlStr, aBin_neqStr, strEq_bs, aBin_eqlNil, aBin_eqlNil', aBin_neqNil, aBin_neqNil', aUn_not, aUn_neg, aNil_ptr, aOff_ptr, aInt_int, aLenStr_str, aLenS_slice, aLenS_nil, aFold_min, aFold_max, bs_size, bs_empty, Nat.zero_add, Nat.add_zero, Nat.reduceAdd, ok_load, Mem.get_set, Mem.set_set, List.getElem?_cons_zero, List.getElem?_cons_succ, Option.some.injEq, exists_eq_left', List.set_cons_zero, List.set_cons_succ, e3, e2, ok_store hget3 hb3, e4, Mem.alloc_set]
    refine ih k _ _ (Nat.lt_succ_self _) ⟨j + 1, by omega, rfl, ⟨d.rng, d.code * 256 + hd d.l, d.l.tail⟩, rfl, by show d.code * 256 + hd d.l < 256 ^ (j + 1); rw [Nat.pow_succ]; omega, hr, hi⟩

/-! the document's decoder -/

def refObj (S : List UInt8) (a : Nat) (c r : Int) : AObj := .cells T_ref04_Decoder 0 [.str (bs S), .int .i64 a, .int .i64 c, .int .i64 r]

theorem drop_tail (S : List UInt8) (a : Nat) : (S.drop a).tail = S.drop (a + 1) := by simp [List.tail_drop]

theorem ref_next_ok {i a : Nat} {S : List UInt8} {x2 x3 : AV} {m : Mem} {Q : AV → Mem → Prop} (h : m.get i = .cells T_ref04_Decoder 0 [.str (bs S), .int .i64 a, x2, x3]) (hb : m.base ≤ i) (ha : a < 1000000)
    (hq : Q (.int .i64 (hd (S.drop a))) (m.set i (.cells T_ref04_Decoder 0 [.str (bs S), .int .i64 (a + 1 : Nat), x2, x3]))) : Ok (R fn_ref04_Decoder_next [.ptr i 0]) m Q := by
  refine Ok.call (fun n => ref04_Decoder_next_eq rfl n _) ?_
  have e1 : IntKind.i64.wrap ((a : Int) + 1) = ((a + 1 : Nat) : Int) := by rw [IntWalk.i64_in _ (by omega)]; rfl
  have h1 : (m.set i (.cells T_ref04_Decoder 0 [.str (bs S), .int .i64 (a + 1 : Nat), x2, x3])).get i = .cells T_ref04_Decoder 0 [.str (bs S), .int .i64 (a + 1 : Nat), x2, x3] := by simp
  simp -implicitDefEqProofs (disch := first | assumption | omega | (simp; done) | (simp; omega)) only [ref04_Decoder_next, lp_some', mc_true, mc_false, ok_ret, ok_mc, ok_snap, aBin_add, aBin_sub, aBin_mul, aBin_lss, aBin_leq, aBin_gtr, aBin_geq, aBin_eql, aBin_neq, aBin_eqlStr, aBin_neqStr, strEq_bs, aBin_eqlNil, aBin_eqlNil', aBin_neqNil, aBin_neqNil', aUn_not, aUn_neg, aNil_ptr, aOff_ptr, aInt_int, aLenStr_str, aLenS_slice, aLenS_nil, aFold_min, aFold_max, bs_size, bs_empty, Nat.zero_add, Nat.add_zero, Nat.reduceAdd, ok_load, Mem.get_set, Mem.set_set, List.getElem?_cons_zero, List.getElem?_cons_succ, Option.some.injEq, exists_eq_left', List.set_cons_zero, List.set_cons_succ, load_at h, e1, ok_store h hb, load_at h1]
  by_cases hl : S.length < a + 1
  · have h2 : (S.length : Int) < ((a + 1 : Nat) : Int) := by omega
    have h3 : S.drop a = [] := List.drop_eq_nil_of_le (by omega)
    simp -implicitDefEqProofs only [h2, decide_true, if_true]
    rw [h3] at hq; exact hq
  · have h2 : ¬ (S.length : Int) < ((a + 1 : Nat) : Int) := by omega
    have hla : a < S.length := by omega
    have e2 : IntKind.i64.wrap (((a + 1 : Nat) : Int) - 1) = (a : Int) := by
      rw [show ((a + 1 : Nat) : Int) - 1 = (a : Int) by omega, IntWalk.i64_in _ (by omega)]
    have e3 : aIdxStr (.str (bs S)) (.int .i64 (a : Int)) = some (.int .u8 (S[a].toNat)) := aIdxStr_bs S .i64 a (List.getElem?_eq_getElem hla)
    have hb8 := S[a].toNat_lt
    have e4 : IntKind.i64.wrap (S[a].toNat : Int) = (S[a].toNat : Int) := IntWalk.i64_in _ (by omega)
    simp -implicitDefEqProofs only [h2, decide_false, Bool.false_eq_true, if_false, e2, e3, e4, lp_some', mc_true, mc_false, ok_ret, ok_mc, ok_snap, aBin_add, aBin_sub, aBin_mul, aBin_lss, aBin_leq, aBin_gtr, aBin_geq, aBin_eql, aBin_neq, aBin_eqlStr, aBin_neqStr, strEq_bs, aBin_eqlNil, aBin_eqlNil', aBin_neqNil, aBin_neqNil', aUn_not, aUn_neg, aNil_ptr, aOff_ptr, aInt_int, aLenStr_str, aLenS_slice, aLenS_nil, aFold_min, aFold_max, bs_size, bs_empty, Nat.zero_add, Nat.add_zero, Nat.reduceAdd, ok_load, Mem.get_set, Mem.set_set, List.getElem?_cons_zero, List.getElem?_cons_succ, Option.some.injEq, exists_eq_left', List.set_cons_zero, List.set_cons_succ]
    have h5 : hd (S.drop a) = S[a].toNat := by rw [List.drop_eq_getElem_cons hla]; rfl
    rw [h5] at hq; exact hq

theorem ref_right_ok {lo hi t : Int} {m : Mem} {Q : AV → Mem → Prop} (hq : Q (.bool (decide (0 ≤ lo ∧ lo < hi ∧ hi ≤ t ∧ t ≤ 65536))) m) : Ok (R fn_ref04_Right [.int .i64 lo, .int .i64 hi, .int .i64 t]) m Q := by
  refine Ok.call (fun n => ref04_Right_eq rfl n _ _ _) ?_
  simp -implicitDefEqProofs only [ref04_Right, ref04_Right_j0, lp_some', mc_true, mc_false, ok_ret, ok_mc, ok_snap, aBin_add, aBin_sub, aBin_mul, aBin_lss, aBin_leq, aBin_gtr, aBin_geq, aBin_eql, aBin_neq, aBin_eqlStr, aBin_neqStr, strEq_bs, aBin_eqlNil, aBin_eqlNil', aBin_neqNil, aBin_neqNil', aUn_not, aUn_neg, aNil_ptr, aOff_ptr, aInt_int, aLenStr_str, aLenS_slice, aLenS_nil, aFold_min, aFold_max, bs_size, bs_empty, Nat.zero_add, Nat.add_zero, Nat.reduceAdd, ok_load, Mem.get_set, Mem.set_set, List.getElem?_cons_zero, List.getElem?_cons_succ, Option.some.injEq, exists_eq_left', List.set_cons_zero, List.set_cons_succ]
  by_cases hp : 0 ≤ lo ∧ lo < hi ∧ hi ≤ t ∧ t ≤ 65536
  · obtain ⟨h1, h2, h3, h4⟩ := hp
    have h5 : 1 ≤ t := by omega
    simp -implicitDefEqProofs only [h1, h2, h3, h4, and_self, decide_true] at hq
    simp -implicitDefEqProofs only [h1, h2, h3, h4, h5, decide_true, if_true]
    exact hq
  · rw [decide_eq_false hp] at hq
    split
    · split
      · split
        · split
          · simp -implicitDefEqProofs only [decide_eq_true_eq] at *
            rw [decide_eq_false (by omega)]
            exact hq
          · exact hq
        · exact hq
      · exact hq
    · exact hq

theorem ref_narrow_ok {r lo hi t : Nat} {m : Mem} {Q : AV → Mem → Prop} (hr : r ≤ 4294967295) (hp : lo < hi ∧ hi ≤ t ∧ t ≤ 65536) (hq : Q (.int .i64 (partOf r lo hi t)) m) :
    Ok (R fn_ref04_narrow [.int .i64 r, .int .i64 lo, .int .i64 hi, .int .i64 t]) m Q := by
  refine Ok.call (fun n => ref04_narrow_eq rfl n _ _ _ _) ?_
  have hd : r / t ≤ r := Nat.div_le_self _ _
  have hm : r / t * lo ≤ r := Nat.le_trans (Nat.mul_le_mul_left _ (by omega)) (Nat.div_mul_le_self r t)
  have hm2 : r / t * (hi - lo) ≤ r := Nat.le_trans (Nat.mul_le_mul_left _ (by omega)) (Nat.div_mul_le_self r t)
  have ht : (t : Int) ≠ 0 := by omega
  have e2 : IntKind.i64.wrap ((r : Int).tdiv t) = ((r / t : Nat) : Int) := by
    rw [show (r : Int).tdiv t = ((r / t : Nat) : Int) by rw [Int.tdiv_eq_ediv_of_nonneg (by omega)]; rfl]
    exact IntWalk.i64_in _ ⟨Int.le_trans (by decide) (Int.natCast_nonneg _), by omega⟩
  have e4 : IntKind.i64.wrap (((r / t : Nat) : Int) * lo) = ((r / t * lo : Nat) : Int) := by
    rw [show ((r / t : Nat) : Int) * lo = ((r / t * lo : Nat) : Int) by rw [Int.natCast_mul]]
    exact IntWalk.i64_in _ ⟨Int.le_trans (by decide) (Int.natCast_nonneg _), by omega⟩
  have e5 : IntKind.i64.wrap ((r : Int) - ((r / t * lo : Nat) : Int)) = ((r - r / t * lo : Nat) : Int) := by
    rw [show (r : Int) - ((r / t * lo : Nat) : Int) = ((r - r / t * lo : Nat) : Int) by omega]
    exact IntWalk.i64_in _ ⟨Int.le_trans (by decide) (Int.natCast_nonneg _), by omega⟩
  have e6 : IntKind.i64.wrap ((hi : Int) - lo) = ((hi - lo : Nat) : Int) := by
    rw [show (hi : Int) - lo = ((hi - lo : Nat) : Int) by omega, IntWalk.i64_in _ (by omega)]
  have e7 : IntKind.i64.wrap (((r / t : Nat) : Int) * ((hi - lo : Nat) : Int)) = ((r / t * (hi - lo) : Nat) : Int) := by
    rw [show ((r / t : Nat) : Int) * ((hi - lo : Nat) : Int) = ((r / t * (hi - lo) : Nat) : Int) by rw [Int.natCast_mul]]
    exact IntWalk.i64_in _ ⟨Int.le_trans (by decide) (Int.natCast_nonneg _), by omega⟩
  simp -implicitDefEqProofs only [ref04_narrow, lp_some', mc_true, mc_false, ok_ret, ok_mc, ok_snap, aBin_add, aBin_sub, aBin_mul, aBin_lss, aBin_leq, aBin_gtr, aBin_geq, aBin_eql, aBin_neq, aBin_eqlStr, aBin_neqStr, strEq_bs, aBin_eqlNil, aBin_eqlNil', aBin_neqNil, aBin_neqNil', aUn_not, aUn_neg, aNil_ptr, aOff_ptr, aInt_int, aLenStr_str, aLenS_slice, aLenS_nil, aFold_min, aFold_max, bs_size, bs_empty, Nat.zero_add, Nat.add_zero, Nat.reduceAdd, ok_load, Mem.get_set, Mem.set_set, List.getElem?_cons_zero, List.getElem?_cons_succ, Option.some.injEq, exists_eq_left', List.set_cons_zero, List.set_cons_succ, aBin_quo _ _ _ _ ht, e2, e4, e5, e6, e7]
  unfold partOf at hq
  by_cases e : hi = t
  · have : (hi : Int) = t := by omega
    simp -implicitDefEqProofs only [e, if_true] at hq
    simp -implicitDefEqProofs only [this, decide_true, if_true]
    exact hq
  · have : ¬ (hi : Int) = t := by omega
    simp -implicitDefEqProofs only [e, if_false] at hq
    simp -implicitDefEqProofs only [this, decide_false, Bool.false_eq_true, if_false]
    exact hq

theorem ref_place_ok {i a t : Nat} {S : List UInt8} {d : Dec} {m : Mem} {Q : AV → Mem → Prop} (h : m.get i = refObj S a d.code d.rng) (hd : d.Fits)
    (ht : 1 ≤ t ∧ t ≤ 65536) (hq : Q (.int .i64 (d.place t)) m) : Ok (R fn_ref04_Decoder_Place [.ptr i 0, .int .i64 t]) m Q := by
  refine Ok.call (fun n => ref04_Decoder_Place_eq rfl n _ _) ?_
  have hh := hd.hi
  have hl := hd.lo
  have hc := hd.code
  have hget : m.get i = .cells T_ref04_Decoder 0 [.str (bs S), .int .i64 a, .int .i64 d.code, .int .i64 d.rng] := h
  have hq1 : 256 ≤ d.rng / t := (Nat.le_div_iff_mul_le (by omega)).2 (by omega)
  have hq2 : d.rng / t ≤ d.rng := Nat.div_le_self _ _
  have hq3 : d.code / (d.rng / t) ≤ d.code := Nat.div_le_self _ _
  have t1 : ¬ (t : Int) < 1 := by omega
  have t2 : ¬ (65536 : Int) < t := by omega
  have e2 : IntKind.i64.wrap ((d.rng : Int).tdiv t) = ((d.rng / t : Nat) : Int) := by
    rw [show (d.rng : Int).tdiv t = ((d.rng / t : Nat) : Int) by rw [Int.tdiv_eq_ediv_of_nonneg (by omega)]; rfl]
    exact IntWalk.i64_in _ ⟨Int.le_trans (by decide) (Int.natCast_nonneg _), by omega⟩
  have e3 : IntKind.i64.wrap ((d.code : Int).tdiv ((d.rng / t : Nat) : Int)) = ((d.code / (d.rng / t) : Nat) : Int) := by
    rw [show (d.code : Int).tdiv ((d.rng / t : Nat) : Int) = ((d.code / (d.rng / t) : Nat) : Int) by rw [Int.tdiv_eq_ediv_of_nonneg (by omega)]; rfl]
    exact IntWalk.i64_in _ ⟨Int.le_trans (by decide) (Int.natCast_nonneg _), by omega⟩
  have e5 : IntKind.i64.wrap ((t : Int) - 1) = ((t - 1 : Nat) : Int) := by
    rw [show (t : Int) - 1 = ((t - 1 : Nat) : Int) by omega]
    exact IntWalk.i64_in _ ⟨Int.le_trans (by decide) (Int.natCast_nonneg _), by omega⟩
  have e6 : min ((t - 1 : Nat) : Int) ((d.code / (d.rng / t) : Nat) : Int) = ((d.place t : Nat) : Int) := by unfold Dec.place; omega
  have h1 : (t : Int) ≠ 0 := by omega
  have h2 : ((d.rng / t : Nat) : Int) ≠ 0 := by omega
  simp -implicitDefEqProofs only [ref04_Decoder_Place, ref04_Decoder_Place_j0, lp_some', mc_true, mc_false, ok_ret, ok_mc, ok_snap, aBin_add, aBin_sub, aBin_mul, aBin_lss, aBin_leq, aBin_gtr, aBin_geq, aBin_eql, aBin_neq, aBin_eqlStr, aBin_neqStr, strEq_bs, aBin_eqlNil, aBin_eqlNil', aBin_neqNil, aBin_neqNil', aUn_not, aUn_neg, aNil_ptr, aOff_ptr, aInt_int, aLenStr_str, aLenS_slice, aLenS_nil, aFold_min, aFold_max, bs_size, bs_empty, Nat.zero_add, Nat.add_zero, Nat.reduceAdd, ok_load, Mem.get_set, Mem.set_set, List.getElem?_cons_zero, List.getElem?_cons_succ, Option.some.injEq, exists_eq_left', List.set_cons_zero, List.set_cons_succ, t1, t2, decide_false, Bool.false_eq_true, if_false, load_at hget, e5, aBin_quo _ _ _ _ h1, e2, aBin_quo _ _ _ _ h2, e3, e6]
  exact hq
theorem ref_place_not {i : Nat} {t : Int} {m : Mem} {Q : AV → Mem → Prop} (ht : ¬ (1 ≤ t ∧ t ≤ 65536)) (hq : Q (.int .i64 0) m) : Ok (R fn_ref04_Decoder_Place [.ptr i 0, .int .i64 t]) m Q := by
  refine Ok.call (fun n => ref04_Decoder_Place_eq rfl n _ _) ?_
  by_cases t1 : t < 1
  · simp -implicitDefEqProofs only [ref04_Decoder_Place, ref04_Decoder_Place_j0, lp_some', mc_true, mc_false, ok_ret, ok_mc, ok_snap, aBin_add, aBin_sub, aBin_mul, aBin_lss, aBin_leq, aBin_gtr, aBin_geq, aBin_eql, aBin_neq, aBin_eqlStr, aBin_neqStr, strEq_bs, aBin_eqlNil, aBin_eqlNil', aBin_neqNil, aBin_neqNil', aUn_not, aUn_neg, aNil_ptr, aOff_ptr, aInt_int, aLenStr_str, aLenS_slice, aLenS_nil, aFold_min, aFold_max, bs_size, bs_empty, Nat.zero_add, Nat.add_zero, Nat.reduceAdd, ok_load, Mem.get_set, Mem.set_set, List.getElem?_cons_zero, List.getElem?_cons_succ, Option.some.injEq, exists_eq_left', List.set_cons_zero, List.set_cons_succ, t1, decide_true, if_true]
    exact hq
  · have t2 : 65536 < t := by omega
    simp -implicitDefEqProofs only [ref04_Decoder_Place, ref04_Decoder_Place_j0, lp_some', mc_true, mc_false, ok_ret, ok_mc, ok_snap, aBin_add, aBin_sub, aBin_mul, aBin_lss, aBin_leq, aBin_gtr, aBin_geq, aBin_eql, aBin_neq, aBin_eqlStr, aBin_neqStr, strEq_bs, aBin_eqlNil, aBin_eqlNil', aBin_neqNil, aBin_neqNil', aUn_not, aUn_neg, aNil_ptr, aOff_ptr, aInt_int, aLenStr_str, aLenS_slice, aLenS_nil, aFold_min, aFold_max, bs_size, bs_empty, Nat.zero_add, Nat.add_zero, Nat.reduceAdd, ok_load, Mem.get_set, Mem.set_set, List.getElem?_cons_zero, List.getElem?_cons_succ, Option.some.injEq, exists_eq_left', List.set_cons_zero, List.set_cons_succ, t1, t2, decide_true, decide_false, Bool.false_eq_true, if_false, if_true]
    exact hq

theorem ref_take_loop {i : Nat} {S : List UInt8} {T : Dec} {m0 : Mem} {Q : AV → Mem → Prop} (hb : m0.base ≤ i) :
    ∀ {k a : Nat} {d : Dec}, 1 ≤ d.rng → d.rng ≤ 4294967295 → d.code < d.rng → 16777216 ≤ d.rng * 256 ^ k → d.fill k = T → S.drop a = d.l → a + k < 1000000 →
      (∀ a', a' ≤ a + k → S.drop a' = T.l → Q (.tup []) (m0.set i (refObj S a' T.code T.rng))) →
      Ok (fun n => loopN (fun r l => ref04_Decoder_Take_l0 (fcall Tryz.prog ext1 n) n r (l.getD 0 .undef)) n [.ptr i 0]) (m0.set i (refObj S a d.code d.rng)) Q := by
  intro k a d h1 h2 h3 h4 h5 h6 h7 hq
  refine Ok.loop (fun k l m => l = [.ptr i 0] ∧ ∃ (a : Nat) (d : Dec), m = m0.set i (refObj S a d.code d.rng) ∧ 1 ≤ d.rng ∧ d.rng ≤ 4294967295 ∧ d.code < d.rng ∧ 16777216 ≤ d.rng * 256 ^ k ∧ d.fill k = T ∧ S.drop a = d.l ∧ a + k < 1000000 ∧
    (∀ a', a' ≤ a + k → S.drop a' = T.l → Q (.tup []) (m0.set i (refObj S a' T.code T.rng)))) ?_ (k := k) ⟨rfl, a, d, rfl, h1, h2, h3, h4, h5, h6, h7, hq⟩
  clear h1 h2 h3 h4 h5 h6 h7 hq
  rintro k l m rec ⟨rfl, a, d, rfl, h1, h2, h3, h4, h5, h6, h7, hq⟩ ih
  have hget : (m0.set i (refObj S a d.code d.rng)).get i = .cells T_ref04_Decoder 0 [.str (bs S), .int .i64 a, .int .i64 d.code, .int .i64 d.rng] := by simp [refObj]
  rcases Nat.lt_or_ge d.rng 16777216 with hr | hr
  case inr =>
    have : ¬ (d.rng : Int) < 16777216 := by omega
    simp -implicitDefEqProofs only [List.getD_cons_zero, ref04_Decoder_Take_l0, lp_some', mc_true, mc_false, ok_ret, ok_mc, ok_snap, aBin_add, aBin_sub, aBin_mul, aBin_lss, aBin_leq, aBin_gtr, aBin_geq, aBin_eql, aBin_neq, aBin_eqlStr, aBin_neqStr, strEq_bs, aBin_eqlNil, aBin_eqlNil', aBin_neqNil, aBin_neqNil', aUn_not, aUn_neg, aNil_ptr, aOff_ptr, aInt_int, aLenStr_str, aLenS_slice, aLenS_nil, aFold_min, aFold_max, bs_size, bs_empty, Nat.zero_add, Nat.add_zero, Nat.reduceAdd, ok_load, Mem.get_set, Mem.set_set, List.getElem?_cons_zero, List.getElem?_cons_succ, Option.some.injEq, exists_eq_left', List.set_cons_zero, List.set_cons_succ, load_at hget, this, decide_false, Bool.false_eq_true, if_false]
    rw [Dec.fill_done hr] at h5
    subst h5; exact hq a (by omega) h6
  case inl =>
    have hlt : (d.rng : Int) < 16777216 := by omega
    have hh := hd_lt d.l
    have e1 : IntKind.i64.wrap ((d.code : Int) * 256) = ((d.code * 256 : Nat) : Int) := by
      rw [show (d.code : Int) * 256 = ((d.code * 256 : Nat) : Int) by rw [Int.natCast_mul]; rfl]
      exact IntWalk.i64_in _ ⟨Int.le_trans (by decide) (Int.natCast_nonneg _), by omega⟩
    simp -implicitDefEqProofs only [List.getD_cons_zero, ref04_Decoder_Take_l0, hlt, decide_true, if_true, load_at hget, lp_some', mc_true, mc_false, ok_ret, ok_mc, ok_snap, aBin_add, aBin_sub, aBin_mul, aBin_lss, aBin_leq, aBin_gtr, aBin_geq, aBin_eql, aBin_neq, aBin_eqlStr, aBin_neqStr, strEq_bs, aBin_eqlNil, aBin_eqlNil', aBin_neqNil, aBin_neqNil', aUn_not, aUn_neg, aNil_ptr, aOff_ptr, aInt_int, aLenStr_str, aLenS_slice, aLenS_nil, aFold_min, aFold_max, bs_size, bs_empty, Nat.zero_add, Nat.add_zero, Nat.reduceAdd, ok_load, Mem.get_set, Mem.set_set, List.getElem?_cons_zero, List.getElem?_cons_succ, Option.some.injEq, exists_eq_left', List.set_cons_zero, List.set_cons_succ, e1]
    have hbs : (m0.set i (refObj S a d.code d.rng)).base ≤ i := hb
    refine Ok.bnd (ref_next_ok hget hbs (by omega) ?_)
    rw [Mem.set_set, h6]
    have hm2 : m0.set i (.cells T_ref04_Decoder 0 [.str (bs S), .int .i64 (a + 1 : Nat), .int .i64 d.code, .int .i64 d.rng]) = m0.set i (refObj S (a + 1) d.code d.rng) := rfl
    rw [hm2]
    have hget2 : (m0.set i (refObj S (a + 1) d.code d.rng)).get i = .cells T_ref04_Decoder 0 [.str (bs S), .int .i64 (a + 1 : Nat), .int .i64 d.code, .int .i64 d.rng] := by simp [refObj]
    have hb2 : (m0.set i (refObj S (a + 1) d.code d.rng)).base ≤ i := hb
    have e3 := fun (k : M AV) => same_at (o := 2) hget2 rfl (eqb_int _ _) k
    have e2 : IntKind.i64.wrap (((d.code * 256 : Nat) : Int) + (hd d.l : Int)) = ((d.code * 256 + hd d.l : Nat) : Int) := by
      rw [show ((d.code * 256 : Nat) : Int) + (hd d.l : Int) = ((d.code * 256 + hd d.l : Nat) : Int) by rw [Int.natCast_add]]
      exact IntWalk.i64_in _ ⟨Int.le_trans (by decide) (Int.natCast_nonneg _), by omega⟩
    have e4 : IntKind.i64.wrap ((d.rng : Int) * 256) = ((d.rng * 256 : Nat) : Int) := by
      rw [show (d.rng : Int) * 256 = ((d.rng * 256 : Nat) : Int) by rw [Int.natCast_mul]; rfl]
      exact IntWalk.i64_in _ ⟨Int.le_trans (by decide) (Int.natCast_nonneg _), by omega⟩
    have hget3 : (m0.set i (refObj S (a + 1) (d.code * 256 + hd d.l : Nat) d.rng)).get i = .cells T_ref04_Decoder 0 [.str (bs S), .int .i64 (a + 1 : Nat), .int .i64 (d.code * 256 + hd d.l : Nat), .int .i64 d.rng] := by simp [refObj]
    have hb3 : (m0.set i (refObj S (a + 1) (d.code * 256 + hd d.l : Nat) d.rng)).base ≤ i := hb
    simp -implicitDefEqProofs (disch := first | assumption | omega | (simp; done) | (simp; omega)) only [lp_some', mc_true, mc_false, ok_ret, ok_mc, ok_snap, aBin_add, aBin_sub, aBin_mul, aBin_lss, aBin_leq, aBin_gtr, aBin_geq, aBin_eql, aBin_neq, aBin_eqlStr, aBin_neqStr, strEq_bs, aBin_eqlNil, aBin_eqlNil', aBin_neqNil, aBin_neqNil', aUn_not, aUn_neg, aNil_ptr, aOff_ptr, aInt_int, aLenStr_str, aLenS_slice, aLenS_nil, aFold_min, aFold_max, bs_size, bs_empty, Nat.zero_add, Nat.add_zero, Nat.reduceAdd, ok_load, Mem.get_set, Mem.set_set, List.getElem?_cons_zero, List.getElem?_cons_succ, Option.some.injEq, exists_eq_left', List.set_cons_zero, List.set_cons_succ, e3, e2, ok_store hget2 hb2]
    have hm3 : m0.set i (.cells T_ref04_Decoder 0 [.str (bs S), .int .i64 (a + 1 : Nat), .int .i64 (d.code * 256 + hd d.l : Nat), .int .i64 d.rng]) = m0.set i (refObj S (a + 1) (d.code * 256 + hd d.l : Nat) d.rng) := rfl
    simp -implicitDefEqProofs (disch := first | assumption | omega | (simp; done) | (simp; omega)) only [lp_some', mc_true, mc_false, ok_ret, ok_mc, ok_snap, aBin_add, aBin_sub, aBin_mul, aBin_lss, aBin_leq, aBin_gtr, aBin_geq, aBin_eql, aBin_neq, aBin_eqlStr, aBin_neqStr, strEq_bs, aBin_eqlNil, aBin_eqlNil', aBin_neqNil, aBin_neqNil', aUn_not, aUn_neg, aNil_ptr, aOff_ptr, aInt_int, aLenStr_str, aLenS_slice, aLenS_nil, aFold_min, aFold_max, bs_size, bs_empty, Nat.zero_add, Nat.add_zero, Nat.reduceAdd, ok_load, Mem.get_set, Mem.set_set, List.getElem?_cons_zero, List.getElem?_cons_succ, Option.some.injEq, exists_eq_left', List.set_cons_zero, List.set_cons_succ, hm3, load_at hget3, e4, ok_store hget3 hb3]
    cases k with
    | zero => omega
    | succ k =>
      have h8 : d.fill (k + 1) = Dec.fill k ⟨d.rng * 256, d.code * 256 + hd d.l, d.l.tail⟩ := by simp [Dec.fill, Nat.not_le.2 hr]
      exact ih k _ _ (Nat.lt_succ_self _) ⟨rfl, a + 1, ⟨d.rng * 256, d.code * 256 + hd d.l, d.l.tail⟩, rfl, by show 1 ≤ d.rng * 256; omega, by show d.rng * 256 ≤ _; omega, by show d.code * 256 + hd d.l < d.rng * 256; omega, by show _ ≤ d.rng * 256 * 256 ^ k; rw [Nat.mul_assoc, ← Nat.pow_succ']; exact h4, by rw [← h8]; exact h5, by show S.drop (a + 1) = d.l.tail; rw [← h6, drop_tail], by omega, fun a' ha' => hq a' (by omega)⟩

theorem ref_take_ok {i a lo hi t : Nat} {S : List UInt8} {d : Dec} {m : Mem} {Q : AV → Mem → Prop} (h : m.get i = refObj S a d.code d.rng) (hb : m.base ≤ i) (hd : d.Fits) (hS : S.drop a = d.l) (ha : a + 3 < 1000000)
    (hp : lo < hi ∧ hi ≤ t ∧ t ≤ 65536) (hq : ∀ a', a' ≤ a + 3 → S.drop a' = (d.take lo hi t).l → Q (.tup []) (m.set i (refObj S a' (d.take lo hi t).code (d.take lo hi t).rng))) :
    Ok (R fn_ref04_Decoder_Take [.ptr i 0, .int .i64 lo, .int .i64 hi, .int .i64 t]) m Q := by
  refine Ok.call (fun n => ref04_Decoder_Take_eq rfl n _ _ _ _) ?_
  have hh := hd.hi
  have hc := hd.code
  obtain ⟨hp1, hp2⟩ := partOf_bounds hd.lo hd.hi hp
  have hget : m.get i = .cells T_ref04_Decoder 0 [.str (bs S), .int .i64 a, .int .i64 d.code, .int .i64 d.rng] := h
  refine Ok.bnd (ref_right_ok ?_)
  have hdec : decide ((0 : Int) ≤ lo ∧ (lo : Int) < hi ∧ (hi : Int) ≤ t ∧ (t : Int) ≤ 65536) = true := decide_eq_true (by omega)
  have hdd : d.rng / t ≤ d.rng := Nat.div_le_self _ _
  have hm : d.rng / t * lo ≤ d.rng := Nat.le_trans (Nat.mul_le_mul_left _ (by omega)) (Nat.div_mul_le_self d.rng t)
  have ht : (t : Int) ≠ 0 := by omega
  have e2 : IntKind.i64.wrap ((d.rng : Int).tdiv t) = ((d.rng / t : Nat) : Int) := by
    rw [show (d.rng : Int).tdiv t = ((d.rng / t : Nat) : Int) by rw [Int.tdiv_eq_ediv_of_nonneg (by omega)]; rfl]
    exact IntWalk.i64_in _ ⟨Int.le_trans (by decide) (Int.natCast_nonneg _), by omega⟩
  have e4 : IntKind.i64.wrap (((d.rng / t : Nat) : Int) * lo) = ((d.rng / t * lo : Nat) : Int) := by
    rw [show ((d.rng / t : Nat) : Int) * lo = ((d.rng / t * lo : Nat) : Int) by rw [Int.natCast_mul]]
    exact IntWalk.i64_in _ ⟨Int.le_trans (by decide) (Int.natCast_nonneg _), by omega⟩
  generalize hB : d.rng / t * lo = B at *
  have e5 : IntKind.i64.wrap ((d.code : Int) - (B : Int)) = (d.code : Int) - (B : Int) := IntWalk.i64_in _ (by omega)
  have hget2 : (m.set i (refObj S a ((d.code : Int) - (B : Int)) d.rng)).get i = .cells T_ref04_Decoder 0 [.str (bs S), .int .i64 a, .int .i64 ((d.code : Int) - (B : Int)), .int .i64 d.rng] := by simp [refObj]
  have hb2 : (m.set i (refObj S a ((d.code : Int) - (B : Int)) d.rng)).base ≤ i := hb
  have hm2 : m.set i (.cells T_ref04_Decoder 0 [.str (bs S), .int .i64 a, .int .i64 ((d.code : Int) - (B : Int)), .int .i64 d.rng]) = m.set i (refObj S a ((d.code : Int) - (B : Int)) d.rng) := rfl
  simp -implicitDefEqProofs (disch := first | assumption | omega | (simp; done) | (simp; omega)) only [hdec, lp_some', mc_true, mc_false, ok_ret, ok_mc, ok_snap, aBin_add, aBin_sub, aBin_mul, aBin_lss, aBin_leq, aBin_gtr, aBin_geq, aBin_eql, aBin_neq, aBin_eqlStr, aBin_neqStr, strEq_bs, aBin_eqlNil, aBin_eqlNil', aBin_neqNil, aBin_neqNil', aUn_not, aUn_neg, aNil_ptr, aOff_ptr, aInt_int, aLenStr_str, aLenS_slice, aLenS_nil, aFold_min, aFold_max, bs_size, bs_empty, Nat.zero_add, Nat.add_zero, Nat.reduceAdd, ok_load, Mem.get_set, Mem.set_set, List.getElem?_cons_zero, List.getElem?_cons_succ, Option.some.injEq, exists_eq_left', List.set_cons_zero, List.set_cons_succ, Bool.not_true, Bool.false_eq_true, if_false, load_at hget, aBin_quo _ _ _ _ ht, e2, e4, e5, ok_store hget hb, hm2, load_at hget2]
  refine Ok.bnd (ref_narrow_ok hh hp ?_)
  generalize hP : partOf d.rng lo hi t = P at *
  have hm3 : m.set i (.cells T_ref04_Decoder 0 [.str (bs S), .int .i64 a, .int .i64 ((d.code : Int) - (B : Int)), .int .i64 P]) = m.set i (refObj S a ((d.code : Int) - (B : Int)) P) := rfl
  have hget3 : (m.set i (refObj S a ((d.code : Int) - (B : Int)) P)).get i = .cells T_ref04_Decoder 0 [.str (bs S), .int .i64 a, .int .i64 ((d.code : Int) - (B : Int)), .int .i64 P] := by simp [refObj]
  have hb3 : (m.set i (refObj S a ((d.code : Int) - (B : Int)) P)).base ≤ i := hb
  have htake : d.take lo hi t = Dec.fill 3 ⟨P, min (d.code - B) (P - 1), d.l⟩ := by unfold Dec.take; rw [hP, hB]
  have hloop := ref_take_loop (S := S) (T := d.take lo hi t) (m0 := m) (Q := Q) hb (k := 3) (a := a) (d := ⟨P, min (d.code - B) (P - 1), d.l⟩) (by show 1 ≤ P; omega) (by show P ≤ _; omega) (by show min _ _ < P; omega) (by show _ ≤ P * _; omega) htake.symm hS (by omega) hq
  simp only at hloop
  rcases Int.lt_or_le ((d.code : Int) - (B : Int)) 0 with hneg | hneg
  case inl =>
    have h1 : ¬ (P : Int) ≤ (d.code : Int) - (B : Int) := by omega
    have hm4 : m.set i (.cells T_ref04_Decoder 0 [.str (bs S), .int .i64 a, .int .i64 0, .int .i64 P]) = m.set i (refObj S a (min (d.code - B) (P - 1) : Nat) P) := by
      have : ((min (d.code - B) (P - 1) : Nat) : Int) = 0 := by omega
      rw [this]; rfl
    simp -implicitDefEqProofs (disch := first | assumption | omega | (simp; done) | (simp; omega)) only [lp_some', mc_true, mc_false, ok_ret, ok_mc, ok_snap, aBin_add, aBin_sub, aBin_mul, aBin_lss, aBin_leq, aBin_gtr, aBin_geq, aBin_eql, aBin_neq, aBin_eqlStr, aBin_neqStr, strEq_bs, aBin_eqlNil, aBin_eqlNil', aBin_neqNil, aBin_neqNil', aUn_not, aUn_neg, aNil_ptr, aOff_ptr, aInt_int, aLenStr_str, aLenS_slice, aLenS_nil, aFold_min, aFold_max, bs_size, bs_empty, Nat.zero_add, Nat.add_zero, Nat.reduceAdd, ok_load, Mem.get_set, Mem.set_set, List.getElem?_cons_zero, List.getElem?_cons_succ, Option.some.injEq, exists_eq_left', List.set_cons_zero, List.set_cons_succ, ok_store hget2 hb2, hm3, load_at hget3, h1, decide_false, Bool.false_eq_true, if_false, ref04_Decoder_Take_j0, ref04_Decoder_Take_j1, hneg, decide_true, if_true, ok_store hget3 hb3, hm4]
    exact hloop
  case inr =>
    have hneg' : ¬ (d.code : Int) - (B : Int) < 0 := by omega
    rcases Int.lt_or_le ((d.code : Int) - (B : Int)) (P : Int) with hge | hge
    case inl =>
      have h1 : ¬ (P : Int) ≤ (d.code : Int) - (B : Int) := by omega
      have hm4 : m.set i (refObj S a ((d.code : Int) - (B : Int)) P) = m.set i (refObj S a (min (d.code - B) (P - 1) : Nat) P) := by
        have : (d.code : Int) - (B : Int) = ((min (d.code - B) (P - 1) : Nat) : Int) := by omega
        rw [this]
      simp -implicitDefEqProofs (disch := first | assumption | omega | (simp; done) | (simp; omega)) only [lp_some', mc_true, mc_false, ok_ret, ok_mc, ok_snap, aBin_add, aBin_sub, aBin_mul, aBin_lss, aBin_leq, aBin_gtr, aBin_geq, aBin_eql, aBin_neq, aBin_eqlStr, aBin_neqStr, strEq_bs, aBin_eqlNil, aBin_eqlNil', aBin_neqNil, aBin_neqNil', aUn_not, aUn_neg, aNil_ptr, aOff_ptr, aInt_int, aLenStr_str, aLenS_slice, aLenS_nil, aFold_min, aFold_max, bs_size, bs_empty, Nat.zero_add, Nat.add_zero, Nat.reduceAdd, ok_load, Mem.get_set, Mem.set_set, List.getElem?_cons_zero, List.getElem?_cons_succ, Option.some.injEq, exists_eq_left', List.set_cons_zero, List.set_cons_succ, ok_store hget2 hb2, hm3, load_at hget3, h1, decide_false, Bool.false_eq_true, if_false, ref04_Decoder_Take_j0, ref04_Decoder_Take_j1, hneg']
      rw [hm4]
      exact hloop
    case inr =>
      have e6 : IntKind.i64.wrap ((P : Int) - 1) = ((min (d.code - B) (P - 1) : Nat) : Int) := by
        rw [show ((min (d.code - B) (P - 1) : Nat) : Int) = (P : Int) - 1 by omega]
        exact IntWalk.i64_in _ (by omega)
      have hm4 : m.set i (.cells T_ref04_Decoder 0 [.str (bs S), .int .i64 a, .int .i64 (min (d.code - B) (P - 1) : Nat), .int .i64 P]) = m.set i (refObj S a (min (d.code - B) (P - 1) : Nat) P) := rfl
      have hget4 : (m.set i (refObj S a (min (d.code - B) (P - 1) : Nat) P)).get i = .cells T_ref04_Decoder 0 [.str (bs S), .int .i64 a, .int .i64 (min (d.code - B) (P - 1) : Nat), .int .i64 P] := by simp [refObj]
      have hnn : ¬ ((min (d.code - B) (P - 1) : Nat) : Int) < 0 := by omega
      simp -implicitDefEqProofs (disch := first | assumption | omega | (simp; done) | (simp; omega)) only [lp_some', mc_true, mc_false, ok_ret, ok_mc, ok_snap, aBin_add, aBin_sub, aBin_mul, aBin_lss, aBin_leq, aBin_gtr, aBin_geq, aBin_eql, aBin_neq, aBin_eqlStr, aBin_neqStr, strEq_bs, aBin_eqlNil, aBin_eqlNil', aBin_neqNil, aBin_neqNil', aUn_not, aUn_neg, aNil_ptr, aOff_ptr, aInt_int, aLenStr_str, aLenS_slice, aLenS_nil, aFold_min, aFold_max, bs_size, bs_empty, Nat.zero_add, Nat.add_zero, Nat.reduceAdd, ok_load, Mem.get_set, Mem.set_set, List.getElem?_cons_zero, List.getElem?_cons_succ, Option.some.injEq, exists_eq_left', List.set_cons_zero, List.set_cons_succ, ok_store hget2 hb2, hm3, load_at hget3, hge, decide_true, if_true, e6, ok_store hget3 hb3, hm4, ref04_Decoder_Take_j0, ref04_Decoder_Take_j1, load_at hget4, hnn, decide_false, Bool.false_eq_true, if_false]
      exact hloop

theorem ref_new_ok {S : List UInt8} {m : Mem} {Q : AV → Mem → Prop} (hb : m.base ≤ m.next) (hq : S.drop 4 = (Dec.start S).l → Q (.ptr m.next 0) (m.alloc (refObj S 4 (Dec.start S).code (Dec.start S).rng))) : Ok (R fn_ref04_New [.str (bs S)]) m Q := by
  refine Ok.call (fun n => ref04_New_eq rfl n _) ?_
  have hfill : (aFill (fun i => [(0, 1), (1, 1), (2, 1), (3, 1)][i]?) [.str .empty, .int .i64 0, .int .i64 0, .int .i64 0] [(0, .str (bs S)), (3, (.int .i64 4294967295))]).map AV.agg = some (.agg [.str (bs S), .int .i64 0, .int .i64 0, .int .i64 4294967295]) := rfl
  simp -implicitDefEqProofs only [ref04_New, hfill, lp_some', ok_box]
  have hm : m.alloc (.cells T_ref04_Decoder 0 [.str (bs S), .int .i64 0, .int .i64 0, .int .i64 4294967295]) = m.alloc (refObj S 0 (0 : Nat) (4294967295 : Nat)) := rfl
  rw [hm]
  refine Ok.loop (fun k v m' => ∃ j : Nat, k + j = 4 ∧ v = [.ptr m.next 0, .int .i64 j] ∧ ∃ d : Dec, m' = m.alloc (refObj S j d.code d.rng) ∧ d.code < 256 ^ j ∧ d.rng = 4294967295 ∧ d.init k = Dec.start S ∧ S.drop j = d.l) ?_ (k := 4) ⟨0, rfl, rfl, ⟨4294967295, 0, S⟩, rfl, by show 0 < 256 ^ 0; decide, rfl, rfl, rfl⟩
  rintro k v m' rec ⟨j, hk, rfl, d, rfl, hc, hr, hi, hl⟩ ih
  have hget : (m.alloc (refObj S j d.code d.rng)).get m.next = .cells T_ref04_Decoder 0 [.str (bs S), .int .i64 j, .int .i64 d.code, .int .i64 d.rng] := Mem.get_alloc _ _
  have hb1 : (m.alloc (refObj S j d.code d.rng)).base ≤ m.next := hb
  cases k with
  | zero =>
    have : ¬ (j : Int) < 4 := by omega
    simp -implicitDefEqProofs only [List.getD_cons_zero, List.getD_cons_succ, ref04_New_l0, lp_some', mc_true, mc_false, ok_ret, ok_mc, ok_snap, aBin_add, aBin_sub, aBin_mul, aBin_lss, aBin_leq, aBin_gtr, aBin_geq, aBin_eql, aBin_neq, aBin_eqlStr, aBin_neqStr, strEq_bs, aBin_eqlNil, aBin_eqlNil', aBin_neqNil, aBin_neqNil', aUn_not, aUn_neg, aNil_ptr, aOff_ptr, aInt_int, aLenStr_str, aLenS_slice, aLenS_nil, aFold_min, aFold_max, bs_size, bs_empty, Nat.zero_add, Nat.add_zero, Nat.reduceAdd, ok_load, Mem.get_set, Mem.set_set, List.getElem?_cons_zero, List.getElem?_cons_succ, Option.some.injEq, exists_eq_left', List.set_cons_zero, List.set_cons_succ, this, decide_false, Bool.false_eq_true, if_false]
    have e : Dec.start S = d := hi.symm
    have ej : j = 4 := by omega
    subst ej
    rw [e] at hq
    exact hq hl
  | succ k =>
    have hj : (j : Int) < 4 := by omega
    have hh := hd_lt d.l
    have hc4 : d.code < 16777216 := by
      have : 256 ^ j ≤ 256 ^ 3 := Nat.pow_le_pow_right (by decide) (by omega)
      omega
    have e1 : IntKind.i64.wrap ((d.code : Int) * 256) = ((d.code * 256 : Nat) : Int) := by
      rw [show (d.code : Int) * 256 = ((d.code * 256 : Nat) : Int) by rw [Int.natCast_mul]; rfl]
      exact IntWalk.i64_in _ ⟨Int.le_trans (by decide) (Int.natCast_nonneg _), by omega⟩
    simp -implicitDefEqProofs only [List.getD_cons_zero, List.getD_cons_succ, ref04_New_l0, lp_some', mc_true, mc_false, ok_ret, ok_mc, ok_snap, aBin_add, aBin_sub, aBin_mul, aBin_lss, aBin_leq, aBin_gtr, aBin_geq, aBin_eql, aBin_neq, aBin_eqlStr, aBin_neqStr, strEq_bs, aBin_eqlNil, aBin_eqlNil', aBin_neqNil, aBin_neqNil', aUn_not, aUn_neg, aNil_ptr, aOff_ptr, aInt_int, aLenStr_str, aLenS_slice, aLenS_nil, aFold_min, aFold_max, bs_size, bs_empty, Nat.zero_add, Nat.add_zero, Nat.reduceAdd, ok_load, Mem.get_set, Mem.set_set, List.getElem?_cons_zero, List.getElem?_cons_succ, Option.some.injEq, exists_eq_left', List.set_cons_zero, List.set_cons_succ, hj, decide_true, if_true, load_at hget, e1]
    refine Ok.bnd (ref_next_ok hget hb1 (by omega) ?_)
    rw [hl]
    have hm2 : (m.alloc (refObj S j d.code d.rng)).set m.next (.cells T_ref04_Decoder 0 [.str (bs S), .int .i64 (j + 1 : Nat), .int .i64 d.code, .int .i64 d.rng]) = m.alloc (refObj S (j + 1) d.code d.rng) := Mem.alloc_set _ _ _
    rw [hm2]
    have hget3 : (m.alloc (refObj S (j + 1) d.code d.rng)).get m.next = .cells T_ref04_Decoder 0 [.str (bs S), .int .i64 (j + 1 : Nat), .int .i64 d.code, .int .i64 d.rng] := Mem.get_alloc _ _
    have hb3 : (m.alloc (refObj S (j + 1) d.code d.rng)).base ≤ m.next := hb
    have e3 := fun (k : M AV) => same_at (o := 2) hget3 rfl (eqb_int _ _) k
    have e2 : IntKind.i64.wrap (((d.code * 256 : Nat) : Int) + (hd d.l : Int)) = ((d.code * 256 + hd d.l : Nat) : Int) := by
      rw [show ((d.code * 256 : Nat) : Int) + (hd d.l : Int) = ((d.code * 256 + hd d.l : Nat) : Int) by rw [Int.natCast_add]]
      exact IntWalk.i64_in _ ⟨Int.le_trans (by decide) (Int.natCast_nonneg _), by omega⟩
    have e4 : IntKind.i64.wrap ((j : Int) + 1) = ((j + 1 : Nat) : Int) := by rw [IntWalk.i64_in _ (by omega)]; rfl
    simp -implicitDefEqProofs (disch := first | assumption | omega | (simp; done) | (simp; omega)) only [lp_some', mc_true, mc_false, ok_ret, ok_mc, ok_snap, aBin_add, aBin_sub, aBin_mul, aBin_lss, aBin_leq, aBin_gtr, aBin_geq, aBin_eql, aBin_neq, aBin_eqlStr, aBin_neqStr, strEq_bs, aBin_eqlNil, aBin_eqlNil', aBin_neqNil, aBin_neqNil', aUn_not, aUn_neg, aNil_ptr, aOff_ptr, aInt_int, aLenStr_str, aLenS_slice, aLenS_nil, aFold_min, aFold_max, bs_size, bs_empty, Nat.zero_add, Nat.add_zero, Nat.reduceAdd, ok_load, Mem.get_set, Mem.set_set, List.getElem?_cons_zero, List.getElem?_cons_succ, Option.some.injEq, exists_eq_left', List.set_cons_zero, List.set_cons_succ, e3, e2, ok_store hget3 hb3, e4, Mem.alloc_set]
    refine ih k _ _ (Nat.lt_succ_self _) ⟨j + 1, by omega, rfl, ⟨d.rng, d.code * 256 + hd d.l, d.l.tail⟩, rfl, by show d.code * 256 + hd d.l < 256 ^ (j + 1); rw [Nat.pow_succ]; omega, hr, hi, by show S.drop (j + 1) = d.l.tail; rw [← hl, drop_tail]⟩
end SplA
