/- Coders side by side. -/
import Derived.Test.YtooogfnmhfocjaaGreatDoorSplEnd
import Derived.Test.YtooogfnmhfocjaaGreatDoorSplRcB
namespace SplA
open Go.Proofs.YtooogfnmhfocjaaGreatDoor.Spl Go Go.Proofs
set_option maxRecDepth 100000
set_option linter.unusedVariables false
set_option linter.unusedSimpArgs false

variable {T : Nat} {rest : List AV}
theorem and255 (n : Nat) (h : n < 9223372036854775808) : aBin .and [] (.int .i64 (n : Int)) (.int .i64 255) = some (.int .i64 ((n % 256 : Nat) : Int)) := by
  simp -implicitDefEqProofs only [aBin, b2, if_true]
  have e : (BitVec.ofInt IntKind.i64.bits (n : Int) &&& BitVec.ofInt IntKind.i64.bits 255).toNat = n % 256 := by
    show (BitVec.ofInt 64 (n : Int) &&& BitVec.ofInt 64 ((255 : Nat) : Int)).toNat = _
    rw [BitVec.ofInt_natCast, BitVec.ofInt_natCast, BitVec.toNat_and, BitVec.toNat_ofNat, BitVec.toNat_ofNat, Nat.mod_eq_of_lt (show n < 2 ^ 64 by omega), Nat.mod_eq_of_lt (show 255 < 2 ^ 64 by decide)]
    exact Nat.and_two_pow_sub_one_eq_mod n 8
  rw [e, IntWalk.i64_in _ (by omega)]

theorem rend_trim {m : Mem} {Q : AV → Mem → Prop} {l : List UInt8} (hl : l.length < 2 ^ 60) (hq : Q (.str (bs (trim l))) m) {j1 j2 j3 j4 j5 j6 : AV} :
    Ok (fun n => loopN (fun r l => ref04_Coder_End_l2 (fcall Tryz.prog ext1 n) n r (l.getD 0 .undef) (l.getD 1 .undef) (l.getD 2 .undef) (l.getD 3 .undef) (l.getD 4 .undef) (l.getD 5 .undef) (l.getD 6 .undef)) n [.str (bs l), j1, j2, j3, j4, j5, j6]) m Q := by
  refine Ok.loop (fun k v m' => ∃ l' j1 j2 j3 j4 j5 j6, v = [.str (bs l'), j1, j2, j3, j4, j5, j6] ∧ m' = m ∧ l'.length = k ∧ trim l' = trim l ∧ k < 2 ^ 60) ?_ (k := l.length) ⟨l, _, _, _, _, _, _, rfl, rfl, rfl, rfl, hl⟩
  rintro k v m' rec ⟨l', j1, j2, j3, j4, j5, j6, rfl, rfl, hk, ht, hk2⟩ ih
  simp -implicitDefEqProofs only [List.getD_cons_zero, List.getD_cons_succ, ref04_Coder_End_l2, lp_some', mc_true, mc_false, ok_ret, ok_mc, ok_snap, aBin_add, aBin_sub, aBin_mul, aBin_lss, aBin_leq, aBin_gtr, aBin_geq, aBin_eql, aBin_neq, aBin_eqlStr, aBin_neqStr, strEq_bs, aBin_eqlNil, aBin_eqlNil', aBin_neqNil, aBin_neqNil', aUn_not, aUn_neg, aNil_ptr, aOff_ptr, aInt_int, aLenStr_str, aLenS_slice, aLenS_nil, aFold_min, aFold_max, bs_size, bs_empty, Nat.zero_add, Nat.add_zero, Nat.reduceAdd, ok_load, Mem.get_set, Mem.set_set, List.getElem?_cons_zero, List.getElem?_cons_succ, Option.some.injEq, exists_eq_left', List.set_cons_zero, List.set_cons_succ]
  rcases List.eq_nil_or_concat l' with e | ⟨l2, b, e⟩
  · subst e
    simp -implicitDefEqProofs only [List.length_nil, Int.natCast_zero, Int.lt_irrefl, decide_false, Bool.false_eq_true, if_false, ref04_Coder_End_j0, lp_some', mc_true, mc_false, ok_ret, ok_mc, ok_snap, aBin_add, aBin_sub, aBin_mul, aBin_lss, aBin_leq, aBin_gtr, aBin_geq, aBin_eql, aBin_neq, aBin_eqlStr, aBin_neqStr, strEq_bs, aBin_eqlNil, aBin_eqlNil', aBin_neqNil, aBin_neqNil', aUn_not, aUn_neg, aNil_ptr, aOff_ptr, aInt_int, aLenStr_str, aLenS_slice, aLenS_nil, aFold_min, aFold_max, bs_size, bs_empty, Nat.zero_add, Nat.add_zero, Nat.reduceAdd, ok_load, Mem.get_set, Mem.set_set, List.getElem?_cons_zero, List.getElem?_cons_succ, Option.some.injEq, exists_eq_left', List.set_cons_zero, List.set_cons_succ]
    rw [← ht] at hq
    exact hq
  · rw [List.concat_eq_append] at e
    subst e
    simp at hk
    subst hk
    have h1 : (0 : Int) < ((l2 ++ [b]).length : Int) := by rw [List.length_append, List.length_singleton]; omega
    have e1 : IntKind.i64.wrap (((l2 ++ [b]).length : Int) - 1) = (l2.length : Int) := by rw [IntWalk.i64_in _ (by simp; omega)]; simp
    have e2 : aIdxStr (.str (bs (l2 ++ [b]))) (.int .i64 l2.length) = some (.int .u8 b.toNat) := aIdxStr_bs _ _ _ (by simp)
    have e3 : aSliceStr (.str (bs (l2 ++ [b]))) none (some (.int .i64 l2.length)) = some (.str (bs l2)) := by rw [aSliceStr_to _ _ _ (by simp)]; simp
    simp -implicitDefEqProofs only [h1, decide_true, if_true, lp_some', mc_true, mc_false, ok_ret, ok_mc, ok_snap, aBin_add, aBin_sub, aBin_mul, aBin_lss, aBin_leq, aBin_gtr, aBin_geq, aBin_eql, aBin_neq, aBin_eqlStr, aBin_neqStr, strEq_bs, aBin_eqlNil, aBin_eqlNil', aBin_neqNil, aBin_neqNil', aUn_not, aUn_neg, aNil_ptr, aOff_ptr, aInt_int, aLenStr_str, aLenS_slice, aLenS_nil, aFold_min, aFold_max, bs_size, bs_empty, Nat.zero_add, Nat.add_zero, Nat.reduceAdd, ok_load, Mem.get_set, Mem.set_set, List.getElem?_cons_zero, List.getElem?_cons_succ, Option.some.injEq, exists_eq_left', List.set_cons_zero, List.set_cons_succ, e1, e2]
    by_cases hb : b = 0
    · subst hb
      have e4 : decide (((0 : UInt8).toNat : Int) = 0) = true := by decide
      simp -implicitDefEqProofs only [ref04_Coder_End_j0, lp_some', mc_true, mc_false, ok_ret, ok_mc, ok_snap, aBin_add, aBin_sub, aBin_mul, aBin_lss, aBin_leq, aBin_gtr, aBin_geq, aBin_eql, aBin_neq, aBin_eqlStr, aBin_neqStr, strEq_bs, aBin_eqlNil, aBin_eqlNil', aBin_neqNil, aBin_neqNil', aUn_not, aUn_neg, aNil_ptr, aOff_ptr, aInt_int, aLenStr_str, aLenS_slice, aLenS_nil, aFold_min, aFold_max, bs_size, bs_empty, Nat.zero_add, Nat.add_zero, Nat.reduceAdd, ok_load, Mem.get_set, Mem.set_set, List.getElem?_cons_zero, List.getElem?_cons_succ, Option.some.injEq, exists_eq_left', List.set_cons_zero, List.set_cons_succ, e4, if_true, e1, e3]
      exact ih l2.length _ _ (by omega) ⟨l2, _, _, _, _, _, _, rfl, rfl, rfl, by rw [← ht, trim_snoc_zero], by omega⟩
    · have hb' : b.toNat ≠ 0 := fun e => hb (UInt8.toNat_inj.1 e)
      have e4 : decide ((b.toNat : Int) = 0) = false := decide_eq_false (by omega)
      simp -implicitDefEqProofs only [ref04_Coder_End_j0, lp_some', mc_true, mc_false, ok_ret, ok_mc, ok_snap, aBin_add, aBin_sub, aBin_mul, aBin_lss, aBin_leq, aBin_gtr, aBin_geq, aBin_eql, aBin_neq, aBin_eqlStr, aBin_neqStr, strEq_bs, aBin_eqlNil, aBin_eqlNil', aBin_neqNil, aBin_neqNil', aUn_not, aUn_neg, aNil_ptr, aOff_ptr, aInt_int, aLenStr_str, aLenS_slice, aLenS_nil, aFold_min, aFold_max, bs_size, bs_empty, Nat.zero_add, Nat.add_zero, Nat.reduceAdd, ok_load, Mem.get_set, Mem.set_set, List.getElem?_cons_zero, List.getElem?_cons_succ, Option.some.injEq, exists_eq_left', List.set_cons_zero, List.set_cons_succ, e4, Bool.false_eq_true, if_false]
      rw [← ht, trim_snoc _ _ hb] at hq
      exact hq

theorem rend_low {i : Nat} {x : Iv} {v : AV} {le : Int} {m0 : Mem} {Q : AV → Mem → Prop} (h0 : RefAt m0 i x v le) {D : List UInt8} (hD : D.length ≤ 2 ^ 40)
    (hq : ∀ m', RefAt m' i x v le → Chg (fun _ => False) m0 m' → Q (.str (bs (trim (D ++ dig 4 (x.V % 4294967296))))) m') {m : Mem} (h : RefAt m i x v le) (hc : Chg (fun _ => False) m0 m) {j1 j2 j3 j4 j5 j6 : AV} :
    Ok (fun n => loopN (fun r l => ref04_Coder_End_l1 (fcall Tryz.prog ext1 n) n r (l.getD 0 .undef) (l.getD 1 .undef) (l.getD 2 .undef) (l.getD 3 .undef) (l.getD 4 .undef) (l.getD 5 .undef) (l.getD 6 .undef) (l.getD 7 .undef) (l.getD 8 .undef)) n [.ptr i 0, .str (bs D), .int .i64 24, j1, j2, j3, j4, j5, j6]) m Q := by
  have hlow : x.V % 4294967296 < 4294967296 := Nat.mod_lt _ (by decide)
  refine Ok.loop (fun k l m => ∃ j, j + k = 4 ∧ l = [.ptr i 0, .str (bs (D ++ (dig 4 (x.V % 4294967296)).take j)), .int .i64 (24 - 8 * (j : Int)), j1, j2, j3, j4, j5, j6] ∧ RefAt m i x v le ∧ Chg (fun _ => False) m0 m) ?_ (k := 4) ⟨0, rfl, by simp, h, hc⟩
  clear h hc
  rintro k l m rec ⟨j, hj, rfl, h, hc⟩ ih
  have hg := h.get
  generalize hL : x.V % 4294967296 = low at *
  simp -implicitDefEqProofs only [List.getD_cons_zero, List.getD_cons_succ, ref04_Coder_End_l1, lp_some', mc_true, mc_false, ok_ret, ok_mc, ok_snap, aBin_add, aBin_sub, aBin_mul, aBin_lss, aBin_leq, aBin_gtr, aBin_geq, aBin_eql, aBin_neq, aBin_eqlStr, aBin_neqStr, strEq_bs, aBin_eqlNil, aBin_eqlNil', aBin_neqNil, aBin_neqNil', aUn_not, aUn_neg, aNil_ptr, aOff_ptr, aInt_int, aLenStr_str, aLenS_slice, aLenS_nil, aFold_min, aFold_max, bs_size, bs_empty, Nat.zero_add, Nat.add_zero, Nat.reduceAdd, ok_load, Mem.get_set, Mem.set_set, List.getElem?_cons_zero, List.getElem?_cons_succ, Option.some.injEq, exists_eq_left', List.set_cons_zero, List.set_cons_succ]
  cases k with
  | zero =>
    have e : j = 4 := by omega
    subst e
    have h1 : ¬ (0 : Int) ≤ 24 - 8 * ((4 : Nat) : Int) := by decide
    have e2 : (dig 4 low).take 4 = dig 4 low := List.take_of_length_le (by simp [dig_length])
    simp -implicitDefEqProofs only [h1, decide_false, Bool.false_eq_true, if_false, e2]
    exact rend_trim (by simp [dig_length]; omega) (hq m h hc)
  | succ k =>
    have h1 : (0 : Int) ≤ 24 - 8 * (j : Int) := by omega
    have hj' : j = 0 ∨ j = 1 ∨ j = 2 ∨ j = 3 := by omega
    have e1 : aBin .shr [] (.int .i64 (low : Int)) (.int .i64 (24 - 8 * (j : Int))) = some (.int .i64 ((low / 2 ^ (24 - 8 * j) : Nat) : Int)) := by
      have := aBin_shr_nat .i64 .i64 [] low (24 - 8 * j) (by show _ ≤ 64; omega)
      rw [show ((24 - 8 * j : Nat) : Int) = 24 - 8 * (j : Int) by omega] at this
      exact this
    have hdl : low / 2 ^ (24 - 8 * j) ≤ low := Nat.div_le_self _ _
    have e2 := and255 (low / 2 ^ (24 - 8 * j)) (by omega)
    have e3 : IntKind.i64.wrap (24 - 8 * (j : Int) - 8) = 24 - 8 * ((j + 1 : Nat) : Int) := by rw [IntWalk.i64_in _ (by omega)]; omega
    have e5 : AV.int .u8 (IntKind.u8.wrap ((low / 2 ^ (24 - 8 * j) % 256 : Nat) : Int)) = .int .u8 (UInt8.ofNat (low / 2 ^ (24 - 8 * j))).toNat := by rw [u8_ofNat, ofNat_mod]
    have e6 := aFill1 (.int .u8 0) (.int .u8 (UInt8.ofNat (low / 2 ^ (24 - 8 * j))).toNat) (one_int _ _)
    simp -implicitDefEqProofs only [h1, decide_true, if_true, lp_some', mc_true, mc_false, ok_ret, ok_mc, ok_snap, aBin_add, aBin_sub, aBin_mul, aBin_lss, aBin_leq, aBin_gtr, aBin_geq, aBin_eql, aBin_neq, aBin_eqlStr, aBin_neqStr, strEq_bs, aBin_eqlNil, aBin_eqlNil', aBin_neqNil, aBin_neqNil', aUn_not, aUn_neg, aNil_ptr, aOff_ptr, aInt_int, aLenStr_str, aLenS_slice, aLenS_nil, aFold_min, aFold_max, bs_size, bs_empty, Nat.zero_add, Nat.add_zero, Nat.reduceAdd, ok_load, Mem.get_set, Mem.set_set, List.getElem?_cons_zero, List.getElem?_cons_succ, Option.some.injEq, exists_eq_left', List.set_cons_zero, List.set_cons_succ, load_at hg, e1, e2, e5, e6]
    refine ok_ofBytes1 ?_
    have e4 : D ++ (dig 4 low).take (j + 1) = D ++ (dig 4 low).take j ++ [UInt8.ofNat (low / 2 ^ (24 - 8 * j))] := by
      rw [dig4]
      rcases hj' with rfl | rfl | rfl | rfl <;> simp
    have hl4 : (D ++ (dig 4 low).take j).length + [UInt8.ofNat (low / 2 ^ (24 - 8 * j))].length ≤ 9223372036854775807 := by simp [dig_length]; omega
    have e7 := aBin_addStr (D ++ (dig 4 low).take j) [UInt8.ofNat (low / 2 ^ (24 - 8 * j))] [] hl4
    simp -implicitDefEqProofs only [lp_some', mc_true, mc_false, ok_ret, ok_mc, ok_snap, aBin_add, aBin_sub, aBin_mul, aBin_lss, aBin_leq, aBin_gtr, aBin_geq, aBin_eql, aBin_neq, aBin_eqlStr, aBin_neqStr, strEq_bs, aBin_eqlNil, aBin_eqlNil', aBin_neqNil, aBin_neqNil', aUn_not, aUn_neg, aNil_ptr, aOff_ptr, aInt_int, aLenStr_str, aLenS_slice, aLenS_nil, aFold_min, aFold_max, bs_size, bs_empty, Nat.zero_add, Nat.add_zero, Nat.reduceAdd, ok_load, Mem.get_set, Mem.set_set, List.getElem?_cons_zero, List.getElem?_cons_succ, Option.some.injEq, exists_eq_left', List.set_cons_zero, List.set_cons_succ, e7, e3]
    have hca : Chg (fun _ => False) m (m.alloc (.cells T_uint8 0 [.int .u8 (UInt8.ofNat (low / 2 ^ (24 - 8 * j))).toNat])) := Chg.alloc _ _ _
    exact ih k _ _ (Nat.lt_succ_self _) ⟨j + 1, by omega, by rw [e4], h.chg hca id (fun _ _ => id), hc.trans hca (fun _ _ h => h)⟩

theorem rend_ok {i : Nat} {x : Iv} {v : AV} {le : Int} {m : Mem} {Q : AV → Mem → Prop} (h : RefAt m i x v le) (hn : x.n < 2 ^ 39)
    (hq : ∀ m', RefAt m' i x v le → Chg (fun _ => False) m m' → Q (.str (bs x.ends)) m') : Ok (R fn_ref04_Coder_End [.ptr i 0]) m Q := by
  refine Ok.call (fun n => ref04_Coder_End_eq rfl n _) ?_
  rw [ends_eq] at hq
  have hl : (dig x.n (x.V / 4294967296)).length = x.n := dig_length _ _
  simp -implicitDefEqProofs only [ref04_Coder_End, bs_empty]
  refine Ok.loop (fun k l m' => ∃ j, j + k = x.n ∧ l = [.ptr i 0, .str (bs ((dig x.n (x.V / 4294967296)).take j)), .int .i64 j, .undef, .undef, .undef, .undef, .undef, .undef] ∧ RefAt m' i x v le ∧ Chg (fun _ => False) m m') ?_ (k := x.n) ⟨0, by omega, by simp, h, Chg.refl _ _⟩
  rintro k l m1 rec ⟨j, hj, rfl, h1, hc⟩ ih
  have hg := h1.get
  simp -implicitDefEqProofs only [List.getD_cons_zero, List.getD_cons_succ, ref04_Coder_End_l0, lp_some', mc_true, mc_false, ok_ret, ok_mc, ok_snap, aBin_add, aBin_sub, aBin_mul, aBin_lss, aBin_leq, aBin_gtr, aBin_geq, aBin_eql, aBin_neq, aBin_eqlStr, aBin_neqStr, strEq_bs, aBin_eqlNil, aBin_eqlNil', aBin_neqNil, aBin_neqNil', aUn_not, aUn_neg, aNil_ptr, aOff_ptr, aInt_int, aLenStr_str, aLenS_slice, aLenS_nil, aFold_min, aFold_max, bs_size, bs_empty, Nat.zero_add, Nat.add_zero, Nat.reduceAdd, ok_load, Mem.get_set, Mem.set_set, List.getElem?_cons_zero, List.getElem?_cons_succ, Option.some.injEq, exists_eq_left', List.set_cons_zero, List.set_cons_succ, load_at hg, h1.buf.len, ints_length, hl]
  cases k with
  | zero =>
    have e : j = x.n := by omega
    subst e
    have e2 : (dig x.n (x.V / 4294967296)).take x.n = dig x.n (x.V / 4294967296) := List.take_of_length_le (by omega)
    simp -implicitDefEqProofs only [Int.lt_irrefl, decide_false, Bool.false_eq_true, if_false, e2]
    exact rend_low h (by omega) hq h1 hc
  | succ k =>
    have h2 : (j : Int) < (x.n : Int) := by omega
    have hjl : j < (dig x.n (x.V / 4294967296)).length := by omega
    obtain ⟨b, hb⟩ : ∃ b, (dig x.n (x.V / 4294967296))[j]? = some b := ⟨_, List.getElem?_eq_getElem hjl⟩
    obtain ⟨jj, hix, hgj, hbj, hnj, hoj⟩ := h1.buf.idx (k := j) (kd := .i64) (by rw [ints_length]; exact hjl)
    have hcell : (ints (dig x.n (x.V / 4294967296)))[j]? = some (.int .i64 b.toNat) := by rw [ints_get, hb]; rfl
    have e3 : IntKind.i64.wrap ((j : Int) + 1) = ((j + 1 : Nat) : Int) := by rw [IntWalk.i64_in _ (by omega)]; omega
    have e5 : AV.int .u8 (IntKind.u8.wrap (b.toNat : Int)) = .int .u8 b.toNat := by rw [u8_ofNat, UInt8.ofNat_toNat]
    have e6 := aFill1 (.int .u8 0) (.int .u8 b.toNat) (one_int _ _)
    simp -implicitDefEqProofs only [h2, decide_true, if_true, lp_some', mc_true, mc_false, ok_ret, ok_mc, ok_snap, aBin_add, aBin_sub, aBin_mul, aBin_lss, aBin_leq, aBin_gtr, aBin_geq, aBin_eql, aBin_neq, aBin_eqlStr, aBin_neqStr, strEq_bs, aBin_eqlNil, aBin_eqlNil', aBin_neqNil, aBin_neqNil', aUn_not, aUn_neg, aNil_ptr, aOff_ptr, aInt_int, aLenStr_str, aLenS_slice, aLenS_nil, aFold_min, aFold_max, bs_size, bs_empty, Nat.zero_add, Nat.add_zero, Nat.reduceAdd, ok_load, Mem.get_set, Mem.set_set, List.getElem?_cons_zero, List.getElem?_cons_succ, Option.some.injEq, exists_eq_left', List.set_cons_zero, List.set_cons_succ, hix, load_at hgj, hcell, e5, e6]
    refine ok_ofBytes1 ?_
    have e4 : (dig x.n (x.V / 4294967296)).take (j + 1) = (dig x.n (x.V / 4294967296)).take j ++ [b] := by rw [List.take_add_one, hb]; rfl
    have hl4 : ((dig x.n (x.V / 4294967296)).take j).length + [b].length ≤ 9223372036854775807 := by simp [dig_length]; omega
    have e7 := aBin_addStr ((dig x.n (x.V / 4294967296)).take j) [b] [] hl4
    simp -implicitDefEqProofs only [lp_some', mc_true, mc_false, ok_ret, ok_mc, ok_snap, aBin_add, aBin_sub, aBin_mul, aBin_lss, aBin_leq, aBin_gtr, aBin_geq, aBin_eql, aBin_neq, aBin_eqlStr, aBin_neqStr, strEq_bs, aBin_eqlNil, aBin_eqlNil', aBin_neqNil, aBin_neqNil', aUn_not, aUn_neg, aNil_ptr, aOff_ptr, aInt_int, aLenStr_str, aLenS_slice, aLenS_nil, aFold_min, aFold_max, bs_size, bs_empty, Nat.zero_add, Nat.add_zero, Nat.reduceAdd, ok_load, Mem.get_set, Mem.set_set, List.getElem?_cons_zero, List.getElem?_cons_succ, Option.some.injEq, exists_eq_left', List.set_cons_zero, List.set_cons_succ, e7, e3]
    have hca : Chg (fun _ => False) m1 (m1.alloc (.cells T_uint8 0 [.int .u8 b.toNat])) := Chg.alloc _ _ _
    exact ih k _ _ (Nat.lt_succ_self _) ⟨j + 1, by omega, by rw [e4], h1.chg hca id (fun _ _ => id), hc.trans hca (fun _ _ h => h)⟩

/-! coders side by side -/

def Dis (F G : Nat → Prop) : Prop := ∀ b, F b → G b → False
def foot (i : Nat) (v : AV) : Nat → Prop := fun b => b = i ∨ own v b
theorem Fr.dis {i : Nat} {b b' : AV} {m m' : Mem} (h : Fr i b m b' m') {G : Nat → Prop} (hG : ∀ j, G j → j < m.next) (hd : Dis (foot i b) G) : Dis (foot i b') G := by
  intro j hj hg
  rcases hj with hj | hj
  · exact hd j (.inl hj) hg
  · rcases h.own j hj with h1 | h1
    · exact hd j (.inr h1) hg
    · have := hG j hg; omega
theorem CodAt.foot_lt {m : Mem} {i : Nat} {c : Cst} {a buf : AV} (h : CodAt m i c a buf) : ∀ j, foot i buf j → j < m.next ∧ m.base ≤ j := by
  intro j hj
  rcases hj with hj | hj
  · subst hj; exact ⟨h.next, h.base⟩
  · obtain ⟨fz, hB⟩ := h.buf
    exact ⟨(hB.own hj).2, (hB.own hj).1⟩
theorem RefAt.foot_lt {m : Mem} {i : Nat} {x : Iv} {v : AV} {le : Int} (h : RefAt m i x v le) : ∀ j, foot i v j → j < m.next ∧ m.base ≤ j := by
  intro j hj
  rcases hj with hj | hj
  · subst hj; exact ⟨h.next, h.base⟩
  · exact ⟨(h.buf.own hj).2, (h.buf.own hj).1⟩
theorem Fr.old {i : Nat} {b b' : AV} {m0 m m' : Mem} (h : Fr i b m b' m') (h0 : Old m0 m) (hF : ∀ j, foot i b j → j < m.next ∧ m.base ≤ j) (hn : m.base ≤ m.next) : Old m0 m' :=
  h.chg.old h0 hn (fun j hj => (hF j hj).2)
theorem Chg.false_fr {i : Nat} {v : AV} {m m' : Mem} (h : Chg (fun _ => False) m m') : Fr i v m v m' := ⟨h.mono fun _ _ h => h.elim, fun _ h => .inl h⟩

/-- Both coders, and other objects. -/
structure Two (rest : List AV) (m0 : Mem) (K : Nat → Prop) (X : Nat → AObj) (i1 i2 : Nat) (xc xr : Iv) (c : Cst) (a buf v : AV) (m : Mem) : Prop where
  old : Old m0 m
  bn : m.base ≤ m.next
  keep : ∀ b, K b → b < m.next ∧ m.get b = X b
  cod : CodAt m i1 c a buf
  is : c.Is T_code_writer rest xc
  ref : RefAt m i2 xr v ((4294967295 - xr.R : Nat) : Int)
  dcr : Dis (foot i1 buf) (foot i2 v)
  dcx : Dis (foot i1 buf) K
  drx : Dis (foot i2 v) K
theorem Two.setCod {rest : List AV} {m0 m m' : Mem} {K : Nat → Prop} {X : Nat → AObj} {i1 i2 : Nat} {xc xc' xr : Iv} {c c' : Cst} {a a' buf buf' v : AV} (h : Two rest m0 K X i1 i2 xc xr c a buf v m) (hc : CodAt m' i1 c' a' buf') (hI : c'.Is T_code_writer rest xc') (hF : Fr i1 buf m buf' m') : Two rest m0 K X i1 i2 xc' xr c' a' buf' v m' where
  old := hF.old h.old h.cod.foot_lt h.bn
  bn := by have := hc.base; have := hc.next; omega
  keep := fun b hb => ⟨Nat.lt_of_lt_of_le (h.keep b hb).1 hF.chg.next, (hF.chg.get b (h.keep b hb).1 (fun hg => h.dcx b hg hb)).trans (h.keep b hb).2⟩
  cod := hc
  is := hI
  ref := h.ref.chg hF.chg (fun hg => h.dcr i2 hg (.inl rfl)) (fun b hb hg => h.dcr b hg (.inr hb))
  dcr := hF.dis (fun j hj => (h.ref.foot_lt j hj).1) h.dcr
  dcx := hF.dis (fun j hj => (h.keep j hj).1) h.dcx
  drx := h.drx
theorem Two.setRef {rest : List AV} {m0 m m' : Mem} {K : Nat → Prop} {X : Nat → AObj} {i1 i2 : Nat} {xc xr xr' : Iv} {c : Cst} {a buf v v' : AV} (h : Two rest m0 K X i1 i2 xc xr c a buf v m) (hr : RefAt m' i2 xr' v' ((4294967295 - xr'.R : Nat) : Int)) (hF : Fr i2 v m v' m') : Two rest m0 K X i1 i2 xc xr' c a buf v' m' where
  old := hF.old h.old h.ref.foot_lt h.bn
  bn := by have := hr.base; have := hr.next; omega
  keep := fun b hb => ⟨Nat.lt_of_lt_of_le (h.keep b hb).1 hF.chg.next, (hF.chg.get b (h.keep b hb).1 (fun hg => h.drx b hg hb)).trans (h.keep b hb).2⟩
  cod := CodAt.chg h.cod hF.chg (fun hg => h.dcr i1 (.inl rfl) hg) (fun b hb hg => h.dcr b (.inr hb) hg)
  is := h.is
  ref := hr
  dcr := fun b h1 h2 => hF.dis (fun j hj => (h.cod.foot_lt j hj).1) (fun b h2 h1 => h.dcr b h1 h2) b h2 h1
  dcx := h.dcx
  drx := hF.dis (fun j hj => (h.keep j hj).1) h.drx
theorem Two.chg {rest : List AV} {m0 m m' : Mem} {K : Nat → Prop} {X : Nat → AObj} {i1 i2 : Nat} {xc xr : Iv} {c : Cst} {a buf v : AV} (h : Two rest m0 K X i1 i2 xc xr c a buf v m) (hc : Chg (fun _ => False) m m') : Two rest m0 K X i1 i2 xc xr c a buf v m' :=
  h.setCod (CodAt.chg h.cod hc id (fun _ _ => id)) h.is (Chg.false_fr hc)

/-- What a part, or what is none, makes of an interval. -/
def codeAny (lo hi t : Int) (x : Iv) : Iv := if 0 ≤ lo ∧ lo < hi ∧ hi ≤ t ∧ t ≤ 65536 then x.code lo.toNat hi.toNat t.toNat else x
theorem codeAny_fits {lo hi t : Int} {x : Iv} (h : x.Fits) : (codeAny lo hi t x).Fits := by
  unfold codeAny
  split
  · exact Iv.code_fits h (by omega)
  · exact h
theorem codeAny_n (lo hi t : Int) (x : Iv) : (codeAny lo hi t x).n ≤ x.n + 3 := by
  unfold codeAny
  split
  · exact (Iv.code_n _ _ _ x).2
  · omega
theorem code_any {i : Nat} {lo hi t : Int} {c : Cst} {x : Iv} {a buf : AV} {m : Mem} {Q : AV → Mem → Prop} (h : CodAt m i c a buf) (hI : c.Is T rest x) (hx : x.Fits) (hn : x.n + 3 < 2 ^ 39)
    (hq : ∀ m' c' a' buf', CodAt m' i c' a' buf' → c'.Is T rest (codeAny lo hi t x) → Fr i buf m buf' m' → Q (.tup []) m') : Ok (R fn_rc_Coder_Code [.ptr i 0, .int .i64 lo, .int .i64 hi, .int .i64 t]) m Q := by
  by_cases hp : 0 ≤ lo ∧ lo < hi ∧ hi ≤ t ∧ t ≤ 65536
  · obtain ⟨lo, rfl⟩ : ∃ n : Nat, lo = n := ⟨lo.toNat, by omega⟩
    obtain ⟨hi, rfl⟩ : ∃ n : Nat, hi = n := ⟨hi.toNat, by omega⟩
    obtain ⟨t, rfl⟩ : ∃ n : Nat, t = n := ⟨t.toNat, by omega⟩
    refine code_ok h hI hx hn (by omega) fun m' c' a' buf' h1 h2 h3 => hq m' c' a' buf' h1 ?_ h3
    simpa [codeAny, hp] using h2
  · refine code_not hp (hq m c a buf h ?_ (Fr.refl _ _ _))
    simpa [codeAny, hp] using hI
theorem rcode_any {i : Nat} {lo hi t : Int} {x : Iv} {v : AV} {m : Mem} {Q : AV → Mem → Prop} (h : RefAt m i x v ((4294967295 - x.R : Nat) : Int)) (hx : x.Fits) (hn : x.n + 3 < 2 ^ 39)
    (hq : ∀ m' v', RefAt m' i (codeAny lo hi t x) v' ((4294967295 - (codeAny lo hi t x).R : Nat) : Int) → Fr i v m v' m' → Q (.tup []) m') : Ok (R fn_ref04_Coder_Code [.ptr i 0, .int .i64 lo, .int .i64 hi, .int .i64 t]) m Q := by
  by_cases hp : 0 ≤ lo ∧ lo < hi ∧ hi ≤ t ∧ t ≤ 65536
  · obtain ⟨lo, rfl⟩ : ∃ n : Nat, lo = n := ⟨lo.toNat, by omega⟩
    obtain ⟨hi, rfl⟩ : ∃ n : Nat, hi = n := ⟨hi.toNat, by omega⟩
    obtain ⟨t, rfl⟩ : ∃ n : Nat, t = n := ⟨t.toNat, by omega⟩
    refine rcode_ok h hx hn (by omega) fun m' v' h1 h3 => hq m' v' ?_ h3
    simpa [codeAny, hp] using h1
  · refine rcode_not hp (hq m v ?_ (Fr.refl _ _ _))
    simpa [codeAny, hp] using h

theorem start_is {rest : List AV} : (⟨false, 0, [], 0, 0, 0, T_code_writer, rest⟩ : Cst).Is T_code_writer rest Iv.start := ⟨rfl, rfl, rfl, Nat.zero_le _, fun _ => (by decide : 0 + Iv.start.R ≤ 4294967296), rfl, rfl⟩
theorem codNew_ok {rest : List AV} (hr : rest.length = 1) {m : Mem} (hb : m.base ≤ m.next) : CodAt (m.alloc (.cells T_code_writer 0 (.bool false :: .int .u64 0 :: .nilptr :: .nilslice :: .int .u64 0 :: .int .i64 0 :: .int .i64 0 :: rest))) m.next ⟨false, 0, [], 0, 0, 0, T_code_writer, rest⟩ .nilptr .nilslice :=
  ⟨Mem.get_alloc _ _, hb, Nat.lt_succ_self _, rfl, .inl rfl, rfl, ⟨0, .inl ⟨rfl, rfl⟩⟩, id, cod_lies _ _ _ rfl hr⟩
theorem refNew_ok {m : Mem} (hb : m.base ≤ m.next) : RefAt (m.alloc (.cells T_ref04_Coder 0 [.nilslice, .int .i64 0, .int .i64 0])) m.next Iv.start .nilslice ((4294967295 - Iv.start.R : Nat) : Int) :=
  ⟨Mem.get_alloc _ _, hb, Nat.lt_succ_self _, .inl ⟨rfl, rfl⟩, id⟩
end SplA
