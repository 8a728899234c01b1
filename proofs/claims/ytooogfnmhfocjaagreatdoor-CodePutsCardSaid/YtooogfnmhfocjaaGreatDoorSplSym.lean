/- What the numbers' functions do: coders. -/
import Derived.Test.YtooogfnmhfocjaaGreatDoorSplTwo
import Derived.Test.YtooogfnmhfocjaaGreatDoorSplSymP
namespace SplA
open Go.Proofs.YtooogfnmhfocjaaGreatDoor.Spl Go Go.Proofs
set_option maxRecDepth 100000
set_option linter.unusedVariables false
set_option linter.unusedSimpArgs false

/-- A call codes parts. -/
def PutsC (call : Nat → M AV) (i : Nat) (ps : List Pt) (r : AV) : Prop :=
  ∀ (T : Nat) (rest : List AV) (m : Mem) (c : Cst) (a buf : AV) (x : Iv) (Q : AV → Mem → Prop), CodAt m i c a buf → c.Is T rest x → x.Fits → x.n + 3 * ps.length < 2 ^ 38 →
    (∀ m' c' a' buf', CodAt m' i c' a' buf' → c'.Is T rest (x.parts ps) → (x.parts ps).Fits → Fr i buf m buf' m' → Q r m') → Ok call m Q
/-- .. by the document. -/
def PutsR (call : Nat → M AV) (i : Nat) (ps : List Pt) (r : AV) : Prop :=
  ∀ (m : Mem) (v : AV) (x : Iv) (Q : AV → Mem → Prop), RefAt m i x v ((4294967295 - x.R : Nat) : Int) → x.Fits → x.n + 3 * ps.length < 2 ^ 38 →
    (∀ m' v', RefAt m' i (x.parts ps) v' ((4294967295 - (x.parts ps).R : Nat) : Int) → (x.parts ps).Fits → Fr i v m v' m' → Q r m') → Ok call m Q

theorem sput_ok {i v t : Nat} (hv : v < t) (ht : t ≤ 65536) : PutsC (R fn_sym_put [.ptr i 0, .int .i64 v, .int .i64 t]) i [one v t] (.tup []) := by
  intro T rest m c a buf x Q h hI hx hn hq
  refine Ok.call (fun n => sym_put_eq rfl n _ _ _) ?_
  have e1 : IntKind.i64.wrap ((v : Int) + 1) = ((v + 1 : Nat) : Int) := by rw [IntWalk.i64_in _ (by omega)]; rfl
  simp -implicitDefEqProofs only [sym_put, lp_some', mc_true, mc_false, ok_ret, ok_mc, ok_snap, aBin_add, aBin_sub, aBin_mul, aBin_lss, aBin_leq, aBin_gtr, aBin_geq, aBin_eql, aBin_neq, aBin_eqlStr, aBin_neqStr, strEq_bs, aBin_eqlNil, aBin_eqlNil', aBin_neqNil, aBin_neqNil', aUn_not, aUn_neg, aNil_ptr, aOff_ptr, aInt_int, aLenStr_str, aLenS_slice, aLenS_nil, aFold_min, aFold_max, bs_size, bs_empty, Nat.zero_add, Nat.add_zero, Nat.reduceAdd, ok_load, Mem.get_set, Mem.set_set, List.getElem?_cons_zero, List.getElem?_cons_succ, Option.some.injEq, exists_eq_left', List.set_cons_zero, List.set_cons_succ, e1]
  have hp : v < v + 1 ∧ v + 1 ≤ t ∧ t ≤ 65536 := ⟨Nat.lt_succ_self _, hv, ht⟩
  simp -implicitDefEqProofs only [List.length_cons, List.length_nil] at hn
  refine Ok.bnd (code_ok h hI hx (by omega) hp fun m1 c1 a1 b1 h1 h2 h3 => ?_)
  simp -implicitDefEqProofs only [lp_some', mc_true, mc_false, ok_ret, ok_mc, ok_snap, aBin_add, aBin_sub, aBin_mul, aBin_lss, aBin_leq, aBin_gtr, aBin_geq, aBin_eql, aBin_neq, aBin_eqlStr, aBin_neqStr, strEq_bs, aBin_eqlNil, aBin_eqlNil', aBin_neqNil, aBin_neqNil', aUn_not, aUn_neg, aNil_ptr, aOff_ptr, aInt_int, aLenStr_str, aLenS_slice, aLenS_nil, aFold_min, aFold_max, bs_size, bs_empty, Nat.zero_add, Nat.add_zero, Nat.reduceAdd, ok_load, Mem.get_set, Mem.set_set, List.getElem?_cons_zero, List.getElem?_cons_succ, Option.some.injEq, exists_eq_left', List.set_cons_zero, List.set_cons_succ]
  exact hq m1 c1 a1 b1 h1 h2 (Iv.code_fits hx hp) h3

theorem putBits_loop {T : Nat} {rest : List AV} {i v : Nat} (hv : v < 9223372036854775808) {z : Iv} {Q : AV → Mem → Prop} {m0 : Mem} {buf0 : AV} (hq : ∀ m' c' a' buf', CodAt m' i c' a' buf' → c'.Is T rest z → z.Fits → Fr i buf0 m0 buf' m' → Q (.bool true) m')
    {n : Nat} {x0 : Iv} {c0 : Cst} {a0 : AV} (h0 : CodAt m0 i c0 a0 buf0) (hI0 : c0.Is T rest x0) (hx0 : x0.Fits) (hz0 : x0.parts (bitsP n v) = z) (hn0 : n ≤ 31) (hl0 : x0.n + 3 * (bitsP n v).length < 2 ^ 38) :
    Ok (fun q => loopN (fun r l => sym_PutBits_l0 (fcall Tryz.prog ext1 q) q r (l.getD 0 .undef) (l.getD 1 .undef) (l.getD 2 .undef)) q [.ptr i 0, .int .i64 v, .int .i64 n]) m0 Q := by
  refine Ok.loop (fun k l m => ∃ c a buf x, l = [.ptr i 0, .int .i64 v, .int .i64 (k : Nat)] ∧ k ≤ 31 ∧ CodAt m i c a buf ∧ c.Is T rest x ∧ x.Fits ∧ x.parts (bitsP k v) = z ∧ x.n + 3 * (bitsP k v).length < 2 ^ 38 ∧ Fr i buf0 m0 buf m) ?_ (k := n) ⟨c0, a0, buf0, x0, rfl, hn0, h0, hI0, hx0, hz0, hl0, Fr.refl _ _ _⟩
  clear h0 hI0 hx0 hz0 hn0 hl0
  rintro k l m rec ⟨c, a, buf, x, rfl, hk, h, hI, hx, hz, hl, hF⟩ ih
  by_cases h8 : 8 < k
  · have d8 : (8 : Int) < (k : Int) := by omega
    have e1 : IntKind.i64.wrap ((k : Int) - 8) = ((k - 8 : Nat) : Int) := by rw [IntWalk.i64_in _ (by omega)]; omega
    have e2 := aBin_shr_nat .i64 .i64 [] v (k - 8) (by show _ ≤ 64; omega)
    have hdl : v / 2 ^ (k - 8) ≤ v := Nat.div_le_self _ _
    have e3 := and255 (v / 2 ^ (k - 8)) (by omega)
    simp -implicitDefEqProofs only [List.getD_cons_zero, List.getD_cons_succ, sym_PutBits_l0, lp_some', mc_true, mc_false, ok_ret, ok_mc, ok_snap, aBin_add, aBin_sub, aBin_mul, aBin_lss, aBin_leq, aBin_gtr, aBin_geq, aBin_eql, aBin_neq, aBin_eqlStr, aBin_neqStr, strEq_bs, aBin_eqlNil, aBin_eqlNil', aBin_neqNil, aBin_neqNil', aUn_not, aUn_neg, aNil_ptr, aOff_ptr, aInt_int, aLenStr_str, aLenS_slice, aLenS_nil, aFold_min, aFold_max, bs_size, bs_empty, Nat.zero_add, Nat.add_zero, Nat.reduceAdd, ok_load, Mem.get_set, Mem.set_set, List.getElem?_cons_zero, List.getElem?_cons_succ, Option.some.injEq, exists_eq_left', List.set_cons_zero, List.set_cons_succ, d8, decide_true, if_true, e1, e2, e3]
    rw [bitsP_big h8] at hz hl
    rw [List.length_cons] at hl
    refine Ok.bnd (sput_ok (v := v / 2 ^ (k - 8) % 256) (t := 256) (Nat.mod_lt _ (by decide)) (by decide) _ _ m c a buf x _ h hI hx (by rw [List.length_singleton]; omega) fun m1 c1 a1 b1 h1 h2 h3 h4 => ?_)
    have hxn := (Iv.code_n (v / 2 ^ (k - 8) % 256) (v / 2 ^ (k - 8) % 256 + 1) 256 x).2
    exact ih (k - 8) _ _ (by omega) ⟨c1, a1, b1, _, rfl, by omega, h1, h2, h3, hz, by show (x.code _ _ _).n + _ < _; simp -implicitDefEqProofs only [one]; omega, hF.trans h4⟩
  · have d8 : ¬ (8 : Int) < (k : Int) := by omega
    by_cases h0 : 0 < k
    · have d0 : (0 : Int) < (k : Int) := by omega
      have e1 := shl_one .i64 [] k (by omega)
      have hp := pow8 h8
      have e2 : IntKind.i64.wrap (((2 ^ k : Nat) : Int) - 1) = ((2 ^ k - 1 : Nat) : Int) := by
        rw [show ((2 ^ k : Nat) : Int) - 1 = ((2 ^ k - 1 : Nat) : Int) by omega]
        exact i64_nat (by omega)
      have e3 := and_mask [] v k hv (by omega)
      simp -implicitDefEqProofs only [List.getD_cons_zero, List.getD_cons_succ, sym_PutBits_l0, lp_some', mc_true, mc_false, ok_ret, ok_mc, ok_snap, aBin_add, aBin_sub, aBin_mul, aBin_lss, aBin_leq, aBin_gtr, aBin_geq, aBin_eql, aBin_neq, aBin_eqlStr, aBin_neqStr, strEq_bs, aBin_eqlNil, aBin_eqlNil', aBin_neqNil, aBin_neqNil', aUn_not, aUn_neg, aNil_ptr, aOff_ptr, aInt_int, aLenStr_str, aLenS_slice, aLenS_nil, aFold_min, aFold_max, bs_size, bs_empty, Nat.zero_add, Nat.add_zero, Nat.reduceAdd, ok_load, Mem.get_set, Mem.set_set, List.getElem?_cons_zero, List.getElem?_cons_succ, Option.some.injEq, exists_eq_left', List.set_cons_zero, List.set_cons_succ, d8, d0, decide_true, decide_false, Bool.false_eq_true, if_false, if_true, e1, e2, e3]
      rw [bitsP_few h8 h0] at hz hl
      refine Ok.bnd (sput_ok (v := v % 2 ^ k) (t := 2 ^ k) (Nat.mod_lt _ hp.1) hp.2 _ _ m c a buf x _ h hI hx (by rw [List.length_singleton] at hl ⊢; omega) fun m1 c1 a1 b1 h1 h2 h3 h4 => ?_)
      simp -implicitDefEqProofs only [lp_some', mc_true, mc_false, ok_ret, ok_mc, ok_snap, aBin_add, aBin_sub, aBin_mul, aBin_lss, aBin_leq, aBin_gtr, aBin_geq, aBin_eql, aBin_neq, aBin_eqlStr, aBin_neqStr, strEq_bs, aBin_eqlNil, aBin_eqlNil', aBin_neqNil, aBin_neqNil', aUn_not, aUn_neg, aNil_ptr, aOff_ptr, aInt_int, aLenStr_str, aLenS_slice, aLenS_nil, aFold_min, aFold_max, bs_size, bs_empty, Nat.zero_add, Nat.add_zero, Nat.reduceAdd, ok_load, Mem.get_set, Mem.set_set, List.getElem?_cons_zero, List.getElem?_cons_succ, Option.some.injEq, exists_eq_left', List.set_cons_zero, List.set_cons_succ, sym_PutBits_j1]
      rw [hz] at h2 h3
      exact hq m1 c1 a1 b1 h1 h2 h3 (hF.trans h4)
    · obtain rfl : k = 0 := by omega
      have d0 : ¬ (0 : Int) < ((0 : Nat) : Int) := by decide
      simp -implicitDefEqProofs only [List.getD_cons_zero, List.getD_cons_succ, sym_PutBits_l0, lp_some', mc_true, mc_false, ok_ret, ok_mc, ok_snap, aBin_add, aBin_sub, aBin_mul, aBin_lss, aBin_leq, aBin_gtr, aBin_geq, aBin_eql, aBin_neq, aBin_eqlStr, aBin_neqStr, strEq_bs, aBin_eqlNil, aBin_eqlNil', aBin_neqNil, aBin_neqNil', aUn_not, aUn_neg, aNil_ptr, aOff_ptr, aInt_int, aLenStr_str, aLenS_slice, aLenS_nil, aFold_min, aFold_max, bs_size, bs_empty, Nat.zero_add, Nat.add_zero, Nat.reduceAdd, ok_load, Mem.get_set, Mem.set_set, List.getElem?_cons_zero, List.getElem?_cons_succ, Option.some.injEq, exists_eq_left', List.set_cons_zero, List.set_cons_succ, d8, d0, decide_false, Bool.false_eq_true, if_false, sym_PutBits_j1]
      rw [bitsP_none] at hz
      have hz' : x = z := hz
      subst hz'
      exact hq m c a buf h hI hx hF

theorem putBits_ok {i : Nat} {v n : Int} (hv : v < 9223372036854775808) : PutsC (R fn_sym_PutBits [.ptr i 0, .int .i64 v, .int .i64 n]) i ((bitsO v n).getD []) (.bool (bitsO v n).isSome) := by
  intro T rest m c a buf x Q h hI hx hn hq
  refine Ok.call (fun n => sym_PutBits_eq rfl n _ _ _) ?_
  by_cases hp : 0 ≤ n ∧ n ≤ 31 ∧ 0 ≤ v ∧ v < 2 ^ n.toNat
  · have hb : bitsO v n = some (bitsP n.toNat v.toNat) := if_pos hp
    rw [hb] at hn hq
    obtain ⟨h1, h2, h3, h4⟩ := hp
    obtain ⟨n, rfl⟩ : ∃ k : Nat, n = k := ⟨n.toNat, by omega⟩
    obtain ⟨v, rfl⟩ : ∃ k : Nat, v = k := ⟨v.toNat, by omega⟩
    simp -implicitDefEqProofs only [Int.toNat_natCast, Option.getD_some] at h4 hn hq
    have h4' : v < 2 ^ n := by
      have : ((v : Nat) : Int) < ((2 ^ n : Nat) : Int) := by rw [Int.natCast_pow]; exact h4
      omega
    have e1 := aBin_shr_nat .i64 .i64 [] v n (by show _ ≤ 64; omega)
    have e2 : v / 2 ^ n = 0 := Nat.div_eq_of_lt h4'
    rw [e2] at e1
    have d1 : ¬ (n : Int) < 0 := by omega
    have d2 : ¬ (31 : Int) < (n : Int) := by omega
    have d3 : ¬ (v : Int) < 0 := by omega
    simp -implicitDefEqProofs only [sym_PutBits, sym_PutBits_j0, lp_some', mc_true, mc_false, ok_ret, ok_mc, ok_snap, aBin_add, aBin_sub, aBin_mul, aBin_lss, aBin_leq, aBin_gtr, aBin_geq, aBin_eql, aBin_neq, aBin_eqlStr, aBin_neqStr, strEq_bs, aBin_eqlNil, aBin_eqlNil', aBin_neqNil, aBin_neqNil', aUn_not, aUn_neg, aNil_ptr, aOff_ptr, aInt_int, aLenStr_str, aLenS_slice, aLenS_nil, aFold_min, aFold_max, bs_size, bs_empty, Nat.zero_add, Nat.add_zero, Nat.reduceAdd, ok_load, Mem.get_set, Mem.set_set, List.getElem?_cons_zero, List.getElem?_cons_succ, Option.some.injEq, exists_eq_left', List.set_cons_zero, List.set_cons_succ, d1, d2, d3, e1, decide_false, Bool.false_eq_true, if_false, Int.natCast_zero, Int.lt_irrefl]
    exact putBits_loop (by omega) hq h hI hx rfl (by omega) hn
  · have hb : bitsO v n = none := if_neg hp
    rw [hb] at hn hq
    have hq' : Q (.bool false) m := hq m c a buf h hI hx (Fr.refl _ _ _)
    simp -implicitDefEqProofs only [sym_PutBits, sym_PutBits_j0, lp_some', mc_true, mc_false, ok_ret, ok_mc, ok_snap, aBin_add, aBin_sub, aBin_mul, aBin_lss, aBin_leq, aBin_gtr, aBin_geq, aBin_eql, aBin_neq, aBin_eqlStr, aBin_neqStr, strEq_bs, aBin_eqlNil, aBin_eqlNil', aBin_neqNil, aBin_neqNil', aUn_not, aUn_neg, aNil_ptr, aOff_ptr, aInt_int, aLenStr_str, aLenS_slice, aLenS_nil, aFold_min, aFold_max, bs_size, bs_empty, Nat.zero_add, Nat.add_zero, Nat.reduceAdd, ok_load, Mem.get_set, Mem.set_set, List.getElem?_cons_zero, List.getElem?_cons_succ, Option.some.injEq, exists_eq_left', List.set_cons_zero, List.set_cons_succ]
    by_cases d1 : n < 0
    · simp -implicitDefEqProofs only [d1, decide_true, if_true, hq']
    · by_cases d2 : 31 < n
      · simp -implicitDefEqProofs only [d1, d2, decide_false, Bool.false_eq_true, if_false, decide_true, if_true, hq']
      · by_cases d3 : v < 0
        · simp -implicitDefEqProofs only [d1, d2, d3, decide_false, Bool.false_eq_true, if_false, decide_true, if_true, hq']
        · obtain ⟨n, rfl⟩ : ∃ k : Nat, n = k := ⟨n.toNat, by omega⟩
          obtain ⟨v, rfl⟩ : ∃ k : Nat, v = k := ⟨v.toNat, by omega⟩
          have h4 : ¬ (v : Int) < 2 ^ (n : Int).toNat := fun h4 => hp ⟨by omega, by omega, by omega, h4⟩
          have h4' : 2 ^ n ≤ v := by
            have : ¬ ((v : Nat) : Int) < ((2 ^ n : Nat) : Int) := by rw [Int.natCast_pow]; exact h4
            omega
          have e1 := aBin_shr_nat .i64 .i64 [] v n (by show _ ≤ 64; omega)
          have d4 : (0 : Int) < ((v / 2 ^ n : Nat) : Int) := by
            have : 0 < v / 2 ^ n := Nat.div_pos h4' (Nat.pow_pos (by decide))
            omega
          simp -implicitDefEqProofs only [d1, d2, d3, e1, d4, lp_some', mc_true, mc_false, ok_ret, ok_mc, ok_snap, aBin_add, aBin_sub, aBin_mul, aBin_lss, aBin_leq, aBin_gtr, aBin_geq, aBin_eql, aBin_neq, aBin_eqlStr, aBin_neqStr, strEq_bs, aBin_eqlNil, aBin_eqlNil', aBin_neqNil, aBin_neqNil', aUn_not, aUn_neg, aNil_ptr, aOff_ptr, aInt_int, aLenStr_str, aLenS_slice, aLenS_nil, aFold_min, aFold_max, bs_size, bs_empty, Nat.zero_add, Nat.add_zero, Nat.reduceAdd, ok_load, Mem.get_set, Mem.set_set, List.getElem?_cons_zero, List.getElem?_cons_succ, Option.some.injEq, exists_eq_left', List.set_cons_zero, List.set_cons_succ, decide_false, Bool.false_eq_true, if_false, decide_true, if_true, hq']

theorem rputBits_loop {i v : Nat} (hv : v < 9223372036854775808) {z : Iv} {Q : AV → Mem → Prop} {m0 : Mem} {v0 : AV} (hq : ∀ m' v', RefAt m' i z v' ((4294967295 - z.R : Nat) : Int) → z.Fits → Fr i v0 m0 v' m' → Q (.bool true) m')
    {n : Nat} {x0 : Iv} (h0 : RefAt m0 i x0 v0 ((4294967295 - x0.R : Nat) : Int)) (hx0 : x0.Fits) (hz0 : x0.parts (bitsP n v) = z) (hn0 : n ≤ 31) (hl0 : x0.n + 3 * (bitsP n v).length < 2 ^ 38) :
    Ok (fun q => loopN (fun r l => ref05_PutBits_l0 (fcall Tryz.prog ext1 q) q r (l.getD 0 .undef) (l.getD 1 .undef) (l.getD 2 .undef)) q [.ptr i 0, .int .i64 v, .int .i64 n]) m0 Q := by
  refine Ok.loop (fun k l m => ∃ w x, l = [.ptr i 0, .int .i64 v, .int .i64 (k : Nat)] ∧ k ≤ 31 ∧ RefAt m i x w ((4294967295 - x.R : Nat) : Int) ∧ x.Fits ∧ x.parts (bitsP k v) = z ∧ x.n + 3 * (bitsP k v).length < 2 ^ 38 ∧ Fr i v0 m0 w m) ?_ (k := n) ⟨v0, x0, rfl, hn0, h0, hx0, hz0, hl0, Fr.refl _ _ _⟩
  clear h0 hx0 hz0 hn0 hl0
  rintro k l m rec ⟨w, x, rfl, hk, h, hx, hz, hl, hF⟩ ih
  by_cases h8 : 8 < k
  · have d8 : (8 : Int) < (k : Int) := by omega
    have e1 : IntKind.i64.wrap ((k : Int) - 8) = ((k - 8 : Nat) : Int) := by rw [IntWalk.i64_in _ (by omega)]; omega
    have e2 := aBin_shr_nat .i64 .i64 [] v (k - 8) (by show _ ≤ 64; omega)
    have hdl : v / 2 ^ (k - 8) ≤ v := Nat.div_le_self _ _
    have e3 := and255 (v / 2 ^ (k - 8)) (by omega)
    have e4 : IntKind.i64.wrap (((v / 2 ^ (k - 8) % 256 : Nat) : Int) + 1) = ((v / 2 ^ (k - 8) % 256 + 1 : Nat) : Int) := by rw [IntWalk.i64_in _ (by omega)]; rfl
    simp -implicitDefEqProofs only [List.getD_cons_zero, List.getD_cons_succ, ref05_PutBits_l0, lp_some', mc_true, mc_false, ok_ret, ok_mc, ok_snap, aBin_add, aBin_sub, aBin_mul, aBin_lss, aBin_leq, aBin_gtr, aBin_geq, aBin_eql, aBin_neq, aBin_eqlStr, aBin_neqStr, strEq_bs, aBin_eqlNil, aBin_eqlNil', aBin_neqNil, aBin_neqNil', aUn_not, aUn_neg, aNil_ptr, aOff_ptr, aInt_int, aLenStr_str, aLenS_slice, aLenS_nil, aFold_min, aFold_max, bs_size, bs_empty, Nat.zero_add, Nat.add_zero, Nat.reduceAdd, ok_load, Mem.get_set, Mem.set_set, List.getElem?_cons_zero, List.getElem?_cons_succ, Option.some.injEq, exists_eq_left', List.set_cons_zero, List.set_cons_succ, d8, decide_true, if_true, e1, e2, e3, e4]
    rw [bitsP_big h8] at hz hl
    rw [List.length_cons] at hl
    have hp : v / 2 ^ (k - 8) % 256 < v / 2 ^ (k - 8) % 256 + 1 ∧ v / 2 ^ (k - 8) % 256 + 1 ≤ 256 ∧ 256 ≤ 65536 := ⟨Nat.lt_succ_self _, Nat.mod_lt _ (by decide), by decide⟩
    refine Ok.bnd (rcode_ok (lo := v / 2 ^ (k - 8) % 256) (hi := v / 2 ^ (k - 8) % 256 + 1) (t := 256) h hx (by omega) hp fun m1 w1 h1 h4 => ?_)
    have hxn := (Iv.code_n (v / 2 ^ (k - 8) % 256) (v / 2 ^ (k - 8) % 256 + 1) 256 x).2
    exact ih (k - 8) _ _ (by omega) ⟨w1, _, rfl, by omega, h1, Iv.code_fits hx hp, hz, by omega, hF.trans h4⟩
  · have d8 : ¬ (8 : Int) < (k : Int) := by omega
    by_cases h0 : 0 < k
    · have d0 : (0 : Int) < (k : Int) := by omega
      have e1 := shl_one .i64 [] k (by omega)
      have hp := pow8 h8
      have hml := Nat.mod_lt v hp.1
      have e2 := rem_nat [] .i64 v (2 ^ k) hp.1
      have e4 : IntKind.i64.wrap (((v % 2 ^ k : Nat) : Int) + 1) = ((v % 2 ^ k + 1 : Nat) : Int) := by
        rw [show ((v % 2 ^ k : Nat) : Int) + 1 = ((v % 2 ^ k + 1 : Nat) : Int) from rfl]
        exact i64_nat (by omega)
      simp -implicitDefEqProofs only [List.getD_cons_zero, List.getD_cons_succ, ref05_PutBits_l0, lp_some', mc_true, mc_false, ok_ret, ok_mc, ok_snap, aBin_add, aBin_sub, aBin_mul, aBin_lss, aBin_leq, aBin_gtr, aBin_geq, aBin_eql, aBin_neq, aBin_eqlStr, aBin_neqStr, strEq_bs, aBin_eqlNil, aBin_eqlNil', aBin_neqNil, aBin_neqNil', aUn_not, aUn_neg, aNil_ptr, aOff_ptr, aInt_int, aLenStr_str, aLenS_slice, aLenS_nil, aFold_min, aFold_max, bs_size, bs_empty, Nat.zero_add, Nat.add_zero, Nat.reduceAdd, ok_load, Mem.get_set, Mem.set_set, List.getElem?_cons_zero, List.getElem?_cons_succ, Option.some.injEq, exists_eq_left', List.set_cons_zero, List.set_cons_succ, d8, d0, decide_true, decide_false, Bool.false_eq_true, if_false, if_true, e1, e2, e4]
      rw [bitsP_few h8 h0] at hz hl
      rw [List.length_singleton] at hl
      have hpr : v % 2 ^ k < v % 2 ^ k + 1 ∧ v % 2 ^ k + 1 ≤ 2 ^ k ∧ 2 ^ k ≤ 65536 := ⟨Nat.lt_succ_self _, hml, hp.2⟩
      refine Ok.bnd (rcode_ok (lo := v % 2 ^ k) (hi := v % 2 ^ k + 1) (t := 2 ^ k) h hx (by omega) hpr fun m1 w1 h1 h4 => ?_)
      simp -implicitDefEqProofs only [lp_some', mc_true, mc_false, ok_ret, ok_mc, ok_snap, aBin_add, aBin_sub, aBin_mul, aBin_lss, aBin_leq, aBin_gtr, aBin_geq, aBin_eql, aBin_neq, aBin_eqlStr, aBin_neqStr, strEq_bs, aBin_eqlNil, aBin_eqlNil', aBin_neqNil, aBin_neqNil', aUn_not, aUn_neg, aNil_ptr, aOff_ptr, aInt_int, aLenStr_str, aLenS_slice, aLenS_nil, aFold_min, aFold_max, bs_size, bs_empty, Nat.zero_add, Nat.add_zero, Nat.reduceAdd, ok_load, Mem.get_set, Mem.set_set, List.getElem?_cons_zero, List.getElem?_cons_succ, Option.some.injEq, exists_eq_left', List.set_cons_zero, List.set_cons_succ, ref05_PutBits_j1]
      have h3 := Iv.code_fits hx hpr
      have hz' : x.code (v % 2 ^ k) (v % 2 ^ k + 1) (2 ^ k) = z := hz
      rw [hz'] at h1 h3
      exact hq m1 w1 h1 h3 (hF.trans h4)
    · obtain rfl : k = 0 := by omega
      have d0 : ¬ (0 : Int) < ((0 : Nat) : Int) := by decide
      simp -implicitDefEqProofs only [List.getD_cons_zero, List.getD_cons_succ, ref05_PutBits_l0, lp_some', mc_true, mc_false, ok_ret, ok_mc, ok_snap, aBin_add, aBin_sub, aBin_mul, aBin_lss, aBin_leq, aBin_gtr, aBin_geq, aBin_eql, aBin_neq, aBin_eqlStr, aBin_neqStr, strEq_bs, aBin_eqlNil, aBin_eqlNil', aBin_neqNil, aBin_neqNil', aUn_not, aUn_neg, aNil_ptr, aOff_ptr, aInt_int, aLenStr_str, aLenS_slice, aLenS_nil, aFold_min, aFold_max, bs_size, bs_empty, Nat.zero_add, Nat.add_zero, Nat.reduceAdd, ok_load, Mem.get_set, Mem.set_set, List.getElem?_cons_zero, List.getElem?_cons_succ, Option.some.injEq, exists_eq_left', List.set_cons_zero, List.set_cons_succ, d8, d0, decide_false, Bool.false_eq_true, if_false, ref05_PutBits_j1]
      rw [bitsP_none] at hz
      have hz' : x = z := hz
      subst hz'
      exact hq m w h hx hF

theorem rputBits_ok {i : Nat} {v n : Int} (hv : v < 9223372036854775808) : PutsR (R fn_ref05_PutBits [.ptr i 0, .int .i64 v, .int .i64 n]) i ((bitsO v n).getD []) (.bool (bitsO v n).isSome) := by
  intro m w x Q h hx hn hq
  refine Ok.call (fun n => ref05_PutBits_eq rfl n _ _ _) ?_
  by_cases hp : 0 ≤ n ∧ n ≤ 31 ∧ 0 ≤ v ∧ v < 2 ^ n.toNat
  · have hb : bitsO v n = some (bitsP n.toNat v.toNat) := if_pos hp
    rw [hb] at hn hq
    obtain ⟨h1, h2, h3, h4⟩ := hp
    obtain ⟨n, rfl⟩ : ∃ k : Nat, n = k := ⟨n.toNat, by omega⟩
    obtain ⟨v, rfl⟩ : ∃ k : Nat, v = k := ⟨v.toNat, by omega⟩
    simp -implicitDefEqProofs only [Int.toNat_natCast, Option.getD_some] at h4 hn hq
    have h4' : ¬ ((2 ^ n : Nat) : Int) ≤ (v : Int) := by rw [Int.natCast_pow]; exact Int.not_le.2 h4
    have e1 := shl_one .i64 [] n (by omega)
    have d1 : ¬ (n : Int) < 0 := by omega
    have d2 : ¬ (31 : Int) < (n : Int) := by omega
    have d3 : ¬ (v : Int) < 0 := by omega
    simp -implicitDefEqProofs only [ref05_PutBits, ref05_PutBits_j0, lp_some', mc_true, mc_false, ok_ret, ok_mc, ok_snap, aBin_add, aBin_sub, aBin_mul, aBin_lss, aBin_leq, aBin_gtr, aBin_geq, aBin_eql, aBin_neq, aBin_eqlStr, aBin_neqStr, strEq_bs, aBin_eqlNil, aBin_eqlNil', aBin_neqNil, aBin_neqNil', aUn_not, aUn_neg, aNil_ptr, aOff_ptr, aInt_int, aLenStr_str, aLenS_slice, aLenS_nil, aFold_min, aFold_max, bs_size, bs_empty, Nat.zero_add, Nat.add_zero, Nat.reduceAdd, ok_load, Mem.get_set, Mem.set_set, List.getElem?_cons_zero, List.getElem?_cons_succ, Option.some.injEq, exists_eq_left', List.set_cons_zero, List.set_cons_succ, d1, d2, d3, e1, h4', decide_false, Bool.false_eq_true, if_false]
    exact rputBits_loop (by omega) hq h hx rfl (by omega) hn
  · have hb : bitsO v n = none := if_neg hp
    rw [hb] at hn hq
    have hq' : Q (.bool false) m := hq m w h hx (Fr.refl _ _ _)
    simp -implicitDefEqProofs only [ref05_PutBits, ref05_PutBits_j0, lp_some', mc_true, mc_false, ok_ret, ok_mc, ok_snap, aBin_add, aBin_sub, aBin_mul, aBin_lss, aBin_leq, aBin_gtr, aBin_geq, aBin_eql, aBin_neq, aBin_eqlStr, aBin_neqStr, strEq_bs, aBin_eqlNil, aBin_eqlNil', aBin_neqNil, aBin_neqNil', aUn_not, aUn_neg, aNil_ptr, aOff_ptr, aInt_int, aLenStr_str, aLenS_slice, aLenS_nil, aFold_min, aFold_max, bs_size, bs_empty, Nat.zero_add, Nat.add_zero, Nat.reduceAdd, ok_load, Mem.get_set, Mem.set_set, List.getElem?_cons_zero, List.getElem?_cons_succ, Option.some.injEq, exists_eq_left', List.set_cons_zero, List.set_cons_succ]
    by_cases d1 : n < 0
    · simp -implicitDefEqProofs only [d1, decide_true, if_true, hq']
    · by_cases d2 : 31 < n
      · simp -implicitDefEqProofs only [d1, d2, decide_false, Bool.false_eq_true, if_false, decide_true, if_true, hq']
      · by_cases d3 : v < 0
        · simp -implicitDefEqProofs only [d1, d2, d3, decide_false, Bool.false_eq_true, if_false, decide_true, if_true, hq']
        · obtain ⟨n, rfl⟩ : ∃ k : Nat, n = k := ⟨n.toNat, by omega⟩
          obtain ⟨v, rfl⟩ : ∃ k : Nat, v = k := ⟨v.toNat, by omega⟩
          have h4 : ¬ (v : Int) < 2 ^ (n : Int).toNat := fun h4 => hp ⟨by omega, by omega, by omega, h4⟩
          have h4' : ((2 ^ n : Nat) : Int) ≤ (v : Int) := by rw [Int.natCast_pow]; exact Int.not_lt.1 h4
          have e1 := shl_one .i64 [] n (by omega)
          simp -implicitDefEqProofs only [d1, d2, d3, e1, h4', lp_some', mc_true, mc_false, ok_ret, ok_mc, ok_snap, aBin_add, aBin_sub, aBin_mul, aBin_lss, aBin_leq, aBin_gtr, aBin_geq, aBin_eql, aBin_neq, aBin_eqlStr, aBin_neqStr, strEq_bs, aBin_eqlNil, aBin_eqlNil', aBin_neqNil, aBin_neqNil', aUn_not, aUn_neg, aNil_ptr, aOff_ptr, aInt_int, aLenStr_str, aLenS_slice, aLenS_nil, aFold_min, aFold_max, bs_size, bs_empty, Nat.zero_add, Nat.add_zero, Nat.reduceAdd, ok_load, Mem.get_set, Mem.set_set, List.getElem?_cons_zero, List.getElem?_cons_succ, Option.some.injEq, exists_eq_left', List.set_cons_zero, List.set_cons_succ, decide_false, Bool.false_eq_true, if_false, decide_true, if_true, hq']

/-! numbers below others -/

theorem shift_steps {n : Nat} (hn : n ≤ 2147483648) {s : Nat} (hs : s = 0 ∨ s = 8 ∨ s = 16 ∨ s = 24) : (4096 ≤ (n - 1) / 2 ^ s → s + 8 ≤ 24 ∧ (s ≤ shiftOf n → s + 8 ≤ shiftOf n)) ∧ ((n - 1) / 2 ^ s < 4096 → s ≤ shiftOf n → s = shiftOf n) := by
  unfold shiftOf
  rcases hs with rfl | rfl | rfl | rfl
  · simp -implicitDefEqProofs only [Nat.pow_zero, Nat.div_one]
    split <;> (try split) <;> (try split) <;> omega
  · simp -implicitDefEqProofs only [show (2 : Nat) ^ 8 = 256 by decide]
    split <;> (try split) <;> (try split) <;> omega
  · simp -implicitDefEqProofs only [show (2 : Nat) ^ 16 = 65536 by decide]
    split <;> (try split) <;> (try split) <;> omega
  · simp -implicitDefEqProofs only [show (2 : Nat) ^ 24 = 16777216 by decide]
    split <;> (try split) <;> (try split) <;> omega

theorem parted_ok {n : Nat} (hn : 1 ≤ n ∧ n ≤ 2147483648) {m : Mem} {Q : AV → Mem → Prop} (hq : Q (.tup [.int .i64 (shiftOf n : Nat), .int .i64 ((n - 1) / 2 ^ shiftOf n + 1 : Nat)]) m) : Ok (R fn_sym_parted [.int .i64 n]) m Q := by
  refine Ok.call (fun n => sym_parted_eq rfl n _) ?_
  simp -implicitDefEqProofs only [sym_parted]
  refine Ok.loop (fun k l m' => ∃ s, 24 - s = k ∧ l = [.int .i64 n, .int .i64 (s : Nat)] ∧ m' = m ∧ (s = 0 ∨ s = 8 ∨ s = 16 ∨ s = 24) ∧ s ≤ shiftOf n) ?_ (k := 24) ⟨0, rfl, rfl, rfl, .inl rfl, Nat.zero_le _⟩
  rintro k l m' rec ⟨s, hk, rfl, rfl, hs, hle⟩ ih
  obtain ⟨st1, st2⟩ := shift_steps hn.2 hs
  have hs24 := shiftOf_le n
  have hdl : (n - 1) / 2 ^ s ≤ n - 1 := Nat.div_le_self _ _
  have e1 : IntKind.i64.wrap ((n : Int) - 1) = ((n - 1 : Nat) : Int) := by rw [IntWalk.i64_in _ (by omega)]; omega
  have e2 := aBin_shr_nat .i64 .i64 [] (n - 1) s (by show _ ≤ 64; omega)
  simp -implicitDefEqProofs only [List.getD_cons_zero, List.getD_cons_succ, sym_parted_l0, lp_some', mc_true, mc_false, ok_ret, ok_mc, ok_snap, aBin_add, aBin_sub, aBin_mul, aBin_lss, aBin_leq, aBin_gtr, aBin_geq, aBin_eql, aBin_neq, aBin_eqlStr, aBin_neqStr, strEq_bs, aBin_eqlNil, aBin_eqlNil', aBin_neqNil, aBin_neqNil', aUn_not, aUn_neg, aNil_ptr, aOff_ptr, aInt_int, aLenStr_str, aLenS_slice, aLenS_nil, aFold_min, aFold_max, bs_size, bs_empty, Nat.zero_add, Nat.add_zero, Nat.reduceAdd, ok_load, Mem.get_set, Mem.set_set, List.getElem?_cons_zero, List.getElem?_cons_succ, Option.some.injEq, exists_eq_left', List.set_cons_zero, List.set_cons_succ, e1, e2]
  generalize hd : (n - 1) / 2 ^ s = d at *
  by_cases h : 4096 ≤ d
  · have d1 : (4096 : Int) ≤ (d : Int) := by omega
    have e3 : IntKind.i64.wrap ((s : Int) + 8) = ((s + 8 : Nat) : Int) := by rw [IntWalk.i64_in _ (by omega)]; rfl
    simp -implicitDefEqProofs only [d1, decide_true, if_true, e3]
    exact ih (24 - (s + 8)) _ _ (by omega) ⟨s + 8, rfl, rfl, rfl, by omega, (st1 h).2 hle⟩
  · have d1 : ¬ (4096 : Int) ≤ (d : Int) := by omega
    have hse : s = shiftOf n := st2 (by omega) hle
    have e3 : IntKind.i64.wrap ((d : Int) + 1) = ((d + 1 : Nat) : Int) := by rw [IntWalk.i64_in _ (by omega)]; rfl
    simp -implicitDefEqProofs only [d1, decide_false, Bool.false_eq_true, if_false, e3]
    rw [← hse, hd] at hq
    exact hq
theorem shift_ok {n : Nat} (hn : 1 ≤ n ∧ n ≤ 2147483648) {m : Mem} {Q : AV → Mem → Prop} (hq : Q (.int .i64 (shiftOf n : Nat)) m) : Ok (R fn_ref05_shift [.int .i64 n]) m Q := by
  refine Ok.call (fun n => ref05_shift_eq rfl n _) ?_
  simp -implicitDefEqProofs only [ref05_shift]
  refine Ok.loop (fun k l m' => ∃ s, 24 - s = k ∧ l = [.int .i64 n, .int .i64 (s : Nat)] ∧ m' = m ∧ (s = 0 ∨ s = 8 ∨ s = 16 ∨ s = 24) ∧ s ≤ shiftOf n) ?_ (k := 24) ⟨0, rfl, rfl, rfl, .inl rfl, Nat.zero_le _⟩
  rintro k l m' rec ⟨s, hk, rfl, rfl, hs, hle⟩ ih
  obtain ⟨st1, st2⟩ := shift_steps hn.2 hs
  have hs24 := shiftOf_le n
  have hdl : (n - 1) / 2 ^ s ≤ n - 1 := Nat.div_le_self _ _
  have e1 : IntKind.i64.wrap ((n : Int) - 1) = ((n - 1 : Nat) : Int) := by rw [IntWalk.i64_in _ (by omega)]; omega
  have e2 := aBin_shr_nat .i64 .i64 [] (n - 1) s (by show _ ≤ 64; omega)
  simp -implicitDefEqProofs only [List.getD_cons_zero, List.getD_cons_succ, ref05_shift_l0, lp_some', mc_true, mc_false, ok_ret, ok_mc, ok_snap, aBin_add, aBin_sub, aBin_mul, aBin_lss, aBin_leq, aBin_gtr, aBin_geq, aBin_eql, aBin_neq, aBin_eqlStr, aBin_neqStr, strEq_bs, aBin_eqlNil, aBin_eqlNil', aBin_neqNil, aBin_neqNil', aUn_not, aUn_neg, aNil_ptr, aOff_ptr, aInt_int, aLenStr_str, aLenS_slice, aLenS_nil, aFold_min, aFold_max, bs_size, bs_empty, Nat.zero_add, Nat.add_zero, Nat.reduceAdd, ok_load, Mem.get_set, Mem.set_set, List.getElem?_cons_zero, List.getElem?_cons_succ, Option.some.injEq, exists_eq_left', List.set_cons_zero, List.set_cons_succ, e1, e2]
  generalize hd : (n - 1) / 2 ^ s = d at *
  by_cases h : 4096 ≤ d
  · have d1 : (4096 : Int) ≤ (d : Int) := by omega
    have e3 : IntKind.i64.wrap ((s : Int) + 8) = ((s + 8 : Nat) : Int) := by rw [IntWalk.i64_in _ (by omega)]; rfl
    simp -implicitDefEqProofs only [d1, decide_true, if_true, e3]
    exact ih (24 - (s + 8)) _ _ (by omega) ⟨s + 8, rfl, rfl, rfl, by omega, (st1 h).2 hle⟩
  · have d1 : ¬ (4096 : Int) ≤ (d : Int) := by omega
    have hse : s = shiftOf n := st2 (by omega) hle
    simp -implicitDefEqProofs only [d1, decide_false, Bool.false_eq_true, if_false]
    rw [← hse] at hq
    exact hq

theorem bitsO_some {n v : Nat} (hn : n ≤ 31) (hv : v < 2 ^ n) : bitsO (v : Int) (n : Int) = some (bitsP n v) := by
  have : ((v : Nat) : Int) < ((2 ^ n : Nat) : Int) := by omega
  rw [Int.natCast_pow] at this
  unfold bitsO
  rw [if_pos ⟨by omega, by omega, by omega, this⟩]
  simp

theorem putBelow_ok {i : Nat} {v n : Int} : PutsC (R fn_sym_PutBelow [.ptr i 0, .int .i64 v, .int .i64 n]) i ((belowO v n).getD []) (.bool (belowO v n).isSome) := by
  intro T rest m c a buf x Q h hI hx hn hq
  refine Ok.call (fun n => sym_PutBelow_eq rfl n _ _ _) ?_
  by_cases hp : 1 ≤ n ∧ n ≤ 2147483648 ∧ 0 ≤ v ∧ v < n
  · have hb : belowO v n = some (belowP n.toNat v.toNat) := if_pos hp
    rw [hb] at hn hq
    obtain ⟨h1, h2, h3, h4⟩ := hp
    obtain ⟨n, rfl⟩ : ∃ k : Nat, n = k := ⟨n.toNat, by omega⟩
    obtain ⟨v, rfl⟩ : ∃ k : Nat, v = k := ⟨v.toNat, by omega⟩
    simp -implicitDefEqProofs only [Int.toNat_natCast, Option.getD_some, Option.isSome_some] at hn hq
    have d1 : ¬ (n : Int) < 1 := by omega
    have d2 : ¬ (2147483648 : Int) < (n : Int) := by omega
    have d3 : ¬ (v : Int) < 0 := by omega
    have d4 : ¬ (n : Int) ≤ (v : Int) := by omega
    have hs24 := shiftOf_le n
    have e1 := aBin_shr_nat .i64 .i64 [] v (shiftOf n) (by show _ ≤ 64; omega)
    have e2 := shl_one .i64 [] (shiftOf n) (by omega)
    have hpw : 2 ^ shiftOf n ≤ 2 ^ 24 := Nat.pow_le_pow_right (by decide) hs24
    have hpw1 : 1 ≤ 2 ^ shiftOf n := Nat.pow_pos (by decide)
    have e3 : IntKind.i64.wrap (((2 ^ shiftOf n : Nat) : Int) - 1) = ((2 ^ shiftOf n - 1 : Nat) : Int) := by
      rw [show ((2 ^ shiftOf n : Nat) : Int) - 1 = ((2 ^ shiftOf n - 1 : Nat) : Int) by omega]
      exact i64_nat (by omega)
    have e4 := and_mask [] v (shiftOf n) (by omega) (by omega)
    have hr := belowP_one (n := n) (v := v) (by omega) (by omega)
    have hml : v % 2 ^ shiftOf n < 2 ^ shiftOf n := Nat.mod_lt _ hpw1
    have hbo := bitsO_some (n := shiftOf n) (v := v % 2 ^ shiftOf n) (by omega) hml
    simp -implicitDefEqProofs only [sym_PutBelow, sym_PutBelow_j0, lp_some', mc_true, mc_false, ok_ret, ok_mc, ok_snap, aBin_add, aBin_sub, aBin_mul, aBin_lss, aBin_leq, aBin_gtr, aBin_geq, aBin_eql, aBin_neq, aBin_eqlStr, aBin_neqStr, strEq_bs, aBin_eqlNil, aBin_eqlNil', aBin_neqNil, aBin_neqNil', aUn_not, aUn_neg, aNil_ptr, aOff_ptr, aInt_int, aLenStr_str, aLenS_slice, aLenS_nil, aFold_min, aFold_max, bs_size, bs_empty, Nat.zero_add, Nat.add_zero, Nat.reduceAdd, ok_load, Mem.get_set, Mem.set_set, List.getElem?_cons_zero, List.getElem?_cons_succ, Option.some.injEq, exists_eq_left', List.set_cons_zero, List.set_cons_succ, d1, d2, d3, d4, decide_false, Bool.false_eq_true, if_false]
    refine Ok.bnd (parted_ok ⟨by omega, by omega⟩ ?_)
    simp -implicitDefEqProofs only [aExt, List.getElem?_cons_zero, List.getElem?_cons_succ, lp_some', mc_true, mc_false, ok_ret, ok_mc, ok_snap, aBin_add, aBin_sub, aBin_mul, aBin_lss, aBin_leq, aBin_gtr, aBin_geq, aBin_eql, aBin_neq, aBin_eqlStr, aBin_neqStr, strEq_bs, aBin_eqlNil, aBin_eqlNil', aBin_neqNil, aBin_neqNil', aUn_not, aUn_neg, aNil_ptr, aOff_ptr, aInt_int, aLenStr_str, aLenS_slice, aLenS_nil, aFold_min, aFold_max, bs_size, bs_empty, Nat.zero_add, Nat.add_zero, Nat.reduceAdd, ok_load, Mem.get_set, Mem.set_set, List.getElem?_cons_zero, List.getElem?_cons_succ, Option.some.injEq, exists_eq_left', List.set_cons_zero, List.set_cons_succ, e1]
    simp -implicitDefEqProofs only [belowP, List.length_cons] at hn
    refine Ok.bnd (sput_ok hr.2.1 hr.2.2 _ _ m c a buf x _ h hI hx (by rw [List.length_singleton]; omega) fun m1 c1 a1 b1 h1' h2' h3' h4' => ?_)
    simp -implicitDefEqProofs only [lp_some', mc_true, mc_false, ok_ret, ok_mc, ok_snap, aBin_add, aBin_sub, aBin_mul, aBin_lss, aBin_leq, aBin_gtr, aBin_geq, aBin_eql, aBin_neq, aBin_eqlStr, aBin_neqStr, strEq_bs, aBin_eqlNil, aBin_eqlNil', aBin_neqNil, aBin_neqNil', aUn_not, aUn_neg, aNil_ptr, aOff_ptr, aInt_int, aLenStr_str, aLenS_slice, aLenS_nil, aFold_min, aFold_max, bs_size, bs_empty, Nat.zero_add, Nat.add_zero, Nat.reduceAdd, ok_load, Mem.get_set, Mem.set_set, List.getElem?_cons_zero, List.getElem?_cons_succ, Option.some.injEq, exists_eq_left', List.set_cons_zero, List.set_cons_succ, e2, e3, e4]
    have hxn := (Iv.code_n (v / 2 ^ shiftOf n) (v / 2 ^ shiftOf n + 1) ((n - 1) / 2 ^ shiftOf n + 1) x).2
    refine Ok.bnd (putBits_ok (v := ((v % 2 ^ shiftOf n : Nat) : Int)) (n := ((shiftOf n : Nat) : Int)) (by omega) _ _ m1 c1 a1 b1 _ _ h1' h2' h3' (by rw [hbo]; show (x.code _ _ _).n + 3 * (bitsP _ _).length < _; simp -implicitDefEqProofs only [one]; omega) fun m2 c2 a2 b2 g1 g2 g3 g4 => ?_)
    rw [hbo] at g2 g3 ⊢
    simp -implicitDefEqProofs only [lp_some', mc_true, mc_false, ok_ret, ok_mc, ok_snap, aBin_add, aBin_sub, aBin_mul, aBin_lss, aBin_leq, aBin_gtr, aBin_geq, aBin_eql, aBin_neq, aBin_eqlStr, aBin_neqStr, strEq_bs, aBin_eqlNil, aBin_eqlNil', aBin_neqNil, aBin_neqNil', aUn_not, aUn_neg, aNil_ptr, aOff_ptr, aInt_int, aLenStr_str, aLenS_slice, aLenS_nil, aFold_min, aFold_max, bs_size, bs_empty, Nat.zero_add, Nat.add_zero, Nat.reduceAdd, ok_load, Mem.get_set, Mem.set_set, List.getElem?_cons_zero, List.getElem?_cons_succ, Option.some.injEq, exists_eq_left', List.set_cons_zero, List.set_cons_succ, Option.isSome_some]
    exact hq m2 c2 a2 b2 g1 g2 g3 (h4'.trans g4)
  · have hb : belowO v n = none := if_neg hp
    rw [hb] at hn hq
    have hq' : Q (.bool false) m := hq m c a buf h hI hx (Fr.refl _ _ _)
    simp -implicitDefEqProofs only [sym_PutBelow, sym_PutBelow_j0, lp_some', mc_true, mc_false, ok_ret, ok_mc, ok_snap, aBin_add, aBin_sub, aBin_mul, aBin_lss, aBin_leq, aBin_gtr, aBin_geq, aBin_eql, aBin_neq, aBin_eqlStr, aBin_neqStr, strEq_bs, aBin_eqlNil, aBin_eqlNil', aBin_neqNil, aBin_neqNil', aUn_not, aUn_neg, aNil_ptr, aOff_ptr, aInt_int, aLenStr_str, aLenS_slice, aLenS_nil, aFold_min, aFold_max, bs_size, bs_empty, Nat.zero_add, Nat.add_zero, Nat.reduceAdd, ok_load, Mem.get_set, Mem.set_set, List.getElem?_cons_zero, List.getElem?_cons_succ, Option.some.injEq, exists_eq_left', List.set_cons_zero, List.set_cons_succ]
    by_cases d1 : n < 1
    · simp -implicitDefEqProofs only [d1, decide_true, if_true, hq']
    · by_cases d2 : 2147483648 < n
      · simp -implicitDefEqProofs only [d1, d2, decide_false, Bool.false_eq_true, if_false, decide_true, if_true, hq']
      · by_cases d3 : v < 0
        · simp -implicitDefEqProofs only [d1, d2, d3, decide_false, Bool.false_eq_true, if_false, decide_true, if_true, hq']
        · have d4 : n ≤ v := by omega
          simp -implicitDefEqProofs only [d1, d2, d3, d4, lp_some', mc_true, mc_false, ok_ret, ok_mc, ok_snap, aBin_add, aBin_sub, aBin_mul, aBin_lss, aBin_leq, aBin_gtr, aBin_geq, aBin_eql, aBin_neq, aBin_eqlStr, aBin_neqStr, strEq_bs, aBin_eqlNil, aBin_eqlNil', aBin_neqNil, aBin_neqNil', aUn_not, aUn_neg, aNil_ptr, aOff_ptr, aInt_int, aLenStr_str, aLenS_slice, aLenS_nil, aFold_min, aFold_max, bs_size, bs_empty, Nat.zero_add, Nat.add_zero, Nat.reduceAdd, ok_load, Mem.get_set, Mem.set_set, List.getElem?_cons_zero, List.getElem?_cons_succ, Option.some.injEq, exists_eq_left', List.set_cons_zero, List.set_cons_succ, decide_false, Bool.false_eq_true, if_false, decide_true, if_true, hq']

theorem rputBelow_ok {i : Nat} {v n : Int} : PutsR (R fn_ref05_PutBelow [.ptr i 0, .int .i64 v, .int .i64 n]) i ((belowO v n).getD []) (.bool (belowO v n).isSome) := by
  intro m w x Q h hx hn hq
  refine Ok.call (fun n => ref05_PutBelow_eq rfl n _ _ _) ?_
  by_cases hp : 1 ≤ n ∧ n ≤ 2147483648 ∧ 0 ≤ v ∧ v < n
  · have hb : belowO v n = some (belowP n.toNat v.toNat) := if_pos hp
    rw [hb] at hn hq
    obtain ⟨h1, h2, h3, h4⟩ := hp
    obtain ⟨n, rfl⟩ : ∃ k : Nat, n = k := ⟨n.toNat, by omega⟩
    obtain ⟨v, rfl⟩ : ∃ k : Nat, v = k := ⟨v.toNat, by omega⟩
    simp -implicitDefEqProofs only [Int.toNat_natCast, Option.getD_some, Option.isSome_some] at hn hq
    have d1 : ¬ (n : Int) < 1 := by omega
    have d2 : ¬ (2147483648 : Int) < (n : Int) := by omega
    have d3 : ¬ (v : Int) < 0 := by omega
    have d4 : ¬ (n : Int) ≤ (v : Int) := by omega
    have hs24 := shiftOf_le n
    have hlt := shiftOf_lt (n := n) (by omega)
    have e1 := aBin_shr_nat .i64 .i64 [] v (shiftOf n) (by show _ ≤ 64; omega)
    have e1' := aBin_shr_nat .i64 .i64 [] (n - 1) (shiftOf n) (by show _ ≤ 64; omega)
    have e2 := shl_one .i64 [] (shiftOf n) (by omega)
    have hpw1 : 1 ≤ 2 ^ shiftOf n := Nat.pow_pos (by decide)
    have hr := belowP_one (n := n) (v := v) (by omega) (by omega)
    have e3 := rem_nat [] .i64 v (2 ^ shiftOf n) hpw1
    have hml : v % 2 ^ shiftOf n < 2 ^ shiftOf n := Nat.mod_lt _ hpw1
    have hbo := bitsO_some (n := shiftOf n) (v := v % 2 ^ shiftOf n) (by omega) hml
    have e5 : IntKind.i64.wrap ((n : Int) - 1) = ((n - 1 : Nat) : Int) := by rw [IntWalk.i64_in _ (by omega)]; omega
    have hvr := hr.2.1
    simp -implicitDefEqProofs only [one] at hvr
    have hmv : v % 2 ^ shiftOf n ≤ v := Nat.mod_le _ _
    generalize hvq : v / 2 ^ shiftOf n = vq at *
    generalize hnq : (n - 1) / 2 ^ shiftOf n = nq at *
    have e4 : IntKind.i64.wrap ((vq : Int) + 1) = ((vq + 1 : Nat) : Int) := by rw [IntWalk.i64_in _ (by omega)]; rfl
    have e6 : IntKind.i64.wrap ((nq : Int) + 1) = ((nq + 1 : Nat) : Int) := by rw [IntWalk.i64_in _ (by omega)]; rfl
    simp -implicitDefEqProofs only [ref05_PutBelow, ref05_PutBelow_j0, lp_some', mc_true, mc_false, ok_ret, ok_mc, ok_snap, aBin_add, aBin_sub, aBin_mul, aBin_lss, aBin_leq, aBin_gtr, aBin_geq, aBin_eql, aBin_neq, aBin_eqlStr, aBin_neqStr, strEq_bs, aBin_eqlNil, aBin_eqlNil', aBin_neqNil, aBin_neqNil', aUn_not, aUn_neg, aNil_ptr, aOff_ptr, aInt_int, aLenStr_str, aLenS_slice, aLenS_nil, aFold_min, aFold_max, bs_size, bs_empty, Nat.zero_add, Nat.add_zero, Nat.reduceAdd, ok_load, Mem.get_set, Mem.set_set, List.getElem?_cons_zero, List.getElem?_cons_succ, Option.some.injEq, exists_eq_left', List.set_cons_zero, List.set_cons_succ, d1, d2, d3, d4, decide_false, Bool.false_eq_true, if_false]
    refine Ok.bnd (shift_ok ⟨by omega, by omega⟩ ?_)
    simp -implicitDefEqProofs only [lp_some', mc_true, mc_false, ok_ret, ok_mc, ok_snap, aBin_add, aBin_sub, aBin_mul, aBin_lss, aBin_leq, aBin_gtr, aBin_geq, aBin_eql, aBin_neq, aBin_eqlStr, aBin_neqStr, strEq_bs, aBin_eqlNil, aBin_eqlNil', aBin_neqNil, aBin_neqNil', aUn_not, aUn_neg, aNil_ptr, aOff_ptr, aInt_int, aLenStr_str, aLenS_slice, aLenS_nil, aFold_min, aFold_max, bs_size, bs_empty, Nat.zero_add, Nat.add_zero, Nat.reduceAdd, ok_load, Mem.get_set, Mem.set_set, List.getElem?_cons_zero, List.getElem?_cons_succ, Option.some.injEq, exists_eq_left', List.set_cons_zero, List.set_cons_succ, e1, e1', e4, e5, e6]
    have hbp : belowP n v = one vq (nq + 1) :: bitsP (shiftOf n) (v % 2 ^ shiftOf n) := by rw [belowP, hvq, hnq]
    rw [hbp] at hn hq
    rw [List.length_cons] at hn
    have hpr : vq < vq + 1 ∧ vq + 1 ≤ nq + 1 ∧ nq + 1 ≤ 65536 := hr
    refine Ok.bnd (rcode_ok (lo := vq) (hi := vq + 1) (t := nq + 1) h hx (by omega) hpr fun m1 w1 h1' h4' => ?_)
    simp -implicitDefEqProofs only [lp_some', mc_true, mc_false, ok_ret, ok_mc, ok_snap, aBin_add, aBin_sub, aBin_mul, aBin_lss, aBin_leq, aBin_gtr, aBin_geq, aBin_eql, aBin_neq, aBin_eqlStr, aBin_neqStr, strEq_bs, aBin_eqlNil, aBin_eqlNil', aBin_neqNil, aBin_neqNil', aUn_not, aUn_neg, aNil_ptr, aOff_ptr, aInt_int, aLenStr_str, aLenS_slice, aLenS_nil, aFold_min, aFold_max, bs_size, bs_empty, Nat.zero_add, Nat.add_zero, Nat.reduceAdd, ok_load, Mem.get_set, Mem.set_set, List.getElem?_cons_zero, List.getElem?_cons_succ, Option.some.injEq, exists_eq_left', List.set_cons_zero, List.set_cons_succ, e2, e3]
    have hxn := (Iv.code_n vq (vq + 1) (nq + 1) x).2
    refine Ok.bnd (rputBits_ok (v := ((v % 2 ^ shiftOf n : Nat) : Int)) (n := ((shiftOf n : Nat) : Int)) (by omega) m1 w1 _ _ h1' (Iv.code_fits hx hpr) (by rw [hbo]; show _ + 3 * (bitsP _ _).length < _; omega) fun m2 w2 g1 g3 g4 => ?_)
    rw [hbo] at g1 g3 ⊢
    simp -implicitDefEqProofs only [lp_some', mc_true, mc_false, ok_ret, ok_mc, ok_snap, aBin_add, aBin_sub, aBin_mul, aBin_lss, aBin_leq, aBin_gtr, aBin_geq, aBin_eql, aBin_neq, aBin_eqlStr, aBin_neqStr, strEq_bs, aBin_eqlNil, aBin_eqlNil', aBin_neqNil, aBin_neqNil', aUn_not, aUn_neg, aNil_ptr, aOff_ptr, aInt_int, aLenStr_str, aLenS_slice, aLenS_nil, aFold_min, aFold_max, bs_size, bs_empty, Nat.zero_add, Nat.add_zero, Nat.reduceAdd, ok_load, Mem.get_set, Mem.set_set, List.getElem?_cons_zero, List.getElem?_cons_succ, Option.some.injEq, exists_eq_left', List.set_cons_zero, List.set_cons_succ, Option.isSome_some]
    exact hq m2 w2 g1 g3 (h4'.trans g4)
  · have hb : belowO v n = none := if_neg hp
    rw [hb] at hn hq
    have hq' : Q (.bool false) m := hq m w h hx (Fr.refl _ _ _)
    simp -implicitDefEqProofs only [ref05_PutBelow, ref05_PutBelow_j0, lp_some', mc_true, mc_false, ok_ret, ok_mc, ok_snap, aBin_add, aBin_sub, aBin_mul, aBin_lss, aBin_leq, aBin_gtr, aBin_geq, aBin_eql, aBin_neq, aBin_eqlStr, aBin_neqStr, strEq_bs, aBin_eqlNil, aBin_eqlNil', aBin_neqNil, aBin_neqNil', aUn_not, aUn_neg, aNil_ptr, aOff_ptr, aInt_int, aLenStr_str, aLenS_slice, aLenS_nil, aFold_min, aFold_max, bs_size, bs_empty, Nat.zero_add, Nat.add_zero, Nat.reduceAdd, ok_load, Mem.get_set, Mem.set_set, List.getElem?_cons_zero, List.getElem?_cons_succ, Option.some.injEq, exists_eq_left', List.set_cons_zero, List.set_cons_succ]
    by_cases d1 : n < 1
    · simp -implicitDefEqProofs only [d1, decide_true, if_true, hq']
    · by_cases d2 : 2147483648 < n
      · simp -implicitDefEqProofs only [d1, d2, decide_false, Bool.false_eq_true, if_false, decide_true, if_true, hq']
      · by_cases d3 : v < 0
        · simp -implicitDefEqProofs only [d1, d2, d3, decide_false, Bool.false_eq_true, if_false, decide_true, if_true, hq']
        · have d4 : n ≤ v := by omega
          simp -implicitDefEqProofs only [d1, d2, d3, d4, lp_some', mc_true, mc_false, ok_ret, ok_mc, ok_snap, aBin_add, aBin_sub, aBin_mul, aBin_lss, aBin_leq, aBin_gtr, aBin_geq, aBin_eql, aBin_neq, aBin_eqlStr, aBin_neqStr, strEq_bs, aBin_eqlNil, aBin_eqlNil', aBin_neqNil, aBin_neqNil', aUn_not, aUn_neg, aNil_ptr, aOff_ptr, aInt_int, aLenStr_str, aLenS_slice, aLenS_nil, aFold_min, aFold_max, bs_size, bs_empty, Nat.zero_add, Nat.add_zero, Nat.reduceAdd, ok_load, Mem.get_set, Mem.set_set, List.getElem?_cons_zero, List.getElem?_cons_succ, Option.some.injEq, exists_eq_left', List.set_cons_zero, List.set_cons_succ, decide_false, Bool.false_eq_true, if_false, decide_true, if_true, hq']
end SplA
