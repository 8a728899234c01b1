/- The law RcFinds. -/
import Derived.Test.YtimominjaikblaaDoorSplRc
import Derived.Test.YtimominjaikblaaDoorSplArg
namespace SplA
open Go.Proofs.YtimominjaikblaaDoor.Spl Go Go.Proofs
set_option maxRecDepth 100000
set_option linter.unusedVariables false
set_option linter.unusedSimpArgs false

def placeV (d : Dec) (t : Int) : Int := if 1 ≤ t ∧ t ≤ 65536 then d.place t.toNat else 0
theorem place_any {i : Nat} {t : Int} {s : Bool} {r : Nat} {d : Dec} {m : Mem} {Q : AV → Mem → Prop} (h : m.get i = decObj s r d.code d.l) (hb : m.base ≤ i) (hr : rngOf s r = d.rng) (hd : d.Fits)
    (hq : ∀ s' r', rngOf s' r' = d.rng → Q (.int .i64 (placeV d t)) (m.set i (decObj s' r' d.code d.l))) : Ok (R fn_rc_Decoder_Place [.ptr i 0, .int .i64 t]) m Q := by
  by_cases ht : 1 ≤ t ∧ t ≤ 65536
  · obtain ⟨n, rfl⟩ : ∃ n : Nat, t = n := ⟨t.toNat, by omega⟩
    refine place_ok h hb hr hd (by omega) ?_
    have := hq true d.rng (by simp [rngOf])
    simpa [placeV, ht] using this
  · refine place_not h ht ?_
    have := hq s r hr
    rw [← h, m.set_self i rfl] at this
    simpa [placeV, ht] using this
theorem ref_place_any {i a : Nat} {t : Int} {S : List UInt8} {d : Dec} {m : Mem} {Q : AV → Mem → Prop} (h : m.get i = refObj S a d.code d.rng) (hd : d.Fits)
    (hq : Q (.int .i64 (placeV d t)) m) : Ok (R fn_ref04_Decoder_Place [.ptr i 0, .int .i64 t]) m Q := by
  by_cases ht : 1 ≤ t ∧ t ≤ 65536
  · obtain ⟨n, rfl⟩ : ∃ n : Nat, t = n := ⟨t.toNat, by omega⟩
    refine ref_place_ok h hd (by omega) ?_
    simpa [placeV, ht] using hq
  · refine ref_place_not ht ?_
    simpa [placeV, ht] using hq

theorem awake_ok {m : Mem} {Q : AV → Mem → Prop} (hq : Q (.bool true) m) : Ok (R fn_law04_awake []) m Q :=
  Ok.told (k := trueAlways) rfl rfl hq

/-- Both decoders, in a memory. -/
structure Both (S : List UInt8) (m0 : Mem) (i1 i2 : Nat) (d : Dec) (a : Nat) (m : Mem) : Prop where
  old : Old m0 m
  dec : ∃ s r, m.get i1 = decObj s r d.code d.l ∧ rngOf s r = d.rng
  ref : m.get i2 = refObj S a d.code d.rng
  fits : d.Fits
  drop : S.drop a = d.l
  b1 : m.base ≤ i1
  n1 : i1 < m.next
  b2 : m.base ≤ i2
  n2 : i2 < m.next
  ne : i1 ≠ i2
theorem Both.alloc {S : List UInt8} {m0 m : Mem} {i1 i2 a : Nat} {d : Dec} (h : Both S m0 i1 i2 d a m) (o : AObj) : Both S m0 i1 i2 d a (m.alloc o) where
  old := h.old.alloc (by have := h.b1; have := h.n1; omega) o
  dec := by
    obtain ⟨s, r, h1, h2⟩ := h.dec
    exact ⟨s, r, by rw [get_alloc_ne (by have := h.n1; omega)]; exact h1, h2⟩
  ref := by rw [get_alloc_ne (by have := h.n2; omega)]; exact h.ref
  fits := h.fits
  drop := h.drop
  b1 := h.b1
  n1 := Nat.lt_succ_of_lt h.n1
  b2 := h.b2
  n2 := Nat.lt_succ_of_lt h.n2
  ne := h.ne
theorem Both.setOther {S : List UInt8} {m0 m : Mem} {i1 i2 a j : Nat} {d : Dec} (h : Both S m0 i1 i2 d a m) (hb : m.base ≤ j) (h1 : j ≠ i1) (h2 : j ≠ i2) (o : AObj) : Both S m0 i1 i2 d a (m.set j o) where
  old := h.old.set hb o
  dec := by
    obtain ⟨s, r, h3, h4⟩ := h.dec
    exact ⟨s, r, by rw [get_set_ne (fun e => h1 e.symm)]; exact h3, h4⟩
  ref := by rw [get_set_ne (fun e => h2 e.symm)]; exact h.ref
  fits := h.fits
  drop := h.drop
  b1 := h.b1
  n1 := h.n1
  b2 := h.b2
  n2 := h.n2
  ne := h.ne
theorem Both.setDec {S : List UInt8} {m0 m : Mem} {i1 i2 a : Nat} {d : Dec} (h : Both S m0 i1 i2 d a m) {s : Bool} {r : Nat} (hr : rngOf s r = d.rng) : Both S m0 i1 i2 d a (m.set i1 (decObj s r d.code d.l)) where
  old := h.old.set h.b1 _
  dec := ⟨s, r, by simp, hr⟩
  ref := by rw [get_set_ne (fun e => h.ne e.symm)]; exact h.ref
  fits := h.fits
  drop := h.drop
  b1 := h.b1
  n1 := h.n1
  b2 := h.b2
  n2 := h.n2
  ne := h.ne
theorem Both.take {S : List UInt8} {m0 m : Mem} {i1 i2 a a' lo hi t : Nat} {d : Dec} (h : Both S m0 i1 i2 d a m) (hp : lo < hi ∧ hi ≤ t ∧ t ≤ 65536) (ha : S.drop a' = (d.take lo hi t).l) :
    Both S m0 i1 i2 (d.take lo hi t) a' ((m.set i1 (decObj true (d.take lo hi t).rng (d.take lo hi t).code (d.take lo hi t).l)).set i2 (refObj S a' (d.take lo hi t).code (d.take lo hi t).rng)) where
  old := (h.old.set h.b1 _).set h.b2 _
  dec := ⟨true, (d.take lo hi t).rng, by rw [get_set_ne h.ne]; simp, by simp [rngOf]⟩
  ref := by simp
  fits := take_fits h.fits hp
  drop := ha
  b1 := h.b1
  n1 := h.n1
  b2 := h.b2
  n2 := h.n2
  ne := h.ne

theorem both_places {S : List UInt8} {m0 m : Mem} {i1 i2 a : Nat} {d : Dec} {t : Int} {Q : AV → Mem → Prop} {k : Nat → AV → M AV} (h : Both S m0 i1 i2 d a m)
    (hq : ∀ m', m'.next = m.next → (∀ j, j ≠ i1 → m'.get j = m.get j) → Both S m0 i1 i2 d a m' → Ok (fun n => k n (.int .i64 (placeV d t))) m' Q) : Ok (fun n => bnd (R fn_rc_Decoder_Place [.ptr i1 0, .int .i64 t] n) (k n)) m Q := by
  obtain ⟨s, r, h1, h2⟩ := h.dec
  exact Ok.bnd (place_any h1 h.b1 h2 h.fits fun s' r' hr => hq _ rfl (fun j hj => get_set_ne hj) (h.setDec hr))

theorem both_ref {S : List UInt8} {m0 m : Mem} {i1 i2 a : Nat} {d : Dec} {t : Int} {Q : AV → Mem → Prop} {k : Nat → AV → M AV} (h : Both S m0 i1 i2 d a m)
    (hq : Ok (fun n => k n (.int .i64 (placeV d t))) m Q) : Ok (fun n => bnd (R fn_ref04_Decoder_Place [.ptr i2 0, .int .i64 t] n) (k n)) m Q :=
  Ok.bnd (ref_place_any h.ref h.fits hq)

theorem finds_loop {S : List UInt8} {L : List (Nat × Nat × Nat)} {m0 : Mem} {v : AV} {t : Int} {i1 i2 : Nat} (hA : Arr3 m0 v L) (hL : L.length ≤ 60) {Q : AV → Mem → Prop} (hq : ∀ m, Q (.bool true) m) {k idx a : Nat} {d : Dec} {j5 j6 j7 j8 j9 j10 j11 j12 : AV} {m : Mem} (hk : k + idx = L.length) (ha : a ≤ 4 + 3 * idx) (hB : Both S m0 i1 i2 d a m) :
    Ok (fun n => loopN (fun r l => law04_RcFinds_l0 (fcall Tryd.prog ext1 n) n r (l.getD 0 .undef) (l.getD 1 .undef) (l.getD 2 .undef) (l.getD 3 .undef) (l.getD 4 .undef) (l.getD 5 .undef) (l.getD 6 .undef) (l.getD 7 .undef) (l.getD 8 .undef) (l.getD 9 .undef) (l.getD 10 .undef) (l.getD 11 .undef) (l.getD 12 .undef)) n [v, .int .i64 t, .ptr i1 0, .ptr i2 0, .int .i64 idx, j5, j6, j7, j8, j9, j10, j11, j12]) m Q := by
  refine Ok.loop (fun k l m => ∃ (idx a : Nat) (d : Dec) (j5 j6 j7 j8 j9 j10 j11 j12 : AV), k + idx = L.length ∧ l = [v, .int .i64 t, .ptr i1 0, .ptr i2 0, .int .i64 idx, j5, j6, j7, j8, j9, j10, j11, j12] ∧ a ≤ 4 + 3 * idx ∧ Both S m0 i1 i2 d a m) ?_ (k := k) ⟨idx, a, d, j5, j6, j7, j8, j9, j10, j11, j12, hk, rfl, ha, hB⟩
  clear hk ha hB
  rintro k l m rec ⟨idx, a, d, j5, j6, j7, j8, j9, j10, j11, j12, hk, rfl, ha, hB⟩ ih
  cases k with
  | zero =>
    have h1 : ¬ (idx : Int) < (L.length : Int) := by omega
    simp -implicitDefEqProofs only [List.getD_cons_zero, List.getD_cons_succ, law04_RcFinds_l0, lp_some', mc_true, mc_false, ok_ret, ok_mc, ok_snap, aBin_add, aBin_sub, aBin_mul, aBin_lss, aBin_leq, aBin_gtr, aBin_geq, aBin_eql, aBin_neq, aBin_eqlStr, aBin_neqStr, strEq_bs, aBin_eqlNil, aBin_eqlNil', aBin_neqNil, aBin_neqNil', aUn_not, aUn_neg, aNil_ptr, aOff_ptr, aInt_int, aLenStr_str, aLenS_slice, aLenS_nil, aFold_min, aFold_max, bs_size, bs_empty, Nat.zero_add, Nat.add_zero, Nat.reduceAdd, ok_load, Mem.get_set, Mem.set_set, List.getElem?_cons_zero, List.getElem?_cons_succ, Option.some.injEq, exists_eq_left', List.set_cons_zero, List.set_cons_succ, hA.len, h1, decide_false, Bool.false_eq_true, if_false]
    refine both_places hB fun m' _ _ hB => ?_
    refine both_ref hB ?_
    simp -implicitDefEqProofs only [lp_some', mc_true, mc_false, ok_ret, ok_mc, ok_snap, aBin_add, aBin_sub, aBin_mul, aBin_lss, aBin_leq, aBin_gtr, aBin_geq, aBin_eql, aBin_neq, aBin_eqlStr, aBin_neqStr, strEq_bs, aBin_eqlNil, aBin_eqlNil', aBin_neqNil, aBin_neqNil', aUn_not, aUn_neg, aNil_ptr, aOff_ptr, aInt_int, aLenStr_str, aLenS_slice, aLenS_nil, aFold_min, aFold_max, bs_size, bs_empty, Nat.zero_add, Nat.add_zero, Nat.reduceAdd, ok_load, Mem.get_set, Mem.set_set, List.getElem?_cons_zero, List.getElem?_cons_succ, Option.some.injEq, exists_eq_left', List.set_cons_zero, List.set_cons_succ, decide_true, if_true]
    refine Ok.bnd (awake_ok ?_)
    simp -implicitDefEqProofs only [law04_RcFinds_j2, lp_some', mc_true, mc_false, ok_ret, ok_mc, ok_snap, aBin_add, aBin_sub, aBin_mul, aBin_lss, aBin_leq, aBin_gtr, aBin_geq, aBin_eql, aBin_neq, aBin_eqlStr, aBin_neqStr, strEq_bs, aBin_eqlNil, aBin_eqlNil', aBin_neqNil, aBin_neqNil', aUn_not, aUn_neg, aNil_ptr, aOff_ptr, aInt_int, aLenStr_str, aLenS_slice, aLenS_nil, aFold_min, aFold_max, bs_size, bs_empty, Nat.zero_add, Nat.add_zero, Nat.reduceAdd, ok_load, Mem.get_set, Mem.set_set, List.getElem?_cons_zero, List.getElem?_cons_succ, Option.some.injEq, exists_eq_left', List.set_cons_zero, List.set_cons_succ]
    exact hq _
  | succ k =>
    have h1 : (idx : Int) < (L.length : Int) := by omega
    have h1' : idx < L.length := by omega
    rcases hA with ⟨_, rfl⟩ | ⟨b, o, rfl, hb, hel⟩
    · simp at h1'
    obtain ⟨⟨l0, l1, l2⟩, p0, p1, p2⟩ := hel idx L[idx] (List.getElem?_eq_getElem h1')
    generalize L[idx] = p at *
    obtain ⟨x, y, z⟩ := p
    simp only at l0 l1 l2 p0 p1 p2
    have x0 : ∀ q, aIdxA 3 1 (.ptr b q) (.int .i64 0) = some (.ptr b q) := fun q => by simp [aIdxA]
    have x1 : ∀ q, aIdxA 3 1 (.ptr b q) (.int .i64 1) = some (.ptr b (q + 1)) := fun q => by simp [aIdxA]
    have x2 : ∀ q, aIdxA 3 1 (.ptr b q) (.int .i64 2) = some (.ptr b (q + 2)) := fun q => by simp [aIdxA]
    have xi : aIdxS 3 (.slice b o L.length 0) (.int .i64 idx) = some (.ptr b (o + idx * 3)) := aIdxS_at h1'
    have g0 : ∀ m', Old m0 m' → load? none (.ptr b (o + idx * 3)) m' = some (.int .u16 x) := fun m' h => (h.load hb).trans l0
    have g1 : ∀ m', Old m0 m' → load? none (.ptr b (o + idx * 3 + 1)) m' = some (.int .u16 y) := fun m' h => (h.load hb).trans l1
    have g2 : ∀ m', Old m0 m' → load? none (.ptr b (o + idx * 3 + 2)) m' = some (.int .u16 z) := fun m' h => (h.load hb).trans l2
    have hbn : m.base ≤ m.next := by have := hB.b1; have := hB.n1; omega
    simp -implicitDefEqProofs only [List.getD_cons_zero, List.getD_cons_succ, law04_RcFinds_l0, lp_some', mc_true, mc_false, ok_ret, ok_mc, ok_snap, aBin_add, aBin_sub, aBin_mul, aBin_lss, aBin_leq, aBin_gtr, aBin_geq, aBin_eql, aBin_neq, aBin_eqlStr, aBin_neqStr, strEq_bs, aBin_eqlNil, aBin_eqlNil', aBin_neqNil, aBin_neqNil', aUn_not, aUn_neg, aNil_ptr, aOff_ptr, aInt_int, aLenStr_str, aLenS_slice, aLenS_nil, aFold_min, aFold_max, bs_size, bs_empty, Nat.zero_add, Nat.add_zero, Nat.reduceAdd, ok_load, Mem.get_set, Mem.set_set, List.getElem?_cons_zero, List.getElem?_cons_succ, Option.some.injEq, exists_eq_left', List.set_cons_zero, List.set_cons_succ, h1, decide_true, if_true, xi, x0, x1, x2, g0 m hB.old, g1 m hB.old, g2 m hB.old]
    refine Ok.bnd (some_ok p0 p1 p2 hbn fun ob => ?_)
    have hpart := some_part (a := x) (b := y) p2
    have hB1 := hB.alloc ob
    generalize hm1 : m.alloc ob = m1 at *
    have hbn1 : m1.base ≤ m1.next := by have := hB1.b1; have := hB1.n1; omega
    simp -implicitDefEqProofs only [lp_some', mc_true, mc_false, ok_ret, ok_mc, ok_snap, aBin_add, aBin_sub, aBin_mul, aBin_lss, aBin_leq, aBin_gtr, aBin_geq, aBin_eql, aBin_neq, aBin_eqlStr, aBin_neqStr, strEq_bs, aBin_eqlNil, aBin_eqlNil', aBin_neqNil, aBin_neqNil', aUn_not, aUn_neg, aNil_ptr, aOff_ptr, aInt_int, aLenStr_str, aLenS_slice, aLenS_nil, aFold_min, aFold_max, bs_size, bs_empty, Nat.zero_add, Nat.add_zero, Nat.reduceAdd, ok_load, Mem.get_set, Mem.set_set, List.getElem?_cons_zero, List.getElem?_cons_succ, Option.some.injEq, exists_eq_left', List.set_cons_zero, List.set_cons_succ, ok_alloc]
    have hB2 := hB1.alloc (.cells T_ref04_Part 0 [.int .i64 0, .int .i64 0, .int .i64 0])
    have s2 := fun (k : M AV) => same_load (g2 _ hB2.old) (eqb_int _ _) k
    have s1 := fun (k : M AV) => same_load (g1 _ hB2.old) (eqb_int _ _) k
    have s0 := fun (k : M AV) => same_load (g0 _ hB2.old) (eqb_int _ _) k
    have hst := fun (k : Nat → AV → M AV) => ok_storeAll (i := m1.next) (k := k) (Q := Q) (vs := [.int .i64 (someLo x z), .int .i64 (someHi x y z), .int .i64 (1 + z : Nat)]) (n := 3) (Mem.get_alloc m1 (.cells T_ref04_Part 0 [.int .i64 0, .int .i64 0, .int .i64 0])) hbn1 rfl rfl (by simp)
    simp -implicitDefEqProofs only [s2, s1, s0, lp_some', mc_true, mc_false, ok_ret, ok_mc, ok_snap, aBin_add, aBin_sub, aBin_mul, aBin_lss, aBin_leq, aBin_gtr, aBin_geq, aBin_eql, aBin_neq, aBin_eqlStr, aBin_neqStr, strEq_bs, aBin_eqlNil, aBin_eqlNil', aBin_neqNil, aBin_neqNil', aUn_not, aUn_neg, aNil_ptr, aOff_ptr, aInt_int, aLenStr_str, aLenS_slice, aLenS_nil, aFold_min, aFold_max, bs_size, bs_empty, Nat.zero_add, Nat.add_zero, Nat.reduceAdd, ok_load, Mem.get_set, Mem.set_set, List.getElem?_cons_zero, List.getElem?_cons_succ, Option.some.injEq, exists_eq_left', List.set_cons_zero, List.set_cons_succ, hst, Mem.alloc_set]
    have hB3 := hB1.alloc (.cells T_ref04_Part 0 [.int .i64 (someLo x z), .int .i64 (someHi x y z), .int .i64 (1 + z : Nat)])
    have hget := Mem.get_alloc m1 (.cells T_ref04_Part 0 [.int .i64 (someLo x z), .int .i64 (someHi x y z), .int .i64 (1 + z : Nat)])
    have hne1 : m1.next ≠ i1 := by have := hB1.n1; omega
    have hne2 : m1.next ≠ i2 := by have := hB1.n2; omega
    generalize m1.alloc (.cells T_ref04_Part 0 [.int .i64 (someLo x z), .int .i64 (someHi x y z), .int .i64 (1 + z : Nat)]) = m3 at *
    generalize m1.next = ip at *
    have s3 := fun (k : M AV) => same_at (o := 2) hget rfl (eqb_int _ _) k
    simp -implicitDefEqProofs only [load_at hget, lp_some', mc_true, mc_false, ok_ret, ok_mc, ok_snap, aBin_add, aBin_sub, aBin_mul, aBin_lss, aBin_leq, aBin_gtr, aBin_geq, aBin_eql, aBin_neq, aBin_eqlStr, aBin_neqStr, strEq_bs, aBin_eqlNil, aBin_eqlNil', aBin_neqNil, aBin_neqNil', aUn_not, aUn_neg, aNil_ptr, aOff_ptr, aInt_int, aLenStr_str, aLenS_slice, aLenS_nil, aFold_min, aFold_max, bs_size, bs_empty, Nat.zero_add, Nat.add_zero, Nat.reduceAdd, ok_load, Mem.get_set, Mem.set_set, List.getElem?_cons_zero, List.getElem?_cons_succ, Option.some.injEq, exists_eq_left', List.set_cons_zero, List.set_cons_succ]
    refine both_places hB3 fun m4 _ hm4 hB4 => ?_
    have hget4 := (hm4 ip hne1).trans hget
    simp -implicitDefEqProofs only [load_at hget4, lp_some', mc_true, mc_false, ok_ret, ok_mc, ok_snap, aBin_add, aBin_sub, aBin_mul, aBin_lss, aBin_leq, aBin_gtr, aBin_geq, aBin_eql, aBin_neq, aBin_eqlStr, aBin_neqStr, strEq_bs, aBin_eqlNil, aBin_eqlNil', aBin_neqNil, aBin_neqNil', aUn_not, aUn_neg, aNil_ptr, aOff_ptr, aInt_int, aLenStr_str, aLenS_slice, aLenS_nil, aFold_min, aFold_max, bs_size, bs_empty, Nat.zero_add, Nat.add_zero, Nat.reduceAdd, ok_load, Mem.get_set, Mem.set_set, List.getElem?_cons_zero, List.getElem?_cons_succ, Option.some.injEq, exists_eq_left', List.set_cons_zero, List.set_cons_succ, s3]
    refine both_ref hB4 ?_
    simp -implicitDefEqProofs only [lp_some', mc_true, mc_false, ok_ret, ok_mc, ok_snap, aBin_add, aBin_sub, aBin_mul, aBin_lss, aBin_leq, aBin_gtr, aBin_geq, aBin_eql, aBin_neq, aBin_eqlStr, aBin_neqStr, strEq_bs, aBin_eqlNil, aBin_eqlNil', aBin_neqNil, aBin_neqNil', aUn_not, aUn_neg, aNil_ptr, aOff_ptr, aInt_int, aLenStr_str, aLenS_slice, aLenS_nil, aFold_min, aFold_max, bs_size, bs_empty, Nat.zero_add, Nat.add_zero, Nat.reduceAdd, ok_load, Mem.get_set, Mem.set_set, List.getElem?_cons_zero, List.getElem?_cons_succ, Option.some.injEq, exists_eq_left', List.set_cons_zero, List.set_cons_succ, ne_eq, not_true_eq_false, decide_false, Bool.false_eq_true, if_false]
    refine both_places hB4 fun m5 _ hm5 hB5 => ?_
    have hget5 := (hm5 ip hne1).trans hget4
    simp -implicitDefEqProofs only [lp_some', mc_true, mc_false, ok_ret, ok_mc, ok_snap, aBin_add, aBin_sub, aBin_mul, aBin_lss, aBin_leq, aBin_gtr, aBin_geq, aBin_eql, aBin_neq, aBin_eqlStr, aBin_neqStr, strEq_bs, aBin_eqlNil, aBin_eqlNil', aBin_neqNil, aBin_neqNil', aUn_not, aUn_neg, aNil_ptr, aOff_ptr, aInt_int, aLenStr_str, aLenS_slice, aLenS_nil, aFold_min, aFold_max, bs_size, bs_empty, Nat.zero_add, Nat.add_zero, Nat.reduceAdd, ok_load, Mem.get_set, Mem.set_set, List.getElem?_cons_zero, List.getElem?_cons_succ, Option.some.injEq, exists_eq_left', List.set_cons_zero, List.set_cons_succ]
    refine both_ref hB5 ?_
    simp -implicitDefEqProofs only [law04_RcFinds_j1, lp_some', mc_true, mc_false, ok_ret, ok_mc, ok_snap, aBin_add, aBin_sub, aBin_mul, aBin_lss, aBin_leq, aBin_gtr, aBin_geq, aBin_eql, aBin_neq, aBin_eqlStr, aBin_neqStr, strEq_bs, aBin_eqlNil, aBin_eqlNil', aBin_neqNil, aBin_neqNil', aUn_not, aUn_neg, aNil_ptr, aOff_ptr, aInt_int, aLenStr_str, aLenS_slice, aLenS_nil, aFold_min, aFold_max, bs_size, bs_empty, Nat.zero_add, Nat.add_zero, Nat.reduceAdd, ok_load, Mem.get_set, Mem.set_set, List.getElem?_cons_zero, List.getElem?_cons_succ, Option.some.injEq, exists_eq_left', List.set_cons_zero, List.set_cons_succ, ne_eq, not_true_eq_false, decide_false, Bool.false_eq_true, if_false, load_at hget5]
    obtain ⟨s, r, hd1, hd2⟩ := hB5.dec
    refine Ok.bnd (take_ok hd1 hB5.b1 hd2 hB5.fits hpart ?_)
    have hget6 := (get_set_ne (m := m5) (i := i1) (o := decObj true (d.take (someLo x z) (someHi x y z) (1 + z)).rng (d.take (someLo x z) (someHi x y z) (1 + z)).code (d.take (someLo x z) (someHi x y z) (1 + z)).l) hne1).trans hget5
    simp -implicitDefEqProofs only [load_at hget6, lp_some', mc_true, mc_false, ok_ret, ok_mc, ok_snap, aBin_add, aBin_sub, aBin_mul, aBin_lss, aBin_leq, aBin_gtr, aBin_geq, aBin_eql, aBin_neq, aBin_eqlStr, aBin_neqStr, strEq_bs, aBin_eqlNil, aBin_eqlNil', aBin_neqNil, aBin_neqNil', aUn_not, aUn_neg, aNil_ptr, aOff_ptr, aInt_int, aLenStr_str, aLenS_slice, aLenS_nil, aFold_min, aFold_max, bs_size, bs_empty, Nat.zero_add, Nat.add_zero, Nat.reduceAdd, ok_load, Mem.get_set, Mem.set_set, List.getElem?_cons_zero, List.getElem?_cons_succ, Option.some.injEq, exists_eq_left', List.set_cons_zero, List.set_cons_succ]
    have href : (m5.set i1 (decObj true (d.take (someLo x z) (someHi x y z) (1 + z)).rng (d.take (someLo x z) (someHi x y z) (1 + z)).code (d.take (someLo x z) (someHi x y z) (1 + z)).l)).get i2 = refObj S a d.code d.rng := by
      rw [get_set_ne (fun e => hB5.ne e.symm)]; exact hB5.ref
    refine Ok.bnd (ref_take_ok href hB5.b2 hB5.fits hB5.drop (by omega) hpart fun a' ha' hS' => ?_)
    have e9 : IntKind.i64.wrap ((idx : Int) + 1) = ((idx + 1 : Nat) : Int) := by rw [IntWalk.i64_in _ (by omega)]; rfl
    simp -implicitDefEqProofs only [lp_some', mc_true, mc_false, ok_ret, ok_mc, ok_snap, aBin_add, aBin_sub, aBin_mul, aBin_lss, aBin_leq, aBin_gtr, aBin_geq, aBin_eql, aBin_neq, aBin_eqlStr, aBin_neqStr, strEq_bs, aBin_eqlNil, aBin_eqlNil', aBin_neqNil, aBin_neqNil', aUn_not, aUn_neg, aNil_ptr, aOff_ptr, aInt_int, aLenStr_str, aLenS_slice, aLenS_nil, aFold_min, aFold_max, bs_size, bs_empty, Nat.zero_add, Nat.add_zero, Nat.reduceAdd, ok_load, Mem.get_set, Mem.set_set, List.getElem?_cons_zero, List.getElem?_cons_succ, Option.some.injEq, exists_eq_left', List.set_cons_zero, List.set_cons_succ, e9]
    exact ih k _ _ (Nat.lt_succ_self _) ⟨idx + 1, a', _, _, _, _, _, _, _, _, _, by omega, rfl, by omega, hB5.take hpart hS'⟩

theorem start_rng (l : List UInt8) : (Dec.start l).rng = 4294967295 := (init_bounds (n := 4) (d := ⟨4294967295, 0, l⟩) (j := 0) (by show 0 < 256 ^ 0; decide)).2

theorem finds_ok {S : List UInt8} {L : List (Nat × Nat × Nat)} {m0 : Mem} {v : AV} {t : Int} (hA : Arr3 m0 v L) (hbn : m0.base ≤ m0.next) : Ok (R fn_law04_RcFinds [.str (bs S), v, .int .i64 t]) m0 (fun v _ => v = .bool true) := by
  refine Ok.call (fun n => law04_RcFinds_eq rfl n _ _ _) ?_
  rcases Nat.lt_or_ge 200 S.length with h1 | h1
  · have h2 : (200 : Int) < (S.length : Int) := by omega
    simp -implicitDefEqProofs only [law04_RcFinds, law04_RcFinds_j0, lp_some', mc_true, mc_false, ok_ret, ok_mc, ok_snap, aBin_add, aBin_sub, aBin_mul, aBin_lss, aBin_leq, aBin_gtr, aBin_geq, aBin_eql, aBin_neq, aBin_eqlStr, aBin_neqStr, strEq_bs, aBin_eqlNil, aBin_eqlNil', aBin_neqNil, aBin_neqNil', aUn_not, aUn_neg, aNil_ptr, aOff_ptr, aInt_int, aLenStr_str, aLenS_slice, aLenS_nil, aFold_min, aFold_max, bs_size, bs_empty, Nat.zero_add, Nat.add_zero, Nat.reduceAdd, ok_load, Mem.get_set, Mem.set_set, List.getElem?_cons_zero, List.getElem?_cons_succ, Option.some.injEq, exists_eq_left', List.set_cons_zero, List.set_cons_succ, h2, decide_true, if_true]
    refine Ok.bnd (awake_ok ?_)
    simp -implicitDefEqProofs only [lp_some', mc_true, mc_false, ok_ret, ok_mc, ok_snap, aBin_add, aBin_sub, aBin_mul, aBin_lss, aBin_leq, aBin_gtr, aBin_geq, aBin_eql, aBin_neq, aBin_eqlStr, aBin_neqStr, strEq_bs, aBin_eqlNil, aBin_eqlNil', aBin_neqNil, aBin_neqNil', aUn_not, aUn_neg, aNil_ptr, aOff_ptr, aInt_int, aLenStr_str, aLenS_slice, aLenS_nil, aFold_min, aFold_max, bs_size, bs_empty, Nat.zero_add, Nat.add_zero, Nat.reduceAdd, ok_load, Mem.get_set, Mem.set_set, List.getElem?_cons_zero, List.getElem?_cons_succ, Option.some.injEq, exists_eq_left', List.set_cons_zero, List.set_cons_succ]
  · have h2 : ¬ (200 : Int) < (S.length : Int) := by omega
    rcases Nat.lt_or_ge 60 L.length with h3 | h3
    · have h4 : (60 : Int) < (L.length : Int) := by omega
      simp -implicitDefEqProofs only [law04_RcFinds, law04_RcFinds_j0, lp_some', mc_true, mc_false, ok_ret, ok_mc, ok_snap, aBin_add, aBin_sub, aBin_mul, aBin_lss, aBin_leq, aBin_gtr, aBin_geq, aBin_eql, aBin_neq, aBin_eqlStr, aBin_neqStr, strEq_bs, aBin_eqlNil, aBin_eqlNil', aBin_neqNil, aBin_neqNil', aUn_not, aUn_neg, aNil_ptr, aOff_ptr, aInt_int, aLenStr_str, aLenS_slice, aLenS_nil, aFold_min, aFold_max, bs_size, bs_empty, Nat.zero_add, Nat.add_zero, Nat.reduceAdd, ok_load, Mem.get_set, Mem.set_set, List.getElem?_cons_zero, List.getElem?_cons_succ, Option.some.injEq, exists_eq_left', List.set_cons_zero, List.set_cons_succ, h2, decide_true, decide_false, Bool.false_eq_true, if_false, if_true, hA.len, h4]
      refine Ok.bnd (awake_ok ?_)
      simp -implicitDefEqProofs only [lp_some', mc_true, mc_false, ok_ret, ok_mc, ok_snap, aBin_add, aBin_sub, aBin_mul, aBin_lss, aBin_leq, aBin_gtr, aBin_geq, aBin_eql, aBin_neq, aBin_eqlStr, aBin_neqStr, strEq_bs, aBin_eqlNil, aBin_eqlNil', aBin_neqNil, aBin_neqNil', aUn_not, aUn_neg, aNil_ptr, aOff_ptr, aInt_int, aLenStr_str, aLenS_slice, aLenS_nil, aFold_min, aFold_max, bs_size, bs_empty, Nat.zero_add, Nat.add_zero, Nat.reduceAdd, ok_load, Mem.get_set, Mem.set_set, List.getElem?_cons_zero, List.getElem?_cons_succ, Option.some.injEq, exists_eq_left', List.set_cons_zero, List.set_cons_succ]
    · have h4 : ¬ (60 : Int) < (L.length : Int) := by omega
      simp -implicitDefEqProofs only [law04_RcFinds, law04_RcFinds_j0, lp_some', mc_true, mc_false, ok_ret, ok_mc, ok_snap, aBin_add, aBin_sub, aBin_mul, aBin_lss, aBin_leq, aBin_gtr, aBin_geq, aBin_eql, aBin_neq, aBin_eqlStr, aBin_neqStr, strEq_bs, aBin_eqlNil, aBin_eqlNil', aBin_neqNil, aBin_neqNil', aUn_not, aUn_neg, aNil_ptr, aOff_ptr, aInt_int, aLenStr_str, aLenS_slice, aLenS_nil, aFold_min, aFold_max, bs_size, bs_empty, Nat.zero_add, Nat.add_zero, Nat.reduceAdd, ok_load, Mem.get_set, Mem.set_set, List.getElem?_cons_zero, List.getElem?_cons_succ, Option.some.injEq, exists_eq_left', List.set_cons_zero, List.set_cons_succ, h2, decide_false, Bool.false_eq_true, if_false, hA.len, h4]
      refine Ok.bnd (new_ok hbn ?_)
      refine Ok.bnd (ref_new_ok (Nat.le_succ_of_le hbn) fun hd => ?_)
      refine finds_loop (S := S) (L := L) (m0 := m0) (a := 4) (d := Dec.start S) (idx := 0) (k := L.length) hA h3 (fun _ => rfl) (by omega) (by omega) ?_
      have hb1 : m0.base ≤ (m0.alloc (decObj false 0 (Dec.start S).code (Dec.start S).l)).next := Nat.le_succ_of_le hbn
      exact ⟨((Old.refl m0).alloc hbn _).alloc hb1 _, ⟨false, 0, by rw [get_alloc_ne (by show m0.next ≠ m0.next + 1; omega)]; exact Mem.get_alloc _ _, by simp [rngOf, start_rng]⟩, Mem.get_alloc _ _, start_fits S, hd, hbn, by show m0.next < m0.next + 1 + 1; omega, hb1, by show m0.next + 1 < m0.next + 1 + 1; omega, by show m0.next ≠ m0.next + 1; omega⟩
end SplA
