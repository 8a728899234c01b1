/- The law SymBack. -/
import Derived.Test.YtimominjaikblabDoorSplGets
import Derived.Test.YtimominjaikblabDoorSplBufN
namespace SplA
open Go.Proofs.YtimominjaikblabDoor.Spl Go Go.Proofs
set_option maxRecDepth 100000
set_option linter.unusedVariables false
set_option linter.unusedSimpArgs false

/-! what was coded is taken -/

theorem at_delta {S : List UInt8} {v : Int} {x : Iv} {d : Dec} (h : d.At S x) (hx : x.Fits) (hv : -67 ≤ v ∧ v ≤ 67) (hw : Within S (x.parts (deltaP v))) : (gdelta d).1 = v ∧ (gdelta d).2.At S (x.parts (deltaP v)) := by
  have hpr := near_right' v
  have hnt : near v = ⟨(near v).lo, (near v).hi, 64⟩ := by
    obtain ⟨_, h2, _⟩ := rank_near v
    rw [h2]
  have hde : deltaP v = near v :: (if -3 ≤ v ∧ v ≤ 3 then [] else if 0 < v then bitsP 1 1 ++ belowP 64 (v - 4).toNat else bitsP 1 0 ++ belowP 64 (-v - 4).toNat) := rfl
  have hrt := deltaP_right hv
  rw [hde] at hw hrt ⊢
  have hw1 : Within S (x.code (near v).lo (near v).hi 64) := by
    have := within_sub (Iv.parts_sub (x := x.pt (near v)) hrt.tail) hw
    have e : x.pt (near v) = x.code (near v).lo (near v).hi 64 := by
      show x.code (near v).lo (near v).hi (near v).t = _
      rw [show (near v).t = 64 by rw [hnt]]
    rwa [e] at this
  obtain ⟨p1, p2⟩ := at_place h hx hpr hw1
  have hat := at_take h hw1
  have hx1 := Iv.code_fits hx hpr
  have hp64 : d.place 64 < 64 := place_lt d (by decide)
  have hgd : gdelta d = match nearV (d.place 64) with | some v => (v, d.take (near v).lo (near v).hi 64) | none => gfar d := rfl
  have hpc : ∀ b, x.parts (near v :: b) = (x.code (near v).lo (near v).hi 64).parts b := by
    intro b
    rw [Iv.parts_cons, show (near v).t = 64 by rw [hnt]]
  rw [hpc] at hw ⊢
  by_cases hn : -3 ≤ v ∧ v ≤ 3
  · rw [if_pos hn] at hw ⊢
    rw [hgd, (near_in hp64 hn).1 ⟨p1, p2⟩]
    exact ⟨rfl, hat⟩
  · rw [if_neg hn] at hw ⊢
    have e56 : near v = ⟨56, 64, 64⟩ := by
      unfold near
      rw [if_neg (by omega), if_neg (by omega), if_neg (by omega), if_neg (by omega), if_neg (by omega), if_neg (by omega), if_neg (by omega)]
    rw [e56] at hat hw hx1 p1 ⊢
    have hnone : nearV (d.place 64) = none := by
      have : 56 ≤ d.place 64 := p1
      unfold nearV
      rw [if_neg (by omega), if_neg (by omega), if_neg (by omega), if_neg (by omega), if_neg (by omega), if_neg (by omega), if_neg (by omega)]
    rw [hgd, hnone]
    dsimp only
    have hgf : gfar d = (if (gbits 1 0 (d.take 56 64 64)).1 = 1 then ((gbelowV 64 (gbits 1 0 (d.take 56 64 64)).2).1.1 : Int) + 4 else -(((gbelowV 64 (gbits 1 0 (d.take 56 64 64)).2).1.1 : Int) + 4), (gbelowV 64 (gbits 1 0 (d.take 56 64 64)).2).2) := rfl
    have hgv : ∀ b, gbelowV 64 b = (if (gbelow 64 b).1 < 64 then ((gbelow 64 b).1, true) else (0, false), (gbelow 64 b).2) := fun b => rfl
    by_cases hp : 0 < v
    · rw [if_pos hp] at hw ⊢
      rw [Iv.parts_append] at hw ⊢
      have hb := belowP_right (n := 64) (v := (v - 4).toNat) (by decide) (by omega)
      obtain ⟨g1, g2⟩ := at_bits (n := 1) (v := 1) (acc := 0) hat hx1 (within_sub (Iv.parts_sub hb) hw)
      obtain ⟨k1, k2⟩ := at_below (n := 64) (v := (v - 4).toNat) g2 (Iv.parts_fits hx1 (bitsP_right _ _)) (by decide) (by omega) hw
      have e : gbelowV 64 (gbits 1 0 (d.take 56 64 64)).2 = (((v - 4).toNat, true), (gbelow 64 (gbits 1 0 (d.take 56 64 64)).2).2) := by rw [hgv, k1, if_pos (by omega)]
      have e1 : (gbits 1 0 (d.take 56 64 64)).1 = 1 := by rw [g1]
      rw [hgf, e, e1, if_pos rfl]
      exact ⟨by show (((v - 4).toNat : Nat) : Int) + 4 = v; omega, k2⟩
    · rw [if_neg hp] at hw ⊢
      rw [Iv.parts_append] at hw ⊢
      have hb := belowP_right (n := 64) (v := (-v - 4).toNat) (by decide) (by omega)
      obtain ⟨g1, g2⟩ := at_bits (n := 1) (v := 0) (acc := 0) hat hx1 (within_sub (Iv.parts_sub hb) hw)
      obtain ⟨k1, k2⟩ := at_below (n := 64) (v := (-v - 4).toNat) g2 (Iv.parts_fits hx1 (bitsP_right _ _)) (by decide) (by omega) hw
      have e : gbelowV 64 (gbits 1 0 (d.take 56 64 64)).2 = (((-v - 4).toNat, true), (gbelow 64 (gbits 1 0 (d.take 56 64 64)).2).2) := by rw [hgv, k1, if_pos (by omega)]
      have e1 : (gbits 1 0 (d.take 56 64 64)).1 = 0 := by rw [g1]
      rw [hgf, e, e1, if_neg (by decide)]
      exact ⟨by show -((((-v - 4).toNat : Nat) : Int) + 4) = v; omega, k2⟩
theorem at_bitsO {S : List UInt8} {v n : Int} {ps : List Pt} {x : Iv} {d : Dec} (h : d.At S x) (hx : x.Fits) (hp : bitsO v n = some ps) (hw : Within S (x.parts ps)) : (((gbitsV n d).1 : Nat) : Int) = v ∧ (gbitsV n d).2.At S (x.parts ps) := by
  unfold bitsO at hp
  split at hp
  · rename_i hc
    cases hp
    obtain ⟨h1, h2, h3, h4⟩ := hc
    unfold gbitsV
    rw [if_pos ⟨h1, h2⟩]
    obtain ⟨g1, g2⟩ := at_bits (acc := 0) h hx hw
    refine ⟨?_, g2⟩
    rw [g1]
    have h4' : v.toNat < 2 ^ n.toNat := by
      have : ((v.toNat : Nat) : Int) < ((2 ^ n.toNat : Nat) : Int) := by rw [Int.natCast_pow, Int.toNat_of_nonneg h3]; exact h4
      omega
    rw [Nat.mod_eq_of_lt h4']
    omega
  · cases hp
theorem at_belowO {S : List UInt8} {v n : Int} {ps : List Pt} {x : Iv} {d : Dec} (h : d.At S x) (hx : x.Fits) (hp : belowO v n = some ps) (hw : Within S (x.parts ps)) : (((gbelowV n d).1.1 : Nat) : Int) = v ∧ (gbelowV n d).1.2 = true ∧ (gbelowV n d).2.At S (x.parts ps) := by
  unfold belowO at hp
  split at hp
  · rename_i hc
    cases hp
    obtain ⟨h1, h2, h3, h4⟩ := hc
    unfold gbelowV
    rw [if_pos ⟨h1, h2⟩]
    obtain ⟨g1, g2⟩ := at_below (n := n.toNat) (v := v.toNat) h hx (by omega) (by omega) hw
    rw [g1, if_pos (by omega)]
    exact ⟨by simp only; omega, rfl, g2⟩
  · cases hp
theorem at_deltaO {S : List UInt8} {v : Int} {ps : List Pt} {x : Iv} {d : Dec} (h : d.At S x) (hx : x.Fits) (hp : deltaO v = some ps) (hw : Within S (x.parts ps)) : (gdelta d).1 = v ∧ (gdelta d).2.At S (x.parts ps) := by
  unfold deltaO at hp
  split at hp
  · cases hp
    exact at_delta h hx (by assumption) hw
  · cases hp

/-! items in a row -/

def partsOf (L : List Itm) : List Pt := L.flatMap fun y => y.o.getD []
theorem partsOf_append (a b : List Itm) : partsOf (a ++ b) = partsOf a ++ partsOf b := by simp [partsOf]
theorem partsOf_right (L : List Itm) : Rights (partsOf L) := by
  intro p hp
  obtain ⟨y, _, hy⟩ := List.mem_flatMap.1 hp
  cases ho : y.o with
  | none => rw [ho] at hy; simp at hy
  | some ps => rw [ho] at hy; exact (Itm.right ho).1 p hy
theorem partsOf_length (L : List Itm) : (partsOf L).length ≤ 40 * L.length := by
  induction L with
  | nil => simp [partsOf]
  | cons y L ih =>
    have h1 := item_len y
    have : partsOf (y :: L) = y.o.getD [] ++ partsOf L := rfl
    rw [this, List.length_append, List.length_cons]
    omega
def itemCells (L : List Itm) : List AV := L.flatMap itemF
theorem itemCells_length (L : List Itm) : (itemCells L).length = L.length * 3 := by
  induction L with
  | nil => rfl
  | cons y L ih =>
    have : itemCells (y :: L) = itemF y ++ itemCells L := rfl
    rw [this, List.length_append, ih, List.length_cons]
    show 3 + _ = _
    omega
theorem itemCells_get : ∀ (L : List Itm) (k : Nat) (y : Itm), L[k]? = some y → ((itemCells L).drop (k * 3)).take 3 = itemF y
  | [], k, y, h => by simp at h
  | z :: L, 0, y, h => by
    simp at h
    subst h
    rfl
  | z :: L, k + 1, y, h => by
    have ih := itemCells_get L k y (by simpa using h)
    have e : (itemCells (z :: L)).drop ((k + 1) * 3) = (itemCells L).drop (k * 3) := by
      have : itemCells (z :: L) = itemF z ++ itemCells L := rfl
      rw [this, List.drop_append, show (k + 1) * 3 - (itemF z).length = k * 3 by show (k + 1) * 3 - 3 = k * 3; omega, List.drop_of_length_le (by show 3 ≤ (k + 1) * 3; omega), List.nil_append]
    rw [e]
    exact ih
theorem itemCells_snoc (L : List Itm) (y : Itm) : itemCells (L ++ [y]) = itemCells L ++ itemF y := by simp [itemCells]

theorem back_takes5 {ks : List Itm} {w : AV} {i : Nat} {S : List UInt8} (hks : ∀ y ∈ ks, y.o.isSome = true) (hL : ks.length ≤ 40) (hS : S = (Iv.start.parts (partsOf ks)).ends) {Q : AV → Mem → Prop} (hq : ∀ m, Q (.bool true) m) {m : Mem}
    (hB : BufN T_ref05_Item 3 m w (itemCells ks) ks.length) (hne : ∀ b, own w b → b ≠ i) (hD : DecAt m i (Dec.start S)) {j3 j4 j5 j6 : AV} :
    Ok (fun n => loopN (fun r l => law05_SymBack_l1 (fcall Tryd.prog ext1 n) n r (l.getD 0 .undef) (l.getD 1 .undef) (l.getD 2 .undef) (l.getD 3 .undef) (l.getD 4 .undef) (l.getD 5 .undef) (l.getD 6 .undef)) n [w, .ptr i 0, .int .i64 0, j3, j4, j5, j6]) m Q := by
  have hfin := Iv.parts_fits (ps := partsOf ks) Iv.start_fits (partsOf_right ks)
  have hw : ∀ k, Within S (Iv.start.parts (partsOf (ks.take k))) := fun k => by
    rw [hS]
    refine within_ends hfin ?_
    have := Iv.parts_sub (ps := partsOf (ks.drop k)) (x := Iv.start.parts (partsOf (ks.take k))) (partsOf_right _)
    rwa [← Iv.parts_append, ← partsOf_append, List.take_append_drop] at this
  refine Ok.loop (fun k l m => ∃ (idx : Nat) (d : Dec) (j3 j4 j5 j6 : AV), k + idx = ks.length ∧ l = [w, .ptr i 0, .int .i64 idx, j3, j4, j5, j6] ∧ BufN T_ref05_Item 3 m w (itemCells ks) ks.length ∧ DecAt m i d ∧ d.At S (Iv.start.parts (partsOf (ks.take idx)))) ?_ (k := ks.length) ⟨0, Dec.start S, j3, j4, j5, j6, rfl, rfl, hB, hD, at_start S⟩
  clear hB hD
  rintro k l m rec ⟨idx, d, j3, j4, j5, j6, hk, rfl, hB, hD, hat⟩ ih
  cases k with
  | zero =>
    have h1 : ¬ (idx : Int) < (ks.length : Int) := by omega
    simp -implicitDefEqProofs only [List.getD_cons_zero, List.getD_cons_succ, law05_SymBack_l1, lp_some', mc_true, mc_false, ok_ret, ok_mc, ok_snap, aBin_add, aBin_sub, aBin_mul, aBin_lss, aBin_leq, aBin_gtr, aBin_geq, aBin_eql, aBin_neq, aBin_eqlStr, aBin_neqStr, strEq_bs, aBin_eqlNil, aBin_eqlNil', aBin_neqNil, aBin_neqNil', aUn_not, aUn_neg, aNil_ptr, aOff_ptr, aInt_int, aLenStr_str, aLenS_slice, aLenS_nil, aFold_min, aFold_max, bs_size, bs_empty, Nat.zero_add, Nat.add_zero, Nat.reduceAdd, ok_load, Mem.get_set, Mem.set_set, List.getElem?_cons_zero, List.getElem?_cons_succ, Option.some.injEq, exists_eq_left', List.set_cons_zero, List.set_cons_succ, hB.len, h1, decide_false, Bool.false_eq_true, if_false]
    refine Ok.bnd (awake_ok ?_)
    simp -implicitDefEqProofs only [lp_some', mc_true, mc_false, ok_ret, ok_mc, ok_snap, aBin_add, aBin_sub, aBin_mul, aBin_lss, aBin_leq, aBin_gtr, aBin_geq, aBin_eql, aBin_neq, aBin_eqlStr, aBin_neqStr, strEq_bs, aBin_eqlNil, aBin_eqlNil', aBin_neqNil, aBin_neqNil', aUn_not, aUn_neg, aNil_ptr, aOff_ptr, aInt_int, aLenStr_str, aLenS_slice, aLenS_nil, aFold_min, aFold_max, bs_size, bs_empty, Nat.zero_add, Nat.add_zero, Nat.reduceAdd, ok_load, Mem.get_set, Mem.set_set, List.getElem?_cons_zero, List.getElem?_cons_succ, Option.some.injEq, exists_eq_left', List.set_cons_zero, List.set_cons_succ]
    exact hq _
  | succ k =>
    have h1 : (idx : Int) < (ks.length : Int) := by omega
    have h1' : idx < ks.length := by omega
    have hLi := List.getElem?_eq_getElem h1'
    have hsome := hks ks[idx] (List.getElem_mem h1')
    have hpk : partsOf (ks.take (idx + 1)) = partsOf (ks.take idx) ++ (ks[idx]).o.getD [] := by
      rw [List.take_add_one, hLi, partsOf_append]
      simp [partsOf]
    have hcell := itemCells_get ks idx _ hLi
    obtain ⟨jj, hix, hgj, hld⟩ := hB.idx (kd := .i64) h1'
    rw [hcell] at hld
    have hw1 := hw (idx + 1)
    rw [hpk, Iv.parts_append] at hw1
    have hxf := Iv.parts_fits (ps := partsOf (ks.take idx)) Iv.start_fits (partsOf_right _)
    have hat' : ∀ d' : Dec, d'.At S ((Iv.start.parts (partsOf (ks.take idx))).parts ((ks[idx]).o.getD [])) → d'.At S (Iv.start.parts (partsOf (ks.take (idx + 1)))) := fun d' h => by rw [hpk, Iv.parts_append]; exact h
    generalize ks[idx] = y at *
    generalize Iv.start.parts (partsOf (ks.take idx)) = x at *
    have hbn : m.base ≤ m.next := by have := hD.base; have := hD.next; omega
    have hst := fun (k : Nat → AV → M AV) => ok_storeAll (i := m.next) (k := k) (Q := Q) (vs := itemF y) (n := 3) (Mem.get_alloc m (.cells T_ref05_Item 0 [.int .i64 0, .int .i64 0, .int .i64 0])) hbn rfl rfl rfl
    simp -implicitDefEqProofs only [List.getD_cons_zero, List.getD_cons_succ, law05_SymBack_l1, lp_some', mc_true, mc_false, ok_ret, ok_mc, ok_snap, aBin_add, aBin_sub, aBin_mul, aBin_lss, aBin_leq, aBin_gtr, aBin_geq, aBin_eql, aBin_neq, aBin_eqlStr, aBin_neqStr, strEq_bs, aBin_eqlNil, aBin_eqlNil', aBin_neqNil, aBin_neqNil', aUn_not, aUn_neg, aNil_ptr, aOff_ptr, aInt_int, aLenStr_str, aLenS_slice, aLenS_nil, aFold_min, aFold_max, bs_size, bs_empty, Nat.zero_add, Nat.add_zero, Nat.reduceAdd, ok_load, Mem.get_set, Mem.set_set, List.getElem?_cons_zero, List.getElem?_cons_succ, Option.some.injEq, exists_eq_left', List.set_cons_zero, List.set_cons_succ, hB.len, h1, decide_true, if_true, hix, hld, ok_alloc, hst, Mem.alloc_set]
    have hg2 := Mem.get_alloc m (.cells T_ref05_Item 0 (itemF y))
    have hc2 : Chg (fun _ => False) m (m.alloc (.cells T_ref05_Item 0 (itemF y))) := Chg.alloc _ _ _
    have hip : m.next < (m.alloc (.cells T_ref05_Item 0 (itemF y))).next := Nat.lt_succ_self _
    have hipi : m.next ≠ i := by have := hD.next; omega
    have hB2 := hB.chg hc2 (fun _ _ h => h)
    have hD2 := hD.chg hc2 id
    generalize m.alloc (.cells T_ref05_Item 0 (itemF y)) = m2 at *
    generalize m.next = ip at *
    have f0 : (itemF y)[0]? = some (.int .i64 y.k) := rfl
    have f1 : (itemF y)[1]? = some (.int .i64 y.v) := rfl
    have f2 : (itemF y)[2]? = some (.int .i64 y.n) := rfl
    have e9 : IntKind.i64.wrap ((idx : Int) + 1) = ((idx + 1 : Nat) : Int) := by rw [IntWalk.i64_in _ (by omega)]; rfl
    have hnext : ∀ (m' : Mem) (d' : Dec) (j3 j4 j5 j6 : AV), DecAt m' i d' → Chg (fun b => b = i) m2 m' → d'.At S (x.parts (y.o.getD [])) → Ok (fun n => law05_SymBack_j2 (fcall Tryd.prog ext1 n) n (rec n) w (.ptr i 0) (.int .i64 idx) j3 j4 j5 j6) m' Q := by
      intro m' d' j3 j4 j5 j6 hD' hc' hat2
      simp -implicitDefEqProofs only [law05_SymBack_j2, lp_some', mc_true, mc_false, ok_ret, ok_mc, ok_snap, aBin_add, aBin_sub, aBin_mul, aBin_lss, aBin_leq, aBin_gtr, aBin_geq, aBin_eql, aBin_neq, aBin_eqlStr, aBin_neqStr, strEq_bs, aBin_eqlNil, aBin_eqlNil', aBin_neqNil, aBin_neqNil', aUn_not, aUn_neg, aNil_ptr, aOff_ptr, aInt_int, aLenStr_str, aLenS_slice, aLenS_nil, aFold_min, aFold_max, bs_size, bs_empty, Nat.zero_add, Nat.add_zero, Nat.reduceAdd, ok_load, Mem.get_set, Mem.set_set, List.getElem?_cons_zero, List.getElem?_cons_succ, Option.some.injEq, exists_eq_left', List.set_cons_zero, List.set_cons_succ, e9]
      exact ih k _ _ (Nat.lt_succ_self _) ⟨idx + 1, d', j3, j4, j5, j6, by omega, rfl, hB2.chg hc' (fun b hb e => hne b hb e), hD', hat' _ hat2⟩
    have hyo : y.o = if y.k = 0 then bitsO y.v y.n else if y.k = 1 then belowO y.v y.n else deltaO y.v := rfl
    obtain ⟨ps, hps⟩ := Option.isSome_iff_exists.1 hsome
    rw [hps, Option.getD_some] at hw1 hnext
    rw [hps] at hyo
    simp -implicitDefEqProofs only [load_at hg2, f0, lp_some', mc_true, mc_false, ok_ret, ok_mc, ok_snap, aBin_add, aBin_sub, aBin_mul, aBin_lss, aBin_leq, aBin_gtr, aBin_geq, aBin_eql, aBin_neq, aBin_eqlStr, aBin_neqStr, strEq_bs, aBin_eqlNil, aBin_eqlNil', aBin_neqNil, aBin_neqNil', aUn_not, aUn_neg, aNil_ptr, aOff_ptr, aInt_int, aLenStr_str, aLenS_slice, aLenS_nil, aFold_min, aFold_max, bs_size, bs_empty, Nat.zero_add, Nat.add_zero, Nat.reduceAdd, ok_load, Mem.get_set, Mem.set_set, List.getElem?_cons_zero, List.getElem?_cons_succ, Option.some.injEq, exists_eq_left', List.set_cons_zero, List.set_cons_succ]
    by_cases k0 : y.k = 0
    · rw [if_pos k0] at hyo
      obtain ⟨v1, v2⟩ := at_bitsO hat hxf hyo.symm hw1
      simp -implicitDefEqProofs only [k0, decide_true, if_true, lp_some', mc_true, mc_false, ok_ret, ok_mc, ok_snap, aBin_add, aBin_sub, aBin_mul, aBin_lss, aBin_leq, aBin_gtr, aBin_geq, aBin_eql, aBin_neq, aBin_eqlStr, aBin_neqStr, strEq_bs, aBin_eqlNil, aBin_eqlNil', aBin_neqNil, aBin_neqNil', aUn_not, aUn_neg, aNil_ptr, aOff_ptr, aInt_int, aLenStr_str, aLenS_slice, aLenS_nil, aFold_min, aFold_max, bs_size, bs_empty, Nat.zero_add, Nat.add_zero, Nat.reduceAdd, ok_load, Mem.get_set, Mem.set_set, List.getElem?_cons_zero, List.getElem?_cons_succ, Option.some.injEq, exists_eq_left', List.set_cons_zero, List.set_cons_succ, load_at hg2, f2]
      refine Ok.bnd (cbits m2 d _ hD2 fun m3 g1 c1 => ?_)
      have hg3 := (c1.get ip hip hipi).trans hg2
      have s1 := fun (q : M AV) => same_at (o := 1) hg2 f1 (eqb_int _ _) q
      simp -implicitDefEqProofs only [lp_some', mc_true, mc_false, ok_ret, ok_mc, ok_snap, aBin_add, aBin_sub, aBin_mul, aBin_lss, aBin_leq, aBin_gtr, aBin_geq, aBin_eql, aBin_neq, aBin_eqlStr, aBin_neqStr, strEq_bs, aBin_eqlNil, aBin_eqlNil', aBin_neqNil, aBin_neqNil', aUn_not, aUn_neg, aNil_ptr, aOff_ptr, aInt_int, aLenStr_str, aLenS_slice, aLenS_nil, aFold_min, aFold_max, bs_size, bs_empty, Nat.zero_add, Nat.add_zero, Nat.reduceAdd, ok_load, Mem.get_set, Mem.set_set, List.getElem?_cons_zero, List.getElem?_cons_succ, Option.some.injEq, exists_eq_left', List.set_cons_zero, List.set_cons_succ, load_at hg3, f1, s1, v1, ne_eq, not_true_eq_false, decide_false, Bool.false_eq_true, if_false]
      exact hnext m3 _ _ _ _ _ g1 c1 v2
    · rw [if_neg k0] at hyo
      by_cases k1 : y.k = 1
      · rw [if_pos k1] at hyo
        obtain ⟨v1, v3, v2⟩ := at_belowO hat hxf hyo.symm hw1
        simp -implicitDefEqProofs only [k1, decide_true, if_true, decide_false, Bool.false_eq_true, if_false, Int.one_ne_zero, lp_some', mc_true, mc_false, ok_ret, ok_mc, ok_snap, aBin_add, aBin_sub, aBin_mul, aBin_lss, aBin_leq, aBin_gtr, aBin_geq, aBin_eql, aBin_neq, aBin_eqlStr, aBin_neqStr, strEq_bs, aBin_eqlNil, aBin_eqlNil', aBin_neqNil, aBin_neqNil', aUn_not, aUn_neg, aNil_ptr, aOff_ptr, aInt_int, aLenStr_str, aLenS_slice, aLenS_nil, aFold_min, aFold_max, bs_size, bs_empty, Nat.zero_add, Nat.add_zero, Nat.reduceAdd, ok_load, Mem.get_set, Mem.set_set, List.getElem?_cons_zero, List.getElem?_cons_succ, Option.some.injEq, exists_eq_left', List.set_cons_zero, List.set_cons_succ, load_at hg2, f2]
        refine Ok.bnd (cbelow m2 d _ hD2 fun m3 g1 c1 => ?_)
        have hg3 := (c1.get ip hip hipi).trans hg2
        simp -implicitDefEqProofs only [belowR, aExt, List.getElem?_cons_zero, List.getElem?_cons_succ, v3, Bool.not_true, Bool.false_eq_true, if_false, lp_some', mc_true, mc_false, ok_ret, ok_mc, ok_snap, aBin_add, aBin_sub, aBin_mul, aBin_lss, aBin_leq, aBin_gtr, aBin_geq, aBin_eql, aBin_neq, aBin_eqlStr, aBin_neqStr, strEq_bs, aBin_eqlNil, aBin_eqlNil', aBin_neqNil, aBin_neqNil', aUn_not, aUn_neg, aNil_ptr, aOff_ptr, aInt_int, aLenStr_str, aLenS_slice, aLenS_nil, aFold_min, aFold_max, bs_size, bs_empty, Nat.zero_add, Nat.add_zero, Nat.reduceAdd, ok_load, Mem.get_set, Mem.set_set, List.getElem?_cons_zero, List.getElem?_cons_succ, Option.some.injEq, exists_eq_left', List.set_cons_zero, List.set_cons_succ, load_at hg3, f1, v1, ne_eq, not_true_eq_false, decide_false, law05_SymBack_j1]
        exact hnext m3 _ _ _ _ _ g1 c1 v2
      · rw [if_neg k1] at hyo
        obtain ⟨v1, v2⟩ := at_deltaO hat hxf hyo.symm hw1
        simp -implicitDefEqProofs only [k0, k1, decide_false, Bool.false_eq_true, if_false, lp_some', mc_true, mc_false, ok_ret, ok_mc, ok_snap, aBin_add, aBin_sub, aBin_mul, aBin_lss, aBin_leq, aBin_gtr, aBin_geq, aBin_eql, aBin_neq, aBin_eqlStr, aBin_neqStr, strEq_bs, aBin_eqlNil, aBin_eqlNil', aBin_neqNil, aBin_neqNil', aUn_not, aUn_neg, aNil_ptr, aOff_ptr, aInt_int, aLenStr_str, aLenS_slice, aLenS_nil, aFold_min, aFold_max, bs_size, bs_empty, Nat.zero_add, Nat.add_zero, Nat.reduceAdd, ok_load, Mem.get_set, Mem.set_set, List.getElem?_cons_zero, List.getElem?_cons_succ, Option.some.injEq, exists_eq_left', List.set_cons_zero, List.set_cons_succ]
        refine Ok.bnd (cdelta m2 d _ hD2 fun m3 g1 c1 => ?_)
        have hg3 := (c1.get ip hip hipi).trans hg2
        have s1 := fun (q : M AV) => same_at (o := 1) hg2 f1 (eqb_int _ _) q
        simp -implicitDefEqProofs only [lp_some', mc_true, mc_false, ok_ret, ok_mc, ok_snap, aBin_add, aBin_sub, aBin_mul, aBin_lss, aBin_leq, aBin_gtr, aBin_geq, aBin_eql, aBin_neq, aBin_eqlStr, aBin_neqStr, strEq_bs, aBin_eqlNil, aBin_eqlNil', aBin_neqNil, aBin_neqNil', aUn_not, aUn_neg, aNil_ptr, aOff_ptr, aInt_int, aLenStr_str, aLenS_slice, aLenS_nil, aFold_min, aFold_max, bs_size, bs_empty, Nat.zero_add, Nat.add_zero, Nat.reduceAdd, ok_load, Mem.get_set, Mem.set_set, List.getElem?_cons_zero, List.getElem?_cons_succ, Option.some.injEq, exists_eq_left', List.set_cons_zero, List.set_cons_succ, load_at hg3, f1, s1, v1, ne_eq, not_true_eq_false, decide_false, Bool.false_eq_true, if_false]
        exact hnext m3 _ _ _ _ _ g1 c1 v2

theorem back_loop5 {L : List Itm} {m0 : Mem} {v : AV} {i1 : Nat} (hA : ArrOf 3 itemF m0 v L) (hL : L.length ≤ 40) (hw : ∀ y ∈ L, Wf y) {Q : AV → Mem → Prop} (hq : ∀ m, Q (.bool true) m) {m : Mem} {c0 : Cst} {a0 buf0 : AV} (ho : Old m0 m) (hc0 : CodAt m i1 c0 a0 buf0) (hI0 : c0.Is Iv.start) :
    Ok (fun n => loopN (fun r l => law05_SymBack_l0 (fcall Tryd.prog ext1 n) n r (l.getD 0 .undef) (l.getD 1 .undef) (l.getD 2 .undef) (l.getD 3 .undef) (l.getD 4 .undef) (l.getD 5 .undef) (l.getD 6 .undef) (l.getD 7 .undef)) n [v, .ptr i1 0, .nilslice, .int .i64 0, .undef, .undef, .undef, .undef]) m Q := by
  refine Ok.loop (fun k l m => ∃ (idx : Nat) (c : Cst) (a buf w : AV) (ks : List Itm), k + idx = L.length ∧ l = [v, .ptr i1 0, w, .int .i64 idx, .undef, .undef, .undef, .undef] ∧ Old m0 m ∧ CodAt m i1 c a buf ∧ c.Is (Iv.start.parts (partsOf ks)) ∧ ks.length ≤ idx ∧ (∀ y ∈ ks, y.o.isSome = true) ∧ BufN T_ref05_Item 3 m w (itemCells ks) ks.length ∧ Dis (own w) (foot i1 buf)) ?_ (k := L.length) ⟨0, c0, a0, buf0, .nilslice, [], rfl, rfl, ho, hc0, hI0, Nat.le_refl _, fun y h => by simp at h, ⟨rfl, .inl ⟨rfl, rfl⟩⟩, fun b h => h.elim⟩
  clear ho hc0 hI0
  rintro k l m rec ⟨idx, c, a, buf, w, ks, hk, rfl, ho, hc, hI, hkl, hks, hB, hdis⟩ ih
  have hbn : m.base ≤ m.next := by have := hc.base; have := hc.next; omega
  have hx := Iv.parts_fits (ps := partsOf ks) Iv.start_fits (partsOf_right ks)
  have hxn := Iv.parts_n (partsOf ks) Iv.start
  have hpl := partsOf_length ks
  have h0n : Iv.start.n = 0 := rfl
  cases k with
  | zero =>
    have h1 : ¬ (idx : Int) < (L.length : Int) := by omega
    simp -implicitDefEqProofs only [List.getD_cons_zero, List.getD_cons_succ, law05_SymBack_l0, lp_some', mc_true, mc_false, ok_ret, ok_mc, ok_snap, aBin_add, aBin_sub, aBin_mul, aBin_lss, aBin_leq, aBin_gtr, aBin_geq, aBin_eql, aBin_neq, aBin_eqlStr, aBin_neqStr, strEq_bs, aBin_eqlNil, aBin_eqlNil', aBin_neqNil, aBin_neqNil', aUn_not, aUn_neg, aNil_ptr, aOff_ptr, aInt_int, aLenStr_str, aLenS_slice, aLenS_nil, aFold_min, aFold_max, bs_size, bs_empty, Nat.zero_add, Nat.add_zero, Nat.reduceAdd, ok_load, Mem.get_set, Mem.set_set, List.getElem?_cons_zero, List.getElem?_cons_succ, Option.some.injEq, exists_eq_left', List.set_cons_zero, List.set_cons_succ, hA.len, h1, decide_false, Bool.false_eq_true, if_false]
    refine Ok.bnd (end_ok hc hI (by omega) fun m1 hc1 hch1 => ?_)
    have hbn1 : m1.base ≤ m1.next := by have := hc1.base; have := hc1.next; omega
    refine Ok.bnd (new_ok hbn1 ?_)
    simp -implicitDefEqProofs only [lp_some', mc_true, mc_false, ok_ret, ok_mc, ok_snap, aBin_add, aBin_sub, aBin_mul, aBin_lss, aBin_leq, aBin_gtr, aBin_geq, aBin_eql, aBin_neq, aBin_eqlStr, aBin_neqStr, strEq_bs, aBin_eqlNil, aBin_eqlNil', aBin_neqNil, aBin_neqNil', aUn_not, aUn_neg, aNil_ptr, aOff_ptr, aInt_int, aLenStr_str, aLenS_slice, aLenS_nil, aFold_min, aFold_max, bs_size, bs_empty, Nat.zero_add, Nat.add_zero, Nat.reduceAdd, ok_load, Mem.get_set, Mem.set_set, List.getElem?_cons_zero, List.getElem?_cons_succ, Option.some.injEq, exists_eq_left', List.set_cons_zero, List.set_cons_succ, Bool.false_eq_true, if_false]
    have hB1 := hB.chg hch1 (fun b hb hg => hdis b hb (.inr hg))
    have hlt : ∀ b, own w b → b < m1.next := fun b hb => (hB1.own hb).2
    refine back_takes5 hks (by omega) rfl hq (hB1.chg (Chg.alloc (fun _ => False) m1 _) (fun _ _ h => h)) (fun b hb e => by have := hlt b hb; omega) ⟨hbn1, Nat.lt_succ_self _, ⟨false, 0, Mem.get_alloc _ _, by simp [rngOf, start_rng]⟩, start_fits _⟩
  | succ k =>
    have h1 : (idx : Int) < (L.length : Int) := by omega
    have h1' : idx < L.length := by omega
    have hLi := List.getElem?_eq_getElem h1'
    obtain ⟨b, o, hix, hel⟩ := hA.at hLi
    have hwy := hw L[idx] (List.getElem_mem h1')
    generalize L[idx] = y at *
    have hlen := item_len y
    have l1 := (hel m ho).1
    have e9 : IntKind.i64.wrap ((idx : Int) + 1) = ((idx + 1 : Nat) : Int) := by rw [IntWalk.i64_in _ (by omega)]; rfl
    simp -implicitDefEqProofs only [List.getD_cons_zero, List.getD_cons_succ, law05_SymBack_l0, lp_some', mc_true, mc_false, ok_ret, ok_mc, ok_snap, aBin_add, aBin_sub, aBin_mul, aBin_lss, aBin_leq, aBin_gtr, aBin_geq, aBin_eql, aBin_neq, aBin_eqlStr, aBin_neqStr, strEq_bs, aBin_eqlNil, aBin_eqlNil', aBin_neqNil, aBin_neqNil', aUn_not, aUn_neg, aNil_ptr, aOff_ptr, aInt_int, aLenStr_str, aLenS_slice, aLenS_nil, aFold_min, aFold_max, bs_size, bs_empty, Nat.zero_add, Nat.add_zero, Nat.reduceAdd, ok_load, Mem.get_set, Mem.set_set, List.getElem?_cons_zero, List.getElem?_cons_succ, Option.some.injEq, exists_eq_left', List.set_cons_zero, List.set_cons_succ, hA.len, h1, decide_true, if_true, hix, l1]
    refine Ok.bnd (put_item_ok (y := y) hwy.2.1.2 m c a buf _ _ hc hI hx (by omega) fun m1 c1 a1 b1 g1 g2 g3 g4 => ?_)
    have ho1 : Old m0 m1 := g4.old ho hc.foot_lt hbn
    have hB1 := hB.chg g4.chg (fun b hb hg => hdis b hb hg)
    have hdis1 : Dis (own w) (foot i1 b1) := fun b hb hg => g4.dis (G := own w) (fun j hj => (hB.own hj).2) (fun j h1 h2 => hdis j h2 h1) b hg hb
    have hbn1 : m1.base ≤ m1.next := by have := g1.base; have := g1.next; omega
    cases hyo : y.o with
    | none =>
      rw [hyo] at g2
      simp -implicitDefEqProofs only [Option.isSome_none, lp_some', mc_true, mc_false, ok_ret, ok_mc, ok_snap, aBin_add, aBin_sub, aBin_mul, aBin_lss, aBin_leq, aBin_gtr, aBin_geq, aBin_eql, aBin_neq, aBin_eqlStr, aBin_neqStr, strEq_bs, aBin_eqlNil, aBin_eqlNil', aBin_neqNil, aBin_neqNil', aUn_not, aUn_neg, aNil_ptr, aOff_ptr, aInt_int, aLenStr_str, aLenS_slice, aLenS_nil, aFold_min, aFold_max, bs_size, bs_empty, Nat.zero_add, Nat.add_zero, Nat.reduceAdd, ok_load, Mem.get_set, Mem.set_set, List.getElem?_cons_zero, List.getElem?_cons_succ, Option.some.injEq, exists_eq_left', List.set_cons_zero, List.set_cons_succ, Bool.false_eq_true, if_false, law05_SymBack_j0, e9]
      exact ih k _ _ (Nat.lt_succ_self _) ⟨idx + 1, c1, a1, b1, w, ks, by omega, rfl, ho1, g1, g2, by omega, hks, hB1, hdis1⟩
    | some ps =>
      rw [hyo] at g2
      have l2 := (hel m1 ho1).1
      have hfill : aFill (fun i => some (i * 3, 3)) [.int .i64 0, .int .i64 0, .int .i64 0] [(0, .agg (itemF y))] = some (itemF y) := rfl
      simp -implicitDefEqProofs only [Option.isSome_some, lp_some', mc_true, mc_false, ok_ret, ok_mc, ok_snap, aBin_add, aBin_sub, aBin_mul, aBin_lss, aBin_leq, aBin_gtr, aBin_geq, aBin_eql, aBin_neq, aBin_eqlStr, aBin_neqStr, strEq_bs, aBin_eqlNil, aBin_eqlNil', aBin_neqNil, aBin_neqNil', aUn_not, aUn_neg, aNil_ptr, aOff_ptr, aInt_int, aLenStr_str, aLenS_slice, aLenS_nil, aFold_min, aFold_max, bs_size, bs_empty, Nat.zero_add, Nat.add_zero, Nat.reduceAdd, ok_load, Mem.get_set, Mem.set_set, List.getElem?_cons_zero, List.getElem?_cons_succ, Option.some.injEq, exists_eq_left', List.set_cons_zero, List.set_cons_succ, if_true, hix, l2, hfill]
      refine ok_appendN (X := itemF y) hB1 hbn1 rfl (by decide) rfl (by omega) fun m2 w2 hc2 hB2 hown2 hbn2 => ?_
      simp -implicitDefEqProofs only [law05_SymBack_j0, lp_some', mc_true, mc_false, ok_ret, ok_mc, ok_snap, aBin_add, aBin_sub, aBin_mul, aBin_lss, aBin_leq, aBin_gtr, aBin_geq, aBin_eql, aBin_neq, aBin_eqlStr, aBin_neqStr, strEq_bs, aBin_eqlNil, aBin_eqlNil', aBin_neqNil, aBin_neqNil', aUn_not, aUn_neg, aNil_ptr, aOff_ptr, aInt_int, aLenStr_str, aLenS_slice, aLenS_nil, aFold_min, aFold_max, bs_size, bs_empty, Nat.zero_add, Nat.add_zero, Nat.reduceAdd, ok_load, Mem.get_set, Mem.set_set, List.getElem?_cons_zero, List.getElem?_cons_succ, Option.some.injEq, exists_eq_left', List.set_cons_zero, List.set_cons_succ, e9]
      have hc2' := CodAt.chg g1 hc2 (fun hg => hdis1 i1 hg (.inl rfl)) (fun b hb hg => hdis1 b hg (.inr hb))
      have ho2 : Old m0 m2 := hc2.old ho1 hbn1 (fun b hb => (hB1.own hb).1)
      refine ih k _ _ (Nat.lt_succ_self _) ⟨idx + 1, c1, a1, b1, w2, ks ++ [y], by omega, rfl, ho2, hc2', ?_, by simp; omega, ?_, ?_, ?_⟩
      · have e : partsOf (ks ++ [y]) = partsOf ks ++ ps := by rw [partsOf_append]; simp [partsOf, hyo]
        rw [e, Iv.parts_append]
        exact g2
      · intro z hz
        rcases List.mem_append.1 hz with h2 | h2
        · exact hks z h2
        · simp at h2; subst h2; rw [hyo]; rfl
      · rw [itemCells_snoc, List.length_append]
        exact hB2
      · intro b hb hg
        have := hown2 b hb
        have := (g1.foot_lt b hg).1
        omega

theorem symBack_ok {L : List Itm} {m0 : Mem} {v : AV} (hA : ArrOf 3 itemF m0 v L) (hw : ∀ y ∈ L, Wf y) (hbn : m0.base ≤ m0.next) : Ok (R fn_law05_SymBack [v]) m0 (fun v _ => v = .bool true) := by
  refine Ok.call (fun n => law05_SymBack_eq rfl n _) ?_
  simp -implicitDefEqProofs only [law05_SymBack, hA.len, lp_some', mc_true, mc_false, ok_ret, ok_mc, ok_snap, aBin_add, aBin_sub, aBin_mul, aBin_lss, aBin_leq, aBin_gtr, aBin_geq, aBin_eql, aBin_neq, aBin_eqlStr, aBin_neqStr, strEq_bs, aBin_eqlNil, aBin_eqlNil', aBin_neqNil, aBin_neqNil', aUn_not, aUn_neg, aNil_ptr, aOff_ptr, aInt_int, aLenStr_str, aLenS_slice, aLenS_nil, aFold_min, aFold_max, bs_size, bs_empty, Nat.zero_add, Nat.add_zero, Nat.reduceAdd, ok_load, Mem.get_set, Mem.set_set, List.getElem?_cons_zero, List.getElem?_cons_succ, Option.some.injEq, exists_eq_left', List.set_cons_zero, List.set_cons_succ]
  rcases Nat.lt_or_ge 40 L.length with h3 | h3
  · have h4 : (40 : Int) < (L.length : Int) := by omega
    simp -implicitDefEqProofs only [h4, decide_true, if_true]
    refine Ok.bnd (awake_ok ?_)
    simp -implicitDefEqProofs only [lp_some', mc_true, mc_false, ok_ret, ok_mc, ok_snap, aBin_add, aBin_sub, aBin_mul, aBin_lss, aBin_leq, aBin_gtr, aBin_geq, aBin_eql, aBin_neq, aBin_eqlStr, aBin_neqStr, strEq_bs, aBin_eqlNil, aBin_eqlNil', aBin_neqNil, aBin_neqNil', aUn_not, aUn_neg, aNil_ptr, aOff_ptr, aInt_int, aLenStr_str, aLenS_slice, aLenS_nil, aFold_min, aFold_max, bs_size, bs_empty, Nat.zero_add, Nat.add_zero, Nat.reduceAdd, ok_load, Mem.get_set, Mem.set_set, List.getElem?_cons_zero, List.getElem?_cons_succ, Option.some.injEq, exists_eq_left', List.set_cons_zero, List.set_cons_succ]
  · have h4 : ¬ (40 : Int) < (L.length : Int) := by omega
    have f1 : (aFill (fun i => [(0, 2), (2, 2), (4, 1), (5, 1), (6, 1)][i]?) [.bool false, .int .u64 0, .nilptr, .nilslice, .int .u64 0, .int .i64 0, .int .i64 0] []).map AV.agg = some (.agg [.bool false, .int .u64 0, .nilptr, .nilslice, .int .u64 0, .int .i64 0, .int .i64 0]) := rfl
    simp -implicitDefEqProofs only [h4, decide_false, Bool.false_eq_true, if_false, f1, lp_some', ok_box]
    exact back_loop5 hA h3 hw (fun _ => rfl) ((Old.refl m0).alloc hbn _) (codNew_ok hbn) start_is
end SplA
