/- The law SymPuts. -/
import Derived.Test.YtimominjaikblabDoorSplSym2
import Derived.Test.YtimominjaikblabDoorSplArr2
namespace SplA
open Go.Proofs.YtimominjaikblabDoor.Spl Go Go.Proofs
set_option maxRecDepth 100000
set_option linter.unusedVariables false
set_option linter.unusedSimpArgs false

def itemF (y : Itm) : List AV := [.int .i64 y.k, .int .i64 y.v, .int .i64 y.n]
def Wf (y : Itm) : Prop := (-9223372036854775808 ≤ y.k ∧ y.k < 9223372036854775808) ∧ (-9223372036854775808 ≤ y.v ∧ y.v < 9223372036854775808) ∧ (-9223372036854775808 ≤ y.n ∧ y.n < 9223372036854775808)
theorem item_len (y : Itm) : (y.o.getD []).length ≤ 40 := by
  cases h : y.o with
  | none => simp
  | some ps => exact (Itm.right h).2
theorem aBin_neqBool (a b : Bool) : aBin .neq [1] (.bool a) (.bool b) = some (.bool !(a == b)) := rfl
theorem eqb_item (y : Itm) : AV.eqb (.agg (itemF y)) (.agg (itemF y)) = true := by simp [AV.eqb, AV.eqbs, itemF]

theorem puts_loop {L : List Itm} {m0 : Mem} {v : AV} {i1 i2 : Nat} (hA : ArrOf 3 itemF m0 v L) (hL : L.length ≤ 40) (hw : ∀ y ∈ L, Wf y) {Q : AV → Mem → Prop} (hq : ∀ m, Q (.bool true) m) {K : Nat → Prop} {X : Nat → AObj} {c0 : Cst} {a0 buf0 w0 j0 : AV} {m : Mem}
    (hT : Two m0 K X i1 i2 Iv.start Iv.start c0 a0 buf0 w0 m) :
    Ok (fun n => loopN (fun r l => law05_SymPuts_l0 (fcall Tryd.prog ext1 n) n r (l.getD 0 .undef) (l.getD 1 .undef) (l.getD 2 .undef) (l.getD 3 .undef) (l.getD 4 .undef)) n [v, .ptr i1 0, .ptr i2 0, .int .i64 0, j0]) m Q := by
  refine Ok.loop (fun k l m => ∃ (idx : Nat) (x : Iv) (c : Cst) (a buf w j5 : AV), k + idx = L.length ∧ l = [v, .ptr i1 0, .ptr i2 0, .int .i64 idx, j5] ∧ x.Fits ∧ x.n ≤ 120 * idx ∧ Two m0 K X i1 i2 x x c a buf w m) ?_ (k := L.length) ⟨0, Iv.start, c0, a0, buf0, w0, j0, rfl, rfl, Iv.start_fits, by show 0 ≤ _; omega, hT⟩
  clear hT
  rintro k l m rec ⟨idx, x, c, a, buf, w, j5, hk, rfl, hx, hn, hT⟩ ih
  cases k with
  | zero =>
    have h1 : ¬ (idx : Int) < (L.length : Int) := by omega
    simp -implicitDefEqProofs only [List.getD_cons_zero, List.getD_cons_succ, law05_SymPuts_l0, lp_some', mc_true, mc_false, ok_ret, ok_mc, ok_snap, aBin_add, aBin_sub, aBin_mul, aBin_lss, aBin_leq, aBin_gtr, aBin_geq, aBin_eql, aBin_neq, aBin_eqlStr, aBin_neqStr, strEq_bs, aBin_eqlNil, aBin_eqlNil', aBin_neqNil, aBin_neqNil', aUn_not, aUn_neg, aNil_ptr, aOff_ptr, aInt_int, aLenStr_str, aLenS_slice, aLenS_nil, aFold_min, aFold_max, bs_size, bs_empty, Nat.zero_add, Nat.add_zero, Nat.reduceAdd, ok_load, Mem.get_set, Mem.set_set, List.getElem?_cons_zero, List.getElem?_cons_succ, Option.some.injEq, exists_eq_left', List.set_cons_zero, List.set_cons_succ, hA.len, h1, decide_false, Bool.false_eq_true, if_false]
    refine Ok.bnd (end_ok hT.cod hT.is (by omega) fun m1 hc1 hch1 => ?_)
    have hT1 := hT.setCod hc1 hT.is ⟨hch1.mono fun _ _ h => .inr h, fun _ h => .inl h⟩
    refine Ok.bnd (rend_ok hT1.ref (by omega) fun m2 hr2 hch2 => ?_)
    simp -implicitDefEqProofs only [lp_some', mc_true, mc_false, ok_ret, ok_mc, ok_snap, aBin_add, aBin_sub, aBin_mul, aBin_lss, aBin_leq, aBin_gtr, aBin_geq, aBin_eql, aBin_neq, aBin_eqlStr, aBin_neqStr, strEq_bs, aBin_eqlNil, aBin_eqlNil', aBin_neqNil, aBin_neqNil', aUn_not, aUn_neg, aNil_ptr, aOff_ptr, aInt_int, aLenStr_str, aLenS_slice, aLenS_nil, aFold_min, aFold_max, bs_size, bs_empty, Nat.zero_add, Nat.add_zero, Nat.reduceAdd, ok_load, Mem.get_set, Mem.set_set, List.getElem?_cons_zero, List.getElem?_cons_succ, Option.some.injEq, exists_eq_left', List.set_cons_zero, List.set_cons_succ, eq_self, decide_true, if_true]
    refine Ok.bnd (awake_ok ?_)
    simp -implicitDefEqProofs only [law05_SymPuts_j0, lp_some', mc_true, mc_false, ok_ret, ok_mc, ok_snap, aBin_add, aBin_sub, aBin_mul, aBin_lss, aBin_leq, aBin_gtr, aBin_geq, aBin_eql, aBin_neq, aBin_eqlStr, aBin_neqStr, strEq_bs, aBin_eqlNil, aBin_eqlNil', aBin_neqNil, aBin_neqNil', aUn_not, aUn_neg, aNil_ptr, aOff_ptr, aInt_int, aLenStr_str, aLenS_slice, aLenS_nil, aFold_min, aFold_max, bs_size, bs_empty, Nat.zero_add, Nat.add_zero, Nat.reduceAdd, ok_load, Mem.get_set, Mem.set_set, List.getElem?_cons_zero, List.getElem?_cons_succ, Option.some.injEq, exists_eq_left', List.set_cons_zero, List.set_cons_succ]
    exact hq _
  | succ k =>
    have h1 : (idx : Int) < (L.length : Int) := by omega
    have h1' : idx < L.length := by omega
    have hLi := List.getElem?_eq_getElem h1'
    obtain ⟨b, o, hix, hel⟩ := hA.at hLi
    have hwy := hw L[idx] (List.getElem_mem h1')
    generalize L[idx] = y at *
    have hlen := item_len y
    obtain ⟨l1, _⟩ := hel m hT.old
    simp -implicitDefEqProofs only [List.getD_cons_zero, List.getD_cons_succ, law05_SymPuts_l0, lp_some', mc_true, mc_false, ok_ret, ok_mc, ok_snap, aBin_add, aBin_sub, aBin_mul, aBin_lss, aBin_leq, aBin_gtr, aBin_geq, aBin_eql, aBin_neq, aBin_eqlStr, aBin_neqStr, strEq_bs, aBin_eqlNil, aBin_eqlNil', aBin_neqNil, aBin_neqNil', aUn_not, aUn_neg, aNil_ptr, aOff_ptr, aInt_int, aLenStr_str, aLenS_slice, aLenS_nil, aFold_min, aFold_max, bs_size, bs_empty, Nat.zero_add, Nat.add_zero, Nat.reduceAdd, ok_load, Mem.get_set, Mem.set_set, List.getElem?_cons_zero, List.getElem?_cons_succ, Option.some.injEq, exists_eq_left', List.set_cons_zero, List.set_cons_succ, hA.len, h1, decide_true, if_true, hix, l1]
    refine Ok.bnd (put_item_ok (y := y) hwy.2.1.2 m c a buf x _ hT.cod hT.is hx (by omega) fun m1 c1 a1 b1 g1 g2 g3 g4 => ?_)
    have hT1 := hT.setCod g1 g2 g4
    obtain ⟨l2, _⟩ := hel m1 hT1.old
    have s1 := fun (q : M AV) => same_load (sh := some 3) l1 (eqb_item y) q
    simp -implicitDefEqProofs only [lp_some', mc_true, mc_false, ok_ret, ok_mc, ok_snap, aBin_add, aBin_sub, aBin_mul, aBin_lss, aBin_leq, aBin_gtr, aBin_geq, aBin_eql, aBin_neq, aBin_eqlStr, aBin_neqStr, strEq_bs, aBin_eqlNil, aBin_eqlNil', aBin_neqNil, aBin_neqNil', aUn_not, aUn_neg, aNil_ptr, aOff_ptr, aInt_int, aLenStr_str, aLenS_slice, aLenS_nil, aFold_min, aFold_max, bs_size, bs_empty, Nat.zero_add, Nat.add_zero, Nat.reduceAdd, ok_load, Mem.get_set, Mem.set_set, List.getElem?_cons_zero, List.getElem?_cons_succ, Option.some.injEq, exists_eq_left', List.set_cons_zero, List.set_cons_succ, hix, l2, s1]
    refine Ok.bnd (rput_item_ok (y := y) hwy.2.1.2 m1 w x _ hT1.ref hx (by omega) fun m2 w2 k1 k3 k4 => ?_)
    have hT2 := hT1.setRef k1 k4
    have e9 : IntKind.i64.wrap ((idx : Int) + 1) = ((idx + 1 : Nat) : Int) := by rw [IntWalk.i64_in _ (by omega)]; rfl
    simp -implicitDefEqProofs only [lp_some', mc_true, mc_false, ok_ret, ok_mc, ok_snap, aBin_add, aBin_sub, aBin_mul, aBin_lss, aBin_leq, aBin_gtr, aBin_geq, aBin_eql, aBin_neq, aBin_eqlStr, aBin_neqStr, strEq_bs, aBin_eqlNil, aBin_eqlNil', aBin_neqNil, aBin_neqNil', aUn_not, aUn_neg, aNil_ptr, aOff_ptr, aInt_int, aLenStr_str, aLenS_slice, aLenS_nil, aFold_min, aFold_max, bs_size, bs_empty, Nat.zero_add, Nat.add_zero, Nat.reduceAdd, ok_load, Mem.get_set, Mem.set_set, List.getElem?_cons_zero, List.getElem?_cons_succ, Option.some.injEq, exists_eq_left', List.set_cons_zero, List.set_cons_succ, aBin_neqBool, beq_self_eq_true, Bool.not_true, Bool.false_eq_true, if_false, e9]
    have hxn := Iv.parts_n (y.o.getD []) x
    exact ih k _ _ (Nat.lt_succ_self _) ⟨idx + 1, _, c1, a1, b1, w2, j5, by omega, rfl, k3, by omega, hT2⟩

theorem symPuts_ok {L : List Itm} {m0 : Mem} {v : AV} (hA : ArrOf 3 itemF m0 v L) (hw : ∀ y ∈ L, Wf y) (hbn : m0.base ≤ m0.next) : Ok (R fn_law05_SymPuts [v]) m0 (fun v _ => v = .bool true) := by
  refine Ok.call (fun n => law05_SymPuts_eq rfl n _) ?_
  simp -implicitDefEqProofs only [law05_SymPuts, hA.len, lp_some', mc_true, mc_false, ok_ret, ok_mc, ok_snap, aBin_add, aBin_sub, aBin_mul, aBin_lss, aBin_leq, aBin_gtr, aBin_geq, aBin_eql, aBin_neq, aBin_eqlStr, aBin_neqStr, strEq_bs, aBin_eqlNil, aBin_eqlNil', aBin_neqNil, aBin_neqNil', aUn_not, aUn_neg, aNil_ptr, aOff_ptr, aInt_int, aLenStr_str, aLenS_slice, aLenS_nil, aFold_min, aFold_max, bs_size, bs_empty, Nat.zero_add, Nat.add_zero, Nat.reduceAdd, ok_load, Mem.get_set, Mem.set_set, List.getElem?_cons_zero, List.getElem?_cons_succ, Option.some.injEq, exists_eq_left', List.set_cons_zero, List.set_cons_succ]
  rcases Nat.lt_or_ge 40 L.length with h3 | h3
  · have h4 : (40 : Int) < (L.length : Int) := by omega
    simp -implicitDefEqProofs only [h4, decide_true, if_true]
    refine Ok.bnd (awake_ok ?_)
    simp -implicitDefEqProofs only [lp_some', mc_true, mc_false, ok_ret, ok_mc, ok_snap, aBin_add, aBin_sub, aBin_mul, aBin_lss, aBin_leq, aBin_gtr, aBin_geq, aBin_eql, aBin_neq, aBin_eqlStr, aBin_neqStr, strEq_bs, aBin_eqlNil, aBin_eqlNil', aBin_neqNil, aBin_neqNil', aUn_not, aUn_neg, aNil_ptr, aOff_ptr, aInt_int, aLenStr_str, aLenS_slice, aLenS_nil, aFold_min, aFold_max, bs_size, bs_empty, Nat.zero_add, Nat.add_zero, Nat.reduceAdd, ok_load, Mem.get_set, Mem.set_set, List.getElem?_cons_zero, List.getElem?_cons_succ, Option.some.injEq, exists_eq_left', List.set_cons_zero, List.set_cons_succ]
  · have h4 : ¬ (40 : Int) < (L.length : Int) := by omega
    have f1 : (aFill (fun i => [(0, 2), (2, 2), (4, 1), (5, 1), (6, 1)][i]?) [.bool false, .int .u64 0, .nilptr, .nilslice, .int .u64 0, .int .i64 0, .int .i64 0] []).map AV.agg = some (.agg [.bool false, .int .u64 0, .nilptr, .nilslice, .int .u64 0, .int .i64 0, .int .i64 0]) := rfl
    have f2 : (aFill (fun i => [(0, 1), (1, 1), (2, 1)][i]?) [.nilslice, .int .i64 0, .int .i64 0] []).map AV.agg = some (.agg [.nilslice, .int .i64 0, .int .i64 0]) := rfl
    simp -implicitDefEqProofs only [h4, decide_false, Bool.false_eq_true, if_false, f1, f2, lp_some', ok_box]
    have hc := codNew_ok hbn
    have ho2 := (Old.refl m0).alloc hbn (.cells T_rc_Coder 0 [.bool false, .int .u64 0, .nilptr, .nilslice, .int .u64 0, .int .i64 0, .int .i64 0])
    have hnx2 : (m0.alloc (.cells T_rc_Coder 0 [.bool false, .int .u64 0, .nilptr, .nilslice, .int .u64 0, .int .i64 0, .int .i64 0])).next = m0.next + 1 := rfl
    have hb2 : (m0.alloc (.cells T_rc_Coder 0 [.bool false, .int .u64 0, .nilptr, .nilslice, .int .u64 0, .int .i64 0, .int .i64 0])).base ≤ (m0.alloc (.cells T_rc_Coder 0 [.bool false, .int .u64 0, .nilptr, .nilslice, .int .u64 0, .int .i64 0, .int .i64 0])).next := Nat.le_succ_of_le hbn
    generalize m0.alloc (.cells T_rc_Coder 0 [.bool false, .int .u64 0, .nilptr, .nilslice, .int .u64 0, .int .i64 0, .int .i64 0]) = m2 at *
    have hr := refNew_ok hb2
    have hch3 := Chg.alloc (fun _ => False) m2 (.cells T_ref04_Coder 0 [.nilslice, .int .i64 0, .int .i64 0])
    have ho3 := ho2.alloc hb2 (.cells T_ref04_Coder 0 [.nilslice, .int .i64 0, .int .i64 0])
    have hnx3 : (m2.alloc (.cells T_ref04_Coder 0 [.nilslice, .int .i64 0, .int .i64 0])).next = m2.next + 1 := rfl
    have hb3 : (m2.alloc (.cells T_ref04_Coder 0 [.nilslice, .int .i64 0, .int .i64 0])).base ≤ (m2.alloc (.cells T_ref04_Coder 0 [.nilslice, .int .i64 0, .int .i64 0])).next := Nat.le_succ_of_le hb2
    generalize m2.alloc (.cells T_ref04_Coder 0 [.nilslice, .int .i64 0, .int .i64 0]) = m3 at *
    refine puts_loop hA h3 hw (fun _ => rfl) (K := fun _ => False) (X := fun _ => .dead) ⟨ho3, hb3, fun b hb => hb.elim, CodAt.chg hc hch3 id (fun _ _ => id), start_is, hr, ?_, fun b _ h => h, fun b _ h => h⟩
    intro b h1 h2
    rcases h1 with h1 | h1
    · rcases h2 with h2 | h2
      · omega
      · exact h2.elim
    · exact h1.elim

/-! the argument -/
def itemG (y : Itm) : List Value := [.int .i64 y.k, .int .i64 y.v, .int .i64 y.n]
theorem items_of {H : Type} {enc : TypeId × Value → H} {P : Program} {W : World} {t e : TypeId} {fs : Array Field} {v : Value} {d : DataW H} {ps : List MemPlace} (ht : P.underlying t = some (.slice e)) (he : P.underlying e = some (.struct fs)) (hok : intsOk P 0 fs.toList = true) (hfs : fs.toList.length = 3) (hce : P.cellsOf e = 3)
    (hna : ∀ cs, v ≠ .agg cs) (h : DataW.Trod enc P W 0 (fun _ => true) true t v d ps) : ∃ L : List Itm, ArrOf 3 itemF (mirror W) (conv W.heap.size v) L ∧ ∀ y ∈ L, Wf y := by
  have := arrOf_of (α := Itm) (g := itemG) (wf := Wf) ht (by omega) (fun fuel cs x hx => by
    obtain ⟨xs, h1, h2, h3⟩ := trod_ints he hok (by omega) (by omega) hx
    rw [hfs] at h1
    match xs, h1 with
    | [a, b, c], _ => exact ⟨⟨a, b, c⟩, by simpa [itemG] using h2, h3 a (by simp), h3 b (by simp), h3 c (by simp)⟩) (fun y _ => by rw [hce]; rfl) hna h
  rw [hce] at this
  exact this
end SplA
