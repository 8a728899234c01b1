/- The coders' ends; the document's coder. -/
import Derived.Test.YtooogfnmhfocjaaGreatDoorSplCod
import Derived.Test.YtooogfnmhfocjaaGreatDoorSplBit
namespace SplA
open Go.Proofs.YtooogfnmhfocjaaGreatDoor.Spl Go Go.Proofs
set_option maxRecDepth 100000
set_option linter.unusedVariables false
set_option linter.unusedSimpArgs false

theorem dig4 (v : Nat) : dig 4 v = [UInt8.ofNat (v / 16777216), UInt8.ofNat (v / 65536), UInt8.ofNat (v / 256), UInt8.ofNat v] := by
  simp -implicitDefEqProofs only [dig, Nat.div_div_eq_div_mul]
  rfl
theorem u8_u64 (n : Nat) : AV.int .u8 (IntKind.u8.wrap (n : Int)) = .int .u8 (UInt8.ofNat n).toNat := u8_ofNat n
/-- The octets of an interval. -/
theorem ends_eq (x : Iv) : x.ends = trim (dig x.n (x.V / 4294967296) ++ dig 4 (x.V % 4294967296)) := by
  rw [Iv.ends]
  have := dig_add 4 x.n (x.V / 4294967296) (x.V % 4294967296) (Nat.mod_lt _ (by decide))
  rw [show (256 : Nat) ^ 4 = 4294967296 by decide, show x.V / 4294967296 * 4294967296 + x.V % 4294967296 = x.V by omega] at this
  rw [this]

variable {T : Nat} {rest : List AV}
abbrev BldAt (m : Mem) (ib : Nat) (a buf : AV) (L : List UInt8) : Prop := BAt m ib 0 T_strings_Builder [a, buf] a buf L
theorem BAt.chg {F : Nat → Prop} {m m' : Mem} {i o T : Nat} {cs : List AV} {a buf : AV} {L : List UInt8} (h : BAt m i o T cs a buf L) (hc : Chg F m m') (hi : ¬ F i) (hF : ∀ b, own buf b → ¬ F b) : BAt m' i o T cs a buf L := by
  obtain ⟨fz, hB⟩ := h.buf
  exact ⟨(hc.get i h.next hi).trans h.get, by rw [hc.base]; exact h.base, Nat.lt_of_lt_of_le h.next hc.next, h.at0, h.self, h.at1, ⟨fz, hB.chg hc hF⟩, h.ne, h.lies⟩

/-- While a builder of the call's own is filled: what was there before stays, but for F. -/
structure Own (F : Nat → Prop) (m0 : Mem) (ib : Nat) (buf : AV) (m : Mem) : Prop where
  chg : Chg F m0 m
  ib : m0.next ≤ ib
  buf : ∀ j, own buf j → m0.next ≤ j
theorem Own.step {F : Nat → Prop} {m0 m m' : Mem} {ib : Nat} {buf buf' : AV} (h : Own F m0 ib buf m) (hc : Chg (fun b => b = ib ∨ own buf b) m m') (ho : ∀ j, own buf' j → own buf j ∨ m.next ≤ j) : Own F m0 ib buf' m' where
  chg := h.chg.trans hc (fun i hi hG => by
    rcases hG with hG | hG
    · have := h.ib; omega
    · have := h.buf i hG; omega)
  ib := h.ib
  buf := fun j hj => by
    rcases ho j hj with h1 | h1
    · exact h.buf j h1
    · exact Nat.le_trans h.chg.next h1
/-- A coder that was there before. -/
structure Apart (m0 : Mem) (i : Nat) (buf : AV) : Prop where
  i : i < m0.next
  buf : ∀ b, own buf b → b < m0.next
theorem CodAt.apart {m0 : Mem} {i : Nat} {c : Cst} {a buf : AV} (h : CodAt m0 i c a buf) : Apart m0 i buf :=
  ⟨h.next, fun b hb => by obtain ⟨fz, hB⟩ := h.buf; exact (hB.own hb).2⟩
theorem CodAt.other {F : Nat → Prop} {m0 m m' : Mem} {i ib : Nat} {c : Cst} {a buf buf1 : AV} (h : CodAt m i c a buf) (hA : Apart m0 i buf) (ho : Own F m0 ib buf1 m) (hc : Chg (fun b => b = ib ∨ own buf1 b) m m') : CodAt m' i c a buf :=
  CodAt.chg h hc (fun hG => by
    have := hA.i
    rcases hG with hG | hG
    · have := ho.ib; omega
    · have := ho.buf _ hG; omega) (fun b hb hG => by
    have := hA.buf b hb
    rcases hG with hG | hG
    · have := ho.ib; omega
    · have := ho.buf _ hG; omega)

theorem end_low {F : Nat → Prop} {i : Nat} {c : Cst} {a buf : AV} {m0 : Mem} {Q : AV → Mem → Prop} (hA : Apart m0 i buf) (hlow : c.low < 4294967296) {D : List UInt8} (hD : D.length ≤ 2 ^ 40)
    (hq : ∀ m', CodAt m' i c a buf → Chg F m0 m' → Q (.str (bs (trim (D ++ dig 4 c.low)))) m') {ib : Nat} {a1 buf1 : AV} {m : Mem} (h : CodAt m i c a buf) (hB : BldAt m ib a1 buf1 D) (ho : Own F m0 ib buf1 m) :
    Ok (fun n => loopN (fun r l => rc_Coder_End_l1 (fcall Tryz.prog ext1 n) n r (l.getD 0 .undef) (l.getD 1 .undef) (l.getD 2 .undef)) n [.ptr i 0, .ptr ib 0, .int .i64 24]) m Q := by
  refine Ok.loop (fun k l m => ∃ j, j + k = 4 ∧ l = [.ptr i 0, .ptr ib 0, .int .i64 (24 - 8 * (j : Int))] ∧ ∃ a1 buf1, CodAt m i c a buf ∧ BldAt m ib a1 buf1 (D ++ (dig 4 c.low).take j) ∧ Own F m0 ib buf1 m) ?_ (k := 4) ⟨0, rfl, rfl, a1, buf1, h, by simpa using hB, ho⟩
  clear h hB ho
  rintro k l m rec ⟨j, hj, rfl, a1, buf1, hc, hB, ho⟩ ih
  have hg := hc.get
  have hn : m.base ≤ m.next := by have := hc.base; have := hc.next; omega
  simp -implicitDefEqProofs only [codCells] at hg
  simp -implicitDefEqProofs only [List.getD_cons_zero, List.getD_cons_succ, rc_Coder_End_l1, lp_some', mc_true, mc_false, ok_ret, ok_mc, ok_snap, aBin_add, aBin_sub, aBin_mul, aBin_lss, aBin_leq, aBin_gtr, aBin_geq, aBin_eql, aBin_neq, aBin_eqlStr, aBin_neqStr, strEq_bs, aBin_eqlNil, aBin_eqlNil', aBin_neqNil, aBin_neqNil', aUn_not, aUn_neg, aNil_ptr, aOff_ptr, aInt_int, aLenStr_str, aLenS_slice, aLenS_nil, aFold_min, aFold_max, bs_size, bs_empty, Nat.zero_add, Nat.add_zero, Nat.reduceAdd, ok_load, Mem.get_set, Mem.set_set, List.getElem?_cons_zero, List.getElem?_cons_succ, Option.some.injEq, exists_eq_left', List.set_cons_zero, List.set_cons_succ]
  cases k with
  | zero =>
    have e : j = 4 := by omega
    subst e
    have h1 : ¬ (0 : Int) ≤ 24 - 8 * ((4 : Nat) : Int) := by decide
    have e2 : (dig 4 c.low).take 4 = dig 4 c.low := List.take_of_length_le (by simp [dig_length])
    simp -implicitDefEqProofs only [h1, decide_false, Bool.false_eq_true, if_false]
    rw [e2] at hB
    have hl : (D ++ dig 4 c.low).length ≤ 2 ^ 41 := by simp [dig_length]; omega
    refine Ok.bnd (bldString_ok hB (by omega) fun m1 hc1 hB1 _ => ?_)
    refine Ok.bnd (trimRight_ok _ (by omega) ?_)
    simp -implicitDefEqProofs only [lp_some', mc_true, mc_false, ok_ret, ok_mc, ok_snap, aBin_add, aBin_sub, aBin_mul, aBin_lss, aBin_leq, aBin_gtr, aBin_geq, aBin_eql, aBin_neq, aBin_eqlStr, aBin_neqStr, strEq_bs, aBin_eqlNil, aBin_eqlNil', aBin_neqNil, aBin_neqNil', aUn_not, aUn_neg, aNil_ptr, aOff_ptr, aInt_int, aLenStr_str, aLenS_slice, aLenS_nil, aFold_min, aFold_max, bs_size, bs_empty, Nat.zero_add, Nat.add_zero, Nat.reduceAdd, ok_load, Mem.get_set, Mem.set_set, List.getElem?_cons_zero, List.getElem?_cons_succ, Option.some.injEq, exists_eq_left', List.set_cons_zero, List.set_cons_succ]
    have hc1' : Chg (fun b => b = ib ∨ own buf1 b) m m1 := hc1.mono fun _ _ h => .inr h
    exact hq m1 (hc.other hA ho hc1') (ho.step hc1' (fun _ h => .inl h)).chg
  | succ k =>
    have h1 : (0 : Int) ≤ 24 - 8 * (j : Int) := by omega
    have e1 : aBin .shr [] (.int .u64 c.low) (.int .i64 (24 - 8 * (j : Int))) = some (.int .u64 ((c.low / 2 ^ (24 - 8 * j) : Nat) : Int)) := by
      have := aBin_shr_nat .u64 .i64 [] c.low (24 - 8 * j) (by show _ ≤ 64; omega)
      rw [show ((24 - 8 * j : Nat) : Int) = 24 - 8 * (j : Int) by omega] at this
      exact this
    have e3 : IntKind.i64.wrap (24 - 8 * (j : Int) - 8) = 24 - 8 * ((j + 1 : Nat) : Int) := by rw [IntWalk.i64_in _ (by omega)]; omega
    simp -implicitDefEqProofs only [h1, decide_true, if_true, lp_some', mc_true, mc_false, ok_ret, ok_mc, ok_snap, aBin_add, aBin_sub, aBin_mul, aBin_lss, aBin_leq, aBin_gtr, aBin_geq, aBin_eql, aBin_neq, aBin_eqlStr, aBin_neqStr, strEq_bs, aBin_eqlNil, aBin_eqlNil', aBin_neqNil, aBin_neqNil', aUn_not, aUn_neg, aNil_ptr, aOff_ptr, aInt_int, aLenStr_str, aLenS_slice, aLenS_nil, aFold_min, aFold_max, bs_size, bs_empty, Nat.zero_add, Nat.add_zero, Nat.reduceAdd, ok_load, Mem.get_set, Mem.set_set, List.getElem?_cons_zero, List.getElem?_cons_succ, Option.some.injEq, exists_eq_left', List.set_cons_zero, List.set_cons_succ, load_at hg, e1, u8_ofNat]
    refine Ok.bnd (writeByte_ok hB hn (by simp [dig_length]; omega) fun m1 buf2 hc1 hB1 hown hn1 => ?_)
    simp -implicitDefEqProofs only [lp_some', mc_true, mc_false, ok_ret, ok_mc, ok_snap, aBin_add, aBin_sub, aBin_mul, aBin_lss, aBin_leq, aBin_gtr, aBin_geq, aBin_eql, aBin_neq, aBin_eqlStr, aBin_neqStr, strEq_bs, aBin_eqlNil, aBin_eqlNil', aBin_neqNil, aBin_neqNil', aUn_not, aUn_neg, aNil_ptr, aOff_ptr, aInt_int, aLenStr_str, aLenS_slice, aLenS_nil, aFold_min, aFold_max, bs_size, bs_empty, Nat.zero_add, Nat.add_zero, Nat.reduceAdd, ok_load, Mem.get_set, Mem.set_set, List.getElem?_cons_zero, List.getElem?_cons_succ, Option.some.injEq, exists_eq_left', List.set_cons_zero, List.set_cons_succ, e3]
    refine ih k _ _ (Nat.lt_succ_self _) ⟨j + 1, by omega, rfl, .ptr ib 0, buf2, hc.other hA ho hc1, ?_, ho.step hc1 hown⟩
    have e4 : D ++ (dig 4 c.low).take (j + 1) = D ++ (dig 4 c.low).take j ++ [UInt8.ofNat (c.low / 2 ^ (24 - 8 * j))] := by
      rw [dig4]
      have hj' : j = 0 ∨ j = 1 ∨ j = 2 ∨ j = 3 := by omega
      rcases hj' with rfl | rfl | rfl | rfl <;> simp
    rw [e4]
    exact hB1

theorem end_full {F : Nat → Prop} {i : Nat} {c : Cst} {a buf : AV} {m0 : Mem} {Q : AV → Mem → Prop} (hA : Apart m0 i buf) (hlow : c.low < 4294967296) {D : List UInt8} (hD : D.length + c.full ≤ 2 ^ 40)
    (hq : ∀ m', CodAt m' i c a buf → Chg F m0 m' → Q (.str (bs (trim (D ++ List.replicate c.full 255 ++ dig 4 c.low)))) m') {ib : Nat} {a1 buf1 : AV} {m : Mem} (h : CodAt m i c a buf) (hB : BldAt m ib a1 buf1 D) (ho : Own F m0 ib buf1 m) :
    Ok (fun n => rc_Coder_End_j0 (fcall Tryz.prog ext1 n) n (.ptr i 0) (.ptr ib 0)) m Q := by
  have hg := h.get
  simp -implicitDefEqProofs only [codCells] at hg
  simp -implicitDefEqProofs only [rc_Coder_End_j0, lp_some', mc_true, mc_false, ok_ret, ok_mc, ok_snap, aBin_add, aBin_sub, aBin_mul, aBin_lss, aBin_leq, aBin_gtr, aBin_geq, aBin_eql, aBin_neq, aBin_eqlStr, aBin_neqStr, strEq_bs, aBin_eqlNil, aBin_eqlNil', aBin_neqNil, aBin_neqNil', aUn_not, aUn_neg, aNil_ptr, aOff_ptr, aInt_int, aLenStr_str, aLenS_slice, aLenS_nil, aFold_min, aFold_max, bs_size, bs_empty, Nat.zero_add, Nat.add_zero, Nat.reduceAdd, ok_load, Mem.get_set, Mem.set_set, List.getElem?_cons_zero, List.getElem?_cons_succ, Option.some.injEq, exists_eq_left', List.set_cons_zero, List.set_cons_succ, load_at hg]
  refine Ok.loop (fun k l m => ∃ j, j + k = c.full ∧ l = [.ptr i 0, .ptr ib 0, .int .i64 c.full, .int .i64 j] ∧ ∃ a1 buf1, CodAt m i c a buf ∧ BldAt m ib a1 buf1 (D ++ List.replicate j 255) ∧ Own F m0 ib buf1 m) ?_ (k := c.full) ⟨0, by omega, rfl, a1, buf1, h, by simpa using hB, ho⟩
  clear h hB ho hg
  rintro k l m rec ⟨j, hj, rfl, a1, buf1, hc, hB, ho⟩ ih
  have hn : m.base ≤ m.next := by have := hB.base; have := hB.next; omega
  simp -implicitDefEqProofs only [List.getD_cons_zero, List.getD_cons_succ, rc_Coder_End_l0, lp_some', mc_true, mc_false, ok_ret, ok_mc, ok_snap, aBin_add, aBin_sub, aBin_mul, aBin_lss, aBin_leq, aBin_gtr, aBin_geq, aBin_eql, aBin_neq, aBin_eqlStr, aBin_neqStr, strEq_bs, aBin_eqlNil, aBin_eqlNil', aBin_neqNil, aBin_neqNil', aUn_not, aUn_neg, aNil_ptr, aOff_ptr, aInt_int, aLenStr_str, aLenS_slice, aLenS_nil, aFold_min, aFold_max, bs_size, bs_empty, Nat.zero_add, Nat.add_zero, Nat.reduceAdd, ok_load, Mem.get_set, Mem.set_set, List.getElem?_cons_zero, List.getElem?_cons_succ, Option.some.injEq, exists_eq_left', List.set_cons_zero, List.set_cons_succ]
  cases k with
  | zero =>
    have e : j = c.full := by omega
    subst e
    simp -implicitDefEqProofs only [Int.lt_irrefl, decide_false, Bool.false_eq_true, if_false]
    exact end_low hA hlow (by simp; omega) hq hc hB ho
  | succ k =>
    have h1 : (j : Int) < (c.full : Int) := by omega
    have e3 : IntKind.i64.wrap ((j : Int) + 1) = ((j + 1 : Nat) : Int) := by rw [IntWalk.i64_in _ (by omega)]; omega
    simp -implicitDefEqProofs only [h1, decide_true, if_true]
    refine Ok.bnd (writeByte_ok (b := 255) hB hn (by simp; omega) fun m1 buf2 hc1 hB1 hown hn1 => ?_)
    simp -implicitDefEqProofs only [lp_some', mc_true, mc_false, ok_ret, ok_mc, ok_snap, aBin_add, aBin_sub, aBin_mul, aBin_lss, aBin_leq, aBin_gtr, aBin_geq, aBin_eql, aBin_neq, aBin_eqlStr, aBin_neqStr, strEq_bs, aBin_eqlNil, aBin_eqlNil', aBin_neqNil, aBin_neqNil', aUn_not, aUn_neg, aNil_ptr, aOff_ptr, aInt_int, aLenStr_str, aLenS_slice, aLenS_nil, aFold_min, aFold_max, bs_size, bs_empty, Nat.zero_add, Nat.add_zero, Nat.reduceAdd, ok_load, Mem.get_set, Mem.set_set, List.getElem?_cons_zero, List.getElem?_cons_succ, Option.some.injEq, exists_eq_left', List.set_cons_zero, List.set_cons_succ, e3]
    refine ih k _ _ (Nat.lt_succ_self _) ⟨j + 1, by omega, rfl, .ptr ib 0, buf2, hc.other hA ho hc1, ?_, ho.step hc1 hown⟩
    rw [List.replicate_succ', ← List.append_assoc]
    exact hB1

/-- End. -/
theorem end_ok {i : Nat} {c : Cst} {x : Iv} {a buf : AV} {m : Mem} {Q : AV → Mem → Prop} (h : CodAt m i c a buf) (hI : c.Is T rest x) (hn : x.n < 2 ^ 39)
    (hq : ∀ m', CodAt m' i c a buf → Chg (own buf) m m' → Q (.str (bs x.ends)) m') : Ok (R fn_rc_Coder_End [.ptr i 0]) m Q := by
  refine Ok.call (fun n => rc_Coder_End_eq rfl n _) ?_
  have hlen := hI.len
  have hA := CodAt.apart h
  have hbn : m.base ≤ m.next := by have := h.base; have := h.next; omega
  rw [ends_eq, hI.dig, ← hI.low] at hq
  simp -implicitDefEqProofs only [rc_Coder_End, lp_some', mc_true, mc_false, ok_ret, ok_mc, ok_snap, aBin_add, aBin_sub, aBin_mul, aBin_lss, aBin_leq, aBin_gtr, aBin_geq, aBin_eql, aBin_neq, aBin_eqlStr, aBin_neqStr, strEq_bs, aBin_eqlNil, aBin_eqlNil', aBin_neqNil, aBin_neqNil', aUn_not, aUn_neg, aNil_ptr, aOff_ptr, aInt_int, aLenStr_str, aLenS_slice, aLenS_nil, aFold_min, aFold_max, bs_size, bs_empty, Nat.zero_add, Nat.add_zero, Nat.reduceAdd, ok_load, Mem.get_set, Mem.set_set, List.getElem?_cons_zero, List.getElem?_cons_succ, Option.some.injEq, exists_eq_left', List.set_cons_zero, List.set_cons_succ, Bool.false_eq_true, if_false, ok_alloc]
  have hca : Chg (own buf) m (m.alloc (.cells T_strings_Builder 0 [.nilptr, .nilslice])) := Chg.alloc _ _ _
  have hc1 := CodAt.chg h (Chg.alloc (fun _ => False) m (.cells T_strings_Builder 0 [.nilptr, .nilslice])) id (fun _ _ => id)
  have hB1 : BldAt (m.alloc (.cells T_strings_Builder 0 [.nilptr, .nilslice])) m.next .nilptr .nilslice [] :=
    ⟨Mem.get_alloc _ _, hbn, Nat.lt_succ_self _, rfl, .inl rfl, rfl, ⟨0, .inl ⟨rfl, rfl⟩⟩, id, bld_lies _ _⟩
  have hbn1 : (m.alloc (.cells T_strings_Builder 0 [.nilptr, .nilslice])).base ≤ (m.alloc (.cells T_strings_Builder 0 [.nilptr, .nilslice])).next := Nat.le_succ_of_le hbn
  generalize m.alloc (.cells T_strings_Builder 0 [.nilptr, .nilslice]) = m1 at *
  refine Ok.bnd (bldString_ok hc1 (by omega) fun m2 hch2 hc2 hnx2 => ?_)
  have hB2 : BldAt m2 m.next .nilptr .nilslice [] := BAt.chg hB1 hch2 (fun hb => by have := hA.buf _ hb; omega) (fun b hb => hb.elim)
  have hbn2 : m2.base ≤ m2.next := by rw [hch2.base, hnx2]; exact hbn1
  have hO2 : Own (own buf) m m.next .nilslice m2 := ⟨hca.trans hch2 (fun b _ hG => hG), Nat.le_refl _, fun j hj => hj.elim⟩
  refine Ok.bnd (writeString_ok hB2 hbn2 (by simp; omega) fun m3 buf3 hch3 hB3 hown3 hbn3 => ?_)
  have hc3 := CodAt.other hc2 hA hO2 hch3
  have hO3 := hO2.step hch3 hown3
  have hg3 := hc3.get
  simp -implicitDefEqProofs only [codCells] at hg3
  simp -implicitDefEqProofs only [lp_some', mc_true, mc_false, ok_ret, ok_mc, ok_snap, aBin_add, aBin_sub, aBin_mul, aBin_lss, aBin_leq, aBin_gtr, aBin_geq, aBin_eql, aBin_neq, aBin_eqlStr, aBin_neqStr, strEq_bs, aBin_eqlNil, aBin_eqlNil', aBin_neqNil, aBin_neqNil', aUn_not, aUn_neg, aNil_ptr, aOff_ptr, aInt_int, aLenStr_str, aLenS_slice, aLenS_nil, aFold_min, aFold_max, bs_size, bs_empty, Nat.zero_add, Nat.add_zero, Nat.reduceAdd, ok_load, Mem.get_set, Mem.set_set, List.getElem?_cons_zero, List.getElem?_cons_succ, Option.some.injEq, exists_eq_left', List.set_cons_zero, List.set_cons_succ, load_at hg3]
  have hB3' : BldAt m3 m.next (.ptr m.next 0) buf3 c.O := hB3
  have hlow := hI.lt
  cases hlast : c.last with
  | zero =>
    rw [hlast, lastL, List.append_nil] at hq
    simp -implicitDefEqProofs only [Int.natCast_zero, Int.lt_irrefl, decide_false, Bool.false_eq_true, if_false]
    exact end_full hA hlow (by omega) hq hc3 hB3' hO3
  | succ b =>
    rw [hlast, lastL] at hq
    have hl := hI.last
    have hf : (0 : Int) < ((b + 1 : Nat) : Int) := by omega
    have e0 : IntKind.i64.wrap (((b + 1 : Nat) : Int) - 1) = (b : Int) := by rw [IntWalk.i64_in _ (by omega)]; omega
    simp -implicitDefEqProofs only [hf, decide_true, if_true, lp_some', mc_true, mc_false, ok_ret, ok_mc, ok_snap, aBin_add, aBin_sub, aBin_mul, aBin_lss, aBin_leq, aBin_gtr, aBin_geq, aBin_eql, aBin_neq, aBin_eqlStr, aBin_neqStr, strEq_bs, aBin_eqlNil, aBin_eqlNil', aBin_neqNil, aBin_neqNil', aUn_not, aUn_neg, aNil_ptr, aOff_ptr, aInt_int, aLenStr_str, aLenS_slice, aLenS_nil, aFold_min, aFold_max, bs_size, bs_empty, Nat.zero_add, Nat.add_zero, Nat.reduceAdd, ok_load, Mem.get_set, Mem.set_set, List.getElem?_cons_zero, List.getElem?_cons_succ, Option.some.injEq, exists_eq_left', List.set_cons_zero, List.set_cons_succ, e0, u8_ofNat]
    refine Ok.bnd (writeByte_ok hB3' hbn3 (by omega) fun m4 buf4 hch4 hB4 hown4 hbn4 => ?_)
    have hc4 := CodAt.other hc3 hA hO3 hch4
    exact end_full hA hlow (by simp; omega) hq hc4 hB4 (hO3.step hch4 hown4)

/-! the document's coder -/

def ints (l : List UInt8) : List AV := l.map fun b => .int .i64 b.toNat
theorem ints_length (l : List UInt8) : (ints l).length = l.length := by simp [ints]
theorem ints_append (a b : List UInt8) : ints (a ++ b) = ints a ++ ints b := by simp [ints]
theorem ints_one (l : List UInt8) : (ints l).all AV.one = true := by simp [ints, AV.one]
theorem ints_get (l : List UInt8) (k : Nat) : (ints l)[k]? = (l[k]?).map fun b => .int .i64 b.toNat := by simp [ints]

/-- The document's coder, of an interval. -/
structure RefAt (m : Mem) (i : Nat) (x : Iv) (v : AV) (le : Int) : Prop where
  get : m.get i = .cells T_ref04_Coder 0 [v, .int .i64 (x.V % 4294967296 : Nat), .int .i64 le]
  base : m.base ≤ i
  next : i < m.next
  buf : Buf T_int 0 m v (ints (dig x.n (x.V / 4294967296)))
  ne : ¬ own v i
theorem RefAt.chg {F : Nat → Prop} {m m' : Mem} {i : Nat} {x : Iv} {v : AV} {le : Int} (h : RefAt m i x v le) (hc : Chg F m m') (hi : ¬ F i) (hF : ∀ b, own v b → ¬ F b) : RefAt m' i x v le :=
  ⟨(hc.get i h.next hi).trans h.get, by rw [hc.base]; exact h.base, Nat.lt_of_lt_of_le h.next hc.next, h.buf.chg hc hF, h.ne⟩

theorem rnarrow_ok {r lo hi t : Nat} {m : Mem} {Q : AV → Mem → Prop} (hr : r ≤ 4294967295) (hp : lo < hi ∧ hi ≤ t ∧ t ≤ 65536) (hq : Q (.int .i64 (partOf r lo hi t)) m) : Ok (R fn_ref04_narrow [.int .i64 r, .int .i64 lo, .int .i64 hi, .int .i64 t]) m Q :=
  ref_narrow_ok hr hp hq
theorem rright_ok {lo hi t : Int} {m : Mem} {Q : AV → Mem → Prop} (hq : Q (.bool (decide (0 ≤ lo ∧ lo < hi ∧ hi ≤ t ∧ t ≤ 65536))) m) : Ok (R fn_ref04_Right [.int .i64 lo, .int .i64 hi, .int .i64 t]) m Q :=
  ref_right_ok hq

/-- One carried, by the document. -/
theorem carried_ok {v : AV} {n w : Nat} {m : Mem} {Q : AV → Mem → Prop} (hB : Buf T_int 0 m v (ints (dig n w))) (hn : m.base ≤ m.next) (hw : w + 1 < 256 ^ n) (hlen : n < 2 ^ 39)
    (hq : ∀ m' v', Chg (fun _ => False) m m' → Buf T_int 0 m' v' (ints (dig n (w + 1))) → (∀ j, own v' j → m.next ≤ j) → Q v' m') : Ok (R fn_ref04_carried [v]) m Q := by
  refine Ok.call (fun n => ref04_carried_eq rfl n _) ?_
  have hl : (dig n w).length = n := dig_length n w
  have hn0 : 0 < n := by
    rcases n with _ | n
    · simp at hw
    · omega
  simp -implicitDefEqProofs only [ref04_carried]
  refine ok_append (T := T_int) (fz := 0) (v := .nilslice) (cs := []) (X := ints (dig n w)) (.inl ⟨rfl, rfl⟩) hn hB.elems (ints_one _) (by simp [ints_length, hl]; omega) fun m1 v1 hc ⟨fz', hf, hB1⟩ _ hown hn1 => ?_
  obtain rfl : fz' = 0 := by omega
  have hX : ints (dig n w) ≠ [] := fun e => by have := congrArg List.length e; simp [ints_length, hl] at this; omega
  have hown := hown hX
  rw [List.nil_append] at hB1
  have hc0 : Chg (fun _ => False) m m1 := hc
  have e0 : IntKind.i64.wrap (((ints (dig n w)).length : Int) - 1) = (n : Int) - 1 := by rw [IntWalk.i64_in _ (by simp [ints_length, hl]; omega)]; simp [ints_length, hl]
  simp -implicitDefEqProofs only [lp_some', mc_true, mc_false, ok_ret, ok_mc, ok_snap, aBin_add, aBin_sub, aBin_mul, aBin_lss, aBin_leq, aBin_gtr, aBin_geq, aBin_eql, aBin_neq, aBin_eqlStr, aBin_neqStr, strEq_bs, aBin_eqlNil, aBin_eqlNil', aBin_neqNil, aBin_neqNil', aUn_not, aUn_neg, aNil_ptr, aOff_ptr, aInt_int, aLenStr_str, aLenS_slice, aLenS_nil, aFold_min, aFold_max, bs_size, bs_empty, Nat.zero_add, Nat.add_zero, Nat.reduceAdd, ok_load, Mem.get_set, Mem.set_set, List.getElem?_cons_zero, List.getElem?_cons_succ, Option.some.injEq, exists_eq_left', List.set_cons_zero, List.set_cons_succ, hB1.len, e0]
  refine Ok.loop (fun k l m2 => ∃ f, k + f = n ∧ l = [v1, .int .i64 ((n : Int) - 1 - f)] ∧ ∃ P, P.length = k ∧ dig n w = P ++ List.replicate f 255 ∧ Chg (fun _ => False) m m2 ∧ Buf T_int 0 m2 v1 (ints (P ++ List.replicate f 0))) ?_ (k := n) ⟨0, rfl, by simp, dig n w, hl, by simp, hc0, by simpa using hB1⟩
  rintro k l m2 rec ⟨f, hk, rfl, P, hP, hd, hc2, hB2⟩ ih
  simp -implicitDefEqProofs only [List.getD_cons_zero, List.getD_cons_succ, ref04_carried_l0, lp_some', mc_true, mc_false, ok_ret, ok_mc, ok_snap, aBin_add, aBin_sub, aBin_mul, aBin_lss, aBin_leq, aBin_gtr, aBin_geq, aBin_eql, aBin_neq, aBin_eqlStr, aBin_neqStr, strEq_bs, aBin_eqlNil, aBin_eqlNil', aBin_neqNil, aBin_neqNil', aUn_not, aUn_neg, aNil_ptr, aOff_ptr, aInt_int, aLenStr_str, aLenS_slice, aLenS_nil, aFold_min, aFold_max, bs_size, bs_empty, Nat.zero_add, Nat.add_zero, Nat.reduceAdd, ok_load, Mem.get_set, Mem.set_set, List.getElem?_cons_zero, List.getElem?_cons_succ, Option.some.injEq, exists_eq_left', List.set_cons_zero, List.set_cons_succ]
  cases k with
  | zero =>
    have : P = [] := List.length_eq_zero_iff.1 hP
    subst this
    have e : f = n := by omega
    subst e
    have hv : w < 256 ^ f := by omega
    have := dig_full f w (by simpa using hd) hv
    omega
  | succ k =>
    obtain ⟨P', b, rfl⟩ : ∃ P' b, P = P' ++ [b] := by
      rcases List.eq_nil_or_concat P with e | ⟨P', b, e⟩
      · subst e; simp at hP
      · exact ⟨P', b, by rw [e, List.concat_eq_append]⟩
    have hP' : P'.length = k := by simpa using hP
    have h1 : (0 : Int) ≤ (n : Int) - 1 - f := by omega
    have ei : (n : Int) - 1 - f = ((k : Nat) : Int) := by omega
    obtain ⟨j, hix, hgj, hbj, hnj, hoj⟩ := hB2.idx (k := k) (kd := .i64) (by simp [ints_length]; omega)
    have hcell : (ints (P' ++ [b] ++ List.replicate f 0))[k]? = some (.int .i64 b.toNat) := by
      rw [ints_get, List.append_assoc, List.getElem?_append_right (by omega), hP', Nat.sub_self]; rfl
    have hlt : k < (ints (P' ++ [b] ++ List.replicate f 0)).length := by simp [ints_length]; omega
    simp -implicitDefEqProofs only [ei, Int.natCast_nonneg, decide_true, if_true, lp_some', mc_true, mc_false, ok_ret, ok_mc, ok_snap, aBin_add, aBin_sub, aBin_mul, aBin_lss, aBin_leq, aBin_gtr, aBin_geq, aBin_eql, aBin_neq, aBin_eqlStr, aBin_neqStr, strEq_bs, aBin_eqlNil, aBin_eqlNil', aBin_neqNil, aBin_neqNil', aUn_not, aUn_neg, aNil_ptr, aOff_ptr, aInt_int, aLenStr_str, aLenS_slice, aLenS_nil, aFold_min, aFold_max, bs_size, bs_empty, Nat.zero_add, Nat.add_zero, Nat.reduceAdd, ok_load, Mem.get_set, Mem.set_set, List.getElem?_cons_zero, List.getElem?_cons_succ, Option.some.injEq, exists_eq_left', List.set_cons_zero, List.set_cons_succ, hix, load_at hgj, hcell]
    by_cases hb : b.toNat < 255
    · have h2 : (b.toNat : Int) < 255 := by omega
      have e1 : IntKind.i64.wrap ((b.toNat : Int) + 1) = ((b.toNat + 1 : Nat) : Int) := by rw [IntWalk.i64_in _ (by omega)]; omega
      simp -implicitDefEqProofs (disch := first | assumption | omega | (simp; done) | (simp; omega)) only [h2, decide_true, if_true, lp_some', mc_true, mc_false, ok_ret, ok_mc, ok_snap, aBin_add, aBin_sub, aBin_mul, aBin_lss, aBin_leq, aBin_gtr, aBin_geq, aBin_eql, aBin_neq, aBin_eqlStr, aBin_neqStr, strEq_bs, aBin_eqlNil, aBin_eqlNil', aBin_neqNil, aBin_neqNil', aUn_not, aUn_neg, aNil_ptr, aOff_ptr, aInt_int, aLenStr_str, aLenS_slice, aLenS_nil, aFold_min, aFold_max, bs_size, bs_empty, Nat.zero_add, Nat.add_zero, Nat.reduceAdd, ok_load, Mem.get_set, Mem.set_set, List.getElem?_cons_zero, List.getElem?_cons_succ, Option.some.injEq, exists_eq_left', List.set_cons_zero, List.set_cons_succ, hix, load_at hgj, hcell, e1, ok_store hgj hbj]
      have hjm : m.next ≤ j := hown j hoj
      refine hq _ v1 (hc2.trans (Chg.set m2 j _) (fun i hi hG => by have hG : i = j := hG; omega)) ?_ hown
      have hcar := dig_carry f n w P' b (by simpa using hd) hb
      rcases hB2 with ⟨rfl, _⟩ | ⟨j', rfl, g1, g2, g3, g4, g5⟩
      · exact hoj.elim
      · cases hoj
        refine .inr ⟨j, ?_, ?_, ?_, Nat.zero_le _, g4, g5⟩
        · simp [ints_length, dig_length]; omega
        · intro e; have := congrArg List.length e; simp [ints_length, dig_length] at this; omega
        · simp -implicitDefEqProofs only [Mem.get_set]
          congr 1
          rw [hcar]
          simp -implicitDefEqProofs only [ints, List.map_append, List.map_cons, List.map_nil, List.append_assoc]
          rw [List.set_append_right _ _ (by simp; omega)]
          have : (UInt8.ofNat (b.toNat + 1)).toNat = b.toNat + 1 := by rw [toNat_ofNat]; omega
          simp [hP', this] <;> omega
    · have h2 : ¬ (b.toNat : Int) < 255 := by omega
      have hb255 : b = 255 := by
        apply UInt8.toNat_inj.1
        have := b.toNat_lt
        show b.toNat = 255
        omega
      subst hb255
      have e1 : IntKind.i64.wrap ((k : Int) - 1) = (n : Int) - 1 - ((f + 1 : Nat) : Int) := by rw [IntWalk.i64_in _ (by omega)]; omega
      simp -implicitDefEqProofs (disch := first | assumption | omega | (simp; done) | (simp; omega)) only [h2, decide_false, Bool.false_eq_true, if_false, lp_some', mc_true, mc_false, ok_ret, ok_mc, ok_snap, aBin_add, aBin_sub, aBin_mul, aBin_lss, aBin_leq, aBin_gtr, aBin_geq, aBin_eql, aBin_neq, aBin_eqlStr, aBin_neqStr, strEq_bs, aBin_eqlNil, aBin_eqlNil', aBin_neqNil, aBin_neqNil', aUn_not, aUn_neg, aNil_ptr, aOff_ptr, aInt_int, aLenStr_str, aLenS_slice, aLenS_nil, aFold_min, aFold_max, bs_size, bs_empty, Nat.zero_add, Nat.add_zero, Nat.reduceAdd, ok_load, Mem.get_set, Mem.set_set, List.getElem?_cons_zero, List.getElem?_cons_succ, Option.some.injEq, exists_eq_left', List.set_cons_zero, List.set_cons_succ, hix, ok_store hgj hbj, e1]
      have hjm : m.next ≤ j := hown j hoj
      refine ih k _ _ (Nat.lt_succ_self _) ⟨f + 1, by omega, rfl, P', hP', by rw [hd, List.replicate_succ]; simp, hc2.trans (Chg.set m2 j _) (fun i hi hG => by have hG : i = j := hG; omega), ?_⟩
      rcases hB2 with ⟨rfl, _⟩ | ⟨j', rfl, g1, g2, g3, g4, g5⟩
      · exact hoj.elim
      · cases hoj
        refine .inr ⟨j, ?_, ?_, ?_, Nat.zero_le _, g4, g5⟩
        · simp [ints_length] <;> omega
        · simp [ints]
        · simp -implicitDefEqProofs only [Mem.get_set]
          congr 1
          simp -implicitDefEqProofs only [ints, List.map_append, List.map_cons, List.map_nil, List.append_assoc, List.replicate_succ]
          rw [List.set_append_right _ _ (by simp; omega)]
          simp [hP']

theorem rcode_loop {i : Nat} {z : Iv} {Q : AV → Mem → Prop} {m0 : Mem} {v0 : AV} {le : Int} (hq : ∀ m' v', RefAt m' i z v' ((4294967295 - z.R : Nat) : Int) → Fr i v0 m0 v' m' → Q (.tup []) m') :
    ∀ {k : Nat} {x : Iv}, RefAt m0 i x v0 le → 1 ≤ x.R → x.R ≤ 4294967295 → 16777216 ≤ x.R * 256 ^ k → x.fill k = z → x.n + k < 2 ^ 39 →
      Ok (fun n => loopN (fun r l => ref04_Coder_Code_l0 (fcall Tryz.prog ext1 n) n r (l.getD 0 .undef) (l.getD 1 .undef)) n [.ptr i 0, .int .i64 x.R]) m0 Q := by
  intro k x h0 h1 h2 h3 h4 h5
  refine Ok.loop (fun k l m => ∃ x v, l = [.ptr i 0, .int .i64 (x.R : Nat)] ∧ RefAt m i x v le ∧ Fr i v0 m0 v m ∧ 1 ≤ x.R ∧ x.R ≤ 4294967295 ∧ 16777216 ≤ x.R * 256 ^ k ∧ x.fill k = z ∧ x.n + k < 2 ^ 39) ?_ (k := k) ⟨x, v0, rfl, h0, Fr.refl _ _ _, h1, h2, h3, h4, h5⟩
  clear h0 h1 h2 h3 h4 h5
  rintro k l m rec ⟨x, v, rfl, h, hF, h1, h2, h3, h4, h5⟩ ih
  have hg := h.get
  have hb := h.base
  have hlow : x.V % 4294967296 < 4294967296 := Nat.mod_lt _ (by decide)
  generalize hL : x.V % 4294967296 = low at *
  by_cases hr : 16777216 ≤ x.R
  · have hd : ¬ (x.R : Int) < 16777216 := by omega
    have e1 : IntKind.i64.wrap (4294967295 - (x.R : Int)) = ((4294967295 - x.R : Nat) : Int) := by rw [IntWalk.i64_in _ (by omega)]; omega
    simp -implicitDefEqProofs only [List.getD_cons_zero, List.getD_cons_succ, ref04_Coder_Code_l0, lp_some', mc_true, mc_false, ok_ret, ok_mc, ok_snap, aBin_add, aBin_sub, aBin_mul, aBin_lss, aBin_leq, aBin_gtr, aBin_geq, aBin_eql, aBin_neq, aBin_eqlStr, aBin_neqStr, strEq_bs, aBin_eqlNil, aBin_eqlNil', aBin_neqNil, aBin_neqNil', aUn_not, aUn_neg, aNil_ptr, aOff_ptr, aInt_int, aLenStr_str, aLenS_slice, aLenS_nil, aFold_min, aFold_max, bs_size, bs_empty, Nat.zero_add, Nat.add_zero, Nat.reduceAdd, ok_load, Mem.get_set, Mem.set_set, List.getElem?_cons_zero, List.getElem?_cons_succ, Option.some.injEq, exists_eq_left', List.set_cons_zero, List.set_cons_succ]
    simp -implicitDefEqProofs (disch := first | assumption | omega | (simp; done) | (simp; omega)) only [hd, decide_false, Bool.false_eq_true, if_false, lp_some', mc_true, mc_false, ok_ret, ok_mc, ok_snap, aBin_add, aBin_sub, aBin_mul, aBin_lss, aBin_leq, aBin_gtr, aBin_geq, aBin_eql, aBin_neq, aBin_eqlStr, aBin_neqStr, strEq_bs, aBin_eqlNil, aBin_eqlNil', aBin_neqNil, aBin_neqNil', aUn_not, aUn_neg, aNil_ptr, aOff_ptr, aInt_int, aLenStr_str, aLenS_slice, aLenS_nil, aFold_min, aFold_max, bs_size, bs_empty, Nat.zero_add, Nat.add_zero, Nat.reduceAdd, ok_load, Mem.get_set, Mem.set_set, List.getElem?_cons_zero, List.getElem?_cons_succ, Option.some.injEq, exists_eq_left', List.set_cons_zero, List.set_cons_succ, e1, ok_store hg hb]
    have e : x.fill k = x := by
      cases k with
      | zero => rfl
      | succ k => simp -implicitDefEqProofs only [Iv.fill]; rw [if_pos hr]
    rw [e] at h4
    subst h4
    have hc := Chg.set m i (.cells T_ref04_Coder 0 [v, .int .i64 (low : Nat), .int .i64 ((4294967295 - x.R : Nat) : Int)])
    exact hq _ v ⟨by rw [hL]; simp, hb, h.next, h.buf.chg hc (fun b hb e => h.ne (e ▸ hb)), h.ne⟩ (hF.trans (Fr.set _))
  · have hd : (x.R : Int) < 16777216 := by omega
    have e1 : aBin .quo [] (.int .i64 (low : Int)) (.int .i64 16777216) = some (.int .i64 ((low / 16777216 : Nat) : Int)) := by
      rw [aBin_quo _ _ _ _ (by decide), show (16777216 : Int) = ((16777216 : Nat) : Int) from rfl, tdiv_nat, IntWalk.i64_in _ (by omega)]
    have e2 := aFill1 (.int .i64 0) (.int .i64 ((low / 16777216 : Nat) : Int)) (one_int _ _)
    simp -implicitDefEqProofs only [List.getD_cons_zero, List.getD_cons_succ, ref04_Coder_Code_l0, lp_some', mc_true, mc_false, ok_ret, ok_mc, ok_snap, aBin_add, aBin_sub, aBin_mul, aBin_lss, aBin_leq, aBin_gtr, aBin_geq, aBin_eql, aBin_neq, aBin_eqlStr, aBin_neqStr, strEq_bs, aBin_eqlNil, aBin_eqlNil', aBin_neqNil, aBin_neqNil', aUn_not, aUn_neg, aNil_ptr, aOff_ptr, aInt_int, aLenStr_str, aLenS_slice, aLenS_nil, aFold_min, aFold_max, bs_size, bs_empty, Nat.zero_add, Nat.add_zero, Nat.reduceAdd, ok_load, Mem.get_set, Mem.set_set, List.getElem?_cons_zero, List.getElem?_cons_succ, Option.some.injEq, exists_eq_left', List.set_cons_zero, List.set_cons_succ]
    simp -implicitDefEqProofs only [hd, decide_true, if_true, lp_some', mc_true, mc_false, ok_ret, ok_mc, ok_snap, aBin_add, aBin_sub, aBin_mul, aBin_lss, aBin_leq, aBin_gtr, aBin_geq, aBin_eql, aBin_neq, aBin_eqlStr, aBin_neqStr, strEq_bs, aBin_eqlNil, aBin_eqlNil', aBin_neqNil, aBin_neqNil', aUn_not, aUn_neg, aNil_ptr, aOff_ptr, aInt_int, aLenStr_str, aLenS_slice, aLenS_nil, aFold_min, aFold_max, bs_size, bs_empty, Nat.zero_add, Nat.add_zero, Nat.reduceAdd, ok_load, Mem.get_set, Mem.set_set, List.getElem?_cons_zero, List.getElem?_cons_succ, Option.some.injEq, exists_eq_left', List.set_cons_zero, List.set_cons_succ, load_at hg, e1, e2, ok_allocS]
    have hca : Chg (fun _ => False) m (m.alloc (.cells T_int 0 [.int .i64 ((low / 16777216 : Nat) : Int)])) := Chg.alloc _ _ _
    have hr1 := h.chg hca id (fun _ _ => id)
    have hel := elems_new T_int 1 [.int .i64 ((low / 16777216 : Nat) : Int)] m
    have hnx : m.next < (m.alloc (.cells T_int 0 [.int .i64 ((low / 16777216 : Nat) : Int)])).next := Nat.lt_succ_self _
    generalize m.alloc (.cells T_int 0 [.int .i64 ((low / 16777216 : Nat) : Int)]) = m1 at *
    have hg1 := hr1.get
    rw [hL] at hg1
    have s1 := fun (k : M AV) => same_at (o := 0) hg1 rfl hr1.buf.eqb k
    have hbn1 : m1.base ≤ m1.next := by have := hr1.base; have := hr1.next; omega
    simp -implicitDefEqProofs only [s1, lp_some', mc_true, mc_false, ok_ret, ok_mc, ok_snap, aBin_add, aBin_sub, aBin_mul, aBin_lss, aBin_leq, aBin_gtr, aBin_geq, aBin_eql, aBin_neq, aBin_eqlStr, aBin_neqStr, strEq_bs, aBin_eqlNil, aBin_eqlNil', aBin_neqNil, aBin_neqNil', aUn_not, aUn_neg, aNil_ptr, aOff_ptr, aInt_int, aLenStr_str, aLenS_slice, aLenS_nil, aFold_min, aFold_max, bs_size, bs_empty, Nat.zero_add, Nat.add_zero, Nat.reduceAdd, ok_load, Mem.get_set, Mem.set_set, List.getElem?_cons_zero, List.getElem?_cons_succ, Option.some.injEq, exists_eq_left', List.set_cons_zero, List.set_cons_succ]
    refine ok_append hr1.buf hbn1 hel (by simp) (by simp [ints_length, dig_length]; cases k <;> omega) fun m2 v2 hc2 ⟨fz', hf, hB2⟩ hown2 hown2' hbn2 => ?_
    obtain rfl : fz' = 0 := by omega
    have hown2 := hown2' (by simp)
    have hg2 := (hc2.get i hr1.next hr1.ne).trans hg1
    have hb2 : m2.base ≤ i := by rw [hc2.base]; exact hr1.base
    have hv := hB2.one
    simp -implicitDefEqProofs (disch := first | assumption | omega | (simp; done) | (simp; omega)) only [lp_some', mc_true, mc_false, ok_ret, ok_mc, ok_snap, aBin_add, aBin_sub, aBin_mul, aBin_lss, aBin_leq, aBin_gtr, aBin_geq, aBin_eql, aBin_neq, aBin_eqlStr, aBin_neqStr, strEq_bs, aBin_eqlNil, aBin_eqlNil', aBin_neqNil, aBin_neqNil', aUn_not, aUn_neg, aNil_ptr, aOff_ptr, aInt_int, aLenStr_str, aLenS_slice, aLenS_nil, aFold_min, aFold_max, bs_size, bs_empty, Nat.zero_add, Nat.add_zero, Nat.reduceAdd, ok_load, Mem.get_set, Mem.set_set, List.getElem?_cons_zero, List.getElem?_cons_succ, Option.some.injEq, exists_eq_left', List.set_cons_zero, List.set_cons_succ, ok_store hg2 hb2]
    have hg3 : (m2.set i (.cells T_ref04_Coder 0 [v2, .int .i64 (low : Nat), .int .i64 le])).get i = .cells T_ref04_Coder 0 [v2, .int .i64 (low : Nat), .int .i64 le] := by simp
    have hb3 : (m2.set i (.cells T_ref04_Coder 0 [v2, .int .i64 (low : Nat), .int .i64 le])).base ≤ i := hb2
    have e3 : aBin .rem [] (.int .i64 (low : Int)) (.int .i64 16777216) = some (.int .i64 ((low % 16777216 : Nat) : Int)) := by
      rw [aBin_rem _ _ _ _ (by decide), show (16777216 : Int) = ((16777216 : Nat) : Int) from rfl, tmod_nat]
    have e4 : IntKind.i64.wrap (((low % 16777216 : Nat) : Int) * 256) = ((low % 16777216 * 256 : Nat) : Int) := by rw [IntWalk.i64_in _ (by omega)]; omega
    have e5 : IntKind.i64.wrap ((x.R : Int) * 256) = ((x.R * 256 : Nat) : Int) := by rw [IntWalk.i64_in _ (by omega)]; omega
    simp -implicitDefEqProofs (disch := first | assumption | omega | (simp; done) | (simp; omega)) only [lp_some', mc_true, mc_false, ok_ret, ok_mc, ok_snap, aBin_add, aBin_sub, aBin_mul, aBin_lss, aBin_leq, aBin_gtr, aBin_geq, aBin_eql, aBin_neq, aBin_eqlStr, aBin_neqStr, strEq_bs, aBin_eqlNil, aBin_eqlNil', aBin_neqNil, aBin_neqNil', aUn_not, aUn_neg, aNil_ptr, aOff_ptr, aInt_int, aLenStr_str, aLenS_slice, aLenS_nil, aFold_min, aFold_max, bs_size, bs_empty, Nat.zero_add, Nat.add_zero, Nat.reduceAdd, ok_load, Mem.get_set, Mem.set_set, List.getElem?_cons_zero, List.getElem?_cons_succ, Option.some.injEq, exists_eq_left', List.set_cons_zero, List.set_cons_succ, load_at hg3, e3, e4, e5, ok_store hg3 hb3, Mem.set_set]
    cases k with
    | zero => omega
    | succ k =>
      have h6 : x.fill (k + 1) = Iv.fill k ⟨x.n + 1, x.V * 256, x.R * 256⟩ := by simp -implicitDefEqProofs only [Iv.fill]; rw [if_neg hr]
      have hset := Chg.set m2 i (.cells T_ref04_Coder 0 [v2, .int .i64 ((low % 16777216 * 256 : Nat) : Int), .int .i64 le])
      have hne2 : ¬ own v2 i := fun e => by have := hown2 i e; have := hr1.next; omega
      have hFn : Fr i v m v2 (m2.set i (.cells T_ref04_Coder 0 [v2, .int .i64 ((low % 16777216 * 256 : Nat) : Int), .int .i64 le])) := by
        refine ⟨((hca.mono fun _ _ h => h.elim).trans (hc2.mono fun _ _ h => .inr h) (fun _ _ h => h)).trans hset (fun _ _ h => .inl h), fun j hj => .inr ?_⟩
        have := hown2 j hj; omega
      refine ih k _ _ (Nat.lt_succ_self _) ⟨⟨x.n + 1, x.V * 256, x.R * 256⟩, v2, rfl, ⟨?_, hb2, ?_, ?_, hne2⟩, hF.trans hFn, by show 1 ≤ x.R * 256; omega, by show x.R * 256 ≤ _; omega, by show _ ≤ x.R * 256 * 256 ^ k; rw [Nat.mul_assoc, ← Nat.pow_succ']; exact h3, by rw [← h6]; exact h4, by show x.n + 1 + k < _; omega⟩
      · have : x.V * 256 % 4294967296 = low % 16777216 * 256 := by omega
        simp [this]
      · have := hc2.next; have := hr1.next; show i < m2.next; omega
      · have e6 : dig (x.n + 1) (x.V * 256 / 4294967296) = dig x.n (x.V / 4294967296) ++ [UInt8.ofNat (low / 16777216)] := by
          rw [show x.V * 256 / 4294967296 = x.V / 4294967296 * 256 + low / 16777216 by omega, dig_snoc _ _ _ (by omega)]
        have e7 : ints (dig (x.n + 1) (x.V * 256 / 4294967296)) = ints (dig x.n (x.V / 4294967296)) ++ [.int .i64 ((low / 16777216 : Nat) : Int)] := by
          rw [e6, ints_append]
          have : (UInt8.ofNat (low / 16777216)).toNat = low / 16777216 := by rw [toNat_ofNat]; omega
          simp [ints, this]
        show Buf T_int 0 _ v2 (ints (dig (x.n + 1) (x.V * 256 / 4294967296)))
        rw [e7]
        exact hB2.chg hset (fun b hb e => hne2 (e ▸ hb))

/-- Code, by the document, of a part. -/
theorem rcode_ok {i lo hi t : Nat} {x : Iv} {v : AV} {m : Mem} {Q : AV → Mem → Prop} (h : RefAt m i x v ((4294967295 - x.R : Nat) : Int)) (hx : x.Fits) (hn : x.n + 3 < 2 ^ 39) (hp : lo < hi ∧ hi ≤ t ∧ t ≤ 65536)
    (hq : ∀ m' v', RefAt m' i (x.code lo hi t) v' ((4294967295 - (x.code lo hi t).R : Nat) : Int) → Fr i v m v' m' → Q (.tup []) m') : Ok (R fn_ref04_Coder_Code [.ptr i 0, .int .i64 lo, .int .i64 hi, .int .i64 t]) m Q := by
  refine Ok.call (fun n => ref04_Coder_Code_eq rfl n _ _ _ _) ?_
  have hg := h.get
  have hb := h.base
  have hRlo := hx.lo
  have hRhi := hx.hi
  obtain ⟨hp1, hp2⟩ := partOf_bounds hx.lo hx.hi hp
  have hin := part_in (r := x.R) ⟨hp.1, hp.2.1⟩
  have htop := Iv.narrow_top hx ⟨hp.1, hp.2.1⟩
  simp -implicitDefEqProofs only [Iv.narrow] at htop
  have hlow : x.V % 4294967296 < 4294967296 := Nat.mod_lt _ (by decide)
  simp -implicitDefEqProofs only [ref04_Coder_Code]
  refine Ok.bnd (rright_ok ?_)
  have hdec : decide ((0 : Int) ≤ lo ∧ (lo : Int) < hi ∧ (hi : Int) ≤ t ∧ (t : Int) ≤ 65536) = true := decide_eq_true (by omega)
  have e0 : IntKind.i64.wrap (4294967295 - ((4294967295 - x.R : Nat) : Int)) = (x.R : Int) := by rw [IntWalk.i64_in _ (by omega)]; omega
  have e1 : aBin .quo [] (.int .i64 (x.R : Int)) (.int .i64 (t : Int)) = some (.int .i64 ((x.R / t : Nat) : Int)) := by
    have hdl := Nat.div_le_self x.R t
    rw [aBin_quo _ _ _ _ (by omega), tdiv_nat, IntWalk.i64_in _ ⟨Int.le_trans (by decide) (Int.natCast_nonneg _), by omega⟩]
  have e2 : IntKind.i64.wrap (((x.R / t : Nat) : Int) * (lo : Int)) = ((x.R / t * lo : Nat) : Int) := by rw [← Int.natCast_mul]; exact IntWalk.i64_in _ ⟨Int.le_trans (by decide) (Int.natCast_nonneg _), by omega⟩
  have e3 : IntKind.i64.wrap (((x.V % 4294967296 : Nat) : Int) + ((x.R / t * lo : Nat) : Int)) = ((x.V % 4294967296 + x.R / t * lo : Nat) : Int) := by rw [← Int.natCast_add]; exact IntWalk.i64_in _ ⟨Int.le_trans (by decide) (Int.natCast_nonneg _), by omega⟩
  simp -implicitDefEqProofs (disch := first | assumption | omega | (simp; done) | (simp; omega)) only [hdec, lp_some', mc_true, mc_false, ok_ret, ok_mc, ok_snap, aBin_add, aBin_sub, aBin_mul, aBin_lss, aBin_leq, aBin_gtr, aBin_geq, aBin_eql, aBin_neq, aBin_eqlStr, aBin_neqStr, strEq_bs, aBin_eqlNil, aBin_eqlNil', aBin_neqNil, aBin_neqNil', aUn_not, aUn_neg, aNil_ptr, aOff_ptr, aInt_int, aLenStr_str, aLenS_slice, aLenS_nil, aFold_min, aFold_max, bs_size, bs_empty, Nat.zero_add, Nat.add_zero, Nat.reduceAdd, ok_load, Mem.get_set, Mem.set_set, List.getElem?_cons_zero, List.getElem?_cons_succ, Option.some.injEq, exists_eq_left', List.set_cons_zero, List.set_cons_succ, Bool.not_true, Bool.false_eq_true, if_false, load_at hg, e0, e1, e2, e3, ok_store hg hb]
  have hset := Chg.set m i (.cells T_ref04_Coder 0 [v, .int .i64 ((x.V % 4294967296 + x.R / t * lo : Nat) : Int), .int .i64 ((4294967295 - x.R : Nat) : Int)])
  have hg1 : (m.set i (.cells T_ref04_Coder 0 [v, .int .i64 ((x.V % 4294967296 + x.R / t * lo : Nat) : Int), .int .i64 ((4294967295 - x.R : Nat) : Int)])).get i = .cells T_ref04_Coder 0 [v, .int .i64 ((x.V % 4294967296 + x.R / t * lo : Nat) : Int), .int .i64 ((4294967295 - x.R : Nat) : Int)] := by simp
  have hB1 := h.buf.chg hset (fun b hb e => h.ne (e ▸ hb))
  have hF1 := Fr.set (i := i) (buf := v) (m := m) (.cells T_ref04_Coder 0 [v, .int .i64 ((x.V % 4294967296 + x.R / t * lo : Nat) : Int), .int .i64 ((4294967295 - x.R : Nat) : Int)])
  have hb1 : (m.set i (.cells T_ref04_Coder 0 [v, .int .i64 ((x.V % 4294967296 + x.R / t * lo : Nat) : Int), .int .i64 ((4294967295 - x.R : Nat) : Int)])).base ≤ i := hb
  have hn1 : i < (m.set i (.cells T_ref04_Coder 0 [v, .int .i64 ((x.V % 4294967296 + x.R / t * lo : Nat) : Int), .int .i64 ((4294967295 - x.R : Nat) : Int)])).next := h.next
  generalize m.set i (.cells T_ref04_Coder 0 [v, .int .i64 ((x.V % 4294967296 + x.R / t * lo : Nat) : Int), .int .i64 ((4294967295 - x.R : Nat) : Int)]) = m1 at *
  refine Ok.bnd (rnarrow_ok hRhi hp ?_)
  simp -implicitDefEqProofs only [lp_some', mc_true, mc_false, ok_ret, ok_mc, ok_snap, aBin_add, aBin_sub, aBin_mul, aBin_lss, aBin_leq, aBin_gtr, aBin_geq, aBin_eql, aBin_neq, aBin_eqlStr, aBin_neqStr, strEq_bs, aBin_eqlNil, aBin_eqlNil', aBin_neqNil, aBin_neqNil', aUn_not, aUn_neg, aNil_ptr, aOff_ptr, aInt_int, aLenStr_str, aLenS_slice, aLenS_nil, aFold_min, aFold_max, bs_size, bs_empty, Nat.zero_add, Nat.add_zero, Nat.reduceAdd, ok_load, Mem.get_set, Mem.set_set, List.getElem?_cons_zero, List.getElem?_cons_succ, Option.some.injEq, exists_eq_left', List.set_cons_zero, List.set_cons_succ, load_at hg1, ref04_Coder_Code_j0]
  have hfin : ∀ m' v', RefAt m' i (x.narrow lo hi t) v' ((4294967295 - x.R : Nat) : Int) → Fr i v m v' m' → Ok (fun n => loopN (fun r l => ref04_Coder_Code_l0 (fcall Tryz.prog ext1 n) n r (l.getD 0 .undef) (l.getD 1 .undef)) n [.ptr i 0, .int .i64 (partOf x.R lo hi t)]) m' Q := by
    intro m' v' hr' hF'
    exact rcode_loop (k := 3) (x := x.narrow lo hi t) (fun m'' v'' h1 h2 => hq m'' v'' h1 (hF'.trans h2)) hr' (by show 1 ≤ partOf x.R lo hi t; omega) (by show partOf x.R lo hi t ≤ _; omega) (by show _ ≤ partOf x.R lo hi t * _; omega) rfl (by show x.n + 3 < _; omega)
  by_cases hcar : 4294967296 ≤ x.V % 4294967296 + x.R / t * lo
  · have hd : (4294967296 : Int) ≤ ((x.V % 4294967296 + x.R / t * lo : Nat) : Int) := by omega
    have e4 : IntKind.i64.wrap (((x.V % 4294967296 + x.R / t * lo : Nat) : Int) - 4294967296) = ((x.V % 4294967296 + x.R / t * lo - 4294967296 : Nat) : Int) := by rw [IntWalk.i64_in _ (by omega)]; omega
    simp -implicitDefEqProofs (disch := first | assumption | omega | (simp; done) | (simp; omega)) only [lp_some', mc_true, mc_false, ok_ret, ok_mc, ok_snap, aBin_add, aBin_sub, aBin_mul, aBin_lss, aBin_leq, aBin_gtr, aBin_geq, aBin_eql, aBin_neq, aBin_eqlStr, aBin_neqStr, strEq_bs, aBin_eqlNil, aBin_eqlNil', aBin_neqNil, aBin_neqNil', aUn_not, aUn_neg, aNil_ptr, aOff_ptr, aInt_int, aLenStr_str, aLenS_slice, aLenS_nil, aFold_min, aFold_max, bs_size, bs_empty, Nat.zero_add, Nat.add_zero, Nat.reduceAdd, ok_load, Mem.get_set, Mem.set_set, List.getElem?_cons_zero, List.getElem?_cons_succ, Option.some.injEq, exists_eq_left', List.set_cons_zero, List.set_cons_succ, hd, decide_true, if_true, e4, ok_store hg1 hb1]
    have hset2 := Chg.set m1 i (.cells T_ref04_Coder 0 [v, .int .i64 ((x.V % 4294967296 + x.R / t * lo - 4294967296 : Nat) : Int), .int .i64 ((4294967295 - x.R : Nat) : Int)])
    have hg2 : (m1.set i (.cells T_ref04_Coder 0 [v, .int .i64 ((x.V % 4294967296 + x.R / t * lo - 4294967296 : Nat) : Int), .int .i64 ((4294967295 - x.R : Nat) : Int)])).get i = .cells T_ref04_Coder 0 [v, .int .i64 ((x.V % 4294967296 + x.R / t * lo - 4294967296 : Nat) : Int), .int .i64 ((4294967295 - x.R : Nat) : Int)] := by simp
    have hB2 := hB1.chg hset2 (fun b hb e => h.ne (e ▸ hb))
    have hF2 := hF1.trans (Fr.set (.cells T_ref04_Coder 0 [v, .int .i64 ((x.V % 4294967296 + x.R / t * lo - 4294967296 : Nat) : Int), .int .i64 ((4294967295 - x.R : Nat) : Int)]))
    have hb2 : (m1.set i (.cells T_ref04_Coder 0 [v, .int .i64 ((x.V % 4294967296 + x.R / t * lo - 4294967296 : Nat) : Int), .int .i64 ((4294967295 - x.R : Nat) : Int)])).base ≤ i := hb1
    have hn2 : i < (m1.set i (.cells T_ref04_Coder 0 [v, .int .i64 ((x.V % 4294967296 + x.R / t * lo - 4294967296 : Nat) : Int), .int .i64 ((4294967295 - x.R : Nat) : Int)])).next := hn1
    generalize m1.set i (.cells T_ref04_Coder 0 [v, .int .i64 ((x.V % 4294967296 + x.R / t * lo - 4294967296 : Nat) : Int), .int .i64 ((4294967295 - x.R : Nat) : Int)]) = m2 at *
    simp -implicitDefEqProofs only [load_at hg2, lp_some', mc_true, mc_false, ok_ret, ok_mc, ok_snap, aBin_add, aBin_sub, aBin_mul, aBin_lss, aBin_leq, aBin_gtr, aBin_geq, aBin_eql, aBin_neq, aBin_eqlStr, aBin_neqStr, strEq_bs, aBin_eqlNil, aBin_eqlNil', aBin_neqNil, aBin_neqNil', aUn_not, aUn_neg, aNil_ptr, aOff_ptr, aInt_int, aLenStr_str, aLenS_slice, aLenS_nil, aFold_min, aFold_max, bs_size, bs_empty, Nat.zero_add, Nat.add_zero, Nat.reduceAdd, ok_load, Mem.get_set, Mem.set_set, List.getElem?_cons_zero, List.getElem?_cons_succ, Option.some.injEq, exists_eq_left', List.set_cons_zero, List.set_cons_succ]
    have hw : x.V / 4294967296 + 1 < 256 ^ x.n := by
      have : (x.V / 4294967296 + 1) * 4294967296 < 256 ^ x.n * 4294967296 := by omega
      exact Nat.lt_of_mul_lt_mul_right this
    refine Ok.bnd (carried_ok hB2 (by omega) hw (by omega) fun m3 v3 hc3 hB3 hown3 => ?_)
    have hg3 := (hc3.get i hn2 id).trans hg2
    have hb3 : m3.base ≤ i := by rw [hc3.base]; exact hb2
    have hv := hB3.one
    simp -implicitDefEqProofs (disch := first | assumption | omega | (simp; done) | (simp; omega)) only [lp_some', mc_true, mc_false, ok_ret, ok_mc, ok_snap, aBin_add, aBin_sub, aBin_mul, aBin_lss, aBin_leq, aBin_gtr, aBin_geq, aBin_eql, aBin_neq, aBin_eqlStr, aBin_neqStr, strEq_bs, aBin_eqlNil, aBin_eqlNil', aBin_neqNil, aBin_neqNil', aUn_not, aUn_neg, aNil_ptr, aOff_ptr, aInt_int, aLenStr_str, aLenS_slice, aLenS_nil, aFold_min, aFold_max, bs_size, bs_empty, Nat.zero_add, Nat.add_zero, Nat.reduceAdd, ok_load, Mem.get_set, Mem.set_set, List.getElem?_cons_zero, List.getElem?_cons_succ, Option.some.injEq, exists_eq_left', List.set_cons_zero, List.set_cons_succ, ok_store hg3 hb3]
    have hne3 : ¬ own v3 i := fun e => by have := hown3 i e; omega
    have hset3 := Chg.set m3 i (.cells T_ref04_Coder 0 [v3, .int .i64 ((x.V % 4294967296 + x.R / t * lo - 4294967296 : Nat) : Int), .int .i64 ((4294967295 - x.R : Nat) : Int)])
    refine hfin _ v3 ⟨?_, hb3, Nat.lt_of_lt_of_le hn2 hc3.next, ?_, hne3⟩ (hF2.trans ⟨(hc3.mono fun _ _ h => h.elim).trans hset3 (fun _ _ h => .inl h), fun j hj => .inr (hown3 j hj)⟩)
    · have : (x.V + x.R / t * lo) % 4294967296 = x.V % 4294967296 + x.R / t * lo - 4294967296 := by omega
      simp [Iv.narrow, this]
    · have : (x.V + x.R / t * lo) / 4294967296 = x.V / 4294967296 + 1 := by omega
      show Buf T_int 0 _ v3 (ints (dig x.n ((x.V + x.R / t * lo) / 4294967296)))
      rw [this]
      exact hB3.chg hset3 (fun b hb e => hne3 (e ▸ hb))
  · have hd : ¬ (4294967296 : Int) ≤ ((x.V % 4294967296 + x.R / t * lo : Nat) : Int) := by omega
    simp -implicitDefEqProofs only [hd, decide_false, Bool.false_eq_true, if_false]
    refine hfin m1 v ⟨?_, hb1, hn1, ?_, h.ne⟩ hF1
    · have : (x.V + x.R / t * lo) % 4294967296 = x.V % 4294967296 + x.R / t * lo := by omega
      simp -implicitDefEqProofs only [Iv.narrow, this]
      exact hg1
    · have : (x.V + x.R / t * lo) / 4294967296 = x.V / 4294967296 := by omega
      show Buf T_int 0 _ v (ints (dig x.n ((x.V + x.R / t * lo) / 4294967296)))
      rw [this]
      exact hB1

/-- Code, by the document, of what is no part. -/
theorem rcode_not {i : Nat} {lo hi t : Int} {m : Mem} {Q : AV → Mem → Prop} (hp : ¬ (0 ≤ lo ∧ lo < hi ∧ hi ≤ t ∧ t ≤ 65536)) (hq : Q (.tup []) m) : Ok (R fn_ref04_Coder_Code [.ptr i 0, .int .i64 lo, .int .i64 hi, .int .i64 t]) m Q := by
  refine Ok.call (fun n => ref04_Coder_Code_eq rfl n _ _ _ _) ?_
  simp -implicitDefEqProofs only [ref04_Coder_Code]
  refine Ok.bnd (rright_ok ?_)
  have hdec : decide (0 ≤ lo ∧ lo < hi ∧ hi ≤ t ∧ t ≤ 65536) = false := decide_eq_false hp
  simp -implicitDefEqProofs only [hdec, lp_some', mc_true, mc_false, ok_ret, ok_mc, ok_snap, aBin_add, aBin_sub, aBin_mul, aBin_lss, aBin_leq, aBin_gtr, aBin_geq, aBin_eql, aBin_neq, aBin_eqlStr, aBin_neqStr, strEq_bs, aBin_eqlNil, aBin_eqlNil', aBin_neqNil, aBin_neqNil', aUn_not, aUn_neg, aNil_ptr, aOff_ptr, aInt_int, aLenStr_str, aLenS_slice, aLenS_nil, aFold_min, aFold_max, bs_size, bs_empty, Nat.zero_add, Nat.add_zero, Nat.reduceAdd, ok_load, Mem.get_set, Mem.set_set, List.getElem?_cons_zero, List.getElem?_cons_succ, Option.some.injEq, exists_eq_left', List.set_cons_zero, List.set_cons_succ, Bool.not_false, if_true]
  exact hq
end SplA
