/- What strings.Builder does. -/
import Derived.Test.YtooogfnmhfocjaaGreatDoorSplBuf
import Derived.Test.YtooogfnmhfocjaaGreatDoorSplRc
namespace SplA
open Go.Proofs.YtooogfnmhfocjaaGreatDoor.Spl Go Go.Proofs
set_option maxRecDepth 100000
set_option linter.unusedVariables false
set_option linter.unusedSimpArgs false

/-- May a builder lie there? -/
structure Lies (T o : Nat) (cs : List AV) : Prop where
  pos : 0 < Tryz.prog.cellsOf T
  size : Tryz.prog.cellsOf T ≤ cs.length
  lies : rowAt Tryz.prog (sameLayout Tryz.prog Tryz.prog.depth · T_strings_Builder) Tryz.prog.depth T 1 o 1 = true
theorem noEsc_ok {x : AV} {m : Mem} {Q : AV → Mem → Prop} (hq : Q x m) : Ok (R fn_internal_abi_NoEscape [x]) m Q :=
  Ok.told (k := same1) rfl rfl hq

theorem copyCheck_ok {i o T : Nat} {cs : List AV} {a : AV} {m : Mem} {Q : AV → Mem → Prop} (h : m.get i = .cells T 0 cs) (hb : m.base ≤ i) (ho : o < cs.length) (ha : cs[o]? = some a) (haa : a = .nilptr ∨ a = .ptr i o) (hl : Lies T o cs)
    (hq : Q (.tup []) (m.set i (.cells T 0 (cs.set o (.ptr i o))))) : Ok (R fn_strings_Builder_copyCheck [.ptr i o]) m Q := by
  refine Ok.call (fun n => strings_Builder_copyCheck_eq rfl n _) ?_
  rcases haa with rfl | rfl
  · simp -implicitDefEqProofs only [strings_Builder_copyCheck, lp_some', mc_true, mc_false, ok_ret, ok_mc, ok_snap, aBin_add, aBin_sub, aBin_mul, aBin_lss, aBin_leq, aBin_gtr, aBin_geq, aBin_eql, aBin_neq, aBin_eqlStr, aBin_neqStr, strEq_bs, aBin_eqlNil, aBin_eqlNil', aBin_neqNil, aBin_neqNil', aUn_not, aUn_neg, aNil_ptr, aOff_ptr, aInt_int, aLenStr_str, aLenS_slice, aLenS_nil, aFold_min, aFold_max, bs_size, bs_empty, Nat.zero_add, Nat.add_zero, Nat.reduceAdd, ok_load, Mem.get_set, Mem.set_set, List.getElem?_cons_zero, List.getElem?_cons_succ, Option.some.injEq, exists_eq_left', List.set_cons_zero, List.set_cons_succ, load_at h, ha]
    rw [ok_op]
    refine ⟨.ptr i o, m, by simp [toUnsafe, Mem.cells?, h, ho], ?_⟩
    refine Ok.bnd (noEsc_ok ?_)
    rw [ok_op]
    refine ⟨.ptr i o, m, ?_, ?_⟩
    · unfold fromUnsafe
      simp -implicitDefEqProofs only [h]
      rw [if_pos ⟨hb, hl.pos, hl.size, hl.lies⟩]
    · simp -implicitDefEqProofs (disch := first | assumption | omega | (simp; done) | (simp; omega)) only [lp_some', mc_true, mc_false, ok_ret, ok_mc, ok_snap, aBin_add, aBin_sub, aBin_mul, aBin_lss, aBin_leq, aBin_gtr, aBin_geq, aBin_eql, aBin_neq, aBin_eqlStr, aBin_neqStr, strEq_bs, aBin_eqlNil, aBin_eqlNil', aBin_neqNil, aBin_neqNil', aUn_not, aUn_neg, aNil_ptr, aOff_ptr, aInt_int, aLenStr_str, aLenS_slice, aLenS_nil, aFold_min, aFold_max, bs_size, bs_empty, Nat.zero_add, Nat.add_zero, Nat.reduceAdd, ok_load, Mem.get_set, Mem.set_set, List.getElem?_cons_zero, List.getElem?_cons_succ, Option.some.injEq, exists_eq_left', List.set_cons_zero, List.set_cons_succ, ok_store h hb]
      exact hq
  · have e : cs.set o (.ptr i o) = cs := by
      apply List.ext_getElem?
      intro k
      rw [List.getElem?_set]
      split
      · rename_i e; subst e; simp [ho, ha]
        obtain ⟨_, h'⟩ := List.getElem?_eq_some_iff.1 ha
        exact h'.symm
      · rfl
    rw [e, m.set_self i h] at hq
    simp -implicitDefEqProofs only [strings_Builder_copyCheck, lp_some', mc_true, mc_false, ok_ret, ok_mc, ok_snap, aBin_add, aBin_sub, aBin_mul, aBin_lss, aBin_leq, aBin_gtr, aBin_geq, aBin_eql, aBin_neq, aBin_eqlStr, aBin_neqStr, strEq_bs, aBin_eqlNil, aBin_eqlNil', aBin_neqNil, aBin_neqNil', aUn_not, aUn_neg, aNil_ptr, aOff_ptr, aInt_int, aLenStr_str, aLenS_slice, aLenS_nil, aFold_min, aFold_max, bs_size, bs_empty, Nat.zero_add, Nat.add_zero, Nat.reduceAdd, ok_load, Mem.get_set, Mem.set_set, List.getElem?_cons_zero, List.getElem?_cons_succ, Option.some.injEq, exists_eq_left', List.set_cons_zero, List.set_cons_succ, load_at h, ha, aBin_neqSame]
    exact hq

/-- A builder of those octets, at a place of an object. -/
structure BAt (m : Mem) (i o T : Nat) (cs : List AV) (a bv : AV) (L : List UInt8) : Prop where
  get : m.get i = .cells T 0 cs
  base : m.base ≤ i
  next : i < m.next
  at0 : cs[o]? = some a
  self : a = .nilptr ∨ a = .ptr i o
  at1 : cs[o + 1]? = some bv
  buf : ∃ fz, Buf T_uint8 fz m bv (u8s L)
  ne : ¬ own bv i
  lies : Lies T o cs
theorem BAt.o {m : Mem} {i o T : Nat} {cs : List AV} {a buf : AV} {L : List UInt8} (h : BAt m i o T cs a buf L) : o + 1 < cs.length := by
  obtain ⟨h, _⟩ := List.getElem?_eq_some_iff.1 h.at1
  exact h

/-- A builder's store of its slice. -/
theorem wr_ok {i o T : Nat} {cs X : List AV} {a buf x : AV} {L LX : List UInt8} {m : Mem} {Q : AV → Mem → Prop} {k : Nat → AV → M AV} (h : BAt m i o T cs a buf L) (hX : X = u8s LX) (hn : m.base ≤ m.next)
    (hx : elems 1 X.length x m = some X ∧ count x = some X.length) (hlen : L.length + LX.length ≤ 2 ^ 45)
    (hq : ∀ m' buf', Chg (fun b => b = i ∨ own buf b) m m' → BAt m' i o T (cs.set (o + 1) buf') a buf' (L ++ LX) → (∀ j, own buf' j → own buf j ∨ m.next ≤ j) → m'.base ≤ m'.next → Ok (fun n => k n .undef) m' Q) :
    Ok (fun n => bnd (Go.Proofs.YtooogfnmhfocjaaGreatDoor.Spl.append T_uint8 1 1 buf x) fun v14 => lp (aNil (.ptr i o)) fun v15 => lp (aOff 1 v15) fun v16 => bnd (store none v16 v14) (k n)) m Q := by
  subst hX
  obtain ⟨fz, hB⟩ := h.buf
  refine ok_append hB hn hx (u8s_one _) (by simpa using hlen) fun m1 v1 hc ⟨fz', hf, hB1⟩ hown hown' hn1 => ?_
  have hne1 : ¬ own v1 i := fun hi => by
    rcases hown i hi with h1 | h1
    · exact h.ne h1
    · have := h.next; omega
  have hg1 : m1.get i = .cells T 0 cs := (hc.get i h.next h.ne).trans h.get
  have hb1 : m1.base ≤ i := by rw [hc.base]; exact h.base
  have ho := h.o
  have hv := hB1.one
  simp -implicitDefEqProofs (disch := first | assumption | omega | (simp; done) | (simp; omega)) only [lp_some', mc_true, mc_false, ok_ret, ok_mc, ok_snap, aBin_add, aBin_sub, aBin_mul, aBin_lss, aBin_leq, aBin_gtr, aBin_geq, aBin_eql, aBin_neq, aBin_eqlStr, aBin_neqStr, strEq_bs, aBin_eqlNil, aBin_eqlNil', aBin_neqNil, aBin_neqNil', aUn_not, aUn_neg, aNil_ptr, aOff_ptr, aInt_int, aLenStr_str, aLenS_slice, aLenS_nil, aFold_min, aFold_max, bs_size, bs_empty, Nat.zero_add, Nat.add_zero, Nat.reduceAdd, ok_load, Mem.get_set, Mem.set_set, List.getElem?_cons_zero, List.getElem?_cons_succ, Option.some.injEq, exists_eq_left', List.set_cons_zero, List.set_cons_succ, ok_store hg1 hb1]
  have hc2 : Chg (fun b => b = i ∨ own buf b) m (m1.set i (.cells T 0 (cs.set (o + 1) v1))) :=
    (hc.mono fun _ _ h => .inr h).trans (Chg.set _ _ _) (fun b _ h => .inl h)
  refine hq _ v1 hc2 ⟨by simp, hb1, Nat.lt_of_lt_of_le h.next hc.next, ?_, h.self, by simp [ho], ⟨fz', ?_⟩, hne1, ⟨h.lies.pos, by simpa using h.lies.size, h.lies.lies⟩⟩ hown hn1
  · rw [List.getElem?_set_ne (by omega)]; exact h.at0
  · rw [u8s_append]
    exact hB1.chg (Chg.set _ _ _) (fun b hb e => hne1 (e ▸ hb))

theorem writeByte_ok {i o T : Nat} {cs : List AV} {a buf : AV} {L : List UInt8} {b : UInt8} {m : Mem} {Q : AV → Mem → Prop} (h : BAt m i o T cs a buf L) (hn : m.base ≤ m.next) (hlen : L.length + 1 ≤ 2 ^ 45)
    (hq : ∀ m' buf', Chg (fun b => b = i ∨ own buf b) m m' → BAt m' i o T ((cs.set o (.ptr i o)).set (o + 1) buf') (.ptr i o) buf' (L ++ [b]) → (∀ j, own buf' j → own buf j ∨ m.next ≤ j) → m'.base ≤ m'.next → Q .nilface m') :
    Ok (R fn_strings_Builder_WriteByte [.ptr i o, .int .u8 b.toNat]) m Q := by
  refine Ok.call (fun n => strings_Builder_WriteByte_eq rfl n _ _) ?_
  have ho := h.o
  refine Ok.bnd (copyCheck_ok h.get h.base (by omega) h.at0 h.self h.lies ?_)
  have hc0 : Chg (fun b => b = i) m (m.set i (.cells T 0 (cs.set o (.ptr i o)))) := Chg.set _ _ _
  obtain ⟨fz, hB⟩ := h.buf
  have h1 : BAt (m.set i (.cells T 0 (cs.set o (.ptr i o)))) i o T (cs.set o (.ptr i o)) (.ptr i o) buf L :=
    ⟨by simp, h.base, h.next, List.getElem?_set_self (by omega), .inr rfl, by rw [List.getElem?_set_ne (by omega)]; exact h.at1, ⟨fz, hB.chg hc0 (fun b hb e => h.ne (e ▸ hb))⟩, h.ne, ⟨h.lies.pos, by simpa using h.lies.size, h.lies.lies⟩⟩
  generalize m.set i (.cells T 0 (cs.set o (.ptr i o))) = m1 at *
  have hn1 : m1.base ≤ m1.next := by have := h1.base; have := h1.next; omega
  have e1 := aFill1 (.int .u8 0) (.int .u8 b.toNat) (one_int _ _)
  simp -implicitDefEqProofs only [lp_some', mc_true, mc_false, ok_ret, ok_mc, ok_snap, aBin_add, aBin_sub, aBin_mul, aBin_lss, aBin_leq, aBin_gtr, aBin_geq, aBin_eql, aBin_neq, aBin_eqlStr, aBin_neqStr, strEq_bs, aBin_eqlNil, aBin_eqlNil', aBin_neqNil, aBin_neqNil', aUn_not, aUn_neg, aNil_ptr, aOff_ptr, aInt_int, aLenStr_str, aLenS_slice, aLenS_nil, aFold_min, aFold_max, bs_size, bs_empty, Nat.zero_add, Nat.add_zero, Nat.reduceAdd, ok_load, Mem.get_set, Mem.set_set, List.getElem?_cons_zero, List.getElem?_cons_succ, Option.some.injEq, exists_eq_left', List.set_cons_zero, List.set_cons_succ, load_at h1.get, h1.at1, e1, ok_allocS]
  have hca : Chg (fun _ => False) m1 (m1.alloc (.cells T_uint8 0 [.int .u8 b.toNat])) := Chg.alloc _ _ _
  have h2 : BAt (m1.alloc (.cells T_uint8 0 [.int .u8 b.toNat])) i o T (cs.set o (.ptr i o)) (.ptr i o) buf L := by
    obtain ⟨fz, hB⟩ := h1.buf
    exact ⟨(hca.get i h1.next id).trans h1.get, h1.base, Nat.lt_succ_of_lt h1.next, h1.at0, h1.self, h1.at1, ⟨fz, hB.chg hca (fun _ _ => id)⟩, h1.ne, h1.lies⟩
  refine wr_ok (LX := [b]) h2 rfl (Nat.le_succ_of_le hn1) (elems_new T_uint8 1 [.int .u8 b.toNat] m1) (by simpa using hlen) fun m' buf' hc hB' hown hn' => ?_
  simp -implicitDefEqProofs only [lp_some', mc_true, mc_false, ok_ret, ok_mc, ok_snap, aBin_add, aBin_sub, aBin_mul, aBin_lss, aBin_leq, aBin_gtr, aBin_geq, aBin_eql, aBin_neq, aBin_eqlStr, aBin_neqStr, strEq_bs, aBin_eqlNil, aBin_eqlNil', aBin_neqNil, aBin_neqNil', aUn_not, aUn_neg, aNil_ptr, aOff_ptr, aInt_int, aLenStr_str, aLenS_slice, aLenS_nil, aFold_min, aFold_max, bs_size, bs_empty, Nat.zero_add, Nat.add_zero, Nat.reduceAdd, ok_load, Mem.get_set, Mem.set_set, List.getElem?_cons_zero, List.getElem?_cons_succ, Option.some.injEq, exists_eq_left', List.set_cons_zero, List.set_cons_succ]
  refine hq m' buf' ?_ hB' (fun j hj => ?_) hn'
  · refine ((hc0.mono fun b _ h => .inl h).trans (hca.mono fun _ _ h => h.elim) (fun b _ h => h)).trans hc ?_
    exact fun b _ h => h
  · rcases hown j hj with h3 | h3
    · exact .inl h3
    · refine .inr (Nat.le_trans ?_ h3)
      exact Nat.le_succ_of_le hc0.next

theorem writeString_ok {i o T : Nat} {cs : List AV} {a buf : AV} {L X : List UInt8} {m : Mem} {Q : AV → Mem → Prop} (h : BAt m i o T cs a buf L) (hn : m.base ≤ m.next) (hlen : L.length + X.length ≤ 2 ^ 45)
    (hq : ∀ m' buf', Chg (fun b => b = i ∨ own buf b) m m' → BAt m' i o T ((cs.set o (.ptr i o)).set (o + 1) buf') (.ptr i o) buf' (L ++ X) → (∀ j, own buf' j → own buf j ∨ m.next ≤ j) → m'.base ≤ m'.next → Q (.tup [.int .i64 X.length, .nilface]) m') :
    Ok (R fn_strings_Builder_WriteString [.ptr i o, .str (bs X)]) m Q := by
  refine Ok.call (fun n => strings_Builder_WriteString_eq rfl n _ _) ?_
  have ho := h.o
  refine Ok.bnd (copyCheck_ok h.get h.base (by omega) h.at0 h.self h.lies ?_)
  have hc0 : Chg (fun b => b = i) m (m.set i (.cells T 0 (cs.set o (.ptr i o)))) := Chg.set _ _ _
  obtain ⟨fz, hB⟩ := h.buf
  have h1 : BAt (m.set i (.cells T 0 (cs.set o (.ptr i o)))) i o T (cs.set o (.ptr i o)) (.ptr i o) buf L :=
    ⟨by simp, h.base, h.next, List.getElem?_set_self (by omega), .inr rfl, by rw [List.getElem?_set_ne (by omega)]; exact h.at1, ⟨fz, hB.chg hc0 (fun b hb e => h.ne (e ▸ hb))⟩, h.ne, ⟨h.lies.pos, by simpa using h.lies.size, h.lies.lies⟩⟩
  generalize m.set i (.cells T 0 (cs.set o (.ptr i o))) = m1 at *
  have hn1 : m1.base ≤ m1.next := by have := h1.base; have := h1.next; omega
  simp -implicitDefEqProofs only [lp_some', mc_true, mc_false, ok_ret, ok_mc, ok_snap, aBin_add, aBin_sub, aBin_mul, aBin_lss, aBin_leq, aBin_gtr, aBin_geq, aBin_eql, aBin_neq, aBin_eqlStr, aBin_neqStr, strEq_bs, aBin_eqlNil, aBin_eqlNil', aBin_neqNil, aBin_neqNil', aUn_not, aUn_neg, aNil_ptr, aOff_ptr, aInt_int, aLenStr_str, aLenS_slice, aLenS_nil, aFold_min, aFold_max, bs_size, bs_empty, Nat.zero_add, Nat.add_zero, Nat.reduceAdd, ok_load, Mem.get_set, Mem.set_set, List.getElem?_cons_zero, List.getElem?_cons_succ, Option.some.injEq, exists_eq_left', List.set_cons_zero, List.set_cons_succ, load_at h1.get, h1.at1]
  refine wr_ok (LX := X) h1 rfl hn1 (elems_str X m1) (by simpa using hlen) fun m' buf' hc hB' hown hn' => ?_
  simp -implicitDefEqProofs only [lp_some', mc_true, mc_false, ok_ret, ok_mc, ok_snap, aBin_add, aBin_sub, aBin_mul, aBin_lss, aBin_leq, aBin_gtr, aBin_geq, aBin_eql, aBin_neq, aBin_eqlStr, aBin_neqStr, strEq_bs, aBin_eqlNil, aBin_eqlNil', aBin_neqNil, aBin_neqNil', aUn_not, aUn_neg, aNil_ptr, aOff_ptr, aInt_int, aLenStr_str, aLenS_slice, aLenS_nil, aFold_min, aFold_max, bs_size, bs_empty, Nat.zero_add, Nat.add_zero, Nat.reduceAdd, ok_load, Mem.get_set, Mem.set_set, List.getElem?_cons_zero, List.getElem?_cons_succ, Option.some.injEq, exists_eq_left', List.set_cons_zero, List.set_cons_succ]
  refine hq m' buf' ?_ hB' (fun j hj => ?_) hn'
  · exact (hc0.mono fun b _ h => .inl h).trans hc (fun b _ h => h)
  · rcases hown j hj with h3 | h3
    · exact .inl h3
    · exact .inr (Nat.le_trans hc0.next h3)

theorem bldString_ok {i o T : Nat} {cs : List AV} {a buf : AV} {L : List UInt8} {m : Mem} {Q : AV → Mem → Prop} (h : BAt m i o T cs a buf L) (hlen : L.length ≤ 2 ^ 45)
    (hq : ∀ m', Chg (own buf) m m' → BAt m' i o T cs a buf L → m'.next = m.next → Q (.str (bs L)) m') : Ok (R fn_strings_Builder_String [.ptr i o]) m Q := by
  refine Ok.call (fun n => strings_Builder_String_eq rfl n _) ?_
  have ho := h.o
  obtain ⟨fz, hB⟩ := h.buf
  have s1 := fun (k : M AV) => same_at (o := o + 1) h.get h.at1 hB.eqb k
  simp -implicitDefEqProofs only [strings_Builder_String, lp_some', mc_true, mc_false, ok_ret, ok_mc, ok_snap, aBin_add, aBin_sub, aBin_mul, aBin_lss, aBin_leq, aBin_gtr, aBin_geq, aBin_eql, aBin_neq, aBin_eqlStr, aBin_neqStr, strEq_bs, aBin_eqlNil, aBin_eqlNil', aBin_neqNil, aBin_neqNil', aUn_not, aUn_neg, aNil_ptr, aOff_ptr, aInt_int, aLenStr_str, aLenS_slice, aLenS_nil, aFold_min, aFold_max, bs_size, bs_empty, Nat.zero_add, Nat.add_zero, Nat.reduceAdd, ok_load, Mem.get_set, Mem.set_set, List.getElem?_cons_zero, List.getElem?_cons_succ, Option.some.injEq, exists_eq_left', List.set_cons_zero, List.set_cons_succ, load_at h.get, h.at1]
  rcases hB with ⟨rfl, hL⟩ | ⟨j, rfl, hL, hg, hfz, hb, hnx⟩
  · have hL' : L = [] := by simpa [u8s] using hL
    subst hL'
    rw [ok_op]
    refine ⟨.nilptr, m, rfl, ?_⟩
    simp -implicitDefEqProofs only [lp_some', mc_true, mc_false, ok_ret, ok_mc, ok_snap, aBin_add, aBin_sub, aBin_mul, aBin_lss, aBin_leq, aBin_gtr, aBin_geq, aBin_eql, aBin_neq, aBin_eqlStr, aBin_neqStr, strEq_bs, aBin_eqlNil, aBin_eqlNil', aBin_neqNil, aBin_neqNil', aUn_not, aUn_neg, aNil_ptr, aOff_ptr, aInt_int, aLenStr_str, aLenS_slice, aLenS_nil, aFold_min, aFold_max, bs_size, bs_empty, Nat.zero_add, Nat.add_zero, Nat.reduceAdd, ok_load, Mem.get_set, Mem.set_set, List.getElem?_cons_zero, List.getElem?_cons_succ, Option.some.injEq, exists_eq_left', List.set_cons_zero, List.set_cons_succ, load_at h.get, h.at1, s1]
    rw [ok_op]
    refine ⟨.str (bs []), m, rfl, ?_⟩
    simp -implicitDefEqProofs only [lp_some', mc_true, mc_false, ok_ret, ok_mc, ok_snap, aBin_add, aBin_sub, aBin_mul, aBin_lss, aBin_leq, aBin_gtr, aBin_geq, aBin_eql, aBin_neq, aBin_eqlStr, aBin_neqStr, strEq_bs, aBin_eqlNil, aBin_eqlNil', aBin_neqNil, aBin_neqNil', aUn_not, aUn_neg, aNil_ptr, aOff_ptr, aInt_int, aLenStr_str, aLenS_slice, aLenS_nil, aFold_min, aFold_max, bs_size, bs_empty, Nat.zero_add, Nat.add_zero, Nat.reduceAdd, ok_load, Mem.get_set, Mem.set_set, List.getElem?_cons_zero, List.getElem?_cons_succ, Option.some.injEq, exists_eq_left', List.set_cons_zero, List.set_cons_succ]
    exact hq m (Chg.refl _ _) h rfl
  · have hL' : 0 < L.length := by
      rcases L with _ | ⟨b, L⟩
      · exact absurd rfl hL
      · simp
    simp -implicitDefEqProofs only [u8s_length] at s1
    rw [ok_op]
    refine ⟨.ptr j 0, m, by simp [sliceData, hL'], ?_⟩
    simp -implicitDefEqProofs only [lp_some', mc_true, mc_false, ok_ret, ok_mc, ok_snap, aBin_add, aBin_sub, aBin_mul, aBin_lss, aBin_leq, aBin_gtr, aBin_geq, aBin_eql, aBin_neq, aBin_eqlStr, aBin_neqStr, strEq_bs, aBin_eqlNil, aBin_eqlNil', aBin_neqNil, aBin_neqNil', aUn_not, aUn_neg, aNil_ptr, aOff_ptr, aInt_int, aLenStr_str, aLenS_slice, aLenS_nil, aFold_min, aFold_max, bs_size, bs_empty, Nat.zero_add, Nat.add_zero, Nat.reduceAdd, ok_load, Mem.get_set, Mem.set_set, List.getElem?_cons_zero, List.getElem?_cons_succ, Option.some.injEq, exists_eq_left', List.set_cons_zero, List.set_cons_succ, load_at h.get, h.at1, s1, u8s_length]
    rw [ok_op]
    have hg' := hg
    refine ⟨.str (bs L), m.set j (.cells T_uint8 (max fz L.length) (u8s L)), ?_, ?_⟩
    · have h3 : IntKind.i64.max = 9223372036854775807 := by decide
      unfold unsafeStr
      simp -implicitDefEqProofs only [hg]
      rw [if_neg (by omega), if_pos ⟨hb, trivial, hfz, by omega, by omega, trivial, by simp⟩]
      have : (u8s L).take (L.length : Int).toNat = u8s L := by rw [List.take_of_length_le (by simp)]
      rw [this, ofByteCells_u8s]
      simp [bs]
    · simp -implicitDefEqProofs only [lp_some', mc_true, mc_false, ok_ret, ok_mc, ok_snap, aBin_add, aBin_sub, aBin_mul, aBin_lss, aBin_leq, aBin_gtr, aBin_geq, aBin_eql, aBin_neq, aBin_eqlStr, aBin_neqStr, strEq_bs, aBin_eqlNil, aBin_eqlNil', aBin_neqNil, aBin_neqNil', aUn_not, aUn_neg, aNil_ptr, aOff_ptr, aInt_int, aLenStr_str, aLenS_slice, aLenS_nil, aFold_min, aFold_max, bs_size, bs_empty, Nat.zero_add, Nat.add_zero, Nat.reduceAdd, ok_load, Mem.get_set, Mem.set_set, List.getElem?_cons_zero, List.getElem?_cons_succ, Option.some.injEq, exists_eq_left', List.set_cons_zero, List.set_cons_succ]
      have hc : Chg (own (.slice j 0 (u8s L).length 1)) m (m.set j (.cells T_uint8 (max fz L.length) (u8s L))) := Chg.set _ _ _
      refine hq _ hc ⟨(hc.get i h.next h.ne).trans h.get, h.base, h.next, h.at0, h.self, h.at1, ⟨max fz L.length, .inr ⟨j, rfl, hL, by simp, by simp at hfz ⊢; omega, hb, hnx⟩⟩, h.ne, h.lies⟩ rfl
end SplA
