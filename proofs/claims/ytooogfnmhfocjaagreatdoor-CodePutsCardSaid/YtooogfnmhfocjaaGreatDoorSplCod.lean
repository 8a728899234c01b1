/- What the functions of the coders do. -/
import Derived.Test.YtooogfnmhfocjaaGreatDoorSplBld
namespace SplA
open Go.Proofs.YtooogfnmhfocjaaGreatDoor.Spl Go Go.Proofs
set_option maxRecDepth 100000
set_option linter.unusedVariables false
set_option linter.unusedSimpArgs false

/-- What a coder holds. -/
structure Cst where
  s : Bool
  r : Nat
  O : List UInt8
  low : Nat
  last : Nat
  full : Nat
  /-- the type of the object it lies in, and what else is in it -/
  T : Nat
  rest : List AV
def codCells (c : Cst) (a buf : AV) : List AV := .bool c.s :: .int .u64 c.r :: a :: buf :: .int .u64 c.low :: .int .i64 c.last :: .int .i64 c.full :: c.rest
abbrev CodAt (m : Mem) (i : Nat) (c : Cst) (a buf : AV) : Prop := BAt m i 2 c.T (codCells c a buf) a buf c.O
theorem cod_lies (c : Cst) (a buf : AV) (hT : c.T = T_code_writer) (hr : c.rest.length = 1) : Lies c.T 2 (codCells c a buf) where
  pos := by rw [hT, show Tryz.prog.cellsOf T_code_writer = 7 + 1 by kernel_rfl]; decide
  size := by rw [hT, show Tryz.prog.cellsOf T_code_writer = 7 + 1 by kernel_rfl]; simp [codCells, hr]
  lies := by rw [hT]; kernel_rfl
theorem bld_lies (a buf : AV) : Lies T_strings_Builder 0 [a, buf] where
  pos := by rw [show Tryz.prog.cellsOf T_strings_Builder = 2 by kernel_rfl]; decide
  size := by rw [show Tryz.prog.cellsOf T_strings_Builder = 2 by kernel_rfl]; exact Nat.le_refl _
  lies := by kernel_rfl
/-- A coder, of which other things are changed. -/
theorem CodAt.set {m : Mem} {i : Nat} {c c' : Cst} {a buf : AV} (h : CodAt m i c a buf) (hO : c'.O = c.O) (hT : c'.T = c.T := by rfl) (hr : c'.rest = c.rest := by rfl) : CodAt (m.set i (.cells c'.T 0 (codCells c' a buf))) i c' a buf := by
  obtain ⟨fz, hB⟩ := h.buf
  have hl := h.lies
  exact ⟨by simp, h.base, h.next, rfl, h.self, rfl, ⟨fz, by rw [hO]; exact hB.chg (Chg.set _ _ _) (fun b hb e => h.ne (e ▸ hb))⟩, h.ne, ⟨by rw [hT]; exact hl.pos, by have := hl.size; simp -implicitDefEqProofs only [codCells, List.length_cons, hT, hr] at this ⊢; exact this, by rw [hT]; exact hl.lies⟩⟩
theorem CodAt.chg {F : Nat → Prop} {m m' : Mem} {i : Nat} {c : Cst} {a buf : AV} (h : CodAt m i c a buf) (hc : Chg F m m') (hi : ¬ F i) (hF : ∀ b, own buf b → ¬ F b) : CodAt m' i c a buf := by
  obtain ⟨fz, hB⟩ := h.buf
  exact ⟨(hc.get i h.next hi).trans h.get, by rw [hc.base]; exact h.base, Nat.lt_of_lt_of_le h.next hc.next, h.at0, h.self, h.at1, ⟨fz, hB.chg hc hF⟩, h.ne, h.lies⟩

/-- From one coder's memory to another's. -/
structure Fr (i : Nat) (buf : AV) (m : Mem) (buf' : AV) (m' : Mem) : Prop where
  chg : Chg (fun b => b = i ∨ own buf b) m m'
  own : ∀ j, own buf' j → own buf j ∨ m.next ≤ j
theorem Fr.refl (i : Nat) (buf : AV) (m : Mem) : Fr i buf m buf m := ⟨Chg.refl _ _, fun _ h => .inl h⟩
theorem Fr.set {i : Nat} {buf : AV} {m : Mem} (o : AObj) : Fr i buf m buf (m.set i o) := ⟨(Chg.set _ _ _).mono fun _ _ h => .inl h, fun _ h => .inl h⟩
theorem Fr.trans {i : Nat} {b0 b1 b2 : AV} {m0 m1 m2 : Mem} (h : Fr i b0 m0 b1 m1) (g : Fr i b1 m1 b2 m2) : Fr i b0 m0 b2 m2 where
  chg := h.chg.trans g.chg (fun j hj hG => by
    rcases hG with hG | hG
    · exact .inl hG
    · rcases h.own j hG with h1 | h1
      · exact .inr h1
      · omega)
  own := fun j hj => by
    rcases g.own j hj with h1 | h1
    · exact h.own j h1
    · exact .inr (Nat.le_trans h.chg.next h1)

def lastL : Nat → List UInt8
  | 0 => []
  | b + 1 => [UInt8.ofNat b]
theorem lastL_length (n : Nat) : (lastL n).length ≤ 1 := by cases n <;> simp [lastL]
/-- What settle leaves. -/
def Cst.settle (k : Nat) (c : Cst) : Cst := { c with O := c.O ++ (if c.last = 0 then [] else [UInt8.ofNat (c.last - 1 + k)]) ++ List.replicate c.full (UInt8.ofNat (255 + k)), last := 0, full := 0 }

theorem u8_ofNat (n : Nat) : AV.int .u8 (IntKind.u8.wrap (n : Int)) = .int .u8 (UInt8.ofNat n).toNat := by
  rw [toNat_ofNat]
  congr 1

theorem settle_loop {i k : Nat} {Q : AV → Mem → Prop} (hk : k ≤ 1) {m0 : Mem} {buf0 : AV} {c0 : Cst} (hlen : c0.O.length + c0.full ≤ 2 ^ 40)
    (hq : ∀ m' a' buf', CodAt m' i { c0 with O := c0.O ++ List.replicate c0.full (UInt8.ofNat (255 + k)), last := 0, full := 0 } a' buf' → Fr i buf0 m0 buf' m' → Q (.tup []) m')
    {a0 : AV} (h0 : CodAt m0 i c0 a0 buf0) :
    Ok (fun n => loopN (fun r l => rc_Coder_settle_l0 (fcall Tryz.prog ext1 n) n r (l.getD 0 .undef) (l.getD 1 .undef)) n [.ptr i 0, .int .i64 k]) m0 Q := by
  refine Ok.loop (fun f l m => l = [.ptr i 0, .int .i64 k] ∧ ∃ d a buf, f + d = c0.full ∧ CodAt m i { c0 with O := c0.O ++ List.replicate d (UInt8.ofNat (255 + k)), full := f } a buf ∧ Fr i buf0 m0 buf m) ?_ (k := c0.full) ⟨rfl, 0, a0, buf0, rfl, by simpa using h0, Fr.refl _ _ _⟩
  rintro f l m rec ⟨rfl, d, a, buf, hd, hc, hF⟩ ih
  have hg := hc.get
  have hn : m.base ≤ m.next := by have := hc.base; have := hc.next; omega
  simp -implicitDefEqProofs only [codCells] at hg
  simp -implicitDefEqProofs only [List.getD_cons_zero, List.getD_cons_succ, rc_Coder_settle_l0, lp_some', mc_true, mc_false, ok_ret, ok_mc, ok_snap, aBin_add, aBin_sub, aBin_mul, aBin_lss, aBin_leq, aBin_gtr, aBin_geq, aBin_eql, aBin_neq, aBin_eqlStr, aBin_neqStr, strEq_bs, aBin_eqlNil, aBin_eqlNil', aBin_neqNil, aBin_neqNil', aUn_not, aUn_neg, aNil_ptr, aOff_ptr, aInt_int, aLenStr_str, aLenS_slice, aLenS_nil, aFold_min, aFold_max, bs_size, bs_empty, Nat.zero_add, Nat.add_zero, Nat.reduceAdd, ok_load, Mem.get_set, Mem.set_set, List.getElem?_cons_zero, List.getElem?_cons_succ, Option.some.injEq, exists_eq_left', List.set_cons_zero, List.set_cons_succ, load_at hg]
  cases f with
  | zero =>
    have e : d = c0.full := by omega
    subst e
    have hb := hc.base
    have hset := hc.set (c' := { c0 with O := c0.O ++ List.replicate c0.full (UInt8.ofNat (255 + k)), last := 0, full := 0 }) rfl
    simp -implicitDefEqProofs (disch := first | assumption | omega | (simp; done) | (simp; omega)) only [lp_some', mc_true, mc_false, ok_ret, ok_mc, ok_snap, aBin_add, aBin_sub, aBin_mul, aBin_lss, aBin_leq, aBin_gtr, aBin_geq, aBin_eql, aBin_neq, aBin_eqlStr, aBin_neqStr, strEq_bs, aBin_eqlNil, aBin_eqlNil', aBin_neqNil, aBin_neqNil', aUn_not, aUn_neg, aNil_ptr, aOff_ptr, aInt_int, aLenStr_str, aLenS_slice, aLenS_nil, aFold_min, aFold_max, bs_size, bs_empty, Nat.zero_add, Nat.add_zero, Nat.reduceAdd, ok_load, Mem.get_set, Mem.set_set, List.getElem?_cons_zero, List.getElem?_cons_succ, Option.some.injEq, exists_eq_left', List.set_cons_zero, List.set_cons_succ, ok_store hg hb, Int.natCast_zero, Int.lt_irrefl, decide_false, Bool.false_eq_true, if_false]
    exact hq _ a buf hset (hF.trans (Fr.set _))
  | succ f =>
    have hf : (0 : Int) < ((f + 1 : Nat) : Int) := by omega
    have e1 : IntKind.i64.wrap (255 + (k : Int)) = ((255 + k : Nat) : Int) := by rw [IntWalk.i64_in _ (by omega)]; omega
    simp -implicitDefEqProofs only [hf, decide_true, if_true, lp_some', mc_true, mc_false, ok_ret, ok_mc, ok_snap, aBin_add, aBin_sub, aBin_mul, aBin_lss, aBin_leq, aBin_gtr, aBin_geq, aBin_eql, aBin_neq, aBin_eqlStr, aBin_neqStr, strEq_bs, aBin_eqlNil, aBin_eqlNil', aBin_neqNil, aBin_neqNil', aUn_not, aUn_neg, aNil_ptr, aOff_ptr, aInt_int, aLenStr_str, aLenS_slice, aLenS_nil, aFold_min, aFold_max, bs_size, bs_empty, Nat.zero_add, Nat.add_zero, Nat.reduceAdd, ok_load, Mem.get_set, Mem.set_set, List.getElem?_cons_zero, List.getElem?_cons_succ, Option.some.injEq, exists_eq_left', List.set_cons_zero, List.set_cons_succ, e1, u8_ofNat]
    refine Ok.bnd (writeByte_ok hc hn (by simp; omega) fun m1 buf1 hch hc1 hown hn1 => ?_)
    have hc1' : CodAt m1 i { c0 with O := c0.O ++ List.replicate d (UInt8.ofNat (255 + k)) ++ [UInt8.ofNat (255 + k)], full := f + 1 } (.ptr i 2) buf1 := hc1
    have hg1 := hc1'.get
    have hb1 := hc1'.base
    simp -implicitDefEqProofs only [codCells] at hg1
    have e2 : IntKind.i64.wrap (((f + 1 : Nat) : Int) - 1) = (f : Int) := by rw [IntWalk.i64_in _ (by omega)]; omega
    simp -implicitDefEqProofs (disch := first | assumption | omega | (simp; done) | (simp; omega)) only [lp_some', mc_true, mc_false, ok_ret, ok_mc, ok_snap, aBin_add, aBin_sub, aBin_mul, aBin_lss, aBin_leq, aBin_gtr, aBin_geq, aBin_eql, aBin_neq, aBin_eqlStr, aBin_neqStr, strEq_bs, aBin_eqlNil, aBin_eqlNil', aBin_neqNil, aBin_neqNil', aUn_not, aUn_neg, aNil_ptr, aOff_ptr, aInt_int, aLenStr_str, aLenS_slice, aLenS_nil, aFold_min, aFold_max, bs_size, bs_empty, Nat.zero_add, Nat.add_zero, Nat.reduceAdd, ok_load, Mem.get_set, Mem.set_set, List.getElem?_cons_zero, List.getElem?_cons_succ, Option.some.injEq, exists_eq_left', List.set_cons_zero, List.set_cons_succ, load_at hg1, e2, ok_store hg1 hb1]
    have hset := hc1'.set (c' := { c0 with O := c0.O ++ List.replicate (d + 1) (UInt8.ofNat (255 + k)), full := f }) (by simp [List.replicate_succ'])
    exact ih f _ _ (Nat.lt_succ_self _) ⟨rfl, d + 1, .ptr i 2, buf1, by omega, hset, (hF.trans ⟨hch, hown⟩).trans (Fr.set _)⟩

theorem settle_ok {i k : Nat} {c : Cst} {a buf : AV} {m : Mem} {Q : AV → Mem → Prop} (h : CodAt m i c a buf) (hk : k ≤ 1) (hl : c.last ≤ 255) (hlen : c.O.length + 1 + c.full ≤ 2 ^ 40)
    (hq : ∀ m' a' buf', CodAt m' i (c.settle k) a' buf' → Fr i buf m buf' m' → Q (.tup []) m') : Ok (R fn_rc_Coder_settle [.ptr i 0, .int .i64 k]) m Q := by
  refine Ok.call (fun n => rc_Coder_settle_eq rfl n _ _) ?_
  have hg := h.get
  have hn : m.base ≤ m.next := by have := h.base; have := h.next; omega
  simp -implicitDefEqProofs only [codCells] at hg
  simp -implicitDefEqProofs only [rc_Coder_settle, rc_Coder_settle_j0, lp_some', mc_true, mc_false, ok_ret, ok_mc, ok_snap, aBin_add, aBin_sub, aBin_mul, aBin_lss, aBin_leq, aBin_gtr, aBin_geq, aBin_eql, aBin_neq, aBin_eqlStr, aBin_neqStr, strEq_bs, aBin_eqlNil, aBin_eqlNil', aBin_neqNil, aBin_neqNil', aUn_not, aUn_neg, aNil_ptr, aOff_ptr, aInt_int, aLenStr_str, aLenS_slice, aLenS_nil, aFold_min, aFold_max, bs_size, bs_empty, Nat.zero_add, Nat.add_zero, Nat.reduceAdd, ok_load, Mem.get_set, Mem.set_set, List.getElem?_cons_zero, List.getElem?_cons_succ, Option.some.injEq, exists_eq_left', List.set_cons_zero, List.set_cons_succ, load_at hg]
  cases hlast : c.last with
  | zero =>
    simp -implicitDefEqProofs only [Int.natCast_zero, Int.lt_irrefl, decide_false, Bool.false_eq_true, if_false]
    refine settle_loop hk (by omega) (fun m' a' buf' hc hF => hq m' a' buf' ?_ hF) h
    simpa [Cst.settle, hlast] using hc
  | succ b =>
    have hf : (0 : Int) < ((b + 1 : Nat) : Int) := by omega
    have e0 : IntKind.i64.wrap (((b + 1 : Nat) : Int) - 1) = (b : Int) := by rw [IntWalk.i64_in _ (by omega)]; omega
    have e1 : IntKind.i64.wrap ((b : Int) + (k : Int)) = ((b + k : Nat) : Int) := by rw [IntWalk.i64_in _ (by omega)]; omega
    simp -implicitDefEqProofs only [hf, decide_true, if_true, lp_some', mc_true, mc_false, ok_ret, ok_mc, ok_snap, aBin_add, aBin_sub, aBin_mul, aBin_lss, aBin_leq, aBin_gtr, aBin_geq, aBin_eql, aBin_neq, aBin_eqlStr, aBin_neqStr, strEq_bs, aBin_eqlNil, aBin_eqlNil', aBin_neqNil, aBin_neqNil', aUn_not, aUn_neg, aNil_ptr, aOff_ptr, aInt_int, aLenStr_str, aLenS_slice, aLenS_nil, aFold_min, aFold_max, bs_size, bs_empty, Nat.zero_add, Nat.add_zero, Nat.reduceAdd, ok_load, Mem.get_set, Mem.set_set, List.getElem?_cons_zero, List.getElem?_cons_succ, Option.some.injEq, exists_eq_left', List.set_cons_zero, List.set_cons_succ, e0, e1, u8_ofNat]
    refine Ok.bnd (writeByte_ok h hn (by omega) fun m1 buf1 hch hc1 hown hn1 => ?_)
    have hc1' : CodAt m1 i { c with O := c.O ++ [UInt8.ofNat (b + k)] } (.ptr i 2) buf1 := hc1
    simp -implicitDefEqProofs only [lp_some', mc_true, mc_false, ok_ret, ok_mc, ok_snap, aBin_add, aBin_sub, aBin_mul, aBin_lss, aBin_leq, aBin_gtr, aBin_geq, aBin_eql, aBin_neq, aBin_eqlStr, aBin_neqStr, strEq_bs, aBin_eqlNil, aBin_eqlNil', aBin_neqNil, aBin_neqNil', aUn_not, aUn_neg, aNil_ptr, aOff_ptr, aInt_int, aLenStr_str, aLenS_slice, aLenS_nil, aFold_min, aFold_max, bs_size, bs_empty, Nat.zero_add, Nat.add_zero, Nat.reduceAdd, ok_load, Mem.get_set, Mem.set_set, List.getElem?_cons_zero, List.getElem?_cons_succ, Option.some.injEq, exists_eq_left', List.set_cons_zero, List.set_cons_succ]
    refine settle_loop hk (by simp; omega) (fun m' a' buf' hc hF => hq m' a' buf' ?_ (Fr.trans ⟨hch, hown⟩ hF)) hc1'
    simpa [Cst.settle, hlast] using hc

variable {T : Nat} {rest : List AV}
/-- The interval that a coder stands for. -/
structure Cst.Is (c : Cst) (T : Nat) (rest : List AV) (x : Iv) : Prop where
  dig : Go.Proofs.YtooogfnmhfocjaaGreatDoor.Spl.dig x.n (x.V / 4294967296) = c.O ++ lastL c.last ++ List.replicate c.full 255
  low : c.low = x.V % 4294967296
  rng : rngOf c.s c.r = x.R
  last : c.last ≤ 255
  none : c.last = 0 → c.low + x.R ≤ 4294967296
  T : c.T = T
  rest : c.rest = rest
theorem Cst.Is.len {c : Cst} {x : Iv} (h : c.Is T rest x) : c.O.length + c.full ≤ x.n := by
  have := congrArg List.length h.dig
  simp [dig_length] at this
  omega
theorem Cst.Is.lt {c : Cst} {x : Iv} (h : c.Is T rest x) : c.low < 4294967296 := by rw [h.low]; exact Nat.mod_lt _ (by decide)

/-- One carried. -/
theorem is_carry {c : Cst} {x : Iv} {u p : Nat} (h : c.Is T rest x) (hx : x.R ≤ 4294967295) (hp : 1 ≤ p) (hu : u + p ≤ x.R) (hc : 4294967296 ≤ c.low + u) :
    ({ (c.settle 1) with s := true, r := p, low := c.low + u - 4294967296 } : Cst).Is T rest ⟨x.n, x.V + u, p⟩ := by
  have hlt := h.lt
  have hlow := h.low
  have hnz : c.last ≠ 0 := fun e => by have := h.none e; omega
  have e1 : (x.V + u) / 4294967296 = x.V / 4294967296 + 1 := by omega
  have e2 : (x.V + u) % 4294967296 = c.low + u - 4294967296 := by omega
  obtain ⟨b, hb⟩ : ∃ b, c.last = b + 1 := ⟨c.last - 1, by omega⟩
  have hl := h.last
  have hd := h.dig
  rw [hb, lastL] at hd
  have hbn : (UInt8.ofNat b).toNat = b := by rw [toNat_ofNat]; omega
  have := dig_carry c.full x.n (x.V / 4294967296) c.O (UInt8.ofNat b) hd (by omega)
  refine ⟨?_, e2.symm, rfl, by simp [Cst.settle], fun _ => ?_, h.T, h.rest⟩
  · show Go.Proofs.YtooogfnmhfocjaaGreatDoor.Spl.dig x.n ((x.V + u) / 4294967296) = _
    rw [e1, this, hbn]
    simp [Cst.settle, hb, lastL]
  · show c.low + u - 4294967296 + p ≤ _
    omega
/-- Nothing carried. -/
theorem is_plain {c : Cst} {x : Iv} {u p : Nat} (h : c.Is T rest x) (hu : u + p ≤ x.R) (hc : c.low + u < 4294967296) :
    ({ c with s := true, r := p, low := c.low + u } : Cst).Is T rest ⟨x.n, x.V + u, p⟩ := by
  have hlow := h.low
  have e1 : (x.V + u) / 4294967296 = x.V / 4294967296 := by omega
  have e2 : (x.V + u) % 4294967296 = c.low + u := by omega
  refine ⟨?_, e2.symm, rfl, h.last, fun e => ?_, h.T, h.rest⟩
  · show Go.Proofs.YtooogfnmhfocjaaGreatDoor.Spl.dig x.n ((x.V + u) / 4294967296) = _
    rw [e1]; exact h.dig
  · have := h.none e
    show c.low + u + p ≤ _
    omega
def Cst.tell (b : Nat) (c : Cst) : Cst := if b = 255 then { c with full := c.full + 1 } else { (c.settle 0) with last := b + 1 }
/-- An octet told. -/
theorem is_tell {c : Cst} {x : Iv} (h : c.Is T rest x) (hr : c.s = true) :
    ({ (c.tell (c.low / 16777216)) with r := x.R * 256, low := c.low % 16777216 * 256 } : Cst).Is T rest ⟨x.n + 1, x.V * 256, x.R * 256⟩ := by
  have hlt := h.lt
  have hlow := h.low
  have e1 : x.V * 256 / 4294967296 = x.V / 4294967296 * 256 + c.low / 16777216 := by omega
  have e2 : x.V * 256 % 4294967296 = c.low % 16777216 * 256 := by omega
  have hb : c.low / 16777216 < 256 := by omega
  have hd : Go.Proofs.YtooogfnmhfocjaaGreatDoor.Spl.dig (x.n + 1) (x.V * 256 / 4294967296) = c.O ++ lastL c.last ++ List.replicate c.full 255 ++ [UInt8.ofNat (c.low / 16777216)] := by rw [e1, dig_snoc _ _ _ hb, h.dig]
  unfold Cst.tell
  by_cases e : c.low / 16777216 = 255
  · rw [if_pos e]
    refine ⟨?_, e2.symm, by simp [rngOf, hr], h.last, fun e' => ?_, h.T, h.rest⟩
    · show Go.Proofs.YtooogfnmhfocjaaGreatDoor.Spl.dig (x.n + 1) (x.V * 256 / 4294967296) = _
      rw [hd, e, List.replicate_succ', ← List.append_assoc]; rfl
    · have := h.none e'
      show c.low % 16777216 * 256 + x.R * 256 ≤ _
      omega
  · rw [if_neg e]
    refine ⟨?_, e2.symm, by simp [rngOf, hr, Cst.settle], by show c.low / 16777216 + 1 ≤ 255; omega, fun e' => by simp at e', h.T, h.rest⟩
    show Go.Proofs.YtooogfnmhfocjaaGreatDoor.Spl.dig (x.n + 1) (x.V * 256 / 4294967296) = _
    rw [hd]
    cases hl : c.last with
    | zero => simp [Cst.settle, hl, lastL]
    | succ b => simp [Cst.settle, hl, lastL]

theorem tell_ok {i b : Nat} {c : Cst} {a buf : AV} {m : Mem} {Q : AV → Mem → Prop} (h : CodAt m i c a buf) (hb : b ≤ 255) (hl : c.last ≤ 255) (hlen : c.O.length + 1 + c.full ≤ 2 ^ 40)
    (hq : ∀ m' a' buf', CodAt m' i (c.tell b) a' buf' → Fr i buf m buf' m' → Q (.tup []) m') : Ok (R fn_rc_Coder_tell [.ptr i 0, .int .i64 b]) m Q := by
  refine Ok.call (fun n => rc_Coder_tell_eq rfl n _ _) ?_
  have hg := h.get
  have hbs := h.base
  simp -implicitDefEqProofs only [codCells] at hg
  simp -implicitDefEqProofs only [rc_Coder_tell, lp_some', mc_true, mc_false, ok_ret, ok_mc, ok_snap, aBin_add, aBin_sub, aBin_mul, aBin_lss, aBin_leq, aBin_gtr, aBin_geq, aBin_eql, aBin_neq, aBin_eqlStr, aBin_neqStr, strEq_bs, aBin_eqlNil, aBin_eqlNil', aBin_neqNil, aBin_neqNil', aUn_not, aUn_neg, aNil_ptr, aOff_ptr, aInt_int, aLenStr_str, aLenS_slice, aLenS_nil, aFold_min, aFold_max, bs_size, bs_empty, Nat.zero_add, Nat.add_zero, Nat.reduceAdd, ok_load, Mem.get_set, Mem.set_set, List.getElem?_cons_zero, List.getElem?_cons_succ, Option.some.injEq, exists_eq_left', List.set_cons_zero, List.set_cons_succ]
  by_cases e : b = 255
  · subst e
    have e1 : IntKind.i64.wrap ((c.full : Int) + 1) = ((c.full + 1 : Nat) : Int) := by rw [IntWalk.i64_in _ (by omega)]; omega
    have e255 : ((255 : Nat) : Int) = 255 := rfl
    have e2 : c.tell 255 = { c with full := c.full + 1 } := by simp [Cst.tell]
    rw [e2] at hq
    simp -implicitDefEqProofs (disch := first | assumption | omega | (simp; done) | (simp; omega)) only [lp_some', mc_true, mc_false, ok_ret, ok_mc, ok_snap, aBin_add, aBin_sub, aBin_mul, aBin_lss, aBin_leq, aBin_gtr, aBin_geq, aBin_eql, aBin_neq, aBin_eqlStr, aBin_neqStr, strEq_bs, aBin_eqlNil, aBin_eqlNil', aBin_neqNil, aBin_neqNil', aUn_not, aUn_neg, aNil_ptr, aOff_ptr, aInt_int, aLenStr_str, aLenS_slice, aLenS_nil, aFold_min, aFold_max, bs_size, bs_empty, Nat.zero_add, Nat.add_zero, Nat.reduceAdd, ok_load, Mem.get_set, Mem.set_set, List.getElem?_cons_zero, List.getElem?_cons_succ, Option.some.injEq, exists_eq_left', List.set_cons_zero, List.set_cons_succ, load_at hg, e1, ok_store hg hbs, e255, decide_true, if_true]
    exact hq _ a buf (h.set (c' := { c with full := c.full + 1 }) rfl) (Fr.set _)
  · have e' : ¬ (b : Int) = 255 := by omega
    simp -implicitDefEqProofs only [e', decide_false, Bool.false_eq_true, if_false]
    refine Ok.bnd (settle_ok (k := 0) h (by omega) hl hlen fun m1 a1 buf1 hc1 hF => ?_)
    have hg1 := hc1.get
    have hb1 := hc1.base
    simp -implicitDefEqProofs only [codCells] at hg1
    have e1 : IntKind.i64.wrap ((b : Int) + 1) = ((b + 1 : Nat) : Int) := by rw [IntWalk.i64_in _ (by omega)]; omega
    simp -implicitDefEqProofs (disch := first | assumption | omega | (simp; done) | (simp; omega)) only [lp_some', mc_true, mc_false, ok_ret, ok_mc, ok_snap, aBin_add, aBin_sub, aBin_mul, aBin_lss, aBin_leq, aBin_gtr, aBin_geq, aBin_eql, aBin_neq, aBin_eqlStr, aBin_neqStr, strEq_bs, aBin_eqlNil, aBin_eqlNil', aBin_neqNil, aBin_neqNil', aUn_not, aUn_neg, aNil_ptr, aOff_ptr, aInt_int, aLenStr_str, aLenS_slice, aLenS_nil, aFold_min, aFold_max, bs_size, bs_empty, Nat.zero_add, Nat.add_zero, Nat.reduceAdd, ok_load, Mem.get_set, Mem.set_set, List.getElem?_cons_zero, List.getElem?_cons_succ, Option.some.injEq, exists_eq_left', List.set_cons_zero, List.set_cons_succ, e1, ok_store hg1 hb1]
    have e2 : c.tell b = { (c.settle 0) with last := b + 1 } := by simp [Cst.tell, e]
    rw [e2] at hq
    exact hq _ a1 buf1 (hc1.set (c' := { (c.settle 0) with last := b + 1 }) rfl) (hF.trans (Fr.set _))

theorem carry_ok {i : Nat} {c : Cst} {a buf : AV} {m : Mem} {Q : AV → Mem → Prop} (h : CodAt m i c a buf) (hl : c.last ≤ 255) (hlen : c.O.length + 1 + c.full ≤ 2 ^ 40)
    (hq : ∀ m' a' buf', CodAt m' i (c.settle 1) a' buf' → Fr i buf m buf' m' → Q (.tup []) m') : Ok (R fn_rc_Coder_carry [.ptr i 0]) m Q := by
  refine Ok.call (fun n => rc_Coder_carry_eq rfl n _) ?_
  simp -implicitDefEqProofs only [rc_Coder_carry]
  refine Ok.bnd (settle_ok (k := 1) h (by omega) hl hlen fun m1 a1 buf1 hc1 hF => ?_)
  simp -implicitDefEqProofs only [lp_some', mc_true, mc_false, ok_ret, ok_mc, ok_snap, aBin_add, aBin_sub, aBin_mul, aBin_lss, aBin_leq, aBin_gtr, aBin_geq, aBin_eql, aBin_neq, aBin_eqlStr, aBin_neqStr, strEq_bs, aBin_eqlNil, aBin_eqlNil', aBin_neqNil, aBin_neqNil', aUn_not, aUn_neg, aNil_ptr, aOff_ptr, aInt_int, aLenStr_str, aLenS_slice, aLenS_nil, aFold_min, aFold_max, bs_size, bs_empty, Nat.zero_add, Nat.add_zero, Nat.reduceAdd, ok_load, Mem.get_set, Mem.set_set, List.getElem?_cons_zero, List.getElem?_cons_succ, Option.some.injEq, exists_eq_left', List.set_cons_zero, List.set_cons_succ]
  exact hq _ a1 buf1 hc1 hF

theorem code_loop {i : Nat} {z : Iv} {Q : AV → Mem → Prop} {m0 : Mem} {buf0 : AV} (hq : ∀ m' c' a' buf', CodAt m' i c' a' buf' → c'.Is T rest z → Fr i buf0 m0 buf' m' → Q (.tup []) m') :
    ∀ {k : Nat} {x : Iv} {c0 : Cst} {a0 : AV}, CodAt m0 i c0 a0 buf0 → c0.Is T rest x → c0.s = true → 1 ≤ x.R → x.R ≤ 4294967295 → 16777216 ≤ x.R * 256 ^ k → x.fill k = z → x.n + k < 2 ^ 39 →
      Ok (fun n => loopN (fun r l => rc_Coder_Code_l0 (fcall Tryz.prog ext1 n) n r (l.getD 0 .undef)) n [.ptr i 0]) m0 Q := by
  intro k x c0 a0 h0 hI0 hs0 h1 h2 h3 h4 h5
  refine Ok.loop (fun k l m => l = [.ptr i 0] ∧ ∃ x c a buf, CodAt m i c a buf ∧ c.Is T rest x ∧ c.s = true ∧ Fr i buf0 m0 buf m ∧ 1 ≤ x.R ∧ x.R ≤ 4294967295 ∧ 16777216 ≤ x.R * 256 ^ k ∧ x.fill k = z ∧ x.n + k < 2 ^ 39) ?_ (k := k) ⟨rfl, x, c0, a0, buf0, h0, hI0, hs0, Fr.refl _ _ _, h1, h2, h3, h4, h5⟩
  clear h0 hI0 hs0 h1 h2 h3 h4 h5
  rintro k l m rec ⟨rfl, x, c, a, buf, h, hI, hs, hF, h1, h2, h3, h4, h5⟩ ih
  have hg := h.get
  have hb := h.base
  have hR := hI.rng
  have hlt := hI.lt
  have hlen := hI.len
  simp -implicitDefEqProofs only [hs, rngOf, if_true] at hR
  simp -implicitDefEqProofs only [codCells] at hg
  simp -implicitDefEqProofs only [List.getD_cons_zero, rc_Coder_Code_l0, lp_some', mc_true, mc_false, ok_ret, ok_mc, ok_snap, aBin_add, aBin_sub, aBin_mul, aBin_lss, aBin_leq, aBin_gtr, aBin_geq, aBin_eql, aBin_neq, aBin_eqlStr, aBin_neqStr, strEq_bs, aBin_eqlNil, aBin_eqlNil', aBin_neqNil, aBin_neqNil', aUn_not, aUn_neg, aNil_ptr, aOff_ptr, aInt_int, aLenStr_str, aLenS_slice, aLenS_nil, aFold_min, aFold_max, bs_size, bs_empty, Nat.zero_add, Nat.add_zero, Nat.reduceAdd, ok_load, Mem.get_set, Mem.set_set, List.getElem?_cons_zero, List.getElem?_cons_succ, Option.some.injEq, exists_eq_left', List.set_cons_zero, List.set_cons_succ]
  refine Ok.bnd (small_ok hg hb ?_)
  by_cases hr : 16777216 ≤ c.r
  · rw [if_pos hr]
    simp -implicitDefEqProofs only [lp_some', mc_true, mc_false, ok_ret, ok_mc, ok_snap, aBin_add, aBin_sub, aBin_mul, aBin_lss, aBin_leq, aBin_gtr, aBin_geq, aBin_eql, aBin_neq, aBin_eqlStr, aBin_neqStr, strEq_bs, aBin_eqlNil, aBin_eqlNil', aBin_neqNil, aBin_neqNil', aUn_not, aUn_neg, aNil_ptr, aOff_ptr, aInt_int, aLenStr_str, aLenS_slice, aLenS_nil, aFold_min, aFold_max, bs_size, bs_empty, Nat.zero_add, Nat.add_zero, Nat.reduceAdd, ok_load, Mem.get_set, Mem.set_set, List.getElem?_cons_zero, List.getElem?_cons_succ, Option.some.injEq, exists_eq_left', List.set_cons_zero, List.set_cons_succ]
    have e : x.fill k = x := by
      cases k with
      | zero => rfl
      | succ k => simp -implicitDefEqProofs only [Iv.fill]; rw [if_pos (by omega)]
    rw [e] at h4
    subst h4
    exact hq m c a buf h hI hF
  · rw [if_neg hr]
    have hc1 := h.set (c' := { c with r := c.r * 256 }) rfl
    have hm : m.set i (.cells c.T 0 (.bool c.s :: .int .u64 (c.r * 256 : Nat) :: a :: buf :: .int .u64 c.low :: .int .i64 c.last :: .int .i64 c.full :: c.rest)) = m.set i (.cells c.T 0 (codCells { c with r := c.r * 256 } a buf)) := rfl
    rw [hm]
    have hF1 := hF.trans (Fr.set (.cells c.T 0 (codCells { c with r := c.r * 256 } a buf)))
    generalize m.set i (.cells c.T 0 (codCells { c with r := c.r * 256 } a buf)) = m1 at *
    have hg1 := hc1.get
    simp -implicitDefEqProofs only [codCells] at hg1
    have e1 : aBin .shr [] (.int .u64 c.low) (.int .u64 24) = some (.int .u64 ((c.low / 16777216 : Nat) : Int)) := by
      exact aBin_shr_nat _ _ _ c.low 24 (by decide)
    have e2 : IntKind.i64.wrap ((c.low / 16777216 : Nat) : Int) = ((c.low / 16777216 : Nat) : Int) := IntWalk.i64_in _ (by omega)
    simp -implicitDefEqProofs only [lp_some', mc_true, mc_false, ok_ret, ok_mc, ok_snap, aBin_add, aBin_sub, aBin_mul, aBin_lss, aBin_leq, aBin_gtr, aBin_geq, aBin_eql, aBin_neq, aBin_eqlStr, aBin_neqStr, strEq_bs, aBin_eqlNil, aBin_eqlNil', aBin_neqNil, aBin_neqNil', aUn_not, aUn_neg, aNil_ptr, aOff_ptr, aInt_int, aLenStr_str, aLenS_slice, aLenS_nil, aFold_min, aFold_max, bs_size, bs_empty, Nat.zero_add, Nat.add_zero, Nat.reduceAdd, ok_load, Mem.get_set, Mem.set_set, List.getElem?_cons_zero, List.getElem?_cons_succ, Option.some.injEq, exists_eq_left', List.set_cons_zero, List.set_cons_succ, load_at hg1, e1, e2]
    cases k with
    | zero => omega
    | succ k =>
      refine Ok.bnd (tell_ok hc1 (by omega) hI.last (by show c.O.length + 1 + c.full ≤ _; omega) fun m2 a2 buf2 hc2 hF2 => ?_)
      have hg2 := hc2.get
      have hb2 := hc2.base
      simp -implicitDefEqProofs only [codCells] at hg2
      have hlow : (({ c with r := c.r * 256 } : Cst).tell (c.low / 16777216)).low = c.low := by unfold Cst.tell Cst.settle; split <;> rfl
      have e3 : aBin .shl [] (.int .u64 c.low) (.int .u64 8) = some (.int .u64 ((c.low * 256 : Nat) : Int)) := by
        rw [aBin_shl _ _ _ _ _ (by decide), show (c.low : Int) * 2 ^ (8 : Int).toNat = ((c.low * 256 : Nat) : Int) by rw [Int.natCast_mul]; rfl, IntWalk.u64_in _ ⟨Int.natCast_nonneg _, by omega⟩]
      have e4 : aBin .and [] (.int .u64 ((c.low * 256 : Nat) : Int)) (.int .u64 4294967295) = some (.int .u64 ((c.low % 16777216 * 256 : Nat) : Int)) := by
        simp -implicitDefEqProofs only [aBin, b2, if_true]
        have e : (BitVec.ofInt IntKind.u64.bits ((c.low * 256 : Nat) : Int) &&& BitVec.ofInt IntKind.u64.bits 4294967295).toNat = c.low % 16777216 * 256 := by
          show (BitVec.ofInt 64 ((c.low * 256 : Nat) : Int) &&& BitVec.ofInt 64 ((4294967295 : Nat) : Int)).toNat = _
          rw [BitVec.ofInt_natCast, BitVec.ofInt_natCast, BitVec.toNat_and, BitVec.toNat_ofNat, BitVec.toNat_ofNat, Nat.mod_eq_of_lt (show c.low * 256 < 2 ^ 64 by omega), Nat.mod_eq_of_lt (show 4294967295 < 2 ^ 64 by decide)]
          have := Nat.and_two_pow_sub_one_eq_mod (c.low * 256) 32
          rw [show 4294967295 = 2 ^ 32 - 1 by decide, this]
          omega
        rw [e, IntWalk.u64_in _ ⟨Int.natCast_nonneg _, by omega⟩]
      simp -implicitDefEqProofs only [lp_some', mc_true, mc_false, ok_ret, ok_mc, ok_snap, aBin_add, aBin_sub, aBin_mul, aBin_lss, aBin_leq, aBin_gtr, aBin_geq, aBin_eql, aBin_neq, aBin_eqlStr, aBin_neqStr, strEq_bs, aBin_eqlNil, aBin_eqlNil', aBin_neqNil, aBin_neqNil', aUn_not, aUn_neg, aNil_ptr, aOff_ptr, aInt_int, aLenStr_str, aLenS_slice, aLenS_nil, aFold_min, aFold_max, bs_size, bs_empty, Nat.zero_add, Nat.add_zero, Nat.reduceAdd, ok_load, Mem.get_set, Mem.set_set, List.getElem?_cons_zero, List.getElem?_cons_succ, Option.some.injEq, exists_eq_left', List.set_cons_zero, List.set_cons_succ, load_at hg2, hlow, e3, e4]
      simp -implicitDefEqProofs (disch := first | assumption | omega | (simp; done) | (simp; omega)) only [lp_some', mc_true, mc_false, ok_ret, ok_mc, ok_snap, aBin_add, aBin_sub, aBin_mul, aBin_lss, aBin_leq, aBin_gtr, aBin_geq, aBin_eql, aBin_neq, aBin_eqlStr, aBin_neqStr, strEq_bs, aBin_eqlNil, aBin_eqlNil', aBin_neqNil, aBin_neqNil', aUn_not, aUn_neg, aNil_ptr, aOff_ptr, aInt_int, aLenStr_str, aLenS_slice, aLenS_nil, aFold_min, aFold_max, bs_size, bs_empty, Nat.zero_add, Nat.add_zero, Nat.reduceAdd, ok_load, Mem.get_set, Mem.set_set, List.getElem?_cons_zero, List.getElem?_cons_succ, Option.some.injEq, exists_eq_left', List.set_cons_zero, List.set_cons_succ, ok_store hg2 hb2]
      have h6 : x.fill (k + 1) = Iv.fill k ⟨x.n + 1, x.V * 256, x.R * 256⟩ := by simp -implicitDefEqProofs only [Iv.fill]; rw [if_neg (by omega)]
      have hset := hc2.set (c' := { (({ c with r := c.r * 256 } : Cst).tell (c.low / 16777216)) with low := c.low % 16777216 * 256 }) rfl
      have hI2 := is_tell hI hs
      have hce : ({ (({ c with r := c.r * 256 } : Cst).tell (c.low / 16777216)) with low := c.low % 16777216 * 256 } : Cst) = { (c.tell (c.low / 16777216)) with r := x.R * 256, low := c.low % 16777216 * 256 } := by
        unfold Cst.tell Cst.settle
        split <;> simp [hR]
      rw [hce] at hset
      refine ih k _ _ (Nat.lt_succ_self _) ⟨rfl, ⟨x.n + 1, x.V * 256, x.R * 256⟩, _, a2, buf2, ?_, hI2, ?_, (hF1.trans hF2).trans (Fr.set _), by show 1 ≤ x.R * 256; omega, by show x.R * 256 ≤ _; omega, by show _ ≤ x.R * 256 * 256 ^ k; rw [Nat.mul_assoc, ← Nat.pow_succ']; exact h3, by rw [← h6]; exact h4, by show x.n + 1 + k < _; omega⟩
      · rw [← hce] at hset ⊢
        exact hset
      · unfold Cst.tell Cst.settle
        split <;> exact hs

/-- Code, of a part. -/
theorem code_ok {i lo hi t : Nat} {c : Cst} {x : Iv} {a buf : AV} {m : Mem} {Q : AV → Mem → Prop} (h : CodAt m i c a buf) (hI : c.Is T rest x) (hx : x.Fits) (hn : x.n + 3 < 2 ^ 39) (hp : lo < hi ∧ hi ≤ t ∧ t ≤ 65536)
    (hq : ∀ m' c' a' buf', CodAt m' i c' a' buf' → c'.Is T rest (x.code lo hi t) → Fr i buf m buf' m' → Q (.tup []) m') : Ok (R fn_rc_Coder_Code [.ptr i 0, .int .i64 lo, .int .i64 hi, .int .i64 t]) m Q := by
  refine Ok.call (fun n => rc_Coder_Code_eq rfl n _ _ _ _) ?_
  have hg := h.get
  have hb := h.base
  have hR := hI.rng
  have hlt := hI.lt
  have hlen := hI.len
  have hRlo := hx.lo
  have hRhi := hx.hi
  obtain ⟨hp1, hp2⟩ := partOf_bounds hx.lo hx.hi hp
  have hin := part_in (r := x.R) ⟨hp.1, hp.2.1⟩
  simp -implicitDefEqProofs only [codCells] at hg
  simp -implicitDefEqProofs only [rc_Coder_Code, lp_some', mc_true, mc_false, ok_ret, ok_mc, ok_snap, aBin_add, aBin_sub, aBin_mul, aBin_lss, aBin_leq, aBin_gtr, aBin_geq, aBin_eql, aBin_neq, aBin_eqlStr, aBin_neqStr, strEq_bs, aBin_eqlNil, aBin_eqlNil', aBin_neqNil, aBin_neqNil', aUn_not, aUn_neg, aNil_ptr, aOff_ptr, aInt_int, aLenStr_str, aLenS_slice, aLenS_nil, aFold_min, aFold_max, bs_size, bs_empty, Nat.zero_add, Nat.add_zero, Nat.reduceAdd, ok_load, Mem.get_set, Mem.set_set, List.getElem?_cons_zero, List.getElem?_cons_succ, Option.some.injEq, exists_eq_left', List.set_cons_zero, List.set_cons_succ, Bool.false_eq_true, if_false]
  refine Ok.bnd (right_ok ?_)
  have hdec : decide ((0 : Int) ≤ lo ∧ (lo : Int) < hi ∧ (hi : Int) ≤ t ∧ (t : Int) ≤ 65536) = true := decide_eq_true (by omega)
  simp -implicitDefEqProofs only [hdec, rc_Coder_Code_j0, lp_some', mc_true, mc_false, ok_ret, ok_mc, ok_snap, aBin_add, aBin_sub, aBin_mul, aBin_lss, aBin_leq, aBin_gtr, aBin_geq, aBin_eql, aBin_neq, aBin_eqlStr, aBin_neqStr, strEq_bs, aBin_eqlNil, aBin_eqlNil', aBin_neqNil, aBin_neqNil', aUn_not, aUn_neg, aNil_ptr, aOff_ptr, aInt_int, aLenStr_str, aLenS_slice, aLenS_nil, aFold_min, aFold_max, bs_size, bs_empty, Nat.zero_add, Nat.add_zero, Nat.reduceAdd, ok_load, Mem.get_set, Mem.set_set, List.getElem?_cons_zero, List.getElem?_cons_succ, Option.some.injEq, exists_eq_left', List.set_cons_zero, List.set_cons_succ, Bool.not_true, Bool.false_eq_true, if_false, load_at hg]
  refine Ok.bnd (narrow_ok hg hb (by rw [hR]; exact hRhi) hp ?_)
  rw [hR]
  have hc1 := h.set (c' := { c with s := true, r := partOf x.R lo hi t }) rfl
  have hm : m.set i (.cells c.T 0 (.bool true :: .int .u64 (partOf x.R lo hi t) :: a :: buf :: .int .u64 c.low :: .int .i64 c.last :: .int .i64 c.full :: c.rest)) = m.set i (.cells c.T 0 (codCells { c with s := true, r := partOf x.R lo hi t } a buf)) := rfl
  rw [hm]
  have hF1 := Fr.set (i := i) (buf := buf) (m := m) (.cells c.T 0 (codCells { c with s := true, r := partOf x.R lo hi t } a buf))
  generalize m.set i (.cells c.T 0 (codCells { c with s := true, r := partOf x.R lo hi t } a buf)) = m1 at *
  have hg1 := hc1.get
  have hb1 := hc1.base
  simp -implicitDefEqProofs only [codCells] at hg1
  have s1 := fun (k : M AV) => same_at (o := 4) hg1 rfl (eqb_int _ _) k
  have e1 : IntKind.u64.wrap ((c.low : Int) + ((x.R / t * lo : Nat) : Int)) = ((c.low + x.R / t * lo : Nat) : Int) := by
    rw [← Int.natCast_add]; exact IntWalk.u64_in _ ⟨Int.natCast_nonneg _, by omega⟩
  simp -implicitDefEqProofs (disch := first | assumption | omega | (simp; done) | (simp; omega)) only [lp_some', mc_true, mc_false, ok_ret, ok_mc, ok_snap, aBin_add, aBin_sub, aBin_mul, aBin_lss, aBin_leq, aBin_gtr, aBin_geq, aBin_eql, aBin_neq, aBin_eqlStr, aBin_neqStr, strEq_bs, aBin_eqlNil, aBin_eqlNil', aBin_neqNil, aBin_neqNil', aUn_not, aUn_neg, aNil_ptr, aOff_ptr, aInt_int, aLenStr_str, aLenS_slice, aLenS_nil, aFold_min, aFold_max, bs_size, bs_empty, Nat.zero_add, Nat.add_zero, Nat.reduceAdd, ok_load, Mem.get_set, Mem.set_set, List.getElem?_cons_zero, List.getElem?_cons_succ, Option.some.injEq, exists_eq_left', List.set_cons_zero, List.set_cons_succ, s1, e1, ok_store hg1 hb1]
  have hc2 := hc1.set (c' := { c with s := true, r := partOf x.R lo hi t, low := c.low + x.R / t * lo }) rfl
  have hm2 : m1.set i (.cells c.T 0 (.bool true :: .int .u64 (partOf x.R lo hi t) :: a :: buf :: .int .u64 (c.low + x.R / t * lo : Nat) :: .int .i64 c.last :: .int .i64 c.full :: c.rest)) = m1.set i (.cells c.T 0 (codCells { c with s := true, r := partOf x.R lo hi t, low := c.low + x.R / t * lo } a buf)) := rfl
  rw [hm2]
  have hF2 := hF1.trans (Fr.set (.cells c.T 0 (codCells { c with s := true, r := partOf x.R lo hi t, low := c.low + x.R / t * lo } a buf)))
  generalize m1.set i (.cells c.T 0 (codCells { c with s := true, r := partOf x.R lo hi t, low := c.low + x.R / t * lo } a buf)) = m2 at *
  have hg2 := hc2.get
  have hb2 := hc2.base
  simp -implicitDefEqProofs only [codCells] at hg2
  simp -implicitDefEqProofs only [lp_some', mc_true, mc_false, ok_ret, ok_mc, ok_snap, aBin_add, aBin_sub, aBin_mul, aBin_lss, aBin_leq, aBin_gtr, aBin_geq, aBin_eql, aBin_neq, aBin_eqlStr, aBin_neqStr, strEq_bs, aBin_eqlNil, aBin_eqlNil', aBin_neqNil, aBin_neqNil', aUn_not, aUn_neg, aNil_ptr, aOff_ptr, aInt_int, aLenStr_str, aLenS_slice, aLenS_nil, aFold_min, aFold_max, bs_size, bs_empty, Nat.zero_add, Nat.add_zero, Nat.reduceAdd, ok_load, Mem.get_set, Mem.set_set, List.getElem?_cons_zero, List.getElem?_cons_succ, Option.some.injEq, exists_eq_left', List.set_cons_zero, List.set_cons_succ, load_at hg2, rc_Coder_Code_j1]
  have hfin : ∀ (c' : Cst), c'.Is T rest (x.narrow lo hi t) → c'.s = true → ∀ m' a' buf', CodAt m' i c' a' buf' → Fr i buf m buf' m' → Ok (fun n => loopN (fun r l => rc_Coder_Code_l0 (fcall Tryz.prog ext1 n) n r (l.getD 0 .undef)) n [.ptr i 0]) m' Q := by
    intro c' hI' hs' m' a' buf' hc' hF'
    exact code_loop (k := 3) (x := x.narrow lo hi t) (fun m'' c'' a'' buf'' h1 h2 h3 => hq m'' c'' a'' buf'' h1 h2 (hF'.trans h3)) hc' hI' hs' (by show 1 ≤ partOf x.R lo hi t; omega) (by show partOf x.R lo hi t ≤ _; omega) (by show _ ≤ partOf x.R lo hi t * _; omega) rfl (by show x.n + 3 < _; omega)
  by_cases hcar : 4294967296 ≤ c.low + x.R / t * lo
  · have hd : (4294967295 : Int) < ((c.low + x.R / t * lo : Nat) : Int) := by omega
    have e2 : IntKind.u64.wrap (((c.low + x.R / t * lo : Nat) : Int) - 4294967296) = ((c.low + x.R / t * lo - 4294967296 : Nat) : Int) := by
      rw [show ((c.low + x.R / t * lo : Nat) : Int) - 4294967296 = ((c.low + x.R / t * lo - 4294967296 : Nat) : Int) by omega]
      exact IntWalk.u64_in _ ⟨Int.natCast_nonneg _, by omega⟩
    simp -implicitDefEqProofs (disch := first | assumption | omega | (simp; done) | (simp; omega)) only [lp_some', mc_true, mc_false, ok_ret, ok_mc, ok_snap, aBin_add, aBin_sub, aBin_mul, aBin_lss, aBin_leq, aBin_gtr, aBin_geq, aBin_eql, aBin_neq, aBin_eqlStr, aBin_neqStr, strEq_bs, aBin_eqlNil, aBin_eqlNil', aBin_neqNil, aBin_neqNil', aUn_not, aUn_neg, aNil_ptr, aOff_ptr, aInt_int, aLenStr_str, aLenS_slice, aLenS_nil, aFold_min, aFold_max, bs_size, bs_empty, Nat.zero_add, Nat.add_zero, Nat.reduceAdd, ok_load, Mem.get_set, Mem.set_set, List.getElem?_cons_zero, List.getElem?_cons_succ, Option.some.injEq, exists_eq_left', List.set_cons_zero, List.set_cons_succ, hd, decide_true, if_true, e2, ok_store hg2 hb2]
    have hc3 := hc2.set (c' := { c with s := true, r := partOf x.R lo hi t, low := c.low + x.R / t * lo - 4294967296 }) rfl
    refine Ok.bnd (carry_ok hc3 hI.last (by show c.O.length + 1 + c.full ≤ _; omega) fun m4 a4 buf4 hc4 hF4 => ?_)
    exact hfin _ (is_carry hI hRhi (by omega) hin hcar) rfl m4 a4 buf4 hc4 ((hF2.trans (Fr.set _)).trans hF4)
  · have hd : ¬ (4294967295 : Int) < ((c.low + x.R / t * lo : Nat) : Int) := by omega
    simp -implicitDefEqProofs only [hd, decide_false, Bool.false_eq_true, if_false]
    exact hfin _ (is_plain hI hin (by omega)) rfl m2 a buf hc2 hF2

/-- Code, of what is no part. -/
theorem code_not {i : Nat} {lo hi t : Int} {m : Mem} {Q : AV → Mem → Prop} (hp : ¬ (0 ≤ lo ∧ lo < hi ∧ hi ≤ t ∧ t ≤ 65536)) (hq : Q (.tup []) m) : Ok (R fn_rc_Coder_Code [.ptr i 0, .int .i64 lo, .int .i64 hi, .int .i64 t]) m Q := by
  refine Ok.call (fun n => rc_Coder_Code_eq rfl n _ _ _ _) ?_
  simp -implicitDefEqProofs only [rc_Coder_Code, lp_some', mc_true, mc_false, ok_ret, ok_mc, ok_snap, aBin_add, aBin_sub, aBin_mul, aBin_lss, aBin_leq, aBin_gtr, aBin_geq, aBin_eql, aBin_neq, aBin_eqlStr, aBin_neqStr, strEq_bs, aBin_eqlNil, aBin_eqlNil', aBin_neqNil, aBin_neqNil', aUn_not, aUn_neg, aNil_ptr, aOff_ptr, aInt_int, aLenStr_str, aLenS_slice, aLenS_nil, aFold_min, aFold_max, bs_size, bs_empty, Nat.zero_add, Nat.add_zero, Nat.reduceAdd, ok_load, Mem.get_set, Mem.set_set, List.getElem?_cons_zero, List.getElem?_cons_succ, Option.some.injEq, exists_eq_left', List.set_cons_zero, List.set_cons_succ, Bool.false_eq_true, if_false]
  refine Ok.bnd (right_ok ?_)
  have hdec : decide (0 ≤ lo ∧ lo < hi ∧ hi ≤ t ∧ t ≤ 65536) = false := decide_eq_false hp
  simp -implicitDefEqProofs only [hdec, rc_Coder_Code_j0, lp_some', mc_true, mc_false, ok_ret, ok_mc, ok_snap, aBin_add, aBin_sub, aBin_mul, aBin_lss, aBin_leq, aBin_gtr, aBin_geq, aBin_eql, aBin_neq, aBin_eqlStr, aBin_neqStr, strEq_bs, aBin_eqlNil, aBin_eqlNil', aBin_neqNil, aBin_neqNil', aUn_not, aUn_neg, aNil_ptr, aOff_ptr, aInt_int, aLenStr_str, aLenS_slice, aLenS_nil, aFold_min, aFold_max, bs_size, bs_empty, Nat.zero_add, Nat.add_zero, Nat.reduceAdd, ok_load, Mem.get_set, Mem.set_set, List.getElem?_cons_zero, List.getElem?_cons_succ, Option.some.injEq, exists_eq_left', List.set_cons_zero, List.set_cons_succ, Bool.not_false, if_true]
  exact hq

/-! the end -/

theorem trim_byte (l : List UInt8) {m : Mem} {Q : AV → Mem → Prop} (hl : l.length < 2 ^ 60) (hq : Q (.str (bs (trim l))) m) : Ok (R fn_strings_trimRightByte [.str (bs l), .int .u8 0]) m Q := by
  refine Ok.call (fun n => strings_trimRightByte_eq rfl n _ _) ?_
  simp -implicitDefEqProofs only [strings_trimRightByte]
  refine Ok.loop (fun k v m' => ∃ l' j2 j3 j4 j5 j6 j7 j8, v = [.str (bs l'), .int .u8 0, j2, j3, j4, j5, j6, j7, j8] ∧ m' = m ∧ l'.length = k ∧ trim l' = trim l ∧ k < 2 ^ 60) ?_ (k := l.length) ⟨l, _, _, _, _, _, _, _, rfl, rfl, rfl, rfl, hl⟩
  rintro k v m' rec ⟨l', j2, j3, j4, j5, j6, j7, j8, rfl, rfl, hk, ht, hk2⟩ ih
  simp -implicitDefEqProofs only [List.getD_cons_zero, List.getD_cons_succ, strings_trimRightByte_l0, lp_some', mc_true, mc_false, ok_ret, ok_mc, ok_snap, aBin_add, aBin_sub, aBin_mul, aBin_lss, aBin_leq, aBin_gtr, aBin_geq, aBin_eql, aBin_neq, aBin_eqlStr, aBin_neqStr, strEq_bs, aBin_eqlNil, aBin_eqlNil', aBin_neqNil, aBin_neqNil', aUn_not, aUn_neg, aNil_ptr, aOff_ptr, aInt_int, aLenStr_str, aLenS_slice, aLenS_nil, aFold_min, aFold_max, bs_size, bs_empty, Nat.zero_add, Nat.add_zero, Nat.reduceAdd, ok_load, Mem.get_set, Mem.set_set, List.getElem?_cons_zero, List.getElem?_cons_succ, Option.some.injEq, exists_eq_left', List.set_cons_zero, List.set_cons_succ]
  rcases List.eq_nil_or_concat l' with e | ⟨l2, b, e⟩
  · subst e
    simp -implicitDefEqProofs only [List.length_nil, Int.natCast_zero, Int.lt_irrefl, decide_false, Bool.false_eq_true, if_false, strings_trimRightByte_j0, lp_some', mc_true, mc_false, ok_ret, ok_mc, ok_snap, aBin_add, aBin_sub, aBin_mul, aBin_lss, aBin_leq, aBin_gtr, aBin_geq, aBin_eql, aBin_neq, aBin_eqlStr, aBin_neqStr, strEq_bs, aBin_eqlNil, aBin_eqlNil', aBin_neqNil, aBin_neqNil', aUn_not, aUn_neg, aNil_ptr, aOff_ptr, aInt_int, aLenStr_str, aLenS_slice, aLenS_nil, aFold_min, aFold_max, bs_size, bs_empty, Nat.zero_add, Nat.add_zero, Nat.reduceAdd, ok_load, Mem.get_set, Mem.set_set, List.getElem?_cons_zero, List.getElem?_cons_succ, Option.some.injEq, exists_eq_left', List.set_cons_zero, List.set_cons_succ]
    rw [← ht] at hq
    exact hq
  · rw [List.concat_eq_append] at e
    subst e
    simp at hk
    subst hk
    have h1 : (0 : Int) < ((l2 ++ [b]).length : Int) := by rw [List.length_append, List.length_singleton]; omega
    have e1 : IntKind.i64.wrap (((l2 ++ [b]).length : Int) - 1) = (l2.length : Int) := by rw [IntWalk.i64_in _ (by simp; omega)]; simp
    have e2 : aIdxStr (.str (bs (l2 ++ [b]))) (.int .i64 l2.length) = some (.int .u8 b.toNat) := aIdxStr_bs _ _ _ (by simp)
    have e3 : aSliceStr (.str (bs (l2 ++ [b]))) none (some (.int .i64 l2.length)) = some (.str (bs l2)) := by rw [aSliceStr_to _ _ _ (by simp)]; simp
    simp -implicitDefEqProofs only [h1, decide_true, if_true, lp_some', mc_true, mc_false, ok_ret, ok_mc, ok_snap, aBin_add, aBin_sub, aBin_mul, aBin_lss, aBin_leq, aBin_gtr, aBin_geq, aBin_eql, aBin_neq, aBin_eqlStr, aBin_neqStr, strEq_bs, aBin_eqlNil, aBin_eqlNil', aBin_neqNil, aBin_neqNil', aUn_not, aUn_neg, aNil_ptr, aOff_ptr, aInt_int, aLenStr_str, aLenS_slice, aLenS_nil, aFold_min, aFold_max, bs_size, bs_empty, Nat.zero_add, Nat.add_zero, Nat.reduceAdd, ok_load, Mem.get_set, Mem.set_set, List.getElem?_cons_zero, List.getElem?_cons_succ, Option.some.injEq, exists_eq_left', List.set_cons_zero, List.set_cons_succ, e1, e2]
    by_cases hb : b = 0
    · subst hb
      have e4 : decide (((0 : UInt8).toNat : Int) = 0) = true := by decide
      simp -implicitDefEqProofs only [strings_trimRightByte_j0, lp_some', mc_true, mc_false, ok_ret, ok_mc, ok_snap, aBin_add, aBin_sub, aBin_mul, aBin_lss, aBin_leq, aBin_gtr, aBin_geq, aBin_eql, aBin_neq, aBin_eqlStr, aBin_neqStr, strEq_bs, aBin_eqlNil, aBin_eqlNil', aBin_neqNil, aBin_neqNil', aUn_not, aUn_neg, aNil_ptr, aOff_ptr, aInt_int, aLenStr_str, aLenS_slice, aLenS_nil, aFold_min, aFold_max, bs_size, bs_empty, Nat.zero_add, Nat.add_zero, Nat.reduceAdd, ok_load, Mem.get_set, Mem.set_set, List.getElem?_cons_zero, List.getElem?_cons_succ, Option.some.injEq, exists_eq_left', List.set_cons_zero, List.set_cons_succ, e4, if_true, e1, e3]
      exact ih l2.length _ _ (by omega) ⟨l2, _, _, _, _, _, _, _, rfl, rfl, rfl, by rw [← ht, trim_snoc_zero], by omega⟩
    · have hb' : b.toNat ≠ 0 := fun e => hb (UInt8.toNat_inj.1 e)
      have e4 : decide ((b.toNat : Int) = 0) = false := decide_eq_false (by omega)
      simp -implicitDefEqProofs only [strings_trimRightByte_j0, lp_some', mc_true, mc_false, ok_ret, ok_mc, ok_snap, aBin_add, aBin_sub, aBin_mul, aBin_lss, aBin_leq, aBin_gtr, aBin_geq, aBin_eql, aBin_neq, aBin_eqlStr, aBin_neqStr, strEq_bs, aBin_eqlNil, aBin_eqlNil', aBin_neqNil, aBin_neqNil', aUn_not, aUn_neg, aNil_ptr, aOff_ptr, aInt_int, aLenStr_str, aLenS_slice, aLenS_nil, aFold_min, aFold_max, bs_size, bs_empty, Nat.zero_add, Nat.add_zero, Nat.reduceAdd, ok_load, Mem.get_set, Mem.set_set, List.getElem?_cons_zero, List.getElem?_cons_succ, Option.some.injEq, exists_eq_left', List.set_cons_zero, List.set_cons_succ, e4, Bool.false_eq_true, if_false]
      rw [← ht, trim_snoc _ _ hb] at hq
      exact hq
theorem trimRight_ok (l : List UInt8) {m : Mem} {Q : AV → Mem → Prop} (hl : l.length < 2 ^ 60) (hq : Q (.str (bs (trim l))) m) : Ok (R fn_strings_TrimRight [.str (bs l), .str ⟨#[0]⟩]) m Q := by
  refine Ok.call (fun n => strings_TrimRight_eq rfl n _ _) ?_
  have e0 : (⟨#[0]⟩ : ByteArray) = bs [0] := rfl
  have e1 : aIdxStr (.str (bs [0])) (.int .i64 0) = some (.int .u8 0) := aIdxStr_bs [0] .i64 0 rfl
  simp -implicitDefEqProofs only [strings_TrimRight, strings_TrimRight_j0, e0, lp_some', mc_true, mc_false, ok_ret, ok_mc, ok_snap, aBin_add, aBin_sub, aBin_mul, aBin_lss, aBin_leq, aBin_gtr, aBin_geq, aBin_eql, aBin_neq, aBin_eqlStr, aBin_neqStr, strEq_bs, aBin_eqlNil, aBin_eqlNil', aBin_neqNil, aBin_neqNil', aUn_not, aUn_neg, aNil_ptr, aOff_ptr, aInt_int, aLenStr_str, aLenS_slice, aLenS_nil, aFold_min, aFold_max, bs_size, bs_empty, Nat.zero_add, Nat.add_zero, Nat.reduceAdd, ok_load, Mem.get_set, Mem.set_set, List.getElem?_cons_zero, List.getElem?_cons_succ, Option.some.injEq, exists_eq_left', List.set_cons_zero, List.set_cons_succ]
  by_cases h : l = []
  · subst h
    simp -implicitDefEqProofs only [decide_true, if_true, lp_some', mc_true, mc_false, ok_ret, ok_mc, ok_snap, aBin_add, aBin_sub, aBin_mul, aBin_lss, aBin_leq, aBin_gtr, aBin_geq, aBin_eql, aBin_neq, aBin_eqlStr, aBin_neqStr, strEq_bs, aBin_eqlNil, aBin_eqlNil', aBin_neqNil, aBin_neqNil', aUn_not, aUn_neg, aNil_ptr, aOff_ptr, aInt_int, aLenStr_str, aLenS_slice, aLenS_nil, aFold_min, aFold_max, bs_size, bs_empty, Nat.zero_add, Nat.add_zero, Nat.reduceAdd, ok_load, Mem.get_set, Mem.set_set, List.getElem?_cons_zero, List.getElem?_cons_succ, Option.some.injEq, exists_eq_left', List.set_cons_zero, List.set_cons_succ]
    exact hq
  · simp -implicitDefEqProofs only [h, decide_false, Bool.false_eq_true, if_false, lp_some', mc_true, mc_false, ok_ret, ok_mc, ok_snap, aBin_add, aBin_sub, aBin_mul, aBin_lss, aBin_leq, aBin_gtr, aBin_geq, aBin_eql, aBin_neq, aBin_eqlStr, aBin_neqStr, strEq_bs, aBin_eqlNil, aBin_eqlNil', aBin_neqNil, aBin_neqNil', aUn_not, aUn_neg, aNil_ptr, aOff_ptr, aInt_int, aLenStr_str, aLenS_slice, aLenS_nil, aFold_min, aFold_max, bs_size, bs_empty, Nat.zero_add, Nat.add_zero, Nat.reduceAdd, ok_load, Mem.get_set, Mem.set_set, List.getElem?_cons_zero, List.getElem?_cons_succ, Option.some.injEq, exists_eq_left', List.set_cons_zero, List.set_cons_succ, strings_TrimRight_j1, reduceCtorEq, List.length_cons, List.length_nil, e1, decide_true, if_true, Nat.zero_add, Int.natCast_one, Int.reduceLT]
    refine Ok.bnd (trim_byte l hl ?_)
    simp -implicitDefEqProofs only [lp_some', mc_true, mc_false, ok_ret, ok_mc, ok_snap, aBin_add, aBin_sub, aBin_mul, aBin_lss, aBin_leq, aBin_gtr, aBin_geq, aBin_eql, aBin_neq, aBin_eqlStr, aBin_neqStr, strEq_bs, aBin_eqlNil, aBin_eqlNil', aBin_neqNil, aBin_neqNil', aUn_not, aUn_neg, aNil_ptr, aOff_ptr, aInt_int, aLenStr_str, aLenS_slice, aLenS_nil, aFold_min, aFold_max, bs_size, bs_empty, Nat.zero_add, Nat.add_zero, Nat.reduceAdd, ok_load, Mem.get_set, Mem.set_set, List.getElem?_cons_zero, List.getElem?_cons_succ, Option.some.injEq, exists_eq_left', List.set_cons_zero, List.set_cons_succ]
    exact hq
end SplA
