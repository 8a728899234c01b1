/- Texts of the abstract machine and of the walks, part 3. -/
import Derived.Test.YtooogfnmhfocjaaGreatDoorSplM2
import Derived.Carry
import Derived.WideKeyArgs
import Derived.ChangeSame
import Derived.OpenShut
import Derived.ProofKit
import Derived.WalkKit

/- What the functions of the decoders do. -/
namespace SplA
open Go.Proofs.YtooogfnmhfocjaaGreatDoor.Spl Go Go.Proofs
set_option maxRecDepth 100000
set_option linter.unusedVariables false
set_option linter.unusedSimpArgs false

noncomputable def ext0 : Ext := Ext.none.plus fn_internal_abi_NoEscape same1
noncomputable def ext1 : Ext := ext0.plus fn_law22_awake trueAlways
/-- A function's run. -/
noncomputable abbrev R (f : Nat) (args : List AV) : Nat → M AV := fun n => fcall Tryz.prog ext1 n f args

theorem right_ok {lo hi t : Int} {m : Mem} {Q : AV → Mem → Prop} (hq : Q (.bool (decide (0 ≤ lo ∧ lo < hi ∧ hi ≤ t ∧ t ≤ 65536))) m) : Ok (R fn_rc_right [.int .i64 lo, .int .i64 hi, .int .i64 t]) m Q := by
  refine Ok.call (fun n => rc_right_eq rfl n _ _ _) ?_
  simp -implicitDefEqProofs only [rc_right, rc_right_j0, aBin_leq, aBin_lss, lp_some', ok_mc, ok_ret]
  by_cases h1 : 0 ≤ lo <;> by_cases h2 : lo < hi <;> by_cases h3 : hi ≤ t <;> simp_all
  all_goals (intros; omega)

theorem next_ok {i : Nat} {a0 a1 a3 a4 : AV} {l : List UInt8} {m : Mem} {Q : AV → Mem → Prop} (h : m.get i = .cells T_rc_Decoder 0 [a0, a1, .str (bs l), a3, a4]) (hb : m.base ≤ i)
    (hq : Q (.int .u64 (hd l)) (m.set i (.cells T_rc_Decoder 0 [a0, a1, .str (bs l.tail), a3, a4]))) : Ok (R fn_rc_Decoder_next [.ptr i 0]) m Q := by
  refine Ok.call (fun n => rc_Decoder_next_eq rfl n _) ?_
  simp -implicitDefEqProofs only [rc_Decoder_next, simpS, Nat.reduceAdd, load_at h]
  cases l with
  | nil => simpa [hd, m.set_self i h] using hq
  | cons b l =>
    have hb8 := b.toNat_lt
    have e1 : aIdxStr (.str (bs (b :: l))) (.int .i64 0) = some (.int .u8 b.toNat) := by rw [aIdxStr_int _ _ _ (by omega)]; rfl
    have e2 : aSliceStr (.str (bs (b :: l))) (some (.int .i64 1)) none = some (.str (bs l)) := by rw [aSliceStr_from' _ _ _ (by simp; omega)]; rfl
    have e3 : IntKind.u64.wrap (b.toNat : Int) = (b.toNat : Int) := IntWalk.u64_in _ (by omega)
    simp -implicitDefEqProofs (disch := first | assumption | omega | (simp; done) | (simp; omega)) only [simpS, Nat.reduceAdd, load_at h, e1, e2, e3, ok_store h hb, reduceCtorEq, decide_false, Bool.false_eq_true, if_false]
    simpa [hd] using hq

theorem now_ok {i T : Nat} {s : Bool} {r : Nat} {rest : List AV} {m : Mem} {Q : AV → Mem → Prop} (h : m.get i = .cells T 0 (.bool s :: .int .u64 r :: rest)) (hb : m.base ≤ i)
    (hq : Q (.int .u64 (rngOf s r)) (m.set i (.cells T 0 (.bool true :: .int .u64 (rngOf s r) :: rest)))) : Ok (R fn_rc_narrowed_now [.ptr i 0]) m Q := by
  refine Ok.call (fun n => rc_narrowed_now_eq rfl n _) ?_
  cases s with
  | true =>
    rw [m.set_self i (by simpa [rngOf] using h)] at hq
    simp -implicitDefEqProofs only [rc_narrowed_now, rc_narrowed_now_j0, simpS, Nat.reduceAdd, load_at h]
    simpa [rngOf] using hq
  | false =>
    have h1 : (m.set i (.cells T 0 (.bool true :: .int .u64 r :: rest))).get i = .cells T 0 (.bool true :: .int .u64 r :: rest) := by simp
    have h2 : (m.set i (.cells T 0 (.bool true :: .int .u64 4294967295 :: rest))).get i = .cells T 0 (.bool true :: .int .u64 4294967295 :: rest) := by simp
    have hb1 : (m.set i (.cells T 0 (.bool true :: .int .u64 r :: rest))).base ≤ i := hb
    simp -implicitDefEqProofs (disch := first | assumption | omega | (simp; done) | (simp; omega)) only [rc_narrowed_now, rc_narrowed_now_j0, simpS, Nat.reduceAdd, load_at h, ok_store h hb, ok_store h1 hb1, load_at h2, Bool.not_false, if_true]
    simpa [rngOf] using hq

theorem narrow_ok {i T : Nat} {s : Bool} {r lo hi t : Nat} {rest : List AV} {m : Mem} {Q : AV → Mem → Prop} (h : m.get i = .cells T 0 (.bool s :: .int .u64 r :: rest)) (hb : m.base ≤ i)
    (hr : rngOf s r ≤ 4294967295) (hp : lo < hi ∧ hi ≤ t ∧ t ≤ 65536)
    (hq : Q (.int .u64 (rngOf s r / t * lo : Nat)) (m.set i (.cells T 0 (.bool true :: .int .u64 (partOf (rngOf s r) lo hi t) :: rest)))) : Ok (R fn_rc_narrowed_narrow [.ptr i 0, .int .i64 lo, .int .i64 hi, .int .i64 t]) m Q := by
  refine Ok.call (fun n => rc_narrowed_narrow_eq rfl n _ _ _ _) ?_
  refine Ok.bnd (now_ok h hb ?_)
  generalize hR : rngOf s r = R at *
  have h1 : (m.set i (.cells T 0 (.bool true :: .int .u64 R :: rest))).get i = .cells T 0 (.bool true :: .int .u64 R :: rest) := by simp
  have hb1 : (m.set i (.cells T 0 (.bool true :: .int .u64 R :: rest))).base ≤ i := hb
  have hd : R / t ≤ R := Nat.div_le_self _ _
  have hm : R / t * lo ≤ R := Nat.le_trans (Nat.mul_le_mul_left _ (by omega)) (Nat.div_mul_le_self R t)
  have hm2 : R / t * (hi - lo) ≤ R := Nat.le_trans (Nat.mul_le_mul_left _ (by omega)) (Nat.div_mul_le_self R t)
  have ht : (t : Int) ≠ 0 := by omega
  have e1 : IntKind.u64.wrap (t : Int) = t := IntWalk.u64_in _ (by omega)
  have e2 : IntKind.u64.wrap ((R : Int).tdiv t) = ((R / t : Nat) : Int) := by
    rw [show (R : Int).tdiv t = ((R / t : Nat) : Int) by rw [Int.tdiv_eq_ediv_of_nonneg (by omega)]; rfl]
    exact IntWalk.u64_in _ ⟨Int.natCast_nonneg _, by omega⟩
  have e3 : IntKind.u64.wrap (lo : Int) = lo := IntWalk.u64_in _ (by omega)
  have e4 : IntKind.u64.wrap (((R / t : Nat) : Int) * lo) = ((R / t * lo : Nat) : Int) := by
    rw [show ((R / t : Nat) : Int) * lo = ((R / t * lo : Nat) : Int) by rw [Int.natCast_mul]]
    exact IntWalk.u64_in _ ⟨Int.natCast_nonneg _, by omega⟩
  have e5 : IntKind.u64.wrap ((R : Int) - ((R / t * lo : Nat) : Int)) = ((R - R / t * lo : Nat) : Int) := by
    rw [show (R : Int) - ((R / t * lo : Nat) : Int) = ((R - R / t * lo : Nat) : Int) by omega]
    exact IntWalk.u64_in _ (by omega)
  have e6 : IntKind.u64.wrap (IntKind.i64.wrap ((hi : Int) - lo)) = ((hi - lo : Nat) : Int) := by
    rw [show (hi : Int) - lo = ((hi - lo : Nat) : Int) by omega, IntWalk.i64_in _ (by omega)]
    exact IntWalk.u64_in _ (by omega)
  have e7 : IntKind.u64.wrap (((R / t : Nat) : Int) * ((hi - lo : Nat) : Int)) = ((R / t * (hi - lo) : Nat) : Int) := by
    rw [show ((R / t : Nat) : Int) * ((hi - lo : Nat) : Int) = ((R / t * (hi - lo) : Nat) : Int) by rw [Int.natCast_mul]]
    exact IntWalk.u64_in _ ⟨Int.natCast_nonneg _, by omega⟩
  simp -implicitDefEqProofs (disch := first | assumption | omega | (simp; done) | (simp; omega)) only [rc_narrowed_narrow_j0, simpS, Nat.reduceAdd, e1, e2, e3, e4, e6, e7, aBin_quo _ _ _ _ ht, load_at h1, e5, ok_store h1 hb1]
  by_cases e : hi = t
  · subst e
    simpa [partOf] using hq
  · have : ¬ (hi : Int) = t := by omega
    simpa [partOf, e, this] using hq

theorem small_ok {i T : Nat} {b : AV} {r : Nat} {rest : List AV} {m : Mem} {Q : AV → Mem → Prop} (h : m.get i = .cells T 0 (b :: .int .u64 r :: rest)) (hb : m.base ≤ i)
    (hq : if 16777216 ≤ r then Q (.bool false) m else Q (.bool true) (m.set i (.cells T 0 (b :: .int .u64 (r * 256 : Nat) :: rest)))) : Ok (R fn_rc_narrowed_small [.ptr i 0]) m Q := by
  refine Ok.call (fun n => rc_narrowed_small_eq rfl n _) ?_
  have e1 : aBin .shl [] (.int .u64 r) (.int .u64 8) = some (.int .u64 (IntKind.u64.wrap ((r * 256 : Nat) : Int))) := by
    rw [aBin_shl _ _ _ _ _ (by decide), Int.natCast_mul]; rfl
  simp -implicitDefEqProofs (disch := first | assumption | omega | (simp; done) | (simp; omega)) only [rc_narrowed_small, simpS, Nat.reduceAdd, load_at h, e1, ok_store h hb]
  by_cases hr : 16777216 ≤ r
  · have : (16777216 : Int) ≤ r := by omega
    simp -implicitDefEqProofs only [hr, this, decide_true, if_true] at hq ⊢
    exact hq
  · have : ¬ (16777216 : Int) ≤ r := by omega
    simp -implicitDefEqProofs only [hr, this, decide_false, if_false] at hq ⊢
    rw [IntWalk.u64_in _ ⟨Int.natCast_nonneg _, by omega⟩]
    exact hq

def decObj (s : Bool) (r : Nat) (c : Nat) (l : List UInt8) : AObj := .cells T_rc_Decoder 0 [.bool s, .int .u64 r, .str (bs l), .int .u64 c, .bool true]

theorem take_loop {i : Nat} {T : Dec} {m0 : Mem} {Q : AV → Mem → Prop} (hb : m0.base ≤ i) (hq : Q (.tup []) (m0.set i (decObj true T.rng T.code T.l))) :
    ∀ {k : Nat} {d : Dec}, 1 ≤ d.rng → d.rng ≤ 4294967295 → d.code < d.rng → 16777216 ≤ d.rng * 256 ^ k → d.fill k = T →
      Ok (fun n => loopN (fun r l => rc_Decoder_Take_l0 (fcall Tryz.prog ext1 n) n r (l.getD 0 .undef)) n [.ptr i 0]) (m0.set i (decObj true d.rng d.code d.l)) Q := by
  intro k d h1 h2 h3 h4 h5
  refine Ok.loop (fun k l m => l = [.ptr i 0] ∧ ∃ d : Dec, m = m0.set i (decObj true d.rng d.code d.l) ∧ 1 ≤ d.rng ∧ d.rng ≤ 4294967295 ∧ d.code < d.rng ∧ 16777216 ≤ d.rng * 256 ^ k ∧ d.fill k = T) ?_ (k := k) ⟨rfl, d, rfl, h1, h2, h3, h4, h5⟩
  rintro k l m rec ⟨rfl, d, rfl, h1, h2, h3, h4, h5⟩ ih
  have hget : (m0.set i (decObj true d.rng d.code d.l)).get i = .cells T_rc_Decoder 0 [.bool true, .int .u64 d.rng, .str (bs d.l), .int .u64 d.code, .bool true] := by simp [decObj]
  simp -implicitDefEqProofs only [List.getD_cons_zero, rc_Decoder_Take_l0, aNil_ptr, aOff_ptr, lp_some', Nat.add_zero]
  refine Ok.bnd (small_ok hget hb ?_)
  by_cases hr : 16777216 ≤ d.rng
  · rw [if_pos hr]
    simp -implicitDefEqProofs only [mc_false, ok_ret]
    rw [Dec.fill_done hr] at h5
    subst h5; exact hq
  · rw [if_neg hr]
    have hh := hd_lt d.l
    have hget2 : (m0.set i (decObj true (d.rng * 256) d.code d.l)).get i = .cells T_rc_Decoder 0 [.bool true, .int .u64 (d.rng * 256 : Nat), .str (bs d.l), .int .u64 d.code, .bool true] := by simp [decObj]
    have hget3 : (m0.set i (decObj true (d.rng * 256) d.code d.l.tail)).get i = .cells T_rc_Decoder 0 [.bool true, .int .u64 (d.rng * 256 : Nat), .str (bs d.l.tail), .int .u64 d.code, .bool true] := by simp [decObj]
    have hb2 : (m0.set i (decObj true (d.rng * 256) d.code d.l.tail)).base ≤ i := hb
    have e1 : aBin .shl [] (.int .u64 d.code) (.int .u64 8) = some (.int .u64 ((d.code * 256 : Nat) : Int)) := by
      rw [aBin_shl _ _ _ _ _ (by decide), show (d.code : Int) * 2 ^ (8 : Int).toNat = ((d.code * 256 : Nat) : Int) by rw [Int.natCast_mul]; rfl, IntWalk.u64_in _ ⟨Int.natCast_nonneg _, by omega⟩]
    have e2 := aBin_or_u64 [] d.code (hd d.l) (by omega) hh
    simp -implicitDefEqProofs only [mc_true, Mem.set_set]
    have hm : m0.set i (.cells T_rc_Decoder 0 [.bool true, .int .u64 (d.rng * 256 : Nat), .str (bs d.l), .int .u64 d.code, .bool true]) = m0.set i (decObj true (d.rng * 256) d.code d.l) := rfl
    simp -implicitDefEqProofs only [hm, simpS, Nat.reduceAdd, load_at hget2, e1]
    refine Ok.bnd (next_ok hget2 hb ?_)
    simp -implicitDefEqProofs only [Mem.set_set]
    have hm2 : m0.set i (.cells T_rc_Decoder 0 [.bool true, .int .u64 (d.rng * 256 : Nat), .str (bs d.l.tail), .int .u64 d.code, .bool true]) = m0.set i (decObj true (d.rng * 256) d.code d.l.tail) := rfl
    rw [hm2]
    have e3 := fun (k : M AV) => same_at (o := 3) hget3 rfl (eqb_int _ _) k
    simp -implicitDefEqProofs (disch := first | assumption | omega | (simp; done) | (simp; omega)) only [simpS, Nat.reduceAdd, e3, e2, ok_store hget3 hb2]
    cases k with
    | zero => omega
    | succ k =>
      have h6 : d.fill (k + 1) = Dec.fill k ⟨d.rng * 256, d.code * 256 + hd d.l, d.l.tail⟩ := by simp [Dec.fill, hr]
      exact ih k _ _ (Nat.lt_succ_self _) ⟨rfl, ⟨d.rng * 256, d.code * 256 + hd d.l, d.l.tail⟩, rfl, by show 1 ≤ d.rng * 256; omega, by show d.rng * 256 ≤ _; omega, by show d.code * 256 + hd d.l < d.rng * 256; omega, by show _ ≤ d.rng * 256 * 256 ^ k; rw [Nat.mul_assoc, ← Nat.pow_succ']; exact h4, by rw [← h6]; exact h5⟩

/-- Take, of a part. -/
theorem take_ok {i lo hi t : Nat} {s : Bool} {r : Nat} {d : Dec} {m : Mem} {Q : AV → Mem → Prop} (h : m.get i = decObj s r d.code d.l) (hb : m.base ≤ i) (hr : rngOf s r = d.rng) (hd : d.Fits)
    (hp : lo < hi ∧ hi ≤ t ∧ t ≤ 65536) (hq : Q (.tup []) (m.set i (decObj true (d.take lo hi t).rng (d.take lo hi t).code (d.take lo hi t).l))) : Ok (R fn_rc_Decoder_Take [.ptr i 0, .int .i64 lo, .int .i64 hi, .int .i64 t]) m Q := by
  refine Ok.call (fun n => rc_Decoder_Take_eq rfl n _ _ _ _) ?_
  have hh := hd.hi
  have hc := hd.code
  obtain ⟨hp1, hp2⟩ := partOf_bounds hd.lo hd.hi hp
  have hget : m.get i = .cells T_rc_Decoder 0 [.bool s, .int .u64 r, .str (bs d.l), .int .u64 d.code, .bool true] := h
  simp -implicitDefEqProofs only [rc_Decoder_Take, simpS, Nat.reduceAdd, load_at hget, Bool.not_true, Bool.false_eq_true, if_false]
  refine Ok.bnd (right_ok ?_)
  have hdec : decide ((0 : Int) ≤ lo ∧ (lo : Int) < hi ∧ (hi : Int) ≤ t ∧ (t : Int) ≤ 65536) = true := decide_eq_true (by omega)
  simp -implicitDefEqProofs only [hdec, rc_Decoder_Take_j0, simpS, Nat.reduceAdd, Bool.not_true, Bool.false_eq_true, if_false]
  refine Ok.bnd (narrow_ok hget hb (by omega) hp ?_)
  rw [hr]
  have hget2 : (m.set i (.cells T_rc_Decoder 0 [.bool true, .int .u64 (partOf d.rng lo hi t), .str (bs d.l), .int .u64 d.code, .bool true])).get i = .cells T_rc_Decoder 0 [.bool true, .int .u64 (partOf d.rng lo hi t), .str (bs d.l), .int .u64 d.code, .bool true] := by simp
  have hb2 : (m.set i (.cells T_rc_Decoder 0 [.bool true, .int .u64 (partOf d.rng lo hi t), .str (bs d.l), .int .u64 d.code, .bool true])).base ≤ i := hb
  have e1 : IntKind.u64.wrap ((d.code : Int) - min (d.code : Int) ((d.rng / t * lo : Nat) : Int)) = ((d.code - d.rng / t * lo : Nat) : Int) := by
    rw [show (d.code : Int) - min (d.code : Int) ((d.rng / t * lo : Nat) : Int) = ((d.code - d.rng / t * lo : Nat) : Int) by omega]
    exact IntWalk.u64_in _ ⟨Int.natCast_nonneg _, by omega⟩
  have e2 : IntKind.u64.wrap ((partOf d.rng lo hi t : Int) - 1) = ((partOf d.rng lo hi t - 1 : Nat) : Int) := by
    rw [show (partOf d.rng lo hi t : Int) - 1 = ((partOf d.rng lo hi t - 1 : Nat) : Int) by omega]
    exact IntWalk.u64_in _ ⟨Int.natCast_nonneg _, by omega⟩
  have e3 : min ((d.code - d.rng / t * lo : Nat) : Int) ((partOf d.rng lo hi t - 1 : Nat) : Int) = ((min (d.code - d.rng / t * lo) (partOf d.rng lo hi t - 1) : Nat) : Int) := by omega
  simp -implicitDefEqProofs (disch := first | assumption | omega | (simp; done) | (simp; omega)) only [simpS, Nat.reduceAdd, load_at hget2, e1, e2, e3, ok_store hget2 hb2]
  exact take_loop (d := ⟨partOf d.rng lo hi t, min (d.code - d.rng / t * lo) (partOf d.rng lo hi t - 1), d.l⟩) (k := 3) hb hq (by show 1 ≤ partOf d.rng lo hi t; omega) (by show partOf d.rng lo hi t ≤ _; omega) (by show min _ _ < partOf d.rng lo hi t; omega) (by show _ ≤ partOf d.rng lo hi t * _; omega) rfl

/-- Take, of what is no part. -/
theorem take_not {i : Nat} {lo hi t : Int} {s : Bool} {r c : Nat} {l : List UInt8} {m : Mem} {Q : AV → Mem → Prop} (h : m.get i = decObj s r c l) (hp : ¬ (0 ≤ lo ∧ lo < hi ∧ hi ≤ t ∧ t ≤ 65536)) (hq : Q (.tup []) m) :
    Ok (R fn_rc_Decoder_Take [.ptr i 0, .int .i64 lo, .int .i64 hi, .int .i64 t]) m Q := by
  refine Ok.call (fun n => rc_Decoder_Take_eq rfl n _ _ _ _) ?_
  have hget : m.get i = .cells T_rc_Decoder 0 [.bool s, .int .u64 r, .str (bs l), .int .u64 c, .bool true] := h
  simp -implicitDefEqProofs only [rc_Decoder_Take, simpS, Nat.reduceAdd, load_at hget, Bool.not_true, Bool.false_eq_true, if_false]
  refine Ok.bnd (right_ok ?_)
  have hdec : decide (0 ≤ lo ∧ lo < hi ∧ hi ≤ t ∧ t ≤ 65536) = false := decide_eq_false hp
  simp -implicitDefEqProofs only [hdec, rc_Decoder_Take_j0, simpS, Nat.reduceAdd, Bool.not_false, if_true]
  exact hq

/-- Place, in a whole. -/
theorem place_ok {i t : Nat} {s : Bool} {r : Nat} {d : Dec} {m : Mem} {Q : AV → Mem → Prop} (h : m.get i = decObj s r d.code d.l) (hb : m.base ≤ i) (hr : rngOf s r = d.rng) (hd : d.Fits)
    (ht : 1 ≤ t ∧ t ≤ 65536) (hq : Q (.int .i64 (d.place t)) (m.set i (decObj true d.rng d.code d.l))) : Ok (R fn_rc_Decoder_Place [.ptr i 0, .int .i64 t]) m Q := by
  refine Ok.call (fun n => rc_Decoder_Place_eq rfl n _ _) ?_
  have hh := hd.hi
  have hl := hd.lo
  have hc := hd.code
  have hget : m.get i = .cells T_rc_Decoder 0 [.bool s, .int .u64 r, .str (bs d.l), .int .u64 d.code, .bool true] := h
  simp -implicitDefEqProofs only [rc_Decoder_Place, simpS, Nat.reduceAdd, load_at hget, Bool.not_true, Bool.false_eq_true, if_false]
  refine Ok.bnd (right_ok ?_)
  have hdec : decide ((0 : Int) ≤ 0 ∧ (0 : Int) < t ∧ (t : Int) ≤ t ∧ (t : Int) ≤ 65536) = true := decide_eq_true (by omega)
  simp -implicitDefEqProofs only [hdec, rc_Decoder_Place_j0, simpS, Nat.reduceAdd, Bool.not_true, Bool.false_eq_true, if_false, load_at hget]
  refine Ok.bnd (now_ok hget hb ?_)
  rw [hr]
  have hget2 : (m.set i (.cells T_rc_Decoder 0 [.bool true, .int .u64 d.rng, .str (bs d.l), .int .u64 d.code, .bool true])).get i = .cells T_rc_Decoder 0 [.bool true, .int .u64 d.rng, .str (bs d.l), .int .u64 d.code, .bool true] := by simp
  have e0 := fun (k : M AV) => same_at (o := 3) hget2 rfl (eqb_int _ _) k
  have hq1 : 256 ≤ d.rng / t := (Nat.le_div_iff_mul_le (by omega)).2 (by omega)
  have hq2 : d.rng / t ≤ d.rng := Nat.div_le_self _ _
  have hq3 : d.code / (d.rng / t) ≤ d.code := Nat.div_le_self _ _
  have e1 : IntKind.u64.wrap (t : Int) = t := IntWalk.u64_in _ (by omega)
  have e2 : IntKind.u64.wrap ((d.rng : Int).tdiv t) = ((d.rng / t : Nat) : Int) := by
    rw [show (d.rng : Int).tdiv t = ((d.rng / t : Nat) : Int) by rw [Int.tdiv_eq_ediv_of_nonneg (by omega)]; rfl]
    exact IntWalk.u64_in _ ⟨Int.natCast_nonneg _, by omega⟩
  have e3 : IntKind.u64.wrap ((d.code : Int).tdiv ((d.rng / t : Nat) : Int)) = ((d.code / (d.rng / t) : Nat) : Int) := by
    rw [show (d.code : Int).tdiv ((d.rng / t : Nat) : Int) = ((d.code / (d.rng / t) : Nat) : Int) by rw [Int.tdiv_eq_ediv_of_nonneg (by omega)]; rfl]
    exact IntWalk.u64_in _ ⟨Int.natCast_nonneg _, by omega⟩
  have e4 : IntKind.i64.wrap ((d.code / (d.rng / t) : Nat) : Int) = ((d.code / (d.rng / t) : Nat) : Int) := IntWalk.i64_in _ ⟨Int.le_trans (by decide) (Int.natCast_nonneg _), by omega⟩
  have e5 : IntKind.i64.wrap ((t : Int) - 1) = ((t - 1 : Nat) : Int) := by
    rw [show (t : Int) - 1 = ((t - 1 : Nat) : Int) by omega]
    exact IntWalk.i64_in _ ⟨Int.le_trans (by decide) (Int.natCast_nonneg _), by omega⟩
  have e6 : min ((t - 1 : Nat) : Int) ((d.code / (d.rng / t) : Nat) : Int) = ((d.place t : Nat) : Int) := by unfold Dec.place; omega
  have h1 : (t : Int) ≠ 0 := by omega
  have h2 : ((d.rng / t : Nat) : Int) ≠ 0 := by omega
  simp -implicitDefEqProofs only [simpS, Nat.reduceAdd, e0, e1, e5, aBin_quo _ _ _ _ h1, e2, aBin_quo _ _ _ _ h2, e3, e4, e6]
  exact hq

/-- Place, in what is no whole. -/
theorem place_not {i : Nat} {t : Int} {s : Bool} {r c : Nat} {l : List UInt8} {m : Mem} {Q : AV → Mem → Prop} (h : m.get i = decObj s r c l) (ht : ¬ (1 ≤ t ∧ t ≤ 65536)) (hq : Q (.int .i64 0) m) :
    Ok (R fn_rc_Decoder_Place [.ptr i 0, .int .i64 t]) m Q := by
  refine Ok.call (fun n => rc_Decoder_Place_eq rfl n _ _) ?_
  have hget : m.get i = .cells T_rc_Decoder 0 [.bool s, .int .u64 r, .str (bs l), .int .u64 c, .bool true] := h
  simp -implicitDefEqProofs only [rc_Decoder_Place, simpS, Nat.reduceAdd, load_at hget, Bool.not_true, Bool.false_eq_true, if_false]
  refine Ok.bnd (right_ok ?_)
  have hdec : decide (0 ≤ (0 : Int) ∧ 0 < t ∧ t ≤ t ∧ t ≤ 65536) = false := decide_eq_false (by omega)
  simp -implicitDefEqProofs only [hdec, rc_Decoder_Place_j0, simpS, Nat.reduceAdd, Bool.not_false, if_true]
  exact hq

/-! New -/
theorem new_ok {l : List UInt8} {m : Mem} {Q : AV → Mem → Prop} (hb : m.base ≤ m.next) (hq : Q (.ptr m.next 0) (m.alloc (decObj false 0 (Dec.start l).code (Dec.start l).l))) : Ok (R fn_rc_New [.str (bs l)]) m Q := by
  refine Ok.call (fun n => rc_New_eq rfl n _) ?_
  have hfill : (aFill (fun i => [(0, 2), (2, 1), (3, 1), (4, 1)][i]?) [.bool false, .int .u64 0, .str .empty, .int .u64 0, .bool false] [(1, .str (bs l)), (3, (.bool true))]).map AV.agg = some (.agg [.bool false, .int .u64 0, .str (bs l), .int .u64 0, .bool true]) := rfl
  simp -implicitDefEqProofs only [rc_New, hfill, lp_some', ok_box]
  have hm : m.alloc (.cells T_rc_Decoder 0 [.bool false, .int .u64 0, .str (bs l), .int .u64 0, .bool true]) = m.alloc (decObj false 0 0 l) := rfl
  rw [hm]
  refine Ok.loop (fun k v m' => ∃ j : Nat, k + j = 4 ∧ v = [.ptr m.next 0, .int .i64 j] ∧ ∃ d : Dec, m' = m.alloc (decObj false 0 d.code d.l) ∧ d.code < 256 ^ j ∧ d.rng = 4294967295 ∧ d.init k = Dec.start l) ?_ (k := 4) ⟨0, rfl, rfl, ⟨4294967295, 0, l⟩, rfl, by show 0 < 256 ^ 0; decide, rfl, rfl⟩
  rintro k v m' rec ⟨j, hk, rfl, d, rfl, hc, hr, hi⟩ ih
  have hget : (m.alloc (decObj false 0 d.code d.l)).get m.next = .cells T_rc_Decoder 0 [.bool false, .int .u64 (0 : Nat), .str (bs d.l), .int .u64 d.code, .bool true] := Mem.get_alloc _ _
  have hb1 : (m.alloc (decObj false 0 d.code d.l)).base ≤ m.next := hb
  simp -implicitDefEqProofs only [List.getD_cons_zero, List.getD_cons_succ, rc_New_l0, simpS, Nat.reduceAdd]
  cases k with
  | zero =>
    have : ¬ (j : Int) < 4 := by omega
    simp -implicitDefEqProofs only [this, decide_false, Bool.false_eq_true, if_false]
    have e : Dec.start l = d := hi.symm
    rw [e] at hq
    exact hq
  | succ k =>
    have hj : (j : Int) < 4 := by omega
    have hh := hd_lt d.l
    have hc4 : d.code < 16777216 := by
      have : 256 ^ j ≤ 256 ^ 3 := Nat.pow_le_pow_right (by decide) (by omega)
      omega
    have e1 : aBin .shl [] (.int .u64 d.code) (.int .u64 8) = some (.int .u64 ((d.code * 256 : Nat) : Int)) := by
      rw [aBin_shl _ _ _ _ _ (by decide), show (d.code : Int) * 2 ^ (8 : Int).toNat = ((d.code * 256 : Nat) : Int) by rw [Int.natCast_mul]; rfl, IntWalk.u64_in _ ⟨Int.natCast_nonneg _, by omega⟩]
    have e2 := aBin_or_u64 [] d.code (hd d.l) (by omega) hh
    simp -implicitDefEqProofs only [hj, decide_true, if_true, load_at hget, simpS, Nat.reduceAdd, e1]
    refine Ok.bnd (next_ok hget hb1 ?_)
    have hm2 : (m.alloc (decObj false 0 d.code d.l)).set m.next (.cells T_rc_Decoder 0 [.bool false, .int .u64 (0 : Nat), .str (bs d.l.tail), .int .u64 d.code, .bool true]) = m.alloc (decObj false 0 d.code d.l.tail) := Mem.alloc_set _ _ _
    rw [hm2]
    have hget3 : (m.alloc (decObj false 0 d.code d.l.tail)).get m.next = .cells T_rc_Decoder 0 [.bool false, .int .u64 (0 : Nat), .str (bs d.l.tail), .int .u64 d.code, .bool true] := Mem.get_alloc _ _
    have hb3 : (m.alloc (decObj false 0 d.code d.l.tail)).base ≤ m.next := hb
    have e3 := fun (k : M AV) => same_at (o := 3) hget3 rfl (eqb_int _ _) k
    have e4 : IntKind.i64.wrap ((j : Int) + 1) = ((j + 1 : Nat) : Int) := by rw [IntWalk.i64_in _ (by omega)]; rfl
    simp -implicitDefEqProofs (disch := first | assumption | omega | (simp; done) | (simp; omega)) only [simpS, Nat.reduceAdd, e3, e2, ok_store hget3 hb3, e4, Mem.alloc_set]
    refine ih k _ _ (Nat.lt_succ_self _) ⟨j + 1, by omega, rfl, ⟨d.rng, d.code * 256 + hd d.l, d.l.tail⟩, rfl, by show d.code * 256 + hd d.l < 256 ^ (j + 1); rw [Nat.pow_succ]; omega, hr, hi⟩

/-! the document's decoder -/

def refObj (S : List UInt8) (a : Nat) (c r : Int) : AObj := .cells T_ref04_Decoder 0 [.str (bs S), .int .i64 a, .int .i64 c, .int .i64 r]

theorem drop_tail (S : List UInt8) (a : Nat) : (S.drop a).tail = S.drop (a + 1) := by simp [List.tail_drop]

theorem ref_next_ok {i a : Nat} {S : List UInt8} {x2 x3 : AV} {m : Mem} {Q : AV → Mem → Prop} (h : m.get i = .cells T_ref04_Decoder 0 [.str (bs S), .int .i64 a, x2, x3]) (hb : m.base ≤ i) (ha : a < 1000000)
    (hq : Q (.int .i64 (hd (S.drop a))) (m.set i (.cells T_ref04_Decoder 0 [.str (bs S), .int .i64 (a + 1 : Nat), x2, x3]))) : Ok (R fn_ref04_Decoder_next [.ptr i 0]) m Q := by
  refine Ok.call (fun n => ref04_Decoder_next_eq rfl n _) ?_
  have e1 : IntKind.i64.wrap ((a : Int) + 1) = ((a + 1 : Nat) : Int) := by rw [IntWalk.i64_in _ (by omega)]; rfl
  have h1 : (m.set i (.cells T_ref04_Decoder 0 [.str (bs S), .int .i64 (a + 1 : Nat), x2, x3])).get i = .cells T_ref04_Decoder 0 [.str (bs S), .int .i64 (a + 1 : Nat), x2, x3] := by simp
  simp -implicitDefEqProofs (disch := first | assumption | omega | (simp; done) | (simp; omega)) only [ref04_Decoder_next, simpS, Nat.reduceAdd, load_at h, e1, ok_store h hb, load_at h1]
  by_cases hl : S.length < a + 1
  · have h2 : (S.length : Int) < ((a + 1 : Nat) : Int) := by omega
    have h3 : S.drop a = [] := List.drop_eq_nil_of_le (by omega)
    simp -implicitDefEqProofs only [h2, decide_true, if_true]
    rw [h3] at hq; exact hq
  · have h2 : ¬ (S.length : Int) < ((a + 1 : Nat) : Int) := by omega
    have hla : a < S.length := by omega
    have e2 : IntKind.i64.wrap (((a + 1 : Nat) : Int) - 1) = (a : Int) := by
      rw [show ((a + 1 : Nat) : Int) - 1 = (a : Int) by omega, IntWalk.i64_in _ (by omega)]
    have e3 : aIdxStr (.str (bs S)) (.int .i64 (a : Int)) = some (.int .u8 (S[a].toNat)) := aIdxStr_bs S .i64 a (List.getElem?_eq_getElem hla)
    have hb8 := S[a].toNat_lt
    have e4 : IntKind.i64.wrap (S[a].toNat : Int) = (S[a].toNat : Int) := IntWalk.i64_in _ (by omega)
    simp -implicitDefEqProofs only [h2, decide_false, Bool.false_eq_true, if_false, e2, e3, e4, simpS, Nat.reduceAdd]
    have h5 : hd (S.drop a) = S[a].toNat := by rw [List.drop_eq_getElem_cons hla]; rfl
    rw [h5] at hq; exact hq

theorem ref_right_ok {lo hi t : Int} {m : Mem} {Q : AV → Mem → Prop} (hq : Q (.bool (decide (0 ≤ lo ∧ lo < hi ∧ hi ≤ t ∧ t ≤ 65536))) m) : Ok (R fn_ref04_Right [.int .i64 lo, .int .i64 hi, .int .i64 t]) m Q := by
  refine Ok.call (fun n => ref04_Right_eq rfl n _ _ _) ?_
  simp -implicitDefEqProofs only [ref04_Right, ref04_Right_j0, simpS, Nat.reduceAdd]
  by_cases hp : 0 ≤ lo ∧ lo < hi ∧ hi ≤ t ∧ t ≤ 65536
  · obtain ⟨h1, h2, h3, h4⟩ := hp
    have h5 : 1 ≤ t := by omega
    simp -implicitDefEqProofs only [h1, h2, h3, h4, and_self, decide_true] at hq
    simp -implicitDefEqProofs only [h1, h2, h3, h4, h5, decide_true, if_true]
    exact hq
  · rw [decide_eq_false hp] at hq
    split
    · split
      · split
        · split
          · simp -implicitDefEqProofs only [decide_eq_true_eq] at *
            rw [decide_eq_false (by omega)]
            exact hq
          · exact hq
        · exact hq
      · exact hq
    · exact hq

theorem ref_narrow_ok {r lo hi t : Nat} {m : Mem} {Q : AV → Mem → Prop} (hr : r ≤ 4294967295) (hp : lo < hi ∧ hi ≤ t ∧ t ≤ 65536) (hq : Q (.int .i64 (partOf r lo hi t)) m) :
    Ok (R fn_ref04_narrow [.int .i64 r, .int .i64 lo, .int .i64 hi, .int .i64 t]) m Q := by
  refine Ok.call (fun n => ref04_narrow_eq rfl n _ _ _ _) ?_
  have hd : r / t ≤ r := Nat.div_le_self _ _
  have hm : r / t * lo ≤ r := Nat.le_trans (Nat.mul_le_mul_left _ (by omega)) (Nat.div_mul_le_self r t)
  have hm2 : r / t * (hi - lo) ≤ r := Nat.le_trans (Nat.mul_le_mul_left _ (by omega)) (Nat.div_mul_le_self r t)
  have ht : (t : Int) ≠ 0 := by omega
  have e2 : IntKind.i64.wrap ((r : Int).tdiv t) = ((r / t : Nat) : Int) := by
    rw [show (r : Int).tdiv t = ((r / t : Nat) : Int) by rw [Int.tdiv_eq_ediv_of_nonneg (by omega)]; rfl]
    exact IntWalk.i64_in _ ⟨Int.le_trans (by decide) (Int.natCast_nonneg _), by omega⟩
  have e4 : IntKind.i64.wrap (((r / t : Nat) : Int) * lo) = ((r / t * lo : Nat) : Int) := by
    rw [show ((r / t : Nat) : Int) * lo = ((r / t * lo : Nat) : Int) by rw [Int.natCast_mul]]
    exact IntWalk.i64_in _ ⟨Int.le_trans (by decide) (Int.natCast_nonneg _), by omega⟩
  have e5 : IntKind.i64.wrap ((r : Int) - ((r / t * lo : Nat) : Int)) = ((r - r / t * lo : Nat) : Int) := by
    rw [show (r : Int) - ((r / t * lo : Nat) : Int) = ((r - r / t * lo : Nat) : Int) by omega]
    exact IntWalk.i64_in _ ⟨Int.le_trans (by decide) (Int.natCast_nonneg _), by omega⟩
  have e6 : IntKind.i64.wrap ((hi : Int) - lo) = ((hi - lo : Nat) : Int) := by
    rw [show (hi : Int) - lo = ((hi - lo : Nat) : Int) by omega, IntWalk.i64_in _ (by omega)]
  have e7 : IntKind.i64.wrap (((r / t : Nat) : Int) * ((hi - lo : Nat) : Int)) = ((r / t * (hi - lo) : Nat) : Int) := by
    rw [show ((r / t : Nat) : Int) * ((hi - lo : Nat) : Int) = ((r / t * (hi - lo) : Nat) : Int) by rw [Int.natCast_mul]]
    exact IntWalk.i64_in _ ⟨Int.le_trans (by decide) (Int.natCast_nonneg _), by omega⟩
  simp -implicitDefEqProofs only [ref04_narrow, simpS, Nat.reduceAdd, aBin_quo _ _ _ _ ht, e2, e4, e5, e6, e7]
  unfold partOf at hq
  by_cases e : hi = t
  · have : (hi : Int) = t := by omega
    simp -implicitDefEqProofs only [e, if_true] at hq
    simp -implicitDefEqProofs only [this, decide_true, if_true]
    exact hq
  · have : ¬ (hi : Int) = t := by omega
    simp -implicitDefEqProofs only [e, if_false] at hq
    simp -implicitDefEqProofs only [this, decide_false, Bool.false_eq_true, if_false]
    exact hq

theorem ref_place_ok {i a t : Nat} {S : List UInt8} {d : Dec} {m : Mem} {Q : AV → Mem → Prop} (h : m.get i = refObj S a d.code d.rng) (hd : d.Fits)
    (ht : 1 ≤ t ∧ t ≤ 65536) (hq : Q (.int .i64 (d.place t)) m) : Ok (R fn_ref04_Decoder_Place [.ptr i 0, .int .i64 t]) m Q := by
  refine Ok.call (fun n => ref04_Decoder_Place_eq rfl n _ _) ?_
  have hh := hd.hi
  have hl := hd.lo
  have hc := hd.code
  have hget : m.get i = .cells T_ref04_Decoder 0 [.str (bs S), .int .i64 a, .int .i64 d.code, .int .i64 d.rng] := h
  have hq1 : 256 ≤ d.rng / t := (Nat.le_div_iff_mul_le (by omega)).2 (by omega)
  have hq2 : d.rng / t ≤ d.rng := Nat.div_le_self _ _
  have hq3 : d.code / (d.rng / t) ≤ d.code := Nat.div_le_self _ _
  have t1 : ¬ (t : Int) < 1 := by omega
  have t2 : ¬ (65536 : Int) < t := by omega
  have e2 : IntKind.i64.wrap ((d.rng : Int).tdiv t) = ((d.rng / t : Nat) : Int) := by
    rw [show (d.rng : Int).tdiv t = ((d.rng / t : Nat) : Int) by rw [Int.tdiv_eq_ediv_of_nonneg (by omega)]; rfl]
    exact IntWalk.i64_in _ ⟨Int.le_trans (by decide) (Int.natCast_nonneg _), by omega⟩
  have e3 : IntKind.i64.wrap ((d.code : Int).tdiv ((d.rng / t : Nat) : Int)) = ((d.code / (d.rng / t) : Nat) : Int) := by
    rw [show (d.code : Int).tdiv ((d.rng / t : Nat) : Int) = ((d.code / (d.rng / t) : Nat) : Int) by rw [Int.tdiv_eq_ediv_of_nonneg (by omega)]; rfl]
    exact IntWalk.i64_in _ ⟨Int.le_trans (by decide) (Int.natCast_nonneg _), by omega⟩
  have e5 : IntKind.i64.wrap ((t : Int) - 1) = ((t - 1 : Nat) : Int) := by
    rw [show (t : Int) - 1 = ((t - 1 : Nat) : Int) by omega]
    exact IntWalk.i64_in _ ⟨Int.le_trans (by decide) (Int.natCast_nonneg _), by omega⟩
  have e6 : min ((t - 1 : Nat) : Int) ((d.code / (d.rng / t) : Nat) : Int) = ((d.place t : Nat) : Int) := by unfold Dec.place; omega
  have h1 : (t : Int) ≠ 0 := by omega
  have h2 : ((d.rng / t : Nat) : Int) ≠ 0 := by omega
  simp -implicitDefEqProofs only [ref04_Decoder_Place, ref04_Decoder_Place_j0, simpS, Nat.reduceAdd, t1, t2, decide_false, Bool.false_eq_true, if_false, load_at hget, e5, aBin_quo _ _ _ _ h1, e2, aBin_quo _ _ _ _ h2, e3, e6]
  exact hq
theorem ref_place_not {i : Nat} {t : Int} {m : Mem} {Q : AV → Mem → Prop} (ht : ¬ (1 ≤ t ∧ t ≤ 65536)) (hq : Q (.int .i64 0) m) : Ok (R fn_ref04_Decoder_Place [.ptr i 0, .int .i64 t]) m Q := by
  refine Ok.call (fun n => ref04_Decoder_Place_eq rfl n _ _) ?_
  by_cases t1 : t < 1
  · simp -implicitDefEqProofs only [ref04_Decoder_Place, ref04_Decoder_Place_j0, simpS, Nat.reduceAdd, t1, decide_true, if_true]
    exact hq
  · have t2 : 65536 < t := by omega
    simp -implicitDefEqProofs only [ref04_Decoder_Place, ref04_Decoder_Place_j0, simpS, Nat.reduceAdd, t1, t2, decide_true, decide_false, Bool.false_eq_true, if_false, if_true]
    exact hq

theorem ref_take_loop {i : Nat} {S : List UInt8} {T : Dec} {m0 : Mem} {Q : AV → Mem → Prop} (hb : m0.base ≤ i) :
    ∀ {k a : Nat} {d : Dec}, 1 ≤ d.rng → d.rng ≤ 4294967295 → d.code < d.rng → 16777216 ≤ d.rng * 256 ^ k → d.fill k = T → S.drop a = d.l → a + k < 1000000 →
      (∀ a', a' ≤ a + k → S.drop a' = T.l → Q (.tup []) (m0.set i (refObj S a' T.code T.rng))) →
      Ok (fun n => loopN (fun r l => ref04_Decoder_Take_l0 (fcall Tryz.prog ext1 n) n r (l.getD 0 .undef)) n [.ptr i 0]) (m0.set i (refObj S a d.code d.rng)) Q := by
  intro k a d h1 h2 h3 h4 h5 h6 h7 hq
  refine Ok.loop (fun k l m => l = [.ptr i 0] ∧ ∃ (a : Nat) (d : Dec), m = m0.set i (refObj S a d.code d.rng) ∧ 1 ≤ d.rng ∧ d.rng ≤ 4294967295 ∧ d.code < d.rng ∧ 16777216 ≤ d.rng * 256 ^ k ∧ d.fill k = T ∧ S.drop a = d.l ∧ a + k < 1000000 ∧
    (∀ a', a' ≤ a + k → S.drop a' = T.l → Q (.tup []) (m0.set i (refObj S a' T.code T.rng)))) ?_ (k := k) ⟨rfl, a, d, rfl, h1, h2, h3, h4, h5, h6, h7, hq⟩
  clear h1 h2 h3 h4 h5 h6 h7 hq
  rintro k l m rec ⟨rfl, a, d, rfl, h1, h2, h3, h4, h5, h6, h7, hq⟩ ih
  have hget : (m0.set i (refObj S a d.code d.rng)).get i = .cells T_ref04_Decoder 0 [.str (bs S), .int .i64 a, .int .i64 d.code, .int .i64 d.rng] := by simp [refObj]
  rcases Nat.lt_or_ge d.rng 16777216 with hr | hr
  case inr =>
    have : ¬ (d.rng : Int) < 16777216 := by omega
    simp -implicitDefEqProofs only [List.getD_cons_zero, ref04_Decoder_Take_l0, simpS, Nat.reduceAdd, load_at hget, this, decide_false, Bool.false_eq_true, if_false]
    rw [Dec.fill_done hr] at h5
    subst h5; exact hq a (by omega) h6
  case inl =>
    have hlt : (d.rng : Int) < 16777216 := by omega
    have hh := hd_lt d.l
    have e1 : IntKind.i64.wrap ((d.code : Int) * 256) = ((d.code * 256 : Nat) : Int) := by
      rw [show (d.code : Int) * 256 = ((d.code * 256 : Nat) : Int) by rw [Int.natCast_mul]; rfl]
      exact IntWalk.i64_in _ ⟨Int.le_trans (by decide) (Int.natCast_nonneg _), by omega⟩
    simp -implicitDefEqProofs only [List.getD_cons_zero, ref04_Decoder_Take_l0, hlt, decide_true, if_true, load_at hget, simpS, Nat.reduceAdd, e1]
    have hbs : (m0.set i (refObj S a d.code d.rng)).base ≤ i := hb
    refine Ok.bnd (ref_next_ok hget hbs (by omega) ?_)
    rw [Mem.set_set, h6]
    have hm2 : m0.set i (.cells T_ref04_Decoder 0 [.str (bs S), .int .i64 (a + 1 : Nat), .int .i64 d.code, .int .i64 d.rng]) = m0.set i (refObj S (a + 1) d.code d.rng) := rfl
    rw [hm2]
    have hget2 : (m0.set i (refObj S (a + 1) d.code d.rng)).get i = .cells T_ref04_Decoder 0 [.str (bs S), .int .i64 (a + 1 : Nat), .int .i64 d.code, .int .i64 d.rng] := by simp [refObj]
    have hb2 : (m0.set i (refObj S (a + 1) d.code d.rng)).base ≤ i := hb
    have e3 := fun (k : M AV) => same_at (o := 2) hget2 rfl (eqb_int _ _) k
    have e2 : IntKind.i64.wrap (((d.code * 256 : Nat) : Int) + (hd d.l : Int)) = ((d.code * 256 + hd d.l : Nat) : Int) := by
      rw [show ((d.code * 256 : Nat) : Int) + (hd d.l : Int) = ((d.code * 256 + hd d.l : Nat) : Int) by rw [Int.natCast_add]]
      exact IntWalk.i64_in _ ⟨Int.le_trans (by decide) (Int.natCast_nonneg _), by omega⟩
    have e4 : IntKind.i64.wrap ((d.rng : Int) * 256) = ((d.rng * 256 : Nat) : Int) := by
      rw [show (d.rng : Int) * 256 = ((d.rng * 256 : Nat) : Int) by rw [Int.natCast_mul]; rfl]
      exact IntWalk.i64_in _ ⟨Int.le_trans (by decide) (Int.natCast_nonneg _), by omega⟩
    have hget3 : (m0.set i (refObj S (a + 1) (d.code * 256 + hd d.l : Nat) d.rng)).get i = .cells T_ref04_Decoder 0 [.str (bs S), .int .i64 (a + 1 : Nat), .int .i64 (d.code * 256 + hd d.l : Nat), .int .i64 d.rng] := by simp [refObj]
    have hb3 : (m0.set i (refObj S (a + 1) (d.code * 256 + hd d.l : Nat) d.rng)).base ≤ i := hb
    simp -implicitDefEqProofs (disch := first | assumption | omega | (simp; done) | (simp; omega)) only [simpS, Nat.reduceAdd, e3, e2, ok_store hget2 hb2]
    have hm3 : m0.set i (.cells T_ref04_Decoder 0 [.str (bs S), .int .i64 (a + 1 : Nat), .int .i64 (d.code * 256 + hd d.l : Nat), .int .i64 d.rng]) = m0.set i (refObj S (a + 1) (d.code * 256 + hd d.l : Nat) d.rng) := rfl
    simp -implicitDefEqProofs (disch := first | assumption | omega | (simp; done) | (simp; omega)) only [simpS, Nat.reduceAdd, hm3, load_at hget3, e4, ok_store hget3 hb3]
    cases k with
    | zero => omega
    | succ k =>
      have h8 : d.fill (k + 1) = Dec.fill k ⟨d.rng * 256, d.code * 256 + hd d.l, d.l.tail⟩ := by simp [Dec.fill, Nat.not_le.2 hr]
      exact ih k _ _ (Nat.lt_succ_self _) ⟨rfl, a + 1, ⟨d.rng * 256, d.code * 256 + hd d.l, d.l.tail⟩, rfl, by show 1 ≤ d.rng * 256; omega, by show d.rng * 256 ≤ _; omega, by show d.code * 256 + hd d.l < d.rng * 256; omega, by show _ ≤ d.rng * 256 * 256 ^ k; rw [Nat.mul_assoc, ← Nat.pow_succ']; exact h4, by rw [← h8]; exact h5, by show S.drop (a + 1) = d.l.tail; rw [← h6, drop_tail], by omega, fun a' ha' => hq a' (by omega)⟩

theorem ref_take_ok {i a lo hi t : Nat} {S : List UInt8} {d : Dec} {m : Mem} {Q : AV → Mem → Prop} (h : m.get i = refObj S a d.code d.rng) (hb : m.base ≤ i) (hd : d.Fits) (hS : S.drop a = d.l) (ha : a + 3 < 1000000)
    (hp : lo < hi ∧ hi ≤ t ∧ t ≤ 65536) (hq : ∀ a', a' ≤ a + 3 → S.drop a' = (d.take lo hi t).l → Q (.tup []) (m.set i (refObj S a' (d.take lo hi t).code (d.take lo hi t).rng))) :
    Ok (R fn_ref04_Decoder_Take [.ptr i 0, .int .i64 lo, .int .i64 hi, .int .i64 t]) m Q := by
  refine Ok.call (fun n => ref04_Decoder_Take_eq rfl n _ _ _ _) ?_
  have hh := hd.hi
  have hc := hd.code
  obtain ⟨hp1, hp2⟩ := partOf_bounds hd.lo hd.hi hp
  have hget : m.get i = .cells T_ref04_Decoder 0 [.str (bs S), .int .i64 a, .int .i64 d.code, .int .i64 d.rng] := h
  refine Ok.bnd (ref_right_ok ?_)
  have hdec : decide ((0 : Int) ≤ lo ∧ (lo : Int) < hi ∧ (hi : Int) ≤ t ∧ (t : Int) ≤ 65536) = true := decide_eq_true (by omega)
  have hdd : d.rng / t ≤ d.rng := Nat.div_le_self _ _
  have hm : d.rng / t * lo ≤ d.rng := Nat.le_trans (Nat.mul_le_mul_left _ (by omega)) (Nat.div_mul_le_self d.rng t)
  have ht : (t : Int) ≠ 0 := by omega
  have e2 : IntKind.i64.wrap ((d.rng : Int).tdiv t) = ((d.rng / t : Nat) : Int) := by
    rw [show (d.rng : Int).tdiv t = ((d.rng / t : Nat) : Int) by rw [Int.tdiv_eq_ediv_of_nonneg (by omega)]; rfl]
    exact IntWalk.i64_in _ ⟨Int.le_trans (by decide) (Int.natCast_nonneg _), by omega⟩
  have e4 : IntKind.i64.wrap (((d.rng / t : Nat) : Int) * lo) = ((d.rng / t * lo : Nat) : Int) := by
    rw [show ((d.rng / t : Nat) : Int) * lo = ((d.rng / t * lo : Nat) : Int) by rw [Int.natCast_mul]]
    exact IntWalk.i64_in _ ⟨Int.le_trans (by decide) (Int.natCast_nonneg _), by omega⟩
  generalize hB : d.rng / t * lo = B at *
  have e5 : IntKind.i64.wrap ((d.code : Int) - (B : Int)) = (d.code : Int) - (B : Int) := IntWalk.i64_in _ (by omega)
  have hget2 : (m.set i (refObj S a ((d.code : Int) - (B : Int)) d.rng)).get i = .cells T_ref04_Decoder 0 [.str (bs S), .int .i64 a, .int .i64 ((d.code : Int) - (B : Int)), .int .i64 d.rng] := by simp [refObj]
  have hb2 : (m.set i (refObj S a ((d.code : Int) - (B : Int)) d.rng)).base ≤ i := hb
  have hm2 : m.set i (.cells T_ref04_Decoder 0 [.str (bs S), .int .i64 a, .int .i64 ((d.code : Int) - (B : Int)), .int .i64 d.rng]) = m.set i (refObj S a ((d.code : Int) - (B : Int)) d.rng) := rfl
  simp -implicitDefEqProofs (disch := first | assumption | omega | (simp; done) | (simp; omega)) only [hdec, simpS, Nat.reduceAdd, Bool.not_true, Bool.false_eq_true, if_false, load_at hget, aBin_quo _ _ _ _ ht, e2, e4, e5, ok_store hget hb, hm2, load_at hget2]
  refine Ok.bnd (ref_narrow_ok hh hp ?_)
  generalize hP : partOf d.rng lo hi t = P at *
  have hm3 : m.set i (.cells T_ref04_Decoder 0 [.str (bs S), .int .i64 a, .int .i64 ((d.code : Int) - (B : Int)), .int .i64 P]) = m.set i (refObj S a ((d.code : Int) - (B : Int)) P) := rfl
  have hget3 : (m.set i (refObj S a ((d.code : Int) - (B : Int)) P)).get i = .cells T_ref04_Decoder 0 [.str (bs S), .int .i64 a, .int .i64 ((d.code : Int) - (B : Int)), .int .i64 P] := by simp [refObj]
  have hb3 : (m.set i (refObj S a ((d.code : Int) - (B : Int)) P)).base ≤ i := hb
  have htake : d.take lo hi t = Dec.fill 3 ⟨P, min (d.code - B) (P - 1), d.l⟩ := by unfold Dec.take; rw [hP, hB]
  have hloop := ref_take_loop (S := S) (T := d.take lo hi t) (m0 := m) (Q := Q) hb (k := 3) (a := a) (d := ⟨P, min (d.code - B) (P - 1), d.l⟩) (by show 1 ≤ P; omega) (by show P ≤ _; omega) (by show min _ _ < P; omega) (by show _ ≤ P * _; omega) htake.symm hS (by omega) hq
  simp only at hloop
  rcases Int.lt_or_le ((d.code : Int) - (B : Int)) 0 with hneg | hneg
  case inl =>
    have h1 : ¬ (P : Int) ≤ (d.code : Int) - (B : Int) := by omega
    have hm4 : m.set i (.cells T_ref04_Decoder 0 [.str (bs S), .int .i64 a, .int .i64 0, .int .i64 P]) = m.set i (refObj S a (min (d.code - B) (P - 1) : Nat) P) := by
      have : ((min (d.code - B) (P - 1) : Nat) : Int) = 0 := by omega
      rw [this]; rfl
    simp -implicitDefEqProofs (disch := first | assumption | omega | (simp; done) | (simp; omega)) only [simpS, Nat.reduceAdd, ok_store hget2 hb2, hm3, load_at hget3, h1, decide_false, Bool.false_eq_true, if_false, ref04_Decoder_Take_j0, ref04_Decoder_Take_j1, hneg, decide_true, if_true, ok_store hget3 hb3, hm4]
    exact hloop
  case inr =>
    have hneg' : ¬ (d.code : Int) - (B : Int) < 0 := by omega
    rcases Int.lt_or_le ((d.code : Int) - (B : Int)) (P : Int) with hge | hge
    case inl =>
      have h1 : ¬ (P : Int) ≤ (d.code : Int) - (B : Int) := by omega
      have hm4 : m.set i (refObj S a ((d.code : Int) - (B : Int)) P) = m.set i (refObj S a (min (d.code - B) (P - 1) : Nat) P) := by
        have : (d.code : Int) - (B : Int) = ((min (d.code - B) (P - 1) : Nat) : Int) := by omega
        rw [this]
      simp -implicitDefEqProofs (disch := first | assumption | omega | (simp; done) | (simp; omega)) only [simpS, Nat.reduceAdd, ok_store hget2 hb2, hm3, load_at hget3, h1, decide_false, Bool.false_eq_true, if_false, ref04_Decoder_Take_j0, ref04_Decoder_Take_j1, hneg']
      rw [hm4]
      exact hloop
    case inr =>
      have e6 : IntKind.i64.wrap ((P : Int) - 1) = ((min (d.code - B) (P - 1) : Nat) : Int) := by
        rw [show ((min (d.code - B) (P - 1) : Nat) : Int) = (P : Int) - 1 by omega]
        exact IntWalk.i64_in _ (by omega)
      have hm4 : m.set i (.cells T_ref04_Decoder 0 [.str (bs S), .int .i64 a, .int .i64 (min (d.code - B) (P - 1) : Nat), .int .i64 P]) = m.set i (refObj S a (min (d.code - B) (P - 1) : Nat) P) := rfl
      have hget4 : (m.set i (refObj S a (min (d.code - B) (P - 1) : Nat) P)).get i = .cells T_ref04_Decoder 0 [.str (bs S), .int .i64 a, .int .i64 (min (d.code - B) (P - 1) : Nat), .int .i64 P] := by simp [refObj]
      have hnn : ¬ ((min (d.code - B) (P - 1) : Nat) : Int) < 0 := by omega
      simp -implicitDefEqProofs (disch := first | assumption | omega | (simp; done) | (simp; omega)) only [simpS, Nat.reduceAdd, ok_store hget2 hb2, hm3, load_at hget3, hge, decide_true, if_true, e6, ok_store hget3 hb3, hm4, ref04_Decoder_Take_j0, ref04_Decoder_Take_j1, load_at hget4, hnn, decide_false, Bool.false_eq_true, if_false]
      exact hloop

theorem ref_new_ok {S : List UInt8} {m : Mem} {Q : AV → Mem → Prop} (hb : m.base ≤ m.next) (hq : S.drop 4 = (Dec.start S).l → Q (.ptr m.next 0) (m.alloc (refObj S 4 (Dec.start S).code (Dec.start S).rng))) : Ok (R fn_ref04_New [.str (bs S)]) m Q := by
  refine Ok.call (fun n => ref04_New_eq rfl n _) ?_
  have hfill : (aFill (fun i => [(0, 1), (1, 1), (2, 1), (3, 1)][i]?) [.str .empty, .int .i64 0, .int .i64 0, .int .i64 0] [(0, .str (bs S)), (3, (.int .i64 4294967295))]).map AV.agg = some (.agg [.str (bs S), .int .i64 0, .int .i64 0, .int .i64 4294967295]) := rfl
  simp -implicitDefEqProofs only [ref04_New, hfill, lp_some', ok_box]
  have hm : m.alloc (.cells T_ref04_Decoder 0 [.str (bs S), .int .i64 0, .int .i64 0, .int .i64 4294967295]) = m.alloc (refObj S 0 (0 : Nat) (4294967295 : Nat)) := rfl
  rw [hm]
  refine Ok.loop (fun k v m' => ∃ j : Nat, k + j = 4 ∧ v = [.ptr m.next 0, .int .i64 j] ∧ ∃ d : Dec, m' = m.alloc (refObj S j d.code d.rng) ∧ d.code < 256 ^ j ∧ d.rng = 4294967295 ∧ d.init k = Dec.start S ∧ S.drop j = d.l) ?_ (k := 4) ⟨0, rfl, rfl, ⟨4294967295, 0, S⟩, rfl, by show 0 < 256 ^ 0; decide, rfl, rfl, rfl⟩
  rintro k v m' rec ⟨j, hk, rfl, d, rfl, hc, hr, hi, hl⟩ ih
  have hget : (m.alloc (refObj S j d.code d.rng)).get m.next = .cells T_ref04_Decoder 0 [.str (bs S), .int .i64 j, .int .i64 d.code, .int .i64 d.rng] := Mem.get_alloc _ _
  have hb1 : (m.alloc (refObj S j d.code d.rng)).base ≤ m.next := hb
  cases k with
  | zero =>
    have : ¬ (j : Int) < 4 := by omega
    simp -implicitDefEqProofs only [List.getD_cons_zero, List.getD_cons_succ, ref04_New_l0, simpS, Nat.reduceAdd, this, decide_false, Bool.false_eq_true, if_false]
    have e : Dec.start S = d := hi.symm
    have ej : j = 4 := by omega
    subst ej
    rw [e] at hq
    exact hq hl
  | succ k =>
    have hj : (j : Int) < 4 := by omega
    have hh := hd_lt d.l
    have hc4 : d.code < 16777216 := by
      have : 256 ^ j ≤ 256 ^ 3 := Nat.pow_le_pow_right (by decide) (by omega)
      omega
    have e1 : IntKind.i64.wrap ((d.code : Int) * 256) = ((d.code * 256 : Nat) : Int) := by
      rw [show (d.code : Int) * 256 = ((d.code * 256 : Nat) : Int) by rw [Int.natCast_mul]; rfl]
      exact IntWalk.i64_in _ ⟨Int.le_trans (by decide) (Int.natCast_nonneg _), by omega⟩
    simp -implicitDefEqProofs only [List.getD_cons_zero, List.getD_cons_succ, ref04_New_l0, simpS, Nat.reduceAdd, hj, decide_true, if_true, load_at hget, e1]
    refine Ok.bnd (ref_next_ok hget hb1 (by omega) ?_)
    rw [hl]
    have hm2 : (m.alloc (refObj S j d.code d.rng)).set m.next (.cells T_ref04_Decoder 0 [.str (bs S), .int .i64 (j + 1 : Nat), .int .i64 d.code, .int .i64 d.rng]) = m.alloc (refObj S (j + 1) d.code d.rng) := Mem.alloc_set _ _ _
    rw [hm2]
    have hget3 : (m.alloc (refObj S (j + 1) d.code d.rng)).get m.next = .cells T_ref04_Decoder 0 [.str (bs S), .int .i64 (j + 1 : Nat), .int .i64 d.code, .int .i64 d.rng] := Mem.get_alloc _ _
    have hb3 : (m.alloc (refObj S (j + 1) d.code d.rng)).base ≤ m.next := hb
    have e3 := fun (k : M AV) => same_at (o := 2) hget3 rfl (eqb_int _ _) k
    have e2 : IntKind.i64.wrap (((d.code * 256 : Nat) : Int) + (hd d.l : Int)) = ((d.code * 256 + hd d.l : Nat) : Int) := by
      rw [show ((d.code * 256 : Nat) : Int) + (hd d.l : Int) = ((d.code * 256 + hd d.l : Nat) : Int) by rw [Int.natCast_add]]
      exact IntWalk.i64_in _ ⟨Int.le_trans (by decide) (Int.natCast_nonneg _), by omega⟩
    have e4 : IntKind.i64.wrap ((j : Int) + 1) = ((j + 1 : Nat) : Int) := by rw [IntWalk.i64_in _ (by omega)]; rfl
    simp -implicitDefEqProofs (disch := first | assumption | omega | (simp; done) | (simp; omega)) only [simpS, Nat.reduceAdd, e3, e2, ok_store hget3 hb3, e4, Mem.alloc_set]
    refine ih k _ _ (Nat.lt_succ_self _) ⟨j + 1, by omega, rfl, ⟨d.rng, d.code * 256 + hd d.l, d.l.tail⟩, rfl, by show d.code * 256 + hd d.l < 256 ^ (j + 1); rw [Nat.pow_succ]; omega, hr, hi, by show S.drop (j + 1) = d.l.tail; rw [← hl, drop_tail]⟩
end SplA

/- How many pulses there are: a table, and its rows. -/
namespace Go.Proofs.YtooogfnmhfocjaaGreatDoor.Spl
open Go
set_option linter.unusedVariables false
set_option linter.unusedSimpArgs false

/-- A row behind the row l, of which x is the number ahead. -/
def nxtRow : Nat → List Nat → List Nat
  | _, [] => []
  | x, [_] => [x]
  | x, a :: b :: l => x :: nxtRow (b + x + a) (b :: l)
def pvRow : Nat → List Nat
  | 0 => 1 :: List.replicate 24 0
  | n + 1 => nxtRow 1 (pvRow n)
/-- How many pulses of n numbers there are, k from 0 on the whole. -/
def pvT (n k : Nat) : Nat := (pvRow n).getD k 0
theorem nxtRow_length : ∀ (l : List Nat) (x : Nat), (nxtRow x l).length = l.length
  | [], _ => rfl
  | [_], _ => rfl
  | a :: b :: l, x => by simp [nxtRow, nxtRow_length (b :: l)]
theorem pvRow_length : ∀ n, (pvRow n).length = 25
  | 0 => rfl
  | n + 1 => by rw [pvRow, nxtRow_length, pvRow_length n]
theorem nxtRow_zero {x : Nat} : ∀ {l : List Nat}, 0 < l.length → (nxtRow x l).getD 0 0 = x
  | [_], _ => rfl
  | _ :: _ :: _, _ => rfl
theorem nxtRow_succ : ∀ {l : List Nat} {x k : Nat}, k + 1 < l.length → (nxtRow x l).getD (k + 1) 0 = l.getD (k + 1) 0 + (nxtRow x l).getD k 0 + l.getD k 0
  | [], _, _, h => by simp at h
  | [_], _, _, h => by simp at h
  | a :: b :: l, x, 0, _ => by
    show (nxtRow (b + x + a) (b :: l)).getD 0 0 = b + x + a
    exact nxtRow_zero (by simp)
  | a :: b :: l, x, k + 1, h => by
    have := nxtRow_succ (l := b :: l) (x := b + x + a) (k := k) (by simpa using h)
    simpa [nxtRow] using this
theorem pvT_zero (n : Nat) : pvT n 0 = 1 := by
  cases n with
  | zero => rfl
  | succ n => exact nxtRow_zero (by rw [pvRow_length]; omega)
theorem pvT_succ {n k : Nat} (h : k < 24) : pvT (n + 1) (k + 1) = pvT n (k + 1) + pvT (n + 1) k + pvT n k := nxtRow_succ (by rw [pvRow_length]; omega)
theorem pvT_small : ∀ n, n < 9 → ∀ k, k < 25 → pvT n k < 1099511627776 := by decide +kernel
theorem pvT_zero_succ {k : Nat} : pvT 0 (k + 1) = 0 := by
  show (1 :: List.replicate 24 0).getD (k + 1) 0 = 0
  rw [List.getD_cons_succ, List.getD_eq_getElem?_getD, List.getElem?_replicate]
  split <;> rfl
/-- The table's cells, of which those of f stand. -/
def pvTab (f : Nat → Nat → Bool) : List AV := (List.range 225).map fun i => AV.int .i64 (if f (i / 25) (i % 25) then ((pvT (i / 25) (i % 25) : Nat) : Int) else 0)
theorem pvTab_length (f : Nat → Nat → Bool) : (pvTab f).length = 225 := by simp [pvTab]
theorem pvTab_get {f : Nat → Nat → Bool} {r c : Nat} (hr : r < 9) (hc : c < 25) (hf : f r c = true) : (pvTab f)[r * 25 + c]? = some (.int .i64 (pvT r c : Nat)) := by
  have h1 : (r * 25 + c) / 25 = r := by omega
  have h2 : (r * 25 + c) % 25 = c := by omega
  have h3 : r * 25 + c < 225 := by omega
  simp [pvTab, h1, h2, h3, hf]
theorem pvTab_set {f : Nat → Nat → Bool} {r c : Nat} (hr : r < 9) (hc : c < 25) : (pvTab f).set (r * 25 + c) (.int .i64 (pvT r c : Nat)) = pvTab (fun a b => f a b || (a == r && b == c)) := by
  refine List.ext_getElem (by simp [pvTab]) fun i h1 h2 => ?_
  rw [List.getElem_set]
  split
  · rename_i h
    subst h
    have h1 : (r * 25 + c) / 25 = r := by omega
    have h2 : (r * 25 + c) % 25 = c := by omega
    simp [pvTab, h1, h2]
  · rename_i h
    have hne : ¬ (i / 25 = r ∧ i % 25 = c) := by omega
    have : (i / 25 == r && i % 25 == c) = false := by
      rcases Decidable.not_and_iff_or_not.1 hne with h | h <;> simp [h]
    simp only [pvTab, List.getElem_map, List.getElem_range, this, Bool.or_false]
theorem pvTab_all {f : Nat → Nat → Bool} (h : ∀ a, a < 9 → ∀ b, b < 25 → f a b = true) : pvTab f = pvTab (fun _ _ => true) := by
  refine List.ext_getElem (by simp [pvTab]) fun i h1 h2 => ?_
  have hi : i < 225 := by simpa [pvTab] using h1
  have := h (i / 25) (by omega) (i % 25) (by omega)
  simp [pvTab, this]

/-! how far numbers are from 0 -/
def absSum : List Int → Nat
  | [] => 0
  | x :: l => x.natAbs + absSum l
theorem absSum_le : ∀ {l : List Int}, (∀ x ∈ l, x.natAbs ≤ 24) → absSum l ≤ 24 * l.length
  | [], _ => Nat.le_refl _
  | x :: l, h => by
    have h1 := h x (List.mem_cons_self ..)
    have h2 := absSum_le (fun y hy => h y (List.mem_cons_of_mem _ hy))
    simp only [absSum, List.length_cons]
    omega
theorem absSum_mem : ∀ {l : List Int} {x : Int}, x ∈ l → x.natAbs ≤ absSum l
  | y :: l, x, h => by
    rcases List.mem_cons.1 h with rfl | h
    · simp [absSum]
    · have := absSum_mem h
      simp only [absSum]; omega
/-- How far pulses are from 0; none: they are none. -/
def sizeN (l : List Int) : Option Nat := if 1 ≤ l.length ∧ l.length ≤ 8 ∧ absSum l ≤ 24 then some (absSum l) else none

/-! the number of pulses -/
/-- Those with a first number nearer to 0 than m; r: how many there are of the rest. -/
def lowN (r : Nat → Nat) (k : Nat) : Nat → Nat
  | 0 => 0
  | 1 => r k
  | m + 2 => lowN r k (m + 1) + 2 * r (k - (m + 1))
def idxN (k : Nat) : List Int → Nat
  | [] => 0
  | x :: l => lowN (pvT l.length) k x.natAbs + (if x < 0 then pvT l.length (k - x.natAbs) else 0) + idxN (k - x.natAbs) l
theorem lowN_succ {r : Nat → Nat} {k j : Nat} (h : 1 ≤ j) : lowN r k (j + 1) = lowN r k j + 2 * r (k - j) := by
  obtain ⟨i, rfl⟩ : ∃ i, j = i + 1 := ⟨j - 1, by omega⟩
  rfl
theorem lowN_le {r : Nat → Nat} {k B : Nat} (h : ∀ j, j ≤ k → r j ≤ B) : ∀ m, lowN r k m ≤ 2 * m * B
  | 0 => Nat.zero_le _
  | 1 => by have := h k (Nat.le_refl _); simp only [lowN]; omega
  | m + 2 => by
    have h1 := lowN_le h (m + 1)
    have h2 := h (k - (m + 1)) (Nat.sub_le _ _)
    simp only [lowN]
    have : 2 * (m + 2) * B = 2 * (m + 1) * B + 2 * B := by rw [← Nat.add_mul]; congr 1
    omega
def indexN (l : List Int) : Option Nat := if 1 ≤ l.length ∧ l.length ≤ 8 ∧ absSum l ≤ 24 then some (idxN (absSum l) l) else none

theorem lowN_shift (r : Nat → Nat) (k : Nat) : ∀ j, lowN r (k + 1) (j + 2) = r (k + 1) + r k + lowN r k (j + 1)
  | 0 => by simp only [lowN, Nat.add_sub_cancel]; omega
  | j + 1 => by
    have h := lowN_shift r k j
    have e : k + 1 - (j + 1 + 1) = k - (j + 1) := by omega
    show lowN r (k + 1) (j + 2) + 2 * r (k + 1 - (j + 1 + 1)) = _ + (lowN r k (j + 1) + 2 * r (k - (j + 1)))
    rw [h, e]; omega
theorem lowN_full (n : Nat) : ∀ k, k < 25 → lowN (pvT n) k (k + 1) = pvT (n + 1) k
  | 0, _ => by rw [pvT_zero]; exact pvT_zero n
  | k + 1, h => by rw [lowN_shift, lowN_full n k (by omega), pvT_succ (by omega)]; omega
def rowsI (r : Nat) : List Int := (pvRow r).map fun (x : Nat) => (x : Int)
theorem rowsI_length (r : Nat) : (rowsI r).length = 25 := by simp [rowsI, pvRow_length]
theorem rowsI_get {r k : Nat} (hk : k < 25) : (rowsI r)[k]? = some (pvT r k : Int) := by
  have : k < (pvRow r).length := by rw [pvRow_length]; exact hk
  simp [rowsI, pvT, List.getD_eq_getElem?_getD, List.getElem?_eq_getElem this]
end Go.Proofs.YtooogfnmhfocjaaGreatDoor.Spl

/- The abstract machine, 18: slices of the call's own that grow; what is changed. -/
namespace Go.Proofs.YtooogfnmhfocjaaGreatDoor.Spl
open Go
set_option linter.unusedVariables false
set_option linter.unusedSimpArgs false

/-- What is changed lies in F. -/
structure Chg (F : Nat → Prop) (m m' : Mem) : Prop where
  base : m'.base = m.base
  next : m.next ≤ m'.next
  get : ∀ b, b < m.next → ¬ F b → m'.get b = m.get b
theorem Chg.refl (F : Nat → Prop) (m : Mem) : Chg F m m := ⟨rfl, Nat.le_refl _, fun _ _ _ => rfl⟩
theorem Chg.trans {F G : Nat → Prop} {a b c : Mem} (h : Chg F a b) (g : Chg G b c) (hG : ∀ i, i < a.next → G i → F i) : Chg F a c :=
  ⟨g.base.trans h.base, Nat.le_trans h.next g.next, fun i hi hF => (g.get i (Nat.lt_of_lt_of_le hi h.next) (fun hg => hF (hG i hi hg))).trans (h.get i hi hF)⟩
theorem Chg.mono {F G : Nat → Prop} {a b : Mem} (h : Chg F a b) (hG : ∀ i, i < a.next → F i → G i) : Chg G a b :=
  ⟨h.base, h.next, fun i hi hg => h.get i hi (fun hf => hg (hG i hi hf))⟩
theorem Chg.set (m : Mem) (i : Nat) (o : AObj) : Chg (fun b => b = i) m (m.set i o) := ⟨rfl, Nat.le_refl _, fun b _ hb => get_set_ne hb⟩
theorem Chg.alloc (F : Nat → Prop) (m : Mem) (o : AObj) : Chg F m (m.alloc o) := ⟨rfl, Nat.le_succ _, fun b hb _ => get_alloc_ne (Nat.ne_of_lt hb)⟩
theorem Chg.old {F : Nat → Prop} {m0 m m' : Mem} (h : Chg F m m') (h0 : Old m0 m) (hn : m.base ≤ m.next) (hF : ∀ b, F b → m.base ≤ b) : Old m0 m' :=
  ⟨h.base.trans h0.base, Nat.le_trans h0.next h.next, fun b hb => (h.get b (by have := h0.base; omega) (fun hf => by have := hF b hf; have := h0.base; omega)).trans (h0.get b hb)⟩

/-- The object of a slice. -/
def own : AV → Nat → Prop
  | .slice j _ _ _, b => b = j
  | _, _ => False

/-- A slice of the call's own, of elements of one cell each, all of its object's. -/
def Buf (T fz : Nat) (m : Mem) (v : AV) (cs : List AV) : Prop :=
  (v = .nilslice ∧ cs = []) ∨ ∃ j, v = .slice j 0 cs.length 1 ∧ cs ≠ [] ∧ m.get j = .cells T fz cs ∧ fz ≤ cs.length ∧ m.base ≤ j ∧ j < m.next
theorem Buf.own {T fz : Nat} {m : Mem} {v : AV} {cs : List AV} (h : Buf T fz m v cs) {b : Nat} (hb : own v b) : m.base ≤ b ∧ b < m.next := by
  rcases h with ⟨rfl, _⟩ | ⟨j, rfl, _, _, _, h1, h2⟩
  · exact hb.elim
  · cases hb; exact ⟨h1, h2⟩
theorem Buf.chg {F : Nat → Prop} {T fz : Nat} {m m' : Mem} {v : AV} {cs : List AV} (h : Buf T fz m v cs) (hc : Chg F m m') (hF : ∀ b, Go.Proofs.YtooogfnmhfocjaaGreatDoor.Spl.own v b → ¬ F b) : Buf T fz m' v cs := by
  rcases h with ⟨rfl, rfl⟩ | ⟨j, rfl, h1, h2, h3, h4, h5⟩
  · exact .inl ⟨rfl, rfl⟩
  · exact .inr ⟨j, rfl, h1, (hc.get j h5 (hF j rfl)).trans h2, h3, by rw [hc.base]; exact h4, Nat.lt_of_lt_of_le h5 hc.next⟩
theorem Buf.len {T fz : Nat} {m : Mem} {v : AV} {cs : List AV} (h : Buf T fz m v cs) : aLenS v = some (.int .i64 cs.length) := by
  rcases h with ⟨rfl, rfl⟩ | ⟨j, rfl, _⟩ <;> rfl
theorem Buf.one {T fz : Nat} {m : Mem} {v : AV} {cs : List AV} (h : Buf T fz m v cs) : v.one = true := by
  rcases h with ⟨rfl, rfl⟩ | ⟨j, rfl, _⟩ <;> simp
theorem Buf.eqb {T fz : Nat} {m : Mem} {v : AV} {cs : List AV} (h : Buf T fz m v cs) : AV.eqb v v = true := by
  rcases h with ⟨rfl, rfl⟩ | ⟨j, rfl, _⟩ <;> simp [AV.eqb]
theorem Buf.idx {T fz : Nat} {m : Mem} {v : AV} {cs : List AV} (h : Buf T fz m v cs) {k : Nat} {kd : IntKind} (hk : k < cs.length) : ∃ j, aIdxS 1 v (.int kd k) = some (.ptr j k) ∧ m.get j = .cells T fz cs ∧ m.base ≤ j ∧ j < m.next ∧ Go.Proofs.YtooogfnmhfocjaaGreatDoor.Spl.own v j := by
  rcases h with ⟨rfl, rfl⟩ | ⟨j, rfl, h1, h2, h3, h4, h5⟩
  · simp at hk
  · exact ⟨j, by rw [aIdxS_at hk]; simp, h2, h4, h5, rfl⟩
theorem Buf.elems {T fz : Nat} {m : Mem} {v : AV} {cs : List AV} (h : Buf T fz m v cs) : elems 1 cs.length v m = some cs ∧ count v = some cs.length := by
  rcases h with ⟨rfl, rfl⟩ | ⟨j, rfl, h1, h2, h3, h4, h5⟩
  · exact ⟨rfl, rfl⟩
  · refine ⟨?_, rfl⟩
    simp [Go.Proofs.YtooogfnmhfocjaaGreatDoor.Spl.elems, Mem.cells?, h2]

theorem ok_append {β : Type} {T fz bytes : Nat} {v x : AV} {cs X : List AV} {k : Nat → AV → M β} {m : Mem} {Q : β → Mem → Prop} (h : Buf T fz m v cs) (hn : m.base ≤ m.next) (hx : elems 1 X.length x m = some X ∧ count x = some X.length) (ho : X.all AV.one = true)
    (hlen : (cs.length + X.length) * bytes ≤ 2 ^ 45)
    (hq : ∀ m' v', Chg (own v) m m' → (∃ fz', fz' ≤ fz ∧ Buf T fz' m' v' (cs ++ X)) → (∀ j, own v' j → own v j ∨ m.next ≤ j) → (X ≠ [] → ∀ j, own v' j → m.next ≤ j) → m'.base ≤ m'.next → Ok (fun n => k n v') m' Q) :
    Ok (fun n => bnd (append T 1 bytes v x) (k n)) m Q := by
  rw [ok_op]
  have hX : X.length = 0 ↔ X = [] := List.length_eq_zero_iff
  rcases h with ⟨rfl, rfl⟩ | ⟨j, rfl, h1, h2, h3, h4, h5⟩
  · by_cases e : X = []
    · subst e
      refine ⟨.nilslice, m, ?_, hq m .nilslice (Chg.refl _ _) ⟨fz, Nat.le_refl _, .inl ⟨rfl, rfl⟩⟩ (fun j h => h.elim) (fun h => absurd rfl h) hn⟩
      unfold append
      simp only [List.length_nil] at hx ⊢
      simp only [hx.2, hx.1, forceList_eq, forceNat_eq]
      simp
    · have hl : X.length ≠ 0 := fun h => e (hX.1 h)
      refine ⟨.slice m.next 0 X.length 1, m.alloc (.cells T 0 X), ?_, ?_⟩
      · unfold append
        simp only [hx.2, hx.1, ho, hl, if_false, reduceCtorEq, forceList_eq, forceNat_eq]
        rw [if_pos (by simpa using hlen)]
        rfl
      · refine hq _ _ (Chg.alloc _ _ _) ⟨0, Nat.zero_le _, .inr ⟨m.next, by simp, by simpa using e, by simp [Mem.get_alloc], Nat.zero_le _, hn, Nat.lt_succ_self _⟩⟩ (fun j hj => .inr (Nat.le_of_eq hj.symm)) (fun _ j hj => Nat.le_of_eq hj.symm) (Nat.le_succ_of_le hn)
  · by_cases e : X = []
    · subst e
      refine ⟨.slice j 0 cs.length 1, m, ?_, hq m _ (Chg.refl _ _) ⟨fz, Nat.le_refl _, .inr ⟨j, by simp, by simpa using h1, by simpa using h2, by simpa using h3, h4, h5⟩⟩ (fun j h => .inl h) (fun h => absurd rfl h) hn⟩
      unfold append
      simp only [List.length_nil] at hx ⊢
      simp only [hx.2, hx.1, forceList_eq, forceNat_eq]
      simp
    · have hl : X.length ≠ 0 := fun h => e (hX.1 h)
      refine ⟨.slice m.next 0 (cs.length + X.length) 1, (m.set j .dead).alloc (.cells T fz (cs ++ X)), ?_, ?_⟩
      · unfold append
        simp only [hx.2, hx.1, ho, hl, if_false, reduceCtorEq, h2, forceList_eq, forceNat_eq]
        rw [if_pos ⟨h4, trivial, trivial, trivial, h3, by omega, hlen⟩]
        rfl
      · refine hq _ _ ⟨rfl, Nat.le_succ _, fun b hb hF => ?_⟩ ⟨fz, Nat.le_refl _, .inr ⟨m.next, by simp, by simp [e], ?_, by simp; omega, hn, Nat.lt_succ_self _⟩⟩ (fun j hj => .inr (Nat.le_of_eq hj.symm)) (fun _ j hj => Nat.le_of_eq hj.symm) (Nat.le_succ_of_le hn)
        · rw [get_alloc_ne (m := m.set j .dead) (by show b ≠ m.next; omega), get_set_ne hF]
        · exact Mem.get_alloc (m.set j .dead) _

/-! octets -/

def u8s (l : List UInt8) : List AV := l.map fun b => .int .u8 b.toNat
@[simp] theorem u8s_length (l : List UInt8) : (u8s l).length = l.length := by simp [u8s]
theorem u8s_append (a b : List UInt8) : u8s (a ++ b) = u8s a ++ u8s b := by simp [u8s]
theorem u8s_one (l : List UInt8) : (u8s l).all AV.one = true := by simp [u8s, AV.one]
theorem byteCells_bs (l : List UInt8) : byteCells (bs l) = u8s l := by simp [byteCells, bs, u8s]
theorem ofByteCells_u8s : ∀ l : List UInt8, ofByteCells (u8s l) = some l
  | [] => rfl
  | b :: l => by
    have ih := ofByteCells_u8s l
    simp only [u8s, List.map_cons, ofByteCells] at ih ⊢
    rw [ih]
    simp
theorem elems_str (l : List UInt8) (m : Mem) : elems 1 (u8s l).length (.str (bs l)) m = some (u8s l) ∧ count (.str (bs l)) = some (u8s l).length := by
  constructor
  · simp only [elems, bs_size, byteCells_bs, u8s_length]
    simp [List.take_of_length_le]
  · simp [count, bs_size]
/-- string([]byte{b}) -/
theorem ok_ofBytes1 {β : Type} {T : Nat} {b : UInt8} {k : Nat → AV → M β} {m : Mem} {Q : β → Mem → Prop} (hq : Ok (fun n => k n (.str (bs [b]))) (m.alloc (.cells T 0 [.int .u8 b.toNat])) Q) :
    Ok (fun n => bnd (allocS T 1 1 [.int .u8 b.toNat]) fun v => bnd (ofBytes v) (k n)) m Q := by
  rw [allocS_def, ok_op]
  refine ⟨_, _, rfl, ?_⟩
  rw [ok_op]
  refine ⟨.str (bs [b]), _, ?_, hq⟩
  have hg := Mem.get_alloc m (.cells T 0 [.int .u8 b.toNat])
  simp only [ofBytes, countS, elems, Mem.cells?, hg]
  simp [ofByteCells, bs]
theorem aFill1 (z v : AV) (h : v.one = true) : aFill (fun i => some (i * 1, 1)) [z] [(0, v)] = some [v] := by
  have : v.cells? = some [v] := by cases v <;> simp_all [AV.one, AV.cells?]
  simp [aFill, this, splice]
theorem ok_allocS {β : Type} {ty es len : Nat} {cs : List AV} {k : Nat → AV → M β} {m : Mem} {Q : β → Mem → Prop} : Ok (fun n => bnd (allocS ty es len cs) (k n)) m Q ↔ Ok (fun n => k n (.slice m.next 0 len es)) (m.alloc (.cells ty 0 cs)) Q := by
  rw [allocS_def, ok_op]
  constructor
  · rintro ⟨u, m1, hs, hk⟩
    cases hs
    exact hk
  · intro hk
    exact ⟨_, _, rfl, hk⟩
theorem elems_new (T es : Nat) (cs : List AV) (m : Mem) : elems 1 cs.length (.slice m.next 0 cs.length es) (m.alloc (.cells T 0 cs)) = some cs ∧ count (.slice m.next 0 cs.length es) = some cs.length := by
  have hg := Mem.get_alloc m (.cells T 0 cs)
  exact ⟨by simp [elems, Mem.cells?, hg], rfl⟩
theorem aBin_neqSame (i o : Nat) : aBin .neq [3] (.ptr i o) (.ptr i o) = some (.bool false) := by simp [aBin, aEq, eqF]
theorem aBin_eqlSame (i o : Nat) : aBin .eql [3] (.ptr i o) (.ptr i o) = some (.bool true) := by simp [aBin, aEq, eqF]
theorem aBin_shr_nat (k k' : IntKind) (e : List Nat) (a n : Nat) (h : n ≤ k.bits) : aBin .shr e (.int k (a : Int)) (.int k' (n : Int)) = some (.int k ((a / 2 ^ n : Nat) : Int)) := by
  rw [aBin_shr _ _ _ _ _ ⟨Int.natCast_nonneg _, by omega⟩, Int.fdiv_eq_ediv_of_nonneg _ (by exact Int.le_of_lt (Int.pow_pos (by decide)))]
  simp
end Go.Proofs.YtooogfnmhfocjaaGreatDoor.Spl

/- The abstract machine, 21: slices of the call's own, of elements of several cells, that grow. -/
namespace Go.Proofs.YtooogfnmhfocjaaGreatDoor.Spl
open Go
set_option linter.unusedVariables false
set_option linter.unusedSimpArgs false

def BufN (T es : Nat) (m : Mem) (v : AV) (cs : List AV) (n : Nat) : Prop :=
  cs.length = n * es ∧ ((v = .nilslice ∧ n = 0) ∨ ∃ j, v = .slice j 0 n es ∧ 0 < n ∧ m.get j = .cells T 0 cs ∧ m.base ≤ j ∧ j < m.next)
theorem BufN.own {T es n : Nat} {m : Mem} {v : AV} {cs : List AV} (h : BufN T es m v cs n) {b : Nat} (hb : own v b) : m.base ≤ b ∧ b < m.next := by
  obtain ⟨_, h⟩ := h
  rcases h with ⟨rfl, _⟩ | ⟨j, rfl, _, _, h1, h2⟩
  · exact hb.elim
  · cases hb; exact ⟨h1, h2⟩
theorem BufN.chg {F : Nat → Prop} {T es n : Nat} {m m' : Mem} {v : AV} {cs : List AV} (h : BufN T es m v cs n) (hc : Chg F m m') (hF : ∀ b, Go.Proofs.YtooogfnmhfocjaaGreatDoor.Spl.own v b → ¬ F b) : BufN T es m' v cs n := by
  obtain ⟨h0, h⟩ := h
  refine ⟨h0, ?_⟩
  rcases h with ⟨rfl, rfl⟩ | ⟨j, rfl, h1, h2, h4, h5⟩
  · exact .inl ⟨rfl, rfl⟩
  · exact .inr ⟨j, rfl, h1, (hc.get j h5 (hF j rfl)).trans h2, by rw [hc.base]; exact h4, Nat.lt_of_lt_of_le h5 hc.next⟩
theorem BufN.len {T es n : Nat} {m : Mem} {v : AV} {cs : List AV} (h : BufN T es m v cs n) : aLenS v = some (.int .i64 n) := by
  obtain ⟨_, h⟩ := h
  rcases h with ⟨rfl, rfl⟩ | ⟨j, rfl, _⟩ <;> rfl
/-- An element's cells. -/
theorem BufN.idx {T es n : Nat} {m : Mem} {v : AV} {cs : List AV} (h : BufN T es m v cs n) {k : Nat} {kd : IntKind} (hk : k < n) : ∃ j, aIdxS es v (.int kd k) = some (.ptr j (k * es)) ∧ m.get j = .cells T 0 cs ∧ load? (some es) (.ptr j (k * es)) m = some (.agg ((cs.drop (k * es)).take es)) := by
  obtain ⟨h0, h⟩ := h
  rcases h with ⟨rfl, rfl⟩ | ⟨j, rfl, h1, h2, h4, h5⟩
  · omega
  · refine ⟨j, by rw [aIdxS_at hk]; simp, h2, ?_⟩
    rw [load_at' h2]
    have : (k + 1) * es ≤ n * es := Nat.mul_le_mul_right _ hk
    rw [Nat.add_mul] at this
    rw [if_pos (by omega)]
/-- One element more, which was made as a slice of its own. -/
theorem ok_appendN {β : Type} {T es bytes n : Nat} {v : AV} {cs X : List AV} {k : Nat → AV → M β} {m : Mem} {Q : β → Mem → Prop} (h : BufN T es m v cs n) (hn : m.base ≤ m.next) (hX : X.length = es) (hes : 0 < es) (ho : X.all AV.one = true)
    (hlen : (n + 1) * bytes ≤ 2 ^ 45)
    (hq : ∀ m' v', Chg (own v) m m' → BufN T es m' v' (cs ++ X) (n + 1) → (∀ j, own v' j → m.next ≤ j) → m'.base ≤ m'.next → Ok (fun n => k n v') m' Q) :
    Ok (fun q => bnd (allocS T es 1 X) fun x => bnd (append T es bytes v x) (k q)) m Q := by
  rw [ok_allocS, ok_op]
  have hg := Mem.get_alloc m (.cells T 0 X)
  have hel : elems es 1 (.slice m.next 0 1 es) (m.alloc (.cells T 0 X)) = some X := by
    have ht : X.take es = X := List.take_of_length_le (by omega)
    simp [elems, Mem.cells?, hg, hX, ht]
  obtain ⟨h0, h⟩ := h
  have hca := Chg.alloc (own v) m (.cells T 0 X)
  rcases h with ⟨rfl, rfl⟩ | ⟨j, rfl, h1, h2, h4, h5⟩
  · have hc0 : cs = [] := List.length_eq_zero_iff.1 (by omega)
    subst hc0
    refine ⟨.slice (m.next + 1) 0 1 es, (m.alloc (.cells T 0 X)).alloc (.cells T 0 X), ?_, ?_⟩
    · unfold append
      simp only [count, hel, ho, reduceCtorEq, if_false, Nat.one_ne_zero, forceList_eq, forceNat_eq]
      rw [if_pos (by simpa using hlen)]
      rfl
    · refine hq _ _ (hca.trans (Chg.alloc (own .nilslice) (m.alloc (.cells T 0 X)) (.cells T 0 X)) (fun _ _ h => h)) ⟨by simp [hX], .inr ⟨m.next + 1, rfl, by omega, ?_, by show m.base ≤ m.next + 1; omega, by show m.next + 1 < m.next + 1 + 1; omega⟩⟩ (fun j hj => by cases hj; omega) (by show m.base ≤ m.next + 1 + 1; omega)
      exact Mem.get_alloc (m.alloc (.cells T 0 X)) _
  · have hgj : (m.alloc (.cells T 0 X)).get j = .cells T 0 cs := (get_alloc_ne (Nat.ne_of_lt h5)).trans h2
    refine ⟨.slice (m.next + 1) 0 (n + 1) es, ((m.alloc (.cells T 0 X)).set j .dead).alloc (.cells T 0 (cs ++ X)), ?_, ?_⟩
    · unfold append
      simp only [count, hel, ho, reduceCtorEq, if_false, Nat.one_ne_zero, hgj, forceList_eq, forceNat_eq]
      rw [if_pos ⟨h4, trivial, trivial, trivial, Nat.zero_le _, h0, hlen⟩]
      rfl
    · refine hq _ _ ⟨rfl, by show m.next ≤ m.next + 1 + 1; omega, fun b hb hF => ?_⟩ ⟨by simp [h0, hX, Nat.add_mul], .inr ⟨m.next + 1, rfl, by omega, ?_, by show m.base ≤ m.next + 1; omega, by show m.next + 1 < m.next + 1 + 1; omega⟩⟩ (fun j hj => by cases hj; omega) (by show m.base ≤ m.next + 1 + 1; omega)
      · rw [get_alloc_ne (m := (m.alloc (.cells T 0 X)).set j .dead) (by show b ≠ m.next + 1; omega), get_set_ne hF, get_alloc_ne (by omega)]
      · exact Mem.get_alloc ((m.alloc (.cells T 0 X)).set j .dead) _
end Go.Proofs.YtooogfnmhfocjaaGreatDoor.Spl

/- What a row asks behind a law that came to true, where of what was there nothing has turned. -/
namespace Go.Proofs.YtooogfnmhfocjaaGreatDoor.Spl
open Go Go.RowKit Go.WideElems Go.ChangeShapes Go.WideShapes Go.ChangeAt

section
variable {H : Type} {enc : TypeId × Value → H} {P : Program}

/-- The arguments read as they did. -/
theorem trodAll_below (hl : laidOutB P = true) {W W' : World} (hb : Below W.heap.size W W') {sp : Nat → Bool} : ∀ {ts : List TypeId} {vs : List Value} {ds : List (DataW H)} {ps : List MemPlace}, ts.all (fun t => P.readableRec t && decide (t < P.types.size)) = true →
    DataW.TrodAll enc P W 0 (fun _ => true) true ts vs ds ps → (∀ x ∈ ps, x.block < W.heap.size) → (∀ x ∈ ps, sp x.block = true) → DataW.TrodAll enc P W' 0 sp true ts vs ds ps
  | [], [], [], _, _, h, _, _ => h
  | [], [], _ :: _, _, _, h, _, _ => h.elim
  | [], _ :: _, _, _, _, h, _, _ => h.elim
  | _ :: _, [], _, _, _, h, _, _ => h.elim
  | _ :: _, _ :: _, [], _, _, h, _, _ => h.elim
  | t :: ts, v :: vs, d :: ds, ps, hr, h, hlt, hsp => by
    obtain ⟨p, q, h1, h2, rfl⟩ := h
    simp only [List.all_cons, Bool.and_eq_true, decide_eq_true_eq] at hr
    exact ⟨p, q, Trod_stays hl hr.1.1 hr.1.2 h1 (fun x hx => hb.same (hlt x (by simp [hx]))) (fun x hx => hsp x (by simp [hx])), trodAll_below hl hb hr.2 h2 (fun x hx => hlt x (by simp [hx])) (fun x hx => hsp x (by simp [hx])), rfl⟩

theorem law_post {f : Func} {s : ChangeSpec} {apart fresh handsOn again : Bool} {W W' : World} {args : Array Value} {ds gs : List (DataW H)} {before : List MemPlace} {tb : TypeId}
    (hl : laidOutB P = true) (hpar : f.params.toList.all (fun t => P.readableRec t && decide (t < P.types.size)) = true) (hvars : s.vars = []) (hrt : f.resultTypes = #[tb]) (htb : P.underlying tb = some .bool)
    (hfn : ds.length = f.params.toList.length → s.fn H ds = { results := [.lit (.bool true)], args := ds })
    (hW : DataW.Whole enc P f.params.toList s.vars apart W args.toList ds gs before) (hb : Below W.heap.size W W') : s.post enc P f apart fresh handsOn again W args (.bool true) W' := by
  have hW0 := hW
  obtain ⟨p, q, hA, hV, rfl, hz, hn⟩ := hW
  rw [hvars] at hV
  obtain ⟨rfl, rfl⟩ := trodVars_none hV
  have hlen : ds.length = f.params.toList.length := by
    have : ∀ {ts : List TypeId} {vs : List Value} {ds : List (DataW H)} {ps : List MemPlace}, DataW.TrodAll enc P W 0 (fun _ => true) true ts vs ds ps → ds.length = ts.length := by
      intro ts
      induction ts with
      | nil => intro vs ds ps h; cases vs <;> cases ds <;> first | rfl | exact h.elim
      | cons t ts ih =>
        intro vs ds ps h
        cases vs with
        | nil => exact h.elim
        | cons v vs =>
          cases ds with
          | nil => exact h.elim
          | cons d ds =>
            obtain ⟨_, _, _, h2, _⟩ := h
            simpa using ih h2
    exact this hA
  have hf := hfn hlen
  have hlt : ∀ x ∈ p, x.block < W.heap.size := fun x hx => by have := hW0.lt x (by simpa using hx); simpa using this
  have hargs : ∀ sp : Nat → Bool, (∀ x ∈ p, sp x.block = true) → DataW.TrodAll enc P W' 0 sp true f.params.toList args.toList ds p := fun sp hsp => trodAll_below hl hb hpar hA hlt hsp
  have hres : ∀ (b : Nat) (sp : Nat → Bool) (hd : Bool), DataW.TrodAll enc P W' b sp hd f.resultTypes.toList ((Value.bool true).resultList f.resultTypes.size) [.lit (.bool true)] [] := fun b sp hd => by
    rw [hrt]
    exact trodAll_cons_mk (shut_bool htb _) trodAll_mk0
  have hold : ∀ x ∈ p, (fun b => decide (b < W.heap.size)) x.block = true := fun x hx => by simpa using hlt x hx
  have hf' : s.fn H (ds ++ []) = { results := [.lit (.bool true)], args := ds } := by rw [List.append_nil]; exact hf
  refine ⟨ds, [], p ++ [], [], p, [], hW0, by rw [hf']; exact hres _ _ _, by rw [hf']; exact hargs _ hold, by rw [hf', hvars]; exact rfl, World.keptBut_mono (fun x hx => ⟨hx, by rw [List.append_nil] at hx; exact Or.inr (.inl hx)⟩) (hb.frame _), fun _ => ?_⟩
  refine ⟨ok_one (by rw [hrt]) rfl (okWide_bool_mk htb _), [.lit (.bool true)] ++ ds, [], ([] ++ p) ++ [], ⟨[] ++ p, [], ?_, ?_, rfl, ?_, ?_⟩, ?_⟩
  · exact trodAll_append (hargs _ (fun _ _ => rfl)) (hres _ _ _)
  · rw [hvars]; exact rfl
  · intro b off hx
    have hx : MemPlace.cell b off ∈ p := by simpa using hx
    rw [hb.frozen (by exact hlt _ hx)]
    exact hz b off (by simpa using hx)
  · intro ha
    have := hn ha
    simpa using this
  · intro x hx _
    simpa using hx
end

/-! a world for the witness -/

mutual
def flatData {H : Type} : DataW H → List Value
  | .lit (.int k n) => [.int k n]
  | .lit (.bool b) => [.bool b]
  | .agg ds => flatDatas ds
  | _ => []
def flatDatas {H : Type} : List (DataW H) → List Value
  | [] => []
  | d :: ds => flatData d ++ flatDatas ds
end
/-- The named tables hold these data. -/
def laidIn {H : Type} (P : Program) : List (String × DataW H) → World → World
  | [], w => w
  | (nm, d) :: r, w => laidIn P r (match P.globalNamed nm with
    | some g => { w with heap := w.heap.modify g fun | .cells _ t fr => .cells (flatData d).toArray t fr | o => o }
    | none => w)
end Go.Proofs.YtooogfnmhfocjaaGreatDoor.Spl

/- The abstract machine, 17: arguments that are slices of arrays. -/
namespace Go.Proofs.YtooogfnmhfocjaaGreatDoor.Spl
open Go Go.RowKit
set_option linter.unusedVariables false
set_option linter.unusedSimpArgs false

theorem mapM_get {α β : Type} {f : α → Option β} : ∀ {l : List α} {r : List β}, l.mapM f = some r → ∀ (i : Nat) x, l[i]? = some x → ∃ y, f x = some y
  | [], _, _, i, x, h => by simp at h
  | a :: l, r, hm, i, x, h => by
    rw [List.mapM_cons] at hm
    cases ha : f a with
    | none => rw [ha] at hm; simp at hm
    | some y =>
      rw [ha] at hm
      cases hl : l.mapM f with
      | none => rw [hl] at hm; simp at hm
      | some ys =>
        cases i with
        | zero => simp at h; subst h; exact ⟨y, ha⟩
        | succ i => exact mapM_get hl i x (by simpa using h)

theorem mirror_cell {W : World} {b o : Nat} {x : Value} (h : W.cell? ⟨b, o, none⟩ = some x) : load? none (.ptr b o) (mirror W) = some (conv1 W.heap.size x) := by
  unfold World.cell? at h
  simp only [load?, Mem.cells?, mirror]
  generalize hb : W.heap[b]? = y at h
  cases y with
  | none => simp at h
  | some ob =>
    cases ob with
    | cells c t fr => simp at h; simp [aPart, h]
    | _ => simp at h

theorem mapM_get' {α β : Type} {f : α → Option β} : ∀ {l : List α} {r : List β}, l.mapM f = some r → ∀ (i : Nat) x, l[i]? = some x → ∃ y, r[i]? = some y ∧ f x = some y
  | [], _, _, i, x, h => by simp at h
  | a :: l, r, hm, i, x, h => by
    rw [List.mapM_cons] at hm
    cases ha : f a with
    | none => rw [ha] at hm; simp at hm
    | some y =>
      rw [ha] at hm
      cases hl : l.mapM f with
      | none => rw [hl] at hm; simp at hm
      | some ys =>
        rw [hl] at hm
        simp at hm
        subst hm
        cases i with
        | zero => simp at h; subst h; exact ⟨y, by simp, ha⟩
        | succ i => simpa using mapM_get' hl i x (by simpa using h)

/-- A number that is read. -/
theorem trod_int {H : Type} {enc : TypeId × Value → H} {P : Program} {W : World} {b : Nat} {sp : Nat → Bool} {hd : Bool} {fuel : Nat} {u : TypeId} {k : IntKind} {c : Value} {x : DataW H × List MemPlace} (hu : P.underlying u = some (.int k)) (h : DataW.trod enc P W b sp hd fuel u [c] = some x) :
    ∃ n, c = .int k n ∧ (Lit.int k n).wf = true := by
  cases fuel with
  | zero => simp [DataW.trod] at h
  | succ fuel =>
    unfold DataW.trod at h
    rw [hu] at h
    cases c <;> simp at h
    rename_i k' n
    obtain ⟨⟨rfl, hw⟩, _⟩ := h
    exact ⟨n, rfl, hw⟩

/-- An array of three numbers of 16 bits that is read. -/
theorem trod_arr3 {H : Type} {enc : TypeId × Value → H} {P : Program} {W : World} {b : Nat} {sp : Nat → Bool} {hd : Bool} {fuel : Nat} {e u : TypeId} {cs : List Value} {x : DataW H × List MemPlace} (he : P.underlying e = some (.array 3 u)) (hu : P.underlying u = some (.int .u16)) (hcu : P.cellsOf u = 1) (hce : P.cellsOf e = 3)
    (h : DataW.trod enc P W b sp hd fuel e cs = some x) : ∃ x y z : Nat, cs = [.int .u16 x, .int .u16 y, .int .u16 z] ∧ x < 65536 ∧ y < 65536 ∧ z < 65536 := by
  cases fuel with
  | zero => simp [DataW.trod] at h
  | succ fuel =>
    unfold DataW.trod at h
    rw [he] at h
    have h2 : cs.length = 3 ∧ ∃ r, ((List.range 3).mapM fun i => DataW.trod enc P W b sp hd fuel u ((cs.drop (i * P.cellsOf u)).take (P.cellsOf u))) = some r := by
      cases cs with
      | nil => simp [hce] at h
      | cons c0 cs =>
        simp only at h
        split at h
        · rename_i hl
          obtain ⟨r, hr, _⟩ := Option.map_eq_some_iff.1 h
          exact ⟨by rw [hl, hce], r, hr⟩
        · cases h
    obtain ⟨hl, r, hr⟩ := h2
    match cs, hl with
    | [c0, c1, c2], _ =>
      obtain ⟨y0, h0⟩ := mapM_get hr 0 0 (by simp)
      obtain ⟨y1, h1⟩ := mapM_get hr 1 1 (by simp [List.getElem?_range])
      obtain ⟨y2, h2⟩ := mapM_get hr 2 2 (by simp [List.getElem?_range])
      simp [hcu] at h0 h1 h2
      obtain ⟨a0, rfl, w0⟩ := trod_int hu h0
      obtain ⟨a1, rfl, w1⟩ := trod_int hu h1
      obtain ⟨a2, rfl, w2⟩ := trod_int hu h2
      have hw : ∀ n : Int, (Lit.int .u16 n).wf = true → 0 ≤ n ∧ n < 65536 := by
        intro n hn
        simp only [Lit.wf, Bool.and_eq_true, decide_eq_true_eq] at hn
        have e1 : IntKind.u16.min = 0 := by decide
        have e2 : IntKind.u16.max = 65535 := by decide
        omega
      have b0 := hw _ w0
      have b1 := hw _ w1
      have b2 := hw _ w2
      refine ⟨a0.toNat, a1.toNat, a2.toNat, ?_, by omega, by omega, by omega⟩
      rw [Int.toNat_of_nonneg b0.1, Int.toNat_of_nonneg b1.1, Int.toNat_of_nonneg b2.1]

theorem list_of {α : Type} {R : Nat → α → Prop} : ∀ (n : Nat), (∀ k, k < n → ∃ p, R k p) → ∃ L : List α, L.length = n ∧ ∀ (k : Nat) p, L[k]? = some p → R k p
  | 0, _ => ⟨[], rfl, fun k p h => by simp at h⟩
  | n + 1, h => by
    obtain ⟨L, h1, h2⟩ := list_of n (fun k hk => h k (by omega))
    obtain ⟨p, hp⟩ := h n (by omega)
    refine ⟨L ++ [p], by simp [h1], fun k q hq => ?_⟩
    rcases Nat.lt_or_ge k L.length with hk | hk
    · rw [List.getElem?_append_left hk] at hq; exact h2 k q hq
    · rw [List.getElem?_append_right hk] at hq
      have : k - L.length = 0 := by
        rcases Nat.eq_zero_or_pos (k - L.length) with h | h
        · exact h
        · rw [List.getElem?_eq_none (by simp; omega)] at hq; cases hq
      rw [this] at hq
      simp at hq
      subst hq
      have : k = n := by omega
      subst this; exact hp

/-- A slice of such arrays that is read. -/
theorem arr3_of {H : Type} {enc : TypeId × Value → H} {P : Program} {W : World} {t e u : TypeId} {v : Value} {d : DataW H} {ps : List MemPlace} (ht : P.underlying t = some (.slice e)) (he : P.underlying e = some (.array 3 u)) (hu : P.underlying u = some (.int .u16)) (hcu : P.cellsOf u = 1) (hce : P.cellsOf e = 3)
    (hna : ∀ cs, v ≠ .agg cs) (h : DataW.Trod enc P W 0 (fun _ => true) true t v d ps) : ∃ L, Arr3 (mirror W) (conv W.heap.size v) L := by
  obtain ⟨fuel, h⟩ := h
  cases fuel with
  | zero => simp [DataW.trod] at h
  | succ fuel =>
    have hcs : v.cells.toList = [v] := by cases v <;> first | rfl | exact absurd rfl (hna _)
    rw [hcs] at h
    unfold DataW.trod at h
    rw [ht] at h
    cases v <;> simp only [reduceCtorEq] at h
    case slice oa len cap =>
      cases oa with
      | none =>
        split at h <;> first | (rename_i hq; cases hq; done) | skip
        · rename_i hq
          cases hq
          exact ⟨[], .inl ⟨.inl rfl, rfl⟩⟩
        all_goals first | (cases h; done) | simp_all
      | some a =>
        dsimp only at h
        split at h
        case isFalse => cases h
        case isTrue hc =>
          obtain ⟨elems, hel, _⟩ := Option.bind_eq_some_iff.1 h
          cases len with
          | zero => exact ⟨[], .inl ⟨.inr (by simp [conv, conv1]), rfl⟩⟩
          | succ len =>
            have hev : ∀ k, k < len + 1 → ∃ p : Nat × Nat × Nat, (W.cell? (a.add (k * 3)) = some (.int .u16 p.1) ∧ W.cell? ((a.add (k * 3)).add 1) = some (.int .u16 p.2.1) ∧ W.cell? ((a.add (k * 3)).add 2) = some (.int .u16 p.2.2)) ∧ p.1 < 65536 ∧ p.2.1 < 65536 ∧ p.2.2 < 65536 := by
              intro k hk
              obtain ⟨y, hy⟩ := mapM_get hel k k (by simp [hk])
              rw [hce] at hy
              obtain ⟨cs, h1, h2⟩ := Option.bind_eq_some_iff.1 hy
              obtain ⟨x, y, z, rfl, b1, b2, b3⟩ := trod_arr3 he hu hcu hce h2
              unfold World.cells? at h1
              rw [if_pos (Nat.zero_le _)] at h1
              obtain ⟨c0, e0, f0⟩ := mapM_get' h1 0 0 (by simp)
              obtain ⟨c1, e1, f1⟩ := mapM_get' h1 1 1 (by simp [List.getElem?_range])
              obtain ⟨c2, e2, f2⟩ := mapM_get' h1 2 2 (by simp [List.getElem?_range])
              simp at e0 e1 e2
              subst e0 e1 e2
              refine ⟨(x, y, z), ⟨?_, f1, f2⟩, b1, b2, b3⟩
              have : (a.add (k * 3)).add 0 = a.add (k * 3) := by unfold Addr.add; split <;> simp_all
              rw [← this]; exact f0
            have hspot : a.spot = none ∧ a.block < W.heap.size := by
              obtain ⟨p, ⟨h1, _⟩, _⟩ := hev 0 (by omega)
              have h0 : a.add (0 * 3) = a := by unfold Addr.add; split <;> simp_all
              rw [h0] at h1
              unfold World.cell? at h1
              split at h1
              · rename_i c _ _ hb
                split at h1
                · cases h1
                · rename_i hs
                  refine ⟨by simpa using hs, ?_⟩
                  rcases Nat.lt_or_ge a.block W.heap.size with h | h
                  · exact h
                  · rw [Array.getElem?_eq_none h] at hb; cases hb
              · cases h1
            obtain ⟨L, hL, hall⟩ := list_of (len + 1) hev
            obtain ⟨b, o, sp⟩ := a
            obtain ⟨rfl, hb⟩ := hspot
            simp only at hb
            refine ⟨L, .inr ⟨b, o, ?_, hb, fun k p hp => ?_⟩⟩
            · simp only [conv, conv1, hL]
              rw [if_pos ⟨hb, hc.2.1⟩]
            · obtain ⟨⟨f0, f1, f2⟩, bb⟩ := hall k p hp
              simp only [addr_add] at f0 f1 f2
              exact ⟨⟨mirror_cell f0, mirror_cell f1, mirror_cell f2⟩, bb⟩
    all_goals first | (cases h; done) | (split at h <;> first | (cases h; done) | simp_all)

/-- An array of three numbers that is read. -/
theorem agg3_of {H : Type} {enc : TypeId × Value → H} {P : Program} {W : World} {t u : TypeId} {k : IntKind} {b : Nat} {sp : Nat → Bool} {hd : Bool} {v : Value} {d : DataW H} {ps : List MemPlace} (ht : P.underlying t = some (.array 3 u)) (hu : P.underlying u = some (.int k)) (hcu : P.cellsOf u = 1) (hct : P.cellsOf t = 3)
    (h : DataW.Trod enc P W b sp hd t v d ps) : ∃ x y z : Int, v = .agg #[.int k x, .int k y, .int k z] := by
  obtain ⟨fuel, h⟩ := h
  cases fuel with
  | zero => simp [DataW.trod] at h
  | succ fuel =>
    unfold DataW.trod at h
    rw [ht] at h
    generalize hcs : v.cells.toList = cs at h
    have h2 : cs.length = 3 ∧ ∃ r, ((List.range 3).mapM fun i => DataW.trod enc P W b sp hd fuel u ((cs.drop (i * P.cellsOf u)).take (P.cellsOf u))) = some r := by
      cases cs with
      | nil => simp [hct] at h
      | cons c0 cs =>
        simp only at h
        split at h
        · rename_i hl
          obtain ⟨r, hr, _⟩ := Option.map_eq_some_iff.1 h
          exact ⟨by rw [hl, hct], r, hr⟩
        · cases h
    obtain ⟨hl, r, hr⟩ := h2
    match cs, hl with
    | [c0, c1, c2], _ =>
      obtain ⟨y0, h0⟩ := mapM_get hr 0 0 (by simp)
      obtain ⟨y1, h1⟩ := mapM_get hr 1 1 (by simp [List.getElem?_range])
      obtain ⟨y2, h2⟩ := mapM_get hr 2 2 (by simp [List.getElem?_range])
      simp [hcu] at h0 h1 h2
      obtain ⟨a0, rfl, w0⟩ := trod_int hu h0
      obtain ⟨a1, rfl, w1⟩ := trod_int hu h1
      obtain ⟨a2, rfl, w2⟩ := trod_int hu h2
      refine ⟨a0, a1, a2, ?_⟩
      cases v <;> first
        | (simp [Value.cells] at hcs; done)
        | (rename_i cs; simp only [Value.cells] at hcs; cases cs; simp_all)
end Go.Proofs.YtooogfnmhfocjaaGreatDoor.Spl

/- The abstract machine, 20: arguments that are slices of structs of numbers. -/
namespace Go.Proofs.YtooogfnmhfocjaaGreatDoor.Spl
open Go Go.RowKit
set_option linter.unusedVariables false
set_option linter.unusedSimpArgs false

/-- A slice that came in, of elements of es cells each. -/
def ArrOf {α : Type} (es : Nat) (f : α → List AV) (m : Mem) (v : AV) (L : List α) : Prop :=
  ((v = .nilslice ∨ v = .dang) ∧ L = []) ∨ ∃ b o, v = .slice b o L.length 0 ∧ b < m.base ∧ ∀ (k : Nat) x, L[k]? = some x →
    load? (some es) (.ptr b (o + k * es)) m = some (.agg (f x)) ∧ ∀ (j : Nat) a, (f x)[j]? = some a → load? none (.ptr b (o + k * es + j)) m = some a
theorem ArrOf.len {α : Type} {es : Nat} {f : α → List AV} {m : Mem} {v : AV} {L : List α} (h : ArrOf es f m v L) : aLenS v = some (.int .i64 L.length) := by
  rcases h with ⟨rfl | rfl, rfl⟩ | ⟨b, o, rfl, _⟩ <;> rfl
/-- An element of it. -/
theorem ArrOf.at {α : Type} {es : Nat} {f : α → List AV} {m : Mem} {v : AV} {L : List α} (h : ArrOf es f m v L) {k : Nat} {x : α} (hk : L[k]? = some x) :
    ∃ b o, (∀ kd, aIdxS es v (.int kd k) = some (.ptr b o)) ∧ ∀ m', Old m m' → load? (some es) (.ptr b o) m' = some (.agg (f x)) ∧ ∀ (j : Nat) a, (f x)[j]? = some a → load? none (.ptr b (o + j)) m' = some a := by
  rcases h with ⟨_, rfl⟩ | ⟨b, o, rfl, hb, hel⟩
  · simp at hk
  · have hlt : k < L.length := (List.getElem?_eq_some_iff.1 hk).1
    obtain ⟨h1, h2⟩ := hel k x hk
    exact ⟨b, o + k * es, fun kd => aIdxS_at hlt, fun m' ho => ⟨(ho.load hb).trans h1, fun j a hj => (ho.load hb).trans (h2 j a hj)⟩⟩

def isI64 : Option TypeDesc → Bool
  | some (.int .i64) => true
  | _ => false
theorem isI64_eq {x : Option TypeDesc} (h : isI64 x = true) : x = some (.int .i64) := by
  unfold isI64 at h
  split at h
  · rfl
  · cases h
/-- Are all fields numbers, one behind the other? -/
def intsOk (P : Program) : Nat → List Field → Bool
  | _, [] => true
  | i, f :: fs => f.offset == i && isI64 (P.underlying f.type) && P.cellsOf f.type == 1 && intsOk P (i + 1) fs
theorem intsOk_get {P : Program} : ∀ {fs : List Field} {i : Nat}, intsOk P i fs = true → ∀ (j : Nat) f, fs[j]? = some f → f.offset = i + j ∧ P.underlying f.type = some (.int .i64) ∧ P.cellsOf f.type = 1
  | [], i, _, j, f, h => by simp at h
  | g :: fs, i, hok, j, f, h => by
    simp only [intsOk, Bool.and_eq_true, beq_iff_eq] at hok
    obtain ⟨⟨⟨h1, h2⟩, h3⟩, h4⟩ := hok
    cases j with
    | zero => simp at h; subst h; exact ⟨h1, isI64_eq h2, h3⟩
    | succ j =>
      have := intsOk_get h4 j f (by simpa using h)
      exact ⟨by omega, this.2⟩

/-- A struct of numbers that is read. -/
theorem trod_ints {H : Type} {enc : TypeId × Value → H} {P : Program} {W : World} {b : Nat} {sp : Nat → Bool} {hd : Bool} {fuel : Nat} {e : TypeId} {fs : Array Field} {cs : List Value} {x : DataW H × List MemPlace} (he : P.underlying e = some (.struct fs)) (hok : intsOk P 0 fs.toList = true) (hce : P.cellsOf e = fs.toList.length) (hpos : 0 < fs.toList.length)
    (h : DataW.trod enc P W b sp hd fuel e cs = some x) : ∃ xs : List Int, xs.length = fs.toList.length ∧ cs = xs.map (.int .i64) ∧ ∀ n ∈ xs, -9223372036854775808 ≤ n ∧ n < 9223372036854775808 := by
  cases fuel with
  | zero => simp [DataW.trod] at h
  | succ fuel =>
    unfold DataW.trod at h
    rw [he] at h
    have h2 : cs.length = fs.toList.length ∧ ∃ r, (fs.toList.mapM fun f => DataW.trod enc P W b sp hd fuel f.type ((cs.drop f.offset).take (P.cellsOf f.type))) = some r := by
      cases cs with
      | nil =>
        exfalso
        simp only at h
        split at h
        · rename_i hl
          rw [hce] at hl
          simp at hl
          simp [hl] at hpos
        · cases h
      | cons c0 cs =>
        simp only at h
        split at h
        · rename_i hl
          obtain ⟨r, hr, _⟩ := Option.map_eq_some_iff.1 h
          exact ⟨by rw [hl, hce], r, hr⟩
        · cases h
    obtain ⟨hl, r, hr⟩ := h2
    have hev : ∀ k, k < fs.toList.length → ∃ n : Int, cs[k]? = some (.int .i64 n) ∧ -9223372036854775808 ≤ n ∧ n < 9223372036854775808 := by
      intro k hk
      have hf := List.getElem?_eq_getElem hk
      obtain ⟨y, hy⟩ := mapM_get hr k _ hf
      obtain ⟨o1, o2, o3⟩ := intsOk_get hok k _ hf
      rw [o1, o3, Nat.zero_add] at hy
      have hkc : k < cs.length := by omega
      have e1 : (cs.drop k).take 1 = [cs[k]] := by
        rw [List.drop_eq_getElem_cons hkc]; rfl
      rw [e1] at hy
      obtain ⟨n, hn, hw⟩ := trod_int o2 hy
      refine ⟨n, by rw [List.getElem?_eq_getElem hkc, hn], ?_⟩
      simp only [Lit.wf, Bool.and_eq_true, decide_eq_true_eq] at hw
      have m1 : IntKind.i64.min = -9223372036854775808 := by decide
      have m2 : IntKind.i64.max = 9223372036854775807 := by decide
      omega
    obtain ⟨xs, hx1, hx2⟩ := list_of fs.toList.length hev
    refine ⟨xs, hx1, ?_, fun n hn => ?_⟩
    · apply List.ext_getElem?
      intro k
      rw [List.getElem?_map]
      rcases Nat.lt_or_ge k xs.length with hk | hk
      · rw [List.getElem?_eq_getElem hk]
        exact (hx2 k _ (List.getElem?_eq_getElem hk)).1
      · rw [List.getElem?_eq_none hk, List.getElem?_eq_none (by omega)]; rfl
    · obtain ⟨k, hk, rfl⟩ := List.mem_iff_getElem.1 hn
      exact (hx2 k _ (List.getElem?_eq_getElem hk)).2

theorem mapM_all {α β : Type} {f : α → Option β} : ∀ {l : List α} {r : List β}, l.mapM f = some r → r.length = l.length
  | [], r, h => by simp at h; subst h; rfl
  | a :: l, r, h => by
    rw [List.mapM_cons] at h
    cases ha : f a with
    | none => rw [ha] at h; simp at h
    | some y =>
      rw [ha] at h
      cases hl : l.mapM f with
      | none => rw [hl] at h; simp at h
      | some ys =>
        rw [hl] at h
        simp at h
        subst h
        simp [mapM_all hl]

/-- Cells that lie in the memory, one behind the other. -/
theorem mirror_cells {W : World} {b o n : Nat} {cs : List Value} (hcs : ∀ j, j < n → W.cell? ⟨b, o + j, none⟩ = cs[j]?) (hl : cs.length = n) (hn : 0 < n) :
    load? (some n) (.ptr b o) (mirror W) = some (.agg (cs.map (conv1 W.heap.size))) := by
  obtain ⟨c, t, fr, hb⟩ : ∃ c t fr, W.heap[b]? = some (.cells c t fr) := by
    have h0 := hcs 0 hn
    rw [List.getElem?_eq_getElem (by omega)] at h0
    unfold World.cell? at h0
    split at h0
    · rename_i c t fr hb
      exact ⟨c, t, fr, hb⟩
    · cases h0
  have hc : ∀ j, j < n → c.toList[o + j]? = cs[j]? := by
    intro j hj
    have := hcs j hj
    unfold World.cell? at this
    simp only [hb] at this
    simpa using this
  have hlen : o + n ≤ c.toList.length := by
    have h1 := hc (n - 1) (by omega)
    rw [List.getElem?_eq_getElem (show n - 1 < cs.length by omega)] at h1
    have := (List.getElem?_eq_some_iff.1 h1).1
    omega
  have e : (c.toList.drop o).take n = cs := by
    apply List.ext_getElem?
    intro k
    rcases Nat.lt_or_ge k n with hk | hk
    · rw [List.getElem?_take_of_lt hk, List.getElem?_drop, hc k hk]
    · rw [List.getElem?_eq_none (by simp; omega), List.getElem?_eq_none (by omega)]
  simp only [load?, Mem.cells?, mirror, hb, aPart, List.length_map]
  rw [if_pos hlen, ← List.map_drop, ← List.map_take, e]

/-- A slice of structs that is read. -/
theorem arrOf_of {α H : Type} {enc : TypeId × Value → H} {P : Program} {W : World} {t e : TypeId} {v : Value} {d : DataW H} {ps : List MemPlace} {g : α → List Value} {wf : α → Prop} (ht : P.underlying t = some (.slice e)) (hpos : 0 < P.cellsOf e)
    (helem : ∀ fuel cs x, DataW.trod enc P W 0 (fun _ => true) true fuel e cs = some x → ∃ a : α, cs = g a ∧ wf a) (hg : ∀ a, wf a → (g a).length = P.cellsOf e)
    (hna : ∀ cs, v ≠ .agg cs) (h : DataW.Trod enc P W 0 (fun _ => true) true t v d ps) : ∃ L : List α, ArrOf (P.cellsOf e) (fun a => (g a).map (conv1 W.heap.size)) (mirror W) (conv W.heap.size v) L ∧ ∀ a ∈ L, wf a := by
  obtain ⟨fuel, h⟩ := h
  cases fuel with
  | zero => simp [DataW.trod] at h
  | succ fuel =>
    have hcs : v.cells.toList = [v] := by cases v <;> first | rfl | exact absurd rfl (hna _)
    rw [hcs] at h
    unfold DataW.trod at h
    rw [ht] at h
    cases v <;> simp only [reduceCtorEq] at h
    case slice oa len cap =>
      cases oa with
      | none =>
        split at h <;> first | (rename_i hq; cases hq; done) | skip
        · rename_i hq
          cases hq
          exact ⟨[], .inl ⟨.inl rfl, rfl⟩, fun a ha => by simp at ha⟩
        all_goals first | (cases h; done) | simp_all
      | some a =>
        dsimp only at h
        split at h
        case isFalse => cases h
        case isTrue hc =>
          obtain ⟨elems, hel, _⟩ := Option.bind_eq_some_iff.1 h
          cases len with
          | zero => exact ⟨[], .inl ⟨.inr (by simp [conv, conv1]), rfl⟩, fun a ha => by simp at ha⟩
          | succ len =>
            have hev : ∀ k, k < len + 1 → ∃ y : α, (∀ j, j < P.cellsOf e → W.cell? ((a.add (k * P.cellsOf e)).add j) = (g y)[j]?) ∧ wf y := by
              intro k hk
              obtain ⟨y, hy⟩ := mapM_get hel k k (by simp [hk])
              obtain ⟨cs, h1, h2⟩ := Option.bind_eq_some_iff.1 hy
              obtain ⟨z, rfl, hz⟩ := helem _ _ _ h2
              refine ⟨z, fun j hj => ?_, hz⟩
              unfold World.cells? at h1
              rw [if_pos (Nat.zero_le _)] at h1
              obtain ⟨c0, e0, f0⟩ := mapM_get' h1 j j (by simp [hj])
              rw [e0]
              exact f0
            have hspot : a.spot = none ∧ a.block < W.heap.size := by
              obtain ⟨y, h1, hw⟩ := hev 0 (by omega)
              have h1 := h1 0 hpos
              rw [List.getElem?_eq_getElem (by rw [hg y hw]; exact hpos)] at h1
              have h0 : (a.add (0 * P.cellsOf e)).add 0 = a := by unfold Addr.add; split <;> simp_all
              rw [h0] at h1
              unfold World.cell? at h1
              split at h1
              · rename_i c _ _ hb
                split at h1
                · cases h1
                · rename_i hs
                  refine ⟨by simpa using hs, ?_⟩
                  rcases Nat.lt_or_ge a.block W.heap.size with h | h
                  · exact h
                  · rw [Array.getElem?_eq_none h] at hb; cases hb
              · cases h1
            obtain ⟨L, hL, hall⟩ := list_of (len + 1) hev
            obtain ⟨b, o, sp⟩ := a
            obtain ⟨rfl, hb⟩ := hspot
            simp only at hb
            refine ⟨L, .inr ⟨b, o, ?_, hb, fun k p hp => ?_⟩, fun y hy => ?_⟩
            · simp only [conv, conv1, hL]
              rw [if_pos ⟨hb, hc.2.1⟩]
            · obtain ⟨hc, hw⟩ := hall k p hp
              simp only [addr_add] at hc
              refine ⟨mirror_cells hc (hg p hw) hpos, fun j a ha => ?_⟩
              rw [List.getElem?_map] at ha
              obtain ⟨c, hcj, rfl⟩ := Option.map_eq_some_iff.1 ha
              have hjl := (List.getElem?_eq_some_iff.1 hcj).1
              rw [hg p hw] at hjl
              exact mirror_cell ((hc j hjl).trans hcj)
            · obtain ⟨k, hk, rfl⟩ := List.mem_iff_getElem.1 hy
              exact (hall k _ (List.getElem?_eq_getElem hk)).2
    all_goals first | (cases h; done) | (split at h <;> first | (cases h; done) | simp_all)
end Go.Proofs.YtooogfnmhfocjaaGreatDoor.Spl

/- The abstract machine, 23: arguments of any shape: slices in slices, structs. -/
namespace Go.Proofs.YtooogfnmhfocjaaGreatDoor.Spl
open Go Go.RowKit
set_option linter.unusedVariables false
set_option linter.unusedSimpArgs false

/-- A slice, of elements of es cells, of each of which R holds; its objects are of those of K. -/
def SlR {α : Type} (K : Nat → Prop) (es : Nat) (R : Mem → List AV → α → Prop) (m : Mem) (v : AV) (l : List α) : Prop :=
  ((v = .nilslice ∨ v = .dang) ∧ l = []) ∨ ∃ b o e, v = .slice b o l.length e ∧ K b ∧ ∀ (k : Nat) x, l[k]? = some x →
    ∃ ce : List AV, ce.length = es ∧ R m ce x ∧ load? (some es) (.ptr b (o + k * es)) m = some (.agg ce) ∧ ∀ (j : Nat) a, ce[j]? = some a → load? none (.ptr b (o + k * es + j)) m = some a
theorem SlR.len {α : Type} {K : Nat → Prop} {es : Nat} {R : Mem → List AV → α → Prop} {m : Mem} {v : AV} {l : List α} (h : SlR K es R m v l) : aLenS v = some (.int .i64 l.length) := by
  rcases h with ⟨rfl | rfl, rfl⟩ | ⟨b, o, e, rfl, _⟩ <;> rfl
theorem load_keep {m m' : Mem} {b o : Nat} {sh : Option Nat} (h : m'.get b = m.get b) : load? sh (.ptr b o) m' = load? sh (.ptr b o) m := by
  simp only [load?, Mem.cells?, h]
theorem SlR.keep {α : Type} {K : Nat → Prop} {es : Nat} {R : Mem → List AV → α → Prop} {m m' : Mem} {v : AV} {l : List α} (h : SlR K es R m v l) (hK : ∀ b, K b → m'.get b = m.get b) (hR : ∀ ce x, R m ce x → R m' ce x) : SlR K es R m' v l := by
  rcases h with h | ⟨b, o, e, h1, h2, h3⟩
  · exact .inl h
  · refine .inr ⟨b, o, e, h1, h2, fun k x hk => ?_⟩
    obtain ⟨ce, k1, k2, k3, k4⟩ := h3 k x hk
    exact ⟨ce, k1, hR _ _ k2, (load_keep (hK b h2)).trans k3, fun j a hj => (load_keep (hK b h2)).trans (k4 j a hj)⟩
/-- An element of it. -/
theorem SlR.at {α : Type} {K : Nat → Prop} {es : Nat} {R : Mem → List AV → α → Prop} {m : Mem} {v : AV} {l : List α} (h : SlR K es R m v l) {k : Nat} {x : α} (hk : l[k]? = some x) :
    ∃ b o ce, (∀ kd, aIdxS es v (.int kd k) = some (.ptr b o)) ∧ K b ∧ ce.length = es ∧ R m ce x ∧ load? (some es) (.ptr b o) m = some (.agg ce) ∧ ∀ (j : Nat) a, ce[j]? = some a → load? none (.ptr b (o + j)) m = some a := by
  rcases h with ⟨_, rfl⟩ | ⟨b, o, e, rfl, hb, hel⟩
  · simp at hk
  · have hlt : k < l.length := (List.getElem?_eq_some_iff.1 hk).1
    obtain ⟨ce, h0, h1, h2, h3⟩ := hel k x hk
    exact ⟨b, o + k * es, ce, fun kd => aIdxS_at hlt, hb, h0, h1, h2, h3⟩
theorem SlR.eqb {α : Type} {K : Nat → Prop} {es : Nat} {R : Mem → List AV → α → Prop} {m : Mem} {v : AV} {l : List α} (h : SlR K es R m v l) : AV.eqb v v = true := by
  rcases h with ⟨rfl | rfl, rfl⟩ | ⟨b, o, e, rfl, _⟩ <;> simp [AV.eqb]
theorem SlR.one {α : Type} {K : Nat → Prop} {es : Nat} {R : Mem → List AV → α → Prop} {m : Mem} {v : AV} {l : List α} (h : SlR K es R m v l) : v.one = true := by
  rcases h with ⟨rfl | rfl, rfl⟩ | ⟨b, o, e, rfl, _⟩ <;> simp [AV.one]

variable {H : Type} {enc : TypeId × Value → H} {P : Program} {W : World} {sp : Nat → Bool} {hd : Bool}

theorem trod_bool {fuel : Nat} {t : TypeId} {cs : List Value} {x : DataW H × List MemPlace} (ht : P.underlying t = some .bool) (h : DataW.trod enc P W 0 sp hd fuel t cs = some x) : ∃ b, cs = [.bool b] := by
  cases fuel with
  | zero => simp [DataW.trod] at h
  | succ fuel =>
    unfold DataW.trod at h
    rw [ht] at h
    split at h <;> simp_all
theorem trod_int' {fuel : Nat} {t : TypeId} {k : IntKind} {cs : List Value} {x : DataW H × List MemPlace} (ht : P.underlying t = some (.int k)) (h : DataW.trod enc P W 0 sp hd fuel t cs = some x) : ∃ n, cs = [.int k n] ∧ (Lit.int k n).wf = true := by
  cases fuel with
  | zero => simp [DataW.trod] at h
  | succ fuel =>
    unfold DataW.trod at h
    rw [ht] at h
    split at h <;> simp_all
theorem i64_wf {n : Int} (h : (Lit.int .i64 n).wf = true) : -9223372036854775808 ≤ n ∧ n < 9223372036854775808 := by
  simp only [Lit.wf, Bool.and_eq_true, decide_eq_true_eq] at h
  have m1 : IntKind.i64.min = -9223372036854775808 := by decide
  have m2 : IntKind.i64.max = 9223372036854775807 := by decide
  omega
theorem trod_str {fuel : Nat} {t : TypeId} {cs : List Value} {x : DataW H × List MemPlace} (ht : P.underlying t = some .string) (h : DataW.trod enc P W 0 sp hd fuel t cs = some x) : ∃ s, cs = [.string s] ∧ s.size ≤ maxLen := by
  cases fuel with
  | zero => simp [DataW.trod] at h
  | succ fuel =>
    unfold DataW.trod at h
    rw [ht] at h
    split at h <;> simp_all
theorem trod_fields {fuel : Nat} {t : TypeId} {fs : Array Field} {cs : List Value} {x : DataW H × List MemPlace} (ht : P.underlying t = some (.struct fs)) (h : DataW.trod enc P W 0 sp hd fuel t cs = some x) :
    cs.length = P.cellsOf t ∧ ∃ fuel', ∀ (j : Nat) f, fs.toList[j]? = some f → ∃ y, DataW.trod enc P W 0 sp hd fuel' f.type ((cs.drop f.offset).take (P.cellsOf f.type)) = some y := by
  cases fuel with
  | zero => simp [DataW.trod] at h
  | succ fuel =>
    unfold DataW.trod at h
    rw [ht] at h
    have h2 : cs.length = P.cellsOf t ∧ ∃ r, (fs.toList.mapM fun f => DataW.trod enc P W 0 sp hd fuel f.type ((cs.drop f.offset).take (P.cellsOf f.type))) = some r := by
      cases cs with
      | nil =>
        simp only at h
        split at h
        · rename_i hl
          obtain ⟨r, hr, _⟩ := Option.map_eq_some_iff.1 h
          exact ⟨hl, r, hr⟩
        · cases h
      | cons c0 cs =>
        simp only at h
        split at h
        · rename_i hl
          obtain ⟨r, hr, _⟩ := Option.map_eq_some_iff.1 h
          exact ⟨hl, r, hr⟩
        · cases h
    obtain ⟨h1, r, hr⟩ := h2
    exact ⟨h1, fuel, fun j f hf => mapM_get hr j f hf⟩

/-- A slice that is read. -/
theorem trod_slice {α : Type} {fuel : Nat} {t e : TypeId} {cs : List Value} {x : DataW H × List MemPlace} {R : Mem → List AV → α → Prop} (ht : P.underlying t = some (.slice e)) (hpos : 0 < P.cellsOf e)
    (helem : ∀ fuel cs x, cs.length = P.cellsOf e → DataW.trod enc P W 0 sp hd fuel e cs = some x → ∃ a : α, R (mirror W) (cs.map (conv1 W.heap.size)) a)
    (h : DataW.trod enc P W 0 sp hd fuel t cs = some x) : ∃ c l, cs = [c] ∧ (∀ ws, c ≠ .agg ws) ∧ l.length ≤ maxLen ∧ SlR (fun b => b < W.heap.size) (P.cellsOf e) R (mirror W) (conv1 W.heap.size c) l := by
  cases fuel with
  | zero => simp [DataW.trod] at h
  | succ fuel =>
    unfold DataW.trod at h
    rw [ht] at h
    split at h <;> first | (cases h; done) | skip
    all_goals try (rename_i hq; cases hq; done)
    case h_7 =>
      exact ⟨_, [], rfl, fun ws h => (by cases h), Nat.zero_le _, .inl ⟨.inl rfl, rfl⟩⟩
    case h_8 e' a len cap heq =>
      cases heq
      dsimp only at h
      split at h
      case isFalse => cases h
      case isTrue hc =>
        obtain ⟨elems, hel, _⟩ := Option.bind_eq_some_iff.1 h
        cases len with
        | zero => exact ⟨_, [], rfl, fun ws h => (by cases h), Nat.zero_le _, .inl ⟨.inr (by simp [conv1]), rfl⟩⟩
        | succ len =>
          have hev : ∀ k, k < len + 1 → ∃ y : α, ∃ g : List Value, g.length = P.cellsOf e ∧ (∀ j, j < P.cellsOf e → W.cell? ((a.add (k * P.cellsOf e)).add j) = g[j]?) ∧ R (mirror W) (g.map (conv1 W.heap.size)) y := by
            intro k hk
            obtain ⟨y, hy⟩ := mapM_get hel k k (by simp [hk])
            obtain ⟨cs, h1, h2⟩ := Option.bind_eq_some_iff.1 hy
            unfold World.cells? at h1
            rw [if_pos (Nat.zero_le _)] at h1
            have hlen : cs.length = P.cellsOf e := by rw [mapM_all h1, List.length_range]
            obtain ⟨z, hz⟩ := helem _ _ _ hlen h2
            refine ⟨z, cs, hlen, fun j hj => ?_, hz⟩
            obtain ⟨c0, e0, f0⟩ := mapM_get' h1 j j (by simp [hj])
            rw [e0]
            exact f0
          have hspot : a.spot = none ∧ a.block < W.heap.size := by
            obtain ⟨y, g, hg, h1, hw⟩ := hev 0 (by omega)
            have h1 := h1 0 hpos
            rw [List.getElem?_eq_getElem (by omega)] at h1
            have h0 : (a.add (0 * P.cellsOf e)).add 0 = a := by unfold Addr.add; split <;> simp_all
            rw [h0] at h1
            unfold World.cell? at h1
            split at h1
            · rename_i c _ _ hb
              split at h1
              · cases h1
              · rename_i hs
                refine ⟨by simpa using hs, ?_⟩
                rcases Nat.lt_or_ge a.block W.heap.size with h | h
                · exact h
                · rw [Array.getElem?_eq_none h] at hb; cases hb
            · cases h1
          obtain ⟨l, hL, hall⟩ := list_of (len + 1) hev
          obtain ⟨b, o, spot⟩ := a
          obtain ⟨rfl, hb⟩ := hspot
          simp only at hb
          refine ⟨_, l, rfl, fun ws h => (by cases h), by omega, .inr ⟨b, o, 0, ?_, hb, fun k p hp => ?_⟩⟩
          · simp only [conv1, hL]
            rw [if_pos ⟨hb, hc.2.1⟩]
          · obtain ⟨g, hg, hc, hR⟩ := hall k p hp
            simp only [addr_add] at hc
            refine ⟨g.map (conv1 W.heap.size), by rw [List.length_map, hg], hR, mirror_cells hc hg hpos, fun j a ha => ?_⟩
            rw [List.getElem?_map] at ha
            obtain ⟨c, hcj, rfl⟩ := Option.map_eq_some_iff.1 ha
            have hjl := (List.getElem?_eq_some_iff.1 hcj).1
            exact mirror_cell ((hc j (by omega)).trans hcj)

/-! what is often read -/

/-- Cells that hold a number. -/
def RInt (k : IntKind) (m : Mem) (ce : List AV) (n : Int) : Prop := ce = [.int k n] ∧ (Lit.int k n).wf = true
abbrev IntsR (K : Nat → Prop) (m : Mem) (v : AV) (l : List Int) : Prop := SlR K 1 (RInt .i64) m v l
/-- Cells that hold a slice. -/
def RSl {α : Type} (Q : Mem → AV → α → Prop) (m : Mem) (ce : List AV) (x : α) : Prop := ∃ v, ce = [v] ∧ Q m v x
abbrev RowsR (K : Nat → Prop) (m : Mem) (v : AV) (l : List (List Int)) : Prop := SlR K 1 (RSl (IntsR K)) m v l
theorem IntsR.keep {K : Nat → Prop} {m m' : Mem} {v : AV} {l : List Int} (h : IntsR K m v l) (hK : ∀ b, K b → m'.get b = m.get b) : IntsR K m' v l := SlR.keep h hK (fun _ _ h => h)
theorem RowsR.keep {K : Nat → Prop} {m m' : Mem} {v : AV} {l : List (List Int)} (h : RowsR K m v l) (hK : ∀ b, K b → m'.get b = m.get b) : RowsR K m' v l :=
  SlR.keep h hK (fun _ _ ⟨v, h1, h2⟩ => ⟨v, h1, IntsR.keep h2 hK⟩)
theorem trod_ints_slice {fuel : Nat} {t e : TypeId} {cs : List Value} {x : DataW H × List MemPlace} (ht : P.underlying t = some (.slice e)) (he : P.underlying e = some (.int .i64)) (hce : P.cellsOf e = 1) (h : DataW.trod enc P W 0 sp hd fuel t cs = some x) :
    ∃ c l, cs = [c] ∧ (∀ ws, c ≠ .agg ws) ∧ l.length ≤ maxLen ∧ IntsR (fun b => b < W.heap.size) (mirror W) (conv1 W.heap.size c) l := by
  have := trod_slice (α := Int) (R := RInt .i64) ht (by omega) (fun fuel cs x hl hx => by
    obtain ⟨n, rfl, hw⟩ := trod_int' he hx
    exact ⟨n, rfl, hw⟩) h
  rwa [hce] at this
theorem trod_rows {fuel : Nat} {t e u : TypeId} {cs : List Value} {x : DataW H × List MemPlace} (ht : P.underlying t = some (.slice e)) (he : P.underlying e = some (.slice u)) (hu : P.underlying u = some (.int .i64)) (hce : P.cellsOf e = 1) (hcu : P.cellsOf u = 1) (h : DataW.trod enc P W 0 sp hd fuel t cs = some x) :
    ∃ c l, cs = [c] ∧ (∀ ws, c ≠ .agg ws) ∧ l.length ≤ maxLen ∧ RowsR (fun b => b < W.heap.size) (mirror W) (conv1 W.heap.size c) l := by
  have := trod_slice (α := List Int) (R := RSl (IntsR (fun b => b < W.heap.size))) ht (by omega) (fun fuel cs x hl hx => by
    obtain ⟨c, l, rfl, _, _, hl⟩ := trod_ints_slice he hu hcu hx
    exact ⟨l, _, rfl, hl⟩) h
  rwa [hce] at this
/-- An argument that is a slice. -/
theorem arg_slice {v : Value} {cs : List Value} (hcs : v.cells.toList = cs) {c : Value} (hc : cs = [c]) (hv : ∀ ws, v ≠ .agg ws) (n : Nat) : conv n v = conv1 n c := by
  subst hc
  have : v.cells.toList = [v] := by cases v <;> first | rfl | exact absurd rfl (hv _)
  rw [this] at hcs
  simp at hcs
  subst hcs
  cases v <;> first | rfl | exact absurd rfl (hv _)
end Go.Proofs.YtooogfnmhfocjaaGreatDoor.Spl

/- What small functions do: numbers, widths, pulses of a band, the table. -/
namespace SplA
open Go.Proofs.YtooogfnmhfocjaaGreatDoor.Spl Go Go.Proofs
set_option maxRecDepth 100000
set_option linter.unusedVariables false
set_option linter.unusedSimpArgs false

/-- Nothing is changed. -/
abbrev Same (m m' : Mem) : Prop := Chg (fun _ => False) m m'
theorem Same.get {m m' : Mem} (h : Same m m') {i : Nat} (hi : i < m.next) : m'.get i = m.get i := Chg.get h i hi id
theorem Same.trans {a b c : Mem} (h : Same a b) (g : Same b c) : Same a c := Chg.trans h g (fun _ _ h => h)
theorem Same.refl (m : Mem) : Same m m := Chg.refl _ _
theorem Same.bn {m m' : Mem} (h : Same m m') (hb : m.base ≤ m.next) : m'.base ≤ m'.next := by
  have := h.base; have := h.next; omega
theorem Same.alloc (m : Mem) (o : AObj) : Same m (m.alloc o) := Chg.alloc _ _ _

theorem Same.own {m m2 m' : Mem} {j : Nat} (h : Same m m2) (hj : m.next ≤ j) (hc : Chg (fun b => b = j) m2 m') : Same m m' :=
  ⟨hc.base.trans h.base, Nat.le_trans h.next hc.next, fun b hb _ => (hc.get b (Nat.lt_of_lt_of_le hb h.next) (fun h => by omega)).trans (h.get hb)⟩

theorem within1_ok {i ty fz : Nat} {x t : Int} {m : Mem} {Q : AV → Mem → Prop} (ht : 0 ≤ t ∧ t ≤ 4611686018427387904) (h : m.get i = .cells ty fz [.int .i64 x])
    (hq : Q (.bool (decide (-t ≤ x ∧ x ≤ t))) m) : Ok (R fn_num_within [.int .i64 t, .slice i 0 1 1]) m Q := by
  refine Ok.call (fun n => num_within_eq rfl n _ _) ?_
  have e1 : aIdxS 1 (.slice i 0 1 1) (.int .i64 0) = some (.ptr i 0) := rfl
  have e2 : IntKind.i64.wrap (0 - t) = -t := by rw [IntWalk.i64_in _ (by omega)]; omega
  have e3 : IntKind.i64.wrap (0 + 1) = 1 := rfl
  simp -implicitDefEqProofs only [num_within, simpS, Nat.reduceAdd]
  refine Ok.loop (fun k l m' => m' = m ∧ ∃ a b c, ((k = 1 ∧ l = [.int .i64 t, .slice i 0 1 1, .int .i64 1, .int .i64 0, a, b, c]) ∨ (k = 0 ∧ (-t ≤ x ∧ x ≤ t) ∧ l = [.int .i64 t, .slice i 0 1 1, .int .i64 1, .int .i64 1, a, b, c]))) ?_ (k := 1) ⟨rfl, _, _, _, .inl ⟨rfl, rfl⟩⟩
  rintro k l m' rec ⟨rfl, a, b, c, ⟨rfl, rfl⟩ | ⟨rfl, hx, rfl⟩⟩ ih
  · simp -implicitDefEqProofs only [List.getD_cons_zero, List.getD_cons_succ, num_within_l0, simpS, Nat.reduceAdd, e1, e2, load_at h, Int.zero_lt_one, decide_true, if_true]
    by_cases h1 : x < -t
    · have : ¬ (-t ≤ x ∧ x ≤ t) := by omega
      rw [decide_eq_false this] at hq
      simp -implicitDefEqProofs only [num_within_j0, simpS, Nat.reduceAdd, h1, decide_true, if_true, hq]
    · by_cases h2 : t < x
      · have : ¬ (-t ≤ x ∧ x ≤ t) := by omega
        rw [decide_eq_false this] at hq
        simp -implicitDefEqProofs only [num_within_j0, simpS, Nat.reduceAdd, h1, h2, decide_true, decide_false, Bool.false_eq_true, if_false, if_true, hq]
      · simp -implicitDefEqProofs only [num_within_j0, simpS, Nat.reduceAdd, h1, h2, decide_false, Bool.false_eq_true, if_false, e3]
        exact ih 0 _ _ (by omega) ⟨rfl, _, _, _, .inr ⟨rfl, by omega, rfl⟩⟩
  · rw [decide_eq_true hx] at hq
    simp -implicitDefEqProofs only [List.getD_cons_zero, List.getD_cons_succ, num_within_l0, simpS, Nat.reduceAdd, Int.lt_irrefl, decide_false, Bool.false_eq_true, if_false, hq]

theorem abs_ok {x : Int} {m : Mem} {Q : AV → Mem → Prop} (hx : -4611686018427387904 ≤ x ∧ x ≤ 4611686018427387904)
    (hq : ∀ m', Same m m' → Q (.int .i64 x.natAbs) m') : Ok (R fn_num_Abs [.int .i64 x]) m Q := by
  refine Ok.call (fun n => num_Abs_eq rfl n _) ?_
  have e1 : aFill (fun i => some (i * 1, 1)) [.int .i64 0] [(0, .int .i64 x)] = some [.int .i64 x] := aFill1 _ _ (by simp)
  simp -implicitDefEqProofs only [num_Abs, simpS, Nat.reduceAdd, e1, ok_allocS]
  refine Ok.bnd (within1_ok (by decide) (Mem.get_alloc m _) ?_)
  have hS := hq _ (Same.alloc m (.cells T_int 0 [.int .i64 x]))
  simp -implicitDefEqProofs only [hx, and_self, decide_true, simpS, Nat.reduceAdd, Bool.not_true, Bool.false_eq_true, if_false]
  by_cases h : x < 0
  · have e2 : IntKind.i64.wrap (0 - x) = (x.natAbs : Int) := by rw [IntWalk.i64_in _ (by omega)]; omega
    simp -implicitDefEqProofs only [h, decide_true, if_true, e2, hS]
  · have e2 : x = (x.natAbs : Int) := by omega
    simp -implicitDefEqProofs only [h, decide_false, Bool.false_eq_true, if_false]
    rw [← e2] at hS
    exact hS
def widthN (b : Nat) : Nat := if b < 4 then 2 else if b < 8 then 4 else if b < 13 then 8 else 0
def layoutZ : List AV := List.replicate 13 (.int .i64 0)
def layoutW : List AV := [.int .i64 2, .int .i64 2, .int .i64 2, .int .i64 2, .int .i64 4, .int .i64 4, .int .i64 4, .int .i64 4, .int .i64 8, .int .i64 8, .int .i64 8, .int .i64 8, .int .i64 8]
theorem widths_ok {m : Mem} {Q : AV → Mem → Prop} (hbn : m.base ≤ m.next) (hq : Q (.agg layoutW) (m.alloc (.cells T_13_int 0 layoutW))) : Ok (R fn_layout_widths []) m Q := by
  refine Ok.call (fun n => layout_widths_eq rfl n) ?_
  have hf : (aFill (fun i => some (i * 1, 1)) layoutZ [(0, (.int .i64 2)), (1, (.int .i64 2)), (2, (.int .i64 2)), (3, (.int .i64 2)), (4, (.int .i64 4)), (5, (.int .i64 4)), (6, (.int .i64 4)), (7, (.int .i64 4)), (8, (.int .i64 8)), (9, (.int .i64 8)), (10, (.int .i64 8)), (11, (.int .i64 8)), (12, (.int .i64 8))]).map AV.agg = some (.agg layoutW) := by kernel_rfl
  have hst := fun (k : Nat → AV → M AV) => ok_storeAll (i := m.next) (k := k) (Q := Q) (vs := layoutW) (n := 13) (Mem.get_alloc m (.cells T_13_int 0 layoutZ)) hbn rfl rfl rfl
  have hl : load? (some 13) (.ptr m.next 0) (m.alloc (.cells T_13_int 0 layoutW)) = some (.agg layoutW) := by rw [load_at' (Mem.get_alloc m _)]; rfl
  show Ok (fun n => bnd (alloc T_13_int layoutZ) fun v0 => lp ((aFill (fun i => some (i * 1, 1)) layoutZ [(0, (.int .i64 2)), (1, (.int .i64 2)), (2, (.int .i64 2)), (3, (.int .i64 2)), (4, (.int .i64 4)), (5, (.int .i64 4)), (6, (.int .i64 4)), (7, (.int .i64 4)), (8, (.int .i64 8)), (9, (.int .i64 8)), (10, (.int .i64 8)), (11, (.int .i64 8)), (12, (.int .i64 8))]).map AV.agg) fun v1 => bnd (store (some 13) v0 v1) fun u => bnd (load (some 13) v0) fun r => ret r) m Q
  rw [hf]
  simp -implicitDefEqProofs only [ok_alloc, simpS, Nat.reduceAdd, hst, Mem.alloc_set, hl, hq]
theorem width_ok {b : Nat} {m : Mem} {Q : AV → Mem → Prop} (hb : b < 13) (hbn : m.base ≤ m.next)
    (hq : ∀ m', Same m m' → Q (.int .i64 (widthN b)) m') : Ok (R fn_layout_Width [.int .i64 b]) m Q := by
  refine Ok.call (fun n => layout_Width_eq rfl n _) ?_
  have d1 : ¬ (b : Int) < 0 := by omega
  have d2 : ¬ (13 : Int) ≤ (b : Int) := by omega
  simp -implicitDefEqProofs only [layout_Width, layout_Width_j0, simpS, Nat.reduceAdd, d1, d2, decide_false, Bool.false_eq_true, if_false]
  refine Ok.bnd (widths_ok hbn ?_)
  have hbn1 : (m.alloc (.cells T_13_int 0 layoutW)).base ≤ (m.alloc (.cells T_13_int 0 layoutW)).next := Nat.le_succ_of_le hbn
  have hS := Same.alloc m (.cells T_13_int 0 layoutW)
  generalize m.alloc (.cells T_13_int 0 layoutW) = m1 at *
  have hst := fun (k : Nat → AV → M AV) => ok_storeAll (i := m1.next) (k := k) (Q := Q) (vs := layoutW) (n := 13) (Mem.get_alloc m1 (.cells T_13_int 0 layoutZ)) hbn1 rfl rfl rfl
  have hg : layoutW[b]? = some (.int .i64 (widthN b)) := by
    have : ∀ b, b < 13 → layoutW[b]? = some (.int .i64 (widthN b)) := by
      intro b hb
      have h : b = 0 ∨ b = 1 ∨ b = 2 ∨ b = 3 ∨ b = 4 ∨ b = 5 ∨ b = 6 ∨ b = 7 ∨ b = 8 ∨ b = 9 ∨ b = 10 ∨ b = 11 ∨ b = 12 := by omega
      rcases h with rfl | rfl | rfl | rfl | rfl | rfl | rfl | rfl | rfl | rfl | rfl | rfl | rfl <;> rfl
    exact this b hb
  have hi := aIdxA_at (size := 1) (len := 13) (i := m1.next) (o := 0) (kd := .i64) hb
  show Ok (fun n => bnd (alloc T_13_int layoutZ) fun v3 => bnd (store (some 13) v3 (.agg layoutW)) fun u => lp (aIdxA 13 1 v3 (.int .i64 b)) fun v12 => bnd (load none v12) fun v13 => ret v13) m1 Q
  simp -implicitDefEqProofs only [ok_alloc, simpS, Nat.reduceAdd, hst, Mem.alloc_set, hi, load_at (Mem.get_alloc m1 _), Nat.mul_one, hg]
  exact hq _ (hS.trans (Same.alloc m1 _))

def timesN (w : Nat) : Nat := if w = 2 then 1 else if w = 4 then 2 else if w = 8 then 3 else 0
theorem times_ok {w : Nat} {m : Mem} {Q : AV → Mem → Prop} (hq : Q (.int .i64 (timesN w)) m) : Ok (R fn_alloc_times [.int .i64 w]) m Q := by
  refine Ok.call (fun n => alloc_times_eq rfl n _) ?_
  unfold timesN at hq
  simp -implicitDefEqProofs only [alloc_times, simpS, Nat.reduceAdd]
  by_cases h2 : w = 2
  · subst h2; simpa using hq
  · have d2 : ¬ (w : Int) = 2 := by omega
    by_cases h4 : w = 4
    · subst h4; simpa using hq
    · have d4 : ¬ (w : Int) = 4 := by omega
      by_cases h8 : w = 8
      · subst h8; simpa using hq
      · have d8 : ¬ (w : Int) = 8 := by omega
        simp -implicitDefEqProofs only [d2, d4, d8, decide_false, Bool.false_eq_true, if_false]
        simpa [h2, h4, h8] using hq
theorem held_ok {x lo hi : Int} {m : Mem} {Q : AV → Mem → Prop} (hq : Q (.int .i64 (max lo (min hi x))) m) : Ok (R fn_alloc_held_int [.int .i64 x, .int .i64 lo, .int .i64 hi]) m Q := by
  refine Ok.call (fun n => alloc_held_int_eq rfl n _ _ _) ?_
  simp -implicitDefEqProofs only [alloc_held_int, simpS, Nat.reduceAdd]
  exact hq
theorem good_ok {x : Int} {m : Mem} {Q : AV → Mem → Prop} (hq : Q (.bool (decide (0 ≤ x ∧ x ≤ 10))) m) : Ok (R fn_alloc_good [.int .i64 x]) m Q := by
  refine Ok.call (fun n => alloc_good_eq rfl n _) ?_
  simp -implicitDefEqProofs only [alloc_good]
  refine Ok.bnd (held_ok ?_)
  have e : (max 0 (min 10 x) = x) = (0 ≤ x ∧ x ≤ 10) := propext (by omega)
  simp -implicitDefEqProofs only [simpS, Nat.reduceAdd, e]
  exact hq
/-- How many pulses a band of that quality, coarse number and width has. -/
def bandN (q c : Int) (w : Nat) : Nat := if 0 ≤ q ∧ q ≤ 10 ∧ 1 ≤ c ∧ c ≤ 23 then timesN w * (min 8 (c + q - 8)).toNat else 0
theorem timesN_le (w : Nat) : timesN w ≤ 3 := by
  unfold timesN
  split
  · decide
  · split
    · decide
    · split <;> decide
theorem bandN_le (q c : Int) (w : Nat) : bandN q c w ≤ 24 := by
  unfold bandN
  split
  · have h1 := timesN_le w
    have h2 : (min 8 (c + q - 8)).toNat ≤ 8 := by omega
    exact Nat.le_trans (Nat.mul_le_mul h1 h2) (by decide)
  · exact Nat.zero_le _
theorem band_ok {q c : Int} {w : Nat} {m : Mem} {Q : AV → Mem → Prop} (hq : Q (.int .i64 (bandN q c w)) m) : Ok (R fn_alloc_Band [.int .i64 q, .int .i64 c, .int .i64 w]) m Q := by
  refine Ok.call (fun n => alloc_Band_eq rfl n _ _ _) ?_
  simp -implicitDefEqProofs only [alloc_Band]
  refine Ok.bnd (good_ok ?_)
  by_cases h1 : 0 ≤ q ∧ q ≤ 10
  · simp -implicitDefEqProofs only [h1, and_self, decide_true, simpS, Nat.reduceAdd, Bool.not_true, Bool.false_eq_true, if_false]
    refine Ok.bnd (held_ok ?_)
    have e : (max 1 (min 23 c) = c) = (1 ≤ c ∧ c ≤ 23) := propext (by omega)
    simp -implicitDefEqProofs only [simpS, Nat.reduceAdd, ne_eq, e]
    by_cases h2 : 1 ≤ c ∧ c ≤ 23
    · have hb : bandN q c w = timesN w * (min 8 (c + q - 8)).toNat := if_pos ⟨h1.1, h1.2, h2⟩
      have hle := timesN_le w
      have hmul : timesN w * (min 8 (c + q - 8)).toNat ≤ 24 := hb ▸ bandN_le q c w
      have e1 : IntKind.i64.wrap (IntKind.i64.wrap (c + q) - 8) = c + q - 8 := by rw [IntWalk.i64_in (c + q) (by omega), IntWalk.i64_in _ (by omega)]
      have e2 : IntKind.i64.wrap ((timesN w : Int) * max 0 (min 8 (c + q - 8))) = (bandN q c w : Int) := by
        rw [hb, show max 0 (min 8 (c + q - 8)) = (((min 8 (c + q - 8)).toNat : Nat) : Int) by omega, ← Int.natCast_mul]
        exact IntWalk.i64_in _ (by omega)
      simp -implicitDefEqProofs only [h2, and_self, not_true_eq_false, decide_false, alloc_Band_j0, simpS, Nat.reduceAdd, Bool.false_eq_true, if_false]
      refine Ok.bnd (times_ok ?_)
      simp -implicitDefEqProofs only [simpS, Nat.reduceAdd, e1]
      refine Ok.bnd (held_ok ?_)
      simp -implicitDefEqProofs only [simpS, Nat.reduceAdd, e2]
      exact hq
    · have hb : bandN q c w = 0 := if_neg (fun h => h2 h.2.2)
      rw [hb] at hq
      simp -implicitDefEqProofs only [h2, not_false_eq_true, decide_true, alloc_Band_j0, simpS, Nat.reduceAdd, if_true]
      exact hq
  · have hb : bandN q c w = 0 := if_neg (fun h => h1 ⟨h.1, h.2.1⟩)
    rw [hb] at hq
    simp -implicitDefEqProofs only [h1, decide_false, simpS, Nat.reduceAdd, Bool.not_false, if_true, alloc_Band_j0]
    exact hq

/-! the table -/

theorem made_inner {i n : Nat} {m0 : Mem} {Q : AV → Mem → Prop} {rec : Nat → List AV → M AV} (hn : n < 8) (hb : m0.base ≤ i)
    (hq : ∀ m f, (∀ b, b < 25 → f (n + 1) b = true) → (∀ a, a ≤ n → ∀ b, b < 25 → f a b = true) → m.get i = .cells T_pvq_table 0 (pvTab f) → Chg (fun b => b = i) m0 m → Ok (fun q => rec q [.ptr i 0, .int .i64 (n + 1 : Nat)]) m Q)
    {f : Nat → Nat → Bool} (hf : ∀ a, a ≤ n → ∀ b, b < 25 → f a b = true) (hf0 : f (n + 1) 0 = true) (hg : m0.get i = .cells T_pvq_table 0 (pvTab f)) :
    Ok (fun q => loopN (fun r l => pvq_made_l1 (fcall Tryz.prog ext1 q) q (rec q) r (l.getD 0 .undef) (l.getD 1 .undef) (l.getD 2 .undef) (l.getD 3 .undef)) q [.ptr i 0, .int .i64 n, .int .i64 n, .int .i64 0]) m0 Q := by
  refine Ok.loop (fun k l m => ∃ (c : Nat) (f : Nat → Nat → Bool), k + c = 24 ∧ l = [.ptr i 0, .int .i64 n, .int .i64 n, .int .i64 c] ∧ (∀ a, a ≤ n → ∀ b, b < 25 → f a b = true) ∧ (∀ b, b ≤ c → f (n + 1) b = true) ∧ m.get i = .cells T_pvq_table 0 (pvTab f) ∧ Chg (fun b => b = i) m0 m) ?_ (k := 24) ⟨0, f, rfl, rfl, hf, fun b h0 => by rw [Nat.le_zero.1 h0]; exact hf0, hg, Chg.refl _ _⟩
  clear hg hf0 hf f
  rintro k l m rec' ⟨c, f, hk, rfl, hf, hf1, hg, hc⟩ ih
  have hbm : m.base ≤ i := by rw [hc.base]; exact hb
  by_cases h1 : c < 24
  · have d1 : (c : Int) < 24 := by omega
    have e1 : IntKind.i64.wrap ((n : Int) + 1) = ((n + 1 : Nat) : Int) := by rw [IntWalk.i64_in _ (by omega)]; omega
    have e2 : IntKind.i64.wrap ((c : Int) + 1) = ((c + 1 : Nat) : Int) := by rw [IntWalk.i64_in _ (by omega)]; omega
    have s1 := pvT_small n (by omega) (c + 1) (by omega)
    have s2 := pvT_small (n + 1) (by omega) c (by omega)
    have s3 := pvT_small n (by omega) c (by omega)
    have hs := pvT_succ (n := n) h1
    have e3 : IntKind.i64.wrap ((pvT n (c + 1) : Int) + (pvT (n + 1) c : Int)) = ((pvT n (c + 1) + pvT (n + 1) c : Nat) : Int) := by rw [IntWalk.i64_in _ (by omega)]; omega
    have e4 : IntKind.i64.wrap (((pvT n (c + 1) + pvT (n + 1) c : Nat) : Int) + (pvT n c : Int)) = ((pvT (n + 1) (c + 1) : Nat) : Int) := by rw [hs, IntWalk.i64_in _ (by omega)]; omega
    have i1 := aIdxA_at (size := 25) (len := 9) (i := i) (o := 0) (kd := .i64) (k := n) (by omega)
    have i2 := aIdxA_at (size := 25) (len := 9) (i := i) (o := 0) (kd := .i64) (k := n + 1) (by omega)
    have j1 := fun o => aIdxA_at (size := 1) (len := 25) (i := i) (o := o) (kd := .i64) (k := c) (by omega)
    have j2 := fun o => aIdxA_at (size := 1) (len := 25) (i := i) (o := o) (kd := .i64) (k := c + 1) (by omega)
    have g1 := pvTab_get (r := n) (c := c + 1) (by omega) (by omega) (hf n (Nat.le_refl _) _ (by omega))
    have g2 := pvTab_get (r := n + 1) (c := c) (by omega) (by omega) (hf1 c (Nat.le_refl _))
    have g3 := pvTab_get (r := n) (c := c) (by omega) (by omega) (hf n (Nat.le_refl _) _ (by omega))
    have hset := pvTab_set (f := f) (r := n + 1) (c := c + 1) (by omega) (by omega)
    have hst := fun (k : Nat → AV → M AV) => ok_store (k := k) (Q := Q) (o := (n + 1) * 25 + (c + 1)) (v := .int .i64 (pvT (n + 1) (c + 1) : Nat)) hg hbm (Nat.zero_le _) (by rw [pvTab_length]; omega) (by simp)
    simp -implicitDefEqProofs only [List.getD_cons_zero, List.getD_cons_succ, pvq_made_l1, simpS, Nat.reduceAdd, d1, decide_true, if_true, aNil_ptr, e1, e2, i1, i2, j1, j2, Nat.mul_one, load_at hg, g1, g2, g3, e3, e4, hst, hset]
    refine ih (k - 1) _ _ (by omega) ⟨c + 1, fun a b => f a b || (a == n + 1 && b == c + 1), by omega, rfl, fun a ha b hb => Bool.or_eq_true_iff.2 (.inl (hf a ha b hb)), fun b hb => ?_, by simp, hc.trans (Chg.set _ _ _) (fun _ _ h => h)⟩
    rcases Nat.lt_or_ge c b with h | h
    · obtain rfl : b = c + 1 := by omega
      simp
    · exact Bool.or_eq_true_iff.2 (.inl (hf1 b h))
  · obtain rfl : c = 24 := by omega
    have e1 : IntKind.i64.wrap ((n : Int) + 1) = ((n + 1 : Nat) : Int) := by rw [IntWalk.i64_in _ (by omega)]; omega
    simp -implicitDefEqProofs only [List.getD_cons_zero, List.getD_cons_succ, pvq_made_l1, simpS, Nat.reduceAdd, show ¬ ((24 : Nat) : Int) < 24 by decide, decide_false, Bool.false_eq_true, if_false, e1]
    exact hq m f (fun b hb => hf1 b (by omega)) hf hg hc
theorem made_ok {m : Mem} {Q : AV → Mem → Prop} (hbn : m.base ≤ m.next)
    (hq : ∀ m' i, Same m m' → m.next ≤ i → i < m'.next → m'.get i = .cells T_pvq_table 0 (pvTab fun _ _ => true) → Q (.ptr i 0) m') : Ok (R fn_pvq_made []) m Q := by
  refine Ok.call (fun n => pvq_made_eq rfl n) ?_
  have hf : (aFill (fun i => some (i * 25, 25)) (List.replicate 225 (AV.int .i64 0)) []).map AV.agg = some (.agg (pvTab fun _ _ => false)) := by kernel_rfl
  show Ok (fun n => lp ((aFill (fun i => some (i * 25, 25)) (List.replicate 225 (AV.int .i64 0)) []).map .agg) fun v4 => bnd (box T_pvq_table v4) fun v5 => lp (aNil v5) fun v7 => lp (aIdxA 9 25 v7 (.int .i64 0)) fun v8 => lp (aIdxA 25 1 v8 (.int .i64 0)) fun v9 => bnd (store none v9 (.int .i64 1)) fun u => loopN (fun r l => pvq_made_l0 (fcall Tryz.prog ext1 n) n r (l.getD 0 .undef) (l.getD 1 .undef)) n [v5, (.int .i64 0)]) m Q
  rw [hf]
  have hg := Mem.get_alloc m (.cells T_pvq_table 0 (pvTab fun _ _ => false))
  have hb1 : (m.alloc (.cells T_pvq_table 0 (pvTab fun _ _ => false))).base ≤ m.next := hbn
  have i1 : aIdxA 9 25 (.ptr m.next 0) (.int .i64 0) = some (.ptr m.next 0) := rfl
  have j1 : aIdxA 25 1 (.ptr m.next 0) (.int .i64 0) = some (.ptr m.next 0) := rfl
  have hset : (pvTab fun _ _ => false).set 0 (.int .i64 1) = pvTab (fun a b => false || (a == 0 && b == 0)) := pvTab_set (f := fun _ _ => false) (r := 0) (c := 0) (by decide) (by decide)
  have hst := fun (k : Nat → AV → M AV) => ok_store (k := k) (Q := Q) (o := 0) (v := .int .i64 1) hg hb1 (Nat.zero_le _) (by rw [pvTab_length]; decide) (by simp)
  simp -implicitDefEqProofs only [simpS, Nat.reduceAdd, ok_box, aNil_ptr, i1, j1, hst, hset, Mem.alloc_set]
  have h00 : pvTab (fun a b => false || (a == 0 && b == 0)) = pvTab (fun a _ => a == 0) := by kernel_rfl
  rw [h00]
  have hc0 := Same.alloc m (.cells T_pvq_table 0 (pvTab fun a _ => a == 0))
  have hg0 := Mem.get_alloc m (.cells T_pvq_table 0 (pvTab fun a _ => a == 0))
  have hnx : m.next < (m.alloc (.cells T_pvq_table 0 (pvTab fun a _ => a == 0))).next := Nat.lt_succ_self _
  have hbb : (m.alloc (.cells T_pvq_table 0 (pvTab fun a _ => a == 0))).base ≤ m.next := hbn
  clear hst hset hb1 hg hf i1 j1 h00
  generalize m.alloc (.cells T_pvq_table 0 (pvTab fun a _ => a == 0)) = m1 at *
  refine Ok.loop (fun k l m' => ∃ (n : Nat) (f : Nat → Nat → Bool), k + n = 8 ∧ l = [.ptr m.next 0, .int .i64 n] ∧ (∀ a, a ≤ n → ∀ b, b < 25 → f a b = true) ∧ m'.get m.next = .cells T_pvq_table 0 (pvTab f) ∧ Chg (fun b => b = m.next) m1 m') ?_ (k := 8) ⟨0, _, rfl, rfl, fun a ha b _ => by simp [Nat.le_zero.1 ha], hg0, Chg.refl _ _⟩
  rintro k l m' rec ⟨n, f, hk, rfl, hf, hg, hc⟩ ih
  have hbm : m'.base ≤ m.next := by rw [hc.base]; exact hbb
  by_cases h1 : n < 8
  · have d1 : (n : Int) < 8 := by omega
    have e1 : IntKind.i64.wrap ((n : Int) + 1) = ((n + 1 : Nat) : Int) := by rw [IntWalk.i64_in _ (by omega)]; omega
    have i2 := aIdxA_at (size := 25) (len := 9) (i := m.next) (o := 0) (kd := .i64) (k := n + 1) (by omega)
    have j2 : ∀ o, aIdxA 25 1 (.ptr m.next o) (.int .i64 0) = some (.ptr m.next o) := fun o => rfl
    have hst := fun (k : Nat → AV → M AV) => ok_store (k := k) (Q := Q) (o := (n + 1) * 25) (v := .int .i64 1) hg hbm (Nat.zero_le _) (by rw [pvTab_length]; omega) (by simp)
    have hset : (pvTab f).set ((n + 1) * 25) (.int .i64 1) = pvTab (fun a b => f a b || (a == n + 1 && b == 0)) := by
      have := pvTab_set (f := f) (r := n + 1) (c := 0) (by omega) (by omega)
      rw [pvT_zero] at this
      exact this
    simp -implicitDefEqProofs only [List.getD_cons_zero, List.getD_cons_succ, pvq_made_l0, simpS, Nat.reduceAdd, d1, decide_true, if_true, aNil_ptr, e1, i2, j2, hst, hset]
    refine made_inner h1 hbm ?_ (fun a ha b hb => Bool.or_eq_true_iff.2 (.inl (hf a ha b hb))) (by simp) (Mem.get_set _ _ _)
    intro m2 f2 k1 k2 k3 k4
    refine ih (k - 1) _ _ (by omega) ⟨n + 1, f2, by omega, rfl, fun a ha b hb => ?_, k3, (hc.trans (Chg.set _ _ _) (fun _ _ h => h)).trans k4 (fun _ _ h => h)⟩
    rcases Nat.lt_or_ge n a with h | h
    · obtain rfl : a = n + 1 := by omega
      exact k1 b hb
    · exact k2 a h b hb
  · obtain rfl : n = 8 := by omega
    simp -implicitDefEqProofs only [List.getD_cons_zero, List.getD_cons_succ, pvq_made_l0, simpS, Nat.reduceAdd, show ¬ ((8 : Nat) : Int) < 8 by decide, decide_false, Bool.false_eq_true, if_false]
    refine hq m' m.next ⟨hc.base.trans hc0.base, Nat.le_trans hc0.next hc.next, fun b hb _ => ?_⟩ (Nat.le_refl _) (Nat.lt_of_lt_of_le hnx hc.next) ?_
    · exact (hc.get b (Nat.lt_of_lt_of_le hb hc0.next) (fun h => by omega)).trans (hc0.get hb)
    · rw [hg, pvTab_all (fun a ha b hb => hf a (by omega) b hb)]
/-- How many pulses there are, if so many may be asked for. -/
def countN (n k : Int) : Nat := if 0 ≤ n ∧ n ≤ 8 ∧ 0 ≤ k ∧ k ≤ 24 then pvT n.toNat k.toNat else 0
theorem count_ok {n k : Int} {m : Mem} {Q : AV → Mem → Prop} (hbn : m.base ≤ m.next) (hq : ∀ m', Same m m' → Q (.int .i64 (countN n k)) m') : Ok (R fn_pvq_Count [.int .i64 n, .int .i64 k]) m Q := by
  refine Ok.call (fun q => pvq_Count_eq rfl q _ _) ?_
  by_cases h : 0 ≤ n ∧ n ≤ 8 ∧ 0 ≤ k ∧ k ≤ 24
  · have hc : countN n k = pvT n.toNat k.toNat := if_pos h
    rw [hc] at hq
    obtain ⟨n, rfl⟩ : ∃ z : Nat, n = z := ⟨n.toNat, by omega⟩
    obtain ⟨k, rfl⟩ : ∃ z : Nat, k = z := ⟨k.toNat, by omega⟩
    have d1 : ¬ (n : Int) < 0 := by omega
    have d2 : ¬ (8 : Int) < (n : Int) := by omega
    have d3 : ¬ (k : Int) < 0 := by omega
    have d4 : ¬ (24 : Int) < (k : Int) := by omega
    simp -implicitDefEqProofs only [pvq_Count, pvq_Count_j0, simpS, Nat.reduceAdd, d1, d2, d3, d4, decide_false, Bool.false_eq_true, if_false]
    refine Ok.bnd (made_ok hbn fun m' i hs _ _ hg => ?_)
    have i2 := aIdxA_at (size := 25) (len := 9) (i := i) (o := 0) (kd := .i64) (k := n) (by omega)
    have j2 := fun o => aIdxA_at (size := 1) (len := 25) (i := i) (o := o) (kd := .i64) (k := k) (by omega)
    have g1 := pvTab_get (f := fun _ _ => true) (r := n) (c := k) (by omega) (by omega) rfl
    simp -implicitDefEqProofs only [simpS, Nat.reduceAdd, aNil_ptr, i2, j2, Nat.mul_one, load_at hg, g1]
    exact hq m' hs
  · have hc : countN n k = 0 := if_neg h
    rw [hc] at hq
    have hq' := hq m (Same.refl m)
    by_cases d1 : n < 0
    · simp -implicitDefEqProofs only [pvq_Count, pvq_Count_j0, simpS, Nat.reduceAdd, d1, decide_true, if_true]; exact hq'
    · by_cases d2 : 8 < n
      · simp -implicitDefEqProofs only [pvq_Count, pvq_Count_j0, simpS, Nat.reduceAdd, d1, d2, decide_true, decide_false, Bool.false_eq_true, if_false, if_true]; exact hq'
      · by_cases d3 : k < 0
        · simp -implicitDefEqProofs only [pvq_Count, pvq_Count_j0, simpS, Nat.reduceAdd, d1, d2, d3, decide_true, decide_false, Bool.false_eq_true, if_false, if_true]; exact hq'
        · have d4 : 24 < k := by omega
          simp -implicitDefEqProofs only [pvq_Count, pvq_Count_j0, simpS, Nat.reduceAdd, d1, d2, d3, d4, decide_true, decide_false, Bool.false_eq_true, if_false, if_true]; exact hq'

/-! pulses -/

theorem drop_cons' {α : Type} {l : List α} {i : Nat} (h : i < l.length) : ∃ x, l[i]? = some x ∧ l.drop i = x :: l.drop (i + 1) := ⟨l[i], List.getElem?_eq_getElem h, List.drop_eq_getElem_cons h⟩
def sizeV (o : Option Nat) : AV := .tup [.int .i64 (o.getD 0 : Nat), .bool o.isSome]
theorem size_ok {K : Nat → Prop} {l : List Int} {v : AV} {m : Mem} {Q : AV → Mem → Prop} (hl : IntsR K m v l) (hK : ∀ b, K b → b < m.next)
    (hq : ∀ m', Same m m' → Q (sizeV (sizeN l)) m') : Ok (R fn_pvq_Size [v]) m Q := by
  refine Ok.call (fun n => pvq_Size_eq rfl n _) ?_
  by_cases h1 : 1 ≤ l.length ∧ l.length ≤ 8
  · have d1 : ¬ (l.length : Int) = 0 := by omega
    have d2 : ¬ (8 : Int) < (l.length : Int) := by omega
    simp -implicitDefEqProofs only [pvq_Size, pvq_Size_j0, simpS, Nat.reduceAdd, hl.len, d1, d2, decide_false, Bool.false_eq_true, if_false]
    refine Ok.loop (fun k z m' => ∃ (i s : Nat) (a b : AV), k + i = l.length ∧ z = [.int .i64 s, v, .int .i64 l.length, .int .i64 i, a, b] ∧ s ≤ 24 * i ∧ s + absSum (l.drop i) = absSum l ∧ Same m m') ?_ (k := l.length) ⟨0, 0, _, _, rfl, rfl, Nat.le_refl _, by simp, Same.refl m⟩
    rintro k z m' rec ⟨i, s, a, b, hk, rfl, hs, he, hS⟩ ih
    have hl' := hl.keep (m' := m') (fun b hb => hS.get (hK b hb))
    by_cases h2 : i < l.length
    · have d3 : (i : Int) < (l.length : Int) := by omega
      obtain ⟨x, hx, hdrop⟩ := drop_cons' h2
      obtain ⟨b', o, ce, hix, hKb, -, ⟨rfl, -⟩, -, hld⟩ := hl'.at hx
      have hld0 : load? none (.ptr b' o) m' = some (.int .i64 x) := hld 0 _ rfl
      rw [hdrop, absSum] at he
      have hsz : sizeN l = if absSum l ≤ 24 then some (absSum l) else none := by
        unfold sizeN
        simp -implicitDefEqProofs only [h1, true_and]
      simp -implicitDefEqProofs only [List.getD_cons_zero, List.getD_cons_succ, pvq_Size_l0, simpS, Nat.reduceAdd, d3, decide_true, if_true, hix, hld0]
      by_cases h3 : x < -24
      · have : sizeN l = none := by rw [hsz, if_neg (by omega)]
        rw [this] at hq
        simp -implicitDefEqProofs only [pvq_Size_j1, simpS, Nat.reduceAdd, h3, decide_true, if_true]
        exact hq m' hS
      · by_cases h4 : 24 < x
        · have : sizeN l = none := by rw [hsz, if_neg (by omega)]
          rw [this] at hq
          simp -implicitDefEqProofs only [pvq_Size_j1, simpS, Nat.reduceAdd, h3, h4, decide_true, decide_false, Bool.false_eq_true, if_false, if_true]
          exact hq m' hS
        · have e1 : IntKind.i64.wrap ((s : Int) + (x.natAbs : Int)) = ((s + x.natAbs : Nat) : Int) := by rw [IntWalk.i64_in _ (by omega)]; omega
          have e2 : IntKind.i64.wrap ((i : Int) + 1) = ((i + 1 : Nat) : Int) := by rw [IntWalk.i64_in _ (by omega)]; omega
          simp -implicitDefEqProofs only [pvq_Size_j1, simpS, Nat.reduceAdd, h3, h4, decide_false, Bool.false_eq_true, if_false]
          refine Ok.bnd (abs_ok (by omega) fun m2 hS2 => ?_)
          simp -implicitDefEqProofs only [simpS, Nat.reduceAdd, e1, e2]
          exact ih (k - 1) _ _ (by omega) ⟨i + 1, s + x.natAbs, _, _, by omega, rfl, by omega, by omega, hS.trans hS2⟩
    · obtain rfl : i = l.length := by omega
      have d3 : ¬ (l.length : Int) < (l.length : Int) := by omega
      rw [List.drop_length, absSum, Nat.add_zero] at he
      subst he
      simp -implicitDefEqProofs only [List.getD_cons_zero, List.getD_cons_succ, pvq_Size_l0, simpS, Nat.reduceAdd, d3, decide_false, Bool.false_eq_true, if_false]
      by_cases h3 : absSum l ≤ 24
      · have : sizeN l = some (absSum l) := if_pos ⟨h1.1, h1.2, h3⟩
        rw [this] at hq
        have d4 : ¬ (24 : Int) < (absSum l : Int) := by omega
        simp -implicitDefEqProofs only [d4, decide_false, Bool.false_eq_true, if_false]
        exact hq m' hS
      · have : sizeN l = none := if_neg (fun h => h3 h.2.2)
        rw [this] at hq
        have d4 : (24 : Int) < (absSum l : Int) := by omega
        simp -implicitDefEqProofs only [d4, decide_true, if_true]
        exact hq m' hS
  · have : sizeN l = none := if_neg (fun h => h1 ⟨h.1, h.2.1⟩)
    rw [this] at hq
    have hq' := hq m (Same.refl m)
    by_cases h0 : l.length = 0
    · have d1 : (l.length : Int) = 0 := by omega
      simp -implicitDefEqProofs only [pvq_Size, pvq_Size_j0, simpS, Nat.reduceAdd, hl.len, d1, decide_true, if_true]
      exact hq'
    · have d1 : ¬ (l.length : Int) = 0 := by omega
      have d2 : (8 : Int) < (l.length : Int) := by omega
      simp -implicitDefEqProofs only [pvq_Size, pvq_Size_j0, simpS, Nat.reduceAdd, hl.len, d1, d2, decide_false, decide_true, Bool.false_eq_true, if_false, if_true]
      exact hq'

abbrev Table (m : Mem) (t : Nat) : Prop := m.get t = .cells T_pvq_table 0 (pvTab fun _ _ => true)
theorem Table.ld {m : Mem} {t r c : Nat} (h : Table m t) (hr : r < 9) (hc : c < 25) : load? none (.ptr t (r * 25 + c)) m = some (.int .i64 (pvT r c : Nat)) := by
  rw [load_at h]; exact pvTab_get hr hc rfl
theorem lowN_small {n k m : Nat} (hn : n < 9) (hk : k < 25) (hm : m ≤ 24) : lowN (pvT n) k m < 140737488355328 := by
  have h1 := lowN_le (r := pvT n) (k := k) (B := 1099511627775) (fun j hj => Nat.le_of_lt_succ (pvT_small n hn j (by omega))) m
  omega
theorem index_inner {v w : AV} {t k n a mm len idx : Nat} {x : Int} {m0 : Mem} {Q : AV → Mem → Prop} {rec : Nat → List AV → M AV} (ht : Table m0 t) (hn : n < 9) (hk : k < 25) (hm : mm ≤ k) (ha : a < 2 ^ 60) (hi : idx < 100)
    (hq : Ok (fun q => rec q [v, .int .i64 (k - mm : Nat), .ptr t 0, .int .i64 (a + lowN (pvT n) k mm + (if x < 0 then pvT n (k - mm) else 0) : Nat), w, .int .i64 len, .int .i64 (idx + 1 : Nat)]) m0 Q) :
    Ok (fun q => loopN (fun r l => pvq_Index_l1 (fcall Tryz.prog ext1 q) q (rec q) r (l.getD 0 .undef) (l.getD 1 .undef) (l.getD 2 .undef) (l.getD 3 .undef) (l.getD 4 .undef) (l.getD 5 .undef) (l.getD 6 .undef) (l.getD 7 .undef) (l.getD 8 .undef) (l.getD 9 .undef) (l.getD 10 .undef)) q
      [v, .int .i64 k, .ptr t 0, .int .i64 (a + lowN (pvT n) k (min mm 1) : Nat), .int .i64 x, .ptr t (n * 25), .int .i64 mm, .int .i64 1, w, .int .i64 len, .int .i64 idx]) m0 Q := by
  refine Ok.loop (fun d l m => m = m0 ∧ ∃ j : Nat, d + j = mm + 1 ∧ 1 ≤ j ∧ l = [v, .int .i64 k, .ptr t 0, .int .i64 (a + lowN (pvT n) k (min mm j) : Nat), .int .i64 x, .ptr t (n * 25), .int .i64 mm, .int .i64 j, w, .int .i64 len, .int .i64 idx]) ?_ (k := mm) ⟨rfl, 1, rfl, Nat.le_refl _, rfl⟩
  rintro d l m rec' ⟨rfl, j, hd, hj, rfl⟩ ih
  have hlow := lowN_small (n := n) (k := k) hn hk (m := mm) (by omega)
  by_cases h1 : j < mm
  · have d1 : (j : Int) < (mm : Int) := by omega
    have e1 : IntKind.i64.wrap ((k : Int) - (j : Int)) = ((k - j : Nat) : Int) := by rw [IntWalk.i64_in _ (by omega)]; omega
    have i1 := aIdxA_at (size := 1) (len := 25) (i := t) (o := n * 25) (kd := .i64) (k := k - j) (by omega)
    have g1 := Table.ld ht hn (c := k - j) (by omega)
    have hs := pvT_small n hn (k - j) (by omega)
    have e2 : IntKind.i64.wrap (2 * (pvT n (k - j) : Int)) = ((2 * pvT n (k - j) : Nat) : Int) := by rw [IntWalk.i64_in _ (by omega)]; omega
    have m1 : min mm j = j := by omega
    have m2 : min mm (j + 1) = j + 1 := by omega
    have hl2 := lowN_succ (r := pvT n) (k := k) hj
    have hlow2 := lowN_small (n := n) (k := k) hn hk (m := j) (by omega)
    have e3 : IntKind.i64.wrap (((a + lowN (pvT n) k j : Nat) : Int) + ((2 * pvT n (k - j) : Nat) : Int)) = ((a + lowN (pvT n) k (j + 1) : Nat) : Int) := by rw [hl2, IntWalk.i64_in _ (by omega)]; omega
    have e4 : IntKind.i64.wrap ((j : Int) + 1) = ((j + 1 : Nat) : Int) := by rw [IntWalk.i64_in _ (by omega)]; omega
    simp -implicitDefEqProofs only [List.getD_cons_zero, List.getD_cons_succ, pvq_Index_l1, simpS, Nat.reduceAdd, d1, decide_true, if_true, e1, aNil_ptr, i1, Nat.mul_one, g1, e2, m1, e3, e4]
    exact ih (d - 1) _ _ (by omega) ⟨rfl, j + 1, by omega, by omega, by rw [m2]⟩
  · have d1 : ¬ (j : Int) < (mm : Int) := by omega
    have m1 : min mm j = mm := by omega
    have e1 : IntKind.i64.wrap ((k : Int) - (mm : Int)) = ((k - mm : Nat) : Int) := by rw [IntWalk.i64_in _ (by omega)]; omega
    have e4 : IntKind.i64.wrap ((idx : Int) + 1) = ((idx + 1 : Nat) : Int) := by rw [IntWalk.i64_in _ (by omega)]; omega
    simp -implicitDefEqProofs only [List.getD_cons_zero, List.getD_cons_succ, pvq_Index_l1, simpS, Nat.reduceAdd, d1, decide_false, Bool.false_eq_true, if_false, e1, m1]
    by_cases h2 : x < 0
    · have i1 := aIdxA_at (size := 1) (len := 25) (i := t) (o := n * 25) (kd := .i64) (k := k - mm) (by omega)
      have g1 := Table.ld ht hn (c := k - mm) (by omega)
      have hs := pvT_small n hn (k - mm) (by omega)
      have e3 : IntKind.i64.wrap (((a + lowN (pvT n) k mm : Nat) : Int) + (pvT n (k - mm) : Int)) = ((a + lowN (pvT n) k mm + pvT n (k - mm) : Nat) : Int) := by rw [IntWalk.i64_in _ (by omega)]; omega
      rw [if_pos h2] at hq
      simp -implicitDefEqProofs only [h2, decide_true, if_true, aNil_ptr, simpS, Nat.reduceAdd, i1, Nat.mul_one, g1, e3, pvq_Index_j1, e4]
      exact hq
    · rw [if_neg h2] at hq
      simp -implicitDefEqProofs only [h2, decide_false, Bool.false_eq_true, if_false, pvq_Index_j1, simpS, Nat.reduceAdd, e4]
      exact hq

theorem sizeN_some {l : List Int} (h : 1 ≤ l.length ∧ l.length ≤ 8 ∧ absSum l ≤ 24) : sizeN l = some (absSum l) := if_pos h
theorem index_ok {K : Nat → Prop} {l : List Int} {v : AV} {m : Mem} {Q : AV → Mem → Prop} (hl : IntsR K m v l) (hK : ∀ b, K b → b < m.next) (hbn : m.base ≤ m.next)
    (hq : ∀ m', Same m m' → Q (sizeV (indexN l)) m') : Ok (R fn_pvq_Index [v]) m Q := by
  refine Ok.call (fun n => pvq_Index_eq rfl n _) ?_
  simp -implicitDefEqProofs only [pvq_Index]
  refine Ok.bnd (size_ok hl hK fun m1 hS1 => ?_)
  by_cases h1 : 1 ≤ l.length ∧ l.length ≤ 8 ∧ absSum l ≤ 24
  · have hx : indexN l = some (idxN (absSum l) l) := if_pos h1
    rw [hx] at hq
    simp -implicitDefEqProofs only [sizeN_some h1, sizeV, Option.getD_some, Option.isSome_some, aExt, simpS, Nat.reduceAdd, Bool.not_true, Bool.false_eq_true, if_false, hl.len]
    refine Ok.bnd (made_ok (hS1.bn hbn) fun m2 t hS2 ht1 ht2 ht => ?_)
    have hS := hS1.trans hS2
    refine Ok.loop (fun k z m' => ∃ (i a : Nat), k + i = l.length ∧ z = [v, .int .i64 (absSum (l.drop i) : Nat), .ptr t 0, .int .i64 a, v, .int .i64 l.length, .int .i64 i] ∧ a ≤ i * 2 ^ 48 ∧ a + idxN (absSum (l.drop i)) (l.drop i) = idxN (absSum l) l ∧ absSum (l.drop i) ≤ 24 ∧ Table m' t ∧ t < m'.next ∧ Same m m') ?_ (k := l.length) ⟨0, 0, rfl, rfl, Nat.le_refl _, by simp, by simpa using h1.2.2, ht, ht2, hS⟩
    clear ht ht1 ht2 hS2 hS hS1
    rintro k z m' rec ⟨i, a, hk, rfl, ha, he, hle, ht, ht2, hS⟩ ih
    have hl' := hl.keep (m' := m') (fun b hb => hS.get (hK b hb))
    by_cases h2 : i < l.length
    · have d3 : (i : Int) < (l.length : Int) := by omega
      obtain ⟨x, hx', hdrop⟩ := drop_cons' h2
      obtain ⟨b', o, ce, hix, hKb, -, ⟨rfl, -⟩, -, hld⟩ := hl'.at hx'
      have hld0 : load? none (.ptr b' o) m' = some (.int .i64 x) := hld 0 _ rfl
      have hrl : (l.drop (i + 1)).length = l.length - 1 - i := by rw [List.length_drop]; omega
      rw [hdrop] at he hle ⊢
      simp -implicitDefEqProofs only [absSum, idxN, hrl] at he hle ⊢
      have e1 : IntKind.i64.wrap (IntKind.i64.wrap ((l.length : Int) - 1) - (i : Int)) = ((l.length - 1 - i : Nat) : Int) := by rw [IntWalk.i64_in ((l.length : Int) - 1) (by omega), IntWalk.i64_in _ (by omega)]; omega
      have i1 := aIdxA_at (size := 25) (len := 9) (i := t) (o := 0) (kd := .i64) (k := l.length - 1 - i) (by omega)
      simp -implicitDefEqProofs only [List.getD_cons_zero, List.getD_cons_succ, pvq_Index_l0, simpS, Nat.reduceAdd, d3, decide_true, if_true, hix, hld0, hl.len, e1, aNil_ptr, i1]
      refine Ok.bnd (abs_ok (by omega) fun m3 hS3 => ?_)
      have ht3 : Table m3 t := (hS3.get ht2).trans ht
      have hsub : x.natAbs + absSum (l.drop (i + 1)) - x.natAbs = absSum (l.drop (i + 1)) := by omega
      have hlow := lowN_small (n := l.length - 1 - i) (k := x.natAbs + absSum (l.drop (i + 1))) (m := x.natAbs) (by omega) (by omega) (by omega)
      have hsm := pvT_small (l.length - 1 - i) (by omega) (absSum (l.drop (i + 1))) (by omega)
      have hpow : i * 2 ^ 48 ≤ 8 * 2 ^ 48 := Nat.mul_le_mul_right _ (by omega)
      have hnext := index_inner (v := v) (w := v) (k := x.natAbs + absSum (l.drop (i + 1))) (a := a) (mm := x.natAbs) (len := l.length) (idx := i) (x := x) (Q := Q) (rec := rec) ht3 (n := l.length - 1 - i) (by omega) (by omega) (by omega) (by omega) (by omega) (by
        rw [hsub] at he ⊢
        refine ih (k - 1) _ _ (by omega) ⟨i + 1, _, by omega, rfl, ?_, ?_, by omega, ht3, Nat.lt_of_lt_of_le ht2 hS3.next, hS.trans hS3⟩
        · have : (i + 1) * 2 ^ 48 = i * 2 ^ 48 + 2 ^ 48 := by rw [Nat.add_mul, Nat.one_mul]
          split <;> omega
        · omega)
      simp -implicitDefEqProofs only [simpS, Nat.reduceAdd]
      by_cases h3 : x.natAbs = 0
      · have d4 : ¬ (0 : Int) < (x.natAbs : Int) := by omega
        have e2 : min x.natAbs 1 = 0 := by omega
        rw [e2] at hnext
        simp -implicitDefEqProofs only [d4, decide_false, Bool.false_eq_true, if_false, pvq_Index_j0]
        exact hnext
      · have d4 : (0 : Int) < (x.natAbs : Int) := by omega
        have e2 : min x.natAbs 1 = 1 := by omega
        rw [e2] at hnext
        have i2 := aIdxA_at (size := 1) (len := 25) (i := t) (o := (l.length - 1 - i) * 25) (kd := .i64) (k := x.natAbs + absSum (l.drop (i + 1))) (by omega)
        have g1 := Table.ld ht3 (r := l.length - 1 - i) (by omega) (c := x.natAbs + absSum (l.drop (i + 1))) (by omega)
        have hs := pvT_small (l.length - 1 - i) (by omega) (x.natAbs + absSum (l.drop (i + 1))) (by omega)
        have e3 : IntKind.i64.wrap ((a : Int) + (pvT (l.length - 1 - i) (x.natAbs + absSum (l.drop (i + 1))) : Int)) = ((a + lowN (pvT (l.length - 1 - i)) (x.natAbs + absSum (l.drop (i + 1))) 1 : Nat) : Int) := by
          simp -implicitDefEqProofs only [lowN]
          rw [IntWalk.i64_in _ (by omega)]; omega
        simp -implicitDefEqProofs only [d4, decide_true, if_true, simpS, Nat.reduceAdd, i2, Nat.mul_one, g1, e3, pvq_Index_j0]
        exact hnext
    · obtain rfl : i = l.length := by omega
      have d3 : ¬ (l.length : Int) < (l.length : Int) := by omega
      rw [List.drop_length, absSum, idxN, Nat.add_zero] at he
      subst he
      simp -implicitDefEqProofs only [List.getD_cons_zero, List.getD_cons_succ, pvq_Index_l0, simpS, Nat.reduceAdd, d3, decide_false, Bool.false_eq_true, if_false]
      exact hq m' hS
  · have hx : indexN l = none := if_neg h1
    have hs : sizeN l = none := if_neg h1
    rw [hx] at hq
    simp -implicitDefEqProofs only [hs, sizeV, Option.getD_none, Option.isSome_none, aExt, simpS, Nat.reduceAdd, Bool.not_false, if_true]
    exact hq m1 hS1
end SplA

/- Slices of one's own that are filled one by one; rows of a frame. -/
namespace Go.Proofs.YtooogfnmhfocjaaGreatDoor.Spl
open Go Go.RowKit
set_option linter.unusedVariables false
set_option linter.unusedSimpArgs false

theorem set_fill {α : Type} (f : α → AV) (z : AV) (l : List α) (x : α) (n : Nat) : (l.map f ++ List.replicate (n + 1) z).set l.length (f x) = (l ++ [x]).map f ++ List.replicate n z := by
  rw [List.set_append_right _ _ (by simp)]
  simp [List.replicate_succ]
theorem aPart_map {α : Type} {f : α → AV} {l : List α} {k : Nat} {x : α} (h : l[k]? = some x) : aPart (some 1) (l.map f) k = some (.agg [f x]) := by
  obtain ⟨hk, rfl⟩ := List.getElem?_eq_some_iff.1 h
  simp only [aPart, List.length_map, Nat.succ_le_of_lt hk, if_true]
  rw [List.drop_eq_getElem_cons (by simpa using hk)]
  simp
/-- One's own object, as a slice of it. -/
theorem slR_own {α : Type} {K : Nat → Prop} {R : Mem → List AV → α → Prop} {f : α → AV} {m : Mem} {i ty fz e : Nat} {l : List α} (hK : K i) (hg : m.get i = .cells ty fz (l.map f)) (hR : ∀ x ∈ l, R m [f x] x) : SlR K 1 R m (.slice i 0 l.length e) l := by
  refine .inr ⟨i, 0, e, rfl, hK, fun k x hk => ⟨[f x], rfl, hR x (List.mem_of_getElem? hk), ?_, fun j a hj => ?_⟩⟩
  · simp only [load?, Mem.cells?, hg, Nat.zero_add, Nat.mul_one]
    exact aPart_map hk
  · cases j with
    | zero =>
      cases hj
      rw [load_at hg]
      simp [hk]
    | succ j => simp at hj

theorem SlR.mono {α : Type} {K K' : Nat → Prop} {es : Nat} {R R' : Mem → List AV → α → Prop} {m : Mem} {v : AV} {l : List α} (h : SlR K es R m v l) (hK : ∀ b, K b → K' b) (hR : ∀ ce x, R m ce x → R' m ce x) : SlR K' es R' m v l := by
  rcases h with h | ⟨b, o, e, h1, h2, h3⟩
  · exact .inl h
  · refine .inr ⟨b, o, e, h1, hK b h2, fun k x hk => ?_⟩
    obtain ⟨ce, k1, k2, k3, k4⟩ := h3 k x hk
    exact ⟨ce, k1, hR _ _ k2, k3, k4⟩
theorem IntsR.mono {K K' : Nat → Prop} {m : Mem} {v : AV} {l : List Int} (h : IntsR K m v l) (hK : ∀ b, K b → K' b) : IntsR K' m v l := SlR.mono h hK (fun _ _ h => h)
/-- make of a slice of single cells. -/
theorem ok_mkSlice1 {β : Type} {ty bytes n : Nat} {z : AV} {k : Nat → AV → M β} {m : Mem} {Q : β → Mem → Prop} (h : bytes * n ≤ 35184372088832) :
    Ok (fun q => bnd (mkSlice ty 1 bytes [z] (.int .i64 n) (.int .i64 n)) (k q)) m Q ↔ Ok (fun q => k q (.slice m.next 0 n 1)) (m.alloc (.cells ty 0 (List.replicate n z))) Q := by
  have hb : (bytes : Int) * (n : Int) ≤ 2 ^ 45 := by rw [← Int.natCast_mul]; omega
  have e : mkSlice ty 1 bytes [z] (.int .i64 n) (.int .i64 n) = allocS ty 1 n (List.replicate n z) := by
    have hf : ∀ n, (List.replicate n [z]).flatten = List.replicate n z := by
      intro n
      induction n with
      | zero => rfl
      | succ n ih => rw [List.replicate_succ, List.flatten_cons, ih, List.replicate_succ]; rfl
    simp only [mkSlice, Int.toNat_natCast, hf]
    rw [if_pos ⟨by omega, Int.le_refl _, hb, rfl⟩]
  rw [e]
  exact ok_allocS

theorem wf_i64 {n : Int} (h : -9223372036854775808 ≤ n ∧ n < 9223372036854775808) : (Lit.int .i64 n).wf = true := by
  simp only [Lit.wf, Bool.and_eq_true, decide_eq_true_eq]
  have m1 : IntKind.i64.min = -9223372036854775808 := by decide
  have m2 : IntKind.i64.max = 9223372036854775807 := by decide
  omega

/-- .. of cells that are not told by what they hold. -/
theorem slR_own2 {α : Type} {K : Nat → Prop} {R : Mem → List AV → α → Prop} {m : Mem} {i ty fz e : Nat} {us : List AV} {l : List α} (hK : K i) (hg : m.get i = .cells ty fz us) (hlen : us.length = l.length) (hR : ∀ (k : Nat) u x, us[k]? = some u → l[k]? = some x → R m [u] x) : SlR K 1 R m (.slice i 0 l.length e) l := by
  refine .inr ⟨i, 0, e, rfl, hK, fun k x hk => ?_⟩
  have hlt : k < us.length := by rw [hlen]; exact (List.getElem?_eq_some_iff.1 hk).1
  have hu := List.getElem?_eq_getElem hlt
  refine ⟨[us[k]], rfl, hR k _ x hu hk, ?_, fun j a hj => ?_⟩
  · simp only [load?, Mem.cells?, hg, Nat.zero_add, Nat.mul_one]
    have := aPart_map (f := fun x => x) hu
    rwa [List.map_id'] at this
  · cases j with
    | zero =>
      cases hj
      rw [load_at hg]
      simp [hu]
    | succ j => simp at hj

theorem buf_ints {K : Nat → Prop} {T fz : Nat} {m : Mem} {v : AV} {l : List Int} (h : Buf T fz m v (l.map fun x => .int .i64 x)) (hK : ∀ j, own v j → K j) (hw : ∀ x ∈ l, (Lit.int .i64 x).wf = true) : IntsR K m v l := by
  rcases h with ⟨rfl, h⟩ | ⟨j, rfl, h1, h2, -⟩
  · exact .inl ⟨.inl rfl, List.map_eq_nil_iff.1 h⟩
  · rw [List.length_map] at *
    exact slR_own (f := fun x => .int .i64 x) (hK j rfl) h2 (fun x hx => ⟨rfl, hw x hx⟩)
/-- An element is put behind one's own slice, from a slice of its own. -/
theorem ok_append1 {β : Type} {T fz bytes : Nat} {v x : AV} {cs : List AV} {k : Nat → AV → M β} {m : Mem} {Q : β → Mem → Prop} (h : Buf T fz m v cs) (hn : m.base ≤ m.next) (ho : x.one = true) (hlen : (cs.length + 1) * bytes ≤ 2 ^ 45)
    (hq : ∀ m' v' fz', Chg (own v) m m' → Buf T fz' m' v' (cs ++ [x]) → (∀ j, own v' j → m.next ≤ j) → m'.base ≤ m'.next → Ok (fun n => k n v') m' Q) :
    Ok (fun n => bnd (append T 1 bytes v (.slice m.next 0 1 1)) (k n)) (m.alloc (.cells T 0 [x])) Q := by
  have hg := Mem.get_alloc m (.cells T 0 [x])
  have hca := Chg.alloc (own v) m (.cells T 0 [x])
  have hb : ∀ b, own v b → b < m.next := fun b hb => (h.own hb).2
  refine ok_append (X := [x]) (h.chg (Chg.alloc (fun _ => False) m (.cells T 0 [x])) (fun _ _ => id)) (Nat.le_succ_of_le hn) ⟨by simp [elems, Mem.cells?, hg], rfl⟩ (by simp [ho]) hlen ?_
  rintro m' v' h1 ⟨fz', -, h2⟩ - h4 h5
  exact hq m' v' fz' (hca.trans h1 (fun _ _ h => h)) h2 (fun j hj => Nat.le_of_lt (h4 (by simp) j hj)) h5

/-! rows: differences -/
/-- What is expected of a band. -/
def expN (intra : Bool) (p : List Int) (b : Nat) (last : Int) : Int := if intra then (if b = 0 then 8 else last) else (3 * p.getD b 0 + (if b = 0 then p.getD 0 0 else last)) / 4
def deltasN (intra : Bool) (p : List Int) : Nat → Int → List Int → List Int
  | _, _, [] => []
  | b, last, x :: l => (x - expN intra p b last) :: deltasN intra p (b + 1) x l
def RightP (l : List Int) : Prop := l.length = 13 ∧ ∀ x ∈ l, 0 ≤ x ∧ x ≤ 23
instance (l : List Int) : Decidable (RightP l) := by unfold RightP; infer_instance
def DeltasP (intra : Bool) (p c : List Int) : Prop := RightP c ∧ (intra = true ∨ RightP p)
instance (intra : Bool) (p c : List Int) : Decidable (DeltasP intra p c) := by unfold DeltasP; infer_instance
def deltasO (intra : Bool) (p c : List Int) : List Int := if DeltasP intra p c then deltasN intra p 0 0 c else []
theorem RightP.get {l : List Int} (h : RightP l) (k : Nat) : 0 ≤ l.getD k 0 ∧ l.getD k 0 ≤ 23 := by
  rcases Nat.lt_or_ge k l.length with hk | hk
  · rw [List.getD_eq_getElem?_getD, List.getElem?_eq_getElem hk]; exact h.2 _ (List.getElem_mem hk)
  · rw [List.getD_eq_getElem?_getD, List.getElem?_eq_none hk]; decide
theorem expN_in {intra : Bool} {p : List Int} {b : Nat} {last : Int} (hp : intra = true ∨ RightP p) (hl : 0 ≤ last ∧ last ≤ 23) : 0 ≤ expN intra p b last ∧ expN intra p b last ≤ 23 := by
  unfold expN
  cases intra with
  | true => simp only [if_true]; split <;> omega
  | false =>
    have hp' : RightP p := by simpa using hp
    have h1 := hp'.get b
    have h2 := hp'.get 0
    simp only [Bool.false_eq_true, if_false]
    split <;> omega
theorem deltasN_length {intra : Bool} {p : List Int} : ∀ {l : List Int} {b : Nat} {last : Int}, (deltasN intra p b last l).length = l.length
  | [], _, _ => rfl
  | x :: l, b, last => by simp [deltasN, deltasN_length (l := l)]
theorem deltasN_in {intra : Bool} {p : List Int} (hp : intra = true ∨ RightP p) : ∀ {l : List Int} {b : Nat} {last : Int}, (∀ x ∈ l, 0 ≤ x ∧ x ≤ 23) → 0 ≤ last ∧ last ≤ 23 → ∀ y ∈ deltasN intra p b last l, -23 ≤ y ∧ y ≤ 23
  | [], _, _, _, _ => fun y hy => by simp [deltasN] at hy
  | x :: l, b, last, h, hl => fun y hy => by
    have hx := h x (List.mem_cons_self ..)
    have he := expN_in (b := b) hp hl
    rcases List.mem_cons.1 hy with rfl | hy
    · omega
    · exact deltasN_in hp (fun z hz => h z (List.mem_cons_of_mem _ hz)) hx y hy
end Go.Proofs.YtooogfnmhfocjaaGreatDoor.Spl

/- How loud bands are: rows and their differences. -/
namespace SplA
open Go.Proofs.YtooogfnmhfocjaaGreatDoor.Spl Go Go.Proofs
set_option maxRecDepth 100000
set_option linter.unusedVariables false
set_option linter.unusedSimpArgs false

theorem eright_ok {K : Nat → Prop} {l : List Int} {v : AV} {m : Mem} {Q : AV → Mem → Prop} (hl : IntsR K m v l) (hlen : l.length ≤ 4611686018427387904)
    (hq : Q (.bool (decide (RightP l))) m) : Ok (R fn_energy_Right [v]) m Q := by
  refine Ok.call (fun n => energy_Right_eq rfl n _) ?_
  simp -implicitDefEqProofs only [energy_Right, simpS, Nat.reduceAdd, hl.len]
  refine Ok.loop (fun k z m' => m' = m ∧ ∃ (i : Nat) (a b : AV), k + i = l.length ∧ z = [v, v, .int .i64 l.length, .int .i64 i, a, b] ∧ ((∀ x ∈ l, 0 ≤ x ∧ x ≤ 23) ↔ ∀ x ∈ l.drop i, 0 ≤ x ∧ x ≤ 23)) ?_ (k := l.length) ⟨rfl, 0, _, _, rfl, rfl, by simp⟩
  rintro k z m' rec ⟨rfl, i, a, b, hk, rfl, he⟩ ih
  by_cases h2 : i < l.length
  · have d3 : (i : Int) < (l.length : Int) := by omega
    obtain ⟨x, hx, hdrop⟩ := drop_cons' h2
    obtain ⟨b', o, ce, hix, hKb, -, ⟨rfl, -⟩, -, hld⟩ := hl.at hx
    have hld0 : load? none (.ptr b' o) m' = some (.int .i64 x) := hld 0 _ rfl
    rw [hdrop, List.forall_mem_cons] at he
    simp -implicitDefEqProofs only [List.getD_cons_zero, List.getD_cons_succ, energy_Right_l0, simpS, Nat.reduceAdd, d3, decide_true, if_true, hix, hld0]
    by_cases h3 : x < 0
    · have : ¬ RightP l := fun h => by have := (he.1 h.2).1; omega
      rw [decide_eq_false this] at hq
      simp -implicitDefEqProofs only [energy_Right_j0, simpS, Nat.reduceAdd, h3, decide_true, if_true]
      exact hq
    · by_cases h4 : 23 < x
      · have : ¬ RightP l := fun h => by have := (he.1 h.2).1; omega
        rw [decide_eq_false this] at hq
        simp -implicitDefEqProofs only [energy_Right_j0, simpS, Nat.reduceAdd, h3, h4, decide_true, decide_false, Bool.false_eq_true, if_false, if_true]
        exact hq
      · have e2 : IntKind.i64.wrap ((i : Int) + 1) = ((i + 1 : Nat) : Int) := by rw [IntWalk.i64_in _ (by omega)]; omega
        simp -implicitDefEqProofs only [energy_Right_j0, simpS, Nat.reduceAdd, h3, h4, decide_false, Bool.false_eq_true, if_false, e2]
        exact ih (k - 1) _ _ (by omega) ⟨rfl, i + 1, _, _, by omega, rfl, he.trans ⟨fun h => h.2, fun h => ⟨by omega, h⟩⟩⟩
  · obtain rfl : i = l.length := by omega
    have d3 : ¬ (l.length : Int) < (l.length : Int) := by omega
    have hall := he.2 (by rw [List.drop_length]; intro x hx; simp at hx)
    have e3 : decide ((l.length : Int) = 13) = decide (RightP l) := decide_eq_decide.2 ⟨fun h => ⟨by omega, hall⟩, fun h => by have := h.1; omega⟩
    simp -implicitDefEqProofs only [List.getD_cons_zero, List.getD_cons_succ, energy_Right_l0, simpS, Nat.reduceAdd, d3, decide_false, Bool.false_eq_true, if_false, hl.len, e3]
    exact hq

/-- What expects tells: a function that tells what is expected. -/
def Expects (m : Mem) (F : AV) (intra : Bool) (p : List Int) : Prop :=
  ∀ (m' : Mem), Same m m' → ∀ (b : Nat) (last : Int) (k : Nat → AV → M AV) (Q : AV → Mem → Prop), b < 13 → 0 ≤ last ∧ last ≤ 23 → Ok (fun n => k n (.int .i64 (expN intra p b last))) m' Q → Ok (fun n => callee (fcall Tryz.prog ext1 n) F [.int .i64 b, .int .i64 last] (k n)) m' Q
theorem expects_ok {K : Nat → Prop} {intra : Bool} {p : List Int} {v : AV} {m : Mem} {Q : AV → Mem → Prop} (hl : IntsR K m v p) (hK : ∀ b, K b → b < m.next) (hp : intra = true ∨ RightP p)
    (hq : ∀ m' F, Same m m' → Expects m' F intra p → Q F m') : Ok (R fn_energy_expects [.bool intra, v]) m Q := by
  refine Ok.call (fun n => energy_expects_eq rfl n _ _) ?_
  have hv := hl.one
  have e0 : box T_sl_int v = alloc T_sl_int [v] := by rcases hl with ⟨rfl | rfl, -⟩ | ⟨b, o, e, rfl, -⟩ <;> rfl
  simp -implicitDefEqProofs only [energy_expects, e0, ok_alloc]
  have hS := Same.alloc m (.cells T_sl_int 0 [v])
  have hg := Mem.get_alloc m (.cells T_sl_int 0 [v])
  have hnx : m.next < (m.alloc (.cells T_sl_int 0 [v])).next := Nat.lt_succ_self _
  generalize m.alloc (.cells T_sl_int 0 [v]) = m1 at *
  cases intra with
  | true =>
    simp -implicitDefEqProofs only [simpS, Nat.reduceAdd, if_true]
    refine hq m1 _ hS ?_
    intro m' hS' b last k Q' hb hla hk
    show Ok (fun n => bnd (fcall Tryz.prog ext1 n fn_energy_expects_c1 [.int .i64 b, .int .i64 last]) (k n)) m' Q'
    refine Ok.bnd (Ok.call (fun n => energy_expects_c1_eq rfl n _ _) ?_)
    simp -implicitDefEqProofs only [energy_expects_c1, simpS, Nat.reduceAdd]
    by_cases h : b = 0
    · subst h
      simp -implicitDefEqProofs only [expN, if_true] at hk
      simp -implicitDefEqProofs only [Int.natCast_zero, decide_true, if_true]
      exact hk
    · have d : ¬ (b : Int) = 0 := by omega
      simp -implicitDefEqProofs only [expN, h, if_true, if_false] at hk
      simp -implicitDefEqProofs only [d, decide_false, Bool.false_eq_true, if_false]
      exact hk
  | false =>
    have hp' : RightP p := by simpa using hp
    simp -implicitDefEqProofs only [simpS, Nat.reduceAdd, Bool.false_eq_true, if_false]
    refine hq m1 _ hS ?_
    intro m' hS' b last k Q' hb hla hk
    have hg' : m'.get m.next = .cells T_sl_int 0 [v] := (hS'.get hnx).trans hg
    have hl' := hl.keep (m' := m') (fun b hb => (hS.trans hS').get (hK b hb))
    have hx0 : p[0]? = some (p.getD 0 0) := by rw [List.getD_eq_getElem?_getD, List.getElem?_eq_getElem (by rw [hp'.1]; decide)]; rfl
    have hxb : p[b]? = some (p.getD b 0) := by rw [List.getD_eq_getElem?_getD, List.getElem?_eq_getElem (by rw [hp'.1]; exact hb)]; rfl
    obtain ⟨b0, o0, _, hix0, -, -, ⟨rfl, -⟩, -, hld0⟩ := hl'.at hx0
    obtain ⟨b1, o1, _, hix1, -, -, ⟨rfl, -⟩, -, hld1⟩ := hl'.at hxb
    have l0 : load? none (.ptr b0 o0) m' = some (.int .i64 (p.getD 0 0)) := hld0 0 _ rfl
    have l1 : load? none (.ptr b1 o1) m' = some (.int .i64 (p.getD b 0)) := hld1 0 _ rfl
    have r0 := hp'.get 0
    have r1 := hp'.get b
    have hj : ∀ z : Int, 0 ≤ z ∧ z ≤ 23 → Ok (fun n => k n (.int .i64 ((3 * p.getD b 0 + z) / 4))) m' Q' → Ok (fun n => energy_expects_c2_j0 (fcall Tryz.prog ext1 n) n (.int .i64 b) (.int .i64 z) (.ptr m.next 0)) m' fun v m2 => Ok (fun n => k n v) m2 Q' := by
      intro z hz hk
      have e1 : IntKind.i64.wrap (3 * p.getD b 0) = 3 * p.getD b 0 := IntWalk.i64_in _ (by omega)
      have e2 : IntKind.i64.wrap (3 * p.getD b 0 + z) = 3 * p.getD b 0 + z := IntWalk.i64_in _ (by omega)
      have e3 : aBin .quo [] (.int .i64 (3 * p.getD b 0 + z)) (.int .i64 4) = some (.int .i64 ((3 * p.getD b 0 + z) / 4)) := by
        rw [aBin_quo _ _ _ _ (by decide), Int.tdiv_eq_ediv_of_nonneg (by omega), IntWalk.i64_in _ (by omega)]
      simp -implicitDefEqProofs only [energy_expects_c2_j0, simpS, Nat.reduceAdd, load_at hg', hix1, l1, e1, e2, e3]
      exact hk
    show Ok (fun n => bnd (fcall Tryz.prog ext1 n fn_energy_expects_c2 [.int .i64 b, .int .i64 last, .ptr m.next 0]) (k n)) m' Q'
    refine Ok.bnd (Ok.call (fun n => energy_expects_c2_eq rfl n _ _ _) ?_)
    simp -implicitDefEqProofs only [energy_expects_c2, simpS, Nat.reduceAdd]
    by_cases h : b = 0
    · subst h
      simp -implicitDefEqProofs only [expN, Bool.false_eq_true, if_false, if_true] at hk
      simp -implicitDefEqProofs only [Int.natCast_zero, decide_true, if_true, load_at hg', simpS, Nat.reduceAdd, hix0 .i64]
      have hix0' := hix0 .i64
      simp -implicitDefEqProofs only [Int.natCast_zero] at hix0'
      simp -implicitDefEqProofs only [hix0', simpS, Nat.reduceAdd, l0]
      exact hj _ r0 hk
    · have d : ¬ (b : Int) = 0 := by omega
      simp -implicitDefEqProofs only [expN, h, Bool.false_eq_true, if_false] at hk
      simp -implicitDefEqProofs only [d, decide_false, Bool.false_eq_true, if_false]
      exact hj _ hla hk

theorem deltas_ok {K L : Nat → Prop} {intra : Bool} {p c : List Int} {v w : AV} {m : Mem} {Q : AV → Mem → Prop} (hc : IntsR K m w c) (hK : ∀ b, K b → b < m.next) (hp : IntsR L m v p) (hL : ∀ b, L b → b < m.next) (hbn : m.base ≤ m.next) (hlp : p.length ≤ 4611686018427387904) (hlc : c.length ≤ 4611686018427387904)
    (hq : ∀ m' u, Same m m' → IntsR (fun b => m.next ≤ b ∧ b < m'.next) m' u (deltasO intra p c) → Q u m') : Ok (R fn_energy_Deltas [.bool intra, v, w]) m Q := by
  refine Ok.call (fun n => energy_Deltas_eq rfl n _ _ _) ?_
  simp -implicitDefEqProofs only [energy_Deltas]
  refine Ok.bnd (eright_ok hc hlc ?_)
  have hnone : ¬ DeltasP intra p c → Q .nilslice m := fun h => hq m _ (Same.refl m) (.inl ⟨.inl rfl, if_neg h⟩)
  have hsome : DeltasP intra p c → Ok (fun n => energy_Deltas_j0 (fcall Tryz.prog ext1 n) n (.bool intra) v w (.bool false)) m Q := by
    intro hD
    simp -implicitDefEqProofs only [energy_Deltas_j0, mc_false]
    refine Ok.bnd (expects_ok hp hL hD.2 fun m1 F hS1 hF => ?_)
    have h13 := hD.1.1
    have hdl : deltasO intra p c = deltasN intra p 0 0 c := if_pos hD
    rw [hdl] at hq
    have hz : (c.length : Int) = ((13 : Nat) : Int) := by omega
    simp -implicitDefEqProofs only [hc.len, lp_some', hz, ok_mkSlice1 (show 8 * 13 ≤ 35184372088832 by decide)]
    have hS2 := hS1.trans (Same.alloc m1 (.cells T_int 0 (List.replicate 13 (.int .i64 0))))
    have hS12 := Same.alloc m1 (.cells T_int 0 (List.replicate 13 (.int .i64 0)))
    have hg2 := Mem.get_alloc m1 (.cells T_int 0 (List.replicate 13 (.int .i64 0)))
    have hbn1 : (m1.alloc (.cells T_int 0 (List.replicate 13 (.int .i64 0)))).base ≤ m1.next := hS1.bn hbn
    have hnx2 : m1.next < (m1.alloc (.cells T_int 0 (List.replicate 13 (.int .i64 0)))).next := Nat.lt_succ_self _
    generalize m1.alloc (.cells T_int 0 (List.replicate 13 (.int .i64 0))) = m2 at *
    refine Ok.loop (fun k z m' => ∃ (i : Nat) (last : Int) (done : List Int), k + i = 13 ∧ z = [F, .slice m1.next 0 13 1, .int .i64 last, w, .int .i64 (13 : Nat), .int .i64 i] ∧ done.length = i ∧ (0 ≤ last ∧ last ≤ 23) ∧ m'.get m1.next = .cells T_int 0 (done.map (fun x => .int .i64 x) ++ List.replicate (13 - i) (.int .i64 0)) ∧ done ++ deltasN intra p i last (c.drop i) = deltasN intra p 0 0 c ∧ Chg (fun b => b = m1.next) m2 m') ?_ (k := 13) ⟨0, 0, [], rfl, rfl, rfl, by decide, hg2, rfl, Chg.refl _ _⟩
    clear hg2 hdl
    rintro k z m' rec ⟨i, last, done, hk, rfl, hdn, hla, hg, he, hch⟩ ih
    have hS := hS2.own (hS1.next) hch
    have hS1' := hS12.own (Nat.le_refl _) hch
    have hc' := hc.keep (m' := m') (fun b hb => hS.get (hK b hb))
    by_cases h2 : i < 13
    · have d3 : (i : Int) < ((13 : Nat) : Int) := by omega
      obtain ⟨x, hx, hdrop⟩ := drop_cons' (l := c) (i := i) (by omega)
      obtain ⟨b', o, ce, hix, hKb, -, ⟨rfl, -⟩, -, hld⟩ := hc'.at hx
      have hld0 : load? none (.ptr b' o) m' = some (.int .i64 x) := hld 0 _ rfl
      have hx23 := hD.1.2 x (List.mem_of_getElem? hx)
      have hex := expN_in (b := i) hD.2 hla
      rw [hdrop, deltasN] at he
      simp -implicitDefEqProofs only [List.getD_cons_zero, List.getD_cons_succ, energy_Deltas_l0, simpS, Nat.reduceAdd, d3, decide_true, if_true, hix, hld0]
      refine hF m' hS1' i last _ _ h2 hla ?_
      have e1 : IntKind.i64.wrap (x - expN intra p i last) = x - expN intra p i last := IntWalk.i64_in _ (by omega)
      have e2 : IntKind.i64.wrap ((i : Int) + 1) = ((i + 1 : Nat) : Int) := by rw [IntWalk.i64_in _ (by omega)]; omega
      have i2 := aIdxS_at (size := 1) (i := m1.next) (o := 0) (n := 13) (e := 1) (kd := .i64) h2
      have hbm : m'.base ≤ m1.next := by rw [hch.base]; exact hbn1
      have hset := set_fill (fun x => AV.int .i64 x) (.int .i64 0) done (x - expN intra p i last) (13 - (i + 1))
      rw [show 13 - (i + 1) + 1 = 13 - i by omega, hdn] at hset
      have hst := fun (k : Nat → AV → M AV) => ok_store (k := k) (Q := Q) (o := i) (v := .int .i64 (x - expN intra p i last)) hg hbm (Nat.zero_le _) (by simp; omega) (by simp)
      simp -implicitDefEqProofs only [simpS, Nat.reduceAdd, e1, e2, i2, Nat.mul_one, hst, hset]
      exact ih (k - 1) _ _ (by omega) ⟨i + 1, x, done ++ [x - expN intra p i last], by omega, rfl, by simp [hdn], hx23, by simp, by rw [List.append_assoc]; exact he, hch.trans (Chg.set _ _ _) (fun _ _ h => h)⟩
    · obtain rfl : i = 13 := by omega
      have d3 : ¬ ((13 : Nat) : Int) < ((13 : Nat) : Int) := by decide
      have hnil : c.drop 13 = [] := List.drop_eq_nil_of_le (by omega)
      rw [hnil, deltasN, List.append_nil] at he
      subst he
      simp -implicitDefEqProofs only [List.getD_cons_zero, List.getD_cons_succ, energy_Deltas_l0, simpS, Nat.reduceAdd, d3, decide_false, Bool.false_eq_true, if_false]
      refine hq m' _ hS ?_
      have := slR_own (K := fun b => m.next ≤ b ∧ b < m'.next) (R := RInt .i64) (f := fun x => .int .i64 x) (m := m') (i := m1.next) (ty := T_int) (fz := 0) (e := 1) (l := deltasN intra p 0 0 c) ⟨hS1.next, Nat.lt_of_lt_of_le hnx2 hch.next⟩ (by rw [hg]; simp) (fun x hx => ⟨rfl, ?_⟩)
      · rw [hdn] at this
        exact this
      · have := deltasN_in hD.2 (b := 0) (last := 0) hD.1.2 (by decide) x hx
        exact wf_i64 (by omega)
  by_cases h1 : RightP c
  · simp -implicitDefEqProofs only [h1, decide_true, simpS, Nat.reduceAdd, Bool.not_true, Bool.false_eq_true, if_false]
    cases intra with
    | true =>
      simp -implicitDefEqProofs only [Bool.not_true, Bool.false_eq_true, if_false]
      exact hsome ⟨h1, .inl rfl⟩
    | false =>
      simp -implicitDefEqProofs only [Bool.not_false, if_true]
      refine Ok.bnd (eright_ok hp hlp ?_)
      by_cases h2 : RightP p
      · simp -implicitDefEqProofs only [h2, decide_true, simpS, Nat.reduceAdd, Bool.not_true]
        exact hsome ⟨h1, .inr h2⟩
      · simp -implicitDefEqProofs only [h2, decide_false, simpS, Nat.reduceAdd, Bool.not_false, energy_Deltas_j0, if_true]
        exact hnone (fun h => by rcases h.2 with h | h; cases h; exact h2 h)
  · simp -implicitDefEqProofs only [h1, decide_false, simpS, Nat.reduceAdd, Bool.not_false, if_true, energy_Deltas_j0]
    exact hnone (fun h => h1 h.1)
end SplA

/- Frames: what may be. -/
namespace SplA
open Go.Proofs.YtooogfnmhfocjaaGreatDoor.Spl Go Go.Proofs
set_option maxRecDepth 100000
set_option linter.unusedVariables false
set_option linter.unusedSimpArgs false

/-- A band, as it is read. -/
structure BandD where
  c : Int
  f : Int
  p : List Int
def RBand (K : Nat → Prop) (m : Mem) (ce : List AV) (b : BandD) : Prop := ∃ v, ce = [.int .i64 b.c, .int .i64 b.f, v] ∧ (Lit.int .i64 b.c).wf = true ∧ (Lit.int .i64 b.f).wf = true ∧ IntsR K m v b.p
theorem RBand.keep {K : Nat → Prop} {m m' : Mem} {ce : List AV} {b : BandD} (h : RBand K m ce b) (hK : ∀ b, K b → m'.get b = m.get b) : RBand K m' ce b := by
  obtain ⟨v, h1, h2, h3, h4⟩ := h
  exact ⟨v, h1, h2, h3, h4.keep hK⟩
abbrev BandsR (K : Nat → Prop) (m : Mem) (v : AV) (l : List BandD) : Prop := SlR K 3 (RBand K) m v l
theorem BandsR.keep {K : Nat → Prop} {m m' : Mem} {v : AV} {l : List BandD} (h : BandsR K m v l) (hK : ∀ b, K b → m'.get b = m.get b) : BandsR K m' v l := SlR.keep h hK (fun _ _ h => h.keep hK)
abbrev ChansR (K : Nat → Prop) (m : Mem) (v : AV) (l : List (List BandD)) : Prop := SlR K 1 (RSl (BandsR K)) m v l
theorem ChansR.keep {K : Nat → Prop} {m m' : Mem} {v : AV} {l : List (List BandD)} (h : ChansR K m v l) (hK : ∀ b, K b → m'.get b = m.get b) : ChansR K m' v l :=
  SlR.keep h hK (fun _ _ ⟨v, h1, h2⟩ => ⟨v, h1, h2.keep hK⟩)
/-- A frame, as it is read. -/
structure FrameD where
  short : Bool
  side : Bool
  intra : Bool
  gain : Int
  chans : List (List BandD)
def frameC (f : FrameD) (v : AV) : List AV := [.bool f.short, .bool f.side, .bool f.intra, .int .i64 f.gain, v]

/-- May a band be? -/
def FitsP (b : BandD) (q : Int) (n : Nat) : Prop := sizeN b.p = some (bandN q b.c (widthN n)) ∧ b.p.length = widthN n ∧ (b.c = 0 → b.f = 0) ∧ 0 ≤ b.c ∧ b.c ≤ 23 ∧ 0 ≤ b.f ∧ b.f ≤ 3
instance (b : BandD) (q : Int) (n : Nat) : Decidable (FitsP b q n) := by unfold FitsP; infer_instance
theorem widthN_le (n : Nat) : widthN n ≤ 8 := by
  unfold widthN
  repeat' split
  all_goals decide
theorem fits_ok {K : Nat → Prop} {b : BandD} {ce : List AV} {q : Int} {n : Nat} {m : Mem} {Q : AV → Mem → Prop} (hb : RBand K m ce b) (hK : ∀ b, K b → b < m.next) (hbn : m.base ≤ m.next) (hn : n < 13)
    (hq : ∀ m', Same m m' → Q (.bool (decide (FitsP b q n))) m') : Ok (R fn_frame_fits [.agg ce, .int .i64 q, .int .i64 n]) m Q := by
  obtain ⟨v, rfl, hc, hf, hp⟩ := hb
  refine Ok.call (fun k => frame_fits_eq rfl k _ _ _) ?_
  simp -implicitDefEqProofs only [frame_fits, ok_box]
  have hS1 := Same.alloc m (.cells T_api_Band 0 [.int .i64 b.c, .int .i64 b.f, v])
  have hg := Mem.get_alloc m (.cells T_api_Band 0 [.int .i64 b.c, .int .i64 b.f, v])
  have hnx : m.next < (m.alloc (.cells T_api_Band 0 [.int .i64 b.c, .int .i64 b.f, v])).next := Nat.lt_succ_self _
  generalize m.alloc (.cells T_api_Band 0 [.int .i64 b.c, .int .i64 b.f, v]) = m1 at *
  refine Ok.bnd (width_ok hn (hS1.bn hbn) fun m2 hS2 => ?_)
  have hg2 := (hS2.get hnx).trans hg
  have hnx2 := Nat.lt_of_lt_of_le hnx hS2.next
  have hw := widthN_le n
  simp -implicitDefEqProofs only [simpS, Nat.reduceAdd, load_at hg2]
  refine Ok.bnd (size_ok (hp.keep (fun b hb => (hS1.trans hS2).get (hK b hb))) (fun b hb => Nat.lt_of_lt_of_le (hK b hb) (hS1.trans hS2).next) fun m3 hS3 => ?_)
  have hg3 := (hS3.get hnx2).trans hg2
  have hS := (hS1.trans hS2).trans hS3
  have hno : ¬ FitsP b q n → Q (.bool false) m3 := fun h => by
    have := hq m3 hS
    rw [decide_eq_false h] at this
    exact this
  simp -implicitDefEqProofs only [simpS, Nat.reduceAdd, sizeV, aExt, load_at hg3]
  cases hs : sizeN b.p with
  | none =>
    simp -implicitDefEqProofs only [Option.isSome_none, Bool.not_false, simpS, Nat.reduceAdd, if_true, frame_fits_j0]
    exact hno (fun h => by rw [h.1] at hs; cases hs)
  | some k =>
    simp -implicitDefEqProofs only [Option.isSome_some, Bool.not_true, simpS, Nat.reduceAdd, Bool.false_eq_true, if_false, load_at hg3, hp.len, Option.getD_some]
    by_cases h1 : b.p.length = widthN n
    · have d1 : ¬ (b.p.length : Int) ≠ (widthN n : Int) := by omega
      simp -implicitDefEqProofs only [d1, decide_false, Bool.false_eq_true, if_false]
      refine Ok.bnd (band_ok ?_)
      simp -implicitDefEqProofs only [simpS, Nat.reduceAdd]
      by_cases h2 : k = bandN q b.c (widthN n)
      · have d2 : ¬ (k : Int) ≠ (bandN q b.c (widthN n) : Int) := by omega
        simp -implicitDefEqProofs only [d2, decide_false, frame_fits_j0, frame_fits_j1, simpS, Nat.reduceAdd, Bool.false_eq_true, if_false, load_at hg3]
        have hq' := hq m3 hS
        have e : ∀ x, x = decide (FitsP b q n) → Q (.bool x) m3 := fun x hx => hx ▸ hq'
        subst h2
        by_cases h3 : b.c = 0
        · simp -implicitDefEqProofs only [h3, decide_true, if_true]
          exact e _ (decide_eq_decide.2 ⟨fun h => ⟨hs, h1, fun _ => h, by omega, by omega, by omega, by omega⟩, fun h => h.2.2.1 h3⟩)
        · simp -implicitDefEqProofs only [h3, decide_false, Bool.false_eq_true, if_false]
          by_cases h4 : 0 < b.c
          · simp -implicitDefEqProofs only [h4, decide_true, if_true]
            by_cases h5 : b.c ≤ 23
            · simp -implicitDefEqProofs only [h5, decide_true, if_true]
              by_cases h6 : 0 ≤ b.f
              · simp -implicitDefEqProofs only [h6, decide_true, if_true]
                exact e _ (decide_eq_decide.2 ⟨fun h => ⟨hs, h1, fun h => absurd h h3, by omega, by omega, by omega, by omega⟩, fun h => h.2.2.2.2.2.2⟩)
              · simp -implicitDefEqProofs only [h6, decide_false, Bool.false_eq_true, if_false]
                exact e _ (decide_eq_false (fun h => h6 h.2.2.2.2.2.1)).symm
            · simp -implicitDefEqProofs only [h5, decide_false, Bool.false_eq_true, if_false]
              exact e _ (decide_eq_false (fun h => h5 h.2.2.2.2.1)).symm
          · simp -implicitDefEqProofs only [h4, decide_false, Bool.false_eq_true, if_false]
            exact e _ (decide_eq_false (fun h => by have := h.2.2.2.1; omega)).symm
      · have d2 : (k : Int) ≠ (bandN q b.c (widthN n) : Int) := by omega
        simp -implicitDefEqProofs only [d2, ne_eq, not_false_eq_true, decide_true, frame_fits_j0, simpS, Nat.reduceAdd, if_true]
        exact hno (fun h => h2 (by rw [h.1] at hs; cases hs; rfl))
    · have d1 : (b.p.length : Int) ≠ (widthN n : Int) := by omega
      simp -implicitDefEqProofs only [d1, ne_eq, not_false_eq_true, decide_true, if_true, frame_fits_j0, simpS, Nat.reduceAdd]
      exact hno (fun h => h1 h.2.1)

def ChanP (q : Int) (c : List BandD) : Prop := c.length = 13 ∧ ∀ k b, c[k]? = some b → FitsP b q k
theorem fit_inner {K : Nat → Prop} {c : List BandD} {v vb : AV} {q : Int} {len i : Nat} {m0 : Mem} {Q : AV → Mem → Prop} {rec : Nat → List AV → M AV} (hv : BandsR K m0 vb c) (hK : ∀ b, K b → b < m0.next) (hbn : m0.base ≤ m0.next) (h13 : c.length = 13) (hi : i < 4611686018427387904)
    (hno : ∀ m', Same m0 m' → ¬ ChanP q c → Q (.bool false) m')
    (hq : ∀ m', Same m0 m' → ChanP q c → Ok (fun n => rec n [.int .i64 q, v, .int .i64 len, .int .i64 (i + 1 : Nat)]) m' Q) :
    Ok (fun n => loopN (fun r l => frame_Fit_l1 (fcall Tryz.prog ext1 n) n (rec n) r (l.getD 0 .undef) (l.getD 1 .undef) (l.getD 2 .undef) (l.getD 3 .undef) (l.getD 4 .undef) (l.getD 5 .undef) (l.getD 6 .undef)) n [.int .i64 q, v, .int .i64 len, .int .i64 i, vb, .int .i64 (13 : Nat), .int .i64 0]) m0 Q := by
  refine Ok.loop (fun k l m => ∃ j : Nat, k + j = 13 ∧ l = [.int .i64 q, v, .int .i64 len, .int .i64 i, vb, .int .i64 (13 : Nat), .int .i64 j] ∧ (∀ k b, k < j → c[k]? = some b → FitsP b q k) ∧ Same m0 m) ?_ (k := 13) ⟨0, rfl, rfl, fun _ _ h => by omega, Same.refl _⟩
  rintro k l m rec' ⟨j, hk, rfl, hall, hS⟩ ih
  have hv' := hv.keep (m' := m) (fun b hb => hS.get (hK b hb))
  by_cases h1 : j < 13
  · have d1 : (j : Int) < ((13 : Nat) : Int) := by omega
    obtain ⟨b, hb⟩ : ∃ b, c[j]? = some b := ⟨c[j], List.getElem?_eq_getElem (by omega)⟩
    obtain ⟨b', o, ce, hix, hKb, hl3, hR, hl, hld⟩ := hv'.at hb
    obtain ⟨vp, rfl, hw1, hw2, hp⟩ := hR
    have hbm := hS.bn hbn
    have hst := fun (k : Nat → AV → M AV) => ok_storeAll (i := m.next) (k := k) (Q := Q) (vs := [.int .i64 b.c, .int .i64 b.f, vp]) (n := 3) (Mem.get_alloc m (.cells T_api_Band 0 [.int .i64 0, .int .i64 0, .nilslice])) hbm rfl rfl (by simp [hp.one])
    have hg := Mem.get_alloc m (.cells T_api_Band 0 [.int .i64 b.c, .int .i64 b.f, vp])
    have hS1 := Same.alloc m (.cells T_api_Band 0 [.int .i64 b.c, .int .i64 b.f, vp])
    simp -implicitDefEqProofs only [List.getD_cons_zero, List.getD_cons_succ, frame_Fit_l1, simpS, Nat.reduceAdd, d1, decide_true, if_true, hix, hl, ok_alloc, hst, Mem.alloc_set, load_at' hg, List.length_cons, List.length_nil, Nat.reduceLeDiff, List.drop_zero, List.take_succ_cons, List.take_zero]
    generalize m.alloc (.cells T_api_Band 0 [.int .i64 b.c, .int .i64 b.f, vp]) = m1 at *
    refine Ok.bnd (fits_ok (b := b) ⟨vp, rfl, hw1, hw2, hp.keep (fun b hb => hS1.get (Nat.lt_of_lt_of_le (hK b hb) hS.next))⟩ (fun b hb => Nat.lt_of_lt_of_le (hK b hb) (hS.trans hS1).next) (hS1.bn hbm) h1 fun m2 hS2 => ?_)
    by_cases h2 : FitsP b q j
    · have e4 : IntKind.i64.wrap ((j : Int) + 1) = ((j + 1 : Nat) : Int) := by rw [IntWalk.i64_in _ (by omega)]; omega
      simp -implicitDefEqProofs only [h2, decide_true, simpS, Nat.reduceAdd, Bool.not_true, Bool.false_eq_true, if_false, e4]
      refine ih (k - 1) _ _ (by omega) ⟨j + 1, by omega, rfl, fun k b' hk hb' => ?_, (hS.trans hS1).trans hS2⟩
      rcases Nat.lt_or_ge k j with h | h
      · exact hall k b' h hb'
      · obtain rfl : k = j := by omega
        rw [hb] at hb'; cases hb'
        exact h2
    · simp -implicitDefEqProofs only [h2, decide_false, simpS, Nat.reduceAdd, Bool.not_false, if_true]
      exact hno m2 ((hS.trans hS1).trans hS2) (fun h => h2 (h.2 j b hb))
  · obtain rfl : j = 13 := by omega
    have d1 : ¬ ((13 : Nat) : Int) < ((13 : Nat) : Int) := by decide
    have e4 : IntKind.i64.wrap ((i : Int) + 1) = ((i + 1 : Nat) : Int) := by rw [IntWalk.i64_in _ (by omega)]; omega
    simp -implicitDefEqProofs only [List.getD_cons_zero, List.getD_cons_succ, frame_Fit_l1, simpS, Nat.reduceAdd, d1, decide_false, Bool.false_eq_true, if_false, e4]
    exact hq m hS ⟨h13, fun k b hb => hall k b (by have := (List.getElem?_eq_some_iff.1 hb).1; omega) hb⟩
/-- May a frame be? -/
def FitP (f : FrameD) (n q : Int) : Prop := (1 ≤ n ∧ n ≤ 2) ∧ (f.chans.length : Int) = n ∧ ¬ (f.side = true ∧ n = 1) ∧ (0 ≤ q ∧ q ≤ 10) ∧ (-64 ≤ f.gain ∧ f.gain ≤ 32) ∧ ∀ c ∈ f.chans, ChanP q c
theorem fit_ok {K : Nat → Prop} {f : FrameD} {v : AV} {n q : Int} {m : Mem} {Q : AV → Mem → Prop} (hv : ChansR K m v f.chans) (hK : ∀ b, K b → b < m.next) (hbn : m.base ≤ m.next)
    (hq : ∀ m' (x : Bool), (x = true ↔ FitP f n q) → Same m m' → Q (.bool x) m') : Ok (R fn_frame_Fit [.agg (frameC f v), .int .i64 n, .int .i64 q]) m Q := by
  refine Ok.call (fun k => frame_Fit_eq rfl k _ _ _) ?_
  simp -implicitDefEqProofs only [frame_Fit, ok_box]
  have hS1 := Same.alloc m (.cells T_api_Frame 0 (frameC f v))
  have hg := Mem.get_alloc m (.cells T_api_Frame 0 (frameC f v))
  generalize m.alloc (.cells T_api_Frame 0 (frameC f v)) = m1 at *
  have hv1 := hv.keep (m' := m1) (fun b hb => hS1.get (hK b hb))
  have hno : ∀ m', Same m1 m' → ¬ FitP f n q → Q (.bool false) m' := fun m' hS h => hq m' false ⟨fun h => absurd h (by decide), fun h' => absurd h' h⟩ (hS1.trans hS)
  have hno1 := hno m1 (Same.refl _)
  unfold frameC at hg
  have hloop : (1 ≤ n ∧ n ≤ 2) → (f.chans.length : Int) = n → ¬ (f.side = true ∧ n = 1) → (0 ≤ q ∧ q ≤ 10) → (-64 ≤ f.gain ∧ f.gain ≤ 32) → Ok (fun k => frame_Fit_j1 (fcall Tryz.prog ext1 k) k (.int .i64 q) (.ptr m.next 0) (.bool false)) m1 Q := by
    intro k1 k2 k3 k4 k5
    simp -implicitDefEqProofs only [frame_Fit_j1, simpS, Nat.reduceAdd, Bool.false_eq_true, if_false, load_at hg, hv1.len]
    refine Ok.loop (fun k l m' => ∃ i : Nat, k + i = f.chans.length ∧ l = [.int .i64 q, v, .int .i64 f.chans.length, .int .i64 i] ∧ (∀ c ∈ f.chans.take i, ChanP q c) ∧ Same m1 m') ?_ (k := f.chans.length) ⟨0, rfl, rfl, fun _ h => by simp at h, Same.refl _⟩
    rintro k l m' rec ⟨i, hk, rfl, hall, hS⟩ ih
    have hv' := hv1.keep (m' := m') (fun b hb => hS.get (Nat.lt_of_lt_of_le (hK b hb) hS1.next))
    by_cases h1 : i < f.chans.length
    · have d1 : (i : Int) < (f.chans.length : Int) := by omega
      obtain ⟨c, hc⟩ : ∃ c, f.chans[i]? = some c := ⟨f.chans[i], List.getElem?_eq_getElem h1⟩
      obtain ⟨b', o, ce, hix, hKb, hl3, hR, hl, hld⟩ := hv'.at hc
      obtain ⟨vb, rfl, hb⟩ := hR
      have hbm := hS.bn (hS1.bn hbn)
      have hst := fun (k : Nat → AV → M AV) => ok_storeAll (i := m'.next) (k := k) (Q := Q) (vs := [vb]) (n := 1) (Mem.get_alloc m' (.cells T_api_Chan 0 [.nilslice])) hbm rfl rfl (by simp [hb.one])
      have hg2 := Mem.get_alloc m' (.cells T_api_Chan 0 [vb])
      have hS2 := Same.alloc m' (.cells T_api_Chan 0 [vb])
      simp -implicitDefEqProofs only [List.getD_cons_zero, List.getD_cons_succ, frame_Fit_l0, simpS, Nat.reduceAdd, d1, decide_true, if_true, hix, hl, ok_alloc, hst, Mem.alloc_set, load_at hg2, hb.len]
      generalize m'.alloc (.cells T_api_Chan 0 [vb]) = m2 at *
      have hmem := List.mem_of_getElem? hc
      by_cases h2 : c.length = 13
      · have d2 : ¬ (c.length : Int) ≠ 13 := by omega
        have hz : (c.length : Int) = ((13 : Nat) : Int) := by omega
        simp -implicitDefEqProofs only [d2, decide_false, Bool.false_eq_true, if_false, hz]
        refine fit_inner (hb.keep (fun b hb => hS2.get (Nat.lt_of_lt_of_le (hK b hb) (hS1.trans hS).next))) (fun b hb => Nat.lt_of_lt_of_le (hK b hb) ((hS1.trans hS).trans hS2).next) (hS2.bn hbm) h2 (by omega) (fun m3 hS3 hn => hno m3 ((hS.trans hS2).trans hS3) (fun h => hn (h.2.2.2.2.2 c hmem))) fun m3 hS3 hp => ?_
        refine ih (k - 1) _ _ (by omega) ⟨i + 1, by omega, rfl, fun d hd => ?_, (hS.trans hS2).trans hS3⟩
        rw [List.take_add_one, List.mem_append] at hd
        rcases hd with hd | hd
        · exact hall d hd
        · rw [hc] at hd
          simp at hd
          rw [hd]; exact hp
      · have d2 : (c.length : Int) ≠ 13 := by omega
        simp -implicitDefEqProofs only [d2, ne_eq, not_false_eq_true, decide_true, if_true]
        exact hno m2 (hS.trans hS2) (fun h => h2 (h.2.2.2.2.2 c hmem).1)
    · obtain rfl : i = f.chans.length := by omega
      have d1 : ¬ (f.chans.length : Int) < (f.chans.length : Int) := by omega
      simp -implicitDefEqProofs only [List.getD_cons_zero, List.getD_cons_succ, frame_Fit_l0, simpS, Nat.reduceAdd, d1, decide_false, Bool.false_eq_true, if_false]
      rw [List.take_length] at hall
      exact hq m' true ⟨fun _ => ⟨k1, k2, k3, k4, k5, hall⟩, fun _ => rfl⟩ (hS1.trans hS)
  have hj0 : (1 ≤ n ∧ n ≤ 2) → (f.chans.length : Int) = n → ¬ (f.side = true ∧ n = 1) → Ok (fun k => frame_Fit_j0 (fcall Tryz.prog ext1 k) k (.int .i64 q) (.ptr m.next 0) (.bool false)) m1 Q := by
    intro k1 k2 k3
    have hj1 : ¬ ((0 ≤ q ∧ q ≤ 10) ∧ (-64 ≤ f.gain ∧ f.gain ≤ 32)) → Ok (fun k => frame_Fit_j1 (fcall Tryz.prog ext1 k) k (.int .i64 q) (.ptr m.next 0) (.bool true)) m1 Q := by
      intro h
      simp -implicitDefEqProofs only [frame_Fit_j1, simpS, Nat.reduceAdd, if_true]
      exact hno1 (fun h' => h ⟨h'.2.2.2.1, h'.2.2.2.2.1⟩)
    simp -implicitDefEqProofs only [frame_Fit_j0, simpS, Nat.reduceAdd, Bool.false_eq_true, if_false, load_at hg]
    by_cases h1 : q < 0
    · simp -implicitDefEqProofs only [h1, decide_true, if_true]; exact hj1 (by omega)
    · by_cases h2 : 10 < q
      · simp -implicitDefEqProofs only [h1, h2, decide_true, decide_false, Bool.false_eq_true, if_false, if_true]; exact hj1 (by omega)
      · by_cases h3 : f.gain < -64
        · simp -implicitDefEqProofs only [h1, h2, h3, decide_true, decide_false, Bool.false_eq_true, if_false, if_true]; exact hj1 (by omega)
        · by_cases h4 : 32 < f.gain
          · simp -implicitDefEqProofs only [h1, h2, h3, h4, decide_true, decide_false, Bool.false_eq_true, if_false]; exact hj1 (by omega)
          · simp -implicitDefEqProofs only [h1, h2, h3, h4, decide_false, Bool.false_eq_true, if_false]
            exact hloop k1 k2 k3 (by omega) (by omega)
  have hj0' : ¬ FitP f n q → Ok (fun k => frame_Fit_j0 (fcall Tryz.prog ext1 k) k (.int .i64 q) (.ptr m.next 0) (.bool true)) m1 Q := by
    intro h
    simp -implicitDefEqProofs only [frame_Fit_j0, simpS, Nat.reduceAdd, if_true]
    exact hno1 h
  by_cases h1 : n < 1
  · simp -implicitDefEqProofs only [simpS, Nat.reduceAdd, h1, decide_true, if_true]; exact hj0' (fun h => by have := h.1; omega)
  · by_cases h2 : 2 < n
    · simp -implicitDefEqProofs only [simpS, Nat.reduceAdd, h1, h2, decide_true, decide_false, Bool.false_eq_true, if_false, if_true]; exact hj0' (fun h => by have := h.1; omega)
    · by_cases h3 : (f.chans.length : Int) = n
      · by_cases h4 : f.side = true
        · by_cases h5 : n = 1
          · simp -implicitDefEqProofs only [simpS, Nat.reduceAdd, h1, h2, h3, h4, h5, load_at hg, hv1.len, ne_eq, not_true_eq_false, decide_true, decide_false, Bool.false_eq_true, if_false, if_true]
            subst h5
            exact hj0' (fun h => h.2.2.1 ⟨h4, rfl⟩)
          · simp -implicitDefEqProofs only [simpS, Nat.reduceAdd, h1, h2, h3, h4, h5, load_at hg, hv1.len, ne_eq, not_true_eq_false, decide_true, decide_false, Bool.false_eq_true, if_false, if_true]
            exact hj0 (by omega) h3 (fun h => h5 h.2)
        · have h4' : f.side = false := by simpa using h4
          simp -implicitDefEqProofs only [simpS, Nat.reduceAdd, h1, h2, h3, h4', load_at hg, hv1.len, ne_eq, not_true_eq_false, decide_false, Bool.false_eq_true, if_false]
          exact hj0 (by omega) h3 (fun h => h4 h.1)
      · simp -implicitDefEqProofs only [simpS, Nat.reduceAdd, h1, h2, h3, load_at hg, hv1.len, ne_eq, not_false_eq_true, decide_true, decide_false, Bool.false_eq_true, if_false, if_true]
        exact hj0' (fun h => h3 h.2.1)

/-! rows -/

theorem bandRow_ok {K : Nat → Prop} {c : List BandD} {vb : AV} {m : Mem} {Q : AV → Mem → Prop} (hv : BandsR K m vb c) (hK : ∀ b, K b → b < m.next) (hbn : m.base ≤ m.next) (hlen : c.length ≤ 1000)
    (hq : ∀ m' u, Same m m' → IntsR (fun b => m.next ≤ b ∧ b < m'.next) m' u (c.map BandD.c) → Q u m') : Ok (R fn_frame_mapped_api_Band_int [vb, .func (.func fn_frame_Rows_c1_c1) [] []]) m Q := by
  refine Ok.call (fun k => frame_mapped_api_Band_int_eq rfl k _ _) ?_
  simp -implicitDefEqProofs only [frame_mapped_api_Band_int, simpS, Nat.reduceAdd, hv.len, ok_mkSlice1 (show 8 * c.length ≤ 35184372088832 by omega)]
  have hS0 := Same.alloc m (.cells T_int 0 (List.replicate c.length (.int .i64 0)))
  have hg0 := Mem.get_alloc m (.cells T_int 0 (List.replicate c.length (.int .i64 0)))
  have hnx0 : m.next < (m.alloc (.cells T_int 0 (List.replicate c.length (.int .i64 0)))).next := Nat.lt_succ_self _
  generalize m.alloc (.cells T_int 0 (List.replicate c.length (.int .i64 0))) = m1 at *
  have hbn1 : m1.base ≤ m.next := by rw [hS0.base]; exact hbn
  refine Ok.loop (fun k z m' => ∃ i : Nat, k + i = c.length ∧ z = [.func (.func fn_frame_Rows_c1_c1) [] [], .slice m.next 0 c.length 1, vb, .int .i64 c.length, .int .i64 i] ∧ m'.get m.next = .cells T_int 0 (((c.take i).map BandD.c).map (fun x => .int .i64 x) ++ List.replicate (c.length - i) (.int .i64 0)) ∧ Chg (fun b => b = m.next) m1 m') ?_ (k := c.length) ⟨0, rfl, rfl, hg0, Chg.refl _ _⟩
  clear hg0
  rintro k z m' rec ⟨i, hk, rfl, hg, hch⟩ ih
  have hS := hS0.own (Nat.le_refl _) hch
  have hv' := hv.keep (m' := m') (fun b hb => hS.get (hK b hb))
  by_cases h1 : i < c.length
  · have d1 : (i : Int) < (c.length : Int) := by omega
    obtain ⟨b, hb⟩ : ∃ b, c[i]? = some b := ⟨c[i], List.getElem?_eq_getElem h1⟩
    obtain ⟨b', o, ce, hix, hKb, hl3, hR, hl, hld⟩ := hv'.at hb
    obtain ⟨vp, rfl, hw1, hw2, hp⟩ := hR
    have hbm := hS.bn hbn
    have hst := fun (k : Nat → AV → M AV) => ok_storeAll (i := m'.next) (k := k) (Q := Q) (vs := [.int .i64 b.c, .int .i64 b.f, vp]) (n := 3) (Mem.get_alloc m' (.cells T_api_Band 0 [.int .i64 0, .int .i64 0, .nilslice])) hbm rfl rfl (by simp [hp.one])
    have hg1 := Mem.get_alloc m' (.cells T_api_Band 0 [.int .i64 b.c, .int .i64 b.f, vp])
    have hS1 := Same.alloc m' (.cells T_api_Band 0 [.int .i64 b.c, .int .i64 b.f, vp])
    simp -implicitDefEqProofs only [List.getD_cons_zero, List.getD_cons_succ, frame_mapped_api_Band_int_l0, simpS, Nat.reduceAdd, d1, decide_true, if_true, hix, hl, ok_alloc, hst, Mem.alloc_set, load_at' hg1, List.length_cons, List.length_nil, Nat.reduceLeDiff, List.drop_zero, List.take_succ_cons, List.take_zero]
    generalize m'.alloc (.cells T_api_Band 0 [.int .i64 b.c, .int .i64 b.f, vp]) = m2 at *
    show Ok (fun n => bnd (fcall Tryz.prog ext1 n fn_frame_Rows_c1_c1 [.agg [.int .i64 b.c, .int .i64 b.f, vp]]) _) m2 Q
    refine Ok.bnd (Ok.call (fun n => frame_Rows_c1_c1_eq rfl n _) ?_)
    have hg3 := Mem.get_alloc m2 (.cells T_api_Band 0 [.int .i64 b.c, .int .i64 b.f, vp])
    have hS2 := Same.alloc m2 (.cells T_api_Band 0 [.int .i64 b.c, .int .i64 b.f, vp])
    simp -implicitDefEqProofs only [frame_Rows_c1_c1, ok_box, simpS, Nat.reduceAdd, load_at hg3]
    generalize m2.alloc (.cells T_api_Band 0 [.int .i64 b.c, .int .i64 b.f, vp]) = m3 at *
    have hS3 := hS1.trans hS2
    have hnx' : m.next < m'.next := Nat.lt_of_lt_of_le hnx0 hch.next
    have hg' := (hS3.get hnx').trans hg
    have hbm3 : m3.base ≤ m.next := by rw [hS3.base, hch.base]; exact hbn1
    have i2 := aIdxS_at (size := 1) (i := m.next) (o := 0) (n := c.length) (e := 1) (kd := .i64) h1
    have htl : ((c.take i).map BandD.c).length = i := by simp; omega
    have hset := set_fill (fun x => AV.int .i64 x) (.int .i64 0) ((c.take i).map BandD.c) b.c (c.length - (i + 1))
    rw [show c.length - (i + 1) + 1 = c.length - i by omega, htl] at hset
    have htk : (c.take i).map BandD.c ++ [b.c] = (c.take (i + 1)).map BandD.c := by rw [List.take_add_one, hb]; simp
    rw [htk] at hset
    have e2 : IntKind.i64.wrap ((i : Int) + 1) = ((i + 1 : Nat) : Int) := by rw [IntWalk.i64_in _ (by omega)]; omega
    have hst2 := fun (k : Nat → AV → M AV) => ok_store (k := k) (Q := Q) (o := i) (v := .int .i64 b.c) hg' hbm3 (Nat.zero_le _) (by simp; omega) (by simp)
    simp -implicitDefEqProofs only [i2, simpS, Nat.reduceAdd, Nat.mul_one, hst2, hset, e2]
    refine ih (k - 1) _ _ (by omega) ⟨i + 1, by omega, rfl, by simp, ?_⟩
    exact (hch.trans hS3 (fun _ _ h => h.elim)).trans (Chg.set _ _ _) (fun _ _ h => h)
  · obtain rfl : i = c.length := by omega
    have d1 : ¬ (c.length : Int) < (c.length : Int) := by omega
    simp -implicitDefEqProofs only [List.getD_cons_zero, List.getD_cons_succ, frame_mapped_api_Band_int_l0, simpS, Nat.reduceAdd, d1, decide_false, Bool.false_eq_true, if_false]
    rw [List.take_length, Nat.sub_self, List.replicate_zero, List.append_nil] at hg
    refine hq m' _ hS ?_
    have := slR_own (K := fun b => m.next ≤ b ∧ b < m'.next) (R := RInt .i64) (f := fun x => .int .i64 x) (m := m') (i := m.next) (ty := T_int) (fz := 0) (e := 1) (l := c.map BandD.c) ⟨Nat.le_refl _, Nat.lt_of_lt_of_le hnx0 hch.next⟩ hg (fun x hx => ⟨rfl, ?_⟩)
    · rw [List.length_map] at this
      exact this
    · obtain ⟨b, hb, rfl⟩ := List.mem_map.1 hx
      obtain ⟨k, hk⟩ := List.mem_iff_getElem?.1 hb
      obtain ⟨-, -, -, -, -, -, ⟨vp, -, hw1, -, -⟩, -, -⟩ := hv.at hk
      exact hw1

theorem rows_c1_ok {K : Nat → Prop} {c : List BandD} {vb : AV} {m : Mem} {Q : AV → Mem → Prop} (hv : BandsR K m vb c) (hK : ∀ b, K b → b < m.next) (hbn : m.base ≤ m.next) (hlen : c.length ≤ 1000)
    (hq : ∀ m' u, Same m m' → IntsR (fun b => m.next ≤ b ∧ b < m'.next) m' u (c.map BandD.c) → Q u m') : Ok (R fn_frame_Rows_c1 [.agg [vb]]) m Q := by
  refine Ok.call (fun k => frame_Rows_c1_eq rfl k _) ?_
  have hS1 := Same.alloc m (.cells T_api_Chan 0 [vb])
  have hg := Mem.get_alloc m (.cells T_api_Chan 0 [vb])
  simp -implicitDefEqProofs only [frame_Rows_c1, ok_box, simpS, Nat.reduceAdd, load_at hg]
  generalize m.alloc (.cells T_api_Chan 0 [vb]) = m1 at *
  refine Ok.bnd (bandRow_ok (hv.keep (fun b hb => hS1.get (hK b hb))) (fun b hb => Nat.lt_of_lt_of_le (hK b hb) hS1.next) (hS1.bn hbn) hlen fun m2 u hS2 hu => ?_)
  simp -implicitDefEqProofs only [simpS, Nat.reduceAdd]
  exact hq m2 u (hS1.trans hS2) (hu.mono fun b hb => ⟨Nat.le_trans hS1.next hb.1, hb.2⟩)

theorem rows_ok {K : Nat → Prop} {f : FrameD} {v : AV} {m : Mem} {Q : AV → Mem → Prop} (hv : ChansR K m v f.chans) (hK : ∀ b, K b → b < m.next) (hbn : m.base ≤ m.next) (hlen : f.chans.length ≤ 1000) (hlen2 : ∀ c ∈ f.chans, c.length ≤ 1000)
    (hq : ∀ m' u, Same m m' → RowsR (fun b => m.next ≤ b ∧ b < m'.next) m' u (f.chans.map fun c => c.map BandD.c) → Q u m') : Ok (R fn_frame_Rows [.agg (frameC f v)]) m Q := by
  refine Ok.call (fun k => frame_Rows_eq rfl k _) ?_
  have hS0 := Same.alloc m (.cells T_api_Frame 0 (frameC f v))
  have hg := Mem.get_alloc m (.cells T_api_Frame 0 (frameC f v))
  simp -implicitDefEqProofs only [frame_Rows, ok_box]
  generalize m.alloc (.cells T_api_Frame 0 (frameC f v)) = m0 at *
  unfold frameC at hg
  simp -implicitDefEqProofs only [simpS, Nat.reduceAdd, load_at hg]
  clear hg
  have hv0 := hv.keep (m' := m0) (fun b hb => hS0.get (hK b hb))
  refine Ok.bnd (Ok.call (fun k => frame_mapped_api_Chan_sl_int_eq rfl k _ _) ?_)
  simp -implicitDefEqProofs only [frame_mapped_api_Chan_sl_int, simpS, Nat.reduceAdd, hv0.len, ok_mkSlice1 (show 24 * f.chans.length ≤ 35184372088832 by omega)]
  have hS1 := Same.alloc m0 (.cells T_sl_int 0 (List.replicate f.chans.length .nilslice))
  have hg1 := Mem.get_alloc m0 (.cells T_sl_int 0 (List.replicate f.chans.length .nilslice))
  have hnx1 : m0.next < (m0.alloc (.cells T_sl_int 0 (List.replicate f.chans.length .nilslice))).next := Nat.lt_succ_self _
  generalize m0.alloc (.cells T_sl_int 0 (List.replicate f.chans.length .nilslice)) = m1 at *
  have hbn1 : m1.base ≤ m0.next := by rw [hS1.base]; exact hS0.bn hbn
  refine Ok.loop (fun k z m' => ∃ (i : Nat) (us : List AV), k + i = f.chans.length ∧ z = [.func (.func fn_frame_Rows_c1) [] [], .slice m0.next 0 f.chans.length 1, v, .int .i64 f.chans.length, .int .i64 i] ∧ us.length = i ∧ (∀ (k : Nat) u x, us[k]? = some u → f.chans[k]? = some x → IntsR (fun b => m0.next < b ∧ b < m'.next) m' u (x.map BandD.c)) ∧ m'.get m0.next = .cells T_sl_int 0 (us.map (fun x => x) ++ List.replicate (f.chans.length - i) .nilslice) ∧ Chg (fun b => b = m0.next) m1 m') ?_ (k := f.chans.length) ⟨0, [], rfl, rfl, rfl, fun k u x h => by simp at h, hg1, Chg.refl _ _⟩
  clear hg1
  rintro k z m' rec ⟨i, us, hk, rfl, hul, hus, hg, hch⟩ ih
  have hS := hS1.own (Nat.le_refl _) hch
  have hv' := hv0.keep (m' := m') (fun b hb => hS.get (Nat.lt_of_lt_of_le (hK b hb) hS0.next))
  by_cases h1 : i < f.chans.length
  · have d1 : (i : Int) < (f.chans.length : Int) := by omega
    obtain ⟨c, hc⟩ : ∃ c, f.chans[i]? = some c := ⟨f.chans[i], List.getElem?_eq_getElem h1⟩
    obtain ⟨b', o, ce, hix, hKb, hl3, hR, hl, hld⟩ := hv'.at hc
    obtain ⟨vb, rfl, hb⟩ := hR
    have hbm := hS.bn (hS0.bn hbn)
    have hst := fun (k : Nat → AV → M AV) (Q : AV → Mem → Prop) => ok_storeAll (i := m'.next) (k := k) (Q := Q) (vs := [vb]) (n := 1) (Mem.get_alloc m' (.cells T_api_Chan 0 [.nilslice])) hbm rfl rfl (by simp [hb.one])
    have hg1 := Mem.get_alloc m' (.cells T_api_Chan 0 [vb])
    have hS2 := Same.alloc m' (.cells T_api_Chan 0 [vb])
    simp -implicitDefEqProofs only [List.getD_cons_zero, List.getD_cons_succ, frame_mapped_api_Chan_sl_int_l0, simpS, Nat.reduceAdd, d1, decide_true, if_true, hix, hl, ok_alloc, hst, Mem.alloc_set, load_at' hg1, List.length_cons, List.length_nil, Nat.reduceLeDiff, List.drop_zero, List.take_succ_cons, List.take_zero]
    generalize m'.alloc (.cells T_api_Chan 0 [vb]) = m2 at *
    show Ok (fun n => bnd (fcall Tryz.prog ext1 n fn_frame_Rows_c1 [.agg [vb]]) _) m2 _
    have hKm2 : ∀ b, K b → b < m2.next := fun b hb => Nat.lt_of_lt_of_le (hK b hb) ((hS0.trans hS).trans hS2).next
    refine Ok.bnd (rows_c1_ok (hb.keep (fun b hb => hS2.get (Nat.lt_of_lt_of_le (hK b hb) (hS0.trans hS).next))) hKm2 (hS2.bn hbm) (hlen2 c (List.mem_of_getElem? hc)) fun m3 u hS3 hu => ?_)
    have hS23 := hS2.trans hS3
    have hnx' : m0.next < m'.next := Nat.lt_of_lt_of_le hnx1 hch.next
    have hg' := (hS23.get hnx').trans hg
    have hbm3 : m3.base ≤ m0.next := by rw [hS23.base, hch.base]; exact hbn1
    have i2 := aIdxS_at (size := 1) (i := m0.next) (o := 0) (n := f.chans.length) (e := 1) (kd := .i64) h1
    have hset := set_fill (fun x : AV => x) .nilslice us u (f.chans.length - (i + 1))
    rw [show f.chans.length - (i + 1) + 1 = f.chans.length - i by omega, hul] at hset
    have e2 : IntKind.i64.wrap ((i : Int) + 1) = ((i + 1 : Nat) : Int) := by rw [IntWalk.i64_in _ (by omega)]; omega
    have hst2 := fun (k : Nat → AV → M AV) (Q : AV → Mem → Prop) => ok_store (k := k) (Q := Q) (o := i) (v := u) hg' hbm3 (Nat.zero_le _) (by simp; omega) hu.one
    simp -implicitDefEqProofs only [i2, simpS, Nat.reduceAdd, Nat.mul_one, hst2, hset, e2]
    refine ih (k - 1) _ _ (by omega) ⟨i + 1, us ++ [u], by omega, rfl, by simp [hul], fun k w x hw hx => ?_, by simp, ?_⟩
    · have hn2 : m'.next ≤ m2.next := hS2.next
      have hn3 : m2.next ≤ m3.next := hS3.next
      rcases Nat.lt_or_ge k i with h | h
      · rw [List.getElem?_append_left (by omega)] at hw
        have h3 := ((hus k w x hw hx).keep (m' := m3) (fun b hb => hS23.get hb.2)).keep (m' := m3.set m0.next (.cells T_sl_int 0 ((us ++ [u]).map (fun x => x) ++ List.replicate (f.chans.length - (i + 1)) .nilslice))) (fun b hb => get_set_ne (by omega))
        exact h3.mono fun b hb => ⟨hb.1, Nat.lt_of_lt_of_le hb.2 (Nat.le_trans hn2 hn3)⟩
      · have hki : k = i := by
          have := (List.getElem?_eq_some_iff.1 hw).1
          simp at this; omega
        subst hki
        rw [List.getElem?_append_right (by omega), hul, Nat.sub_self] at hw
        cases hw
        rw [hc] at hx; cases hx
        have h3 := hu.keep (m' := m3.set m0.next (.cells T_sl_int 0 ((us ++ [u]).map (fun x => x) ++ List.replicate (f.chans.length - (k + 1)) .nilslice))) (fun b hb => get_set_ne (by omega))
        exact h3.mono fun b hb => ⟨by omega, hb.2⟩
    · exact (hch.trans hS23 (fun _ _ h => h.elim)).trans (Chg.set _ _ _) (fun _ _ h => h)
  · obtain rfl : i = f.chans.length := by omega
    have d1 : ¬ (f.chans.length : Int) < (f.chans.length : Int) := by omega
    simp -implicitDefEqProofs only [List.getD_cons_zero, List.getD_cons_succ, frame_mapped_api_Chan_sl_int_l0, simpS, Nat.reduceAdd, d1, decide_false, Bool.false_eq_true, if_false]
    rw [Nat.sub_self, List.replicate_zero, List.append_nil, List.map_id'] at hg
    refine hq m' _ (hS0.trans hS) ?_
    have := slR_own2 (K := fun b => m.next ≤ b ∧ b < m'.next) (R := RSl (IntsR fun b => m.next ≤ b ∧ b < m'.next)) (e := 1) (l := f.chans.map fun c => c.map BandD.c) ⟨hS0.next, Nat.lt_of_lt_of_le hnx1 hch.next⟩ hg (by rw [hul, List.length_map]) (fun k u x hu hx => ?_)
    · rw [List.length_map] at this
      exact this
    · rw [List.getElem?_map, Option.map_eq_some_iff] at hx
      obtain ⟨c, hc, rfl⟩ := hx
      exact ⟨u, rfl, (hus k u c hu hc).mono fun b hb => ⟨by have := hS0.next; omega, hb.2⟩⟩
end SplA

/- What strings.Builder does. -/
namespace SplA
open Go.Proofs.YtooogfnmhfocjaaGreatDoor.Spl Go Go.Proofs
set_option maxRecDepth 100000
set_option linter.unusedVariables false
set_option linter.unusedSimpArgs false

/-- May a builder lie there? -/
structure Lies (T o : Nat) (cs : List AV) : Prop where
  pos : 0 < Tryz.prog.cellsOf T
  size : Tryz.prog.cellsOf T ≤ cs.length
  lies : rowAt Tryz.prog (sameLayout Tryz.prog Tryz.prog.depth · T_strings_Builder) Tryz.prog.depth T 1 o 1 = true
theorem noEsc_ok {x : AV} {m : Mem} {Q : AV → Mem → Prop} (hq : Q x m) : Ok (R fn_internal_abi_NoEscape [x]) m Q :=
  Ok.told (k := same1) rfl rfl hq

theorem copyCheck_ok {i o T : Nat} {cs : List AV} {a : AV} {m : Mem} {Q : AV → Mem → Prop} (h : m.get i = .cells T 0 cs) (hb : m.base ≤ i) (ho : o < cs.length) (ha : cs[o]? = some a) (haa : a = .nilptr ∨ a = .ptr i o) (hl : Lies T o cs)
    (hq : Q (.tup []) (m.set i (.cells T 0 (cs.set o (.ptr i o))))) : Ok (R fn_strings_Builder_copyCheck [.ptr i o]) m Q := by
  refine Ok.call (fun n => strings_Builder_copyCheck_eq rfl n _) ?_
  rcases haa with rfl | rfl
  · simp -implicitDefEqProofs only [strings_Builder_copyCheck, simpS, Nat.reduceAdd, load_at h, ha]
    rw [ok_op]
    refine ⟨.ptr i o, m, by simp [toUnsafe, Mem.cells?, h, ho], ?_⟩
    refine Ok.bnd (noEsc_ok ?_)
    rw [ok_op]
    refine ⟨.ptr i o, m, ?_, ?_⟩
    · unfold fromUnsafe
      simp -implicitDefEqProofs only [h]
      rw [if_pos ⟨hb, hl.pos, hl.size, hl.lies⟩]
    · simp -implicitDefEqProofs (disch := first | assumption | omega | (simp; done) | (simp; omega)) only [simpS, Nat.reduceAdd, ok_store h hb]
      exact hq
  · have e : cs.set o (.ptr i o) = cs := by
      apply List.ext_getElem?
      intro k
      rw [List.getElem?_set]
      split
      · rename_i e; subst e; simp [ho, ha]
        obtain ⟨_, h'⟩ := List.getElem?_eq_some_iff.1 ha
        exact h'.symm
      · rfl
    rw [e, m.set_self i h] at hq
    simp -implicitDefEqProofs only [strings_Builder_copyCheck, simpS, Nat.reduceAdd, load_at h, ha, aBin_neqSame]
    exact hq

/-- A builder of those octets, at a place of an object. -/
structure BAt (m : Mem) (i o T : Nat) (cs : List AV) (a bv : AV) (L : List UInt8) : Prop where
  get : m.get i = .cells T 0 cs
  base : m.base ≤ i
  next : i < m.next
  at0 : cs[o]? = some a
  self : a = .nilptr ∨ a = .ptr i o
  at1 : cs[o + 1]? = some bv
  buf : ∃ fz, Buf T_uint8 fz m bv (u8s L)
  ne : ¬ own bv i
  lies : Lies T o cs
theorem BAt.o {m : Mem} {i o T : Nat} {cs : List AV} {a buf : AV} {L : List UInt8} (h : BAt m i o T cs a buf L) : o + 1 < cs.length := by
  obtain ⟨h, _⟩ := List.getElem?_eq_some_iff.1 h.at1
  exact h

/-- A builder's store of its slice. -/
theorem wr_ok {i o T : Nat} {cs X : List AV} {a buf x : AV} {L LX : List UInt8} {m : Mem} {Q : AV → Mem → Prop} {k : Nat → AV → M AV} (h : BAt m i o T cs a buf L) (hX : X = u8s LX) (hn : m.base ≤ m.next)
    (hx : elems 1 X.length x m = some X ∧ count x = some X.length) (hlen : L.length + LX.length ≤ 2 ^ 45)
    (hq : ∀ m' buf', Chg (fun b => b = i ∨ own buf b) m m' → BAt m' i o T (cs.set (o + 1) buf') a buf' (L ++ LX) → (∀ j, own buf' j → own buf j ∨ m.next ≤ j) → m'.base ≤ m'.next → Ok (fun n => k n .undef) m' Q) :
    Ok (fun n => bnd (Go.Proofs.YtooogfnmhfocjaaGreatDoor.Spl.append T_uint8 1 1 buf x) fun v14 => lp (aNil (.ptr i o)) fun v15 => lp (aOff 1 v15) fun v16 => bnd (store none v16 v14) (k n)) m Q := by
  subst hX
  obtain ⟨fz, hB⟩ := h.buf
  refine ok_append hB hn hx (u8s_one _) (by simpa using hlen) fun m1 v1 hc ⟨fz', hf, hB1⟩ hown hown' hn1 => ?_
  have hne1 : ¬ own v1 i := fun hi => by
    rcases hown i hi with h1 | h1
    · exact h.ne h1
    · have := h.next; omega
  have hg1 : m1.get i = .cells T 0 cs := (hc.get i h.next h.ne).trans h.get
  have hb1 : m1.base ≤ i := by rw [hc.base]; exact h.base
  have ho := h.o
  have hv := hB1.one
  simp -implicitDefEqProofs (disch := first | assumption | omega | (simp; done) | (simp; omega)) only [simpS, Nat.reduceAdd, ok_store hg1 hb1]
  have hc2 : Chg (fun b => b = i ∨ own buf b) m (m1.set i (.cells T 0 (cs.set (o + 1) v1))) :=
    (hc.mono fun _ _ h => .inr h).trans (Chg.set _ _ _) (fun b _ h => .inl h)
  refine hq _ v1 hc2 ⟨by simp, hb1, Nat.lt_of_lt_of_le h.next hc.next, ?_, h.self, by simp [ho], ⟨fz', ?_⟩, hne1, ⟨h.lies.pos, by simpa using h.lies.size, h.lies.lies⟩⟩ hown hn1
  · rw [List.getElem?_set_ne (by omega)]; exact h.at0
  · rw [u8s_append]
    exact hB1.chg (Chg.set _ _ _) (fun b hb e => hne1 (e ▸ hb))

theorem writeByte_ok {i o T : Nat} {cs : List AV} {a buf : AV} {L : List UInt8} {b : UInt8} {m : Mem} {Q : AV → Mem → Prop} (h : BAt m i o T cs a buf L) (hn : m.base ≤ m.next) (hlen : L.length + 1 ≤ 2 ^ 45)
    (hq : ∀ m' buf', Chg (fun b => b = i ∨ own buf b) m m' → BAt m' i o T ((cs.set o (.ptr i o)).set (o + 1) buf') (.ptr i o) buf' (L ++ [b]) → (∀ j, own buf' j → own buf j ∨ m.next ≤ j) → m'.base ≤ m'.next → Q .nilface m') :
    Ok (R fn_strings_Builder_WriteByte [.ptr i o, .int .u8 b.toNat]) m Q := by
  refine Ok.call (fun n => strings_Builder_WriteByte_eq rfl n _ _) ?_
  have ho := h.o
  refine Ok.bnd (copyCheck_ok h.get h.base (by omega) h.at0 h.self h.lies ?_)
  have hc0 : Chg (fun b => b = i) m (m.set i (.cells T 0 (cs.set o (.ptr i o)))) := Chg.set _ _ _
  obtain ⟨fz, hB⟩ := h.buf
  have h1 : BAt (m.set i (.cells T 0 (cs.set o (.ptr i o)))) i o T (cs.set o (.ptr i o)) (.ptr i o) buf L :=
    ⟨by simp, h.base, h.next, List.getElem?_set_self (by omega), .inr rfl, by rw [List.getElem?_set_ne (by omega)]; exact h.at1, ⟨fz, hB.chg hc0 (fun b hb e => h.ne (e ▸ hb))⟩, h.ne, ⟨h.lies.pos, by simpa using h.lies.size, h.lies.lies⟩⟩
  generalize m.set i (.cells T 0 (cs.set o (.ptr i o))) = m1 at *
  have hn1 : m1.base ≤ m1.next := by have := h1.base; have := h1.next; omega
  have e1 := aFill1 (.int .u8 0) (.int .u8 b.toNat) (one_int _ _)
  simp -implicitDefEqProofs only [simpS, Nat.reduceAdd, load_at h1.get, h1.at1, e1, ok_allocS]
  have hca : Chg (fun _ => False) m1 (m1.alloc (.cells T_uint8 0 [.int .u8 b.toNat])) := Chg.alloc _ _ _
  have h2 : BAt (m1.alloc (.cells T_uint8 0 [.int .u8 b.toNat])) i o T (cs.set o (.ptr i o)) (.ptr i o) buf L := by
    obtain ⟨fz, hB⟩ := h1.buf
    exact ⟨(hca.get i h1.next id).trans h1.get, h1.base, Nat.lt_succ_of_lt h1.next, h1.at0, h1.self, h1.at1, ⟨fz, hB.chg hca (fun _ _ => id)⟩, h1.ne, h1.lies⟩
  refine wr_ok (LX := [b]) h2 rfl (Nat.le_succ_of_le hn1) (elems_new T_uint8 1 [.int .u8 b.toNat] m1) (by simpa using hlen) fun m' buf' hc hB' hown hn' => ?_
  simp -implicitDefEqProofs only [simpS, Nat.reduceAdd]
  refine hq m' buf' ?_ hB' (fun j hj => ?_) hn'
  · refine ((hc0.mono fun b _ h => .inl h).trans (hca.mono fun _ _ h => h.elim) (fun b _ h => h)).trans hc ?_
    exact fun b _ h => h
  · rcases hown j hj with h3 | h3
    · exact .inl h3
    · refine .inr (Nat.le_trans ?_ h3)
      exact Nat.le_succ_of_le hc0.next

theorem writeString_ok {i o T : Nat} {cs : List AV} {a buf : AV} {L X : List UInt8} {m : Mem} {Q : AV → Mem → Prop} (h : BAt m i o T cs a buf L) (hn : m.base ≤ m.next) (hlen : L.length + X.length ≤ 2 ^ 45)
    (hq : ∀ m' buf', Chg (fun b => b = i ∨ own buf b) m m' → BAt m' i o T ((cs.set o (.ptr i o)).set (o + 1) buf') (.ptr i o) buf' (L ++ X) → (∀ j, own buf' j → own buf j ∨ m.next ≤ j) → m'.base ≤ m'.next → Q (.tup [.int .i64 X.length, .nilface]) m') :
    Ok (R fn_strings_Builder_WriteString [.ptr i o, .str (bs X)]) m Q := by
  refine Ok.call (fun n => strings_Builder_WriteString_eq rfl n _ _) ?_
  have ho := h.o
  refine Ok.bnd (copyCheck_ok h.get h.base (by omega) h.at0 h.self h.lies ?_)
  have hc0 : Chg (fun b => b = i) m (m.set i (.cells T 0 (cs.set o (.ptr i o)))) := Chg.set _ _ _
  obtain ⟨fz, hB⟩ := h.buf
  have h1 : BAt (m.set i (.cells T 0 (cs.set o (.ptr i o)))) i o T (cs.set o (.ptr i o)) (.ptr i o) buf L :=
    ⟨by simp, h.base, h.next, List.getElem?_set_self (by omega), .inr rfl, by rw [List.getElem?_set_ne (by omega)]; exact h.at1, ⟨fz, hB.chg hc0 (fun b hb e => h.ne (e ▸ hb))⟩, h.ne, ⟨h.lies.pos, by simpa using h.lies.size, h.lies.lies⟩⟩
  generalize m.set i (.cells T 0 (cs.set o (.ptr i o))) = m1 at *
  have hn1 : m1.base ≤ m1.next := by have := h1.base; have := h1.next; omega
  simp -implicitDefEqProofs only [simpS, Nat.reduceAdd, load_at h1.get, h1.at1]
  refine wr_ok (LX := X) h1 rfl hn1 (elems_str X m1) (by simpa using hlen) fun m' buf' hc hB' hown hn' => ?_
  simp -implicitDefEqProofs only [simpS, Nat.reduceAdd]
  refine hq m' buf' ?_ hB' (fun j hj => ?_) hn'
  · exact (hc0.mono fun b _ h => .inl h).trans hc (fun b _ h => h)
  · rcases hown j hj with h3 | h3
    · exact .inl h3
    · exact .inr (Nat.le_trans hc0.next h3)

theorem bldString_ok {i o T : Nat} {cs : List AV} {a buf : AV} {L : List UInt8} {m : Mem} {Q : AV → Mem → Prop} (h : BAt m i o T cs a buf L) (hlen : L.length ≤ 2 ^ 45)
    (hq : ∀ m', Chg (own buf) m m' → BAt m' i o T cs a buf L → m'.next = m.next → Q (.str (bs L)) m') : Ok (R fn_strings_Builder_String [.ptr i o]) m Q := by
  refine Ok.call (fun n => strings_Builder_String_eq rfl n _) ?_
  have ho := h.o
  obtain ⟨fz, hB⟩ := h.buf
  have s1 := fun (k : M AV) => same_at (o := o + 1) h.get h.at1 hB.eqb k
  simp -implicitDefEqProofs only [strings_Builder_String, simpS, Nat.reduceAdd, load_at h.get, h.at1]
  rcases hB with ⟨rfl, hL⟩ | ⟨j, rfl, hL, hg, hfz, hb, hnx⟩
  · have hL' : L = [] := by simpa [u8s] using hL
    subst hL'
    rw [ok_op]
    refine ⟨.nilptr, m, rfl, ?_⟩
    simp -implicitDefEqProofs only [simpS, Nat.reduceAdd, load_at h.get, h.at1, s1]
    rw [ok_op]
    refine ⟨.str (bs []), m, rfl, ?_⟩
    simp -implicitDefEqProofs only [simpS, Nat.reduceAdd]
    exact hq m (Chg.refl _ _) h rfl
  · have hL' : 0 < L.length := by
      rcases L with _ | ⟨b, L⟩
      · exact absurd rfl hL
      · simp
    simp -implicitDefEqProofs only [u8s_length] at s1
    rw [ok_op]
    refine ⟨.ptr j 0, m, by simp [sliceData, hL'], ?_⟩
    simp -implicitDefEqProofs only [simpS, Nat.reduceAdd, load_at h.get, h.at1, s1, u8s_length]
    rw [ok_op]
    have hg' := hg
    refine ⟨.str (bs L), m.set j (.cells T_uint8 (max fz L.length) (u8s L)), ?_, ?_⟩
    · have h3 : IntKind.i64.max = 9223372036854775807 := by decide
      unfold unsafeStr
      simp -implicitDefEqProofs only [hg]
      rw [if_neg (by omega), if_pos ⟨hb, trivial, hfz, by omega, by omega, trivial, by simp⟩]
      have : (u8s L).take (L.length : Int).toNat = u8s L := by rw [List.take_of_length_le (by simp)]
      rw [this, ofByteCells_u8s]
      simp [bs]
    · simp -implicitDefEqProofs only [simpS, Nat.reduceAdd]
      have hc : Chg (own (.slice j 0 (u8s L).length 1)) m (m.set j (.cells T_uint8 (max fz L.length) (u8s L))) := Chg.set _ _ _
      refine hq _ hc ⟨(hc.get i h.next h.ne).trans h.get, h.base, h.next, h.at0, h.self, h.at1, ⟨max fz L.length, .inr ⟨j, rfl, hL, by simp, by simp at hfz ⊢; omega, hb, hnx⟩⟩, h.ne, h.lies⟩ rfl
end SplA

/- What the functions of the coders do. -/
namespace SplA
open Go.Proofs.YtooogfnmhfocjaaGreatDoor.Spl Go Go.Proofs
set_option maxRecDepth 100000
set_option linter.unusedVariables false
set_option linter.unusedSimpArgs false

/-- What a coder holds. -/
structure Cst where
  s : Bool
  r : Nat
  O : List UInt8
  low : Nat
  last : Nat
  full : Nat
  /-- the type of the object it lies in, and what else is in it -/
  T : Nat
  rest : List AV
def codCells (c : Cst) (a buf : AV) : List AV := .bool c.s :: .int .u64 c.r :: a :: buf :: .int .u64 c.low :: .int .i64 c.last :: .int .i64 c.full :: c.rest
abbrev CodAt (m : Mem) (i : Nat) (c : Cst) (a buf : AV) : Prop := BAt m i 2 c.T (codCells c a buf) a buf c.O
theorem cod_lies (c : Cst) (a buf : AV) (hT : c.T = T_code_writer) (hr : c.rest.length = 1) : Lies c.T 2 (codCells c a buf) where
  pos := by rw [hT, show Tryz.prog.cellsOf T_code_writer = 7 + 1 by kernel_rfl]; decide
  size := by rw [hT, show Tryz.prog.cellsOf T_code_writer = 7 + 1 by kernel_rfl]; simp [codCells, hr]
  lies := by rw [hT]; kernel_rfl
theorem bld_lies (a buf : AV) : Lies T_strings_Builder 0 [a, buf] where
  pos := by rw [show Tryz.prog.cellsOf T_strings_Builder = 2 by kernel_rfl]; decide
  size := by rw [show Tryz.prog.cellsOf T_strings_Builder = 2 by kernel_rfl]; exact Nat.le_refl _
  lies := by kernel_rfl
/-- A coder, of which other things are changed. -/
theorem CodAt.set {m : Mem} {i : Nat} {c c' : Cst} {a buf : AV} (h : CodAt m i c a buf) (hO : c'.O = c.O) (hT : c'.T = c.T := by rfl) (hr : c'.rest = c.rest := by rfl) : CodAt (m.set i (.cells c'.T 0 (codCells c' a buf))) i c' a buf := by
  obtain ⟨fz, hB⟩ := h.buf
  have hl := h.lies
  exact ⟨by simp, h.base, h.next, rfl, h.self, rfl, ⟨fz, by rw [hO]; exact hB.chg (Chg.set _ _ _) (fun b hb e => h.ne (e ▸ hb))⟩, h.ne, ⟨by rw [hT]; exact hl.pos, by have := hl.size; simp -implicitDefEqProofs only [codCells, List.length_cons, hT, hr] at this ⊢; exact this, by rw [hT]; exact hl.lies⟩⟩
theorem CodAt.chg {F : Nat → Prop} {m m' : Mem} {i : Nat} {c : Cst} {a buf : AV} (h : CodAt m i c a buf) (hc : Chg F m m') (hi : ¬ F i) (hF : ∀ b, own buf b → ¬ F b) : CodAt m' i c a buf := by
  obtain ⟨fz, hB⟩ := h.buf
  exact ⟨(hc.get i h.next hi).trans h.get, by rw [hc.base]; exact h.base, Nat.lt_of_lt_of_le h.next hc.next, h.at0, h.self, h.at1, ⟨fz, hB.chg hc hF⟩, h.ne, h.lies⟩

/-- From one coder's memory to another's. -/
structure Fr (i : Nat) (buf : AV) (m : Mem) (buf' : AV) (m' : Mem) : Prop where
  chg : Chg (fun b => b = i ∨ own buf b) m m'
  own : ∀ j, own buf' j → own buf j ∨ m.next ≤ j
theorem Fr.refl (i : Nat) (buf : AV) (m : Mem) : Fr i buf m buf m := ⟨Chg.refl _ _, fun _ h => .inl h⟩
theorem Fr.set {i : Nat} {buf : AV} {m : Mem} (o : AObj) : Fr i buf m buf (m.set i o) := ⟨(Chg.set _ _ _).mono fun _ _ h => .inl h, fun _ h => .inl h⟩
theorem Fr.trans {i : Nat} {b0 b1 b2 : AV} {m0 m1 m2 : Mem} (h : Fr i b0 m0 b1 m1) (g : Fr i b1 m1 b2 m2) : Fr i b0 m0 b2 m2 where
  chg := h.chg.trans g.chg (fun j hj hG => by
    rcases hG with hG | hG
    · exact .inl hG
    · rcases h.own j hG with h1 | h1
      · exact .inr h1
      · omega)
  own := fun j hj => by
    rcases g.own j hj with h1 | h1
    · exact h.own j h1
    · exact .inr (Nat.le_trans h.chg.next h1)

def lastL : Nat → List UInt8
  | 0 => []
  | b + 1 => [UInt8.ofNat b]
theorem lastL_length (n : Nat) : (lastL n).length ≤ 1 := by cases n <;> simp [lastL]
/-- What settle leaves. -/
def Cst.settle (k : Nat) (c : Cst) : Cst := { c with O := c.O ++ (if c.last = 0 then [] else [UInt8.ofNat (c.last - 1 + k)]) ++ List.replicate c.full (UInt8.ofNat (255 + k)), last := 0, full := 0 }

theorem u8_ofNat (n : Nat) : AV.int .u8 (IntKind.u8.wrap (n : Int)) = .int .u8 (UInt8.ofNat n).toNat := by
  rw [toNat_ofNat]
  congr 1

theorem settle_loop {i k : Nat} {Q : AV → Mem → Prop} (hk : k ≤ 1) {m0 : Mem} {buf0 : AV} {c0 : Cst} (hlen : c0.O.length + c0.full ≤ 2 ^ 40)
    (hq : ∀ m' a' buf', CodAt m' i { c0 with O := c0.O ++ List.replicate c0.full (UInt8.ofNat (255 + k)), last := 0, full := 0 } a' buf' → Fr i buf0 m0 buf' m' → Q (.tup []) m')
    {a0 : AV} (h0 : CodAt m0 i c0 a0 buf0) :
    Ok (fun n => loopN (fun r l => rc_Coder_settle_l0 (fcall Tryz.prog ext1 n) n r (l.getD 0 .undef) (l.getD 1 .undef)) n [.ptr i 0, .int .i64 k]) m0 Q := by
  refine Ok.loop (fun f l m => l = [.ptr i 0, .int .i64 k] ∧ ∃ d a buf, f + d = c0.full ∧ CodAt m i { c0 with O := c0.O ++ List.replicate d (UInt8.ofNat (255 + k)), full := f } a buf ∧ Fr i buf0 m0 buf m) ?_ (k := c0.full) ⟨rfl, 0, a0, buf0, rfl, by simpa using h0, Fr.refl _ _ _⟩
  rintro f l m rec ⟨rfl, d, a, buf, hd, hc, hF⟩ ih
  have hg := hc.get
  have hn : m.base ≤ m.next := by have := hc.base; have := hc.next; omega
  simp -implicitDefEqProofs only [codCells] at hg
  simp -implicitDefEqProofs only [List.getD_cons_zero, List.getD_cons_succ, rc_Coder_settle_l0, simpS, Nat.reduceAdd, load_at hg]
  cases f with
  | zero =>
    have e : d = c0.full := by omega
    subst e
    have hb := hc.base
    have hset := hc.set (c' := { c0 with O := c0.O ++ List.replicate c0.full (UInt8.ofNat (255 + k)), last := 0, full := 0 }) rfl
    simp -implicitDefEqProofs (disch := first | assumption | omega | (simp; done) | (simp; omega)) only [simpS, Nat.reduceAdd, ok_store hg hb, Int.natCast_zero, Int.lt_irrefl, decide_false, Bool.false_eq_true, if_false]
    exact hq _ a buf hset (hF.trans (Fr.set _))
  | succ f =>
    have hf : (0 : Int) < ((f + 1 : Nat) : Int) := by omega
    have e1 : IntKind.i64.wrap (255 + (k : Int)) = ((255 + k : Nat) : Int) := by rw [IntWalk.i64_in _ (by omega)]; omega
    simp -implicitDefEqProofs only [hf, decide_true, if_true, simpS, Nat.reduceAdd, e1, u8_ofNat]
    refine Ok.bnd (writeByte_ok hc hn (by simp; omega) fun m1 buf1 hch hc1 hown hn1 => ?_)
    have hc1' : CodAt m1 i { c0 with O := c0.O ++ List.replicate d (UInt8.ofNat (255 + k)) ++ [UInt8.ofNat (255 + k)], full := f + 1 } (.ptr i 2) buf1 := hc1
    have hg1 := hc1'.get
    have hb1 := hc1'.base
    simp -implicitDefEqProofs only [codCells] at hg1
    have e2 : IntKind.i64.wrap (((f + 1 : Nat) : Int) - 1) = (f : Int) := by rw [IntWalk.i64_in _ (by omega)]; omega
    simp -implicitDefEqProofs (disch := first | assumption | omega | (simp; done) | (simp; omega)) only [simpS, Nat.reduceAdd, load_at hg1, e2, ok_store hg1 hb1]
    have hset := hc1'.set (c' := { c0 with O := c0.O ++ List.replicate (d + 1) (UInt8.ofNat (255 + k)), full := f }) (by simp [List.replicate_succ'])
    exact ih f _ _ (Nat.lt_succ_self _) ⟨rfl, d + 1, .ptr i 2, buf1, by omega, hset, (hF.trans ⟨hch, hown⟩).trans (Fr.set _)⟩

theorem settle_ok {i k : Nat} {c : Cst} {a buf : AV} {m : Mem} {Q : AV → Mem → Prop} (h : CodAt m i c a buf) (hk : k ≤ 1) (hl : c.last ≤ 255) (hlen : c.O.length + 1 + c.full ≤ 2 ^ 40)
    (hq : ∀ m' a' buf', CodAt m' i (c.settle k) a' buf' → Fr i buf m buf' m' → Q (.tup []) m') : Ok (R fn_rc_Coder_settle [.ptr i 0, .int .i64 k]) m Q := by
  refine Ok.call (fun n => rc_Coder_settle_eq rfl n _ _) ?_
  have hg := h.get
  have hn : m.base ≤ m.next := by have := h.base; have := h.next; omega
  simp -implicitDefEqProofs only [codCells] at hg
  simp -implicitDefEqProofs only [rc_Coder_settle, rc_Coder_settle_j0, simpS, Nat.reduceAdd, load_at hg]
  cases hlast : c.last with
  | zero =>
    simp -implicitDefEqProofs only [Int.natCast_zero, Int.lt_irrefl, decide_false, Bool.false_eq_true, if_false]
    refine settle_loop hk (by omega) (fun m' a' buf' hc hF => hq m' a' buf' ?_ hF) h
    simpa [Cst.settle, hlast] using hc
  | succ b =>
    have hf : (0 : Int) < ((b + 1 : Nat) : Int) := by omega
    have e0 : IntKind.i64.wrap (((b + 1 : Nat) : Int) - 1) = (b : Int) := by rw [IntWalk.i64_in _ (by omega)]; omega
    have e1 : IntKind.i64.wrap ((b : Int) + (k : Int)) = ((b + k : Nat) : Int) := by rw [IntWalk.i64_in _ (by omega)]; omega
    simp -implicitDefEqProofs only [hf, decide_true, if_true, simpS, Nat.reduceAdd, e0, e1, u8_ofNat]
    refine Ok.bnd (writeByte_ok h hn (by omega) fun m1 buf1 hch hc1 hown hn1 => ?_)
    have hc1' : CodAt m1 i { c with O := c.O ++ [UInt8.ofNat (b + k)] } (.ptr i 2) buf1 := hc1
    simp -implicitDefEqProofs only [simpS, Nat.reduceAdd]
    refine settle_loop hk (by simp; omega) (fun m' a' buf' hc hF => hq m' a' buf' ?_ (Fr.trans ⟨hch, hown⟩ hF)) hc1'
    simpa [Cst.settle, hlast] using hc

variable {T : Nat} {rest : List AV}
/-- The interval that a coder stands for. -/
structure Cst.Is (c : Cst) (T : Nat) (rest : List AV) (x : Iv) : Prop where
  dig : Go.Proofs.YtooogfnmhfocjaaGreatDoor.Spl.dig x.n (x.V / 4294967296) = c.O ++ lastL c.last ++ List.replicate c.full 255
  low : c.low = x.V % 4294967296
  rng : rngOf c.s c.r = x.R
  last : c.last ≤ 255
  none : c.last = 0 → c.low + x.R ≤ 4294967296
  T : c.T = T
  rest : c.rest = rest
theorem Cst.Is.len {c : Cst} {x : Iv} (h : c.Is T rest x) : c.O.length + c.full ≤ x.n := by
  have := congrArg List.length h.dig
  simp [dig_length] at this
  omega
theorem Cst.Is.lt {c : Cst} {x : Iv} (h : c.Is T rest x) : c.low < 4294967296 := by rw [h.low]; exact Nat.mod_lt _ (by decide)

/-- One carried. -/
theorem is_carry {c : Cst} {x : Iv} {u p : Nat} (h : c.Is T rest x) (hx : x.R ≤ 4294967295) (hp : 1 ≤ p) (hu : u + p ≤ x.R) (hc : 4294967296 ≤ c.low + u) :
    ({ (c.settle 1) with s := true, r := p, low := c.low + u - 4294967296 } : Cst).Is T rest ⟨x.n, x.V + u, p⟩ := by
  have hlt := h.lt
  have hlow := h.low
  have hnz : c.last ≠ 0 := fun e => by have := h.none e; omega
  have e1 : (x.V + u) / 4294967296 = x.V / 4294967296 + 1 := by omega
  have e2 : (x.V + u) % 4294967296 = c.low + u - 4294967296 := by omega
  obtain ⟨b, hb⟩ : ∃ b, c.last = b + 1 := ⟨c.last - 1, by omega⟩
  have hl := h.last
  have hd := h.dig
  rw [hb, lastL] at hd
  have hbn : (UInt8.ofNat b).toNat = b := by rw [toNat_ofNat]; omega
  have := dig_carry c.full x.n (x.V / 4294967296) c.O (UInt8.ofNat b) hd (by omega)
  refine ⟨?_, e2.symm, rfl, by simp [Cst.settle], fun _ => ?_, h.T, h.rest⟩
  · show Go.Proofs.YtooogfnmhfocjaaGreatDoor.Spl.dig x.n ((x.V + u) / 4294967296) = _
    rw [e1, this, hbn]
    simp [Cst.settle, hb, lastL]
  · show c.low + u - 4294967296 + p ≤ _
    omega
/-- Nothing carried. -/
theorem is_plain {c : Cst} {x : Iv} {u p : Nat} (h : c.Is T rest x) (hu : u + p ≤ x.R) (hc : c.low + u < 4294967296) :
    ({ c with s := true, r := p, low := c.low + u } : Cst).Is T rest ⟨x.n, x.V + u, p⟩ := by
  have hlow := h.low
  have e1 : (x.V + u) / 4294967296 = x.V / 4294967296 := by omega
  have e2 : (x.V + u) % 4294967296 = c.low + u := by omega
  refine ⟨?_, e2.symm, rfl, h.last, fun e => ?_, h.T, h.rest⟩
  · show Go.Proofs.YtooogfnmhfocjaaGreatDoor.Spl.dig x.n ((x.V + u) / 4294967296) = _
    rw [e1]; exact h.dig
  · have := h.none e
    show c.low + u + p ≤ _
    omega
def Cst.tell (b : Nat) (c : Cst) : Cst := if b = 255 then { c with full := c.full + 1 } else { (c.settle 0) with last := b + 1 }
/-- An octet told. -/
theorem is_tell {c : Cst} {x : Iv} (h : c.Is T rest x) (hr : c.s = true) :
    ({ (c.tell (c.low / 16777216)) with r := x.R * 256, low := c.low % 16777216 * 256 } : Cst).Is T rest ⟨x.n + 1, x.V * 256, x.R * 256⟩ := by
  have hlt := h.lt
  have hlow := h.low
  have e1 : x.V * 256 / 4294967296 = x.V / 4294967296 * 256 + c.low / 16777216 := by omega
  have e2 : x.V * 256 % 4294967296 = c.low % 16777216 * 256 := by omega
  have hb : c.low / 16777216 < 256 := by omega
  have hd : Go.Proofs.YtooogfnmhfocjaaGreatDoor.Spl.dig (x.n + 1) (x.V * 256 / 4294967296) = c.O ++ lastL c.last ++ List.replicate c.full 255 ++ [UInt8.ofNat (c.low / 16777216)] := by rw [e1, dig_snoc _ _ _ hb, h.dig]
  unfold Cst.tell
  by_cases e : c.low / 16777216 = 255
  · rw [if_pos e]
    refine ⟨?_, e2.symm, by simp [rngOf, hr], h.last, fun e' => ?_, h.T, h.rest⟩
    · show Go.Proofs.YtooogfnmhfocjaaGreatDoor.Spl.dig (x.n + 1) (x.V * 256 / 4294967296) = _
      rw [hd, e, List.replicate_succ', ← List.append_assoc]; rfl
    · have := h.none e'
      show c.low % 16777216 * 256 + x.R * 256 ≤ _
      omega
  · rw [if_neg e]
    refine ⟨?_, e2.symm, by simp [rngOf, hr, Cst.settle], by show c.low / 16777216 + 1 ≤ 255; omega, fun e' => by simp at e', h.T, h.rest⟩
    show Go.Proofs.YtooogfnmhfocjaaGreatDoor.Spl.dig (x.n + 1) (x.V * 256 / 4294967296) = _
    rw [hd]
    cases hl : c.last with
    | zero => simp [Cst.settle, hl, lastL]
    | succ b => simp [Cst.settle, hl, lastL]

theorem tell_ok {i b : Nat} {c : Cst} {a buf : AV} {m : Mem} {Q : AV → Mem → Prop} (h : CodAt m i c a buf) (hb : b ≤ 255) (hl : c.last ≤ 255) (hlen : c.O.length + 1 + c.full ≤ 2 ^ 40)
    (hq : ∀ m' a' buf', CodAt m' i (c.tell b) a' buf' → Fr i buf m buf' m' → Q (.tup []) m') : Ok (R fn_rc_Coder_tell [.ptr i 0, .int .i64 b]) m Q := by
  refine Ok.call (fun n => rc_Coder_tell_eq rfl n _ _) ?_
  have hg := h.get
  have hbs := h.base
  simp -implicitDefEqProofs only [codCells] at hg
  simp -implicitDefEqProofs only [rc_Coder_tell, simpS, Nat.reduceAdd]
  by_cases e : b = 255
  · subst e
    have e1 : IntKind.i64.wrap ((c.full : Int) + 1) = ((c.full + 1 : Nat) : Int) := by rw [IntWalk.i64_in _ (by omega)]; omega
    have e255 : ((255 : Nat) : Int) = 255 := rfl
    have e2 : c.tell 255 = { c with full := c.full + 1 } := by simp [Cst.tell]
    rw [e2] at hq
    simp -implicitDefEqProofs (disch := first | assumption | omega | (simp; done) | (simp; omega)) only [simpS, Nat.reduceAdd, load_at hg, e1, ok_store hg hbs, e255, decide_true, if_true]
    exact hq _ a buf (h.set (c' := { c with full := c.full + 1 }) rfl) (Fr.set _)
  · have e' : ¬ (b : Int) = 255 := by omega
    simp -implicitDefEqProofs only [e', decide_false, Bool.false_eq_true, if_false]
    refine Ok.bnd (settle_ok (k := 0) h (by omega) hl hlen fun m1 a1 buf1 hc1 hF => ?_)
    have hg1 := hc1.get
    have hb1 := hc1.base
    simp -implicitDefEqProofs only [codCells] at hg1
    have e1 : IntKind.i64.wrap ((b : Int) + 1) = ((b + 1 : Nat) : Int) := by rw [IntWalk.i64_in _ (by omega)]; omega
    simp -implicitDefEqProofs (disch := first | assumption | omega | (simp; done) | (simp; omega)) only [simpS, Nat.reduceAdd, e1, ok_store hg1 hb1]
    have e2 : c.tell b = { (c.settle 0) with last := b + 1 } := by simp [Cst.tell, e]
    rw [e2] at hq
    exact hq _ a1 buf1 (hc1.set (c' := { (c.settle 0) with last := b + 1 }) rfl) (hF.trans (Fr.set _))

theorem carry_ok {i : Nat} {c : Cst} {a buf : AV} {m : Mem} {Q : AV → Mem → Prop} (h : CodAt m i c a buf) (hl : c.last ≤ 255) (hlen : c.O.length + 1 + c.full ≤ 2 ^ 40)
    (hq : ∀ m' a' buf', CodAt m' i (c.settle 1) a' buf' → Fr i buf m buf' m' → Q (.tup []) m') : Ok (R fn_rc_Coder_carry [.ptr i 0]) m Q := by
  refine Ok.call (fun n => rc_Coder_carry_eq rfl n _) ?_
  simp -implicitDefEqProofs only [rc_Coder_carry]
  refine Ok.bnd (settle_ok (k := 1) h (by omega) hl hlen fun m1 a1 buf1 hc1 hF => ?_)
  simp -implicitDefEqProofs only [simpS, Nat.reduceAdd]
  exact hq _ a1 buf1 hc1 hF

theorem code_loop {i : Nat} {z : Iv} {Q : AV → Mem → Prop} {m0 : Mem} {buf0 : AV} (hq : ∀ m' c' a' buf', CodAt m' i c' a' buf' → c'.Is T rest z → Fr i buf0 m0 buf' m' → Q (.tup []) m') :
    ∀ {k : Nat} {x : Iv} {c0 : Cst} {a0 : AV}, CodAt m0 i c0 a0 buf0 → c0.Is T rest x → c0.s = true → 1 ≤ x.R → x.R ≤ 4294967295 → 16777216 ≤ x.R * 256 ^ k → x.fill k = z → x.n + k < 2 ^ 39 →
      Ok (fun n => loopN (fun r l => rc_Coder_Code_l0 (fcall Tryz.prog ext1 n) n r (l.getD 0 .undef)) n [.ptr i 0]) m0 Q := by
  intro k x c0 a0 h0 hI0 hs0 h1 h2 h3 h4 h5
  refine Ok.loop (fun k l m => l = [.ptr i 0] ∧ ∃ x c a buf, CodAt m i c a buf ∧ c.Is T rest x ∧ c.s = true ∧ Fr i buf0 m0 buf m ∧ 1 ≤ x.R ∧ x.R ≤ 4294967295 ∧ 16777216 ≤ x.R * 256 ^ k ∧ x.fill k = z ∧ x.n + k < 2 ^ 39) ?_ (k := k) ⟨rfl, x, c0, a0, buf0, h0, hI0, hs0, Fr.refl _ _ _, h1, h2, h3, h4, h5⟩
  clear h0 hI0 hs0 h1 h2 h3 h4 h5
  rintro k l m rec ⟨rfl, x, c, a, buf, h, hI, hs, hF, h1, h2, h3, h4, h5⟩ ih
  have hg := h.get
  have hb := h.base
  have hR := hI.rng
  have hlt := hI.lt
  have hlen := hI.len
  simp -implicitDefEqProofs only [hs, rngOf, if_true] at hR
  simp -implicitDefEqProofs only [codCells] at hg
  simp -implicitDefEqProofs only [List.getD_cons_zero, rc_Coder_Code_l0, simpS, Nat.reduceAdd]
  refine Ok.bnd (small_ok hg hb ?_)
  by_cases hr : 16777216 ≤ c.r
  · rw [if_pos hr]
    simp -implicitDefEqProofs only [simpS, Nat.reduceAdd]
    have e : x.fill k = x := by
      cases k with
      | zero => rfl
      | succ k => simp -implicitDefEqProofs only [Iv.fill]; rw [if_pos (by omega)]
    rw [e] at h4
    subst h4
    exact hq m c a buf h hI hF
  · rw [if_neg hr]
    have hc1 := h.set (c' := { c with r := c.r * 256 }) rfl
    have hm : m.set i (.cells c.T 0 (.bool c.s :: .int .u64 (c.r * 256 : Nat) :: a :: buf :: .int .u64 c.low :: .int .i64 c.last :: .int .i64 c.full :: c.rest)) = m.set i (.cells c.T 0 (codCells { c with r := c.r * 256 } a buf)) := rfl
    rw [hm]
    have hF1 := hF.trans (Fr.set (.cells c.T 0 (codCells { c with r := c.r * 256 } a buf)))
    generalize m.set i (.cells c.T 0 (codCells { c with r := c.r * 256 } a buf)) = m1 at *
    have hg1 := hc1.get
    simp -implicitDefEqProofs only [codCells] at hg1
    have e1 : aBin .shr [] (.int .u64 c.low) (.int .u64 24) = some (.int .u64 ((c.low / 16777216 : Nat) : Int)) := by
      exact aBin_shr_nat _ _ _ c.low 24 (by decide)
    have e2 : IntKind.i64.wrap ((c.low / 16777216 : Nat) : Int) = ((c.low / 16777216 : Nat) : Int) := IntWalk.i64_in _ (by omega)
    simp -implicitDefEqProofs only [simpS, Nat.reduceAdd, load_at hg1, e1, e2]
    cases k with
    | zero => omega
    | succ k =>
      refine Ok.bnd (tell_ok hc1 (by omega) hI.last (by show c.O.length + 1 + c.full ≤ _; omega) fun m2 a2 buf2 hc2 hF2 => ?_)
      have hg2 := hc2.get
      have hb2 := hc2.base
      simp -implicitDefEqProofs only [codCells] at hg2
      have hlow : (({ c with r := c.r * 256 } : Cst).tell (c.low / 16777216)).low = c.low := by unfold Cst.tell Cst.settle; split <;> rfl
      have e3 : aBin .shl [] (.int .u64 c.low) (.int .u64 8) = some (.int .u64 ((c.low * 256 : Nat) : Int)) := by
        rw [aBin_shl _ _ _ _ _ (by decide), show (c.low : Int) * 2 ^ (8 : Int).toNat = ((c.low * 256 : Nat) : Int) by rw [Int.natCast_mul]; rfl, IntWalk.u64_in _ ⟨Int.natCast_nonneg _, by omega⟩]
      have e4 : aBin .and [] (.int .u64 ((c.low * 256 : Nat) : Int)) (.int .u64 4294967295) = some (.int .u64 ((c.low % 16777216 * 256 : Nat) : Int)) := by
        simp -implicitDefEqProofs only [aBin, b2, if_true]
        have e : (BitVec.ofInt IntKind.u64.bits ((c.low * 256 : Nat) : Int) &&& BitVec.ofInt IntKind.u64.bits 4294967295).toNat = c.low % 16777216 * 256 := by
          show (BitVec.ofInt 64 ((c.low * 256 : Nat) : Int) &&& BitVec.ofInt 64 ((4294967295 : Nat) : Int)).toNat = _
          rw [BitVec.ofInt_natCast, BitVec.ofInt_natCast, BitVec.toNat_and, BitVec.toNat_ofNat, BitVec.toNat_ofNat, Nat.mod_eq_of_lt (show c.low * 256 < 2 ^ 64 by omega), Nat.mod_eq_of_lt (show 4294967295 < 2 ^ 64 by decide)]
          have := Nat.and_two_pow_sub_one_eq_mod (c.low * 256) 32
          rw [show 4294967295 = 2 ^ 32 - 1 by decide, this]
          omega
        rw [e, IntWalk.u64_in _ ⟨Int.natCast_nonneg _, by omega⟩]
      simp -implicitDefEqProofs only [simpS, Nat.reduceAdd, load_at hg2, hlow, e3, e4]
      simp -implicitDefEqProofs (disch := first | assumption | omega | (simp; done) | (simp; omega)) only [simpS, Nat.reduceAdd, ok_store hg2 hb2]
      have h6 : x.fill (k + 1) = Iv.fill k ⟨x.n + 1, x.V * 256, x.R * 256⟩ := by simp -implicitDefEqProofs only [Iv.fill]; rw [if_neg (by omega)]
      have hset := hc2.set (c' := { (({ c with r := c.r * 256 } : Cst).tell (c.low / 16777216)) with low := c.low % 16777216 * 256 }) rfl
      have hI2 := is_tell hI hs
      have hce : ({ (({ c with r := c.r * 256 } : Cst).tell (c.low / 16777216)) with low := c.low % 16777216 * 256 } : Cst) = { (c.tell (c.low / 16777216)) with r := x.R * 256, low := c.low % 16777216 * 256 } := by
        unfold Cst.tell Cst.settle
        split <;> simp [hR]
      rw [hce] at hset
      refine ih k _ _ (Nat.lt_succ_self _) ⟨rfl, ⟨x.n + 1, x.V * 256, x.R * 256⟩, _, a2, buf2, ?_, hI2, ?_, (hF1.trans hF2).trans (Fr.set _), by show 1 ≤ x.R * 256; omega, by show x.R * 256 ≤ _; omega, by show _ ≤ x.R * 256 * 256 ^ k; rw [Nat.mul_assoc, ← Nat.pow_succ']; exact h3, by rw [← h6]; exact h4, by show x.n + 1 + k < _; omega⟩
      · rw [← hce] at hset ⊢
        exact hset
      · unfold Cst.tell Cst.settle
        split <;> exact hs

/-- Code, of a part. -/
theorem code_ok {i lo hi t : Nat} {c : Cst} {x : Iv} {a buf : AV} {m : Mem} {Q : AV → Mem → Prop} (h : CodAt m i c a buf) (hI : c.Is T rest x) (hx : x.Fits) (hn : x.n + 3 < 2 ^ 39) (hp : lo < hi ∧ hi ≤ t ∧ t ≤ 65536)
    (hq : ∀ m' c' a' buf', CodAt m' i c' a' buf' → c'.Is T rest (x.code lo hi t) → Fr i buf m buf' m' → Q (.tup []) m') : Ok (R fn_rc_Coder_Code [.ptr i 0, .int .i64 lo, .int .i64 hi, .int .i64 t]) m Q := by
  refine Ok.call (fun n => rc_Coder_Code_eq rfl n _ _ _ _) ?_
  have hg := h.get
  have hb := h.base
  have hR := hI.rng
  have hlt := hI.lt
  have hlen := hI.len
  have hRlo := hx.lo
  have hRhi := hx.hi
  obtain ⟨hp1, hp2⟩ := partOf_bounds hx.lo hx.hi hp
  have hin := part_in (r := x.R) ⟨hp.1, hp.2.1⟩
  simp -implicitDefEqProofs only [codCells] at hg
  simp -implicitDefEqProofs only [rc_Coder_Code, simpS, Nat.reduceAdd, Bool.false_eq_true, if_false]
  refine Ok.bnd (right_ok ?_)
  have hdec : decide ((0 : Int) ≤ lo ∧ (lo : Int) < hi ∧ (hi : Int) ≤ t ∧ (t : Int) ≤ 65536) = true := decide_eq_true (by omega)
  simp -implicitDefEqProofs only [hdec, rc_Coder_Code_j0, simpS, Nat.reduceAdd, Bool.not_true, Bool.false_eq_true, if_false, load_at hg]
  refine Ok.bnd (narrow_ok hg hb (by rw [hR]; exact hRhi) hp ?_)
  rw [hR]
  have hc1 := h.set (c' := { c with s := true, r := partOf x.R lo hi t }) rfl
  have hm : m.set i (.cells c.T 0 (.bool true :: .int .u64 (partOf x.R lo hi t) :: a :: buf :: .int .u64 c.low :: .int .i64 c.last :: .int .i64 c.full :: c.rest)) = m.set i (.cells c.T 0 (codCells { c with s := true, r := partOf x.R lo hi t } a buf)) := rfl
  rw [hm]
  have hF1 := Fr.set (i := i) (buf := buf) (m := m) (.cells c.T 0 (codCells { c with s := true, r := partOf x.R lo hi t } a buf))
  generalize m.set i (.cells c.T 0 (codCells { c with s := true, r := partOf x.R lo hi t } a buf)) = m1 at *
  have hg1 := hc1.get
  have hb1 := hc1.base
  simp -implicitDefEqProofs only [codCells] at hg1
  have s1 := fun (k : M AV) => same_at (o := 4) hg1 rfl (eqb_int _ _) k
  have e1 : IntKind.u64.wrap ((c.low : Int) + ((x.R / t * lo : Nat) : Int)) = ((c.low + x.R / t * lo : Nat) : Int) := by
    rw [← Int.natCast_add]; exact IntWalk.u64_in _ ⟨Int.natCast_nonneg _, by omega⟩
  simp -implicitDefEqProofs (disch := first | assumption | omega | (simp; done) | (simp; omega)) only [simpS, Nat.reduceAdd, s1, e1, ok_store hg1 hb1]
  have hc2 := hc1.set (c' := { c with s := true, r := partOf x.R lo hi t, low := c.low + x.R / t * lo }) rfl
  have hm2 : m1.set i (.cells c.T 0 (.bool true :: .int .u64 (partOf x.R lo hi t) :: a :: buf :: .int .u64 (c.low + x.R / t * lo : Nat) :: .int .i64 c.last :: .int .i64 c.full :: c.rest)) = m1.set i (.cells c.T 0 (codCells { c with s := true, r := partOf x.R lo hi t, low := c.low + x.R / t * lo } a buf)) := rfl
  rw [hm2]
  have hF2 := hF1.trans (Fr.set (.cells c.T 0 (codCells { c with s := true, r := partOf x.R lo hi t, low := c.low + x.R / t * lo } a buf)))
  generalize m1.set i (.cells c.T 0 (codCells { c with s := true, r := partOf x.R lo hi t, low := c.low + x.R / t * lo } a buf)) = m2 at *
  have hg2 := hc2.get
  have hb2 := hc2.base
  simp -implicitDefEqProofs only [codCells] at hg2
  simp -implicitDefEqProofs only [simpS, Nat.reduceAdd, load_at hg2, rc_Coder_Code_j1]
  have hfin : ∀ (c' : Cst), c'.Is T rest (x.narrow lo hi t) → c'.s = true → ∀ m' a' buf', CodAt m' i c' a' buf' → Fr i buf m buf' m' → Ok (fun n => loopN (fun r l => rc_Coder_Code_l0 (fcall Tryz.prog ext1 n) n r (l.getD 0 .undef)) n [.ptr i 0]) m' Q := by
    intro c' hI' hs' m' a' buf' hc' hF'
    exact code_loop (k := 3) (x := x.narrow lo hi t) (fun m'' c'' a'' buf'' h1 h2 h3 => hq m'' c'' a'' buf'' h1 h2 (hF'.trans h3)) hc' hI' hs' (by show 1 ≤ partOf x.R lo hi t; omega) (by show partOf x.R lo hi t ≤ _; omega) (by show _ ≤ partOf x.R lo hi t * _; omega) rfl (by show x.n + 3 < _; omega)
  by_cases hcar : 4294967296 ≤ c.low + x.R / t * lo
  · have hd : (4294967295 : Int) < ((c.low + x.R / t * lo : Nat) : Int) := by omega
    have e2 : IntKind.u64.wrap (((c.low + x.R / t * lo : Nat) : Int) - 4294967296) = ((c.low + x.R / t * lo - 4294967296 : Nat) : Int) := by
      rw [show ((c.low + x.R / t * lo : Nat) : Int) - 4294967296 = ((c.low + x.R / t * lo - 4294967296 : Nat) : Int) by omega]
      exact IntWalk.u64_in _ ⟨Int.natCast_nonneg _, by omega⟩
    simp -implicitDefEqProofs (disch := first | assumption | omega | (simp; done) | (simp; omega)) only [simpS, Nat.reduceAdd, hd, decide_true, if_true, e2, ok_store hg2 hb2]
    have hc3 := hc2.set (c' := { c with s := true, r := partOf x.R lo hi t, low := c.low + x.R / t * lo - 4294967296 }) rfl
    refine Ok.bnd (carry_ok hc3 hI.last (by show c.O.length + 1 + c.full ≤ _; omega) fun m4 a4 buf4 hc4 hF4 => ?_)
    exact hfin _ (is_carry hI hRhi (by omega) hin hcar) rfl m4 a4 buf4 hc4 ((hF2.trans (Fr.set _)).trans hF4)
  · have hd : ¬ (4294967295 : Int) < ((c.low + x.R / t * lo : Nat) : Int) := by omega
    simp -implicitDefEqProofs only [hd, decide_false, Bool.false_eq_true, if_false]
    exact hfin _ (is_plain hI hin (by omega)) rfl m2 a buf hc2 hF2

/-- Code, of what is no part. -/
theorem code_not {i : Nat} {lo hi t : Int} {m : Mem} {Q : AV → Mem → Prop} (hp : ¬ (0 ≤ lo ∧ lo < hi ∧ hi ≤ t ∧ t ≤ 65536)) (hq : Q (.tup []) m) : Ok (R fn_rc_Coder_Code [.ptr i 0, .int .i64 lo, .int .i64 hi, .int .i64 t]) m Q := by
  refine Ok.call (fun n => rc_Coder_Code_eq rfl n _ _ _ _) ?_
  simp -implicitDefEqProofs only [rc_Coder_Code, simpS, Nat.reduceAdd, Bool.false_eq_true, if_false]
  refine Ok.bnd (right_ok ?_)
  have hdec : decide (0 ≤ lo ∧ lo < hi ∧ hi ≤ t ∧ t ≤ 65536) = false := decide_eq_false hp
  simp -implicitDefEqProofs only [hdec, rc_Coder_Code_j0, simpS, Nat.reduceAdd, Bool.not_false, if_true]
  exact hq

/-! the end -/

theorem trim_byte (l : List UInt8) {m : Mem} {Q : AV → Mem → Prop} (hl : l.length < 2 ^ 60) (hq : Q (.str (bs (trim l))) m) : Ok (R fn_strings_trimRightByte [.str (bs l), .int .u8 0]) m Q := by
  refine Ok.call (fun n => strings_trimRightByte_eq rfl n _ _) ?_
  simp -implicitDefEqProofs only [strings_trimRightByte]
  refine Ok.loop (fun k v m' => ∃ l' j2 j3 j4 j5 j6 j7 j8, v = [.str (bs l'), .int .u8 0, j2, j3, j4, j5, j6, j7, j8] ∧ m' = m ∧ l'.length = k ∧ trim l' = trim l ∧ k < 2 ^ 60) ?_ (k := l.length) ⟨l, _, _, _, _, _, _, _, rfl, rfl, rfl, rfl, hl⟩
  rintro k v m' rec ⟨l', j2, j3, j4, j5, j6, j7, j8, rfl, rfl, hk, ht, hk2⟩ ih
  simp -implicitDefEqProofs only [List.getD_cons_zero, List.getD_cons_succ, strings_trimRightByte_l0, simpS, Nat.reduceAdd]
  rcases List.eq_nil_or_concat l' with e | ⟨l2, b, e⟩
  · subst e
    simp -implicitDefEqProofs only [List.length_nil, Int.natCast_zero, Int.lt_irrefl, decide_false, Bool.false_eq_true, if_false, strings_trimRightByte_j0, simpS, Nat.reduceAdd]
    rw [← ht] at hq
    exact hq
  · rw [List.concat_eq_append] at e
    subst e
    simp at hk
    subst hk
    have h1 : (0 : Int) < ((l2 ++ [b]).length : Int) := by rw [List.length_append, List.length_singleton]; omega
    have e1 : IntKind.i64.wrap (((l2 ++ [b]).length : Int) - 1) = (l2.length : Int) := by rw [IntWalk.i64_in _ (by simp; omega)]; simp
    have e2 : aIdxStr (.str (bs (l2 ++ [b]))) (.int .i64 l2.length) = some (.int .u8 b.toNat) := aIdxStr_bs _ _ _ (by simp)
    have e3 : aSliceStr (.str (bs (l2 ++ [b]))) none (some (.int .i64 l2.length)) = some (.str (bs l2)) := by rw [aSliceStr_to _ _ _ (by simp)]; simp
    simp -implicitDefEqProofs only [h1, decide_true, if_true, simpS, Nat.reduceAdd, e1, e2]
    by_cases hb : b = 0
    · subst hb
      have e4 : decide (((0 : UInt8).toNat : Int) = 0) = true := by decide
      simp -implicitDefEqProofs only [strings_trimRightByte_j0, simpS, Nat.reduceAdd, e4, if_true, e1, e3]
      exact ih l2.length _ _ (by omega) ⟨l2, _, _, _, _, _, _, _, rfl, rfl, rfl, by rw [← ht, trim_snoc_zero], by omega⟩
    · have hb' : b.toNat ≠ 0 := fun e => hb (UInt8.toNat_inj.1 e)
      have e4 : decide ((b.toNat : Int) = 0) = false := decide_eq_false (by omega)
      simp -implicitDefEqProofs only [strings_trimRightByte_j0, simpS, Nat.reduceAdd, e4, Bool.false_eq_true, if_false]
      rw [← ht, trim_snoc _ _ hb] at hq
      exact hq
theorem trimRight_ok (l : List UInt8) {m : Mem} {Q : AV → Mem → Prop} (hl : l.length < 2 ^ 60) (hq : Q (.str (bs (trim l))) m) : Ok (R fn_strings_TrimRight [.str (bs l), .str ⟨#[0]⟩]) m Q := by
  refine Ok.call (fun n => strings_TrimRight_eq rfl n _ _) ?_
  have e0 : (⟨#[0]⟩ : ByteArray) = bs [0] := rfl
  have e1 : aIdxStr (.str (bs [0])) (.int .i64 0) = some (.int .u8 0) := aIdxStr_bs [0] .i64 0 rfl
  simp -implicitDefEqProofs only [strings_TrimRight, strings_TrimRight_j0, e0, simpS, Nat.reduceAdd]
  by_cases h : l = []
  · subst h
    simp -implicitDefEqProofs only [decide_true, if_true, simpS, Nat.reduceAdd]
    exact hq
  · simp -implicitDefEqProofs only [h, decide_false, Bool.false_eq_true, if_false, simpS, Nat.reduceAdd, strings_TrimRight_j1, reduceCtorEq, List.length_cons, List.length_nil, e1, decide_true, if_true, Nat.zero_add, Int.natCast_one, Int.reduceLT]
    refine Ok.bnd (trim_byte l hl ?_)
    simp -implicitDefEqProofs only [simpS, Nat.reduceAdd]
    exact hq
end SplA

/- The abstract machine, 19: shifts, bits and quotients of numbers that are not negative. -/
namespace Go.Proofs.YtooogfnmhfocjaaGreatDoor.Spl
open Go
set_option linter.unusedVariables false
set_option linter.unusedSimpArgs false

theorem i64_nat {n : Nat} (h : n < 9223372036854775808) : IntKind.i64.wrap (n : Int) = n := IntWalk.i64_in _ ⟨Int.le_trans (by decide) (Int.natCast_nonneg _), by omega⟩
theorem shl_nat (k' : IntKind) (e : List Nat) (a n : Nat) (h : a * 2 ^ n < 9223372036854775808) (hn : n ≤ 64) : aBin .shl e (.int .i64 (a : Int)) (.int k' (n : Int)) = some (.int .i64 ((a * 2 ^ n : Nat) : Int)) := by
  rw [aBin_shl _ _ _ _ _ ⟨Int.natCast_nonneg _, by show (n : Int) ≤ ((64 : Nat) : Int); omega⟩, Int.toNat_natCast, show (a : Int) * 2 ^ n = ((a * 2 ^ n : Nat) : Int) by rw [Int.natCast_mul, Int.natCast_pow]; rfl, i64_nat h]
theorem shl_one (k' : IntKind) (e : List Nat) (n : Nat) (hn : n ≤ 62) : aBin .shl e (.int .i64 1) (.int k' (n : Int)) = some (.int .i64 ((2 ^ n : Nat) : Int)) := by
  have h : 2 ^ n ≤ 2 ^ 62 := Nat.pow_le_pow_right (by decide) hn
  have := shl_nat k' e 1 n (by omega) (by omega)
  rwa [Nat.one_mul] at this
theorem and_mask (e : List Nat) (a n : Nat) (ha : a < 9223372036854775808) (hn : n ≤ 62) : aBin .and e (.int .i64 (a : Int)) (.int .i64 ((2 ^ n - 1 : Nat) : Int)) = some (.int .i64 ((a % 2 ^ n : Nat) : Int)) := by
  have h : 2 ^ n ≤ 2 ^ 62 := Nat.pow_le_pow_right (by decide) hn
  have hml : a % 2 ^ n ≤ a := Nat.mod_le _ _
  simp only [aBin, b2, if_true]
  have e' : (BitVec.ofInt IntKind.i64.bits (a : Int) &&& BitVec.ofInt IntKind.i64.bits ((2 ^ n - 1 : Nat) : Int)).toNat = a % 2 ^ n := by
    show (BitVec.ofInt 64 (a : Int) &&& BitVec.ofInt 64 ((2 ^ n - 1 : Nat) : Int)).toNat = _
    rw [BitVec.ofInt_natCast, BitVec.ofInt_natCast, BitVec.toNat_and, BitVec.toNat_ofNat, BitVec.toNat_ofNat, Nat.mod_eq_of_lt (show a < 2 ^ 64 by omega), Nat.mod_eq_of_lt (show 2 ^ n - 1 < 2 ^ 64 by omega)]
    exact Nat.and_two_pow_sub_one_eq_mod a n
  rw [e', i64_nat (by omega)]
theorem or_nat (e : List Nat) (a b n : Nat) (hb : b < 2 ^ n) (h : a * 2 ^ n + b < 9223372036854775808) : aBin .or e (.int .i64 ((a * 2 ^ n : Nat) : Int)) (.int .i64 (b : Int)) = some (.int .i64 ((a * 2 ^ n + b : Nat) : Int)) := by
  simp only [aBin, b2, if_true]
  have e' : (BitVec.ofInt IntKind.i64.bits ((a * 2 ^ n : Nat) : Int) ||| BitVec.ofInt IntKind.i64.bits (b : Int)).toNat = a * 2 ^ n + b := by
    show (BitVec.ofInt 64 ((a * 2 ^ n : Nat) : Int) ||| BitVec.ofInt 64 (b : Int)).toNat = _
    rw [BitVec.ofInt_natCast, BitVec.ofInt_natCast, BitVec.toNat_or, BitVec.toNat_ofNat, BitVec.toNat_ofNat, Nat.mod_eq_of_lt (show a * 2 ^ n < 2 ^ 64 by omega), Nat.mod_eq_of_lt (show b < 2 ^ 64 by omega)]
    have := Nat.shiftLeft_add_eq_or_of_lt (i := n) (b := b) hb a
    rw [Nat.shiftLeft_eq] at this
    exact this.symm
  rw [e', i64_nat h]
theorem tdiv_nat (a b : Nat) : (a : Int).tdiv (b : Int) = ((a / b : Nat) : Int) := by rw [Int.tdiv_eq_ediv_of_nonneg (Int.natCast_nonneg _)]; rfl
theorem tmod_nat (a b : Nat) : (a : Int).tmod (b : Int) = ((a % b : Nat) : Int) := by rw [Int.tmod_eq_emod_of_nonneg (Int.natCast_nonneg _)]; rfl
theorem rem_nat (e : List Nat) (k : IntKind) (a b : Nat) (hb : 0 < b) : aBin .rem e (.int k (a : Int)) (.int k (b : Int)) = some (.int k ((a % b : Nat) : Int)) := by
  rw [aBin_rem _ _ _ _ (by omega), tmod_nat]
theorem quo_nat (e : List Nat) (a b : Nat) (hb : 0 < b) (ha : a < 9223372036854775808) : aBin .quo e (.int .i64 (a : Int)) (.int .i64 (b : Int)) = some (.int .i64 ((a / b : Nat) : Int)) := by
  have := Nat.div_le_self a b
  rw [aBin_quo _ _ _ _ (by omega), tdiv_nat, i64_nat (by omega)]
end Go.Proofs.YtooogfnmhfocjaaGreatDoor.Spl
