/- The writer of frames. -/
import Derived.Test.YtooogfnmhfocjaaGreatDoorSplFm
import Derived.Test.YtooogfnmhfocjaaGreatDoorSplSym2
namespace SplA
open Go.Proofs.YtooogfnmhfocjaaGreatDoor.Spl Go Go.Proofs
set_option maxRecDepth 100000
set_option linter.unusedVariables false
set_option linter.unusedSimpArgs false

/-- What is kept. -/
structure Kept (K : Nat → Prop) (m m' : Mem) : Prop where
  base : m'.base = m.base
  next : m.next ≤ m'.next
  get : ∀ b, K b → m'.get b = m.get b
theorem Kept.refl (K : Nat → Prop) (m : Mem) : Kept K m m := ⟨rfl, Nat.le_refl _, fun _ _ => rfl⟩
theorem Kept.trans {K : Nat → Prop} {a b c : Mem} (h : Kept K a b) (g : Kept K b c) : Kept K a c := ⟨g.base.trans h.base, Nat.le_trans h.next g.next, fun i hi => (g.get i hi).trans (h.get i hi)⟩
theorem Kept.mono {K L : Nat → Prop} {a b : Mem} (h : Kept K a b) (hL : ∀ i, L i → K i) : Kept L a b := ⟨h.base, h.next, fun i hi => h.get i (hL i hi)⟩
theorem Same.kept {K : Nat → Prop} {m m' : Mem} (h : Same m m') (hK : ∀ b, K b → b < m.next) : Kept K m m' := ⟨h.base, h.next, fun b hb => h.get (hK b hb)⟩
/-- A writer, which touches nothing of K. -/
def Wst (K : Nat → Prop) (i : Nat) (rest : List AV) (x : Iv) (m : Mem) : Prop :=
  ∃ c a buf, CodAt m i c a buf ∧ c.Is T_code_writer rest x ∧ x.Fits ∧ m.base ≤ m.next ∧ (∀ b, K b → b < m.next) ∧ Dis (foot i buf) K
theorem Wst.bn {K : Nat → Prop} {i : Nat} {rest : List AV} {x : Iv} {m : Mem} (h : Wst K i rest x m) : m.base ≤ m.next := by
  obtain ⟨_, _, _, _, _, _, h, _⟩ := h; exact h
theorem Wst.lt {K : Nat → Prop} {i : Nat} {rest : List AV} {x : Iv} {m : Mem} (h : Wst K i rest x m) : ∀ b, K b → b < m.next := by
  obtain ⟨_, _, _, _, _, _, _, h, _⟩ := h; exact h
theorem Wst.puts {K : Nat → Prop} {i : Nat} {rest : List AV} {x : Iv} {m : Mem} {call : Nat → M AV} {ps : List Pt} {r : AV} {Q : AV → Mem → Prop} (hp : PutsC call i ps r) (h : Wst K i rest x m) (hn : x.n + 3 * ps.length < 2 ^ 38)
    (hq : ∀ m', Wst K i rest (x.parts ps) m' → Kept K m m' → Q r m') : Ok call m Q := by
  obtain ⟨c, a, buf, h1, h2, h3, h4, h5, h6⟩ := h
  refine hp T_code_writer rest m c a buf x Q h1 h2 h3 hn fun m' c' a' buf' k1 k2 k3 hF => hq m' ⟨c', a', buf', k1, k2, k3, ?_, ?_, hF.dis h5 h6⟩ ⟨hF.chg.base, hF.chg.next, fun b hb => hF.chg.get b (h5 b hb) (fun h => h6 b h hb)⟩
  · have := hF.chg.base; have := hF.chg.next; omega
  · exact fun b hb => Nat.lt_of_lt_of_le (h5 b hb) hF.chg.next
theorem Wst.same {K : Nat → Prop} {i : Nat} {rest : List AV} {x : Iv} {m m' : Mem} (h : Wst K i rest x m) (hS : Same m m') : Wst (fun b => K b ∨ (m.next ≤ b ∧ b < m'.next)) i rest x m' := by
  obtain ⟨c, a, buf, h1, h2, h3, h4, h5, h6⟩ := h
  refine ⟨c, a, buf, CodAt.chg h1 hS id (fun _ _ => id), h2, h3, hS.bn h4, fun b hb => ?_, fun b hb hK => ?_⟩
  · rcases hb with hb | hb
    · exact Nat.lt_of_lt_of_le (h5 b hb) hS.next
    · exact hb.2
  · rcases hK with hK | hK
    · exact h6 b hb hK
    · have := (h1.foot_lt b hb).1
      omega
theorem Wst.mono {K L : Nat → Prop} {i : Nat} {rest : List AV} {x : Iv} {m : Mem} (h : Wst K i rest x m) (hL : ∀ b, L b → K b) : Wst L i rest x m := by
  obtain ⟨c, a, buf, h1, h2, h3, h4, h5, h6⟩ := h
  exact ⟨c, a, buf, h1, h2, h3, h4, fun b hb => h5 b (hL b hb), fun b hb hl => h6 b hb (hL b hl)⟩
theorem Wst.same' {K : Nat → Prop} {i : Nat} {rest : List AV} {x : Iv} {m m' : Mem} (h : Wst K i rest x m) (hS : Same m m') : Wst K i rest x m' := (h.same hS).mono fun _ h => .inl h
theorem Wst.load_q {K : Nat → Prop} {i : Nat} {q : AV} {x : Iv} {m : Mem} (h : Wst K i [q] x m) : load? none (.ptr i 7) m = some q := by
  obtain ⟨c, a, buf, h1, h2, -⟩ := h
  rw [load_at h1.get]
  simp [codCells, h2.rest]

theorem flag_ok {i : Nat} {b : Bool} : PutsC (R fn_code_writer_flag [.ptr i 0, .bool b]) i (bitsP 1 (if b then 1 else 0)) (.tup []) := by
  intro T rest m c a buf x Q h hI hx hn hq
  refine Ok.call (fun n => code_writer_flag_eq rfl n _ _) ?_
  have b1 := bitsO1 (if b then 1 else 0) (by split <;> decide)
  cases b with
  | true =>
    simp -implicitDefEqProofs only [if_true] at *
    simp -implicitDefEqProofs only [code_writer_flag, code_writer_flag_j0, lp_some', mc_true, mc_false, ok_ret, ok_mc, ok_snap, aBin_add, aBin_sub, aBin_mul, aBin_lss, aBin_leq, aBin_gtr, aBin_geq, aBin_eql, aBin_neq, aBin_eqlStr, aBin_neqStr, strEq_bs, aBin_eqlNil, aBin_eqlNil', aBin_neqNil, aBin_neqNil', aUn_not, aUn_neg, aNil_ptr, aOff_ptr, aInt_int, aLenStr_str, aLenS_slice, aLenS_nil, aFold_min, aFold_max, bs_size, bs_empty, Nat.zero_add, Nat.add_zero, Nat.reduceAdd, ok_load, Mem.get_set, Mem.set_set, List.getElem?_cons_zero, List.getElem?_cons_succ, Option.some.injEq, exists_eq_left', List.set_cons_zero, List.set_cons_succ, if_true]
    refine Ok.bnd (putBits_ok (v := 1) (n := 1) (by decide) T rest m c a buf x _ h hI hx (by rw [show bitsO 1 1 = some (bitsP 1 1) from b1]; exact hn) fun m' c' a' buf' k1 k2 k3 hF => ?_)
    rw [show bitsO 1 1 = some (bitsP 1 1) from b1] at *
    simp -implicitDefEqProofs only [lp_some', mc_true, mc_false, ok_ret, ok_mc, ok_snap, aBin_add, aBin_sub, aBin_mul, aBin_lss, aBin_leq, aBin_gtr, aBin_geq, aBin_eql, aBin_neq, aBin_eqlStr, aBin_neqStr, strEq_bs, aBin_eqlNil, aBin_eqlNil', aBin_neqNil, aBin_neqNil', aUn_not, aUn_neg, aNil_ptr, aOff_ptr, aInt_int, aLenStr_str, aLenS_slice, aLenS_nil, aFold_min, aFold_max, bs_size, bs_empty, Nat.zero_add, Nat.add_zero, Nat.reduceAdd, ok_load, Mem.get_set, Mem.set_set, List.getElem?_cons_zero, List.getElem?_cons_succ, Option.some.injEq, exists_eq_left', List.set_cons_zero, List.set_cons_succ]
    exact hq m' c' a' buf' k1 k2 k3 hF
  | false =>
    simp -implicitDefEqProofs only [Bool.false_eq_true, if_false] at *
    simp -implicitDefEqProofs only [code_writer_flag, code_writer_flag_j0, lp_some', mc_true, mc_false, ok_ret, ok_mc, ok_snap, aBin_add, aBin_sub, aBin_mul, aBin_lss, aBin_leq, aBin_gtr, aBin_geq, aBin_eql, aBin_neq, aBin_eqlStr, aBin_neqStr, strEq_bs, aBin_eqlNil, aBin_eqlNil', aBin_neqNil, aBin_neqNil', aUn_not, aUn_neg, aNil_ptr, aOff_ptr, aInt_int, aLenStr_str, aLenS_slice, aLenS_nil, aFold_min, aFold_max, bs_size, bs_empty, Nat.zero_add, Nat.add_zero, Nat.reduceAdd, ok_load, Mem.get_set, Mem.set_set, List.getElem?_cons_zero, List.getElem?_cons_succ, Option.some.injEq, exists_eq_left', List.set_cons_zero, List.set_cons_succ, Bool.false_eq_true, if_false]
    refine Ok.bnd (putBits_ok (v := 0) (n := 1) (by decide) T rest m c a buf x _ h hI hx (by rw [show bitsO 0 1 = some (bitsP 1 0) from b1]; exact hn) fun m' c' a' buf' k1 k2 k3 hF => ?_)
    rw [show bitsO 0 1 = some (bitsP 1 0) from b1] at *
    simp -implicitDefEqProofs only [lp_some', mc_true, mc_false, ok_ret, ok_mc, ok_snap, aBin_add, aBin_sub, aBin_mul, aBin_lss, aBin_leq, aBin_gtr, aBin_geq, aBin_eql, aBin_neq, aBin_eqlStr, aBin_neqStr, strEq_bs, aBin_eqlNil, aBin_eqlNil', aBin_neqNil, aBin_neqNil', aUn_not, aUn_neg, aNil_ptr, aOff_ptr, aInt_int, aLenStr_str, aLenS_slice, aLenS_nil, aFold_min, aFold_max, bs_size, bs_empty, Nat.zero_add, Nat.add_zero, Nat.reduceAdd, ok_load, Mem.get_set, Mem.set_set, List.getElem?_cons_zero, List.getElem?_cons_succ, Option.some.injEq, exists_eq_left', List.set_cons_zero, List.set_cons_succ]
    exact hq m' c' a' buf' k1 k2 k3 hF

/-! a channel's parts -/
def dP (d : Int) : List Pt := (deltaO d).getD []
def fP (b : BandD) : List Pt := if 0 < b.c then (bitsO b.f 2).getD [] else []
def pP (q : Int) (n : Nat) (b : BandD) : List Pt := if 0 < bandN q b.c (widthN n) then (belowO (((indexN b.p).getD 0 : Nat) : Int) ((countN (widthN n) (bandN q b.c (widthN n)) : Nat) : Int)).getD [] else []
def dPs (l : List Int) : List Pt := (l.map dP).flatten
def fPs (l : List BandD) : List Pt := (l.map fP).flatten
def pPs (q : Int) : Nat → List BandD → List Pt
  | _, [] => []
  | n, b :: l => pP q n b ++ pPs q (n + 1) l
def chanP (q : Int) (c : List BandD) (d : List Int) : List Pt := dPs d ++ (fPs c ++ pPs q 0 c)
theorem getD_le {o : Option (List Pt)} (h : ∀ ps, o = some ps → ps.length ≤ 40) : (o.getD []).length ≤ 40 := by
  cases o with
  | none => simp
  | some ps => exact h ps rfl
theorem dP_le (d : Int) : (dP d).length ≤ 40 := getD_le fun _ h => (deltaO_right h).2
theorem fP_le (b : BandD) : (fP b).length ≤ 40 := by
  unfold fP
  split
  · exact getD_le fun _ h => (bitsO_right h).2
  · simp
theorem pP_le (q : Int) (n : Nat) (b : BandD) : (pP q n b).length ≤ 40 := by
  unfold pP
  split
  · exact getD_le fun _ h => (belowO_right h).2
  · simp
theorem dPs_le : ∀ l : List Int, (dPs l).length ≤ 40 * l.length
  | [] => Nat.le_refl _
  | d :: l => by
    have h1 := dP_le d
    have h2 := dPs_le l
    simp -implicitDefEqProofs only [dPs, List.map_cons, List.flatten_cons, List.length_append, List.length_cons] at h2 ⊢
    omega
theorem fPs_le : ∀ l : List BandD, (fPs l).length ≤ 40 * l.length
  | [] => Nat.le_refl _
  | d :: l => by
    have h1 := fP_le d
    have h2 := fPs_le l
    simp -implicitDefEqProofs only [fPs, List.map_cons, List.flatten_cons, List.length_append, List.length_cons] at h2 ⊢
    omega
theorem pPs_le (q : Int) : ∀ (l : List BandD) (n : Nat), (pPs q n l).length ≤ 40 * l.length
  | [], _ => Nat.le_refl _
  | b :: l, n => by
    have h1 := pP_le q n b
    have h2 := pPs_le q l (n + 1)
    simp -implicitDefEqProofs only [pPs, List.length_append, List.length_cons]
    omega

theorem chan_l2_ok {K : Nat → Prop} {i : Nat} {q : Int} {x0 : Iv} {m0 : Mem} {c : List BandD} {vb : AV} {Q : AV → Mem → Prop} (hv : BandsR K m0 vb c) (h13 : c.length = 13) (hn : x0.n + 3 * (40 * 13) < 2 ^ 38)
    (hw : Wst K i [.int .i64 q] x0 m0) (hq : ∀ m', Wst K i [.int .i64 q] (x0.parts (pPs q 0 c)) m' → Kept K m0 m' → Q (.tup []) m') :
    Ok (fun n => loopN (fun r l => code_writer_channel_l2 (fcall Tryz.prog ext1 n) n r (l.getD 0 .undef) (l.getD 1 .undef) (l.getD 2 .undef) (l.getD 3 .undef)) n [.ptr i 0, vb, .int .i64 c.length, .int .i64 0]) m0 Q := by
  refine Ok.loop (fun k l m => ∃ (j : Nat) (x : Iv), k + j = 13 ∧ l = [.ptr i 0, vb, .int .i64 c.length, .int .i64 j] ∧ x.n ≤ x0.n + 3 * (40 * j) ∧ x.parts (pPs q j (c.drop j)) = x0.parts (pPs q 0 c) ∧ Wst K i [.int .i64 q] x m ∧ Kept K m0 m) ?_ (k := 13) ⟨0, x0, rfl, rfl, Nat.le_refl _, rfl, hw, Kept.refl _ _⟩
  clear hw
  rintro k l m rec ⟨j, x, hk, rfl, hxn, hx, hw, hkept⟩ ih
  have hv' := hv.keep (m' := m) hkept.get
  by_cases h1 : j < 13
  · have d1 : (j : Int) < (c.length : Int) := by omega
    obtain ⟨b, hb, hdrop⟩ := drop_cons' (l := c) (i := j) (by omega)
    obtain ⟨b', o, ce, hix, hKb, hl3, hR, hl, hld⟩ := hv'.at hb
    obtain ⟨vp, rfl, hw1, hw2, hp⟩ := hR
    have hbm := hw.bn
    have hst := fun (k : Nat → AV → M AV) => ok_storeAll (i := m.next) (k := k) (Q := Q) (vs := [.int .i64 b.c, .int .i64 b.f, vp]) (n := 3) (Mem.get_alloc m (.cells T_api_Band 0 [.int .i64 0, .int .i64 0, .nilslice])) hbm rfl rfl (by simp [hp.one])
    have hg := Mem.get_alloc m (.cells T_api_Band 0 [.int .i64 b.c, .int .i64 b.f, vp])
    have hS1 := Same.alloc m (.cells T_api_Band 0 [.int .i64 b.c, .int .i64 b.f, vp])
    have hnx : m.next < (m.alloc (.cells T_api_Band 0 [.int .i64 b.c, .int .i64 b.f, vp])).next := Nat.lt_succ_self _
    rw [hdrop, pPs, Iv.parts_append] at hx
    have e4 : IntKind.i64.wrap ((j : Int) + 1) = ((j + 1 : Nat) : Int) := by rw [IntWalk.i64_in _ (by omega)]; omega
    have hpn := Iv.parts_n (pP q j b) x
    have hple := pP_le q j b
    simp -implicitDefEqProofs only [List.getD_cons_zero, List.getD_cons_succ, code_writer_channel_l2, lp_some', mc_true, mc_false, ok_ret, ok_mc, ok_snap, aBin_add, aBin_sub, aBin_mul, aBin_lss, aBin_leq, aBin_gtr, aBin_geq, aBin_eql, aBin_neq, aBin_eqlStr, aBin_neqStr, strEq_bs, aBin_eqlNil, aBin_eqlNil', aBin_neqNil, aBin_neqNil', aUn_not, aUn_neg, aNil_ptr, aOff_ptr, aInt_int, aLenStr_str, aLenS_slice, aLenS_nil, aFold_min, aFold_max, bs_size, bs_empty, Nat.zero_add, Nat.add_zero, Nat.reduceAdd, ok_load, Mem.get_set, Mem.set_set, List.getElem?_cons_zero, List.getElem?_cons_succ, Option.some.injEq, exists_eq_left', List.set_cons_zero, List.set_cons_succ, d1, decide_true, if_true, hix, hl, ok_alloc, hst, Mem.alloc_set]
    generalize m.alloc (.cells T_api_Band 0 [.int .i64 b.c, .int .i64 b.f, vp]) = m1 at *
    have hw1' := hw.same' hS1
    refine Ok.bnd (width_ok h1 (hS1.bn hbm) fun m2 hS2 => ?_)
    have hS12 := hS1.trans hS2
    have hg2 := (hS2.get hnx).trans hg
    have hw2' := hw.same' hS12
    simp -implicitDefEqProofs only [lp_some', mc_true, mc_false, ok_ret, ok_mc, ok_snap, aBin_add, aBin_sub, aBin_mul, aBin_lss, aBin_leq, aBin_gtr, aBin_geq, aBin_eql, aBin_neq, aBin_eqlStr, aBin_neqStr, strEq_bs, aBin_eqlNil, aBin_eqlNil', aBin_neqNil, aBin_neqNil', aUn_not, aUn_neg, aNil_ptr, aOff_ptr, aInt_int, aLenStr_str, aLenS_slice, aLenS_nil, aFold_min, aFold_max, bs_size, bs_empty, Nat.zero_add, Nat.add_zero, Nat.reduceAdd, ok_load, Mem.get_set, Mem.set_set, List.getElem?_cons_zero, List.getElem?_cons_succ, Option.some.injEq, exists_eq_left', List.set_cons_zero, List.set_cons_succ, hw2'.load_q, load_at hg2]
    refine Ok.bnd (band_ok ?_)
    simp -implicitDefEqProofs only [lp_some', mc_true, mc_false, ok_ret, ok_mc, ok_snap, aBin_add, aBin_sub, aBin_mul, aBin_lss, aBin_leq, aBin_gtr, aBin_geq, aBin_eql, aBin_neq, aBin_eqlStr, aBin_neqStr, strEq_bs, aBin_eqlNil, aBin_eqlNil', aBin_neqNil, aBin_neqNil', aUn_not, aUn_neg, aNil_ptr, aOff_ptr, aInt_int, aLenStr_str, aLenS_slice, aLenS_nil, aFold_min, aFold_max, bs_size, bs_empty, Nat.zero_add, Nat.add_zero, Nat.reduceAdd, ok_load, Mem.get_set, Mem.set_set, List.getElem?_cons_zero, List.getElem?_cons_succ, Option.some.injEq, exists_eq_left', List.set_cons_zero, List.set_cons_succ]
    have hlast : ∀ m', Wst K i [.int .i64 q] (x.parts (pP q j b)) m' → Kept K m m' → Ok (fun n => code_writer_channel_j1 (fcall Tryz.prog ext1 n) n (rec n) (.ptr i 0) vb (.int .i64 c.length) (.int .i64 j)) m' Q := by
      intro m' k1 k2
      simp -implicitDefEqProofs only [code_writer_channel_j1, lp_some', mc_true, mc_false, ok_ret, ok_mc, ok_snap, aBin_add, aBin_sub, aBin_mul, aBin_lss, aBin_leq, aBin_gtr, aBin_geq, aBin_eql, aBin_neq, aBin_eqlStr, aBin_neqStr, strEq_bs, aBin_eqlNil, aBin_eqlNil', aBin_neqNil, aBin_neqNil', aUn_not, aUn_neg, aNil_ptr, aOff_ptr, aInt_int, aLenStr_str, aLenS_slice, aLenS_nil, aFold_min, aFold_max, bs_size, bs_empty, Nat.zero_add, Nat.add_zero, Nat.reduceAdd, ok_load, Mem.get_set, Mem.set_set, List.getElem?_cons_zero, List.getElem?_cons_succ, Option.some.injEq, exists_eq_left', List.set_cons_zero, List.set_cons_succ, e4]
      exact ih (k - 1) _ _ (by omega) ⟨j + 1, _, by omega, rfl, by omega, hx, k1, hkept.trans k2⟩
    by_cases h2 : 0 < bandN q b.c (widthN j)
    · have d2 : (0 : Int) < (bandN q b.c (widthN j) : Int) := by omega
      simp -implicitDefEqProofs only [d2, decide_true, if_true, load_at hg2, lp_some', mc_true, mc_false, ok_ret, ok_mc, ok_snap, aBin_add, aBin_sub, aBin_mul, aBin_lss, aBin_leq, aBin_gtr, aBin_geq, aBin_eql, aBin_neq, aBin_eqlStr, aBin_neqStr, strEq_bs, aBin_eqlNil, aBin_eqlNil', aBin_neqNil, aBin_neqNil', aUn_not, aUn_neg, aNil_ptr, aOff_ptr, aInt_int, aLenStr_str, aLenS_slice, aLenS_nil, aFold_min, aFold_max, bs_size, bs_empty, Nat.zero_add, Nat.add_zero, Nat.reduceAdd, ok_load, Mem.get_set, Mem.set_set, List.getElem?_cons_zero, List.getElem?_cons_succ, Option.some.injEq, exists_eq_left', List.set_cons_zero, List.set_cons_succ]
      have hKm : ∀ b, K b → b < m.next := hw.lt
      refine Ok.bnd (index_ok (hp.keep (m' := m2) (fun b hb => hS12.get (hKm b hb))) (fun b hb => Nat.lt_of_lt_of_le (hKm b hb) hS12.next) (hS12.bn hbm) fun m3 hS3 => ?_)
      simp -implicitDefEqProofs only [sizeV, aExt, lp_some', mc_true, mc_false, ok_ret, ok_mc, ok_snap, aBin_add, aBin_sub, aBin_mul, aBin_lss, aBin_leq, aBin_gtr, aBin_geq, aBin_eql, aBin_neq, aBin_eqlStr, aBin_neqStr, strEq_bs, aBin_eqlNil, aBin_eqlNil', aBin_neqNil, aBin_neqNil', aUn_not, aUn_neg, aNil_ptr, aOff_ptr, aInt_int, aLenStr_str, aLenS_slice, aLenS_nil, aFold_min, aFold_max, bs_size, bs_empty, Nat.zero_add, Nat.add_zero, Nat.reduceAdd, ok_load, Mem.get_set, Mem.set_set, List.getElem?_cons_zero, List.getElem?_cons_succ, Option.some.injEq, exists_eq_left', List.set_cons_zero, List.set_cons_succ]
      refine Ok.bnd (count_ok ((hS12.trans hS3).bn hbm) fun m4 hS4 => ?_)
      have hS14 := (hS12.trans hS3).trans hS4
      simp -implicitDefEqProofs only [lp_some', mc_true, mc_false, ok_ret, ok_mc, ok_snap, aBin_add, aBin_sub, aBin_mul, aBin_lss, aBin_leq, aBin_gtr, aBin_geq, aBin_eql, aBin_neq, aBin_eqlStr, aBin_neqStr, strEq_bs, aBin_eqlNil, aBin_eqlNil', aBin_neqNil, aBin_neqNil', aUn_not, aUn_neg, aNil_ptr, aOff_ptr, aInt_int, aLenStr_str, aLenS_slice, aLenS_nil, aFold_min, aFold_max, bs_size, bs_empty, Nat.zero_add, Nat.add_zero, Nat.reduceAdd, ok_load, Mem.get_set, Mem.set_set, List.getElem?_cons_zero, List.getElem?_cons_succ, Option.some.injEq, exists_eq_left', List.set_cons_zero, List.set_cons_succ]
      have hpe : pP q j b = (belowO (((indexN b.p).getD 0 : Nat) : Int) ((countN (widthN j) (bandN q b.c (widthN j)) : Nat) : Int)).getD [] := if_pos h2
      rw [hpe] at hlast hple
      refine Ok.bnd (Wst.puts putBelow_ok (hw.same' hS14) (by omega) fun m5 k1 k2 => ?_)
      simp -implicitDefEqProofs only [lp_some', mc_true, mc_false, ok_ret, ok_mc, ok_snap, aBin_add, aBin_sub, aBin_mul, aBin_lss, aBin_leq, aBin_gtr, aBin_geq, aBin_eql, aBin_neq, aBin_eqlStr, aBin_neqStr, strEq_bs, aBin_eqlNil, aBin_eqlNil', aBin_neqNil, aBin_neqNil', aUn_not, aUn_neg, aNil_ptr, aOff_ptr, aInt_int, aLenStr_str, aLenS_slice, aLenS_nil, aFold_min, aFold_max, bs_size, bs_empty, Nat.zero_add, Nat.add_zero, Nat.reduceAdd, ok_load, Mem.get_set, Mem.set_set, List.getElem?_cons_zero, List.getElem?_cons_succ, Option.some.injEq, exists_eq_left', List.set_cons_zero, List.set_cons_succ]
      exact hlast m5 k1 ((hS14.kept hKm).trans k2)
    · have d2 : ¬ (0 : Int) < (bandN q b.c (widthN j) : Int) := by omega
      have hpe : pP q j b = [] := if_neg h2
      rw [hpe] at hlast
      simp -implicitDefEqProofs only [d2, decide_false, Bool.false_eq_true, if_false]
      exact hlast m2 hw2' (hS12.kept hw.lt)
  · obtain rfl : j = 13 := by omega
    have d1 : ¬ ((13 : Nat) : Int) < (c.length : Int) := by omega
    rw [List.drop_eq_nil_of_le (by omega), pPs] at hx
    simp -implicitDefEqProofs only [List.getD_cons_zero, List.getD_cons_succ, code_writer_channel_l2, lp_some', mc_true, mc_false, ok_ret, ok_mc, ok_snap, aBin_add, aBin_sub, aBin_mul, aBin_lss, aBin_leq, aBin_gtr, aBin_geq, aBin_eql, aBin_neq, aBin_eqlStr, aBin_neqStr, strEq_bs, aBin_eqlNil, aBin_eqlNil', aBin_neqNil, aBin_neqNil', aUn_not, aUn_neg, aNil_ptr, aOff_ptr, aInt_int, aLenStr_str, aLenS_slice, aLenS_nil, aFold_min, aFold_max, bs_size, bs_empty, Nat.zero_add, Nat.add_zero, Nat.reduceAdd, ok_load, Mem.get_set, Mem.set_set, List.getElem?_cons_zero, List.getElem?_cons_succ, Option.some.injEq, exists_eq_left', List.set_cons_zero, List.set_cons_succ, d1, decide_false, Bool.false_eq_true, if_false]
    refine hq m ?_ hkept
    rw [← hx]
    exact hw

theorem fine_in {b : BandD} (h : (Lit.int .i64 b.f).wf = true) : b.f < 9223372036854775808 := (i64_wf h).2
theorem chan_l1_ok {K : Nat → Prop} {i i4 : Nat} {q : Int} {x0 : Iv} {m0 : Mem} {c : List BandD} {vb : AV} {Q : AV → Mem → Prop} (hv : BandsR K m0 vb c) (h13 : c.length = 13) (hn : x0.n + 3 * (40 * 26) < 2 ^ 38) (hK4 : K i4) (hg4 : m0.get i4 = .cells T_api_Chan 0 [vb])
    (hw : Wst K i [.int .i64 q] x0 m0) (hq : ∀ m', Wst K i [.int .i64 q] (x0.parts (fPs c ++ pPs q 0 c)) m' → Kept K m0 m' → Q (.tup []) m') :
    Ok (fun n => loopN (fun r l => code_writer_channel_l1 (fcall Tryz.prog ext1 n) n r (l.getD 0 .undef) (l.getD 1 .undef) (l.getD 2 .undef) (l.getD 3 .undef) (l.getD 4 .undef)) n [.ptr i 0, .ptr i4 0, vb, .int .i64 c.length, .int .i64 0]) m0 Q := by
  refine Ok.loop (fun k l m => ∃ (j : Nat) (x : Iv), k + j = 13 ∧ l = [.ptr i 0, .ptr i4 0, vb, .int .i64 c.length, .int .i64 j] ∧ x.n ≤ x0.n + 3 * (40 * j) ∧ x.parts (fPs (c.drop j)) = x0.parts (fPs c) ∧ Wst K i [.int .i64 q] x m ∧ Kept K m0 m) ?_ (k := 13) ⟨0, x0, rfl, rfl, Nat.le_refl _, rfl, hw, Kept.refl _ _⟩
  clear hw
  rintro k l m rec ⟨j, x, hk, rfl, hxn, hx, hw, hkept⟩ ih
  have hv' := hv.keep (m' := m) hkept.get
  by_cases h1 : j < 13
  · have d1 : (j : Int) < (c.length : Int) := by omega
    obtain ⟨b, hb, hdrop⟩ := drop_cons' (l := c) (i := j) (by omega)
    obtain ⟨b', o, ce, hix, hKb, hl3, hR, hl, hld⟩ := hv'.at hb
    obtain ⟨vp, rfl, hw1, hw2, hp⟩ := hR
    have hbm := hw.bn
    have hst := fun (k : Nat → AV → M AV) => ok_storeAll (i := m.next) (k := k) (Q := Q) (vs := [.int .i64 b.c, .int .i64 b.f, vp]) (n := 3) (Mem.get_alloc m (.cells T_api_Band 0 [.int .i64 0, .int .i64 0, .nilslice])) hbm rfl rfl (by simp [hp.one])
    have hg := Mem.get_alloc m (.cells T_api_Band 0 [.int .i64 b.c, .int .i64 b.f, vp])
    have hS1 := Same.alloc m (.cells T_api_Band 0 [.int .i64 b.c, .int .i64 b.f, vp])
    rw [hdrop, fPs, List.map_cons, List.flatten_cons, Iv.parts_append] at hx
    have e4 : IntKind.i64.wrap ((j : Int) + 1) = ((j + 1 : Nat) : Int) := by rw [IntWalk.i64_in _ (by omega)]; omega
    have hpn := Iv.parts_n (fP b) x
    have hple := fP_le b
    simp -implicitDefEqProofs only [List.getD_cons_zero, List.getD_cons_succ, code_writer_channel_l1, lp_some', mc_true, mc_false, ok_ret, ok_mc, ok_snap, aBin_add, aBin_sub, aBin_mul, aBin_lss, aBin_leq, aBin_gtr, aBin_geq, aBin_eql, aBin_neq, aBin_eqlStr, aBin_neqStr, strEq_bs, aBin_eqlNil, aBin_eqlNil', aBin_neqNil, aBin_neqNil', aUn_not, aUn_neg, aNil_ptr, aOff_ptr, aInt_int, aLenStr_str, aLenS_slice, aLenS_nil, aFold_min, aFold_max, bs_size, bs_empty, Nat.zero_add, Nat.add_zero, Nat.reduceAdd, ok_load, Mem.get_set, Mem.set_set, List.getElem?_cons_zero, List.getElem?_cons_succ, Option.some.injEq, exists_eq_left', List.set_cons_zero, List.set_cons_succ, d1, decide_true, if_true, hix, hl, ok_alloc, hst, Mem.alloc_set, load_at hg]
    generalize m.alloc (.cells T_api_Band 0 [.int .i64 b.c, .int .i64 b.f, vp]) = m1 at *
    have hw1' := hw.same' hS1
    have hlast : ∀ m', Wst K i [.int .i64 q] (x.parts (fP b)) m' → Kept K m m' → Ok (fun n => code_writer_channel_j0 (fcall Tryz.prog ext1 n) n (rec n) (.ptr i 0) (.ptr i4 0) vb (.int .i64 c.length) (.int .i64 j)) m' Q := by
      intro m' k1 k2
      simp -implicitDefEqProofs only [code_writer_channel_j0, lp_some', mc_true, mc_false, ok_ret, ok_mc, ok_snap, aBin_add, aBin_sub, aBin_mul, aBin_lss, aBin_leq, aBin_gtr, aBin_geq, aBin_eql, aBin_neq, aBin_eqlStr, aBin_neqStr, strEq_bs, aBin_eqlNil, aBin_eqlNil', aBin_neqNil, aBin_neqNil', aUn_not, aUn_neg, aNil_ptr, aOff_ptr, aInt_int, aLenStr_str, aLenS_slice, aLenS_nil, aFold_min, aFold_max, bs_size, bs_empty, Nat.zero_add, Nat.add_zero, Nat.reduceAdd, ok_load, Mem.get_set, Mem.set_set, List.getElem?_cons_zero, List.getElem?_cons_succ, Option.some.injEq, exists_eq_left', List.set_cons_zero, List.set_cons_succ, e4]
      exact ih (k - 1) _ _ (by omega) ⟨j + 1, _, by omega, rfl, by omega, hx, k1, hkept.trans k2⟩
    by_cases h2 : 0 < b.c
    · have hpe : fP b = (bitsO b.f 2).getD [] := if_pos h2
      rw [hpe] at hlast hple
      simp -implicitDefEqProofs only [h2, decide_true, if_true, load_at hg, lp_some', mc_true, mc_false, ok_ret, ok_mc, ok_snap, aBin_add, aBin_sub, aBin_mul, aBin_lss, aBin_leq, aBin_gtr, aBin_geq, aBin_eql, aBin_neq, aBin_eqlStr, aBin_neqStr, strEq_bs, aBin_eqlNil, aBin_eqlNil', aBin_neqNil, aBin_neqNil', aUn_not, aUn_neg, aNil_ptr, aOff_ptr, aInt_int, aLenStr_str, aLenS_slice, aLenS_nil, aFold_min, aFold_max, bs_size, bs_empty, Nat.zero_add, Nat.add_zero, Nat.reduceAdd, ok_load, Mem.get_set, Mem.set_set, List.getElem?_cons_zero, List.getElem?_cons_succ, Option.some.injEq, exists_eq_left', List.set_cons_zero, List.set_cons_succ]
      refine Ok.bnd (Wst.puts (putBits_ok (fine_in hw2)) hw1' (by omega) fun m5 k1 k2 => ?_)
      simp -implicitDefEqProofs only [lp_some', mc_true, mc_false, ok_ret, ok_mc, ok_snap, aBin_add, aBin_sub, aBin_mul, aBin_lss, aBin_leq, aBin_gtr, aBin_geq, aBin_eql, aBin_neq, aBin_eqlStr, aBin_neqStr, strEq_bs, aBin_eqlNil, aBin_eqlNil', aBin_neqNil, aBin_neqNil', aUn_not, aUn_neg, aNil_ptr, aOff_ptr, aInt_int, aLenStr_str, aLenS_slice, aLenS_nil, aFold_min, aFold_max, bs_size, bs_empty, Nat.zero_add, Nat.add_zero, Nat.reduceAdd, ok_load, Mem.get_set, Mem.set_set, List.getElem?_cons_zero, List.getElem?_cons_succ, Option.some.injEq, exists_eq_left', List.set_cons_zero, List.set_cons_succ]
      exact hlast m5 k1 ((hS1.kept hw.lt).trans k2)
    · have hpe : fP b = [] := if_neg h2
      rw [hpe] at hlast
      simp -implicitDefEqProofs only [h2, decide_false, Bool.false_eq_true, if_false]
      exact hlast m1 hw1' (hS1.kept hw.lt)
  · obtain rfl : j = 13 := by omega
    have d1 : ¬ ((13 : Nat) : Int) < (c.length : Int) := by omega
    rw [List.drop_eq_nil_of_le (by omega)] at hx
    have hg4' := (hkept.get i4 hK4).trans hg4
    simp -implicitDefEqProofs only [List.getD_cons_zero, List.getD_cons_succ, code_writer_channel_l1, lp_some', mc_true, mc_false, ok_ret, ok_mc, ok_snap, aBin_add, aBin_sub, aBin_mul, aBin_lss, aBin_leq, aBin_gtr, aBin_geq, aBin_eql, aBin_neq, aBin_eqlStr, aBin_neqStr, strEq_bs, aBin_eqlNil, aBin_eqlNil', aBin_neqNil, aBin_neqNil', aUn_not, aUn_neg, aNil_ptr, aOff_ptr, aInt_int, aLenStr_str, aLenS_slice, aLenS_nil, aFold_min, aFold_max, bs_size, bs_empty, Nat.zero_add, Nat.add_zero, Nat.reduceAdd, ok_load, Mem.get_set, Mem.set_set, List.getElem?_cons_zero, List.getElem?_cons_succ, Option.some.injEq, exists_eq_left', List.set_cons_zero, List.set_cons_succ, d1, decide_false, Bool.false_eq_true, if_false, load_at hg4', hv'.len]
    refine chan_l2_ok hv' h13 (by omega) hw fun m' k1 k2 => hq m' ?_ (hkept.trans k2)
    rw [Iv.parts_append, ← hx]
    exact k1
theorem chan_l0_ok {K : Nat → Prop} {i i4 : Nat} {q : Int} {x0 : Iv} {m0 : Mem} {c : List BandD} {d : List Int} {vb vd : AV} {Q : AV → Mem → Prop} (hv : BandsR K m0 vb c) (h13 : c.length = 13) (hd : IntsR K m0 vd d) (hd13 : d.length ≤ 13) (hn : x0.n + 3 * (40 * 39) < 2 ^ 38) (hK4 : K i4) (hg4 : m0.get i4 = .cells T_api_Chan 0 [vb])
    (hw : Wst K i [.int .i64 q] x0 m0) (hq : ∀ m', Wst K i [.int .i64 q] (x0.parts (chanP q c d)) m' → Kept K m0 m' → Q (.tup []) m') :
    Ok (fun n => loopN (fun r l => code_writer_channel_l0 (fcall Tryz.prog ext1 n) n r (l.getD 0 .undef) (l.getD 1 .undef) (l.getD 2 .undef) (l.getD 3 .undef) (l.getD 4 .undef)) n [.ptr i 0, .ptr i4 0, vd, .int .i64 d.length, .int .i64 0]) m0 Q := by
  refine Ok.loop (fun k l m => ∃ (j : Nat) (x : Iv), k + j = d.length ∧ l = [.ptr i 0, .ptr i4 0, vd, .int .i64 d.length, .int .i64 j] ∧ x.n ≤ x0.n + 3 * (40 * j) ∧ x.parts (dPs (d.drop j)) = x0.parts (dPs d) ∧ Wst K i [.int .i64 q] x m ∧ Kept K m0 m) ?_ (k := d.length) ⟨0, x0, rfl, rfl, Nat.le_refl _, rfl, hw, Kept.refl _ _⟩
  clear hw
  rintro k l m rec ⟨j, x, hk, rfl, hxn, hx, hw, hkept⟩ ih
  have hd' := hd.keep (m' := m) hkept.get
  by_cases h1 : j < d.length
  · have d1 : (j : Int) < (d.length : Int) := by omega
    obtain ⟨y, hy, hdrop⟩ := drop_cons' h1
    obtain ⟨b', o, ce, hix, hKb, -, ⟨rfl, -⟩, -, hld⟩ := hd'.at hy
    have hld0 : load? none (.ptr b' o) m = some (.int .i64 y) := hld 0 _ rfl
    rw [hdrop, dPs, List.map_cons, List.flatten_cons, Iv.parts_append] at hx
    have e4 : IntKind.i64.wrap ((j : Int) + 1) = ((j + 1 : Nat) : Int) := by rw [IntWalk.i64_in _ (by omega)]; omega
    have hpn := Iv.parts_n (dP y) x
    have hple := dP_le y
    simp -implicitDefEqProofs only [List.getD_cons_zero, List.getD_cons_succ, code_writer_channel_l0, lp_some', mc_true, mc_false, ok_ret, ok_mc, ok_snap, aBin_add, aBin_sub, aBin_mul, aBin_lss, aBin_leq, aBin_gtr, aBin_geq, aBin_eql, aBin_neq, aBin_eqlStr, aBin_neqStr, strEq_bs, aBin_eqlNil, aBin_eqlNil', aBin_neqNil, aBin_neqNil', aUn_not, aUn_neg, aNil_ptr, aOff_ptr, aInt_int, aLenStr_str, aLenS_slice, aLenS_nil, aFold_min, aFold_max, bs_size, bs_empty, Nat.zero_add, Nat.add_zero, Nat.reduceAdd, ok_load, Mem.get_set, Mem.set_set, List.getElem?_cons_zero, List.getElem?_cons_succ, Option.some.injEq, exists_eq_left', List.set_cons_zero, List.set_cons_succ, d1, decide_true, if_true, hix, hld0]
    refine Ok.bnd (Wst.puts (ps := dP y) putDelta_ok hw (by omega) fun m5 k1 k2 => ?_)
    simp -implicitDefEqProofs only [lp_some', mc_true, mc_false, ok_ret, ok_mc, ok_snap, aBin_add, aBin_sub, aBin_mul, aBin_lss, aBin_leq, aBin_gtr, aBin_geq, aBin_eql, aBin_neq, aBin_eqlStr, aBin_neqStr, strEq_bs, aBin_eqlNil, aBin_eqlNil', aBin_neqNil, aBin_neqNil', aUn_not, aUn_neg, aNil_ptr, aOff_ptr, aInt_int, aLenStr_str, aLenS_slice, aLenS_nil, aFold_min, aFold_max, bs_size, bs_empty, Nat.zero_add, Nat.add_zero, Nat.reduceAdd, ok_load, Mem.get_set, Mem.set_set, List.getElem?_cons_zero, List.getElem?_cons_succ, Option.some.injEq, exists_eq_left', List.set_cons_zero, List.set_cons_succ, e4]
    exact ih (k - 1) _ _ (by omega) ⟨j + 1, _, by omega, rfl, by omega, hx, k1, hkept.trans k2⟩
  · obtain rfl : j = d.length := by omega
    have d1 : ¬ (d.length : Int) < (d.length : Int) := by omega
    rw [List.drop_length] at hx
    have hg4' := (hkept.get i4 hK4).trans hg4
    have hv' := hv.keep (m' := m) hkept.get
    simp -implicitDefEqProofs only [List.getD_cons_zero, List.getD_cons_succ, code_writer_channel_l0, lp_some', mc_true, mc_false, ok_ret, ok_mc, ok_snap, aBin_add, aBin_sub, aBin_mul, aBin_lss, aBin_leq, aBin_gtr, aBin_geq, aBin_eql, aBin_neq, aBin_eqlStr, aBin_neqStr, strEq_bs, aBin_eqlNil, aBin_eqlNil', aBin_neqNil, aBin_neqNil', aUn_not, aUn_neg, aNil_ptr, aOff_ptr, aInt_int, aLenStr_str, aLenS_slice, aLenS_nil, aFold_min, aFold_max, bs_size, bs_empty, Nat.zero_add, Nat.add_zero, Nat.reduceAdd, ok_load, Mem.get_set, Mem.set_set, List.getElem?_cons_zero, List.getElem?_cons_succ, Option.some.injEq, exists_eq_left', List.set_cons_zero, List.set_cons_succ, d1, decide_false, Bool.false_eq_true, if_false, load_at hg4', hv'.len]
    refine chan_l1_ok hv' h13 (by omega) hK4 hg4' hw fun m' k1 k2 => hq m' ?_ (hkept.trans k2)
    rw [chanP, Iv.parts_append, ← hx]
    exact k1
theorem channel_ok {K : Nat → Prop} {i : Nat} {q : Int} {x0 : Iv} {m : Mem} {c : List BandD} {d : List Int} {vb vd : AV} {Q : AV → Mem → Prop} (hv : BandsR K m vb c) (h13 : c.length = 13) (hd : IntsR K m vd d) (hd13 : d.length ≤ 13) (hn : x0.n + 3 * (40 * 39) < 2 ^ 38)
    (hw : Wst K i [.int .i64 q] x0 m) (hq : ∀ m', Wst K i [.int .i64 q] (x0.parts (chanP q c d)) m' → Kept K m m' → Q (.tup []) m') : Ok (R fn_code_writer_channel [.ptr i 0, .agg [vb], vd]) m Q := by
  refine Ok.call (fun n => code_writer_channel_eq rfl n _ _ _) ?_
  have hS1 := Same.alloc m (.cells T_api_Chan 0 [vb])
  have hg := Mem.get_alloc m (.cells T_api_Chan 0 [vb])
  have hnx : m.next < (m.alloc (.cells T_api_Chan 0 [vb])).next := Nat.lt_succ_self _
  simp -implicitDefEqProofs only [code_writer_channel, ok_box, lp_some', mc_true, mc_false, ok_ret, ok_mc, ok_snap, aBin_add, aBin_sub, aBin_mul, aBin_lss, aBin_leq, aBin_gtr, aBin_geq, aBin_eql, aBin_neq, aBin_eqlStr, aBin_neqStr, strEq_bs, aBin_eqlNil, aBin_eqlNil', aBin_neqNil, aBin_neqNil', aUn_not, aUn_neg, aNil_ptr, aOff_ptr, aInt_int, aLenStr_str, aLenS_slice, aLenS_nil, aFold_min, aFold_max, bs_size, bs_empty, Nat.zero_add, Nat.add_zero, Nat.reduceAdd, ok_load, Mem.get_set, Mem.set_set, List.getElem?_cons_zero, List.getElem?_cons_succ, Option.some.injEq, exists_eq_left', List.set_cons_zero, List.set_cons_succ, hd.len]
  generalize m.alloc (.cells T_api_Chan 0 [vb]) = m1 at *
  have hkm : ∀ b, K b → m1.get b = m.get b := fun b hb => hS1.get (hw.lt b hb)
  have hw1 := hw.same hS1
  refine chan_l0_ok (K := fun b => K b ∨ (m.next ≤ b ∧ b < m1.next)) ((hv.keep hkm).mono (fun b hb => .inl hb) ?_) h13 ((hd.keep hkm).mono fun b hb => .inl hb) hd13 hn (.inr ⟨Nat.le_refl _, hnx⟩) hg hw1 fun m' k1 k2 => hq m' (k1.mono fun b hb => .inl hb) ((hS1.kept hw.lt).trans (k2.mono fun b hb => .inl hb))
  rintro ce x ⟨v, h1, h2, h3, h4⟩
  exact ⟨v, h1, h2, h3, h4.mono fun b hb => .inl hb⟩

/-! frames -/
def AheadP (p : List (List Int)) (n : Int) : Prop := (p.length : Int) = n ∧ ∀ r ∈ p, RightP r
theorem ahead_ok {K : Nat → Prop} {p : List (List Int)} {vp : AV} {n : Int} {m : Mem} {Q : AV → Mem → Prop} (hp : RowsR K m vp p) (hlen : p.length ≤ 1000) (hlen2 : ∀ r ∈ p, r.length ≤ 1000)
    (h1 : AheadP p n → Q vp m) (h2 : ¬ AheadP p n → Q .nilslice m) : Ok (R fn_code_ahead [vp, .int .i64 n]) m Q := by
  refine Ok.call (fun k => code_ahead_eq rfl k _ _) ?_
  simp -implicitDefEqProofs only [code_ahead, lp_some', mc_true, mc_false, ok_ret, ok_mc, ok_snap, aBin_add, aBin_sub, aBin_mul, aBin_lss, aBin_leq, aBin_gtr, aBin_geq, aBin_eql, aBin_neq, aBin_eqlStr, aBin_neqStr, strEq_bs, aBin_eqlNil, aBin_eqlNil', aBin_neqNil, aBin_neqNil', aUn_not, aUn_neg, aNil_ptr, aOff_ptr, aInt_int, aLenStr_str, aLenS_slice, aLenS_nil, aFold_min, aFold_max, bs_size, bs_empty, Nat.zero_add, Nat.add_zero, Nat.reduceAdd, ok_load, Mem.get_set, Mem.set_set, List.getElem?_cons_zero, List.getElem?_cons_succ, Option.some.injEq, exists_eq_left', List.set_cons_zero, List.set_cons_succ, hp.len]
  by_cases h3 : (p.length : Int) = n
  · simp -implicitDefEqProofs only [h3, ne_eq, not_true_eq_false, decide_false, Bool.false_eq_true, if_false]
    rw [← h3]
    refine Ok.loop (fun k l m' => m' = m ∧ ∃ i : Nat, k + i = p.length ∧ l = [vp, vp, .int .i64 p.length, .int .i64 i] ∧ ∀ r ∈ p.take i, RightP r) ?_ (k := p.length) ⟨rfl, 0, rfl, rfl, fun _ h => by simp at h⟩
    rintro k l m' rec ⟨rfl, i, hk, rfl, hall⟩ ih
    by_cases h4 : i < p.length
    · have d1 : (i : Int) < (p.length : Int) := by omega
      obtain ⟨r, hr⟩ : ∃ r, p[i]? = some r := ⟨p[i], List.getElem?_eq_getElem h4⟩
      obtain ⟨b', o, ce, hix, hKb, -, ⟨vr, rfl, hR⟩, -, hld⟩ := hp.at hr
      have hld0 : load? none (.ptr b' o) m' = some vr := hld 0 _ rfl
      have hmem := List.mem_of_getElem? hr
      have hl2 := hlen2 r hmem
      have e2 : IntKind.i64.wrap ((i : Int) + 1) = ((i + 1 : Nat) : Int) := by rw [IntWalk.i64_in _ (by omega)]; omega
      simp -implicitDefEqProofs only [List.getD_cons_zero, List.getD_cons_succ, code_ahead_l0, lp_some', mc_true, mc_false, ok_ret, ok_mc, ok_snap, aBin_add, aBin_sub, aBin_mul, aBin_lss, aBin_leq, aBin_gtr, aBin_geq, aBin_eql, aBin_neq, aBin_eqlStr, aBin_neqStr, strEq_bs, aBin_eqlNil, aBin_eqlNil', aBin_neqNil, aBin_neqNil', aUn_not, aUn_neg, aNil_ptr, aOff_ptr, aInt_int, aLenStr_str, aLenS_slice, aLenS_nil, aFold_min, aFold_max, bs_size, bs_empty, Nat.zero_add, Nat.add_zero, Nat.reduceAdd, ok_load, Mem.get_set, Mem.set_set, List.getElem?_cons_zero, List.getElem?_cons_succ, Option.some.injEq, exists_eq_left', List.set_cons_zero, List.set_cons_succ, d1, decide_true, if_true, hix, hld0]
      refine Ok.bnd (eright_ok hR (by omega) ?_)
      by_cases h5 : RightP r
      · simp -implicitDefEqProofs only [h5, decide_true, lp_some', mc_true, mc_false, ok_ret, ok_mc, ok_snap, aBin_add, aBin_sub, aBin_mul, aBin_lss, aBin_leq, aBin_gtr, aBin_geq, aBin_eql, aBin_neq, aBin_eqlStr, aBin_neqStr, strEq_bs, aBin_eqlNil, aBin_eqlNil', aBin_neqNil, aBin_neqNil', aUn_not, aUn_neg, aNil_ptr, aOff_ptr, aInt_int, aLenStr_str, aLenS_slice, aLenS_nil, aFold_min, aFold_max, bs_size, bs_empty, Nat.zero_add, Nat.add_zero, Nat.reduceAdd, ok_load, Mem.get_set, Mem.set_set, List.getElem?_cons_zero, List.getElem?_cons_succ, Option.some.injEq, exists_eq_left', List.set_cons_zero, List.set_cons_succ, Bool.not_true, Bool.false_eq_true, if_false, e2]
        refine ih (k - 1) _ _ (by omega) ⟨rfl, i + 1, by omega, rfl, fun r' hr' => ?_⟩
        rw [List.take_add_one, List.mem_append] at hr'
        rcases hr' with h | h
        · exact hall r' h
        · rw [hr] at h
          simp at h
          rw [h]; exact h5
      · simp -implicitDefEqProofs only [h5, decide_false, lp_some', mc_true, mc_false, ok_ret, ok_mc, ok_snap, aBin_add, aBin_sub, aBin_mul, aBin_lss, aBin_leq, aBin_gtr, aBin_geq, aBin_eql, aBin_neq, aBin_eqlStr, aBin_neqStr, strEq_bs, aBin_eqlNil, aBin_eqlNil', aBin_neqNil, aBin_neqNil', aUn_not, aUn_neg, aNil_ptr, aOff_ptr, aInt_int, aLenStr_str, aLenS_slice, aLenS_nil, aFold_min, aFold_max, bs_size, bs_empty, Nat.zero_add, Nat.add_zero, Nat.reduceAdd, ok_load, Mem.get_set, Mem.set_set, List.getElem?_cons_zero, List.getElem?_cons_succ, Option.some.injEq, exists_eq_left', List.set_cons_zero, List.set_cons_succ, Bool.not_false, if_true]
        exact h2 (fun h => h5 (h.2 r hmem))
    · obtain rfl : i = p.length := by omega
      have d1 : ¬ (p.length : Int) < (p.length : Int) := by omega
      rw [List.take_length] at hall
      simp -implicitDefEqProofs only [List.getD_cons_zero, List.getD_cons_succ, code_ahead_l0, lp_some', mc_true, mc_false, ok_ret, ok_mc, ok_snap, aBin_add, aBin_sub, aBin_mul, aBin_lss, aBin_leq, aBin_gtr, aBin_geq, aBin_eql, aBin_neq, aBin_eqlStr, aBin_neqStr, strEq_bs, aBin_eqlNil, aBin_eqlNil', aBin_neqNil, aBin_neqNil', aUn_not, aUn_neg, aNil_ptr, aOff_ptr, aInt_int, aLenStr_str, aLenS_slice, aLenS_nil, aFold_min, aFold_max, bs_size, bs_empty, Nat.zero_add, Nat.add_zero, Nat.reduceAdd, ok_load, Mem.get_set, Mem.set_set, List.getElem?_cons_zero, List.getElem?_cons_succ, Option.some.injEq, exists_eq_left', List.set_cons_zero, List.set_cons_succ, d1, decide_false, Bool.false_eq_true, if_false]
      exact h1 ⟨h3, hall⟩
  · simp -implicitDefEqProofs only [h3, ne_eq, not_false_eq_true, decide_true, if_true]
    exact h2 (fun h => h3 h.1)

/-- The rows behind which each channel is coded. -/
def lastN (f : FrameD) (p : List (List Int)) (i : Nat) : List Int := if f.intra then [] else p.getD i []
def chansP (q : Int) (f : FrameD) (p : List (List Int)) : Nat → List (List BandD) → List Pt
  | _, [] => []
  | i, c :: l => chanP q c (deltasO f.intra (lastN f p i) (c.map BandD.c)) ++ chansP q f p (i + 1) l
def headP (f : FrameD) (n : Int) : List Pt := bitsP 1 (if f.short then 1 else 0) ++ ((if n = 2 then bitsP 1 (if f.side then 1 else 0) else []) ++ (bitsP 1 (if f.intra then 1 else 0) ++ (belowO (f.gain + 64) 97).getD []))
def frameP (f : FrameD) (n q : Int) (p : List (List Int)) : List Pt := headP f n ++ chansP q f p 0 f.chans
def PutP (f : FrameD) (n q : Int) (p : List (List Int)) : Prop := FitP f n q ∧ (f.intra = true ∨ AheadP p n)
theorem headP_le (f : FrameD) (n : Int) : (headP f n).length ≤ 160 := by
  have h1 := bitsP_length 1 (if f.short then 1 else 0)
  have h2 := bitsP_length 1 (if f.side then 1 else 0)
  have h3 := bitsP_length 1 (if f.intra then 1 else 0)
  have h4 : ((belowO (f.gain + 64) 97).getD []).length ≤ 40 := getD_le fun _ h => (belowO_right h).2
  have h5 : (if n = 2 then bitsP 1 (if f.side then 1 else 0) else []).length ≤ 1 := by
    by_cases h : n = 2
    · rw [if_pos h]; exact h2
    · rw [if_neg h]; exact Nat.zero_le _
  unfold headP
  simp -implicitDefEqProofs only [List.length_append]
  omega
theorem chanP_le {q : Int} {c : List BandD} {d : List Int} (hc : c.length = 13) (hd : d.length ≤ 13) : (chanP q c d).length ≤ 40 * 39 := by
  have h1 := dPs_le d
  have h2 := fPs_le c
  have h3 := pPs_le q c 0
  simp -implicitDefEqProofs only [chanP, List.length_append]
  omega
theorem deltasO_length (intra : Bool) (p c : List Int) : (deltasO intra p c).length ≤ c.length := by
  unfold deltasO
  split
  · rw [deltasN_length]; exact Nat.le_refl _
  · exact Nat.zero_le _
end SplA
