/- Texts of the abstract machine and of the walks, part 6. -/
import Derived.Test.YtooogfnmhfocjaaGreatDoorSplM5
import Derived.KernelRfl

/- The law CodeGets. -/
namespace SplA
open Go.Proofs.YtooogfnmhfocjaaGreatDoor.Spl Go Go.Proofs
set_option maxRecDepth 100000
set_option linter.unusedVariables false
set_option linter.unusedSimpArgs false

def zeroD : FrameD := ⟨false, false, false, 0, []⟩
/-- What Get tells: a frame, and why not. -/
def GetS (s : List UInt8) (n q : Int) (p : List (List Int)) (F : FrameD) (e : Int) : Prop :=
  (getE s n q = 0 ∧ GetP s n q p F ∧ e = 0) ∨ (getE s n q = 0 ∧ (∀ f, ¬ GetP s n q p f) ∧ F = zeroD ∧ e = 4) ∨ (getE s n q ≠ 0 ∧ F = zeroD ∧ e = getE s n q)
theorem getS_some (s : List UInt8) (n q : Int) (p : List (List Int)) : ∃ F e, GetS s n q p F e := by
  by_cases hE : getE s n q = 0
  · by_cases hG : ∃ f, GetP s n q p f
    · obtain ⟨f, hf⟩ := hG
      exact ⟨f, 0, .inl ⟨hE, hf, rfl⟩⟩
    · exact ⟨zeroD, 4, .inr (.inl ⟨hE, fun f hf => hG ⟨f, hf⟩, rfl, rfl⟩)⟩
  · exact ⟨zeroD, _, .inr (.inr ⟨hE, rfl, rfl⟩)⟩
theorem fit_few {f : FrameD} {n q : Int} (h : FitP f n q) : FewP f.chans := by
  refine ⟨by have := h.1; have := h.2.1; omega, fun c hc => ?_⟩
  have hcP := h.2.2.2.2.2 c hc
  refine ⟨by rw [hcP.1]; decide, fun b hb => ?_⟩
  obtain ⟨k, hk⟩ := List.getElem?_of_mem hb
  have := (hcP.2 k b hk).2.1
  have := widthN_le k
  omega
theorem getS_few {s : List UInt8} {n q : Int} {p : List (List Int)} {F : FrameD} {e : Int} (h : GetS s n q p F e) : FewP F.chans := by
  rcases h with ⟨-, h, -⟩ | ⟨-, -, rfl, -⟩ | ⟨-, rfl, -⟩
  · exact fit_few h.2.1.1
  · exact ⟨Nat.zero_le _, fun c hc => by simp [zeroD] at hc⟩
  · exact ⟨Nat.zero_le _, fun c hc => by simp [zeroD] at hc⟩
theorem zero_chans (K : Nat → Prop) (m : Mem) : ChansR K m .nilslice zeroD.chans := .inl ⟨.inl rfl, rfl⟩
theorem getP_one {s : List UInt8} {n q : Int} {p : List (List Int)} {f g : FrameD} (h : GetP s n q p f) (h' : GetP s n q p g) : g = f := by
  have := h'.1
  rw [h.1] at this
  exact (Option.some.inj this).symm
theorem get_spec {K : Nat → Prop} {s : List UInt8} {p : List (List Int)} {n q e : Int} {F : FrameD} {m : Mem} {vp : AV} {Q : AV → Mem → Prop} (hS : GetS s n q p F e) (hK : ∀ b, K b → b < m.next) (hbn : m.base ≤ m.next) (hp : RowsR K m vp p) (hlen : p.length ≤ 1000) (hlen2 : ∀ r ∈ p, r.length ≤ 1000)
    (hq : ∀ m' u, Same m m' → ChansR (fun b => m.next ≤ b ∧ b < m'.next) m' u F.chans → Q (.tup [.agg (frameC F u), .int .i64 e]) m') : Ok (R fn_code_Get [.str (bs s), .int .i64 n, .int .i64 q, vp]) m Q := by
  refine get_ok hK hbn hp hlen hlen2 (fun m' u f hE hG hSm hu => ?_) (fun m' hE hSm => ?_) (fun m' hE hG hSm => ?_)
  · rcases hS with ⟨-, h, rfl⟩ | ⟨-, h, -, -⟩ | ⟨h, -, -⟩
    · obtain rfl := getP_one h hG
      exact hq m' u hSm hu
    · exact absurd hG (h f)
    · exact absurd hE h
  · rcases hS with ⟨h, -, -⟩ | ⟨h, -, -, -⟩ | ⟨-, rfl, rfl⟩
    · exact absurd h hE
    · exact absurd h hE
    · exact hq m' .nilslice hSm (zero_chans _ _)
  · rcases hS with ⟨-, h, -⟩ | ⟨-, -, rfl, rfl⟩ | ⟨h, -, -⟩
    · exact absurd h (hG F)
    · exact hq m' .nilslice hSm (zero_chans _ _)
    · exact absurd hE h
theorem rget_spec {K : Nat → Prop} {s : List UInt8} {p : List (List Int)} {n q e : Int} {F : FrameD} {m : Mem} {vp : AV} {Q : AV → Mem → Prop} (hS : GetS s n q p F e) (hK : ∀ b, K b → b < m.next) (hbn : m.base ≤ m.next) (hp : RowsR K m vp p) (hlen : p.length ≤ 1000)
    (hq : ∀ m' u, Same m m' → ChansR (fun b => m.next ≤ b ∧ b < m'.next) m' u F.chans → Q (.tup [.agg (frameC F u), .int .i64 e]) m') : Ok (R fn_ref22_Get [.str (bs s), .int .i64 n, .int .i64 q, vp]) m Q := by
  refine rget_ok hK hbn hp hlen (fun m' u f hE hG hSm hu => ?_) (fun m' hE hSm => ?_) (fun m' hE hG hSm => ?_)
  · rcases hS with ⟨-, h, rfl⟩ | ⟨-, h, -, -⟩ | ⟨h, -, -⟩
    · obtain rfl := getP_one h hG
      exact hq m' u hSm hu
    · exact absurd hG (h f)
    · exact absurd hE h
  · rcases hS with ⟨h, -, -⟩ | ⟨h, -, -, -⟩ | ⟨-, rfl, rfl⟩
    · exact absurd h hE
    · exact absurd h hE
    · exact hq m' .nilslice hSm (zero_chans _ _)
  · rcases hS with ⟨-, h, -⟩ | ⟨-, -, rfl, rfl⟩ | ⟨h, -, -⟩
    · exact absurd h (hG F)
    · exact hq m' .nilslice hSm (zero_chans _ _)
    · exact absurd hE h

theorem codeGets_ok {K : Nat → Prop} {s : List UInt8} {p : List (List Int)} {n q : Int} {m : Mem} {vp : AV} (hK : ∀ b, K b → b < m.next) (hbn : m.base ≤ m.next) (hp : RowsR K m vp p) (hl : p.length ≤ 9223372036854775807) :
    Ok (R fn_law22_CodeGets [.str (bs s), .int .i64 n, .int .i64 q, vp]) m (fun v _ => v = .bool true) := by
  refine Ok.call (fun k => law22_CodeGets_eq rfl k _ _ _ _) ?_
  have haw : Ok (fun k => law22_CodeGets_j0 (fcall Tryz.prog ext1 k) k (.str (bs s)) (.int .i64 n) (.int .i64 q) vp (.bool true)) m (fun v _ => v = .bool true) := by
    simp -implicitDefEqProofs only [law22_CodeGets_j0, simpS, Nat.reduceAdd, if_true]
    refine Ok.bnd (awake_ok ?_)
    simp -implicitDefEqProofs only [simpS, Nat.reduceAdd]
  simp -implicitDefEqProofs only [law22_CodeGets, simpS, Nat.reduceAdd]
  by_cases h1 : (1100 : Int) < (s.length : Int)
  · simp -implicitDefEqProofs only [h1, decide_true, if_true]
    exact haw
  simp -implicitDefEqProofs only [h1, decide_false, Bool.false_eq_true, if_false]
  refine Ok.bnd (few22_ok hp hl fun b hb => ?_)
  cases b with
  | false =>
    simp -implicitDefEqProofs only [simpS, Nat.reduceAdd, Bool.not_false]
    exact haw
  | true =>
    obtain ⟨hl4, hl15⟩ := hb rfl
    obtain ⟨F, e, hS⟩ := getS_some s n q p
    have hfew := getS_few hS
    simp -implicitDefEqProofs only [simpS, Nat.reduceAdd, Bool.not_true, law22_CodeGets_j0, Bool.false_eq_true, if_false]
    refine Ok.bnd (get_spec hS hK hbn hp (by omega) (fun r hr => by have := hl15 r hr; omega) fun m1 u hS1 hu => ?_)
    have hbn1 := hS1.bn hbn
    have hst1 := fun (k : Nat → AV → M AV) => ok_storeAll (i := m1.next) (k := k) (Q := fun v _ => v = .bool true) (vs := frameC F u) (n := 5) (Mem.get_alloc m1 (.cells T_api_Frame 0 [.bool false, .bool false, .bool false, .int .i64 0, .nilslice])) hbn1 rfl rfl (by simp [frameC, SlR.one hu])
    simp -implicitDefEqProofs only [aExt, simpS, Nat.reduceAdd, ok_alloc, hst1, Mem.alloc_set]
    have hS2 := Same.alloc m1 (.cells T_api_Frame 0 (frameC F u))
    have hg9 := Mem.get_alloc m1 (.cells T_api_Frame 0 (frameC F u))
    have hnx2 : (m1.alloc (.cells T_api_Frame 0 (frameC F u))).next = m1.next + 1 := rfl
    generalize m1.alloc (.cells T_api_Frame 0 (frameC F u)) = m2 at *
    have hS02 := hS1.trans hS2
    refine Ok.bnd (rget_spec hS (fun b hb => Nat.lt_of_lt_of_le (hK b hb) hS02.next) (hS02.bn hbn) (hp.keep (m' := m2) fun b hb => hS02.get (hK b hb)) (by omega) fun m3 v hS3 hv => ?_)
    have hbn3 := (hS02.trans hS3).bn hbn
    have hst3 := fun (k : Nat → AV → M AV) => ok_storeAll (i := m3.next) (k := k) (Q := fun v _ => v = .bool true) (vs := frameC F v) (n := 5) (Mem.get_alloc m3 (.cells T_api_Frame 0 [.bool false, .bool false, .bool false, .int .i64 0, .nilslice])) hbn3 rfl rfl (by simp [frameC, SlR.one hv])
    simp -implicitDefEqProofs only [aExt, simpS, Nat.reduceAdd, ok_alloc, hst3, Mem.alloc_set]
    have hS4 := Same.alloc m3 (.cells T_api_Frame 0 (frameC F v))
    have hg11 := Mem.get_alloc m3 (.cells T_api_Frame 0 (frameC F v))
    have hnx4 : (m3.alloc (.cells T_api_Frame 0 (frameC F v))).next = m3.next + 1 := rfl
    generalize m3.alloc (.cells T_api_Frame 0 (frameC F v)) = m4 at *
    have hS34 := hS3.trans hS4
    have hn2 := hS2.next
    have hn3 := hS3.next
    have l9 : load? (some 5) (.ptr m1.next 0) m4 = some (.agg (frameC F u)) := by rw [load_at' ((hS34.get (by omega)).trans hg9)]; rfl
    have l11 : load? (some 5) (.ptr m3.next 0) m4 = some (.agg (frameC F v)) := by rw [load_at' hg11]; rfl
    simp -implicitDefEqProofs only [simpS, Nat.reduceAdd, l9, l11]
    refine Ok.bnd (same20_ok (hu.keep (m' := m4) fun b hb => (hS34.get (by omega)).trans (hS2.get hb.2)) (hv.keep (m' := m4) fun b hb => hS4.get hb.2) (fun b hb => by omega) (fun b hb => by omega) hfew fun m5 hS5 => ?_)
    simp -implicitDefEqProofs only [simpS, Nat.reduceAdd, decide_true, if_true]
    refine Ok.bnd (awake_ok ?_)
    simp -implicitDefEqProofs only [law22_CodeGets_j1, simpS, Nat.reduceAdd]
end SplA

/- Frames as arguments. -/
namespace SplA
open Go.Proofs.YtooogfnmhfocjaaGreatDoor.Spl Go Go.Proofs Go.RowKit
set_option linter.unusedVariables false
set_option linter.unusedSimpArgs false
variable {H : Type} {enc : TypeId × Value → H} {P : Program} {W : World} {sp : Nat → Bool} {hd : Bool}

theorem field_at {fs : Array Field} {L : List (TypeId × Nat)} (h : fs.toList.map (fun f => (f.type, f.offset)) = L) {j : Nat} {t : TypeId} {o : Nat} (hj : L[j]? = some (t, o)) : ∃ f, fs.toList[j]? = some f ∧ f.type = t ∧ f.offset = o := by
  rw [← h, List.getElem?_map] at hj
  obtain ⟨f, h1, h2⟩ := Option.map_eq_some_iff.1 hj
  exact ⟨f, h1, congrArg Prod.fst h2, congrArg Prod.snd h2⟩

theorem trod_band {fuel : Nat} {t ti tp : TypeId} {fs : Array Field} {cs : List Value} {x : DataW H × List MemPlace} (ht : P.underlying t = some (.struct fs)) (hfs : fs.toList.map (fun f => (f.type, f.offset)) = [(ti, 0), (ti, 1), (tp, 2)]) (hi : P.underlying ti = some (.int .i64)) (hp : P.underlying tp = some (.slice ti)) (hci : P.cellsOf ti = 1) (hcp : P.cellsOf tp = 1) (hc : P.cellsOf t = 3)
    (h : DataW.trod enc P W 0 sp hd fuel t cs = some x) : ∃ b : BandD, RBand (fun b => b < W.heap.size) (mirror W) (cs.map (conv1 W.heap.size)) b := by
  obtain ⟨hl, fuel', hall⟩ := trod_fields ht h
  obtain ⟨f0, g0, e0, o0⟩ := field_at hfs (j := 0) rfl
  obtain ⟨f1, g1, e1, o1⟩ := field_at hfs (j := 1) rfl
  obtain ⟨f2, g2, e2, o2⟩ := field_at hfs (j := 2) rfl
  obtain ⟨y0, h0⟩ := hall 0 f0 g0
  obtain ⟨y1, h1⟩ := hall 1 f1 g1
  obtain ⟨y2, h2⟩ := hall 2 f2 g2
  rw [e0, o0, hci] at h0
  rw [e1, o1, hci] at h1
  rw [e2, o2, hcp] at h2
  rw [hc] at hl
  match cs, hl with
  | [c0, c1, c2], _ =>
    obtain ⟨n0, k0, w0⟩ := trod_int' hi h0
    obtain ⟨n1, k1, w1⟩ := trod_int' hi h1
    obtain ⟨c, l, k2, _, _, hL⟩ := trod_ints_slice hp hi hci h2
    simp -implicitDefEqProofs only [List.drop_succ_cons, List.drop_zero, List.take_succ_cons, List.take_zero, List.cons.injEq, and_true] at k0 k1 k2
    subst k0 k1 k2
    exact ⟨⟨n0, n1, l⟩, conv1 W.heap.size c2, rfl, w0, w1, hL⟩
theorem trod_chan {fuel : Nat} {t tb : TypeId} {fs : Array Field} {cs : List Value} {x : DataW H × List MemPlace} (ht : P.underlying t = some (.struct fs)) (hfs : fs.toList.map (fun f => (f.type, f.offset)) = [(tb, 0)]) (hc : P.cellsOf t = 1) (hcb : P.cellsOf tb = 1)
    {te ti tp : TypeId} {fe : Array Field} (htb : P.underlying tb = some (.slice te)) (hte : P.underlying te = some (.struct fe)) (hfe : fe.toList.map (fun f => (f.type, f.offset)) = [(ti, 0), (ti, 1), (tp, 2)]) (hi : P.underlying ti = some (.int .i64)) (hp : P.underlying tp = some (.slice ti)) (hci : P.cellsOf ti = 1) (hcp : P.cellsOf tp = 1) (hce : P.cellsOf te = 3)
    (h : DataW.trod enc P W 0 sp hd fuel t cs = some x) : ∃ c : List BandD, RSl (BandsR (fun b => b < W.heap.size)) (mirror W) (cs.map (conv1 W.heap.size)) c := by
  obtain ⟨hl, fuel', hall⟩ := trod_fields ht h
  obtain ⟨f0, g0, e0, o0⟩ := field_at hfs (j := 0) rfl
  obtain ⟨y0, h0⟩ := hall 0 f0 g0
  rw [e0, o0, hcb] at h0
  rw [hc] at hl
  match cs, hl with
  | [c0], _ =>
    obtain ⟨c, l, k, _, _, hL⟩ := trod_slice (α := BandD) (R := RBand (fun b => b < W.heap.size)) htb (by omega) (fun fuel cs x hl hx => trod_band hte hfe hi hp hci hcp hce hx) h0
    simp -implicitDefEqProofs only [List.drop_succ_cons, List.drop_zero, List.take_succ_cons, List.take_zero, List.cons.injEq, and_true] at k
    subst k
    rw [hce] at hL
    exact ⟨l, conv1 W.heap.size c0, rfl, hL⟩
theorem frame_arg {v : Value} {d : DataW H} {ps : List MemPlace} {t tb tl : TypeId} {fs : Array Field} (ht : P.underlying t = some (.struct fs)) {ti : TypeId} (hfs : fs.toList.map (fun f => (f.type, f.offset)) = [(tb, 0), (tb, 1), (tb, 2), (ti, 3), (tl, 4)]) (hc : P.cellsOf t = 5) (hbo : P.underlying tb = some .bool) (hcb : P.cellsOf tb = 1) (hi : P.underlying ti = some (.int .i64)) (hci : P.cellsOf ti = 1) (hcl : P.cellsOf tl = 1)
    {tc tbs te tp : TypeId} {fc fe : Array Field} (htl : P.underlying tl = some (.slice tc)) (htc : P.underlying tc = some (.struct fc)) (hfc : fc.toList.map (fun f => (f.type, f.offset)) = [(tbs, 0)]) (hcc : P.cellsOf tc = 1) (hcbs : P.cellsOf tbs = 1)
    (htb : P.underlying tbs = some (.slice te)) (hte : P.underlying te = some (.struct fe)) (hfe : fe.toList.map (fun f => (f.type, f.offset)) = [(ti, 0), (ti, 1), (tp, 2)]) (hp : P.underlying tp = some (.slice ti)) (hcp : P.cellsOf tp = 1) (hce : P.cellsOf te = 3)
    (h : DataW.Trod enc P W 0 sp hd t v d ps) : ∃ (f : FrameD) (w : AV), conv W.heap.size v = .agg (frameC f w) ∧ ChansR (fun b => b < W.heap.size) (mirror W) w f.chans := by
  obtain ⟨fuel, h⟩ := h
  obtain ⟨hl, fuel', hall⟩ := trod_fields ht h
  obtain ⟨f0, g0, e0, o0⟩ := field_at hfs (j := 0) rfl
  obtain ⟨f1, g1, e1, o1⟩ := field_at hfs (j := 1) rfl
  obtain ⟨f2, g2, e2, o2⟩ := field_at hfs (j := 2) rfl
  obtain ⟨f3, g3, e3, o3⟩ := field_at hfs (j := 3) rfl
  obtain ⟨f4, g4, e4, o4⟩ := field_at hfs (j := 4) rfl
  obtain ⟨y0, h0⟩ := hall 0 f0 g0
  obtain ⟨y1, h1⟩ := hall 1 f1 g1
  obtain ⟨y2, h2⟩ := hall 2 f2 g2
  obtain ⟨y3, h3⟩ := hall 3 f3 g3
  obtain ⟨y4, h4⟩ := hall 4 f4 g4
  rw [e0, o0, hcb] at h0
  rw [e1, o1, hcb] at h1
  rw [e2, o2, hcb] at h2
  rw [e3, o3, hci] at h3
  rw [e4, o4, hcl] at h4
  rw [hc] at hl
  have hv : ∀ l : List Value, v.cells.toList = l → l.length = 5 → v = .agg l.toArray := by
    intro l h1 h2
    cases v <;> first | (simp -implicitDefEqProofs only [Value.cells] at h1; subst h1; simp at h2; done) | (simp -implicitDefEqProofs only [Value.cells] at h1; subst h1; simp)
  generalize hcs : v.cells.toList = cs at *
  match cs, hl with
  | [c0, c1, c2, c3, c4], hl =>
    obtain ⟨n0, k0⟩ := trod_bool hbo h0
    obtain ⟨n1, k1⟩ := trod_bool hbo h1
    obtain ⟨n2, k2⟩ := trod_bool hbo h2
    obtain ⟨n3, k3, w3⟩ := trod_int' hi h3
    obtain ⟨c, l, k4, _, _, hL⟩ := trod_slice (α := List BandD) (R := RSl (BandsR (fun b => b < W.heap.size))) htl (by omega) (fun fuel cs x hl hx => trod_chan htc hfc hcc hcbs htb hte hfe hi hp hci hcp hce hx) h4
    simp -implicitDefEqProofs only [List.drop_succ_cons, List.drop_zero, List.take_succ_cons, List.take_zero, List.cons.injEq, and_true] at k0 k1 k2 k3 k4
    subst k0 k1 k2 k3 k4
    rw [hcc] at hL
    rw [hv _ rfl rfl]
    exact ⟨⟨n0, n1, n2, n3, l⟩, conv1 W.heap.size c4, rfl, hL⟩
theorem rows_arg {v : Value} {d : DataW H} {ps : List MemPlace} {t e u : TypeId} (hna : ∀ cs, v ≠ .agg cs) (ht : P.underlying t = some (.slice e)) (he : P.underlying e = some (.slice u)) (hu : P.underlying u = some (.int .i64)) (hce : P.cellsOf e = 1) (hcu : P.cellsOf u = 1)
    (h : DataW.Trod enc P W 0 sp hd t v d ps) : ∃ l, l.length ≤ maxLen ∧ RowsR (fun b => b < W.heap.size) (mirror W) (conv W.heap.size v) l := by
  obtain ⟨fuel, h⟩ := h
  generalize hcs : v.cells.toList = cs at h
  obtain ⟨c, l, rfl, _, h1, h2⟩ := trod_rows ht he hu hce hcu h
  exact ⟨l, h1, by rw [arg_slice hcs rfl hna]; exact h2⟩
end SplA

/- The abstract machine, 22: what a closed call makes, it makes in every memory. -/
namespace Go.Proofs.YtooogfnmhfocjaaGreatDoor.Spl
open Go Go.RowKit
set_option linter.unusedVariables false
set_option linter.unusedSimpArgs false

mutual
/-- A value, its objects k further on. -/
def AV.shift (k : Nat) : AV → AV
  | .ptr i o => .ptr (i + k) o
  | .slice i o l e => .slice (i + k) o l e
  | .func fn a c => .func fn (AV.shifts k a) (AV.shifts k c)
  | .iface t v => .iface t (AV.shift k v)
  | .agg cs => .agg (AV.shifts k cs)
  | .tup cs => .tup (AV.shifts k cs)
  | .mp i => .mp (i + k)
  | .undef => .undef
  | .bool b => .bool b
  | .int k n => .int k n
  | .str s => .str s
  | .nilptr => .nilptr
  | .anyptr => .anyptr
  | .nilslice => .nilslice
  | .dang => .dang
  | .nilfunc => .nilfunc
  | .nilface => .nilface
def AV.shifts (k : Nat) : List AV → List AV
  | [] => []
  | v :: vs => AV.shift k v :: AV.shifts k vs
end
theorem AV.shifts_length (k : Nat) : ∀ l : List AV, (AV.shifts k l).length = l.length
  | [] => rfl
  | v :: l => by simp [AV.shifts, AV.shifts_length k l]
def AObj.shift (k : Nat) : AObj → AObj
  | .dead => .dead
  | .cells ty fz cs => .cells ty fz (AV.shifts k cs)
  | .other o => .other o
/-- A memory, and behind it another one. -/
def Mem.add (m m0 : Mem) : Mem := ⟨m.base, m.next + m0.next, fun j => if j < m.next then m.get j else (m0.get (j - m.next)).shift m.next⟩
def Gm.add (g : Gm) (n : Nat) (g0 : Gm) : Gm := ⟨g.base, fun j => if j < n then g.blk j else g0.blk (j - n), fun j => if j < n then g.sz j else g0.sz (j - n)⟩
theorem Gm.add_ext (g : Gm) (n : Nat) (g0 : Gm) (n0 : Nat) : Ext' g n (g.add n g0) (n + n0) :=
  ⟨rfl, Nat.le_add_right _ _, fun i hi => by simp [Gm.add, hi], fun i hi => by simp [Gm.add, hi]⟩

mutual
theorem VR.shift {g g0 : Gm} {n n0 : Nat} (hb : g0.base = 0) : ∀ {v : AV} {x : Value}, VR g0 n0 v x → VR (g.add n g0) (n + n0) (v.shift n) x
  | _, _, .undef v => .undef v
  | _, _, .bool b => .bool b
  | _, _, .int k x => .int k x
  | _, _, .str s => .str s
  | _, _, .nilptr => .nilptr
  | _, _, .ptr i o h => by
    have e : (g.add n g0).blk (i + n) = g0.blk i := by simp [Gm.add, Nat.not_lt.2 (Nat.le_add_left n i)]
    have := VR.ptr (g := g.add n g0) (n := n + n0) (i + n) o (by omega)
    rw [e] at this
    exact this
  | _, _, .anyptr p => .anyptr p
  | _, _, .nilslice => .nilslice
  | _, _, .slice i o len es cap h hc hs => by
    have e : (g.add n g0).blk (i + n) = g0.blk i := by simp [Gm.add, Nat.not_lt.2 (Nat.le_add_left n i)]
    have e2 : (g.add n g0).sz (i + n) = g0.sz i := by simp [Gm.add, Nat.not_lt.2 (Nat.le_add_left n i)]
    have := VR.slice (g := g.add n g0) (n := n + n0) (i + n) o len es cap (by omega) hc (fun _ h2 => by rw [e2]; exact hs (by omega) h2)
    rw [e] at this
    exact this
  | _, _, .dang a cap => .dang a cap
  | _, _, .func fn a c x y ha hc => .func fn _ _ x y (VRs.shift hb ha) (VRs.shift hb hc)
  | _, _, .nilfunc => .nilfunc
  | _, _, .iface t v x h => .iface t _ x (VR.shift hb h)
  | _, _, .nilface => .nilface
  | _, _, .agg cs xs h => .agg _ xs (VRs.shift hb h)
  | _, _, .tup cs xs h => .tup _ xs (VRs.shift hb h)
  | _, _, .mp i h => by
    have e : (g.add n g0).blk (i + n) = g0.blk i := by simp [Gm.add, Nat.not_lt.2 (Nat.le_add_left n i)]
    have := VR.mp (g := g.add n g0) (n := n + n0) (i + n) (by omega)
    rw [e] at this
    exact this
theorem VRs.shift {g g0 : Gm} {n n0 : Nat} (hb : g0.base = 0) : ∀ {v : List AV} {x : List Value}, VRs g0 n0 v x → VRs (g.add n g0) (n + n0) (AV.shifts n v) x
  | _, _, .nil => .nil
  | _, _, .cons v x vs xs h t => .cons _ x _ xs (VR.shift hb h) (VRs.shift hb t)
end

theorem Sim.add {W : Ref} {g g0 : Gm} {m m0 : Mem} {w w' : World} (s : Sim W g m w) (s0 : Sim (Ref.all w) g0 m0 w') (hb : m0.base = 0) : Sim W (g.add m.next g0) (m.add m0) w' := by
  have hg0 : g0.base = 0 := s0.gbase.trans hb
  have hsz : w.heap.size ≤ w'.heap.size := s0.below.size
  have hold : ∀ b, b < w.heap.size → w'.heap[b]? = w.heap[b]? := fun b hb => s0.below.block b hb
  have hext := g.add_ext m.next g0 m0.next
  have hblk : ∀ i, i < m.next → (g.add m.next g0).blk i = g.blk i := fun i hi => by simp [Gm.add, hi]
  have hblk' : ∀ i, m.next ≤ i → (g.add m.next g0).blk i = g0.blk (i - m.next) := fun i hi => by simp [Gm.add, Nat.not_lt.2 hi]
  have hget : ∀ i, i < m.next → (m.add m0).get i = m.get i := fun i hi => by simp [Mem.add, hi]
  have hget' : ∀ i, m.next ≤ i → (m.add m0).get i = (m0.get (i - m.next)).shift m.next := fun i hi => by simp [Mem.add, Nat.not_lt.2 hi]
  have hlow : ∀ i, m.base ≤ i → i < m.next → g.blk i < w.heap.size := fun i h1 h2 => (s.own i h1 h2).2
  have hhigh : ∀ i, i < m0.next → w.heap.size ≤ g0.blk i ∧ g0.blk i < w'.heap.size := fun i h => by
    obtain ⟨h1, h2⟩ := s0.own i (by omega) h
    exact ⟨Nat.not_lt.1 h1, h2⟩
  refine ⟨s.gbase, Nat.le_trans s.mbase hsz, by show m.base ≤ m.next + m0.next; have := s.le; omega, ?_, ?_, ?_, ?_, ?_, ?_⟩
  · exact s.below.trans ⟨s0.below.os, s0.below.tape, s0.below.output, hsz, fun k hk => hold k (s.below.lt hk)⟩
  · intro i hi
    have hi' : i < m.base := hi
    have hin : i < m.next := Nat.lt_of_lt_of_le hi' s.le
    obtain ⟨h1, h2⟩ := s.old i hi'
    refine ⟨(hblk i hin).trans h1, fun ty fz cs hg => ?_⟩
    rw [hget i hin] at hg
    obtain ⟨hS, c, e, f, h3, h4, h5⟩ := h2 _ _ _ hg
    exact ⟨hS, c, e, f, h3, h4, h5.mono hext⟩
  · intro i h1 h2
    have h1' : m.base ≤ i := h1
    have h2' : i < m.next + m0.next := h2
    rcases Nat.lt_or_ge i m.next with hi | hi
    · rw [hblk i hi]
      exact ⟨(s.own i h1' hi).1, Nat.lt_of_lt_of_le (s.own i h1' hi).2 hsz⟩
    · rw [hblk' i hi]
      obtain ⟨k1, k2⟩ := hhigh (i - m.next) (by omega)
      exact ⟨fun hS => by have := s.below.lt hS; omega, k2⟩
  · intro i ty fz cs h1 h2 h3
    have h1' : m.base ≤ i := h1
    have h2' : i < m.next + m0.next := h2
    rcases Nat.lt_or_ge i m.next with hi | hi
    · rw [hget i hi] at h3
      obtain ⟨c, lo, hi', k1, k2, k3, k4, k5⟩ := s.live i _ _ _ h1' hi h3
      refine ⟨c, lo, hi', ?_, ?_, k3, k4, k5.mono hext⟩
      · rw [hblk i hi, hold _ (hlow i h1' hi)]; exact k1
      · rw [k2]; simp [Gm.add, hi]
    · rw [hget' i hi] at h3
      cases hm : m0.get (i - m.next) with
      | dead => rw [hm] at h3; cases h3
      | other o => rw [hm] at h3; cases h3
      | cells ty0 fz0 cs0 =>
        rw [hm] at h3
        cases h3
        obtain ⟨c, lo, hi', k1, k2, k3, k4, k5⟩ := s0.live (i - m.next) _ _ _ (by omega) (by omega) hm
        refine ⟨c, lo, hi', ?_, ?_, by rw [AV.shifts_length]; exact k3, by rw [AV.shifts_length]; exact k4, ?_⟩
        · rw [hblk' i hi]; exact k1
        · rw [k2]; simp [Gm.add, Nat.not_lt.2 hi]
        · rw [AV.shifts_length]
          exact VRs.shift hg0 k5
  · intro i o h1 h2 h3
    have h1' : m.base ≤ i := h1
    have h2' : i < m.next + m0.next := h2
    rcases Nat.lt_or_ge i m.next with hi | hi
    · rw [hget i hi] at h3
      rw [hblk i hi, hold _ (hlow i h1' hi)]
      exact s.raw i o h1' hi h3
    · rw [hget' i hi] at h3
      rw [hblk' i hi]
      cases hm : m0.get (i - m.next) with
      | dead => rw [hm] at h3; cases h3
      | cells ty0 fz0 cs0 => rw [hm] at h3; cases h3
      | other o' =>
        rw [hm] at h3
        cases h3
        exact s0.raw (i - m.next) _ (by omega) (by omega) hm
  · intro i j a1 a2 a3 a4 a5 a6 a7
    have b1 : m.base ≤ i := a1
    have b2 : i < m.next + m0.next := a2
    have b3 : m.base ≤ j := a3
    have b4 : j < m.next + m0.next := a4
    have hlive : ∀ k, m.next ≤ k → (m.add m0).get k ≠ .dead → m0.get (k - m.next) ≠ .dead := fun k hk h e => by
      rw [hget' k hk, e] at h
      exact h rfl
    rcases Nat.lt_or_ge i m.next with hi | hi <;> rcases Nat.lt_or_ge j m.next with hj | hj
    · rw [hblk i hi, hblk j hj] at a7
      rw [hget i hi] at a5
      rw [hget j hj] at a6
      exact s.inj i j b1 hi b3 hj a5 a6 a7
    · rw [hblk i hi, hblk' j hj] at a7
      have := hlow i b1 hi
      have := (hhigh (j - m.next) (by omega)).1
      omega
    · rw [hblk' i hi, hblk j hj] at a7
      have := hlow j b3 hj
      have := (hhigh (i - m.next) (by omega)).1
      omega
    · rw [hblk' i hi, hblk' j hj] at a7
      have := s0.inj (i - m.next) (j - m.next) (by omega) (by omega) (by omega) (by omega) (hlive i hi a5) (hlive j hj a6) a7
      omega

/-- What a call of closed arguments came to, in every memory. -/
def closedAt (args0 : List AV) (v : AV) (m0 : Mem) : List AV → M AV := fun args m => if AV.eqbs args args0 then some (v.shift m.next, m.add m0) else none
/-- .. of several arguments, each by itself. -/
def closedOf (l : List (List AV × AV × Mem)) : List AV → M AV := fun args m =>
  match l.find? (fun x => AV.eqbs args x.1) with
  | some x => some (x.2.1.shift m.next, m.add x.2.2)
  | none => none
def isInt : AV → Bool
  | .int _ _ | .bool _ | .str _ => true
  | _ => false
theorem ints_rel {g : Gm} {n : Nat} : ∀ {l : List AV} {xs : List Value}, VRs g n l xs → l.all isInt = true → ∀ g' n', VRs g' n' l xs
  | _, _, .nil, _, g', n' => .nil
  | _, _, .cons v x vs xs hv ht, h, g', n' => by
    simp only [List.all_cons, Bool.and_eq_true] at h
    refine .cons _ _ _ _ ?_ (ints_rel ht h.2 g' n')
    obtain ⟨h, _⟩ := h
    cases hv <;> simp [isInt] at h <;> constructor
theorem closedOf_ok {P : Program} {ext : Ext} (hm : P.follows .mixedOrders = true) (hn : ∀ (f : Nat) (fn : Func), P.funcs[f]? = some fn → fn.name ≠ "runtime.NumGoroutine") (hext : ∀ W, ExtOk P W ext) {n f : Nat} {l : List (List AV × AV × Mem)}
    (h : ∀ x ∈ l, fcall P ext n f x.1 Mem.empty = some (x.2.1, x.2.2) ∧ x.1.all isInt = true ∧ x.2.2.base = 0) (W : Ref) : FunOk P W f (closedOf l) := by
  intro args v m m1 he g w xs s hx
  unfold closedOf at he
  split at he
  · rename_i x hfind
    cases he
    obtain ⟨h1, h2, h3⟩ := h x (List.mem_of_find?_eq_some hfind)
    obtain rfl : args = x.1 := AV.eq_of_eqbs (by have := List.find?_some hfind; simpa using this)
    rcases fcall_ok hm hn hext n (Ref.all w) f x.1 x.2.1 Mem.empty x.2.2 h1 _ w xs (sim_empty w) (ints_rel hx h2 _ _) with ⟨⟨fn, k1, k2, _⟩, k3⟩ | ⟨z, g', w', k1, k2, k3, k4⟩
    · refine .inl ⟨⟨fn, k1, k2⟩, k3.mono fun e w' ⟨z, g', he, hz, hs, hx'⟩ => ⟨z, g.add m.next g', he, ?_, s.add hs h3, g.add_ext _ _ _⟩⟩
      exact VR.shift (hs.gbase.trans h3) hz
    · exact .inr ⟨z, g.add m.next g', w', k1, VR.shift (k3.gbase.trans h3) k2, s.add k3 h3, g.add_ext _ _ _⟩
  · cases he
theorem Mem.add_get (m m0 : Mem) (i : Nat) : (m.add m0).get (i + m.next) = (m0.get i).shift m.next := by simp [Mem.add, Nat.not_lt.2 (Nat.le_add_left m.next i)]
theorem Mem.add_old (m m0 : Mem) {i : Nat} (h : i < m.next) : (m.add m0).get i = m.get i := by simp [Mem.add, h]
/-! a closed call whose memory is told in plain -/

theorem Sim.congr {W : Ref} {g : Gm} {m m' : Mem} {w : World} (s : Sim W g m w) (hb : m'.base = m.base) (hn : m'.next = m.next) (hg : ∀ i, i < m.next → m'.get i = m.get i) : Sim W g m' w where
  gbase := by rw [hb]; exact s.gbase
  mbase := by rw [hb]; exact s.mbase
  le := by rw [hb, hn]; exact s.le
  below := s.below
  old := fun i hi => by
    rw [hb] at hi
    rw [hg i (Nat.lt_of_lt_of_le hi s.le), hn]
    exact s.old i hi
  own := fun i h1 h2 => by rw [hb] at h1; rw [hn] at h2; exact s.own i h1 h2
  live := fun i ty fz cs h1 h2 h3 => by
    rw [hb] at h1; rw [hn] at h2 ⊢; rw [hg i h2] at h3
    exact s.live i ty fz cs h1 h2 h3
  raw := fun i o h1 h2 h3 => by
    rw [hb] at h1; rw [hn] at h2; rw [hg i h2] at h3
    exact s.raw i o h1 h2 h3
  inj := fun i j a1 a2 a3 a4 a5 a6 a7 => by
    rw [hb] at a1 a3; rw [hn] at a2 a4; rw [hg i a2] at a5; rw [hg j a4] at a6
    exact s.inj i j a1 a2 a3 a4 a5 a6 a7

def AObj.eqb : AObj → AObj → Bool
  | .dead, .dead => true
  | .cells ty fz cs, .cells ty' fz' cs' => Nat.beq ty ty' && Nat.beq fz fz' && AV.eqbs cs cs'
  | _, _ => false
theorem AObj.eq_of_eqb {a b : AObj} (h : AObj.eqb a b = true) : a = b := by
  unfold AObj.eqb at h
  split at h
  · rfl
  · simp only [Bool.and_eq_true, Nat.beq_eq] at h
    obtain ⟨⟨rfl, rfl⟩, h⟩ := h
    rw [AV.eq_of_eqbs h]
  · cases h
/-- A memory of objects, one behind the other. -/
def Mem.of (l : List AObj) : Mem := ⟨0, l.length, fun i => l.getD i .dead⟩
def objsEq (m : Mem) : Nat → List AObj → Bool
  | _, [] => true
  | i, o :: os => AObj.eqb (m.get i) o && objsEq m (i + 1) os
theorem objsEq_get {m : Mem} : ∀ {l : List AObj} {i : Nat}, objsEq m i l = true → ∀ j, j < l.length → l.getD j .dead = m.get (i + j)
  | [], i, _, j, hj => by simp at hj
  | o :: os, i, h, j, hj => by
    simp only [objsEq, Bool.and_eq_true] at h
    cases j with
    | zero => simpa using (AObj.eq_of_eqb h.1).symm
    | succ j =>
      have := objsEq_get h.2 j (by simpa using hj)
      rw [show i + (j + 1) = i + 1 + j by omega]
      simpa using this
/-- Does a run come to that value, and those objects? -/
def comesTo (x : Option (AV × Mem)) (v : AV) (l : List AObj) : Bool :=
  match x with
  | some (u, m) => AV.eqb u v && Nat.beq m.base 0 && Nat.beq m.next l.length && objsEq m 0 l
  | none => false
theorem closedTo_ok {P : Program} {ext : Ext} (hm : P.follows .mixedOrders = true) (hn : ∀ (f : Nat) (fn : Func), P.funcs[f]? = some fn → fn.name ≠ "runtime.NumGoroutine") (hext : ∀ W, ExtOk P W ext) {n f : Nat} {l : List (List AV × AV × List AObj)}
    (h : ∀ x ∈ l, comesTo (fcall P ext n f x.1 Mem.empty) x.2.1 x.2.2 = true ∧ x.1.all isInt = true) (W : Ref) : FunOk P W f (closedOf (l.map fun x => (x.1, x.2.1, Mem.of x.2.2))) := by
  intro args v m m1 he g w xs s hx
  unfold closedOf at he
  split at he
  · rename_i y hfind
    cases he
    have hmem := List.mem_of_find?_eq_some hfind
    obtain ⟨x, hxm, rfl⟩ := List.mem_map.1 hmem
    obtain ⟨h1, h2⟩ := h x hxm
    obtain rfl : args = x.1 := AV.eq_of_eqbs (by have := List.find?_some hfind; simpa using this)
    unfold comesTo at h1
    split at h1
    · rename_i u mr hrun
      simp only [Bool.and_eq_true, Nat.beq_eq] at h1
      obtain ⟨⟨⟨hu, hb⟩, hnx⟩, hob⟩ := h1
      obtain rfl := AV.eq_of_eqb hu
      have hcg : ∀ {g' w'}, Sim (Ref.all w) g' mr w' → Sim (Ref.all w) g' (Mem.of x.2.2) w' := fun hs => hs.congr (by rw [hb]; rfl) (by rw [hnx]; rfl) (fun i hi => by
        have := objsEq_get hob i (by rw [← hnx]; exact hi)
        rw [Nat.zero_add] at this
        exact this)
      have hnx' : (Mem.of x.2.2).next = mr.next := by rw [hnx]; rfl
      rcases fcall_ok hm hn hext n (Ref.all w) f x.1 _ Mem.empty mr hrun _ w xs (sim_empty w) (ints_rel hx h2 _ _) with ⟨⟨fn, k1, k2, _⟩, k3⟩ | ⟨z, g', w', k1, k2, k3, k4⟩
      · refine .inl ⟨⟨fn, k1, k2⟩, k3.mono fun e w' ⟨z, g', he, hz, hs, hx'⟩ => ⟨z, g.add m.next g', he, ?_, s.add (hcg hs) rfl, g.add_ext _ _ _⟩⟩
        have := VR.shift (g := g) (n := m.next) ((hcg hs).gbase.trans rfl) (by rw [← hnx'] at hz; exact hz)
        exact this
      · refine .inr ⟨z, g.add m.next g', w', k1, ?_, s.add (hcg k3) rfl, g.add_ext _ _ _⟩
        exact VR.shift (g := g) (n := m.next) ((hcg k3).gbase.trans rfl) (by rw [← hnx'] at k2; exact k2)
    · cases h1
  · cases he
end Go.Proofs.YtooogfnmhfocjaaGreatDoor.Spl

/- The chapter's example comes to true: a closed run. -/
namespace SplA
open Go.Proofs.YtooogfnmhfocjaaGreatDoor.Spl Go Go.Proofs
set_option maxRecDepth 100000

/-- The table of pvq.made. -/
noncomputable def madeL : List AV := [
  .int .i64 1, .int .i64 0, .int .i64 0, .int .i64 0, .int .i64 0, .int .i64 0, .int .i64 0, .int .i64 0, .int .i64 0, .int .i64 0, .int .i64 0, .int .i64 0, .int .i64 0, .int .i64 0, .int .i64 0, .int .i64 0, .int .i64 0, .int .i64 0, .int .i64 0, .int .i64 0, .int .i64 0, .int .i64 0, .int .i64 0, .int .i64 0, .int .i64 0,
  .int .i64 1, .int .i64 2, .int .i64 2, .int .i64 2, .int .i64 2, .int .i64 2, .int .i64 2, .int .i64 2, .int .i64 2, .int .i64 2, .int .i64 2, .int .i64 2, .int .i64 2, .int .i64 2, .int .i64 2, .int .i64 2, .int .i64 2, .int .i64 2, .int .i64 2, .int .i64 2, .int .i64 2, .int .i64 2, .int .i64 2, .int .i64 2, .int .i64 2,
  .int .i64 1, .int .i64 4, .int .i64 8, .int .i64 12, .int .i64 16, .int .i64 20, .int .i64 24, .int .i64 28, .int .i64 32, .int .i64 36, .int .i64 40, .int .i64 44, .int .i64 48, .int .i64 52, .int .i64 56, .int .i64 60, .int .i64 64, .int .i64 68, .int .i64 72, .int .i64 76, .int .i64 80, .int .i64 84, .int .i64 88, .int .i64 92, .int .i64 96,
  .int .i64 1, .int .i64 6, .int .i64 18, .int .i64 38, .int .i64 66, .int .i64 102, .int .i64 146, .int .i64 198, .int .i64 258, .int .i64 326, .int .i64 402, .int .i64 486, .int .i64 578, .int .i64 678, .int .i64 786, .int .i64 902, .int .i64 1026, .int .i64 1158, .int .i64 1298, .int .i64 1446, .int .i64 1602, .int .i64 1766, .int .i64 1938, .int .i64 2118, .int .i64 2306,
  .int .i64 1, .int .i64 8, .int .i64 32, .int .i64 88, .int .i64 192, .int .i64 360, .int .i64 608, .int .i64 952, .int .i64 1408, .int .i64 1992, .int .i64 2720, .int .i64 3608, .int .i64 4672, .int .i64 5928, .int .i64 7392, .int .i64 9080, .int .i64 11008, .int .i64 13192, .int .i64 15648, .int .i64 18392, .int .i64 21440, .int .i64 24808, .int .i64 28512, .int .i64 32568, .int .i64 36992,
  .int .i64 1, .int .i64 10, .int .i64 50, .int .i64 170, .int .i64 450, .int .i64 1002, .int .i64 1970, .int .i64 3530, .int .i64 5890, .int .i64 9290, .int .i64 14002, .int .i64 20330, .int .i64 28610, .int .i64 39210, .int .i64 52530, .int .i64 69002, .int .i64 89090, .int .i64 113290, .int .i64 142130, .int .i64 176170, .int .i64 216002, .int .i64 262250, .int .i64 315570, .int .i64 376650, .int .i64 446210,
  .int .i64 1, .int .i64 12, .int .i64 72, .int .i64 292, .int .i64 912, .int .i64 2364, .int .i64 5336, .int .i64 10836, .int .i64 20256, .int .i64 35436, .int .i64 58728, .int .i64 93060, .int .i64 142000, .int .i64 209820, .int .i64 301560, .int .i64 423092, .int .i64 581184, .int .i64 783564, .int .i64 1038984, .int .i64 1357284, .int .i64 1749456, .int .i64 2227708, .int .i64 2805528, .int .i64 3497748, .int .i64 4320608,
  .int .i64 1, .int .i64 14, .int .i64 98, .int .i64 462, .int .i64 1666, .int .i64 4942, .int .i64 12642, .int .i64 28814, .int .i64 59906, .int .i64 115598, .int .i64 209762, .int .i64 361550, .int .i64 596610, .int .i64 948430, .int .i64 1459810, .int .i64 2184462, .int .i64 3188738, .int .i64 4553486, .int .i64 6376034, .int .i64 8772302, .int .i64 11879042, .int .i64 15856206, .int .i64 20889442, .int .i64 27192718, .int .i64 35011074,
  .int .i64 1, .int .i64 16, .int .i64 128, .int .i64 688, .int .i64 2816, .int .i64 9424, .int .i64 27008, .int .i64 68464, .int .i64 157184, .int .i64 332688, .int .i64 658048, .int .i64 1229360, .int .i64 2187520, .int .i64 3732560, .int .i64 6140800, .int .i64 9785072, .int .i64 15158272, .int .i64 22900496, .int .i64 33830016, .int .i64 48978352, .int .i64 69629696, .int .i64 97364944, .int .i64 134110592, .int .i64 182192752, .int .i64 244396544
  ]
noncomputable def madeO : List (List AV × AV × List AObj) := [([], .ptr 0 0, [.cells T_pvq_table 0 madeL])]
noncomputable def extM : Ext := ext0.plus fn_pvq_made (closedOf (madeO.map fun x => (x.1, x.2.1, Mem.of x.2.2)))
theorem madeRun : comesTo (fast Tryz.prog table ext0 60 fn_pvq_made [] Mem.empty) (.ptr 0 0) [.cells T_pvq_table 0 madeL] = true := by kernel_rfl
theorem awakeRun : comesTrue (fast Tryz.prog table extM 100 fn_law22_awake [] Mem.empty) = true := by kernel_rfl
end SplA
