/- Frames as arguments. -/
import Derived.Test.YtooogfnmhfocjaaGreatDoorSplFm
import Derived.Test.YtooogfnmhfocjaaGreatDoorSplArr3
namespace SplA
open Go.Proofs.YtooogfnmhfocjaaGreatDoor.Spl Go Go.Proofs Go.RowKit
set_option linter.unusedVariables false
set_option linter.unusedSimpArgs false
variable {H : Type} {enc : TypeId × Value → H} {P : Program} {W : World} {sp : Nat → Bool} {hd : Bool}

theorem field_at {fs : Array Field} {L : List (TypeId × Nat)} (h : fs.toList.map (fun f => (f.type, f.offset)) = L) {j : Nat} {t : TypeId} {o : Nat} (hj : L[j]? = some (t, o)) : ∃ f, fs.toList[j]? = some f ∧ f.type = t ∧ f.offset = o := by
  rw [← h, List.getElem?_map] at hj
  obtain ⟨f, h1, h2⟩ := Option.map_eq_some_iff.1 hj
  exact ⟨f, h1, congrArg Prod.fst h2, congrArg Prod.snd h2⟩

theorem trod_band {fuel : Nat} {t ti tp : TypeId} {fs : Array Field} {cs : List Value} {x : DataW H × List MemPlace} (ht : P.underlying t = some (.struct fs)) (hfs : fs.toList.map (fun f => (f.type, f.offset)) = [(ti, 0), (ti, 1), (tp, 2)]) (hi : P.underlying ti = some (.int .i64)) (hp : P.underlying tp = some (.slice ti)) (hci : P.cellsOf ti = 1) (hcp : P.cellsOf tp = 1) (hc : P.cellsOf t = 3)
    (h : DataW.trod enc P W 0 sp hd fuel t cs = some x) : ∃ b : BandD, RBand (fun b => b < W.heap.size) (mirror W) (cs.map (conv1 W.heap.size)) b := by
  obtain ⟨hl, fuel', hall⟩ := trod_fields ht h
  obtain ⟨f0, g0, e0, o0⟩ := field_at hfs (j := 0) rfl
  obtain ⟨f1, g1, e1, o1⟩ := field_at hfs (j := 1) rfl
  obtain ⟨f2, g2, e2, o2⟩ := field_at hfs (j := 2) rfl
  obtain ⟨y0, h0⟩ := hall 0 f0 g0
  obtain ⟨y1, h1⟩ := hall 1 f1 g1
  obtain ⟨y2, h2⟩ := hall 2 f2 g2
  rw [e0, o0, hci] at h0
  rw [e1, o1, hci] at h1
  rw [e2, o2, hcp] at h2
  rw [hc] at hl
  match cs, hl with
  | [c0, c1, c2], _ =>
    obtain ⟨n0, k0, w0⟩ := trod_int' hi h0
    obtain ⟨n1, k1, w1⟩ := trod_int' hi h1
    obtain ⟨c, l, k2, _, _, hL⟩ := trod_ints_slice hp hi hci h2
    simp -implicitDefEqProofs only [List.drop_succ_cons, List.drop_zero, List.take_succ_cons, List.take_zero, List.cons.injEq, and_true] at k0 k1 k2
    subst k0 k1 k2
    exact ⟨⟨n0, n1, l⟩, conv1 W.heap.size c2, rfl, w0, w1, hL⟩
theorem trod_chan {fuel : Nat} {t tb : TypeId} {fs : Array Field} {cs : List Value} {x : DataW H × List MemPlace} (ht : P.underlying t = some (.struct fs)) (hfs : fs.toList.map (fun f => (f.type, f.offset)) = [(tb, 0)]) (hc : P.cellsOf t = 1) (hcb : P.cellsOf tb = 1)
    {te ti tp : TypeId} {fe : Array Field} (htb : P.underlying tb = some (.slice te)) (hte : P.underlying te = some (.struct fe)) (hfe : fe.toList.map (fun f => (f.type, f.offset)) = [(ti, 0), (ti, 1), (tp, 2)]) (hi : P.underlying ti = some (.int .i64)) (hp : P.underlying tp = some (.slice ti)) (hci : P.cellsOf ti = 1) (hcp : P.cellsOf tp = 1) (hce : P.cellsOf te = 3)
    (h : DataW.trod enc P W 0 sp hd fuel t cs = some x) : ∃ c : List BandD, RSl (BandsR (fun b => b < W.heap.size)) (mirror W) (cs.map (conv1 W.heap.size)) c := by
  obtain ⟨hl, fuel', hall⟩ := trod_fields ht h
  obtain ⟨f0, g0, e0, o0⟩ := field_at hfs (j := 0) rfl
  obtain ⟨y0, h0⟩ := hall 0 f0 g0
  rw [e0, o0, hcb] at h0
  rw [hc] at hl
  match cs, hl with
  | [c0], _ =>
    obtain ⟨c, l, k, _, _, hL⟩ := trod_slice (α := BandD) (R := RBand (fun b => b < W.heap.size)) htb (by omega) (fun fuel cs x hl hx => trod_band hte hfe hi hp hci hcp hce hx) h0
    simp -implicitDefEqProofs only [List.drop_succ_cons, List.drop_zero, List.take_succ_cons, List.take_zero, List.cons.injEq, and_true] at k
    subst k
    rw [hce] at hL
    exact ⟨l, conv1 W.heap.size c0, rfl, hL⟩
theorem frame_arg {v : Value} {d : DataW H} {ps : List MemPlace} {t tb tl : TypeId} {fs : Array Field} (ht : P.underlying t = some (.struct fs)) {ti : TypeId} (hfs : fs.toList.map (fun f => (f.type, f.offset)) = [(tb, 0), (tb, 1), (tb, 2), (ti, 3), (tl, 4)]) (hc : P.cellsOf t = 5) (hbo : P.underlying tb = some .bool) (hcb : P.cellsOf tb = 1) (hi : P.underlying ti = some (.int .i64)) (hci : P.cellsOf ti = 1) (hcl : P.cellsOf tl = 1)
    {tc tbs te tp : TypeId} {fc fe : Array Field} (htl : P.underlying tl = some (.slice tc)) (htc : P.underlying tc = some (.struct fc)) (hfc : fc.toList.map (fun f => (f.type, f.offset)) = [(tbs, 0)]) (hcc : P.cellsOf tc = 1) (hcbs : P.cellsOf tbs = 1)
    (htb : P.underlying tbs = some (.slice te)) (hte : P.underlying te = some (.struct fe)) (hfe : fe.toList.map (fun f => (f.type, f.offset)) = [(ti, 0), (ti, 1), (tp, 2)]) (hp : P.underlying tp = some (.slice ti)) (hcp : P.cellsOf tp = 1) (hce : P.cellsOf te = 3)
    (h : DataW.Trod enc P W 0 sp hd t v d ps) : ∃ (f : FrameD) (w : AV), conv W.heap.size v = .agg (frameC f w) ∧ ChansR (fun b => b < W.heap.size) (mirror W) w f.chans := by
  obtain ⟨fuel, h⟩ := h
  obtain ⟨hl, fuel', hall⟩ := trod_fields ht h
  obtain ⟨f0, g0, e0, o0⟩ := field_at hfs (j := 0) rfl
  obtain ⟨f1, g1, e1, o1⟩ := field_at hfs (j := 1) rfl
  obtain ⟨f2, g2, e2, o2⟩ := field_at hfs (j := 2) rfl
  obtain ⟨f3, g3, e3, o3⟩ := field_at hfs (j := 3) rfl
  obtain ⟨f4, g4, e4, o4⟩ := field_at hfs (j := 4) rfl
  obtain ⟨y0, h0⟩ := hall 0 f0 g0
  obtain ⟨y1, h1⟩ := hall 1 f1 g1
  obtain ⟨y2, h2⟩ := hall 2 f2 g2
  obtain ⟨y3, h3⟩ := hall 3 f3 g3
  obtain ⟨y4, h4⟩ := hall 4 f4 g4
  rw [e0, o0, hcb] at h0
  rw [e1, o1, hcb] at h1
  rw [e2, o2, hcb] at h2
  rw [e3, o3, hci] at h3
  rw [e4, o4, hcl] at h4
  rw [hc] at hl
  have hv : ∀ l : List Value, v.cells.toList = l → l.length = 5 → v = .agg l.toArray := by
    intro l h1 h2
    cases v <;> first | (simp -implicitDefEqProofs only [Value.cells] at h1; subst h1; simp at h2; done) | (simp -implicitDefEqProofs only [Value.cells] at h1; subst h1; simp)
  generalize hcs : v.cells.toList = cs at *
  match cs, hl with
  | [c0, c1, c2, c3, c4], hl =>
    obtain ⟨n0, k0⟩ := trod_bool hbo h0
    obtain ⟨n1, k1⟩ := trod_bool hbo h1
    obtain ⟨n2, k2⟩ := trod_bool hbo h2
    obtain ⟨n3, k3, w3⟩ := trod_int' hi h3
    obtain ⟨c, l, k4, _, _, hL⟩ := trod_slice (α := List BandD) (R := RSl (BandsR (fun b => b < W.heap.size))) htl (by omega) (fun fuel cs x hl hx => trod_chan htc hfc hcc hcbs htb hte hfe hi hp hci hcp hce hx) h4
    simp -implicitDefEqProofs only [List.drop_succ_cons, List.drop_zero, List.take_succ_cons, List.take_zero, List.cons.injEq, and_true] at k0 k1 k2 k3 k4
    subst k0 k1 k2 k3 k4
    rw [hcc] at hL
    rw [hv _ rfl rfl]
    exact ⟨⟨n0, n1, n2, n3, l⟩, conv1 W.heap.size c4, rfl, hL⟩
theorem rows_arg {v : Value} {d : DataW H} {ps : List MemPlace} {t e u : TypeId} (hna : ∀ cs, v ≠ .agg cs) (ht : P.underlying t = some (.slice e)) (he : P.underlying e = some (.slice u)) (hu : P.underlying u = some (.int .i64)) (hce : P.cellsOf e = 1) (hcu : P.cellsOf u = 1)
    (h : DataW.Trod enc P W 0 sp hd t v d ps) : ∃ l, l.length ≤ maxLen ∧ RowsR (fun b => b < W.heap.size) (mirror W) (conv W.heap.size v) l := by
  obtain ⟨fuel, h⟩ := h
  generalize hcs : v.cells.toList = cs at h
  obtain ⟨c, l, rfl, _, h1, h2⟩ := trod_rows ht he hu hce hcu h
  exact ⟨l, h1, by rw [arg_slice hcs rfl hna]; exact h2⟩
end SplA
