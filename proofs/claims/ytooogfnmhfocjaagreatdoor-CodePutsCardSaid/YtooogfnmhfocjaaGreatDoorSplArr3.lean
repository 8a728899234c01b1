/- The abstract machine, 23: arguments of any shape: slices in slices, structs. -/
import Derived.Test.YtooogfnmhfocjaaGreatDoorSplArr2
namespace Go.Proofs.YtooogfnmhfocjaaGreatDoor.Spl
open Go Go.RowKit
set_option linter.unusedVariables false
set_option linter.unusedSimpArgs false

/-- A slice, of elements of es cells, of each of which R holds; its objects are of those of K. -/
def SlR {α : Type} (K : Nat → Prop) (es : Nat) (R : Mem → List AV → α → Prop) (m : Mem) (v : AV) (l : List α) : Prop :=
  ((v = .nilslice ∨ v = .dang) ∧ l = []) ∨ ∃ b o e, v = .slice b o l.length e ∧ K b ∧ ∀ (k : Nat) x, l[k]? = some x →
    ∃ ce : List AV, ce.length = es ∧ R m ce x ∧ load? (some es) (.ptr b (o + k * es)) m = some (.agg ce) ∧ ∀ (j : Nat) a, ce[j]? = some a → load? none (.ptr b (o + k * es + j)) m = some a
theorem SlR.len {α : Type} {K : Nat → Prop} {es : Nat} {R : Mem → List AV → α → Prop} {m : Mem} {v : AV} {l : List α} (h : SlR K es R m v l) : aLenS v = some (.int .i64 l.length) := by
  rcases h with ⟨rfl | rfl, rfl⟩ | ⟨b, o, e, rfl, _⟩ <;> rfl
theorem load_keep {m m' : Mem} {b o : Nat} {sh : Option Nat} (h : m'.get b = m.get b) : load? sh (.ptr b o) m' = load? sh (.ptr b o) m := by
  simp only [load?, Mem.cells?, h]
theorem SlR.keep {α : Type} {K : Nat → Prop} {es : Nat} {R : Mem → List AV → α → Prop} {m m' : Mem} {v : AV} {l : List α} (h : SlR K es R m v l) (hK : ∀ b, K b → m'.get b = m.get b) (hR : ∀ ce x, R m ce x → R m' ce x) : SlR K es R m' v l := by
  rcases h with h | ⟨b, o, e, h1, h2, h3⟩
  · exact .inl h
  · refine .inr ⟨b, o, e, h1, h2, fun k x hk => ?_⟩
    obtain ⟨ce, k1, k2, k3, k4⟩ := h3 k x hk
    exact ⟨ce, k1, hR _ _ k2, (load_keep (hK b h2)).trans k3, fun j a hj => (load_keep (hK b h2)).trans (k4 j a hj)⟩
/-- An element of it. -/
theorem SlR.at {α : Type} {K : Nat → Prop} {es : Nat} {R : Mem → List AV → α → Prop} {m : Mem} {v : AV} {l : List α} (h : SlR K es R m v l) {k : Nat} {x : α} (hk : l[k]? = some x) :
    ∃ b o ce, (∀ kd, aIdxS es v (.int kd k) = some (.ptr b o)) ∧ K b ∧ ce.length = es ∧ R m ce x ∧ load? (some es) (.ptr b o) m = some (.agg ce) ∧ ∀ (j : Nat) a, ce[j]? = some a → load? none (.ptr b (o + j)) m = some a := by
  rcases h with ⟨_, rfl⟩ | ⟨b, o, e, rfl, hb, hel⟩
  · simp at hk
  · have hlt : k < l.length := (List.getElem?_eq_some_iff.1 hk).1
    obtain ⟨ce, h0, h1, h2, h3⟩ := hel k x hk
    exact ⟨b, o + k * es, ce, fun kd => aIdxS_at hlt, hb, h0, h1, h2, h3⟩
theorem SlR.eqb {α : Type} {K : Nat → Prop} {es : Nat} {R : Mem → List AV → α → Prop} {m : Mem} {v : AV} {l : List α} (h : SlR K es R m v l) : AV.eqb v v = true := by
  rcases h with ⟨rfl | rfl, rfl⟩ | ⟨b, o, e, rfl, _⟩ <;> simp [AV.eqb]
theorem SlR.one {α : Type} {K : Nat → Prop} {es : Nat} {R : Mem → List AV → α → Prop} {m : Mem} {v : AV} {l : List α} (h : SlR K es R m v l) : v.one = true := by
  rcases h with ⟨rfl | rfl, rfl⟩ | ⟨b, o, e, rfl, _⟩ <;> simp [AV.one]

variable {H : Type} {enc : TypeId × Value → H} {P : Program} {W : World} {sp : Nat → Bool} {hd : Bool}

theorem trod_bool {fuel : Nat} {t : TypeId} {cs : List Value} {x : DataW H × List MemPlace} (ht : P.underlying t = some .bool) (h : DataW.trod enc P W 0 sp hd fuel t cs = some x) : ∃ b, cs = [.bool b] := by
  cases fuel with
  | zero => simp [DataW.trod] at h
  | succ fuel =>
    unfold DataW.trod at h
    rw [ht] at h
    split at h <;> simp_all
theorem trod_int' {fuel : Nat} {t : TypeId} {k : IntKind} {cs : List Value} {x : DataW H × List MemPlace} (ht : P.underlying t = some (.int k)) (h : DataW.trod enc P W 0 sp hd fuel t cs = some x) : ∃ n, cs = [.int k n] ∧ (Lit.int k n).wf = true := by
  cases fuel with
  | zero => simp [DataW.trod] at h
  | succ fuel =>
    unfold DataW.trod at h
    rw [ht] at h
    split at h <;> simp_all
theorem i64_wf {n : Int} (h : (Lit.int .i64 n).wf = true) : -9223372036854775808 ≤ n ∧ n < 9223372036854775808 := by
  simp only [Lit.wf, Bool.and_eq_true, decide_eq_true_eq] at h
  have m1 : IntKind.i64.min = -9223372036854775808 := by decide
  have m2 : IntKind.i64.max = 9223372036854775807 := by decide
  omega
theorem trod_str {fuel : Nat} {t : TypeId} {cs : List Value} {x : DataW H × List MemPlace} (ht : P.underlying t = some .string) (h : DataW.trod enc P W 0 sp hd fuel t cs = some x) : ∃ s, cs = [.string s] ∧ s.size ≤ maxLen := by
  cases fuel with
  | zero => simp [DataW.trod] at h
  | succ fuel =>
    unfold DataW.trod at h
    rw [ht] at h
    split at h <;> simp_all
theorem trod_fields {fuel : Nat} {t : TypeId} {fs : Array Field} {cs : List Value} {x : DataW H × List MemPlace} (ht : P.underlying t = some (.struct fs)) (h : DataW.trod enc P W 0 sp hd fuel t cs = some x) :
    cs.length = P.cellsOf t ∧ ∃ fuel', ∀ (j : Nat) f, fs.toList[j]? = some f → ∃ y, DataW.trod enc P W 0 sp hd fuel' f.type ((cs.drop f.offset).take (P.cellsOf f.type)) = some y := by
  cases fuel with
  | zero => simp [DataW.trod] at h
  | succ fuel =>
    unfold DataW.trod at h
    rw [ht] at h
    have h2 : cs.length = P.cellsOf t ∧ ∃ r, (fs.toList.mapM fun f => DataW.trod enc P W 0 sp hd fuel f.type ((cs.drop f.offset).take (P.cellsOf f.type))) = some r := by
      cases cs with
      | nil =>
        simp only at h
        split at h
        · rename_i hl
          obtain ⟨r, hr, _⟩ := Option.map_eq_some_iff.1 h
          exact ⟨hl, r, hr⟩
        · cases h
      | cons c0 cs =>
        simp only at h
        split at h
        · rename_i hl
          obtain ⟨r, hr, _⟩ := Option.map_eq_some_iff.1 h
          exact ⟨hl, r, hr⟩
        · cases h
    obtain ⟨h1, r, hr⟩ := h2
    exact ⟨h1, fuel, fun j f hf => mapM_get hr j f hf⟩

/-- A slice that is read. -/
theorem trod_slice {α : Type} {fuel : Nat} {t e : TypeId} {cs : List Value} {x : DataW H × List MemPlace} {R : Mem → List AV → α → Prop} (ht : P.underlying t = some (.slice e)) (hpos : 0 < P.cellsOf e)
    (helem : ∀ fuel cs x, cs.length = P.cellsOf e → DataW.trod enc P W 0 sp hd fuel e cs = some x → ∃ a : α, R (mirror W) (cs.map (conv1 W.heap.size)) a)
    (h : DataW.trod enc P W 0 sp hd fuel t cs = some x) : ∃ c l, cs = [c] ∧ (∀ as, c ≠ .agg as) ∧ l.length ≤ maxLen ∧ SlR (fun b => b < W.heap.size) (P.cellsOf e) R (mirror W) (conv1 W.heap.size c) l := by
  cases fuel with
  | zero => simp [DataW.trod] at h
  | succ fuel =>
    unfold DataW.trod at h
    rw [ht] at h
    split at h <;> first | (cases h; done) | skip
    all_goals try (rename_i hq; cases hq; done)
    case h_7 =>
      exact ⟨_, [], rfl, fun as h => (by cases h), Nat.zero_le _, .inl ⟨.inl rfl, rfl⟩⟩
    case h_8 e' a len cap heq =>
      cases heq
      dsimp only at h
      split at h
      case isFalse => cases h
      case isTrue hc =>
        obtain ⟨elems, hel, _⟩ := Option.bind_eq_some_iff.1 h
        cases len with
        | zero => exact ⟨_, [], rfl, fun as h => (by cases h), Nat.zero_le _, .inl ⟨.inr (by simp [conv1]), rfl⟩⟩
        | succ len =>
          have hev : ∀ k, k < len + 1 → ∃ y : α, ∃ g : List Value, g.length = P.cellsOf e ∧ (∀ j, j < P.cellsOf e → W.cell? ((a.add (k * P.cellsOf e)).add j) = g[j]?) ∧ R (mirror W) (g.map (conv1 W.heap.size)) y := by
            intro k hk
            obtain ⟨y, hy⟩ := mapM_get hel k k (by simp [hk])
            obtain ⟨cs, h1, h2⟩ := Option.bind_eq_some_iff.1 hy
            unfold World.cells? at h1
            rw [if_pos (Nat.zero_le _)] at h1
            have hlen : cs.length = P.cellsOf e := by rw [mapM_all h1, List.length_range]
            obtain ⟨z, hz⟩ := helem _ _ _ hlen h2
            refine ⟨z, cs, hlen, fun j hj => ?_, hz⟩
            obtain ⟨c0, e0, f0⟩ := mapM_get' h1 j j (by simp [hj])
            rw [e0]
            exact f0
          have hspot : a.spot = none ∧ a.block < W.heap.size := by
            obtain ⟨y, g, hg, h1, hw⟩ := hev 0 (by omega)
            have h1 := h1 0 hpos
            rw [List.getElem?_eq_getElem (by omega)] at h1
            have h0 : (a.add (0 * P.cellsOf e)).add 0 = a := by unfold Addr.add; split <;> simp_all
            rw [h0] at h1
            unfold World.cell? at h1
            split at h1
            · rename_i c _ _ hb
              split at h1
              · cases h1
              · rename_i hs
                refine ⟨by simpa using hs, ?_⟩
                rcases Nat.lt_or_ge a.block W.heap.size with h | h
                · exact h
                · rw [Array.getElem?_eq_none h] at hb; cases hb
            · cases h1
          obtain ⟨l, hL, hall⟩ := list_of (len + 1) hev
          obtain ⟨b, o, spot⟩ := a
          obtain ⟨rfl, hb⟩ := hspot
          simp only at hb
          refine ⟨_, l, rfl, fun as h => (by cases h), by omega, .inr ⟨b, o, 0, ?_, hb, fun k p hp => ?_⟩⟩
          · simp only [conv1, hL]
            rw [if_pos ⟨hb, hc.2.1⟩]
          · obtain ⟨g, hg, hc, hR⟩ := hall k p hp
            simp only [addr_add] at hc
            refine ⟨g.map (conv1 W.heap.size), by rw [List.length_map, hg], hR, mirror_cells hc hg hpos, fun j a ha => ?_⟩
            rw [List.getElem?_map] at ha
            obtain ⟨c, hcj, rfl⟩ := Option.map_eq_some_iff.1 ha
            have hjl := (List.getElem?_eq_some_iff.1 hcj).1
            exact mirror_cell ((hc j (by omega)).trans hcj)

/-! what is often read -/

/-- Cells that hold a number. -/
def RInt (k : IntKind) (m : Mem) (ce : List AV) (n : Int) : Prop := ce = [.int k n] ∧ (Lit.int k n).wf = true
abbrev IntsR (K : Nat → Prop) (m : Mem) (v : AV) (l : List Int) : Prop := SlR K 1 (RInt .i64) m v l
/-- Cells that hold a slice. -/
def RSl {α : Type} (Q : Mem → AV → α → Prop) (m : Mem) (ce : List AV) (x : α) : Prop := ∃ v, ce = [v] ∧ Q m v x
abbrev RowsR (K : Nat → Prop) (m : Mem) (v : AV) (l : List (List Int)) : Prop := SlR K 1 (RSl (IntsR K)) m v l
theorem IntsR.keep {K : Nat → Prop} {m m' : Mem} {v : AV} {l : List Int} (h : IntsR K m v l) (hK : ∀ b, K b → m'.get b = m.get b) : IntsR K m' v l := SlR.keep h hK (fun _ _ h => h)
theorem RowsR.keep {K : Nat → Prop} {m m' : Mem} {v : AV} {l : List (List Int)} (h : RowsR K m v l) (hK : ∀ b, K b → m'.get b = m.get b) : RowsR K m' v l :=
  SlR.keep h hK (fun _ _ ⟨v, h1, h2⟩ => ⟨v, h1, IntsR.keep h2 hK⟩)
theorem trod_ints_slice {fuel : Nat} {t e : TypeId} {cs : List Value} {x : DataW H × List MemPlace} (ht : P.underlying t = some (.slice e)) (he : P.underlying e = some (.int .i64)) (hce : P.cellsOf e = 1) (h : DataW.trod enc P W 0 sp hd fuel t cs = some x) :
    ∃ c l, cs = [c] ∧ (∀ as, c ≠ .agg as) ∧ l.length ≤ maxLen ∧ IntsR (fun b => b < W.heap.size) (mirror W) (conv1 W.heap.size c) l := by
  have := trod_slice (α := Int) (R := RInt .i64) ht (by omega) (fun fuel cs x hl hx => by
    obtain ⟨n, rfl, hw⟩ := trod_int' he hx
    exact ⟨n, rfl, hw⟩) h
  rwa [hce] at this
theorem trod_rows {fuel : Nat} {t e u : TypeId} {cs : List Value} {x : DataW H × List MemPlace} (ht : P.underlying t = some (.slice e)) (he : P.underlying e = some (.slice u)) (hu : P.underlying u = some (.int .i64)) (hce : P.cellsOf e = 1) (hcu : P.cellsOf u = 1) (h : DataW.trod enc P W 0 sp hd fuel t cs = some x) :
    ∃ c l, cs = [c] ∧ (∀ as, c ≠ .agg as) ∧ l.length ≤ maxLen ∧ RowsR (fun b => b < W.heap.size) (mirror W) (conv1 W.heap.size c) l := by
  have := trod_slice (α := List Int) (R := RSl (IntsR (fun b => b < W.heap.size))) ht (by omega) (fun fuel cs x hl hx => by
    obtain ⟨c, l, rfl, _, _, hl⟩ := trod_ints_slice he hu hcu hx
    exact ⟨l, _, rfl, hl⟩) h
  rwa [hce] at this
/-- An argument that is a slice. -/
theorem arg_slice {v : Value} {cs : List Value} (hcs : v.cells.toList = cs) {c : Value} (hc : cs = [c]) (hv : ∀ as, v ≠ .agg as) (n : Nat) : conv n v = conv1 n c := by
  subst hc
  have : v.cells.toList = [v] := by cases v <;> first | rfl | exact absurd rfl (hv _)
  rw [this] at hcs
  simp at hcs
  subst hcs
  cases v <;> first | rfl | exact absurd rfl (hv _)
end Go.Proofs.YtooogfnmhfocjaaGreatDoor.Spl
