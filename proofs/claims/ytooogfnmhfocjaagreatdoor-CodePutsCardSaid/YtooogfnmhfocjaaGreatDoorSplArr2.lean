/- The abstract machine, 20: arguments that are slices of structs of numbers. -/
import Derived.Test.YtooogfnmhfocjaaGreatDoorSplArr
namespace Go.Proofs.YtooogfnmhfocjaaGreatDoor.Spl
open Go Go.RowKit
set_option linter.unusedVariables false
set_option linter.unusedSimpArgs false

/-- A slice that came in, of elements of es cells each. -/
def ArrOf {α : Type} (es : Nat) (f : α → List AV) (m : Mem) (v : AV) (L : List α) : Prop :=
  ((v = .nilslice ∨ v = .dang) ∧ L = []) ∨ ∃ b o, v = .slice b o L.length 0 ∧ b < m.base ∧ ∀ (k : Nat) x, L[k]? = some x →
    load? (some es) (.ptr b (o + k * es)) m = some (.agg (f x)) ∧ ∀ (j : Nat) a, (f x)[j]? = some a → load? none (.ptr b (o + k * es + j)) m = some a
theorem ArrOf.len {α : Type} {es : Nat} {f : α → List AV} {m : Mem} {v : AV} {L : List α} (h : ArrOf es f m v L) : aLenS v = some (.int .i64 L.length) := by
  rcases h with ⟨rfl | rfl, rfl⟩ | ⟨b, o, rfl, _⟩ <;> rfl
/-- An element of it. -/
theorem ArrOf.at {α : Type} {es : Nat} {f : α → List AV} {m : Mem} {v : AV} {L : List α} (h : ArrOf es f m v L) {k : Nat} {x : α} (hk : L[k]? = some x) :
    ∃ b o, (∀ kd, aIdxS es v (.int kd k) = some (.ptr b o)) ∧ ∀ m', Old m m' → load? (some es) (.ptr b o) m' = some (.agg (f x)) ∧ ∀ (j : Nat) a, (f x)[j]? = some a → load? none (.ptr b (o + j)) m' = some a := by
  rcases h with ⟨_, rfl⟩ | ⟨b, o, rfl, hb, hel⟩
  · simp at hk
  · have hlt : k < L.length := (List.getElem?_eq_some_iff.1 hk).1
    obtain ⟨h1, h2⟩ := hel k x hk
    exact ⟨b, o + k * es, fun kd => aIdxS_at hlt, fun m' ho => ⟨(ho.load hb).trans h1, fun j a hj => (ho.load hb).trans (h2 j a hj)⟩⟩

def isI64 : Option TypeDesc → Bool
  | some (.int .i64) => true
  | _ => false
theorem isI64_eq {x : Option TypeDesc} (h : isI64 x = true) : x = some (.int .i64) := by
  unfold isI64 at h
  split at h
  · rfl
  · cases h
/-- Are all fields numbers, one behind the other? -/
def intsOk (P : Program) : Nat → List Field → Bool
  | _, [] => true
  | i, f :: fs => f.offset == i && isI64 (P.underlying f.type) && P.cellsOf f.type == 1 && intsOk P (i + 1) fs
theorem intsOk_get {P : Program} : ∀ {fs : List Field} {i : Nat}, intsOk P i fs = true → ∀ (j : Nat) f, fs[j]? = some f → f.offset = i + j ∧ P.underlying f.type = some (.int .i64) ∧ P.cellsOf f.type = 1
  | [], i, _, j, f, h => by simp at h
  | g :: fs, i, hok, j, f, h => by
    simp only [intsOk, Bool.and_eq_true, beq_iff_eq] at hok
    obtain ⟨⟨⟨h1, h2⟩, h3⟩, h4⟩ := hok
    cases j with
    | zero => simp at h; subst h; exact ⟨h1, isI64_eq h2, h3⟩
    | succ j =>
      have := intsOk_get h4 j f (by simpa using h)
      exact ⟨by omega, this.2⟩

/-- A struct of numbers that is read. -/
theorem trod_ints {H : Type} {enc : TypeId × Value → H} {P : Program} {W : World} {b : Nat} {sp : Nat → Bool} {hd : Bool} {fuel : Nat} {e : TypeId} {fs : Array Field} {cs : List Value} {x : DataW H × List MemPlace} (he : P.underlying e = some (.struct fs)) (hok : intsOk P 0 fs.toList = true) (hce : P.cellsOf e = fs.toList.length) (hpos : 0 < fs.toList.length)
    (h : DataW.trod enc P W b sp hd fuel e cs = some x) : ∃ xs : List Int, xs.length = fs.toList.length ∧ cs = xs.map (.int .i64) ∧ ∀ n ∈ xs, -9223372036854775808 ≤ n ∧ n < 9223372036854775808 := by
  cases fuel with
  | zero => simp [DataW.trod] at h
  | succ fuel =>
    unfold DataW.trod at h
    rw [he] at h
    have h2 : cs.length = fs.toList.length ∧ ∃ r, (fs.toList.mapM fun f => DataW.trod enc P W b sp hd fuel f.type ((cs.drop f.offset).take (P.cellsOf f.type))) = some r := by
      cases cs with
      | nil =>
        exfalso
        simp only at h
        split at h
        · rename_i hl
          rw [hce] at hl
          simp at hl
          simp [hl] at hpos
        · cases h
      | cons c0 cs =>
        simp only at h
        split at h
        · rename_i hl
          obtain ⟨r, hr, _⟩ := Option.map_eq_some_iff.1 h
          exact ⟨by rw [hl, hce], r, hr⟩
        · cases h
    obtain ⟨hl, r, hr⟩ := h2
    have hev : ∀ k, k < fs.toList.length → ∃ n : Int, cs[k]? = some (.int .i64 n) ∧ -9223372036854775808 ≤ n ∧ n < 9223372036854775808 := by
      intro k hk
      have hf := List.getElem?_eq_getElem hk
      obtain ⟨y, hy⟩ := mapM_get hr k _ hf
      obtain ⟨o1, o2, o3⟩ := intsOk_get hok k _ hf
      rw [o1, o3, Nat.zero_add] at hy
      have hkc : k < cs.length := by omega
      have e1 : (cs.drop k).take 1 = [cs[k]] := by
        rw [List.drop_eq_getElem_cons hkc]; rfl
      rw [e1] at hy
      obtain ⟨n, hn, hw⟩ := trod_int o2 hy
      refine ⟨n, by rw [List.getElem?_eq_getElem hkc, hn], ?_⟩
      simp only [Lit.wf, Bool.and_eq_true, decide_eq_true_eq] at hw
      have m1 : IntKind.i64.min = -9223372036854775808 := by decide
      have m2 : IntKind.i64.max = 9223372036854775807 := by decide
      omega
    obtain ⟨xs, hx1, hx2⟩ := list_of fs.toList.length hev
    refine ⟨xs, hx1, ?_, fun n hn => ?_⟩
    · apply List.ext_getElem?
      intro k
      rw [List.getElem?_map]
      rcases Nat.lt_or_ge k xs.length with hk | hk
      · rw [List.getElem?_eq_getElem hk]
        exact (hx2 k _ (List.getElem?_eq_getElem hk)).1
      · rw [List.getElem?_eq_none hk, List.getElem?_eq_none (by omega)]; rfl
    · obtain ⟨k, hk, rfl⟩ := List.mem_iff_getElem.1 hn
      exact (hx2 k _ (List.getElem?_eq_getElem hk)).2

theorem mapM_all {α β : Type} {f : α → Option β} : ∀ {l : List α} {r : List β}, l.mapM f = some r → r.length = l.length
  | [], r, h => by simp at h; subst h; rfl
  | a :: l, r, h => by
    rw [List.mapM_cons] at h
    cases ha : f a with
    | none => rw [ha] at h; simp at h
    | some y =>
      rw [ha] at h
      cases hl : l.mapM f with
      | none => rw [hl] at h; simp at h
      | some ys =>
        rw [hl] at h
        simp at h
        subst h
        simp [mapM_all hl]

/-- Cells that lie in the memory, one behind the other. -/
theorem mirror_cells {W : World} {b o n : Nat} {cs : List Value} (hcs : ∀ j, j < n → W.cell? ⟨b, o + j, none⟩ = cs[j]?) (hl : cs.length = n) (hn : 0 < n) :
    load? (some n) (.ptr b o) (mirror W) = some (.agg (cs.map (conv1 W.heap.size))) := by
  obtain ⟨c, t, fr, hb⟩ : ∃ c t fr, W.heap[b]? = some (.cells c t fr) := by
    have h0 := hcs 0 hn
    rw [List.getElem?_eq_getElem (by omega)] at h0
    unfold World.cell? at h0
    split at h0
    · rename_i c t fr hb
      exact ⟨c, t, fr, hb⟩
    · cases h0
  have hc : ∀ j, j < n → c.toList[o + j]? = cs[j]? := by
    intro j hj
    have := hcs j hj
    unfold World.cell? at this
    simp only [hb] at this
    simpa using this
  have hlen : o + n ≤ c.toList.length := by
    have h1 := hc (n - 1) (by omega)
    rw [List.getElem?_eq_getElem (show n - 1 < cs.length by omega)] at h1
    have := (List.getElem?_eq_some_iff.1 h1).1
    omega
  have e : (c.toList.drop o).take n = cs := by
    apply List.ext_getElem?
    intro k
    rcases Nat.lt_or_ge k n with hk | hk
    · rw [List.getElem?_take_of_lt hk, List.getElem?_drop, hc k hk]
    · rw [List.getElem?_eq_none (by simp; omega), List.getElem?_eq_none (by omega)]
  simp only [load?, Mem.cells?, mirror, hb, aPart, List.length_map]
  rw [if_pos hlen, ← List.map_drop, ← List.map_take, e]

/-- A slice of structs that is read. -/
theorem arrOf_of {α H : Type} {enc : TypeId × Value → H} {P : Program} {W : World} {t e : TypeId} {v : Value} {d : DataW H} {ps : List MemPlace} {g : α → List Value} {wf : α → Prop} (ht : P.underlying t = some (.slice e)) (hpos : 0 < P.cellsOf e)
    (helem : ∀ fuel cs x, DataW.trod enc P W 0 (fun _ => true) true fuel e cs = some x → ∃ a : α, cs = g a ∧ wf a) (hg : ∀ a, wf a → (g a).length = P.cellsOf e)
    (hna : ∀ cs, v ≠ .agg cs) (h : DataW.Trod enc P W 0 (fun _ => true) true t v d ps) : ∃ L : List α, ArrOf (P.cellsOf e) (fun a => (g a).map (conv1 W.heap.size)) (mirror W) (conv W.heap.size v) L ∧ ∀ a ∈ L, wf a := by
  obtain ⟨fuel, h⟩ := h
  cases fuel with
  | zero => simp [DataW.trod] at h
  | succ fuel =>
    have hcs : v.cells.toList = [v] := by cases v <;> first | rfl | exact absurd rfl (hna _)
    rw [hcs] at h
    unfold DataW.trod at h
    rw [ht] at h
    cases v <;> simp only [reduceCtorEq] at h
    case slice oa len cap =>
      cases oa with
      | none =>
        split at h <;> first | (rename_i hq; cases hq; done) | skip
        · rename_i hq
          cases hq
          exact ⟨[], .inl ⟨.inl rfl, rfl⟩, fun a ha => by simp at ha⟩
        all_goals first | (cases h; done) | simp_all
      | some a =>
        dsimp only at h
        split at h
        case isFalse => cases h
        case isTrue hc =>
          obtain ⟨elems, hel, _⟩ := Option.bind_eq_some_iff.1 h
          cases len with
          | zero => exact ⟨[], .inl ⟨.inr (by simp [conv, conv1]), rfl⟩, fun a ha => by simp at ha⟩
          | succ len =>
            have hev : ∀ k, k < len + 1 → ∃ y : α, (∀ j, j < P.cellsOf e → W.cell? ((a.add (k * P.cellsOf e)).add j) = (g y)[j]?) ∧ wf y := by
              intro k hk
              obtain ⟨y, hy⟩ := mapM_get hel k k (by simp [hk])
              obtain ⟨cs, h1, h2⟩ := Option.bind_eq_some_iff.1 hy
              obtain ⟨z, rfl, hz⟩ := helem _ _ _ h2
              refine ⟨z, fun j hj => ?_, hz⟩
              unfold World.cells? at h1
              rw [if_pos (Nat.zero_le _)] at h1
              obtain ⟨c0, e0, f0⟩ := mapM_get' h1 j j (by simp [hj])
              rw [e0]
              exact f0
            have hspot : a.spot = none ∧ a.block < W.heap.size := by
              obtain ⟨y, h1, hw⟩ := hev 0 (by omega)
              have h1 := h1 0 hpos
              rw [List.getElem?_eq_getElem (by rw [hg y hw]; exact hpos)] at h1
              have h0 : (a.add (0 * P.cellsOf e)).add 0 = a := by unfold Addr.add; split <;> simp_all
              rw [h0] at h1
              unfold World.cell? at h1
              split at h1
              · rename_i c _ _ hb
                split at h1
                · cases h1
                · rename_i hs
                  refine ⟨by simpa using hs, ?_⟩
                  rcases Nat.lt_or_ge a.block W.heap.size with h | h
                  · exact h
                  · rw [Array.getElem?_eq_none h] at hb; cases hb
              · cases h1
            obtain ⟨L, hL, hall⟩ := list_of (len + 1) hev
            obtain ⟨b, o, sp⟩ := a
            obtain ⟨rfl, hb⟩ := hspot
            simp only at hb
            refine ⟨L, .inr ⟨b, o, ?_, hb, fun k p hp => ?_⟩, fun y hy => ?_⟩
            · simp only [conv, conv1, hL]
              rw [if_pos ⟨hb, hc.2.1⟩]
            · obtain ⟨hc, hw⟩ := hall k p hp
              simp only [addr_add] at hc
              refine ⟨mirror_cells hc (hg p hw) hpos, fun j a ha => ?_⟩
              rw [List.getElem?_map] at ha
              obtain ⟨c, hcj, rfl⟩ := Option.map_eq_some_iff.1 ha
              have hjl := (List.getElem?_eq_some_iff.1 hcj).1
              rw [hg p hw] at hjl
              exact mirror_cell ((hc j hjl).trans hcj)
            · obtain ⟨k, hk, rfl⟩ := List.mem_iff_getElem.1 hy
              exact (hall k _ (List.getElem?_eq_getElem hk)).2
    all_goals first | (cases h; done) | (split at h <;> first | (cases h; done) | simp_all)
end Go.Proofs.YtooogfnmhfocjaaGreatDoor.Spl
