/- The abstract machine, 17: arguments that are slices of arrays. -/
import Derived.Test.YtooogfnmhfocjaaGreatDoorSplArg
import Derived.Test.YtooogfnmhfocjaaGreatDoorSplPost
namespace Go.Proofs.YtooogfnmhfocjaaGreatDoor.Spl
open Go Go.RowKit
set_option linter.unusedVariables false
set_option linter.unusedSimpArgs false

theorem mapM_get {α β : Type} {f : α → Option β} : ∀ {l : List α} {r : List β}, l.mapM f = some r → ∀ (i : Nat) x, l[i]? = some x → ∃ y, f x = some y
  | [], _, _, i, x, h => by simp at h
  | a :: l, r, hm, i, x, h => by
    rw [List.mapM_cons] at hm
    cases ha : f a with
    | none => rw [ha] at hm; simp at hm
    | some y =>
      rw [ha] at hm
      cases hl : l.mapM f with
      | none => rw [hl] at hm; simp at hm
      | some ys =>
        cases i with
        | zero => simp at h; subst h; exact ⟨y, ha⟩
        | succ i => exact mapM_get hl i x (by simpa using h)

theorem mirror_cell {W : World} {b o : Nat} {x : Value} (h : W.cell? ⟨b, o, none⟩ = some x) : load? none (.ptr b o) (mirror W) = some (conv1 W.heap.size x) := by
  unfold World.cell? at h
  simp only [load?, Mem.cells?, mirror]
  generalize hb : W.heap[b]? = y at h
  cases y with
  | none => simp at h
  | some ob =>
    cases ob with
    | cells c t fr => simp at h; simp [aPart, h]
    | _ => simp at h

theorem mapM_get' {α β : Type} {f : α → Option β} : ∀ {l : List α} {r : List β}, l.mapM f = some r → ∀ (i : Nat) x, l[i]? = some x → ∃ y, r[i]? = some y ∧ f x = some y
  | [], _, _, i, x, h => by simp at h
  | a :: l, r, hm, i, x, h => by
    rw [List.mapM_cons] at hm
    cases ha : f a with
    | none => rw [ha] at hm; simp at hm
    | some y =>
      rw [ha] at hm
      cases hl : l.mapM f with
      | none => rw [hl] at hm; simp at hm
      | some ys =>
        rw [hl] at hm
        simp at hm
        subst hm
        cases i with
        | zero => simp at h; subst h; exact ⟨y, by simp, ha⟩
        | succ i => simpa using mapM_get' hl i x (by simpa using h)

/-- A number that is read. -/
theorem trod_int {H : Type} {enc : TypeId × Value → H} {P : Program} {W : World} {b : Nat} {sp : Nat → Bool} {hd : Bool} {fuel : Nat} {u : TypeId} {k : IntKind} {c : Value} {x : DataW H × List MemPlace} (hu : P.underlying u = some (.int k)) (h : DataW.trod enc P W b sp hd fuel u [c] = some x) :
    ∃ n, c = .int k n ∧ (Lit.int k n).wf = true := by
  cases fuel with
  | zero => simp [DataW.trod] at h
  | succ fuel =>
    unfold DataW.trod at h
    rw [hu] at h
    cases c <;> simp at h
    rename_i k' n
    obtain ⟨⟨rfl, hw⟩, _⟩ := h
    exact ⟨n, rfl, hw⟩

/-- An array of three numbers of 16 bits that is read. -/
theorem trod_arr3 {H : Type} {enc : TypeId × Value → H} {P : Program} {W : World} {b : Nat} {sp : Nat → Bool} {hd : Bool} {fuel : Nat} {e u : TypeId} {cs : List Value} {x : DataW H × List MemPlace} (he : P.underlying e = some (.array 3 u)) (hu : P.underlying u = some (.int .u16)) (hcu : P.cellsOf u = 1) (hce : P.cellsOf e = 3)
    (h : DataW.trod enc P W b sp hd fuel e cs = some x) : ∃ x y z : Nat, cs = [.int .u16 x, .int .u16 y, .int .u16 z] ∧ x < 65536 ∧ y < 65536 ∧ z < 65536 := by
  cases fuel with
  | zero => simp [DataW.trod] at h
  | succ fuel =>
    unfold DataW.trod at h
    rw [he] at h
    have h2 : cs.length = 3 ∧ ∃ r, ((List.range 3).mapM fun i => DataW.trod enc P W b sp hd fuel u ((cs.drop (i * P.cellsOf u)).take (P.cellsOf u))) = some r := by
      cases cs with
      | nil => simp [hce] at h
      | cons c0 cs =>
        simp only at h
        split at h
        · rename_i hl
          obtain ⟨r, hr, _⟩ := Option.map_eq_some_iff.1 h
          exact ⟨by rw [hl, hce], r, hr⟩
        · cases h
    obtain ⟨hl, r, hr⟩ := h2
    match cs, hl with
    | [c0, c1, c2], _ =>
      obtain ⟨y0, h0⟩ := mapM_get hr 0 0 (by simp)
      obtain ⟨y1, h1⟩ := mapM_get hr 1 1 (by simp [List.getElem?_range])
      obtain ⟨y2, h2⟩ := mapM_get hr 2 2 (by simp [List.getElem?_range])
      simp [hcu] at h0 h1 h2
      obtain ⟨a0, rfl, w0⟩ := trod_int hu h0
      obtain ⟨a1, rfl, w1⟩ := trod_int hu h1
      obtain ⟨a2, rfl, w2⟩ := trod_int hu h2
      have hw : ∀ n : Int, (Lit.int .u16 n).wf = true → 0 ≤ n ∧ n < 65536 := by
        intro n hn
        simp only [Lit.wf, Bool.and_eq_true, decide_eq_true_eq] at hn
        have e1 : IntKind.u16.min = 0 := by decide
        have e2 : IntKind.u16.max = 65535 := by decide
        omega
      have b0 := hw _ w0
      have b1 := hw _ w1
      have b2 := hw _ w2
      refine ⟨a0.toNat, a1.toNat, a2.toNat, ?_, by omega, by omega, by omega⟩
      rw [Int.toNat_of_nonneg b0.1, Int.toNat_of_nonneg b1.1, Int.toNat_of_nonneg b2.1]

theorem list_of {α : Type} {R : Nat → α → Prop} : ∀ (n : Nat), (∀ k, k < n → ∃ p, R k p) → ∃ L : List α, L.length = n ∧ ∀ (k : Nat) p, L[k]? = some p → R k p
  | 0, _ => ⟨[], rfl, fun k p h => by simp at h⟩
  | n + 1, h => by
    obtain ⟨L, h1, h2⟩ := list_of n (fun k hk => h k (by omega))
    obtain ⟨p, hp⟩ := h n (by omega)
    refine ⟨L ++ [p], by simp [h1], fun k q hq => ?_⟩
    rcases Nat.lt_or_ge k L.length with hk | hk
    · rw [List.getElem?_append_left hk] at hq; exact h2 k q hq
    · rw [List.getElem?_append_right hk] at hq
      have : k - L.length = 0 := by
        rcases Nat.eq_zero_or_pos (k - L.length) with h | h
        · exact h
        · rw [List.getElem?_eq_none (by simp; omega)] at hq; cases hq
      rw [this] at hq
      simp at hq
      subst hq
      have : k = n := by omega
      subst this; exact hp

/-- A slice of such arrays that is read. -/
theorem arr3_of {H : Type} {enc : TypeId × Value → H} {P : Program} {W : World} {t e u : TypeId} {v : Value} {d : DataW H} {ps : List MemPlace} (ht : P.underlying t = some (.slice e)) (he : P.underlying e = some (.array 3 u)) (hu : P.underlying u = some (.int .u16)) (hcu : P.cellsOf u = 1) (hce : P.cellsOf e = 3)
    (hna : ∀ cs, v ≠ .agg cs) (h : DataW.Trod enc P W 0 (fun _ => true) true t v d ps) : ∃ L, Arr3 (mirror W) (conv W.heap.size v) L := by
  obtain ⟨fuel, h⟩ := h
  cases fuel with
  | zero => simp [DataW.trod] at h
  | succ fuel =>
    have hcs : v.cells.toList = [v] := by cases v <;> first | rfl | exact absurd rfl (hna _)
    rw [hcs] at h
    unfold DataW.trod at h
    rw [ht] at h
    cases v <;> simp only [reduceCtorEq] at h
    case slice oa len cap =>
      cases oa with
      | none =>
        split at h <;> first | (rename_i hq; cases hq; done) | skip
        · rename_i hq
          cases hq
          exact ⟨[], .inl ⟨.inl rfl, rfl⟩⟩
        all_goals first | (cases h; done) | simp_all
      | some a =>
        dsimp only at h
        split at h
        case isFalse => cases h
        case isTrue hc =>
          obtain ⟨elems, hel, _⟩ := Option.bind_eq_some_iff.1 h
          cases len with
          | zero => exact ⟨[], .inl ⟨.inr (by simp [conv, conv1]), rfl⟩⟩
          | succ len =>
            have hev : ∀ k, k < len + 1 → ∃ p : Nat × Nat × Nat, (W.cell? (a.add (k * 3)) = some (.int .u16 p.1) ∧ W.cell? ((a.add (k * 3)).add 1) = some (.int .u16 p.2.1) ∧ W.cell? ((a.add (k * 3)).add 2) = some (.int .u16 p.2.2)) ∧ p.1 < 65536 ∧ p.2.1 < 65536 ∧ p.2.2 < 65536 := by
              intro k hk
              obtain ⟨y, hy⟩ := mapM_get hel k k (by simp [hk])
              rw [hce] at hy
              obtain ⟨cs, h1, h2⟩ := Option.bind_eq_some_iff.1 hy
              obtain ⟨x, y, z, rfl, b1, b2, b3⟩ := trod_arr3 he hu hcu hce h2
              unfold World.cells? at h1
              rw [if_pos (Nat.zero_le _)] at h1
              obtain ⟨c0, e0, f0⟩ := mapM_get' h1 0 0 (by simp)
              obtain ⟨c1, e1, f1⟩ := mapM_get' h1 1 1 (by simp [List.getElem?_range])
              obtain ⟨c2, e2, f2⟩ := mapM_get' h1 2 2 (by simp [List.getElem?_range])
              simp at e0 e1 e2
              subst e0 e1 e2
              refine ⟨(x, y, z), ⟨?_, f1, f2⟩, b1, b2, b3⟩
              have : (a.add (k * 3)).add 0 = a.add (k * 3) := by unfold Addr.add; split <;> simp_all
              rw [← this]; exact f0
            have hspot : a.spot = none ∧ a.block < W.heap.size := by
              obtain ⟨p, ⟨h1, _⟩, _⟩ := hev 0 (by omega)
              have h0 : a.add (0 * 3) = a := by unfold Addr.add; split <;> simp_all
              rw [h0] at h1
              unfold World.cell? at h1
              split at h1
              · rename_i c _ _ hb
                split at h1
                · cases h1
                · rename_i hs
                  refine ⟨by simpa using hs, ?_⟩
                  rcases Nat.lt_or_ge a.block W.heap.size with h | h
                  · exact h
                  · rw [Array.getElem?_eq_none h] at hb; cases hb
              · cases h1
            obtain ⟨L, hL, hall⟩ := list_of (len + 1) hev
            obtain ⟨b, o, sp⟩ := a
            obtain ⟨rfl, hb⟩ := hspot
            simp only at hb
            refine ⟨L, .inr ⟨b, o, ?_, hb, fun k p hp => ?_⟩⟩
            · simp only [conv, conv1, hL]
              rw [if_pos ⟨hb, hc.2.1⟩]
            · obtain ⟨⟨f0, f1, f2⟩, bb⟩ := hall k p hp
              simp only [addr_add] at f0 f1 f2
              exact ⟨⟨mirror_cell f0, mirror_cell f1, mirror_cell f2⟩, bb⟩
    all_goals first | (cases h; done) | (split at h <;> first | (cases h; done) | simp_all)

/-- An array of three numbers that is read. -/
theorem agg3_of {H : Type} {enc : TypeId × Value → H} {P : Program} {W : World} {t u : TypeId} {k : IntKind} {b : Nat} {sp : Nat → Bool} {hd : Bool} {v : Value} {d : DataW H} {ps : List MemPlace} (ht : P.underlying t = some (.array 3 u)) (hu : P.underlying u = some (.int k)) (hcu : P.cellsOf u = 1) (hct : P.cellsOf t = 3)
    (h : DataW.Trod enc P W b sp hd t v d ps) : ∃ x y z : Int, v = .agg #[.int k x, .int k y, .int k z] := by
  obtain ⟨fuel, h⟩ := h
  cases fuel with
  | zero => simp [DataW.trod] at h
  | succ fuel =>
    unfold DataW.trod at h
    rw [ht] at h
    generalize hcs : v.cells.toList = cs at h
    have h2 : cs.length = 3 ∧ ∃ r, ((List.range 3).mapM fun i => DataW.trod enc P W b sp hd fuel u ((cs.drop (i * P.cellsOf u)).take (P.cellsOf u))) = some r := by
      cases cs with
      | nil => simp [hct] at h
      | cons c0 cs =>
        simp only at h
        split at h
        · rename_i hl
          obtain ⟨r, hr, _⟩ := Option.map_eq_some_iff.1 h
          exact ⟨by rw [hl, hct], r, hr⟩
        · cases h
    obtain ⟨hl, r, hr⟩ := h2
    match cs, hl with
    | [c0, c1, c2], _ =>
      obtain ⟨y0, h0⟩ := mapM_get hr 0 0 (by simp)
      obtain ⟨y1, h1⟩ := mapM_get hr 1 1 (by simp [List.getElem?_range])
      obtain ⟨y2, h2⟩ := mapM_get hr 2 2 (by simp [List.getElem?_range])
      simp [hcu] at h0 h1 h2
      obtain ⟨a0, rfl, w0⟩ := trod_int hu h0
      obtain ⟨a1, rfl, w1⟩ := trod_int hu h1
      obtain ⟨a2, rfl, w2⟩ := trod_int hu h2
      refine ⟨a0, a1, a2, ?_⟩
      cases v <;> first
        | (simp [Value.cells] at hcs; done)
        | (rename_i cs; simp only [Value.cells] at hcs; cases cs; simp_all)
end Go.Proofs.YtooogfnmhfocjaaGreatDoor.Spl
