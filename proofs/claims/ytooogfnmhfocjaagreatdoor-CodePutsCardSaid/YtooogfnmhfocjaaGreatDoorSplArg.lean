/- The abstract machine, 16: arguments in the memory of the world before. -/
import Derived.Test.YtooogfnmhfocjaaGreatDoorSplStr
namespace Go.Proofs.YtooogfnmhfocjaaGreatDoor.Spl
open Go
set_option linter.unusedVariables false
set_option linter.unusedSimpArgs false

/-- What was there before is as it was. -/
structure Old (m m' : Mem) : Prop where
  base : m'.base = m.base
  next : m.next ≤ m'.next
  get : ∀ b, b < m.base → m'.get b = m.get b
theorem Old.refl (m : Mem) : Old m m := ⟨rfl, Nat.le_refl _, fun _ _ => rfl⟩
theorem Old.trans {a b c : Mem} (h : Old a b) (k : Old b c) : Old a c := ⟨k.base.trans h.base, Nat.le_trans h.next k.next, fun i hi => (k.get i (by rw [h.base]; exact hi)).trans (h.get i hi)⟩
theorem Old.set {a b : Mem} (h : Old a b) {i : Nat} (hi : b.base ≤ i) (o : AObj) : Old a (b.set i o) :=
  ⟨h.base, h.next, fun j hj => by
    have : j ≠ i := by have := h.base; omega
    simp only [Mem.set, this, if_false]; exact h.get j hj⟩
theorem Old.alloc {a b : Mem} (h : Old a b) (hb : b.base ≤ b.next) (o : AObj) : Old a (b.alloc o) :=
  ⟨h.base, Nat.le_succ_of_le h.next, fun j hj => by
    have : j ≠ b.next := by have := h.base; omega
    simp only [Mem.alloc, this, if_false]; exact h.get j hj⟩
theorem Old.load {m m' : Mem} (h : Old m m') {b o : Nat} {sh : Option Nat} (hb : b < m.base) : load? sh (.ptr b o) m' = load? sh (.ptr b o) m := by
  simp only [load?, Mem.cells?, h.get b hb]

theorem get_set_ne {m : Mem} {i j : Nat} {o : AObj} (h : j ≠ i) : (m.set i o).get j = m.get j := by simp [Mem.set, h]
theorem get_alloc_ne {m : Mem} {j : Nat} {o : AObj} (h : j ≠ m.next) : (m.alloc o).get j = m.get j := by simp [Mem.alloc, h]

/-- A slice of three numbers each, of 16 bits. -/
def Arr3 (m : Mem) (v : AV) (L : List (Nat × Nat × Nat)) : Prop :=
  ((v = .nilslice ∨ v = .dang) ∧ L = []) ∨ ∃ b o, v = .slice b o L.length 0 ∧ b < m.base ∧ ∀ (k : Nat) p, L[k]? = some p →
    (load? none (.ptr b (o + k * 3)) m = some (.int .u16 p.1) ∧ load? none (.ptr b (o + k * 3 + 1)) m = some (.int .u16 p.2.1) ∧ load? none (.ptr b (o + k * 3 + 2)) m = some (.int .u16 p.2.2)) ∧ p.1 < 65536 ∧ p.2.1 < 65536 ∧ p.2.2 < 65536
theorem Arr3.len {m : Mem} {v : AV} {L : List (Nat × Nat × Nat)} (h : Arr3 m v L) : aLenS v = some (.int .i64 L.length) := by
  rcases h with ⟨rfl | rfl, rfl⟩ | ⟨b, o, rfl, _⟩ <;> rfl
theorem aIdxS_at {size i o n e k : Nat} {kd : IntKind} (h : k < n) : aIdxS size (.slice i o n e) (.int kd k) = some (.ptr i (o + k * size)) := by
  simp only [aIdxS]
  rw [if_pos (by omega)]
  simp
theorem aIdxA_at {size len i o k : Nat} {kd : IntKind} (h : k < len) : aIdxA len size (.ptr i o) (.int kd k) = some (.ptr i (o + k * size)) := by
  simp only [aIdxA]
  rw [if_pos (by omega)]
  simp
theorem same_load {ρ : Type} {sh : Option Nat} {a v : AV} {m : Mem} (h : load? sh a m = some v) (he : AV.eqb v v = true) (k : M ρ) : same sh a v m k = k := by
  simp [same, h, he]
/-- A whole variable is stored. -/
theorem ok_storeAll {β : Type} {i ty : Nat} {cs vs : List AV} {n : Nat} {k : Nat → AV → M β} {m : Mem} {Q : β → Mem → Prop} (h : m.get i = .cells ty 0 cs) (hb : m.base ≤ i) (hn : vs.length = n) (hl : cs.length = n) (hv : vs.all AV.one = true) :
    Ok (fun q => bnd (store (some n) (.ptr i 0) (.agg vs)) (k q)) m Q ↔ Ok (fun q => k q .undef) (m.set i (.cells ty 0 vs)) Q := by
  rw [ok_op]
  have hsp : splice cs 0 vs = vs := by
    rw [splice_eq _ _ _ (by omega)]
    simp [List.drop_eq_nil_of_le (show cs.length ≤ vs.length by omega)]
  have e : store (some n) (.ptr i 0) (.agg vs) m = some (.undef, m.set i (.cells ty 0 vs)) := by
    simp [store, hn, bnd, storeCs, forceList_eq, forceNat_eq, h, hb, ret, hl, hv, hsp]
  constructor
  · rintro ⟨u, m1, hs, hk⟩
    rw [e] at hs; cases hs
    exact hk
  · intro hk
    exact ⟨_, _, e, hk⟩
end Go.Proofs.YtooogfnmhfocjaaGreatDoor.Spl
