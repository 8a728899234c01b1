/- The abstract machine, 21: slices of the call's own, of elements of several cells, that grow. -/
import Derived.Test.YtooogfnmhfocjaaGreatDoorSplBuf
namespace Go.Proofs.YtooogfnmhfocjaaGreatDoor.Spl
open Go
set_option linter.unusedVariables false
set_option linter.unusedSimpArgs false

def BufN (T es : Nat) (m : Mem) (v : AV) (cs : List AV) (n : Nat) : Prop :=
  cs.length = n * es ∧ ((v = .nilslice ∧ n = 0) ∨ ∃ j, v = .slice j 0 n es ∧ 0 < n ∧ m.get j = .cells T 0 cs ∧ m.base ≤ j ∧ j < m.next)
theorem BufN.own {T es n : Nat} {m : Mem} {v : AV} {cs : List AV} (h : BufN T es m v cs n) {b : Nat} (hb : own v b) : m.base ≤ b ∧ b < m.next := by
  obtain ⟨_, h⟩ := h
  rcases h with ⟨rfl, _⟩ | ⟨j, rfl, _, _, h1, h2⟩
  · exact hb.elim
  · cases hb; exact ⟨h1, h2⟩
theorem BufN.chg {F : Nat → Prop} {T es n : Nat} {m m' : Mem} {v : AV} {cs : List AV} (h : BufN T es m v cs n) (hc : Chg F m m') (hF : ∀ b, Go.Proofs.YtooogfnmhfocjaaGreatDoor.Spl.own v b → ¬ F b) : BufN T es m' v cs n := by
  obtain ⟨h0, h⟩ := h
  refine ⟨h0, ?_⟩
  rcases h with ⟨rfl, rfl⟩ | ⟨j, rfl, h1, h2, h4, h5⟩
  · exact .inl ⟨rfl, rfl⟩
  · exact .inr ⟨j, rfl, h1, (hc.get j h5 (hF j rfl)).trans h2, by rw [hc.base]; exact h4, Nat.lt_of_lt_of_le h5 hc.next⟩
theorem BufN.len {T es n : Nat} {m : Mem} {v : AV} {cs : List AV} (h : BufN T es m v cs n) : aLenS v = some (.int .i64 n) := by
  obtain ⟨_, h⟩ := h
  rcases h with ⟨rfl, rfl⟩ | ⟨j, rfl, _⟩ <;> rfl
/-- An element's cells. -/
theorem BufN.idx {T es n : Nat} {m : Mem} {v : AV} {cs : List AV} (h : BufN T es m v cs n) {k : Nat} {kd : IntKind} (hk : k < n) : ∃ j, aIdxS es v (.int kd k) = some (.ptr j (k * es)) ∧ m.get j = .cells T 0 cs ∧ load? (some es) (.ptr j (k * es)) m = some (.agg ((cs.drop (k * es)).take es)) := by
  obtain ⟨h0, h⟩ := h
  rcases h with ⟨rfl, rfl⟩ | ⟨j, rfl, h1, h2, h4, h5⟩
  · omega
  · refine ⟨j, by rw [aIdxS_at hk]; simp, h2, ?_⟩
    rw [load_at' h2]
    have : (k + 1) * es ≤ n * es := Nat.mul_le_mul_right _ hk
    rw [Nat.add_mul] at this
    rw [if_pos (by omega)]
/-- One element more, which was made as a slice of its own. -/
theorem ok_appendN {β : Type} {T es bytes n : Nat} {v : AV} {cs X : List AV} {k : Nat → AV → M β} {m : Mem} {Q : β → Mem → Prop} (h : BufN T es m v cs n) (hn : m.base ≤ m.next) (hX : X.length = es) (hes : 0 < es) (ho : X.all AV.one = true)
    (hlen : (n + 1) * bytes ≤ 2 ^ 45)
    (hq : ∀ m' v', Chg (own v) m m' → BufN T es m' v' (cs ++ X) (n + 1) → (∀ j, own v' j → m.next ≤ j) → m'.base ≤ m'.next → Ok (fun n => k n v') m' Q) :
    Ok (fun q => bnd (allocS T es 1 X) fun x => bnd (append T es bytes v x) (k q)) m Q := by
  rw [ok_allocS, ok_op]
  have hg := Mem.get_alloc m (.cells T 0 X)
  have hel : elems es 1 (.slice m.next 0 1 es) (m.alloc (.cells T 0 X)) = some X := by
    have ht : X.take es = X := List.take_of_length_le (by omega)
    simp [elems, Mem.cells?, hg, hX, ht]
  obtain ⟨h0, h⟩ := h
  have hca := Chg.alloc (own v) m (.cells T 0 X)
  rcases h with ⟨rfl, rfl⟩ | ⟨j, rfl, h1, h2, h4, h5⟩
  · have hc0 : cs = [] := List.length_eq_zero_iff.1 (by omega)
    subst hc0
    refine ⟨.slice (m.next + 1) 0 1 es, (m.alloc (.cells T 0 X)).alloc (.cells T 0 X), ?_, ?_⟩
    · unfold append
      simp only [count, hel, ho, reduceCtorEq, if_false, Nat.one_ne_zero, forceList_eq, forceNat_eq]
      rw [if_pos (by simpa using hlen)]
      rfl
    · refine hq _ _ (hca.trans (Chg.alloc (own .nilslice) (m.alloc (.cells T 0 X)) (.cells T 0 X)) (fun _ _ h => h)) ⟨by simp [hX], .inr ⟨m.next + 1, rfl, by omega, ?_, by show m.base ≤ m.next + 1; omega, by show m.next + 1 < m.next + 1 + 1; omega⟩⟩ (fun j hj => by cases hj; omega) (by show m.base ≤ m.next + 1 + 1; omega)
      exact Mem.get_alloc (m.alloc (.cells T 0 X)) _
  · have hgj : (m.alloc (.cells T 0 X)).get j = .cells T 0 cs := (get_alloc_ne (Nat.ne_of_lt h5)).trans h2
    refine ⟨.slice (m.next + 1) 0 (n + 1) es, ((m.alloc (.cells T 0 X)).set j .dead).alloc (.cells T 0 (cs ++ X)), ?_, ?_⟩
    · unfold append
      simp only [count, hel, ho, reduceCtorEq, if_false, Nat.one_ne_zero, hgj, forceList_eq, forceNat_eq]
      rw [if_pos ⟨h4, trivial, trivial, trivial, Nat.zero_le _, h0, hlen⟩]
      rfl
    · refine hq _ _ ⟨rfl, by show m.next ≤ m.next + 1 + 1; omega, fun b hb hF => ?_⟩ ⟨by simp [h0, hX, Nat.add_mul], .inr ⟨m.next + 1, rfl, by omega, ?_, by show m.base ≤ m.next + 1; omega, by show m.next + 1 < m.next + 1 + 1; omega⟩⟩ (fun j hj => by cases hj; omega) (by show m.base ≤ m.next + 1 + 1; omega)
      · rw [get_alloc_ne (m := (m.alloc (.cells T 0 X)).set j .dead) (by show b ≠ m.next + 1; omega), get_set_ne hF, get_alloc_ne (by omega)]
      · exact Mem.get_alloc ((m.alloc (.cells T 0 X)).set j .dead) _
end Go.Proofs.YtooogfnmhfocjaaGreatDoor.Spl
