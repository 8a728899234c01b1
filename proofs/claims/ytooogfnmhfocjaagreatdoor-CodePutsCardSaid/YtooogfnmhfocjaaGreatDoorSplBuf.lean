/- The abstract machine, 18: slices of the call's own that grow; what is changed. -/
import Derived.Test.YtooogfnmhfocjaaGreatDoorSplIv
namespace Go.Proofs.YtooogfnmhfocjaaGreatDoor.Spl
open Go
set_option linter.unusedVariables false
set_option linter.unusedSimpArgs false

/-- What is changed lies in F. -/
structure Chg (F : Nat → Prop) (m m' : Mem) : Prop where
  base : m'.base = m.base
  next : m.next ≤ m'.next
  get : ∀ b, b < m.next → ¬ F b → m'.get b = m.get b
theorem Chg.refl (F : Nat → Prop) (m : Mem) : Chg F m m := ⟨rfl, Nat.le_refl _, fun _ _ _ => rfl⟩
theorem Chg.trans {F G : Nat → Prop} {a b c : Mem} (h : Chg F a b) (g : Chg G b c) (hG : ∀ i, i < a.next → G i → F i) : Chg F a c :=
  ⟨g.base.trans h.base, Nat.le_trans h.next g.next, fun i hi hF => (g.get i (Nat.lt_of_lt_of_le hi h.next) (fun hg => hF (hG i hi hg))).trans (h.get i hi hF)⟩
theorem Chg.mono {F G : Nat → Prop} {a b : Mem} (h : Chg F a b) (hG : ∀ i, i < a.next → F i → G i) : Chg G a b :=
  ⟨h.base, h.next, fun i hi hg => h.get i hi (fun hf => hg (hG i hi hf))⟩
theorem Chg.set (m : Mem) (i : Nat) (o : AObj) : Chg (fun b => b = i) m (m.set i o) := ⟨rfl, Nat.le_refl _, fun b _ hb => get_set_ne hb⟩
theorem Chg.alloc (F : Nat → Prop) (m : Mem) (o : AObj) : Chg F m (m.alloc o) := ⟨rfl, Nat.le_succ _, fun b hb _ => get_alloc_ne (Nat.ne_of_lt hb)⟩
theorem Chg.old {F : Nat → Prop} {m0 m m' : Mem} (h : Chg F m m') (h0 : Old m0 m) (hn : m.base ≤ m.next) (hF : ∀ b, F b → m.base ≤ b) : Old m0 m' :=
  ⟨h.base.trans h0.base, Nat.le_trans h0.next h.next, fun b hb => (h.get b (by have := h0.base; omega) (fun hf => by have := hF b hf; have := h0.base; omega)).trans (h0.get b hb)⟩

/-- The object of a slice. -/
def own : AV → Nat → Prop
  | .slice j _ _ _, b => b = j
  | _, _ => False

/-- A slice of the call's own, of elements of one cell each, all of its object's. -/
def Buf (T fz : Nat) (m : Mem) (v : AV) (cs : List AV) : Prop :=
  (v = .nilslice ∧ cs = []) ∨ ∃ j, v = .slice j 0 cs.length 1 ∧ cs ≠ [] ∧ m.get j = .cells T fz cs ∧ fz ≤ cs.length ∧ m.base ≤ j ∧ j < m.next
theorem Buf.own {T fz : Nat} {m : Mem} {v : AV} {cs : List AV} (h : Buf T fz m v cs) {b : Nat} (hb : own v b) : m.base ≤ b ∧ b < m.next := by
  rcases h with ⟨rfl, _⟩ | ⟨j, rfl, _, _, _, h1, h2⟩
  · exact hb.elim
  · cases hb; exact ⟨h1, h2⟩
theorem Buf.chg {F : Nat → Prop} {T fz : Nat} {m m' : Mem} {v : AV} {cs : List AV} (h : Buf T fz m v cs) (hc : Chg F m m') (hF : ∀ b, Go.Proofs.YtooogfnmhfocjaaGreatDoor.Spl.own v b → ¬ F b) : Buf T fz m' v cs := by
  rcases h with ⟨rfl, rfl⟩ | ⟨j, rfl, h1, h2, h3, h4, h5⟩
  · exact .inl ⟨rfl, rfl⟩
  · exact .inr ⟨j, rfl, h1, (hc.get j h5 (hF j rfl)).trans h2, h3, by rw [hc.base]; exact h4, Nat.lt_of_lt_of_le h5 hc.next⟩
theorem Buf.len {T fz : Nat} {m : Mem} {v : AV} {cs : List AV} (h : Buf T fz m v cs) : aLenS v = some (.int .i64 cs.length) := by
  rcases h with ⟨rfl, rfl⟩ | ⟨j, rfl, _⟩ <;> rfl
theorem Buf.one {T fz : Nat} {m : Mem} {v : AV} {cs : List AV} (h : Buf T fz m v cs) : v.one = true := by
  rcases h with ⟨rfl, rfl⟩ | ⟨j, rfl, _⟩ <;> simp
theorem Buf.eqb {T fz : Nat} {m : Mem} {v : AV} {cs : List AV} (h : Buf T fz m v cs) : AV.eqb v v = true := by
  rcases h with ⟨rfl, rfl⟩ | ⟨j, rfl, _⟩ <;> simp [AV.eqb]
theorem Buf.idx {T fz : Nat} {m : Mem} {v : AV} {cs : List AV} (h : Buf T fz m v cs) {k : Nat} {kd : IntKind} (hk : k < cs.length) : ∃ j, aIdxS 1 v (.int kd k) = some (.ptr j k) ∧ m.get j = .cells T fz cs ∧ m.base ≤ j ∧ j < m.next ∧ Go.Proofs.YtooogfnmhfocjaaGreatDoor.Spl.own v j := by
  rcases h with ⟨rfl, rfl⟩ | ⟨j, rfl, h1, h2, h3, h4, h5⟩
  · simp at hk
  · exact ⟨j, by rw [aIdxS_at hk]; simp, h2, h4, h5, rfl⟩
theorem Buf.elems {T fz : Nat} {m : Mem} {v : AV} {cs : List AV} (h : Buf T fz m v cs) : elems 1 cs.length v m = some cs ∧ count v = some cs.length := by
  rcases h with ⟨rfl, rfl⟩ | ⟨j, rfl, h1, h2, h3, h4, h5⟩
  · exact ⟨rfl, rfl⟩
  · refine ⟨?_, rfl⟩
    simp [Go.Proofs.YtooogfnmhfocjaaGreatDoor.Spl.elems, Mem.cells?, h2]

theorem ok_append {β : Type} {T fz bytes : Nat} {v x : AV} {cs X : List AV} {k : Nat → AV → M β} {m : Mem} {Q : β → Mem → Prop} (h : Buf T fz m v cs) (hn : m.base ≤ m.next) (hx : elems 1 X.length x m = some X ∧ count x = some X.length) (ho : X.all AV.one = true)
    (hlen : (cs.length + X.length) * bytes ≤ 2 ^ 45)
    (hq : ∀ m' v', Chg (own v) m m' → (∃ fz', fz' ≤ fz ∧ Buf T fz' m' v' (cs ++ X)) → (∀ j, own v' j → own v j ∨ m.next ≤ j) → (X ≠ [] → ∀ j, own v' j → m.next ≤ j) → m'.base ≤ m'.next → Ok (fun n => k n v') m' Q) :
    Ok (fun n => bnd (append T 1 bytes v x) (k n)) m Q := by
  rw [ok_op]
  have hX : X.length = 0 ↔ X = [] := List.length_eq_zero_iff
  rcases h with ⟨rfl, rfl⟩ | ⟨j, rfl, h1, h2, h3, h4, h5⟩
  · by_cases e : X = []
    · subst e
      refine ⟨.nilslice, m, ?_, hq m .nilslice (Chg.refl _ _) ⟨fz, Nat.le_refl _, .inl ⟨rfl, rfl⟩⟩ (fun j h => h.elim) (fun h => absurd rfl h) hn⟩
      unfold append
      simp only [List.length_nil] at hx ⊢
      simp only [hx.2, hx.1, forceList_eq, forceNat_eq]
      simp
    · have hl : X.length ≠ 0 := fun h => e (hX.1 h)
      refine ⟨.slice m.next 0 X.length 1, m.alloc (.cells T 0 X), ?_, ?_⟩
      · unfold append
        simp only [hx.2, hx.1, ho, hl, if_false, reduceCtorEq, forceList_eq, forceNat_eq]
        rw [if_pos (by simpa using hlen)]
        rfl
      · refine hq _ _ (Chg.alloc _ _ _) ⟨0, Nat.zero_le _, .inr ⟨m.next, by simp, by simpa using e, by simp [Mem.get_alloc], Nat.zero_le _, hn, Nat.lt_succ_self _⟩⟩ (fun j hj => .inr (Nat.le_of_eq hj.symm)) (fun _ j hj => Nat.le_of_eq hj.symm) (Nat.le_succ_of_le hn)
  · by_cases e : X = []
    · subst e
      refine ⟨.slice j 0 cs.length 1, m, ?_, hq m _ (Chg.refl _ _) ⟨fz, Nat.le_refl _, .inr ⟨j, by simp, by simpa using h1, by simpa using h2, by simpa using h3, h4, h5⟩⟩ (fun j h => .inl h) (fun h => absurd rfl h) hn⟩
      unfold append
      simp only [List.length_nil] at hx ⊢
      simp only [hx.2, hx.1, forceList_eq, forceNat_eq]
      simp
    · have hl : X.length ≠ 0 := fun h => e (hX.1 h)
      refine ⟨.slice m.next 0 (cs.length + X.length) 1, (m.set j .dead).alloc (.cells T fz (cs ++ X)), ?_, ?_⟩
      · unfold append
        simp only [hx.2, hx.1, ho, hl, if_false, reduceCtorEq, h2, forceList_eq, forceNat_eq]
        rw [if_pos ⟨h4, trivial, trivial, trivial, h3, by omega, hlen⟩]
        rfl
      · refine hq _ _ ⟨rfl, Nat.le_succ _, fun b hb hF => ?_⟩ ⟨fz, Nat.le_refl _, .inr ⟨m.next, by simp, by simp [e], ?_, by simp; omega, hn, Nat.lt_succ_self _⟩⟩ (fun j hj => .inr (Nat.le_of_eq hj.symm)) (fun _ j hj => Nat.le_of_eq hj.symm) (Nat.le_succ_of_le hn)
        · rw [get_alloc_ne (m := m.set j .dead) (by show b ≠ m.next; omega), get_set_ne hF]
        · exact Mem.get_alloc (m.set j .dead) _

/-! octets -/

def u8s (l : List UInt8) : List AV := l.map fun b => .int .u8 b.toNat
@[simp] theorem u8s_length (l : List UInt8) : (u8s l).length = l.length := by simp [u8s]
theorem u8s_append (a b : List UInt8) : u8s (a ++ b) = u8s a ++ u8s b := by simp [u8s]
theorem u8s_one (l : List UInt8) : (u8s l).all AV.one = true := by simp [u8s, AV.one]
theorem byteCells_bs (l : List UInt8) : byteCells (bs l) = u8s l := by simp [byteCells, bs, u8s]
theorem ofByteCells_u8s : ∀ l : List UInt8, ofByteCells (u8s l) = some l
  | [] => rfl
  | b :: l => by
    have ih := ofByteCells_u8s l
    simp only [u8s, List.map_cons, ofByteCells] at ih ⊢
    rw [ih]
    simp
theorem elems_str (l : List UInt8) (m : Mem) : elems 1 (u8s l).length (.str (bs l)) m = some (u8s l) ∧ count (.str (bs l)) = some (u8s l).length := by
  constructor
  · simp only [elems, bs_size, byteCells_bs, u8s_length]
    simp [List.take_of_length_le]
  · simp [count, bs_size]
/-- string([]byte{b}) -/
theorem ok_ofBytes1 {β : Type} {T : Nat} {b : UInt8} {k : Nat → AV → M β} {m : Mem} {Q : β → Mem → Prop} (hq : Ok (fun n => k n (.str (bs [b]))) (m.alloc (.cells T 0 [.int .u8 b.toNat])) Q) :
    Ok (fun n => bnd (allocS T 1 1 [.int .u8 b.toNat]) fun v => bnd (ofBytes v) (k n)) m Q := by
  rw [allocS_def, ok_op]
  refine ⟨_, _, rfl, ?_⟩
  rw [ok_op]
  refine ⟨.str (bs [b]), _, ?_, hq⟩
  have hg := Mem.get_alloc m (.cells T 0 [.int .u8 b.toNat])
  simp only [ofBytes, countS, elems, Mem.cells?, hg]
  simp [ofByteCells, bs]
theorem aFill1 (z v : AV) (h : v.one = true) : aFill (fun i => some (i * 1, 1)) [z] [(0, v)] = some [v] := by
  have : v.cells? = some [v] := by cases v <;> simp_all [AV.one, AV.cells?]
  simp [aFill, this, splice]
theorem ok_allocS {β : Type} {ty es len : Nat} {cs : List AV} {k : Nat → AV → M β} {m : Mem} {Q : β → Mem → Prop} : Ok (fun n => bnd (allocS ty es len cs) (k n)) m Q ↔ Ok (fun n => k n (.slice m.next 0 len es)) (m.alloc (.cells ty 0 cs)) Q := by
  rw [allocS_def, ok_op]
  constructor
  · rintro ⟨u, m1, hs, hk⟩
    cases hs
    exact hk
  · intro hk
    exact ⟨_, _, rfl, hk⟩
theorem elems_new (T es : Nat) (cs : List AV) (m : Mem) : elems 1 cs.length (.slice m.next 0 cs.length es) (m.alloc (.cells T 0 cs)) = some cs ∧ count (.slice m.next 0 cs.length es) = some cs.length := by
  have hg := Mem.get_alloc m (.cells T 0 cs)
  exact ⟨by simp [elems, Mem.cells?, hg], rfl⟩
theorem aBin_neqSame (i o : Nat) : aBin .neq [3] (.ptr i o) (.ptr i o) = some (.bool false) := by simp [aBin, aEq, eqF]
theorem aBin_eqlSame (i o : Nat) : aBin .eql [3] (.ptr i o) (.ptr i o) = some (.bool true) := by simp [aBin, aEq, eqF]
theorem aBin_shr_nat (k k' : IntKind) (e : List Nat) (a n : Nat) (h : n ≤ k.bits) : aBin .shr e (.int k (a : Int)) (.int k' (n : Int)) = some (.int k ((a / 2 ^ n : Nat) : Int)) := by
  rw [aBin_shr _ _ _ _ _ ⟨Int.natCast_nonneg _, by omega⟩, Int.fdiv_eq_ediv_of_nonneg _ (by exact Int.le_of_lt (Int.pow_pos (by decide)))]
  simp
end Go.Proofs.YtooogfnmhfocjaaGreatDoor.Spl
