/- Slices of one's own that are filled one by one; rows of a frame. -/
import Derived.Test.YtooogfnmhfocjaaGreatDoorSplArr3
import Derived.Test.YtooogfnmhfocjaaGreatDoorSplBufN
namespace Go.Proofs.YtooogfnmhfocjaaGreatDoor.Spl
open Go Go.RowKit
set_option linter.unusedVariables false
set_option linter.unusedSimpArgs false

theorem set_fill {α : Type} (f : α → AV) (z : AV) (l : List α) (x : α) (n : Nat) : (l.map f ++ List.replicate (n + 1) z).set l.length (f x) = (l ++ [x]).map f ++ List.replicate n z := by
  rw [List.set_append_right _ _ (by simp)]
  simp [List.replicate_succ]
theorem aPart_map {α : Type} {f : α → AV} {l : List α} {k : Nat} {x : α} (h : l[k]? = some x) : aPart (some 1) (l.map f) k = some (.agg [f x]) := by
  obtain ⟨hk, rfl⟩ := List.getElem?_eq_some_iff.1 h
  simp only [aPart, List.length_map, Nat.succ_le_of_lt hk, if_true]
  rw [List.drop_eq_getElem_cons (by simpa using hk)]
  simp
/-- One's own object, as a slice of it. -/
theorem slR_own {α : Type} {K : Nat → Prop} {R : Mem → List AV → α → Prop} {f : α → AV} {m : Mem} {i ty fz e : Nat} {l : List α} (hK : K i) (hg : m.get i = .cells ty fz (l.map f)) (hR : ∀ x ∈ l, R m [f x] x) : SlR K 1 R m (.slice i 0 l.length e) l := by
  refine .inr ⟨i, 0, e, rfl, hK, fun k x hk => ⟨[f x], rfl, hR x (List.mem_of_getElem? hk), ?_, fun j a hj => ?_⟩⟩
  · simp only [load?, Mem.cells?, hg, Nat.zero_add, Nat.mul_one]
    exact aPart_map hk
  · cases j with
    | zero =>
      cases hj
      rw [load_at hg]
      simp [hk]
    | succ j => simp at hj

theorem SlR.mono {α : Type} {K K' : Nat → Prop} {es : Nat} {R R' : Mem → List AV → α → Prop} {m : Mem} {v : AV} {l : List α} (h : SlR K es R m v l) (hK : ∀ b, K b → K' b) (hR : ∀ ce x, R m ce x → R' m ce x) : SlR K' es R' m v l := by
  rcases h with h | ⟨b, o, e, h1, h2, h3⟩
  · exact .inl h
  · refine .inr ⟨b, o, e, h1, hK b h2, fun k x hk => ?_⟩
    obtain ⟨ce, k1, k2, k3, k4⟩ := h3 k x hk
    exact ⟨ce, k1, hR _ _ k2, k3, k4⟩
theorem IntsR.mono {K K' : Nat → Prop} {m : Mem} {v : AV} {l : List Int} (h : IntsR K m v l) (hK : ∀ b, K b → K' b) : IntsR K' m v l := SlR.mono h hK (fun _ _ h => h)
/-- make of a slice of single cells. -/
theorem ok_mkSlice1 {β : Type} {ty bytes n : Nat} {z : AV} {k : Nat → AV → M β} {m : Mem} {Q : β → Mem → Prop} (h : bytes * n ≤ 35184372088832) :
    Ok (fun q => bnd (mkSlice ty 1 bytes [z] (.int .i64 n) (.int .i64 n)) (k q)) m Q ↔ Ok (fun q => k q (.slice m.next 0 n 1)) (m.alloc (.cells ty 0 (List.replicate n z))) Q := by
  have hb : (bytes : Int) * (n : Int) ≤ 2 ^ 45 := by rw [← Int.natCast_mul]; omega
  have e : mkSlice ty 1 bytes [z] (.int .i64 n) (.int .i64 n) = allocS ty 1 n (List.replicate n z) := by
    have hf : ∀ n, (List.replicate n [z]).flatten = List.replicate n z := by
      intro n
      induction n with
      | zero => rfl
      | succ n ih => rw [List.replicate_succ, List.flatten_cons, ih, List.replicate_succ]; rfl
    simp only [mkSlice, Int.toNat_natCast, hf]
    rw [if_pos ⟨by omega, Int.le_refl _, hb, rfl⟩]
  rw [e]
  exact ok_allocS

theorem wf_i64 {n : Int} (h : -9223372036854775808 ≤ n ∧ n < 9223372036854775808) : (Lit.int .i64 n).wf = true := by
  simp only [Lit.wf, Bool.and_eq_true, decide_eq_true_eq]
  have m1 : IntKind.i64.min = -9223372036854775808 := by decide
  have m2 : IntKind.i64.max = 9223372036854775807 := by decide
  omega

/-- .. of cells that are not told by what they hold. -/
theorem slR_own2 {α : Type} {K : Nat → Prop} {R : Mem → List AV → α → Prop} {m : Mem} {i ty fz e : Nat} {us : List AV} {l : List α} (hK : K i) (hg : m.get i = .cells ty fz us) (hlen : us.length = l.length) (hR : ∀ (k : Nat) u x, us[k]? = some u → l[k]? = some x → R m [u] x) : SlR K 1 R m (.slice i 0 l.length e) l := by
  refine .inr ⟨i, 0, e, rfl, hK, fun k x hk => ?_⟩
  have hlt : k < us.length := by rw [hlen]; exact (List.getElem?_eq_some_iff.1 hk).1
  have hu := List.getElem?_eq_getElem hlt
  refine ⟨[us[k]], rfl, hR k _ x hu hk, ?_, fun j a hj => ?_⟩
  · simp only [load?, Mem.cells?, hg, Nat.zero_add, Nat.mul_one]
    have := aPart_map (f := fun x => x) hu
    rwa [List.map_id'] at this
  · cases j with
    | zero =>
      cases hj
      rw [load_at hg]
      simp [hu]
    | succ j => simp at hj

theorem buf_ints {K : Nat → Prop} {T fz : Nat} {m : Mem} {v : AV} {l : List Int} (h : Buf T fz m v (l.map fun x => .int .i64 x)) (hK : ∀ j, own v j → K j) (hw : ∀ x ∈ l, (Lit.int .i64 x).wf = true) : IntsR K m v l := by
  rcases h with ⟨rfl, h⟩ | ⟨j, rfl, h1, h2, -⟩
  · exact .inl ⟨.inl rfl, List.map_eq_nil_iff.1 h⟩
  · rw [List.length_map] at *
    exact slR_own (f := fun x => .int .i64 x) (hK j rfl) h2 (fun x hx => ⟨rfl, hw x hx⟩)
/-- An element is put behind one's own slice, from a slice of its own. -/
theorem ok_append1 {β : Type} {T fz bytes : Nat} {v x : AV} {cs : List AV} {k : Nat → AV → M β} {m : Mem} {Q : β → Mem → Prop} (h : Buf T fz m v cs) (hn : m.base ≤ m.next) (ho : x.one = true) (hlen : (cs.length + 1) * bytes ≤ 2 ^ 45)
    (hq : ∀ m' v' fz', Chg (own v) m m' → Buf T fz' m' v' (cs ++ [x]) → (∀ j, own v' j → m.next ≤ j) → m'.base ≤ m'.next → Ok (fun n => k n v') m' Q) :
    Ok (fun n => bnd (append T 1 bytes v (.slice m.next 0 1 1)) (k n)) (m.alloc (.cells T 0 [x])) Q := by
  have hg := Mem.get_alloc m (.cells T 0 [x])
  have hca := Chg.alloc (own v) m (.cells T 0 [x])
  have hb : ∀ b, own v b → b < m.next := fun b hb => (h.own hb).2
  refine ok_append (X := [x]) (h.chg (Chg.alloc (fun _ => False) m (.cells T 0 [x])) (fun _ _ => id)) (Nat.le_succ_of_le hn) ⟨by simp [elems, Mem.cells?, hg], rfl⟩ (by simp [ho]) hlen ?_
  rintro m' v' h1 ⟨fz', -, h2⟩ - h4 h5
  exact hq m' v' fz' (hca.trans h1 (fun _ _ h => h)) h2 (fun j hj => Nat.le_of_lt (h4 (by simp) j hj)) h5

/-! rows: differences -/
/-- What is expected of a band. -/
def expN (intra : Bool) (p : List Int) (b : Nat) (last : Int) : Int := if intra then (if b = 0 then 8 else last) else (3 * p.getD b 0 + (if b = 0 then p.getD 0 0 else last)) / 4
def deltasN (intra : Bool) (p : List Int) : Nat → Int → List Int → List Int
  | _, _, [] => []
  | b, last, x :: l => (x - expN intra p b last) :: deltasN intra p (b + 1) x l
def RightP (l : List Int) : Prop := l.length = 13 ∧ ∀ x ∈ l, 0 ≤ x ∧ x ≤ 23
instance (l : List Int) : Decidable (RightP l) := by unfold RightP; infer_instance
def DeltasP (intra : Bool) (p c : List Int) : Prop := RightP c ∧ (intra = true ∨ RightP p)
instance (intra : Bool) (p c : List Int) : Decidable (DeltasP intra p c) := by unfold DeltasP; infer_instance
def deltasO (intra : Bool) (p c : List Int) : List Int := if DeltasP intra p c then deltasN intra p 0 0 c else []
theorem RightP.get {l : List Int} (h : RightP l) (k : Nat) : 0 ≤ l.getD k 0 ∧ l.getD k 0 ≤ 23 := by
  rcases Nat.lt_or_ge k l.length with hk | hk
  · rw [List.getD_eq_getElem?_getD, List.getElem?_eq_getElem hk]; exact h.2 _ (List.getElem_mem hk)
  · rw [List.getD_eq_getElem?_getD, List.getElem?_eq_none hk]; decide
theorem expN_in {intra : Bool} {p : List Int} {b : Nat} {last : Int} (hp : intra = true ∨ RightP p) (hl : 0 ≤ last ∧ last ≤ 23) : 0 ≤ expN intra p b last ∧ expN intra p b last ≤ 23 := by
  unfold expN
  cases intra with
  | true => simp only [if_true]; split <;> omega
  | false =>
    have hp' : RightP p := by simpa using hp
    have h1 := hp'.get b
    have h2 := hp'.get 0
    simp only [Bool.false_eq_true, if_false]
    split <;> omega
theorem deltasN_length {intra : Bool} {p : List Int} : ∀ {l : List Int} {b : Nat} {last : Int}, (deltasN intra p b last l).length = l.length
  | [], _, _ => rfl
  | x :: l, b, last => by simp [deltasN, deltasN_length (l := l)]
theorem deltasN_in {intra : Bool} {p : List Int} (hp : intra = true ∨ RightP p) : ∀ {l : List Int} {b : Nat} {last : Int}, (∀ x ∈ l, 0 ≤ x ∧ x ≤ 23) → 0 ≤ last ∧ last ≤ 23 → ∀ y ∈ deltasN intra p b last l, -23 ≤ y ∧ y ≤ 23
  | [], _, _, _, _ => fun y hy => by simp [deltasN] at hy
  | x :: l, b, last, h, hl => fun y hy => by
    have hx := h x (List.mem_cons_self ..)
    have he := expN_in (b := b) hp hl
    rcases List.mem_cons.1 hy with rfl | hy
    · omega
    · exact deltasN_in hp (fun z hz => h z (List.mem_cons_of_mem _ hz)) hx y hy
end Go.Proofs.YtooogfnmhfocjaaGreatDoor.Spl
