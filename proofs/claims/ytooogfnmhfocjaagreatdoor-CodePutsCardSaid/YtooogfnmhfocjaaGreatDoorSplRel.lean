/- The abstract machine, 3: how its values and memory stand to Go's. -/
import Derived.Test.YtooogfnmhfocjaaGreatDoorSplExec
import Derived.WalkKit
import Derived.Lib.FrozenHead
namespace Go.Proofs.YtooogfnmhfocjaaGreatDoor.Spl
open Go Go.RowKit
set_option linter.unusedVariables false
set_option linter.unusedSimpArgs false

/-- Where objects lie. -/
structure Gm where
  base : Nat
  blk : Nat → Nat
  sz : Nat → Nat

mutual
inductive VR (g : Gm) (n : Nat) : AV → Value → Prop
  | undef (v : Value) : VR g n .undef v
  | bool (b : Bool) : VR g n (.bool b) (.bool b)
  | int (k : IntKind) (x : Int) : VR g n (.int k x) (.int k x)
  | str (s : ByteArray) : VR g n (.str s) (.string s)
  | nilptr : VR g n .nilptr (.pointer none)
  | ptr (i o : Nat) (h : i < n) : VR g n (.ptr i o) (.pointer (some ⟨g.blk i, o, none⟩))
  | anyptr (p : Option Addr) : VR g n .anyptr (.pointer p)
  | nilslice : VR g n .nilslice (.slice none 0 0)
  | slice (i o len es cap : Nat) (h : i < n) (hc : len ≤ cap) (hs : g.base ≤ i → es ≠ 0 → o + cap * es ≤ g.sz i) : VR g n (.slice i o len es) (.slice (some ⟨g.blk i, o, none⟩) len cap)
  | dang (a : Addr) (cap : Nat) : VR g n .dang (.slice (some a) 0 cap)
  | func (fn : Fn) (a c : List AV) (x y : List Value) (ha : VRs g n a x) (hc : VRs g n c y) : VR g n (.func fn a c) (.func fn x.toArray y.toArray)
  | nilfunc : VR g n .nilfunc .nilFunc
  | iface (t : TypeId) (v : AV) (x : Value) (h : VR g n v x) : VR g n (.iface t v) (.iface t x)
  | nilface : VR g n .nilface .nilIface
  | agg (cs : List AV) (xs : List Value) (h : VRs g n cs xs) : VR g n (.agg cs) (.agg xs.toArray)
  | tup (cs : List AV) (xs : List Value) (h : VRs g n cs xs) : VR g n (.tup cs) (.tuple xs.toArray)
  | mp (i : Nat) (h : i < n) : VR g n (.mp i) (.map (some (g.blk i)))
inductive VRs (g : Gm) (n : Nat) : List AV → List Value → Prop
  | nil : VRs g n [] []
  | cons (v : AV) (x : Value) (vs : List AV) (xs : List Value) (h : VR g n v x) (t : VRs g n vs xs) : VRs g n (v :: vs) (x :: xs)
end

structure Ext' (g : Gm) (n : Nat) (g' : Gm) (n' : Nat) : Prop where
  base : g'.base = g.base
  le : n ≤ n'
  blk : ∀ i, i < n → g'.blk i = g.blk i
  sz : ∀ i, i < n → g'.sz i = g.sz i

theorem Ext'.refl (g : Gm) (n : Nat) : Ext' g n g n := ⟨rfl, Nat.le_refl _, fun _ _ => rfl, fun _ _ => rfl⟩
theorem Ext'.trans {g g' g'' : Gm} {n n' n'' : Nat} (h : Ext' g n g' n') (k : Ext' g' n' g'' n'') : Ext' g n g'' n'' :=
  ⟨k.base.trans h.base, Nat.le_trans h.le k.le, fun i hi => (k.blk i (Nat.lt_of_lt_of_le hi h.le)).trans (h.blk i hi), fun i hi => (k.sz i (Nat.lt_of_lt_of_le hi h.le)).trans (h.sz i hi)⟩

mutual
theorem VR.mono {g g' : Gm} {n n' : Nat} (e : Ext' g n g' n') : ∀ {v : AV} {x : Value}, VR g n v x → VR g' n' v x
  | _, _, .undef v => .undef v
  | _, _, .bool b => .bool b
  | _, _, .int k x => .int k x
  | _, _, .str s => .str s
  | _, _, .nilptr => .nilptr
  | _, _, .ptr i o h => by rw [← e.blk i h]; exact .ptr i o (Nat.lt_of_lt_of_le h e.le)
  | _, _, .anyptr p => .anyptr p
  | _, _, .nilslice => .nilslice
  | _, _, .slice i o len es cap h hc hs => by
    rw [← e.blk i h]; exact .slice i o len es cap (Nat.lt_of_lt_of_le h e.le) hc (by rw [e.base, e.sz i h]; exact hs)
  | _, _, .dang a cap => .dang a cap
  | _, _, .func fn a c x y ha hc => .func fn a c x y (VRs.mono e ha) (VRs.mono e hc)
  | _, _, .nilfunc => .nilfunc
  | _, _, .iface t v x h => .iface t v x (VR.mono e h)
  | _, _, .nilface => .nilface
  | _, _, .agg cs xs h => .agg cs xs (VRs.mono e h)
  | _, _, .tup cs xs h => .tup cs xs (VRs.mono e h)
  | _, _, .mp i h => by rw [← e.blk i h]; exact .mp i (Nat.lt_of_lt_of_le h e.le)
theorem VRs.mono {g g' : Gm} {n n' : Nat} (e : Ext' g n g' n') : ∀ {v : List AV} {x : List Value}, VRs g n v x → VRs g' n' v x
  | _, _, .nil => .nil
  | _, _, .cons v x vs xs h t => .cons v x vs xs (VR.mono e h) (VRs.mono e t)
end

theorem VRs.length {g : Gm} {n : Nat} : ∀ {vs : List AV} {xs : List Value}, VRs g n vs xs → vs.length = xs.length
  | _, _, .nil => rfl
  | _, _, .cons _ _ _ _ _ t => by simp [VRs.length t]
theorem VRs.get {g : Gm} {n : Nat} : ∀ {vs : List AV} {xs : List Value} (h : VRs g n vs xs) (i : Nat) {v : AV}, vs[i]? = some v → ∃ x, xs[i]? = some x ∧ VR g n v x
  | _, _, .nil, i, v, hv => by simp at hv
  | _, _, .cons a b vs xs h t, 0, v, hv => by simp at hv; subst hv; exact ⟨b, by simp, h⟩
  | _, _, .cons a b vs xs h t, i + 1, v, hv => by
    simp at hv; obtain ⟨x, hx, r⟩ := VRs.get t i hv; exact ⟨x, by simpa using hx, r⟩
theorem VRs.append {g : Gm} {n : Nat} : ∀ {a b : List AV} {x y : List Value}, VRs g n a x → VRs g n b y → VRs g n (a ++ b) (x ++ y)
  | _, _, _, _, .nil, k => k
  | _, _, _, _, .cons v x vs xs h t, k => .cons v x _ _ h (VRs.append t k)
theorem VRs.take {g : Gm} {n : Nat} (j : Nat) : ∀ {a : List AV} {x : List Value}, VRs g n a x → VRs g n (a.take j) (x.take j) := by
  induction j with
  | zero => intro a x _; simp; exact .nil
  | succ j ih => intro a x h; cases h with
    | nil => simp; exact .nil
    | cons v x vs xs h t => simpa using .cons v x _ _ h (ih t)
theorem VRs.drop {g : Gm} {n : Nat} (j : Nat) : ∀ {a : List AV} {x : List Value}, VRs g n a x → VRs g n (a.drop j) (x.drop j) := by
  induction j with
  | zero => intro a x h; simpa using h
  | succ j ih => intro a x h; cases h with
    | nil => simp; exact .nil
    | cons v x vs xs h t => simpa using ih t
theorem VRs.set {g : Gm} {n : Nat} {v : AV} {x : Value} (hv : VR g n v x) : ∀ {a : List AV} {xs : List Value} (j : Nat), VRs g n a xs → VRs g n (a.set j v) (xs.set j x)
  | _, _, j, .nil => by simp; exact .nil
  | _, _, 0, .cons _ _ _ _ h t => by simpa using .cons _ _ _ _ hv t
  | _, _, j + 1, .cons _ _ _ _ h t => by simpa using .cons _ _ _ _ h (VRs.set hv j t)
theorem VRs.flatten_replicate {g : Gm} {n : Nat} {z : List AV} {x : List Value} (h : VRs g n z x) : ∀ k : Nat, VRs g n ((List.replicate k z).flatten) ((List.replicate k x).flatten)
  | 0 => by simp; exact .nil
  | k + 1 => by simpa [List.replicate_succ] using VRs.append h (VRs.flatten_replicate h k)
theorem VRs.ofFn {g : Gm} {n : Nat} {α : Type} (f : α → AV) (h : α → Value) (hf : ∀ a, VR g n (f a) (h a)) : ∀ l : List α, VRs g n (l.map f) (l.map h)
  | [] => .nil
  | a :: l => .cons _ _ _ _ (hf a) (VRs.ofFn f h hf l)
/-- Pointwise. -/
theorem VRs.of {g : Gm} {n : Nat} : ∀ {vs : List AV} {xs : List Value}, vs.length = xs.length → (∀ (i : Nat) v x, vs[i]? = some v → xs[i]? = some x → VR g n v x) → VRs g n vs xs
  | [], [], _, _ => .nil
  | v :: vs, x :: xs, hl, h => .cons _ _ _ _ (h 0 v x (by simp) (by simp)) (VRs.of (by simpa using hl) fun i a b ha hb => h (i + 1) a b (by simpa using ha) (by simpa using hb))
  | [], _ :: _, hl, _ => by simp at hl
  | _ :: _, [], hl, _ => by simp at hl

/-- One cell. -/
theorem VR.oneCell {g : Gm} {n : Nat} {v : AV} {x : Value} (h : VR g n v x) (hv : v.one = true) : x.oneCell' = true := by
  cases h <;> simp_all [AV.one, Value.oneCell']
theorem VR.cells {g : Gm} {n : Nat} {v : AV} {x : Value} {cs : List AV} (h : VR g n v x) (hv : v.cells? = some cs) : VRs g n cs x.cells.toList := by
  cases h <;> simp [AV.cells?] at hv <;> subst hv <;> simp [Value.cells]
  case agg h => exact h
  all_goals exact .cons _ _ _ _ (by constructor <;> assumption) .nil

/-- The scalar constants. -/
theorem VR.sc (g : Gm) (n : Nat) (x : Value) : VR g n (Value.sc x) x := by
  unfold Value.sc
  split <;> constructor
theorem VR.av (g : Gm) (n : Nat) (x : Value) : VR g n (Value.av x) x := by
  unfold Value.av
  split
  · rename_i cs
    have := VRs.ofFn (g := g) (n := n) Value.sc id (fun a => VR.sc g n a) cs.toList
    rw [List.map_id] at this
    exact .agg _ _ this
  · exact VR.sc g n x

/-- A world of reference, and which of its blocks no one turns. -/
structure Ref where
  w : World
  S : Nat → Prop
  lt : ∀ k, S k → k < w.heap.size

structure Keeps (W : Ref) (w : World) : Prop where
  os : w.os = W.w.os
  tape : w.tape = W.w.tape
  output : w.output = W.w.output
  size : W.w.heap.size ≤ w.heap.size
  block : ∀ k, W.S k → w.heap[k]? = W.w.heap[k]?

theorem Keeps.trans {W : Ref} {w w' : World} (h : Keeps W w) (k : w'.os = w.os ∧ w'.tape = w.tape ∧ w'.output = w.output ∧ w.heap.size ≤ w'.heap.size ∧ ∀ k, W.S k → w'.heap[k]? = w.heap[k]?) : Keeps W w' :=
  ⟨k.1.trans h.os, k.2.1.trans h.tape, k.2.2.1.trans h.output, Nat.le_trans h.size k.2.2.2.1, fun i hi => (k.2.2.2.2 i hi).trans (h.block i hi)⟩
theorem Keeps.drew {W : Ref} {w : World} (h : Keeps W w) : Keeps W w.drew := ⟨h.os, h.tape, h.output, h.size, h.block⟩
theorem Keeps.lt {W : Ref} {w : World} (h : Keeps W w) {k : Nat} (hk : W.S k) : k < w.heap.size := Nat.lt_of_lt_of_le (W.lt k hk) h.size
theorem Keeps.alloc {W : Ref} {w : World} (h : Keeps W w) (o : Obj) : Keeps W (w.alloc o) :=
  h.trans ⟨rfl, rfl, rfl, by simp, fun k hk => Below.heap_alloc w o k (h.lt hk)⟩

structure Sim (W : Ref) (g : Gm) (m : Mem) (w : World) : Prop where
  gbase : g.base = m.base
  mbase : m.base ≤ w.heap.size
  le : m.base ≤ m.next
  below : Keeps W w
  old : ∀ i, i < m.base → g.blk i = i ∧ ∀ ty fz cs, m.get i = .cells ty fz cs → W.S i ∧ ∃ c e f, W.w.heap[i]? = some (.cells c e f) ∧ cs.length ≤ c.size ∧ VRs g m.next cs (c.toList.take cs.length)
  own : ∀ i, m.base ≤ i → i < m.next → ¬ W.S (g.blk i) ∧ g.blk i < w.heap.size
  live : ∀ i ty fz cs, m.base ≤ i → i < m.next → m.get i = .cells ty fz cs → ∃ c lo hi, w.heap[g.blk i]? = some (.cells c ty (lo, hi)) ∧ c.size = g.sz i ∧ cs.length ≤ c.size ∧ (fz ≤ cs.length → hi ≤ fz) ∧ VRs g m.next cs (c.toList.take cs.length)
  raw : ∀ i o, m.base ≤ i → i < m.next → m.get i = .other o → w.heap[g.blk i]? = some o
  inj : ∀ i j, m.base ≤ i → i < m.next → m.base ≤ j → j < m.next → m.get i ≠ .dead → m.get j ≠ .dead → g.blk i = g.blk j → i = j

theorem Sim.cells {W : Ref} {g : Gm} {m : Mem} {w : World} (s : Sim W g m w) {i : Nat} (hi : i < m.next) {cs : List AV} (hc : m.cells? i = some cs) :
    ∃ c e f, w.heap[g.blk i]? = some (.cells c e f) ∧ cs.length ≤ c.size ∧ VRs g m.next cs (c.toList.take cs.length) := by
  unfold Mem.cells? at hc
  split at hc
  · rename_i ty fz cs' hg
    simp at hc; subst hc
    by_cases hb : i < m.base
    · obtain ⟨h1, h2⟩ := s.old i hb
      obtain ⟨hS, c, e, f, h3, h4, h5⟩ := h2 _ _ _ hg
      refine ⟨c, e, f, ?_, h4, h5⟩
      rw [h1, s.below.block i hS]; exact h3
    · obtain ⟨c, lo, hi', h1, h2, h3, h4, h5⟩ := s.live i _ _ _ (by omega) hi hg
      exact ⟨c, ty, (lo, hi'), h1, h3, h5⟩
  · simp at hc

theorem cell_of {w : World} {b o : Nat} {c : Array Value} {e : TypeId} {f : Nat × Nat} (h : w.heap[b]? = some (.cells c e f)) : w.cell? ⟨b, o, none⟩ = c[o]? := by
  simp [World.cell?, h]

theorem Sim.cell {W : Ref} {g : Gm} {m : Mem} {w : World} (s : Sim W g m w) {i o : Nat} (hi : i < m.next) {cs : List AV} (hc : m.cells? i = some cs) {v : AV} (hv : cs[o]? = some v) :
    ∃ x, w.cell? ⟨g.blk i, o, none⟩ = some x ∧ VR g m.next v x := by
  obtain ⟨c, e, f, h1, h2, h3⟩ := s.cells hi hc
  obtain ⟨x, hx, r⟩ := h3.get o hv
  rw [List.getElem?_take] at hx
  split at hx
  · exact ⟨x, by rw [cell_of h1]; simpa using hx, r⟩
  · cases hx

theorem addr_add (b o j : Nat) : (⟨b, o, none⟩ : Addr).add j = ⟨b, o + j, none⟩ := by unfold Addr.add; split <;> simp_all

theorem Sim.range {W : Ref} {g : Gm} {m : Mem} {w : World} (s : Sim W g m w) {i o k : Nat} (hi : i < m.next) {cs : List AV} (hc : m.cells? i = some cs) (hk : o + k ≤ cs.length) :
    ∃ xs : List Value, xs.length = k ∧ (∀ j v, xs[j]? = some v → w.cell? ((⟨g.blk i, o, none⟩ : Addr).add j) = some v) ∧ VRs g m.next ((cs.drop o).take k) xs := by
  obtain ⟨c, e, f, h1, h2, h3⟩ := s.cells hi hc
  refine ⟨(c.toList.drop o).take k, by simp; omega, ?_, ?_⟩
  · intro j v hv
    rw [addr_add, cell_of h1]
    rw [List.getElem?_take] at hv
    split at hv
    · simpa [List.getElem?_drop] using hv
    · cases hv
  · have := (h3.drop o).take k
    rw [List.drop_take, List.take_take] at this
    rwa [Nat.min_eq_left (by omega)] at this

end Go.Proofs.YtooogfnmhfocjaaGreatDoor.Spl
