/- The abstract machine, 22: what a closed call makes, it makes in every memory. -/
import Derived.Test.YtooogfnmhfocjaaGreatDoorSplRun
namespace Go.Proofs.YtooogfnmhfocjaaGreatDoor.Spl
open Go Go.RowKit
set_option linter.unusedVariables false
set_option linter.unusedSimpArgs false

mutual
/-- A value, its objects k further on. -/
def AV.shift (k : Nat) : AV → AV
  | .ptr i o => .ptr (i + k) o
  | .slice i o l e => .slice (i + k) o l e
  | .func fn a c => .func fn (AV.shifts k a) (AV.shifts k c)
  | .iface t v => .iface t (AV.shift k v)
  | .agg cs => .agg (AV.shifts k cs)
  | .tup cs => .tup (AV.shifts k cs)
  | .mp i => .mp (i + k)
  | .undef => .undef
  | .bool b => .bool b
  | .int k n => .int k n
  | .str s => .str s
  | .nilptr => .nilptr
  | .anyptr => .anyptr
  | .nilslice => .nilslice
  | .dang => .dang
  | .nilfunc => .nilfunc
  | .nilface => .nilface
def AV.shifts (k : Nat) : List AV → List AV
  | [] => []
  | v :: vs => AV.shift k v :: AV.shifts k vs
end
theorem AV.shifts_length (k : Nat) : ∀ l : List AV, (AV.shifts k l).length = l.length
  | [] => rfl
  | v :: l => by simp [AV.shifts, AV.shifts_length k l]
def AObj.shift (k : Nat) : AObj → AObj
  | .dead => .dead
  | .cells ty fz cs => .cells ty fz (AV.shifts k cs)
  | .other o => .other o
/-- A memory, and behind it another one. -/
def Mem.add (m m0 : Mem) : Mem := ⟨m.base, m.next + m0.next, fun j => if j < m.next then m.get j else (m0.get (j - m.next)).shift m.next⟩
def Gm.add (g : Gm) (n : Nat) (g0 : Gm) : Gm := ⟨g.base, fun j => if j < n then g.blk j else g0.blk (j - n), fun j => if j < n then g.sz j else g0.sz (j - n)⟩
theorem Gm.add_ext (g : Gm) (n : Nat) (g0 : Gm) (n0 : Nat) : Ext' g n (g.add n g0) (n + n0) :=
  ⟨rfl, Nat.le_add_right _ _, fun i hi => by simp [Gm.add, hi], fun i hi => by simp [Gm.add, hi]⟩

mutual
theorem VR.shift {g g0 : Gm} {n n0 : Nat} (hb : g0.base = 0) : ∀ {v : AV} {x : Value}, VR g0 n0 v x → VR (g.add n g0) (n + n0) (v.shift n) x
  | _, _, .undef v => .undef v
  | _, _, .bool b => .bool b
  | _, _, .int k x => .int k x
  | _, _, .str s => .str s
  | _, _, .nilptr => .nilptr
  | _, _, .ptr i o h => by
    have e : (g.add n g0).blk (i + n) = g0.blk i := by simp [Gm.add, Nat.not_lt.2 (Nat.le_add_left n i)]
    have := VR.ptr (g := g.add n g0) (n := n + n0) (i + n) o (by omega)
    rw [e] at this
    exact this
  | _, _, .anyptr p => .anyptr p
  | _, _, .nilslice => .nilslice
  | _, _, .slice i o len es cap h hc hs => by
    have e : (g.add n g0).blk (i + n) = g0.blk i := by simp [Gm.add, Nat.not_lt.2 (Nat.le_add_left n i)]
    have e2 : (g.add n g0).sz (i + n) = g0.sz i := by simp [Gm.add, Nat.not_lt.2 (Nat.le_add_left n i)]
    have := VR.slice (g := g.add n g0) (n := n + n0) (i + n) o len es cap (by omega) hc (fun _ h2 => by rw [e2]; exact hs (by omega) h2)
    rw [e] at this
    exact this
  | _, _, .dang a cap => .dang a cap
  | _, _, .func fn a c x y ha hc => .func fn _ _ x y (VRs.shift hb ha) (VRs.shift hb hc)
  | _, _, .nilfunc => .nilfunc
  | _, _, .iface t v x h => .iface t _ x (VR.shift hb h)
  | _, _, .nilface => .nilface
  | _, _, .agg cs xs h => .agg _ xs (VRs.shift hb h)
  | _, _, .tup cs xs h => .tup _ xs (VRs.shift hb h)
  | _, _, .mp i h => by
    have e : (g.add n g0).blk (i + n) = g0.blk i := by simp [Gm.add, Nat.not_lt.2 (Nat.le_add_left n i)]
    have := VR.mp (g := g.add n g0) (n := n + n0) (i + n) (by omega)
    rw [e] at this
    exact this
theorem VRs.shift {g g0 : Gm} {n n0 : Nat} (hb : g0.base = 0) : ∀ {v : List AV} {x : List Value}, VRs g0 n0 v x → VRs (g.add n g0) (n + n0) (AV.shifts n v) x
  | _, _, .nil => .nil
  | _, _, .cons v x vs xs h t => .cons _ x _ xs (VR.shift hb h) (VRs.shift hb t)
end

theorem Sim.add {W : Ref} {g g0 : Gm} {m m0 : Mem} {w w' : World} (s : Sim W g m w) (s0 : Sim (Ref.all w) g0 m0 w') (hb : m0.base = 0) : Sim W (g.add m.next g0) (m.add m0) w' := by
  have hg0 : g0.base = 0 := s0.gbase.trans hb
  have hsz : w.heap.size ≤ w'.heap.size := s0.below.size
  have hold : ∀ b, b < w.heap.size → w'.heap[b]? = w.heap[b]? := fun b hb => s0.below.block b hb
  have hext := g.add_ext m.next g0 m0.next
  have hblk : ∀ i, i < m.next → (g.add m.next g0).blk i = g.blk i := fun i hi => by simp [Gm.add, hi]
  have hblk' : ∀ i, m.next ≤ i → (g.add m.next g0).blk i = g0.blk (i - m.next) := fun i hi => by simp [Gm.add, Nat.not_lt.2 hi]
  have hget : ∀ i, i < m.next → (m.add m0).get i = m.get i := fun i hi => by simp [Mem.add, hi]
  have hget' : ∀ i, m.next ≤ i → (m.add m0).get i = (m0.get (i - m.next)).shift m.next := fun i hi => by simp [Mem.add, Nat.not_lt.2 hi]
  have hlow : ∀ i, m.base ≤ i → i < m.next → g.blk i < w.heap.size := fun i h1 h2 => (s.own i h1 h2).2
  have hhigh : ∀ i, i < m0.next → w.heap.size ≤ g0.blk i ∧ g0.blk i < w'.heap.size := fun i h => by
    obtain ⟨h1, h2⟩ := s0.own i (by omega) h
    exact ⟨Nat.not_lt.1 h1, h2⟩
  refine ⟨s.gbase, Nat.le_trans s.mbase hsz, by show m.base ≤ m.next + m0.next; have := s.le; omega, ?_, ?_, ?_, ?_, ?_, ?_⟩
  · exact s.below.trans ⟨s0.below.os, s0.below.tape, s0.below.output, hsz, fun k hk => hold k (s.below.lt hk)⟩
  · intro i hi
    have hi' : i < m.base := hi
    have hin : i < m.next := Nat.lt_of_lt_of_le hi' s.le
    obtain ⟨h1, h2⟩ := s.old i hi'
    refine ⟨(hblk i hin).trans h1, fun ty fz cs hg => ?_⟩
    rw [hget i hin] at hg
    obtain ⟨hS, c, e, f, h3, h4, h5⟩ := h2 _ _ _ hg
    exact ⟨hS, c, e, f, h3, h4, h5.mono hext⟩
  · intro i h1 h2
    have h1' : m.base ≤ i := h1
    have h2' : i < m.next + m0.next := h2
    rcases Nat.lt_or_ge i m.next with hi | hi
    · rw [hblk i hi]
      exact ⟨(s.own i h1' hi).1, Nat.lt_of_lt_of_le (s.own i h1' hi).2 hsz⟩
    · rw [hblk' i hi]
      obtain ⟨k1, k2⟩ := hhigh (i - m.next) (by omega)
      exact ⟨fun hS => by have := s.below.lt hS; omega, k2⟩
  · intro i ty fz cs h1 h2 h3
    have h1' : m.base ≤ i := h1
    have h2' : i < m.next + m0.next := h2
    rcases Nat.lt_or_ge i m.next with hi | hi
    · rw [hget i hi] at h3
      obtain ⟨c, lo, hi', k1, k2, k3, k4, k5⟩ := s.live i _ _ _ h1' hi h3
      refine ⟨c, lo, hi', ?_, ?_, k3, k4, k5.mono hext⟩
      · rw [hblk i hi, hold _ (hlow i h1' hi)]; exact k1
      · rw [k2]; simp [Gm.add, hi]
    · rw [hget' i hi] at h3
      cases hm : m0.get (i - m.next) with
      | dead => rw [hm] at h3; cases h3
      | other o => rw [hm] at h3; cases h3
      | cells ty0 fz0 cs0 =>
        rw [hm] at h3
        cases h3
        obtain ⟨c, lo, hi', k1, k2, k3, k4, k5⟩ := s0.live (i - m.next) _ _ _ (by omega) (by omega) hm
        refine ⟨c, lo, hi', ?_, ?_, by rw [AV.shifts_length]; exact k3, by rw [AV.shifts_length]; exact k4, ?_⟩
        · rw [hblk' i hi]; exact k1
        · rw [k2]; simp [Gm.add, Nat.not_lt.2 hi]
        · rw [AV.shifts_length]
          exact VRs.shift hg0 k5
  · intro i o h1 h2 h3
    have h1' : m.base ≤ i := h1
    have h2' : i < m.next + m0.next := h2
    rcases Nat.lt_or_ge i m.next with hi | hi
    · rw [hget i hi] at h3
      rw [hblk i hi, hold _ (hlow i h1' hi)]
      exact s.raw i o h1' hi h3
    · rw [hget' i hi] at h3
      rw [hblk' i hi]
      cases hm : m0.get (i - m.next) with
      | dead => rw [hm] at h3; cases h3
      | cells ty0 fz0 cs0 => rw [hm] at h3; cases h3
      | other o' =>
        rw [hm] at h3
        cases h3
        exact s0.raw (i - m.next) _ (by omega) (by omega) hm
  · intro i j a1 a2 a3 a4 a5 a6 a7
    have b1 : m.base ≤ i := a1
    have b2 : i < m.next + m0.next := a2
    have b3 : m.base ≤ j := a3
    have b4 : j < m.next + m0.next := a4
    have hlive : ∀ k, m.next ≤ k → (m.add m0).get k ≠ .dead → m0.get (k - m.next) ≠ .dead := fun k hk h e => by
      rw [hget' k hk, e] at h
      exact h rfl
    rcases Nat.lt_or_ge i m.next with hi | hi <;> rcases Nat.lt_or_ge j m.next with hj | hj
    · rw [hblk i hi, hblk j hj] at a7
      rw [hget i hi] at a5
      rw [hget j hj] at a6
      exact s.inj i j b1 hi b3 hj a5 a6 a7
    · rw [hblk i hi, hblk' j hj] at a7
      have := hlow i b1 hi
      have := (hhigh (j - m.next) (by omega)).1
      omega
    · rw [hblk' i hi, hblk j hj] at a7
      have := hlow j b3 hj
      have := (hhigh (i - m.next) (by omega)).1
      omega
    · rw [hblk' i hi, hblk' j hj] at a7
      have := s0.inj (i - m.next) (j - m.next) (by omega) (by omega) (by omega) (by omega) (hlive i hi a5) (hlive j hj a6) a7
      omega

/-- What a call of closed arguments came to, in every memory. -/
def closedAt (args0 : List AV) (v : AV) (m0 : Mem) : List AV → M AV := fun args m => if AV.eqbs args args0 then some (v.shift m.next, m.add m0) else none
/-- .. of several arguments, each by itself. -/
def closedOf (l : List (List AV × AV × Mem)) : List AV → M AV := fun args m =>
  match l.find? (fun x => AV.eqbs args x.1) with
  | some x => some (x.2.1.shift m.next, m.add x.2.2)
  | none => none
def isInt : AV → Bool
  | .int _ _ | .bool _ | .str _ => true
  | _ => false
theorem ints_rel {g : Gm} {n : Nat} : ∀ {l : List AV} {xs : List Value}, VRs g n l xs → l.all isInt = true → ∀ g' n', VRs g' n' l xs
  | _, _, .nil, _, g', n' => .nil
  | _, _, .cons v x vs xs hv ht, h, g', n' => by
    simp only [List.all_cons, Bool.and_eq_true] at h
    refine .cons _ _ _ _ ?_ (ints_rel ht h.2 g' n')
    obtain ⟨h, _⟩ := h
    cases hv <;> simp [isInt] at h <;> constructor
theorem closedOf_ok {P : Program} {ext : Ext} (hm : P.follows .mixedOrders = true) (hn : ∀ (f : Nat) (fn : Func), P.funcs[f]? = some fn → fn.name ≠ "runtime.NumGoroutine") (hext : ∀ W, ExtOk P W ext) {n f : Nat} {l : List (List AV × AV × Mem)}
    (h : ∀ x ∈ l, fcall P ext n f x.1 Mem.empty = some (x.2.1, x.2.2) ∧ x.1.all isInt = true ∧ x.2.2.base = 0) (W : Ref) : FunOk P W f (closedOf l) := by
  intro args v m m1 he g w xs s hx
  unfold closedOf at he
  split at he
  · rename_i x hfind
    cases he
    obtain ⟨h1, h2, h3⟩ := h x (List.mem_of_find?_eq_some hfind)
    obtain rfl : args = x.1 := AV.eq_of_eqbs (by have := List.find?_some hfind; simpa using this)
    rcases fcall_ok hm hn hext n (Ref.all w) f x.1 x.2.1 Mem.empty x.2.2 h1 _ w xs (sim_empty w) (ints_rel hx h2 _ _) with ⟨⟨fn, k1, k2, _⟩, k3⟩ | ⟨z, g', w', k1, k2, k3, k4⟩
    · refine .inl ⟨⟨fn, k1, k2⟩, k3.mono fun e w' ⟨z, g', he, hz, hs, hx'⟩ => ⟨z, g.add m.next g', he, ?_, s.add hs h3, g.add_ext _ _ _⟩⟩
      exact VR.shift (hs.gbase.trans h3) hz
    · exact .inr ⟨z, g.add m.next g', w', k1, VR.shift (k3.gbase.trans h3) k2, s.add k3 h3, g.add_ext _ _ _⟩
  · cases he
theorem Mem.add_get (m m0 : Mem) (i : Nat) : (m.add m0).get (i + m.next) = (m0.get i).shift m.next := by simp [Mem.add, Nat.not_lt.2 (Nat.le_add_left m.next i)]
theorem Mem.add_old (m m0 : Mem) {i : Nat} (h : i < m.next) : (m.add m0).get i = m.get i := by simp [Mem.add, h]
/-! a closed call whose memory is told in plain -/

theorem Sim.congr {W : Ref} {g : Gm} {m m' : Mem} {w : World} (s : Sim W g m w) (hb : m'.base = m.base) (hn : m'.next = m.next) (hg : ∀ i, i < m.next → m'.get i = m.get i) : Sim W g m' w where
  gbase := by rw [hb]; exact s.gbase
  mbase := by rw [hb]; exact s.mbase
  le := by rw [hb, hn]; exact s.le
  below := s.below
  old := fun i hi => by
    rw [hb] at hi
    rw [hg i (Nat.lt_of_lt_of_le hi s.le), hn]
    exact s.old i hi
  own := fun i h1 h2 => by rw [hb] at h1; rw [hn] at h2; exact s.own i h1 h2
  live := fun i ty fz cs h1 h2 h3 => by
    rw [hb] at h1; rw [hn] at h2 ⊢; rw [hg i h2] at h3
    exact s.live i ty fz cs h1 h2 h3
  raw := fun i o h1 h2 h3 => by
    rw [hb] at h1; rw [hn] at h2; rw [hg i h2] at h3
    exact s.raw i o h1 h2 h3
  inj := fun i j a1 a2 a3 a4 a5 a6 a7 => by
    rw [hb] at a1 a3; rw [hn] at a2 a4; rw [hg i a2] at a5; rw [hg j a4] at a6
    exact s.inj i j a1 a2 a3 a4 a5 a6 a7

def AObj.eqb : AObj → AObj → Bool
  | .dead, .dead => true
  | .cells ty fz cs, .cells ty' fz' cs' => Nat.beq ty ty' && Nat.beq fz fz' && AV.eqbs cs cs'
  | _, _ => false
theorem AObj.eq_of_eqb {a b : AObj} (h : AObj.eqb a b = true) : a = b := by
  unfold AObj.eqb at h
  split at h
  · rfl
  · simp only [Bool.and_eq_true, Nat.beq_eq] at h
    obtain ⟨⟨rfl, rfl⟩, h⟩ := h
    rw [AV.eq_of_eqbs h]
  · cases h
/-- A memory of objects, one behind the other. -/
def Mem.of (l : List AObj) : Mem := ⟨0, l.length, fun i => l.getD i .dead⟩
def objsEq (m : Mem) : Nat → List AObj → Bool
  | _, [] => true
  | i, o :: os => AObj.eqb (m.get i) o && objsEq m (i + 1) os
theorem objsEq_get {m : Mem} : ∀ {l : List AObj} {i : Nat}, objsEq m i l = true → ∀ j, j < l.length → l.getD j .dead = m.get (i + j)
  | [], i, _, j, hj => by simp at hj
  | o :: os, i, h, j, hj => by
    simp only [objsEq, Bool.and_eq_true] at h
    cases j with
    | zero => simpa using (AObj.eq_of_eqb h.1).symm
    | succ j =>
      have := objsEq_get h.2 j (by simpa using hj)
      rw [show i + (j + 1) = i + 1 + j by omega]
      simpa using this
/-- Does a run come to that value, and those objects? -/
def comesTo (x : Option (AV × Mem)) (v : AV) (l : List AObj) : Bool :=
  match x with
  | some (u, m) => AV.eqb u v && Nat.beq m.base 0 && Nat.beq m.next l.length && objsEq m 0 l
  | none => false
theorem closedTo_ok {P : Program} {ext : Ext} (hm : P.follows .mixedOrders = true) (hn : ∀ (f : Nat) (fn : Func), P.funcs[f]? = some fn → fn.name ≠ "runtime.NumGoroutine") (hext : ∀ W, ExtOk P W ext) {n f : Nat} {l : List (List AV × AV × List AObj)}
    (h : ∀ x ∈ l, comesTo (fcall P ext n f x.1 Mem.empty) x.2.1 x.2.2 = true ∧ x.1.all isInt = true) (W : Ref) : FunOk P W f (closedOf (l.map fun x => (x.1, x.2.1, Mem.of x.2.2))) := by
  intro args v m m1 he g w xs s hx
  unfold closedOf at he
  split at he
  · rename_i y hfind
    cases he
    have hmem := List.mem_of_find?_eq_some hfind
    obtain ⟨x, hxm, rfl⟩ := List.mem_map.1 hmem
    obtain ⟨h1, h2⟩ := h x hxm
    obtain rfl : args = x.1 := AV.eq_of_eqbs (by have := List.find?_some hfind; simpa using this)
    unfold comesTo at h1
    split at h1
    · rename_i u mr hrun
      simp only [Bool.and_eq_true, Nat.beq_eq] at h1
      obtain ⟨⟨⟨hu, hb⟩, hnx⟩, hob⟩ := h1
      obtain rfl := AV.eq_of_eqb hu
      have hcg : ∀ {g' w'}, Sim (Ref.all w) g' mr w' → Sim (Ref.all w) g' (Mem.of x.2.2) w' := fun hs => hs.congr (by rw [hb]; rfl) (by rw [hnx]; rfl) (fun i hi => by
        have := objsEq_get hob i (by rw [← hnx]; exact hi)
        rw [Nat.zero_add] at this
        exact this)
      have hnx' : (Mem.of x.2.2).next = mr.next := by rw [hnx]; rfl
      rcases fcall_ok hm hn hext n (Ref.all w) f x.1 _ Mem.empty mr hrun _ w xs (sim_empty w) (ints_rel hx h2 _ _) with ⟨⟨fn, k1, k2, _⟩, k3⟩ | ⟨z, g', w', k1, k2, k3, k4⟩
      · refine .inl ⟨⟨fn, k1, k2⟩, k3.mono fun e w' ⟨z, g', he, hz, hs, hx'⟩ => ⟨z, g.add m.next g', he, ?_, s.add (hcg hs) rfl, g.add_ext _ _ _⟩⟩
        have := VR.shift (g := g) (n := m.next) ((hcg hs).gbase.trans rfl) (by rw [← hnx'] at hz; exact hz)
        exact this
      · refine .inr ⟨z, g.add m.next g', w', k1, ?_, s.add (hcg k3) rfl, g.add_ext _ _ _⟩
        exact VR.shift (g := g) (n := m.next) ((hcg k3).gbase.trans rfl) (by rw [← hnx'] at k2; exact k2)
    · cases h1
  · cases he
end Go.Proofs.YtooogfnmhfocjaaGreatDoor.Spl
