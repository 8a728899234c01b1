/- The abstract machine, 4: memory is changed alike on both sides. -/
import Derived.Test.YtooogfnmhfocjaaGreatDoorSplRel
namespace Go.Proofs.YtooogfnmhfocjaaGreatDoor.Spl
open Go Go.RowKit Go.MapKept
set_option linter.unusedVariables false
set_option linter.unusedSimpArgs false

@[simp] theorem Mem.get_set_same (m : Mem) (i : Nat) (o : AObj) : (m.set i o).get i = o := by simp [Mem.set]
theorem Mem.get_set_ne (m : Mem) {i j : Nat} (o : AObj) (h : j ≠ i) : (m.set i o).get j = m.get j := by simp [Mem.set, h]
@[simp] theorem Mem.get_alloc_same (m : Mem) (o : AObj) : (m.alloc o).get m.next = o := by simp [Mem.alloc]
theorem Mem.get_alloc_ne (m : Mem) {j : Nat} (o : AObj) (h : j ≠ m.next) : (m.alloc o).get j = m.get j := by simp [Mem.alloc, h]
@[simp] theorem Mem.next_set (m : Mem) (i : Nat) (o : AObj) : (m.set i o).next = m.next := rfl
@[simp] theorem Mem.base_set (m : Mem) (i : Nat) (o : AObj) : (m.set i o).base = m.base := rfl
@[simp] theorem Mem.next_alloc (m : Mem) (o : AObj) : (m.alloc o).next = m.next + 1 := rfl
@[simp] theorem Mem.base_alloc (m : Mem) (o : AObj) : (m.alloc o).base = m.base := rfl

theorem Mem.set_set (m : Mem) (i : Nat) (a b : AObj) : (m.set i a).set i b = m.set i b := by
  simp only [Mem.set]
  congr 1
  funext j
  split <;> rfl

def Gm.put (g : Gm) (n b s : Nat) : Gm := { base := g.base, blk := fun j => if j = n then b else g.blk j, sz := fun j => if j = n then s else g.sz j }
theorem Gm.put_ext (g : Gm) (n b s : Nat) : Ext' g n (g.put n b s) (n + 1) :=
  ⟨rfl, by omega, fun i hi => by simp [Gm.put, Nat.ne_of_lt hi], fun i hi => by simp [Gm.put, Nat.ne_of_lt hi]⟩

theorem wold (w : World) (o : Obj) (b : Nat) (h : b < w.heap.size) : (w.alloc o).heap[b]? = w.heap[b]? := Below.heap_alloc w o b h
theorem wnew (w : World) (o : Obj) : (w.alloc o).heap[w.heap.size]? = some o := by
  show (w.heap.push o)[w.heap.size]? = _
  simp

variable {W : Ref} {g : Gm} {m : Mem} {w w' : World}

/-- What is no block turns nothing. -/
theorem Sim.heap (s : Sim W g m w) (hb : Keeps W w') (hsz : w.heap.size ≤ w'.heap.size) (hh : ∀ b, b < w.heap.size → w'.heap[b]? = w.heap[b]?) : Sim W g m w' where
  gbase := s.gbase
  mbase := Nat.le_trans s.mbase hsz
  le := s.le
  below := hb
  old := s.old
  own := fun i h1 h2 => ⟨(s.own i h1 h2).1, Nat.lt_of_lt_of_le (s.own i h1 h2).2 hsz⟩
  live := fun i ty fz cs h1 h2 h3 => by
    obtain ⟨c, lo, hi, h4, r⟩ := s.live i ty fz cs h1 h2 h3
    exact ⟨c, lo, hi, by rw [hh _ (s.own i h1 h2).2]; exact h4, r⟩
  raw := fun i o h1 h2 h3 => by rw [hh _ (s.own i h1 h2).2]; exact s.raw i o h1 h2 h3
  inj := s.inj

theorem Sim.drew (s : Sim W g m w) : Sim W g m w.drew := s.heap s.below.drew (Nat.le_refl _) (fun _ _ => rfl)
/-- A block of which the abstract memory knows nothing. -/
theorem Sim.allocOther (s : Sim W g m w) (o : Obj) : Sim W g m (w.alloc o) :=
  s.heap (s.below.alloc o) (by simp) (fun b hb => wold w o b hb)

/-- An object of the call's own is changed. -/
theorem Sim.update (s : Sim W g m w) {i : Nat} (h1 : m.base ≤ i) (h2 : i < m.next) (hl : m.get i ≠ .dead)
    {c : Array Value} {ty fz lo hi : Nat} {cs : List AV} (hb : Keeps W w') (hsz : w'.heap.size = w.heap.size) (hother : ∀ b, b ≠ g.blk i → w'.heap[b]? = w.heap[b]?)
    (hnew : w'.heap[g.blk i]? = some (.cells c ty (lo, hi))) (hc : c.size = g.sz i) (hlen : cs.length ≤ c.size) (hfz : fz ≤ cs.length → hi ≤ fz) (hv : VRs g m.next cs (c.toList.take cs.length)) :
    Sim W g (m.set i (.cells ty fz cs)) w' where
  gbase := s.gbase
  mbase := by rw [hsz]; exact s.mbase
  le := s.le
  below := hb
  old := fun j hj => by
    have hj' : j < m.base := hj
    rw [Mem.get_set_ne m _ (by omega)]; exact s.old j hj'
  own := fun j h3 h4 => ⟨(s.own j h3 h4).1, by rw [hsz]; exact (s.own j h3 h4).2⟩
  live := fun j ty' fz' cs' h3 h4 h5 => by
    have h3' : m.base ≤ j := h3
    have h4' : j < m.next := h4
    by_cases hj : j = i
    · subst hj
      rw [Mem.get_set_same] at h5
      cases h5
      exact ⟨c, lo, hi, hnew, hc, hlen, hfz, hv⟩
    · rw [Mem.get_set_ne m _ hj] at h5
      obtain ⟨c', lo', hi', h6, r⟩ := s.live j _ _ _ h3' h4' h5
      refine ⟨c', lo', hi', ?_, r⟩
      rw [hother _ (fun e => hj (s.inj j i h3' h4' h1 h2 (by rw [h5]; simp) hl e))]; exact h6
  raw := fun j o' h3 h4 h5 => by
    have h3' : m.base ≤ j := h3
    have h4' : j < m.next := h4
    by_cases hj : j = i
    · subst hj; rw [Mem.get_set_same] at h5; cases h5
    · rw [Mem.get_set_ne m _ hj] at h5
      rw [hother _ (fun e => hj (s.inj j i h3' h4' h1 h2 (by rw [h5]; simp) hl e))]; exact s.raw j o' h3' h4' h5
  inj := fun j k a1 a2 a3 a4 a5 a6 a7 => by
    have hd : ∀ x, (m.set i (.cells ty fz cs)).get x ≠ .dead → m.get x ≠ .dead := fun x hx => by
      by_cases e : x = i
      · subst e; exact hl
      · rwa [Mem.get_set_ne m _ e] at hx
    exact s.inj j k a1 a2 a3 a4 (hd j a5) (hd k a6) a7

/-- A new object in a new block. -/
theorem Sim.alloc (s : Sim W g m w) (c : Array Value) (ty fz lo hi : Nat) (cs : List AV) (hlen : cs.length ≤ c.size) (hfz : fz ≤ cs.length → hi ≤ fz) (hv : VRs g m.next cs (c.toList.take cs.length)) :
    Sim W (g.put m.next w.heap.size c.size) (m.alloc (.cells ty fz cs)) (w.alloc (.cells c ty (lo, hi))) where
  gbase := s.gbase
  mbase := Nat.le_trans s.mbase (by simp)
  le := by simp only [Mem.base_alloc, Mem.next_alloc]; have := s.le; omega
  below := s.below.alloc _
  old := fun j hj => by
    have hj' : j < m.base := hj
    have hne : j ≠ m.next := by have := s.le; omega
    obtain ⟨h1, h2⟩ := s.old j hj'
    refine ⟨by simp [Gm.put, hne, h1], fun ty' fz' cs' h3 => ?_⟩
    rw [Mem.get_alloc_ne m _ hne] at h3
    obtain ⟨hS, c', e, f, h4, h5, h6⟩ := h2 _ _ _ h3
    exact ⟨hS, c', e, f, h4, h5, h6.mono (g.put_ext _ _ _)⟩
  own := fun j h1 h2 => by
    have h1' : m.base ≤ j := h1
    have h2' : j < m.next + 1 := h2
    by_cases hj : j = m.next
    · subst hj
      simp only [Gm.put, if_true, Mem.base_alloc, World.size_alloc]
      exact ⟨fun h => Nat.lt_irrefl _ (s.below.lt h), Nat.lt_succ_self _⟩
    · have := s.own j h1' (by omega)
      simp only [Gm.put, hj, if_false, Mem.base_alloc, World.size_alloc]
      exact ⟨this.1, Nat.lt_succ_of_lt this.2⟩
  live := fun j ty' fz' cs' h1 h2 h3 => by
    have h1' : m.base ≤ j := h1
    have h2' : j < m.next + 1 := h2
    by_cases hj : j = m.next
    · subst hj
      rw [Mem.get_alloc_same] at h3
      cases h3
      refine ⟨c, lo, hi, ?_, by simp [Gm.put], hlen, hfz, hv.mono (g.put_ext _ _ _)⟩
      simp only [Gm.put, if_true]
      exact wnew w _
    · rw [Mem.get_alloc_ne m _ hj] at h3
      obtain ⟨c', lo', hi', h4, h5, h6, h7, h8⟩ := s.live j _ _ _ h1' (by omega) h3
      refine ⟨c', lo', hi', ?_, by simp [Gm.put, hj, h5], h6, h7, h8.mono (g.put_ext _ _ _)⟩
      simp only [Gm.put, hj, if_false]
      rw [wold w _ _ (s.own j h1' (by omega)).2]; exact h4
  raw := fun j o' h1 h2 h3 => by
    have h1' : m.base ≤ j := h1
    have h2' : j < m.next + 1 := h2
    by_cases hj : j = m.next
    · subst hj; rw [Mem.get_alloc_same] at h3; cases h3
    · rw [Mem.get_alloc_ne m _ hj] at h3
      simp only [Gm.put, hj, if_false]
      rw [wold w _ _ (s.own j h1' (by omega)).2]; exact s.raw j o' h1' (by omega) h3
  inj := fun j k a1 a2 a3 a4 a5 a6 a7 => by
    have b1 : m.base ≤ j := a1
    have b2 : j < m.next + 1 := a2
    have b3 : m.base ≤ k := a3
    have b4 : k < m.next + 1 := a4
    by_cases hj : j = m.next <;> by_cases hk : k = m.next
    · omega
    · subst hj
      simp only [Gm.put, if_true, hk, if_false] at a7
      have := (s.own k b3 (by omega)).2
      omega
    · subst hk
      simp only [Gm.put, if_true, hj, if_false] at a7
      have := (s.own j b1 (by omega)).2
      omega
    · simp only [Gm.put, hj, hk, if_false] at a7
      rw [Mem.get_alloc_ne m _ hj] at a5
      rw [Mem.get_alloc_ne m _ hk] at a6
      exact s.inj j k b1 (by omega) b3 (by omega) a5 a6 a7

/-- A new object that is no row of cells. -/
theorem Sim.allocRaw (s : Sim W g m w) (o : Obj) : Sim W (g.put m.next w.heap.size 0) (m.alloc (.other o)) (w.alloc o) where
  gbase := s.gbase
  mbase := Nat.le_trans s.mbase (by simp)
  le := by simp only [Mem.base_alloc, Mem.next_alloc]; have := s.le; omega
  below := s.below.alloc _
  old := fun j hj => by
    have hj' : j < m.base := hj
    have hne : j ≠ m.next := by have := s.le; omega
    obtain ⟨h1, h2⟩ := s.old j hj'
    refine ⟨by simp [Gm.put, hne, h1], fun ty' fz' cs' h3 => ?_⟩
    rw [Mem.get_alloc_ne m _ hne] at h3
    obtain ⟨hS, c', e, f, h4, h5, h6⟩ := h2 _ _ _ h3
    exact ⟨hS, c', e, f, h4, h5, h6.mono (g.put_ext _ _ _)⟩
  own := fun j h1 h2 => by
    have h1' : m.base ≤ j := h1
    have h2' : j < m.next + 1 := h2
    by_cases hj : j = m.next
    · subst hj
      simp only [Gm.put, if_true, Mem.base_alloc, World.size_alloc]
      exact ⟨fun h => Nat.lt_irrefl _ (s.below.lt h), Nat.lt_succ_self _⟩
    · have := s.own j h1' (by omega)
      simp only [Gm.put, hj, if_false, Mem.base_alloc, World.size_alloc]
      exact ⟨this.1, Nat.lt_succ_of_lt this.2⟩
  live := fun j ty' fz' cs' h1 h2 h3 => by
    have h1' : m.base ≤ j := h1
    have h2' : j < m.next + 1 := h2
    by_cases hj : j = m.next
    · subst hj; rw [Mem.get_alloc_same] at h3; cases h3
    · rw [Mem.get_alloc_ne m _ hj] at h3
      obtain ⟨c', lo', hi', h4, h5, h6, h7, h8⟩ := s.live j _ _ _ h1' (by omega) h3
      refine ⟨c', lo', hi', ?_, by simp [Gm.put, hj, h5], h6, h7, h8.mono (g.put_ext _ _ _)⟩
      simp only [Gm.put, hj, if_false]
      rw [wold w _ _ (s.own j h1' (by omega)).2]; exact h4
  raw := fun j o' h1 h2 h3 => by
    have h1' : m.base ≤ j := h1
    have h2' : j < m.next + 1 := h2
    by_cases hj : j = m.next
    · subst hj
      rw [Mem.get_alloc_same] at h3
      cases h3
      simp only [Gm.put, if_true]
      exact wnew w _
    · rw [Mem.get_alloc_ne m _ hj] at h3
      simp only [Gm.put, hj, if_false]
      rw [wold w _ _ (s.own j h1' (by omega)).2]; exact s.raw j o' h1' (by omega) h3
  inj := fun j k a1 a2 a3 a4 a5 a6 a7 => by
    have b1 : m.base ≤ j := a1
    have b2 : j < m.next + 1 := a2
    have b3 : m.base ≤ k := a3
    have b4 : k < m.next + 1 := a4
    by_cases hj : j = m.next <;> by_cases hk : k = m.next
    · omega
    · subst hj
      simp only [Gm.put, if_true, hk, if_false] at a7
      have := (s.own k b3 (by omega)).2
      omega
    · subst hk
      simp only [Gm.put, if_true, hj, if_false] at a7
      have := (s.own j b1 (by omega)).2
      omega
    · simp only [Gm.put, hj, hk, if_false] at a7
      rw [Mem.get_alloc_ne m _ hj] at a5
      rw [Mem.get_alloc_ne m _ hk] at a6
      exact s.inj j k b1 (by omega) b3 (by omega) a5 a6 a7
/-- .. is changed. -/
theorem Sim.setRaw (s : Sim W g m w) {i : Nat} {o : Obj} (o' : Obj) (h1 : m.base ≤ i) (h2 : i < m.next) (hl : m.get i = .other o) : Sim W g (m.set i (.other o')) { w with heap := w.heap.setIfInBounds (g.blk i) o' } where
  gbase := s.gbase
  mbase := by show m.base ≤ (w.heap.setIfInBounds _ _).size; simp; exact s.mbase
  le := s.le
  below := s.below.trans ⟨rfl, rfl, rfl, by simp, fun k hk => by
    have hne : k ≠ g.blk i := fun e => (s.own i h1 h2).1 (by rw [← e]; exact hk)
    exact (heap_set (s.raw i o h1 h2 hl)).2 k hne⟩
  old := fun j hj => by
    have hj' : j < m.base := hj
    rw [Mem.get_set_ne m _ (by omega)]; exact s.old j hj'
  own := fun j h3 h4 => ⟨(s.own j h3 h4).1, by show _ < (w.heap.setIfInBounds _ _).size; simp; exact (s.own j h3 h4).2⟩
  live := fun j ty' fz' cs' h3 h4 h5 => by
    have h3' : m.base ≤ j := h3
    have h4' : j < m.next := h4
    by_cases hj : j = i
    · subst hj; rw [Mem.get_set_same] at h5; cases h5
    · rw [Mem.get_set_ne m _ hj] at h5
      obtain ⟨c', lo', hi', h6, r⟩ := s.live j _ _ _ h3' h4' h5
      refine ⟨c', lo', hi', ?_, r⟩
      have hne : g.blk j ≠ g.blk i := fun e => hj (s.inj j i h3' h4' h1 h2 (by rw [h5]; simp) (by rw [hl]; simp) e)
      exact ((heap_set (s.raw i o h1 h2 hl)).2 _ hne).trans h6
  raw := fun j o'' h3 h4 h5 => by
    have h3' : m.base ≤ j := h3
    have h4' : j < m.next := h4
    by_cases hj : j = i
    · subst hj
      rw [Mem.get_set_same] at h5
      cases h5
      exact (heap_set (s.raw j o h1 h2 hl)).1
    · rw [Mem.get_set_ne m _ hj] at h5
      have hne : g.blk j ≠ g.blk i := fun e => hj (s.inj j i h3' h4' h1 h2 (by rw [h5]; simp) (by rw [hl]; simp) e)
      exact ((heap_set (s.raw i o h1 h2 hl)).2 _ hne).trans (s.raw j o'' h3' h4' h5)
  inj := fun j k a1 a2 a3 a4 a5 a6 a7 => by
    have hd : ∀ x, (m.set i (.other o')).get x ≠ .dead → m.get x ≠ .dead := fun x hx => by
      by_cases e : x = i
      · subst e; rw [hl]; simp
      · rwa [Mem.get_set_ne m _ e] at hx
    exact s.inj j k a1 a2 a3 a4 (hd j a5) (hd k a6) a7

/-- An object is forgotten. -/
theorem Sim.kill (s : Sim W g m w) {i : Nat} (h1 : m.base ≤ i) : Sim W g (m.set i .dead) w where
  gbase := s.gbase
  mbase := s.mbase
  le := s.le
  below := s.below
  old := fun j hj => by
    have hj' : j < m.base := hj
    rw [Mem.get_set_ne m _ (by omega)]; exact s.old j hj'
  own := s.own
  live := fun j ty' fz' cs' h3 h4 h5 => by
    by_cases hj : j = i
    · subst hj; rw [Mem.get_set_same] at h5; cases h5
    · rw [Mem.get_set_ne m _ hj] at h5; exact s.live j _ _ _ h3 h4 h5
  raw := fun j o' h3 h4 h5 => by
    by_cases hj : j = i
    · subst hj; rw [Mem.get_set_same] at h5; cases h5
    · rw [Mem.get_set_ne m _ hj] at h5; exact s.raw j o' h3 h4 h5
  inj := fun j k a1 a2 a3 a4 a5 a6 a7 => by
    have hd : ∀ x, (m.set i .dead).get x ≠ .dead → m.get x ≠ .dead := fun x hx => by
      by_cases e : x = i
      · subst e; rw [Mem.get_set_same] at hx; exact absurd rfl hx
      · rwa [Mem.get_set_ne m _ e] at hx
    exact s.inj j k a1 a2 a3 a4 (hd j a5) (hd k a6) a7

/-- A forgotten object's block is taken by a new object. -/
theorem Sim.reuse (s : Sim W g m w) {i : Nat} (h1 : m.base ≤ i) (h2 : i < m.next) {ty fz : Nat} {cs : List AV} (hl : m.get i = .cells ty fz cs) :
    Sim W (g.put m.next (g.blk i) (g.sz i)) ((m.set i .dead).alloc (.cells ty fz cs)) w where
  gbase := s.gbase
  mbase := s.mbase
  le := by simp only [Mem.base_alloc, Mem.next_alloc, Mem.base_set, Mem.next_set]; have := s.le; omega
  below := s.below
  old := fun j hj => by
    have hj' : j < m.base := hj
    have hne : j ≠ m.next := by have := s.le; omega
    obtain ⟨h3, h4⟩ := s.old j hj'
    refine ⟨by simp [Gm.put, hne, h3], fun ty' fz' cs' h5 => ?_⟩
    rw [Mem.get_alloc_ne (m.set i .dead) _ (show j ≠ (m.set i .dead).next from hne), Mem.get_set_ne m _ (by omega)] at h5
    obtain ⟨hS, c', e, f, h6, h7, h8⟩ := h4 _ _ _ h5
    exact ⟨hS, c', e, f, h6, h7, h8.mono (g.put_ext _ _ _)⟩
  own := fun j h3 h4 => by
    have h3' : m.base ≤ j := h3
    have h4' : j < m.next + 1 := h4
    by_cases hj : j = m.next
    · subst hj; simp only [Gm.put, if_true, Mem.base_alloc, Mem.base_set]; exact s.own i h1 h2
    · simp only [Gm.put, hj, if_false, Mem.base_alloc, Mem.base_set]; exact s.own j h3' (by omega)
  live := fun j ty' fz' cs' h3 h4 h5 => by
    have h3' : m.base ≤ j := h3
    have h4' : j < m.next + 1 := h4
    by_cases hj : j = m.next
    · subst hj
      have : ((m.set i .dead).alloc (.cells ty fz cs)).get m.next = .cells ty fz cs := Mem.get_alloc_same (m.set i .dead) _
      rw [this] at h5
      cases h5
      obtain ⟨c', lo', hi', h6, h7, h8, h9, h10⟩ := s.live i _ _ _ h1 h2 hl
      exact ⟨c', lo', hi', by simpa [Gm.put] using h6, by simpa [Gm.put] using h7, h8, h9, h10.mono (g.put_ext _ _ _)⟩
    · rw [Mem.get_alloc_ne (m.set i .dead) _ (show j ≠ (m.set i .dead).next from hj)] at h5
      by_cases hji : j = i
      · subst hji; rw [Mem.get_set_same] at h5; cases h5
      · rw [Mem.get_set_ne m _ hji] at h5
        obtain ⟨c', lo', hi', h6, h7, h8, h9, h10⟩ := s.live j _ _ _ h3' (by omega) h5
        exact ⟨c', lo', hi', by simpa [Gm.put, hj] using h6, by simpa [Gm.put, hj] using h7, h8, h9, h10.mono (g.put_ext _ _ _)⟩
  raw := fun j o' h3 h4 h5 => by
    have h3' : m.base ≤ j := h3
    have h4' : j < m.next + 1 := h4
    by_cases hj : j = m.next
    · subst hj
      have : ((m.set i .dead).alloc (.cells ty fz cs)).get m.next = .cells ty fz cs := Mem.get_alloc_same (m.set i .dead) _
      rw [this] at h5
      cases h5
    · rw [Mem.get_alloc_ne (m.set i .dead) _ (show j ≠ (m.set i .dead).next from hj)] at h5
      by_cases hji : j = i
      · subst hji; rw [Mem.get_set_same] at h5; cases h5
      · rw [Mem.get_set_ne m _ hji] at h5
        simp only [Gm.put, hj, if_false]
        exact s.raw j o' h3' (by omega) h5
  inj := fun j k a1 a2 a3 a4 a5 a6 a7 => by
    have b1 : m.base ≤ j := a1
    have b2 : j < m.next + 1 := a2
    have b3 : m.base ≤ k := a3
    have b4 : k < m.next + 1 := a4
    have hi' : m.get i ≠ .dead := by rw [hl]; simp
    have key : ∀ x, m.base ≤ x → x < m.next + 1 → x ≠ m.next → ((m.set i .dead).alloc (.cells ty fz cs)).get x ≠ .dead → x ≠ i ∧ m.get x ≠ .dead := fun x x1 x2 x3 x4 => by
      rw [Mem.get_alloc_ne (m.set i .dead) _ (show x ≠ (m.set i .dead).next from x3)] at x4
      by_cases e : x = i
      · subst e; rw [Mem.get_set_same] at x4; exact absurd rfl x4
      · rw [Mem.get_set_ne m _ e] at x4; exact ⟨e, x4⟩
    by_cases hj : j = m.next <;> by_cases hk : k = m.next
    · omega
    · obtain ⟨k1, k2⟩ := key k b3 b4 hk a6
      subst hj
      simp only [Gm.put, if_true, hk, if_false] at a7
      exact absurd (s.inj i k h1 h2 b3 (by omega) hi' k2 a7).symm k1
    · obtain ⟨k1, k2⟩ := key j b1 b2 hj a5
      subst hk
      simp only [Gm.put, if_true, hj, if_false] at a7
      exact absurd (s.inj j i b1 (by omega) h1 h2 k2 hi' a7) k1
    · obtain ⟨_, k2⟩ := key j b1 b2 hj a5
      obtain ⟨_, k4⟩ := key k b3 b4 hk a6
      simp only [Gm.put, hj, hk, if_false] at a7
      exact s.inj j k b1 (by omega) b3 (by omega) k2 k4 a7

/-! splice -/
theorem splice_length : ∀ (vs cs : List AV) (o : Nat), (splice cs o vs).length = cs.length
  | [], _, _ => rfl
  | v :: vs, cs, o => by simp [splice, splice_length vs]
theorem splice_eq : ∀ (vs cs : List AV) (o : Nat), o + vs.length ≤ cs.length → splice cs o vs = cs.take o ++ vs ++ cs.drop (o + vs.length)
  | [], cs, o, _ => by simp [splice]
  | v :: vs, cs, o, h => by
    simp only [List.length_cons] at h
    rw [splice, splice_eq vs (cs.set o v) (o + 1) (by simp; omega)]
    have e1 : (cs.set o v).take (o + 1) = cs.take o ++ [v] := by
      apply List.ext_getElem?
      intro j
      simp only [List.getElem?_take, List.getElem?_set, List.getElem?_append, List.length_take]
      by_cases h1 : j < o
      · have : ¬ o = j := by omega
        simp [h1, this, show j < o + 1 by omega, show j < min o cs.length by omega]
      · by_cases h2 : j = o
        · subst h2; simp [show j < cs.length by omega, show ¬ j < min j cs.length by omega, Nat.min_eq_left (show j ≤ cs.length by omega)]
        · simp [h1, show ¬ j < o + 1 by omega, show ¬ j < min o cs.length by omega]
          omega
    have e2 : (cs.set o v).drop (o + 1 + vs.length) = cs.drop (o + (vs.length + 1)) := by
      apply List.ext_getElem?
      intro j
      simp only [List.getElem?_drop, List.getElem?_set]
      simp [show ¬ o = o + 1 + vs.length + j by omega]
      congr 1; omega
    rw [e1, e2]; simp

/-- Cells are stored into an object of the call's own. -/
theorem Sim.store (s : Sim W g m w) (P : Program) {i o : Nat} (h1 : m.base ≤ i) (h2 : i < m.next) {ty fz : Nat} {cs vs : List AV} (hl : m.get i = .cells ty fz cs) (hfz : fz ≤ o) (hle : o + vs.length ≤ cs.length)
    (hone : vs.all AV.one = true) {xs : List Value} (hv : VRs g m.next vs xs) :
    ∃ w', (storeCells ⟨g.blk i, o, none⟩ xs).run P w = .ok () w' ∧ Sim W g (m.set i (.cells ty fz (splice cs o vs))) w' := by
  obtain ⟨c, lo, hi, hh, hsz, hlen, hf, hr⟩ := s.live i _ _ _ h1 h2 hl
  have hlx := hv.length
  have h1c : ∀ x ∈ xs, x.oneCell' = true := by
    intro x hx
    obtain ⟨j, hj, rfl⟩ := List.getElem_of_mem hx
    obtain ⟨y, hy, r⟩ := hv.get j (v := vs[j]'(by omega)) (by simp)
    rw [List.getElem?_eq_getElem hj] at hy; cases hy
    exact r.oneCell (List.all_eq_true.1 hone _ (List.getElem_mem _))
  have hrun := run_storeCells_atF P (g.blk i) o ty (lo, hi) xs 0 c w hh (by simp only [Nat.add_zero]; have := hf (by omega); omega) (by omega) h1c
  simp only [Nat.add_zero] at hrun
  refine ⟨_, hrun, ?_⟩
  have hown := s.own i h1 h2
  refine s.update h1 h2 (by rw [hl]; simp) (c := (c.toList.take o ++ xs ++ c.toList.drop (o + xs.length)).toArray) (lo := lo) (hi := hi) ?_ (by simp) (fun b hb => setRow_other w _ _ _ hb) (setRow_heap w _ _ _ _ _ hh) ?_ ?_ ?_ ?_
  · refine s.below.trans ⟨rfl, rfl, rfl, by simp, fun k hk => setRow_other w _ _ _ (fun e => hown.1 (by rw [← e]; exact hk))⟩
  · rw [← hsz]; simp; omega
  · rw [splice_length]; simp; omega
  · rw [splice_length]; exact hf
  · rw [splice_length, splice_eq _ _ _ hle]
    have e : ((c.toList.take o ++ xs ++ c.toList.drop (o + xs.length)).toArray.toList.take cs.length) =
        (c.toList.take cs.length).take o ++ xs ++ (c.toList.take cs.length).drop (o + vs.length) := by
      simp only [List.take_append, List.take_take, List.length_take, List.length_append, Array.length_toList]
      rw [List.drop_take, List.take_of_length_le (l := xs) (by omega)]
      congr 2
      all_goals first | (rw [Nat.min_comm]; done) | (rw [hlx]; done) | omega | (congr 1; omega) | (rw [hlx]; omega) | (congr 1 <;> first | omega | (rw [hlx]))
    rw [e]
    exact ((hr.take o).append hv).append (hr.drop _)

/-- A variable that lies there already, and of which the abstract memory did not know, is adopted. -/
theorem Sim.adopt (s : Sim W g m w) {b : Nat} {c : Array Value} {ty : Nat} {cs : List AV} (hb : w.heap[b]? = some (.cells c ty (0, 0))) (hS : ¬ W.S b) (ho : ∀ j, j < m.next → g.blk j ≠ b) (hlen : cs.length = c.size) (hv : VRs g m.next cs c.toList) :
    Sim W (g.put m.next b c.size) (m.alloc (.cells ty 0 cs)) w where
  gbase := s.gbase
  mbase := s.mbase
  le := by simp only [Mem.base_alloc, Mem.next_alloc]; have := s.le; omega
  below := s.below
  old := fun j hj => by
    have hj' : j < m.base := hj
    have hne : j ≠ m.next := by have := s.le; omega
    obtain ⟨h1, h2⟩ := s.old j hj'
    refine ⟨by simp [Gm.put, hne, h1], fun ty' fz' cs' h3 => ?_⟩
    rw [Mem.get_alloc_ne m _ hne] at h3
    obtain ⟨hS, c', e, f, h4, h5, h6⟩ := h2 _ _ _ h3
    exact ⟨hS, c', e, f, h4, h5, h6.mono (g.put_ext _ _ _)⟩
  own := fun j h1 h2 => by
    have h1' : m.base ≤ j := h1
    have h2' : j < m.next + 1 := h2
    by_cases hj : j = m.next
    · subst hj
      simp only [Gm.put, if_true]
      refine ⟨hS, ?_⟩
      rcases Nat.lt_or_ge b w.heap.size with h | h
      · exact h
      · rw [Array.getElem?_eq_none h] at hb; cases hb
    · have := s.own j h1' (by omega)
      simp only [Gm.put, hj, if_false]
      exact this
  live := fun j ty' fz' cs' h1 h2 h3 => by
    have h1' : m.base ≤ j := h1
    have h2' : j < m.next + 1 := h2
    by_cases hj : j = m.next
    · subst hj
      rw [Mem.get_alloc_same] at h3
      cases h3
      refine ⟨c, 0, 0, by simpa [Gm.put] using hb, by simp [Gm.put], by omega, fun _ => Nat.le_refl _, ?_⟩
      rw [List.take_of_length_le (by simp; omega)]
      exact hv.mono (g.put_ext _ _ _)
    · rw [Mem.get_alloc_ne m _ hj] at h3
      obtain ⟨c', lo', hi', h4, h5, h6, h7, h8⟩ := s.live j _ _ _ h1' (by omega) h3
      exact ⟨c', lo', hi', by simpa [Gm.put, hj] using h4, by simp [Gm.put, hj, h5], h6, h7, h8.mono (g.put_ext _ _ _)⟩
  raw := fun j o' h1 h2 h3 => by
    have h1' : m.base ≤ j := h1
    have h2' : j < m.next + 1 := h2
    by_cases hj : j = m.next
    · subst hj; rw [Mem.get_alloc_same] at h3; cases h3
    · rw [Mem.get_alloc_ne m _ hj] at h3
      simp only [Gm.put, hj, if_false]
      exact s.raw j o' h1' (by omega) h3
  inj := fun j k a1 a2 a3 a4 a5 a6 a7 => by
    have b1 : m.base ≤ j := a1
    have b2 : j < m.next + 1 := a2
    have b3 : m.base ≤ k := a3
    have b4 : k < m.next + 1 := a4
    by_cases hj : j = m.next <;> by_cases hk : k = m.next
    · omega
    · subst hj
      simp only [Gm.put, if_true, hk, if_false] at a7
      exact absurd a7.symm (ho k (by omega))
    · subst hk
      simp only [Gm.put, if_true, hj, if_false] at a7
      exact absurd a7 (ho j (by omega))
    · simp only [Gm.put, hj, hk, if_false] at a7
      rw [Mem.get_alloc_ne m _ hj] at a5
      rw [Mem.get_alloc_ne m _ hk] at a6
      exact s.inj j k b1 (by omega) b3 (by omega) a5 a6 a7

/-- Some blocks more are kept. -/
def Ref.more (W : Ref) (w : World) (E : Nat → Prop) (h : Keeps W w) (hE : ∀ k, E k → k < w.heap.size) : Ref :=
  ⟨w, fun k => W.S k ∨ E k, fun k hk => hk.elim (fun h' => h.lt h') (hE k)⟩
theorem Sim.more (s : Sim W g m w) {E : Nat → Prop} (hE : ∀ k, E k → k < w.heap.size) (ho : ∀ i, i < m.next → ¬ E (g.blk i)) : Sim (W.more w E s.below hE) g m w where
  gbase := s.gbase
  mbase := s.mbase
  le := s.le
  below := ⟨rfl, rfl, rfl, Nat.le_refl _, fun _ _ => rfl⟩
  old := fun i hi => by
    obtain ⟨h1, h2⟩ := s.old i hi
    refine ⟨h1, fun ty fz cs hg => ?_⟩
    obtain ⟨hS, c, e, f, h4, h5⟩ := h2 _ _ _ hg
    exact ⟨.inl hS, c, e, f, by show w.heap[i]? = _; rw [s.below.block i hS]; exact h4, h5⟩
  own := fun i h1 h2 => ⟨fun h => h.elim (s.own i h1 h2).1 (ho i h2), (s.own i h1 h2).2⟩
  live := s.live
  raw := s.raw
  inj := s.inj
theorem Sim.less {g' : Gm} {m' : Mem} (hk : Keeps W w) {E : Nat → Prop} {hE : ∀ k, E k → k < w.heap.size} (s : Sim (W.more w E hk hE) g' m' w') (ho : ∀ i, i < m'.base → ¬ E i) : Sim W g' m' w' where
  gbase := s.gbase
  mbase := s.mbase
  le := s.le
  below := hk.trans ⟨s.below.os, s.below.tape, s.below.output, s.below.size, fun k h => s.below.block k (.inl h)⟩
  old := fun i hi => by
    obtain ⟨h1, h2⟩ := s.old i hi
    refine ⟨h1, fun ty fz cs hg => ?_⟩
    obtain ⟨hS, c, e, f, h4, h5⟩ := h2 _ _ _ hg
    have hS' : W.S i := hS.elim id (fun h => absurd h (ho i hi))
    exact ⟨hS', c, e, f, by rw [← hk.block i hS']; exact h4, h5⟩
  own := fun i h1 h2 => ⟨fun h => (s.own i h1 h2).1 (.inl h), (s.own i h1 h2).2⟩
  live := s.live
  raw := s.raw
  inj := s.inj

end Go.Proofs.YtooogfnmhfocjaaGreatDoor.Spl
