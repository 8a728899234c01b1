/- The abstract machine, 6: parts of strings and slices, structs built. -/
import Derived.Test.YtooogfnmhfocjaaGreatDoorSplPure
namespace Go.Proofs.YtooogfnmhfocjaaGreatDoor.Spl
open Go Go.RowKit
set_option linter.unusedVariables false
set_option linter.unusedSimpArgs false

variable {P : Program} {g : Gm} {n : Nat} (w : World)

def ORel (g : Gm) (n : Nat) (a : Option AV) (v : Option Value) : Prop :=
  match a, v with
  | none, none => True
  | some a, some b => VR g n a b
  | _, _ => False

theorem aSliceStr_sound {t : TypeId} {x v : AV} {xv : Value} {lo hi : Option AV} {lv hv : Option Value} (ht : P.underlying t = some .string) (hx : VR g n x xv) (hl : ORel g n lo lv) (hh : ORel g n hi hv)
    (h : aSliceStr x lo hi = some v) : ∃ z, (Instr.sliceAt t xv lv hv none).run P w = .ok z w ∧ VR g n v z := by
  unfold aSliceStr at h
  split at h
  · rename_i s
    split at h
    · rename_i l hh' e1 e2
      split at h
      · rename_i hb
        cases hx; cases h
        have := bounds_sound (P := P) w false (Nat.le_refl s.size) hl hh e1 e2 hb.1 hb.2.1 hb.2.2
        exact ⟨_, by simp [Instr.sliceAt, run_underlying ht, Instr.slice, this] <;> rfl, .str _⟩
      · cases h
    · cases h
  · cases h

theorem aSlice_sound {t e : TypeId} {size : Nat} {x v : AV} {xv : Value} {lo hi : Option AV} {lv hv : Option Value} (ht : P.underlying t = some (.slice e)) (he : size? P e = some size) (hx : VR g n x xv) (hl : ORel g n lo lv) (hh : ORel g n hi hv)
    (h : aSlice size x lo hi = some v) : ∃ z, (Instr.sliceAt t xv lv hv none).run P w = .ok z w ∧ VR g n v z := by
  unfold aSlice at h
  split at h
  · split at h
    · rename_i l hh' e1 e2
      split at h
      · rename_i hb
        obtain ⟨rfl, rfl⟩ := hb
        cases hx; cases h
        have := bounds_sound (P := P) w true (Nat.le_refl 0) hl hh e1 e2 (by omega) (by omega) (by omega)
        exact ⟨.slice none 0 0, by simp [Instr.sliceAt, run_underlying ht, Instr.slice, this, run_size he], .nilslice⟩
      · cases h
    · cases h
  · split at h
    · rename_i l hh' e1 e2
      split at h
      · rename_i hb
        obtain ⟨rfl, rfl⟩ := hb
        cases hx with
        | dang a cap =>
          cases h
          have := bounds_sound (P := P) w true (Nat.zero_le cap) hl hh e1 e2 (by omega) (by omega) (by omega)
          refine ⟨.slice (some a) 0 cap, ?_, .dang _ _⟩
          simp [Instr.sliceAt, run_underlying ht, Instr.slice, this, run_size he, Addr.add]
      · cases h
    · cases h
  · rename_i i o len es
    split at h
    · rename_i l hh' e1 e2
      split at h
      · rename_i hb
        cases hx with
        | slice _ _ _ _ cap h1 h2 h3 =>
          have hbd := bounds_sound (P := P) w true h2 hl hh e1 e2 hb.1 hb.2.1 hb.2.2
          have hrun : (Instr.sliceAt t (.slice (some ⟨g.blk i, o, none⟩) len cap) lv hv none).run P w =
              .ok (.slice (if cap = l.toNat then some ⟨g.blk i, o, none⟩ else some ((⟨g.blk i, o, none⟩ : Addr).add (l.toNat * size))) (hh'.toNat - l.toNat) (cap - l.toNat)) w := by
            simp [Instr.sliceAt, run_underlying ht, Instr.slice, hbd, run_size he]
          split at h
          · rename_i h0; subst h0; cases h
            refine ⟨_, hrun, ?_⟩
            have e : (if cap = (0 : Int).toNat then some (⟨g.blk i, o, none⟩ : Addr) else some ((⟨g.blk i, o, none⟩ : Addr).add ((0 : Int).toNat * size))) = some ⟨g.blk i, o, none⟩ := by
              split <;> simp [Addr.add]
            rw [e]
            simp only [Int.toNat_zero, Nat.sub_zero]
            exact .slice _ _ _ _ _ h1 (by omega) h3
          · rename_i h0
            split at h
            · rename_i hlh; cases h
              refine ⟨_, hrun, ?_⟩
              rw [hlh, Nat.sub_self]
              split <;> exact .dang _ _
            · rename_i hlh; cases h
              refine ⟨_, hrun, ?_⟩
              have hne : ¬ cap = l.toNat := by omega
              rw [if_neg hne, addr_add]
              have e : hh'.toNat - l.toNat = (hh' - l).toNat := by omega
              rw [e]
              refine .slice _ _ _ _ _ h1 (by omega) (fun hb0 hne0 => ?_)
              by_cases hes : es = size
              · subst hes
                rw [if_pos rfl] at hne0 ⊢
                have := h3 hb0 hne0
                have h5 : l.toNat ≤ cap := by omega
                have e2 : cap * es = l.toNat * es + (cap - l.toNat) * es := by rw [← Nat.add_mul]; congr 1; omega
                omega
              · rw [if_neg hes] at hne0; exact absurd rfl hne0
      · cases h
    · cases h
  · cases h

theorem aSliceA_sound {t e : TypeId} {k size : Nat} {x v : AV} {xv : Value} {lo hi : Option AV} {lv hv : Option Value} (ht : P.underlying t = some (.array k e)) (he : size? P e = some size) (hx : VR g n x xv) (hl : ORel g n lo lv) (hh : ORel g n hi hv)
    (h : aSliceA k size x lo hi = some v) : ∃ z, (Instr.sliceAt t xv lv hv none).run P w = .ok z w ∧ VR g n v z := by
  unfold aSliceA at h
  split at h
  · rename_i i o
    split at h
    · rename_i l hh' e1 e2
      split at h
      · rename_i hb
        cases hx with
        | ptr _ _ h1 =>
          have hbd := bounds_sound (P := P) w false (Nat.le_refl k) hl hh e1 e2 hb.1 hb.2.1 hb.2.2
          have hrun : (Instr.sliceAt t (.pointer (some ⟨g.blk i, o, none⟩)) lv hv none).run P w =
              .ok (.slice (some (if k = l.toNat then ⟨g.blk i, o, none⟩ else (⟨g.blk i, o, none⟩ : Addr).add (l.toNat * size))) (hh'.toNat - l.toNat) (k - l.toNat)) w := by
            simp [Instr.sliceAt, run_underlying ht, Instr.sureAddr, hbd, run_size he]
          split at h
          · rename_i h0; subst h0; cases h
            refine ⟨_, hrun, ?_⟩
            have e : (if k = (0 : Int).toNat then (⟨g.blk i, o, none⟩ : Addr) else ((⟨g.blk i, o, none⟩ : Addr).add ((0 : Int).toNat * size))) = ⟨g.blk i, o, none⟩ := by
              split <;> simp [Addr.add]
            rw [e]
            simp only [Int.toNat_zero, Nat.sub_zero]
            exact .slice _ _ _ _ _ h1 (by omega) (fun _ h => absurd rfl h)
          · rename_i h0
            split at h
            · rename_i hlh; cases h
              refine ⟨_, hrun, ?_⟩
              rw [hlh, Nat.sub_self]
              exact .dang _ _
            · rename_i hlh; cases h
              refine ⟨_, hrun, ?_⟩
              have hne : ¬ k = l.toNat := by omega
              rw [if_neg hne, addr_add]
              have e : hh'.toNat - l.toNat = (hh' - l).toNat := by omega
              rw [e]
              exact .slice _ _ _ _ _ h1 (by omega) (fun _ h => absurd rfl h)
      · cases h
    · cases h
  · cases h

/-! filling -/
theorem foldl_set (vs : List Value) : ∀ (o j : Nat) (cs : Array Value), o + j + vs.length ≤ cs.size →
    (vs.zipIdx j).foldl (fun cs (c, i) => cs.setIfInBounds (o + i) c) cs = (cs.toList.take (o + j) ++ vs ++ cs.toList.drop (o + j + vs.length)).toArray := by
  induction vs with
  | nil => intro o j cs h; simp
  | cons v vs ih =>
    intro o j cs h
    simp only [List.length_cons] at h
    simp only [List.zipIdx_cons, List.foldl_cons]
    rw [ih o (j + 1) _ (by simp; omega)]
    apply Array.ext'
    have e := list_seg_step cs.toList (o + j) v vs (by simp; omega)
    simpa [Array.toList_setIfInBounds, Nat.add_assoc] using e

theorem aFill_sound {place : Nat → Option (Nat × Nat)} : ∀ {parts : List (Nat × AV)} {pvs : List (Nat × Value)} {cs r : List AV} {xs : List Value},
    VRs g n cs xs → parts.length = pvs.length → (∀ (j : Nat) a b, parts[j]? = some a → pvs[j]? = some b → a.1 = b.1 ∧ VR g n a.2 b.2) → aFill place cs parts = some r →
    ∃ ys, Instr.fill place xs.toArray pvs = some ys ∧ VRs g n r ys.toList := by
  intro parts
  induction parts with
  | nil =>
    intro pvs cs r xs hv hl hp h
    cases pvs with
    | nil => simp [aFill] at h; subst h; exact ⟨xs.toArray, rfl, by simpa using hv⟩
    | cons _ _ => simp at hl
  | cons p parts ih =>
    intro pvs cs r xs hv hl hp h
    cases pvs with
    | nil => simp at hl
    | cons q pvs =>
      obtain ⟨i, v⟩ := p
      obtain ⟨i', x⟩ := q
      obtain ⟨e, hvx⟩ := hp 0 (i, v) (i', x) rfl rfl
      simp only at e hvx; subst e
      simp only [aFill] at h
      split at h
      · rename_i off size vs hpl hcs
        split at h
        · rename_i hb
          have hx := hvx.cells hcs
          have hlx := hx.length
          have hlc := hv.length
          have hn : ¬ (x.cells.size ≠ size ∨ off + x.cells.size > xs.toArray.size) := by simp at hlx ⊢; omega
          have hfold : (x.cells.zipIdx.foldl (fun cs (c, j) => cs.setIfInBounds (off + j) c) xs.toArray) = (xs.take off ++ x.cells.toList ++ xs.drop (off + x.cells.size)).toArray := by
            have := foldl_set x.cells.toList off 0 xs.toArray (by simp at hlx ⊢; omega)
            rw [← Array.foldl_toList, Array.toList_zipIdx]
            simpa using this
          have hv' : VRs g n (splice cs off vs) (xs.take off ++ x.cells.toList ++ xs.drop (off + x.cells.size)) := by
            rw [splice_eq _ _ _ hb.2]
            have : x.cells.size = vs.length := by rw [hlx]; simp
            rw [this]
            exact ((hv.take off).append hx).append (hv.drop _)
          obtain ⟨ys, h1, h2⟩ := ih hv' (by simpa using hl) (fun j a b ha hb => hp (j + 1) a b (by simpa using ha) (by simpa using hb)) h
          refine ⟨ys, ?_, h2⟩
          simp only [Instr.fill, hpl]
          rw [if_neg (by simpa using hn), hfold]
          exact h1
        · cases h
      · cases h

theorem zero_sound {t : TypeId} {cs : List AV} (h : zeroCells? P t = some cs) : ∃ i z, P.info? t = some i ∧ i.zero = some z ∧ VRs g n cs z.cells.toList ∧ ∀ w, (zeroValue t).run P w = .ok z w := by
  unfold zeroCells? at h
  cases hi : P.info? t with
  | none => simp [hi] at h
  | some i =>
    cases hz : i.zero with
    | none => simp [hi, hz] at h
    | some z =>
      simp [hi, hz] at h
      exact ⟨i, z, rfl, hz, (VR.av g n z).cells h, fun w => by simp [zeroValue, typeInfo, hi, hz]⟩

theorem places_sound : ∀ {fs : List Field} {pl : List (Nat × Nat)}, placesOf P fs = some pl → fs.mapM (fun f => (P.info? f.type).map fun i => (f.offset, i.size)) = some pl
  | [], pl, h => by simp [placesOf] at h; subst h; rfl
  | f :: fs, pl, h => by
    simp only [placesOf] at h
    split at h
    · rename_i a r h1 h2
      cases h
      have := places_sound h2
      unfold size? at h1
      obtain ⟨i, hi, rfl⟩ := Option.map_eq_some_iff.1 h1
      simp [List.mapM_cons, hi, this]
    · cases h

theorem build_sound {t : TypeId} {parts : List (Nat × AV)} {pvs : Array (Nat × Value)} {v : AV} (hl : parts.length = pvs.size)
    (hp : ∀ (j : Nat) a b, parts[j]? = some a → pvs.toList[j]? = some b → a.1 = b.1 ∧ VR g n a.2 b.2) (h : buildOf P t parts = some v) :
    ∃ z, (Instr.build t pvs).run P w = .ok z w ∧ VR g n v z := by
  unfold buildOf at h
  split at h
  · rename_i z fs hz hu
    split at h
    · rename_i pl hpl
      obtain ⟨cs, hcs, rfl⟩ := Option.map_eq_some_iff.1 h
      obtain ⟨i, zv, hi, hiz, hzv, _⟩ := zero_sound (g := g) (n := n) hz
      obtain ⟨ys, h1, h2⟩ := aFill_sound hzv (by simpa using hl) hp hcs
      refine ⟨.agg ys, run_build w t pvs ys ?_, ?_⟩
      · unfold Program.built
        simp only [hi, hu, hiz]
        rw [places_sound hpl]
        have e : (fun i : Nat => pl.toArray[i]?) = fun i => pl[i]? := by funext i; simp
        simp only [e]
        simpa using h1
      · have := VR.agg _ _ h2
        simpa using this
    · cases h
  · rename_i z k e hz hu
    split at h
    · rename_i size hs
      obtain ⟨cs, hcs, rfl⟩ := Option.map_eq_some_iff.1 h
      obtain ⟨i, zv, hi, hiz, hzv, _⟩ := zero_sound (g := g) (n := n) hz
      obtain ⟨ys, h1, h2⟩ := aFill_sound hzv (by simpa using hl) hp hcs
      refine ⟨.agg ys, run_build w t pvs ys ?_, ?_⟩
      · unfold Program.built
        unfold size? at hs
        obtain ⟨ie, hie, rfl⟩ := Option.map_eq_some_iff.1 hs
        simp only [hi, hu, hiz, hie]
        simpa using h1
      · have := VR.agg _ _ h2
        simpa using this
    · cases h
  · cases h

end Go.Proofs.YtooogfnmhfocjaaGreatDoor.Spl
