/- The abstract machine, 7: operations on memory. -/
import Derived.Test.YtooogfnmhfocjaaGreatDoorSplPure2
import Derived.Lib.ConvBytes
import Derived.Laws.BytesString
import Derived.Lib.UnsafeStr
import Derived.Lib.Builder
namespace Go.Proofs.YtooogfnmhfocjaaGreatDoor.Spl
open Go Go.RowKit Go.Lib
set_option linter.unusedVariables false
set_option linter.unusedSimpArgs false

variable {P : Program} {W : Ref} {g : Gm} {m m' : Mem} {w : World}

theorem load_sound {t : TypeId} {sh : Option Nat} {a v : AV} {av : Value} (s : Sim W g m w) (ht : shape? P t = some sh) (ha : VR g m.next a av) (h : load? sh a m = some v) :
    ∃ z, (Instr.loadAt t av).run P w = .ok z w ∧ VR g m.next v z := by
  unfold load? at h
  split at h
  · rename_i i o
    cases ha with
    | ptr _ _ hi =>
      split at h
      · rename_i cs hc
        unfold aPart at h
        cases sh with
        | some k =>
          obtain ⟨h1, h2⟩ := shape_some ht
          simp at h
          obtain ⟨h3, rfl⟩ := h
          obtain ⟨xs, hxl, hx, hv⟩ := s.range hi hc h3
          refine ⟨.agg xs.toArray, ?_, .agg _ _ hv⟩
          have hl := run_loadCells_list (P := P) w ⟨g.blk i, o, none⟩ xs hx
          rw [hxl] at hl
          simp [Instr.loadAt, Instr.sureAddr, loadVar, h1, run_size h2, hl]
        | none =>
          obtain ⟨h1, h2⟩ := shape_none ht
          simp at h
          obtain ⟨z, hz, r⟩ := s.cell hi hc h
          exact ⟨z, by simp [Instr.loadAt, Instr.sureAddr, loadVar, h1, hz], r⟩
      · cases h
  · cases h

theorem storeCs_sound (P : Program) {a : AV} {av : Value} {vs : List AV} {xs : List Value} {u : Unit} (s : Sim W g m w) (ha : VR g m.next a av) (hv : VRs g m.next vs xs) (h : storeCs a vs m = some (u, m')) :
    ∃ b w', av = .pointer (some b) ∧ (storeCells b xs).run P w = .ok () w' ∧ Sim W g m' w' ∧ m'.next = m.next := by
  unfold storeCs at h
  simp only [forceList_eq, forceNat_eq] at h
  split at h
  · rename_i i o
    cases ha with
    | ptr _ _ hi =>
      split at h
      · rename_i ty fz cs hg
        split at h
        · rename_i hb
          simp at h; subst h
          obtain ⟨w', h1, h2⟩ := s.store P hb.1 hi hg hb.2.1 hb.2.2.1 hb.2.2.2 hv
          exact ⟨_, w', rfl, h1, h2, rfl⟩
        · cases h
      · cases h
  · cases h

theorem store_sound {t : TypeId} {sh : Option Nat} {a v u : AV} {av xv : Value} (s : Sim W g m w) (ht : shape? P t = some sh) (ha : VR g m.next a av) (hv : VR g m.next v xv) (h : store sh a v m = some (u, m')) :
    ∃ w', (Instr.storeAt t av xv).run P w = .ok () w' ∧ Sim W g m' w' ∧ m'.next = m.next ∧ u = .undef := by
  unfold store at h
  split at h
  · split at h
    · rename_i hone
      obtain ⟨h1, h2⟩ := shape_none ht
      unfold bnd at h
      split at h
      · rename_i u' m1 hs
        simp [ret] at h
        obtain ⟨rfl, rfl⟩ := h
        obtain ⟨b, w', rfl, h3, h4, h5⟩ := storeCs_sound P s ha (.cons _ _ _ _ hv .nil) hs
        refine ⟨w', ?_, h4, h5, rfl⟩
        have hc : xv.cells = #[xv] := by
          have := hv.oneCell hone
          cases xv <;> simp_all [Value.cells, Value.oneCell']
        simp [Instr.storeAt, Instr.sureAddr, storeVar, run_size h2, hc, h3]
      · cases h
    · simp [fail] at h
  · rename_i k cs
    split at h
    · rename_i hk
      obtain ⟨h1, h2⟩ := shape_some ht
      unfold bnd at h
      split at h
      · rename_i u' m1 hs
        simp [ret] at h
        obtain ⟨rfl, rfl⟩ := h
        cases hv with
        | agg _ xs hv =>
          obtain ⟨b, w', rfl, h3, h4, h5⟩ := storeCs_sound P s ha hv hs
          refine ⟨w', ?_, h4, h5, rfl⟩
          have hl := hv.length
          simp [Instr.storeAt, Instr.sureAddr, storeVar, run_size h2, Value.cells, h3, show xs.length = k by omega]
      · cases h
    · simp [fail] at h
  · simp [fail] at h

/-- What an operation that may make memory comes to. -/
def Made (P : Program) (W : Ref) (g : Gm) (m : Mem) (w : World) (x : Sem Value) (v : AV) (m' : Mem) : Prop :=
  ∃ z g' w', x.run P w = .ok z w' ∧ VR g' m'.next v z ∧ Sim W g' m' w' ∧ Ext' g m.next g' m'.next

theorem new_sound (P : Program) {ty : TypeId} {cs : List AV} {c : Array Value} (s : Sim W g m w) (hv : VRs g m.next cs c.toList) (v : Value → Value) :
    ∃ w' g', (newRow ty c).run P w = .ok ⟨w.heap.size, 0, none⟩ w' ∧ Sim W g' (m.alloc (.cells ty 0 cs)) w' ∧ Ext' g m.next g' (m.next + 1) ∧ g'.blk m.next = w.heap.size ∧ g'.sz m.next = c.size := by
  have hl := hv.length
  have := s.alloc c ty 0 0 0 cs (by simp at hl; omega) (fun _ => Nat.le_refl _) (by rw [List.take_of_length_le (by omega)]; exact hv)
  exact ⟨_, _, rfl, this, g.put_ext _ _ _, by simp [Gm.put], by simp [Gm.put]⟩

theorem alloc_sound {e : TypeId} {z : List AV} {v : AV} (s : Sim W g m w) (hz : zeroCells? P e = some z) (h : alloc e z m = some (v, m')) : Made P W g m w (Instr.alloc e true (.tuple #[])) v m' := by
  simp [alloc_def] at h
  obtain ⟨rfl, rfl⟩ := h
  obtain ⟨i, zv, hi, hiz, hzv, hrun⟩ := zero_sound (g := g) (n := m.next) hz
  obtain ⟨w', g', h1, h2, h3, h4, h5⟩ := new_sound P s hzv id (ty := e)
  refine ⟨.pointer (some ⟨w.heap.size, 0, none⟩), g', w', ?_, ?_, h2, h3⟩
  · simp [Instr.alloc, hrun, newVar, h1]
  · rw [← h4]; exact .ptr _ _ (by simp)

theorem box_sound {e : TypeId} {x v : AV} {xv : Value} (s : Sim W g m w) (hx : VR g m.next x xv) (h : box e x m = some (v, m')) : Made P W g m w (Instr.box e xv) v m' := by
  unfold box at h
  cases hc : x.cells? with
  | none => rw [hc] at h; simp [fail] at h
  | some cs =>
    rw [hc] at h
    simp [alloc_def] at h
    obtain ⟨rfl, rfl⟩ := h
    obtain ⟨w', g', h1, h2, h3, h4, h5⟩ := new_sound P s (hx.cells hc) id (ty := e)
    refine ⟨.pointer (some ⟨w.heap.size, 0, none⟩), g', w', ?_, ?_, h2, h3⟩
    · simp [Instr.box, newVar, h1]
    · rw [← h4]; exact .ptr _ _ (by simp)

theorem allocS_sound {e es len : Nat} {cs : List AV} {v : AV} {c : Array Value} (s : Sim W g m w) (hv : VRs g m.next cs c.toList) (hl : c.size = len * es) (h : allocS e es len cs m = some (v, m')) :
    Made P W g m w (do pure (.slice (some (← newRow e c)) len len)) v m' := by
  simp [allocS_def] at h
  obtain ⟨rfl, rfl⟩ := h
  obtain ⟨w', g', h1, h2, h3, h4, h5⟩ := new_sound P s hv id (ty := e)
  refine ⟨.slice (some ⟨w.heap.size, 0, none⟩) len len, g', w', by simp [h1], ?_, h2, h3⟩
  rw [← h4]
  exact .slice _ _ _ _ _ (by simp) (Nat.le_refl _) (fun _ _ => by rw [h5, hl]; omega)

theorem flatten_length {α : Type} (z : List α) : ∀ k : Nat, ((List.replicate k z).flatten).length = k * z.length
  | 0 => by simp
  | k + 1 => by simp [List.replicate_succ, flatten_length z k, Nat.succ_mul]; omega

theorem madeCells_eq (z : Array Value) (k : Nat) : madeCells z (k * z.size) = ((List.replicate k z.toList).flatten).toArray := by
  apply Array.ext'
  apply List.ext_getElem?
  intro j
  induction k generalizing j with
  | zero => simp [madeCells]
  | succ k ih =>
    simp only [madeCells, List.replicate_succ, List.flatten_cons] at ih ⊢
    rw [List.getElem?_append]
    simp only [Array.toList_map, Array.toList_range, List.getElem?_map, Array.length_toList] at ih ⊢
    split
    · rename_i hj
      rw [List.getElem?_range (by rw [Nat.succ_mul]; omega)]
      simp [Nat.mod_eq_of_lt hj, hj]
    · rename_i hj
      have := ih (j - z.size)
      rw [← this]
      by_cases hb : j < (k + 1) * z.size
      · rw [List.getElem?_range hb, List.getElem?_range (by rw [Nat.succ_mul] at hb; omega)]
        simp only [Option.map_some]
        have : j % z.size = (j - z.size) % z.size := by
          rw [Nat.mod_eq_sub_mod (by omega)]
        rw [this]
      · rw [List.getElem?_eq_none (by simpa using hb), List.getElem?_eq_none (by rw [Nat.succ_mul] at hb; simp; omega)]

theorem buildSlice_sound {t e : TypeId} {n len : Nat} {z cs : List AV} {parts : List (Nat × AV)} {pvs : Array (Nat × Value)} {v : AV} (s : Sim W g m w) (ht : P.underlying t = some (.slice e)) (he : size? P e = some n) (hz : zeroCells? P e = some z)
    (hn : len * n ≤ 2 ^ 24) (hzl : z.length = n) (hl : parts.length = pvs.size) (hp : ∀ (j : Nat) a b, parts[j]? = some a → pvs.toList[j]? = some b → a.1 = b.1 ∧ VR g m.next a.2 b.2)
    (hf : aFill (fun i => some (i * n, n)) ((List.replicate len z).flatten) parts = some cs) (h : allocS e n len cs m = some (v, m')) : Made P W g m w (Instr.buildSlice t len pvs) v m' := by
  obtain ⟨i, zv, hi, hiz, hzv, hrun⟩ := zero_sound (g := g) (n := m.next) hz
  have hzn : zv.cells.size = n := by have := hzv.length; simp at this; omega
  have hz' := hzv.flatten_replicate len
  obtain ⟨ys, h1, h2⟩ := aFill_sound hz' (by simpa using hl) hp hf
  have hmade : madeCells zv.cells (len * n) = ((List.replicate len zv.cells.toList).flatten).toArray := by rw [← hzn]; exact madeCells_eq _ _
  have hcsl : cs.length = len * n := by
    have : ∀ (parts : List (Nat × AV)) (a r : List AV), aFill (fun i => some (i * n, n)) a parts = some r → r.length = a.length := by
      intro parts
      induction parts with
      | nil => intro a r h; simp [aFill] at h; subst h; rfl
      | cons p ps ih =>
        intro a r h
        simp only [aFill] at h
        split at h
        · split at h
          · rw [ih _ _ h, splice_length]
          · cases h
        · cases h
    rw [this _ _ _ hf, flatten_length, hzl]
  have hys : ys.size = len * n := by have := h2.length; simp at this; omega
  have hm := allocS_sound (P := P) s h2 hys h
  obtain ⟨zr, g', w', e1, e2, e3, e4⟩ := hm
  refine ⟨zr, g', w', ?_, e2, e3, e4⟩
  have hn' : ¬ len * n > 2 ^ 24 := by omega
  simp only [Instr.buildSlice, Sem.run_bind, run_underlying ht, Result.andThen_ok, run_size he]
  rw [if_neg hn']
  by_cases h0 : len * n = 0
  · have hf1 : Instr.fill (fun i => some (i * n, n)) ((Array.range (len * n)).map ((#[] : Array Value)[· % (#[] : Array Value).size]!)) pvs.toList = some ys := by
      rw [← h1, ← hmade]; simp [h0, madeCells, Array.range_zero']
    rw [if_pos h0]
    simp only [Sem.run_bind, Sem.run_pure, Result.andThen_ok, hf1] at e1 ⊢
    exact e1
  · have hf1 : Instr.fill (fun i => some (i * n, n)) ((Array.range (len * n)).map (zv.cells[· % zv.cells.size]!)) pvs.toList = some ys := by
      rw [← h1, ← hmade]; rfl
    rw [if_neg h0]
    simp only [Sem.run_bind, hrun, Sem.run_pure, Result.andThen_ok, hf1] at e1 ⊢
    exact e1

theorem byteCells_rel (g : Gm) (n : Nat) (x : ByteArray) : VRs g n (Spl.byteCells x) (strCells x) := VRs.ofFn _ _ (fun b => .int _ _) _

/-- The first elements of a slice or string. -/
theorem elems_sound {size n : Nat} {x : AV} {xv : Value} {cs : List AV} (s : Sim W g m w) (hx : VR g m.next x xv) (h : elems size n x m = some cs) :
    ∃ xs : List Value, xs.length = cs.length ∧ VRs g m.next cs xs ∧ (Builtin.firstCells size n xv).run P w = .ok xs.toArray w ∧ (Builtin.firstCells size n xv).run P w.drew = .ok xs.toArray w.drew ∧ cs.length = n * size := by
  unfold elems at h
  split at h
  · rename_i i o len es
    cases hx with
    | slice _ _ _ _ cap h1 h2 h3 =>
      split at h
      · rename_i c0 hc
        split at h
        · rename_i hb
          cases h
          obtain ⟨xs, hxl, hcell, hv⟩ := s.range h1 hc hb.2
          have hl := hv.length
          have hr := run_loadCells_list (P := P) w ⟨g.blk i, o, none⟩ xs hcell
          have hr' := run_loadCells_list (P := P) w.drew ⟨g.blk i, o, none⟩ xs hcell
          rw [hxl] at hr hr'
          exact ⟨xs, by omega, hv, hr, hr', by omega⟩
        · cases h
      · cases h
  · cases hx
    split at h
    · rename_i h0; subst h0; cases h; exact ⟨[], rfl, .nil, rfl, rfl, by simp⟩
    · cases h
  · cases hx
    split at h
    · rename_i h0; subst h0; cases h
      exact ⟨[], rfl, .nil, by simp [Builtin.firstCells, loadCells, loadCellsFrom], by simp [Builtin.firstCells, loadCells, loadCellsFrom], by simp⟩
    · cases h
  · rename_i x
    cases hx
    split at h
    · rename_i hb
      cases h
      obtain ⟨rfl, hb⟩ := hb
      have hv := (byteCells_rel g m.next x).take n
      have hl : (Spl.byteCells x).length = x.size := by simp [Spl.byteCells]
      have e : ((x.extract 0 n).data.map fun b => Value.int .u8 b.toNat) = ((strCells x).take n).toArray := by
        apply Array.ext'
        simp [strCells, List.map_take]
      refine ⟨(strCells x).take n, by rw [hv.length], hv, ?_, ?_, by simp [hl]; omega⟩
      · simp only [Builtin.firstCells, Sem.run_pure]; rw [e]
      · simp only [Builtin.firstCells, Sem.run_pure]; rw [e]
    · cases h
  · cases h

theorem count_sound {x : AV} {xv : Value} {n k : Nat} (hx : VR g k x xv) (h : count x = some n) (w : World) : (Builtin.lenOf xv).run P w = .ok n w := by
  unfold count at h
  split at h <;> first | (cases h; done) | (cases hx; cases h; rfl)

theorem one_rel {vs : List AV} {xs : List Value} {k : Nat} (hv : VRs g k vs xs) (hone : vs.all AV.one = true) : ∀ x ∈ xs, x.oneCell' = true := by
  intro x hx
  obtain ⟨j, hj, rfl⟩ := List.getElem_of_mem hx
  have hl := hv.length
  obtain ⟨y, hy, r⟩ := hv.get j (v := vs[j]'(by omega)) (by simp)
  rw [List.getElem?_eq_getElem hj] at hy; cases hy
  exact r.oneCell (List.all_eq_true.1 hone _ (List.getElem_mem _))

theorem run_append_room' {st xt ty e : TypeId} {i : TypeInfo} {d : TypeDesc} (ht : P.underlying st = some (.slice e)) (hd : P.underlying xt = some d) (hdi : ∀ k, d ≠ .int k) (hi : P.info? e = some i) (w : World)
    (base : Option Addr) (sLen sCap k : Nat) (xval : Value) (xs : List Value) (hk : (Builtin.lenOf xval).run P w = .ok k w) (hx : (Builtin.firstCells i.size k xval).run P w = .ok xs.toArray w) (hroom : sLen + k ≤ sCap) :
    (Builtin.append_ #[st, xt] ty #[.slice base sLen sCap, xval]).run P w =
      ((match base with | some a => storeCells (a.add (sLen * i.size)) xs | none => pure () : Sem Unit).run P w).andThen fun _ w' => .ok (.slice base (sLen + k) sCap) w' := by
  have hm : (match d with | .int _ => true | _ => false) = false := by cases d <;> first | rfl | exact absurd rfl (hdi _)
  cases base <;> simp [Builtin.append_, run_underlying ht, run_underlying hd, Go.sizeOf, typeInfo, hi, hm, hk, hx, hroom]

theorem run_append_grow' {st xt ty e : TypeId} {i : TypeInfo} {z : Value} {d : TypeDesc} (ht : P.underlying st = some (.slice e)) (hd : P.underlying xt = some d) (hdi : ∀ k, d ≠ .int k) (hi : P.info? e = some i) (hz : i.zero = some z) (w : World)
    (base : Option Addr) (sLen sCap k : Nat) (xval : Value) (olds xs : List Value) (hk : (Builtin.lenOf xval).run P w = .ok k w) (ho : (Builtin.firstCells i.size sLen (.slice base sLen sCap)).run P w.drew = .ok olds.toArray w.drew)
    (hx : (Builtin.firstCells i.size k xval).run P w.drew = .ok xs.toArray w.drew) (hroom : sCap < sLen + k) (hb0 : 0 < i.bytes) (hfit : (sLen + k) * i.bytes ≤ 2 ^ 45) :
    (Builtin.append_ #[st, xt] ty #[.slice base sLen sCap, xval]).run P w =
      .ok (.slice (some ⟨w.heap.size, 0, none⟩) (sLen + k) (grownCap w (sLen + k) sCap e)) (w.drew.alloc (.cells (olds.toArray ++ xs.toArray ++ Builtin.zeroCells z.cells (grownCap w (sLen + k) sCap e - (sLen + k))) e)) := by
  have hm : (match d with | .int _ => true | _ => false) = false := by cases d <;> first | rfl | exact absurd rfl (hdi _)
  have hn : ¬ (sLen + k ≤ sCap) := by omega
  have hnb : ¬ i.bytes = 0 := by omega
  have hfit' : Builtin.nextslicecap (sLen + k) sCap * i.bytes ≤ 281474976710656 := growslice_fits hroom (by omega)
  have h48' : ¬ (281474976710656 < Builtin.nextslicecap (sLen + k) sCap * i.bytes) := by omega
  simp [Builtin.append_, run_underlying ht, run_underlying hd, Go.sizeOf, typeInfo, zeroValue, hi, hz, hm, hk, hn, hnb, h48', Question.forced, hx, ho, newRow, grownCap]
  congr 2
  apply Array.ext'
  simp [List.append_assoc]

theorem new_cap {ty : TypeId} {fz len cap es : Nat} {cs : List AV} {xs : List Value} (s : Sim W g m w) (hv : VRs g m.next cs xs) (rest : Array Value) (hc : len ≤ cap) (hl : cs.length = len * es) (hr : rest.size = (cap - len) * es) :
    ∃ g', Sim W g' (m.alloc (.cells ty fz cs)) (w.alloc (.cells (xs.toArray ++ rest) ty (0, 0))) ∧ VR g' (m.next + 1) (.slice m.next 0 len es) (.slice (some ⟨w.heap.size, 0, none⟩) len cap) ∧ Ext' g m.next g' (m.next + 1) := by
  have hxl := hv.length
  have h1 := s.alloc (xs.toArray ++ rest) ty fz 0 0 cs (by simp; omega) (fun _ => Nat.zero_le _) (by simp [hxl]; exact hv)
  refine ⟨_, h1, ?_, g.put_ext _ _ _⟩
  have e : (⟨w.heap.size, 0, none⟩ : Addr) = ⟨(g.put m.next w.heap.size (xs.toArray ++ rest).size).blk m.next, 0, none⟩ := by simp [Gm.put]
  rw [e]
  refine .slice _ _ _ _ _ (by omega) hc (fun _ _ => ?_)
  have e2 : cap * es = len * es + (cap - len) * es := by rw [← Nat.add_mul]; congr 1; omega
  simp [Gm.put]
  omega

theorem append_sound {st xt ty e n bytes : Nat} {sv x v : AV} {sval xval : Value} (s : Sim W g m w) (ht : P.underlying st = some (.slice e)) (hxt : ∃ d, P.underlying xt = some d ∧ ∀ k, d ≠ .int k) (he : size? P e = some n) {z0 : List AV} (hz : zeroCells? P e = some z0) (hz0 : z0.length = n)
    (hn : 0 < n) (hby : infoBytes P e = bytes) (hby0 : 0 < bytes) (hsv : VR g m.next sv sval) (hx : VR g m.next x xval) (h : append e n bytes sv x m = some (v, m')) :
    Made P W g m w (Builtin.append_ #[st, xt] ty #[sval, xval]) v m' := by
  obtain ⟨d, hd, hdi⟩ := hxt
  obtain ⟨i, zv, hi, hiz, hzv, _⟩ := zero_sound (g := g) (n := m.next) hz
  have hin : i.size = n := by unfold size? at he; rw [hi] at he; simpa using he
  have hib : i.bytes = bytes := by rw [← hby]; simp [infoBytes, Program.bytesOf, hi]
  have hzn : zv.cells.size = n := by have := hzv.length; simp at this; omega
  unfold append at h
  simp only [forceList_eq, forceNat_eq] at h
  split at h
  · cases h
  · rename_i k hk
    split at h
    · cases h
    · rename_i news hnews
      split at h
      · cases h
      · rename_i hone
        have hone : news.all AV.one = true := by simpa using hone
        obtain ⟨xs, hxl, hxv, hf1, hf2, hlen⟩ := elems_sound (P := P) s hx hnews
        have hcnt := count_sound (P := P) hx hk
        rw [← hin] at hf1 hf2
        split at h
        · -- nil
          cases hsv
          split at h
          · rename_i h0; subst h0
            simp at h; obtain ⟨rfl, rfl⟩ := h
            have := run_append_room' (ty := ty) ht hd hdi hi w none 0 0 0 xval xs (hcnt w) hf1 (by omega)
            refine ⟨.slice none 0 0, g, w, ?_, .nilslice, s, Ext'.refl _ _⟩
            rw [this]; rfl
          · rename_i h0
            split at h
            · rename_i hb
              simp at h; obtain ⟨rfl, rfl⟩ := h
              have := run_append_grow' (ty := ty) ht hd hdi hi hiz w none 0 0 k xval [] xs (hcnt w) rfl hf2 (by omega) (by omega) (by rw [hib]; simpa using hb)
              simp only [Nat.zero_add] at this
              obtain ⟨g', e1, e2, e3⟩ := new_cap s.drew (ty := e) (fz := 0) (cs := news) (xs := xs) (len := k) (cap := grownCap w k 0 e) (es := n) hxv (Builtin.zeroCells zv.cells (grownCap w k 0 e - k)) (grownCap_ge w k 0 e) (by omega) (by rw [size_zeroCells, hzn])
              refine ⟨_, g', _, this, e2, ?_, e3⟩
              have e4 : (#[] ++ xs.toArray : Array Value) = xs.toArray := by simp
              rw [e4]; exact e1
            · cases h
        · -- an empty part
          cases hsv with
          | dang a cap =>
            split at h
            · rename_i h0; subst h0
              simp at h; obtain ⟨rfl, rfl⟩ := h
              have := run_append_room' (ty := ty) ht hd hdi hi w (some a) 0 cap 0 xval xs (hcnt w) hf1 (by omega)
              have hx0 : xs = [] := by simp at hlen; subst hlen; simpa using hxl
              refine ⟨.slice (some a) 0 cap, g, w, ?_, .dang _ _, s, Ext'.refl _ _⟩
              rw [this, hx0]; simp [storeCells]
            · cases h
        · rename_i j o len es'
          cases hsv with
          | slice _ _ _ _ cap h1 h2 h3 =>
            split at h
            · rename_i h0; subst h0
              simp at h; obtain ⟨rfl, rfl⟩ := h
              have := run_append_room' (ty := ty) ht hd hdi hi w (some ⟨g.blk j, o, none⟩) len cap 0 xval xs (hcnt w) hf1 (by omega)
              have hx0 : xs = [] := by simp at hlen; subst hlen; simpa using hxl
              refine ⟨.slice (some ⟨g.blk j, o, none⟩) len cap, g, w, ?_, .slice _ _ _ _ _ h1 h2 h3, s, Ext'.refl _ _⟩
              rw [this, hx0]; simp [storeCells]
            · rename_i h0
              split at h
              · rename_i ty' fz cs hg
                split at h
                · rename_i hb
                  obtain ⟨hb1, rfl, rfl, rfl, hfz, hcl, hbb⟩ := hb
                  simp at h; obtain ⟨rfl, rfl⟩ := h
                  obtain ⟨c, lo, hi', hh, hsz, hlen', hfr, hr⟩ := s.live j _ _ _ hb1 h1 hg
                  by_cases hroom : len + k ≤ cap
                  · have hrun := run_append_room' (ty := ty) ht hd hdi hi w (some ⟨g.blk j, 0, none⟩) len cap k xval xs (hcnt w) hf1 hroom
                    rw [hin] at hrun
                    simp only [addr_add, Nat.zero_add] at hrun
                    have hcapb := h3 (by rw [s.gbase]; exact hb1) (by omega)
                    have hle : len * es' + xs.length ≤ c.size := by
                      rw [hxl, hlen]
                      have : len * es' + k * es' ≤ cap * es' := by rw [← Nat.add_mul]; exact Nat.mul_le_mul_right _ hroom
                      omega
                    have hst := run_storeCells_atF P (g.blk j) (len * es') ty' (lo, hi') xs 0 c w hh (by simp only [Nat.add_zero]; have := hfr hfz; omega) (by omega) (one_rel hxv hone)
                    simp only [Nat.add_zero] at hst
                    rw [hst] at hrun
                    have hown := s.own j hb1 h1
                    have hs1 := s.update hb1 h1 (by rw [hg]; simp) (c := (c.toList.take (len * es') ++ xs ++ c.toList.drop (len * es' + xs.length)).toArray) (ty := ty') (fz := fz) (lo := lo) (hi := hi') (cs := cs ++ news)
                      (w' := w.setRow (g.blk j) (c.toList.take (len * es') ++ xs ++ c.toList.drop (len * es' + xs.length)).toArray)
                      (s.below.trans ⟨rfl, rfl, rfl, by simp, fun q hq => setRow_other w _ _ _ (fun e => hown.1 (by rw [← e]; exact hq))⟩) (by simp) (fun b hb => setRow_other w _ _ _ hb) (setRow_heap w _ _ _ _ _ hh)
                      (by rw [← hsz]; simp; omega) (by simp; omega) (fun _ => hfr hfz) (by
                        have e1 : ((c.toList.take (len * es') ++ xs ++ c.toList.drop (len * es' + xs.length)).toArray.toList.take (cs ++ news).length) = c.toList.take cs.length ++ xs := by
                          rw [hcl]
                          have : (cs ++ news).length = (c.toList.take (len * es') ++ xs).length := by simp; omega
                          rw [this, List.take_left]
                        rw [e1]; exact hr.append hxv)
                    have hs2 := hs1.reuse (i := j) hb1 h1 (Mem.get_set_same m j _)
                    rw [Mem.set_set] at hs2
                    refine ⟨_, _, _, hrun, ?_, hs2, g.put_ext _ _ _⟩
                    have e2 : (⟨g.blk j, 0, none⟩ : Addr) = ⟨(g.put m.next (g.blk j) (g.sz j)).blk m.next, 0, none⟩ := by simp [Gm.put]
                    rw [e2]
                    refine .slice _ _ _ _ _ (by simp) hroom (fun _ _ => ?_)
                    simpa [Gm.put] using hcapb
                  · obtain ⟨ol, holl, holc, holv⟩ := s.range (i := j) (o := 0) (k := len * es') h1 (cs := cs) (by simp [Mem.cells?, hg]) (by omega)
                    have ho : (Builtin.firstCells i.size len (.slice (some ⟨g.blk j, 0, none⟩) len cap)).run P w.drew = .ok ol.toArray w.drew := by
                      have := run_loadCells_list (P := P) w.drew ⟨g.blk j, 0, none⟩ ol holc
                      rw [holl] at this
                      simp only [Builtin.firstCells, hin]; exact this
                    have hrun := run_append_grow' (ty := ty) ht hd hdi hi hiz w (some ⟨g.blk j, 0, none⟩) len cap k xval ol xs (hcnt w) ho hf2 (by omega) (by omega) (by rw [hib]; exact hbb)
                    have hcs : (cs.drop 0).take (len * es') = cs := by simp [← hcl]
                    rw [hcs] at holv
                    obtain ⟨g', e1, e2, e3⟩ := new_cap (s.kill hb1).drew (ty := ty') (fz := fz) (cs := cs ++ news) (xs := ol ++ xs) (len := len + k) (cap := grownCap w (len + k) cap ty') (es := es') (holv.append hxv)
                      (Builtin.zeroCells zv.cells (grownCap w (len + k) cap ty' - (len + k))) (grownCap_ge w _ _ ty') (by simp [hcl, hlen, Nat.add_mul]) (by rw [size_zeroCells, hzn])
                    refine ⟨_, g', _, hrun, e2, ?_, e3⟩
                    have e4 : (ol.toArray ++ xs.toArray : Array Value) = (ol ++ xs).toArray := by simp
                    rw [e4]; exact e1
                · cases h
              · cases h
        · cases h

theorem firstCells_zero (size : Nat) {x : AV} {xv : Value} {n k : Nat} (hx : VR g k x xv) (h : count x = some n) (w : World) : (Builtin.firstCells size 0 xv).run P w = .ok #[] w := by
  unfold count at h
  split at h <;> first | (cases h; done) | (cases hx; simp [Builtin.firstCells, loadCells, loadCellsFrom])

theorem copy_sound {dt xt ty e n : Nat} {d x v : AV} {dv xv : Value} (s : Sim W g m w) (ht : P.underlying dt = some (.slice e)) (he : size? P e = some n) (hd : VR g m.next d dv) (hx : VR g m.next x xv) (h : copy n d x m = some (v, m')) :
    Made P W g m w (Builtin.copy_ #[dt, xt] ty #[dv, xv]) v m' := by
  have hs := run_size (P := P) he w
  unfold copy at h
  split at h
  · rename_i k i o len es hk
    cases hd with
    | slice _ _ _ _ cap h1 h2 h3 =>
      cases hc : elems n (min k len) x m with
      | none => rw [hc] at h; cases h
      | some cs =>
        rw [hc] at h
        obtain ⟨⟨u, m1⟩, hst, hq⟩ := Option.map_eq_some_iff.1 h
        simp at hq; obtain ⟨rfl, rfl⟩ := hq
        obtain ⟨xs, hxl, hxv, hf1, _, _⟩ := elems_sound (P := P) s hx hc
        obtain ⟨b, w', hb, h4, h5, h6⟩ := storeCs_sound P s (.ptr i o h1) hxv hst
        cases hb
        refine ⟨.int .i64 (min k len : Nat), g, w', ?_, .int _ _, h5, by rw [h6]; exact Ext'.refl _ _⟩
        have e : Nat.min k len = min k len := rfl
        simp only [Builtin.copy_, List.getElem?_toArray, List.getElem?_cons_zero, List.getElem?_cons_succ, Sem.run_bind, run_underlying ht, Result.andThen_ok, count_sound (P := P) hx hk, hs, e, hf1, h4, goInt, Sem.run_pure]
  · rename_i k hk
    cases hd
    simp at h; obtain ⟨rfl, rfl⟩ := h
    refine ⟨.int .i64 0, g, w, ?_, .int _ _, s, Ext'.refl _ _⟩
    have e : Nat.min k 0 = 0 := Nat.min_zero k
    simp only [Builtin.copy_, List.getElem?_toArray, List.getElem?_cons_zero, List.getElem?_cons_succ, Sem.run_bind, run_underlying ht, Result.andThen_ok, count_sound (P := P) hx hk, hs, e, firstCells_zero (P := P) n hx hk, goInt, Sem.run_pure]
    rfl
  · rename_i k hk
    cases hd
    simp at h; obtain ⟨rfl, rfl⟩ := h
    refine ⟨.int .i64 0, g, w, ?_, .int _ _, s, Ext'.refl _ _⟩
    have e : Nat.min k 0 = 0 := Nat.min_zero k
    simp only [Builtin.copy_, List.getElem?_toArray, List.getElem?_cons_zero, List.getElem?_cons_succ, Sem.run_bind, run_underlying ht, Result.andThen_ok, count_sound (P := P) hx hk, hs, e, firstCells_zero (P := P) n hx hk, goInt, Sem.run_pure]
    rfl
  · cases h

theorem mkSlice_sound {t e n bytes : Nat} {z : List AV} {l c v : AV} {lv cv : Value} (s : Sim W g m w) (ht : P.underlying t = some (.slice e)) (he : size? P e = some n) (hz : zeroCells? P e = some z) (hby : infoBytes P e = bytes) (hby0 : 0 < bytes)
    (hl : VR g m.next l lv) (hc : VR g m.next c cv) (h : mkSlice e n bytes z l c m = some (v, m')) : Made P W g m w (Instr.makeSlice t lv cv) v m' := by
  obtain ⟨i, zv, hi, hiz, hzv, _⟩ := zero_sound (g := g) (n := m.next) hz
  have hin : i.size = n := by unfold size? at he; rw [hi] at he; simpa using he
  have hib : i.bytes = bytes := by rw [← hby]; simp [infoBytes, Program.bytesOf, hi]
  unfold mkSlice at h
  split at h
  · rename_i l c
    cases hl; cases hc
    split at h
    · rename_i hb
      obtain ⟨h0, h1, h2, h3⟩ := hb
      have hzn : zv.cells.size = n := by have := hzv.length; simp at this; omega
      have hc45 : c ≤ 2 ^ 45 := by
        have : (1 : Int) * c ≤ (bytes : Int) * c := Int.mul_le_mul_of_nonneg_right (by omega) (by omega)
        omega
      have hrun := run_make (P := P) w t e i zv ht hi hiz .i64 .i64 l c h0 h1 (by rw [hib]; omega) (by omega)
      simp [allocS_def] at h
      obtain ⟨rfl, rfl⟩ := h
      have hmade : madeCells zv.cells (c.toNat * n) = (List.replicate l.toNat zv.cells.toList).flatten.toArray ++ (List.replicate (c.toNat - l.toNat) zv.cells.toList).flatten.toArray := by
        have := madeCells_eq zv.cells c.toNat
        rw [hzn] at this
        rw [this]
        have e : c.toNat = l.toNat + (c.toNat - l.toNat) := by omega
        rw [e, ← List.replicate_append_replicate, List.flatten_append]
        simp
      rw [hin, hmade] at hrun
      obtain ⟨g', e1, e2, e3⟩ := new_cap s (ty := e) (fz := 0) (cs := (List.replicate l.toNat z).flatten) (xs := (List.replicate l.toNat zv.cells.toList).flatten) (len := l.toNat) (cap := c.toNat) (es := n) (hzv.flatten_replicate _)
        (List.replicate (c.toNat - l.toNat) zv.cells.toList).flatten.toArray (by omega) (by rw [flatten_length, h3]) (by simp only [List.size_toArray, flatten_length]; simp [hzn])
      exact ⟨_, g', _, hrun, e2, e1, e3⟩
    · simp [fail] at h
  · simp [fail] at h

theorem toBytes_sound {src dst e : Nat} {d : TypeDesc} {x v : AV} {xv : Value} (s : Sim W g m w) (hs : P.underlying src = some d) (hd : P.underlying dst = some (.slice e)) (he : P.underlying e = some (.int .u8)) (hx : VR g m.next x xv) (h : toBytes e x m = some (v, m')) :
    Made P W g m w (convert src dst xv) v m' := by
  unfold toBytes at h
  split at h
  · rename_i b
    cases hx
    simp at h; obtain ⟨rfl, rfl⟩ := h
    have hrun := Go.Lib.run_convert_string_bytes (P := P) w src dst e b hs hd he
    have hv := byteCells_rel g m.next b
    have hl : (Spl.byteCells b).length = b.size := by simp [Spl.byteCells]
    have hcap := grownCap_ge w b.size 0 e
    have hsz : (bytesCells w e b).size = grownCap w b.size 0 e := by simp [bytesCells]; omega
    have htk : (bytesCells w e b).toList.take (Spl.byteCells b).length = strCells b := by
      rw [hl]
      simp only [bytesCells, Array.toList_append, Array.toList_map, strCells]
      rw [List.take_append_of_le_length (by simp), List.take_of_length_le (by simp)]
    have h1 := s.drew.alloc (bytesCells w e b) e (b.size + 1) (bytesCells w e b).size ((bytesCells w e b).size + 1) (Spl.byteCells b) (by omega) (by omega) (by rw [htk]; exact hv)
    have hw : bytesWorld w e b = w.drew.alloc (.cells (bytesCells w e b) e ((bytesCells w e b).size, (bytesCells w e b).size + 1)) := by
      simp [bytesWorld, World.freeze, World.alloc, World.drew, -World.alloc_eq, -World.drew_eq]
      apply Array.ext
      · simp
      · intro q h2 h3
        rw [Array.getElem_modify]
        by_cases hq : w.heap.size = q
        · subst hq; simp
        · rw [if_neg hq]
          have : q < w.heap.size := by simp at h3; omega
          simp [Array.getElem_push, this]
    rw [hw] at hrun
    refine ⟨_, _, _, hrun, ?_, h1, g.put_ext _ _ _⟩
    have e2 : (⟨w.heap.size, 0, none⟩ : Addr) = ⟨(g.put m.next w.drew.heap.size (bytesCells w e b).size).blk m.next, 0, none⟩ := by simp [Gm.put]
    rw [e2]
    refine .slice _ _ _ _ _ (by simp) hcap (fun _ _ => ?_)
    simp [Gm.put, hsz]
  · cases h

theorem ofByteCells_sound : ∀ {cs : List AV} {l : List UInt8} {xs : List Value} {k : Nat}, ofByteCells cs = some l → VRs g k cs xs → ∃ ns : List Int, xs = ns.map (Value.int .u8) ∧ l = ns.map fun n => UInt8.ofNat n.toNat
  | [], l, xs, k, h, hv => by cases hv; simp [ofByteCells] at h; subst h; exact ⟨[], rfl, rfl⟩
  | c :: cs, l, xs, k, h, hv => by
    cases hv with
    | cons _ x _ xs hc hv =>
      unfold ofByteCells at h
      split at h
      · rename_i heq; cases heq
      · rename_i n rest heq
        cases heq
        obtain ⟨l', hl', rfl⟩ := Option.map_eq_some_iff.1 h
        obtain ⟨ns, rfl, rfl⟩ := ofByteCells_sound hl' hv
        cases hc
        exact ⟨n :: ns, rfl, rfl⟩
      · cases h

theorem foldl_push (ns : List Int) : ∀ s : ByteArray, ns.foldl (fun r (n : Int) => r.push (UInt8.ofNat n.toNat)) s = ⟨s.data ++ (ns.map fun n => UInt8.ofNat n.toNat).toArray⟩ := by
  induction ns with
  | nil => intro s; simp
  | cons n ns ih =>
    intro s
    rw [List.foldl_cons, ih]
    apply ByteArray.ext
    simp [ByteArray.push]

theorem ofBytes_sound {src dst e : Nat} {x v : AV} {xv : Value} (s : Sim W g m w) (hs : P.underlying src = some (.slice e)) (hd : P.underlying dst = some .string) (he : P.underlying e = some (.int .u8)) (hx : VR g m.next x xv) (h : ofBytes x m = some (v, m')) :
    Made P W g m w (convert src dst xv) v m' := by
  unfold ofBytes at h
  split at h
  · rename_i n hn
    cases hc : elems 1 n x m with
    | none => rw [hc] at h; cases h
    | some cs =>
      rw [hc] at h
      obtain ⟨l, hl, hq⟩ := Option.map_eq_some_iff.1 h
      simp at hq; obtain ⟨rfl, rfl⟩ := hq
      obtain ⟨xs, hxl, hxv, hf1, _, hlen⟩ := elems_sound (P := P) s hx hc
      obtain ⟨ns, rfl, rfl⟩ := ofByteCells_sound hl hxv
      refine ⟨.string ⟨(ns.map fun n => UInt8.ofNat n.toNat).toArray⟩, g, w, ?_, .str _, s, Ext'.refl _ _⟩
      cases hx with
      | nilslice =>
        rw [run_convert_bytes_string w src dst e _ _ _ hs he hd]
        simp [countS] at hn; subst hn
        have : ns = [] := by simp at hlen; subst hlen; simpa using hxl
        subst this
        rfl
      | dang a cap =>
        rw [run_convert_bytes_string w src dst e _ _ _ hs he hd]
        simp [countS] at hn; subst hn
        have : ns = [] := by simp at hlen; subst hlen; simpa using hxl
        subst this
        have := run_bytesToString (P := P) w a 0 cap [] (by simp [loadCells, loadCellsFrom])
        rw [this]; rfl
      | slice i o len es cap h1 h2 h3 =>
        rw [run_convert_bytes_string w src dst e _ _ _ hs he hd]
        simp [countS] at hn; subst hn
        have := run_bytesToString (P := P) w ⟨g.blk i, o, none⟩ len cap ns (by simpa [Builtin.firstCells] using hf1)
        rw [this, foldl_push]
        simp
      | _ => simp [countS] at hn
  · cases h

theorem sliceData_sound {ts : Array TypeId} {ty e : Nat} {x v : AV} {xv : Value} (s : Sim W g m w) (ht : P.underlying ty = some (.pointer e)) (hx : VR g m.next x xv) (h : sliceData x m = some (v, m')) :
    Made P W g m w (Builtin.unsafeSliceData_ ts ty #[xv]) v m' := by
  unfold sliceData at h
  split at h
  · cases hx; cases h
    exact ⟨_, g, w, run_unsafeSliceData_nil w ts ty 0 0, .nilptr, s, Ext'.refl _ _⟩
  · rename_i i o len es
    cases hx with
    | slice _ _ _ _ cap h1 h2 h3 =>
      split at h
      · cases h
        exact ⟨_, g, w, run_unsafeSliceData_row w ts ty _ len cap (by omega), .ptr _ _ h1, s, Ext'.refl _ _⟩
      · obtain ⟨cs, hcs, hq⟩ := Option.map_eq_some_iff.1 h
        cases hq
        by_cases hc : cap = 0
        · subst hc
          obtain ⟨c, e', f, h4, _, _⟩ := s.cells h1 hcs
          have := run_unsafeSliceData_zero (P := P) w ts ty e ht ⟨g.blk i, o, none⟩ len (e', c.size) (by simp [World.shape?, h4])
          exact ⟨_, g, _, this, .anyptr _, s.allocOther _, Ext'.refl _ _⟩
        · exact ⟨_, g, w, run_unsafeSliceData_row w ts ty _ len cap hc, .anyptr _, s, Ext'.refl _ _⟩
  · cases h

theorem freeze_eq (w : World) (b k : Nat) {c : Array Value} {t lo hi : Nat} (h : w.heap[b]? = some (.cells c t (lo, hi))) (hk : 0 < k) :
    (w.freeze ⟨b, 0, none⟩ k).heap[b]? = some (.cells c t (if lo == hi then (0, k) else (0, max hi k))) := by
  have hk' : k ≠ 0 := by omega
  simp only [World.freeze, hk', if_false, Array.getElem?_modify, if_true, h, Option.map_some]
  by_cases e : lo = hi
  · simp [e]
  · simp [e]
theorem freeze_other (w : World) (b k q : Nat) (h : q ≠ b) : (w.freeze ⟨b, 0, none⟩ k).heap[q]? = w.heap[q]? := by
  unfold World.freeze
  split
  · rfl
  · simp [Array.getElem?_modify, Ne.symm h]
theorem freeze_size (w : World) (b k : Nat) : (w.freeze ⟨b, 0, none⟩ k).heap.size = w.heap.size := by
  unfold World.freeze
  split <;> simp

theorem run_loadBytes' (w : World) : ∀ (ns : List Int) (a : Addr) (acc : ByteArray), (∀ j v, (ns.map (Value.int .u8))[j]? = some v → w.cell? (a.add j) = some v) →
    (loadBytes a acc ns.length).run P w = .ok ⟨acc.data ++ (ns.map fun n => UInt8.ofNat n.toNat).toArray⟩ w
  | [], a, acc, _ => by simp [loadBytes]
  | x :: l, a, acc, h => by
    have h0 : w.cell? a = some (.int .u8 x) := by
      have := h 0 _ rfl
      simpa [Addr.add] using this
    have ih := run_loadBytes' w l (a.add 1) (acc.push x.toNat.toUInt8) (fun j y hy => by
      have := h (j + 1) y (by simpa using hy)
      have e : (a.add 1).add j = a.add (j + 1) := by
        unfold Addr.add
        by_cases hj : j = 0
        · subst hj; simp
        · simp [hj]; omega
      rw [e]; exact this)
    simp only [List.length_cons, loadBytes, Sem.run_bind, run_load, h0, Result.andThen]
    rw [ih]
    congr 1
    apply ByteArray.ext
    simp [ByteArray.push]

theorem run_unsafeString_row' (w : World) (pt it ty e : TypeId) (hp : P.underlying pt = some (.pointer e)) (hc : P.cellsOf e = 1) (g cells : Nat) (hsh : w.shape? g = some (e, cells)) (ns : List Int) (h0 : ns ≠ []) (hn : ns.length ≤ cells) (h63 : ns.length ≤ 9223372036854775807)
    (hcell : ∀ j v, (ns.map (Value.int .u8))[j]? = some v → w.cell? ((⟨g, 0, none⟩ : Addr).add j) = some v) :
    (Builtin.unsafeString_ #[pt, it] ty #[.pointer (some ⟨g, 0, none⟩), .int .i64 ns.length]).run P w = .ok (.string ⟨(ns.map fun n => UInt8.ofNat n.toNat).toArray⟩) (w.freeze ⟨g, 0, none⟩ ns.length) := by
  have hl : ns.length ≠ 0 := by simpa using h0
  have hlb := run_loadBytes' (P := P) w ns ⟨g, 0, none⟩ .empty hcell
  have hlies := liesAt_bytes (P := P) hc (cells / P.cellsOf e) ns.length (by rw [hc]; simpa using hn)
  have h63' : ¬ (9223372036854775807 : Int) < (ns.length : Int) := by omega
  have hdef : Builtin.unsafeString_ #[pt, it] ty #[.pointer (some ⟨g, 0, none⟩), .int .i64 ns.length] =
      (do
        let n ← asInt (.int .i64 ns.length)
        if n < 0 then runtimePanic (.error "unsafe.String: len out of range")
        if n > IntKind.i64.max then unsupported (.unsafePointer "String: a length above the largest int")
        if n = 0 then pure (.string .empty)
        else if ← variablesAt ⟨g, 0, none⟩ (← elemOf pt) n.toNat then do
          let s ← loadBytes ⟨g, 0, none⟩ .empty n.toNat
          freeze ⟨g, 0, none⟩ n.toNat
          pure (.string s)
        else unsupported (.unsafePointer "String: not so many bytes at ptr")) := rfl
  rw [hdef]
  have hmax : IntKind.i64.max = 9223372036854775807 := rfl
  have hneg : ¬ (ns.length : Int) < 0 := by omega
  simp [asInt, asIntOf, hmax, h63', hneg, hl, variablesAt, hsh, elemOf, run_underlying hp, hlies, hlb]

theorem unsafeStr_sound {pt it ty e : Nat} {p n v : AV} {pv nv : Value} (s : Sim W g m w) (ht : P.underlying pt = some (.pointer e)) (he : size? P e = some 1) (hp : VR g m.next p pv) (hn : VR g m.next n nv) (h : unsafeStr e p n m = some (v, m')) :
    Made P W g m w (Builtin.unsafeString_ #[pt, it] ty #[pv, nv]) v m' := by
  unfold unsafeStr at h
  split at h
  · cases hp; cases hn
    split at h
    · rename_i h0; subst h0; cases h
      exact ⟨_, g, w, run_unsafeString_none w pt it ty none, .str _, s, Ext'.refl _ _⟩
    · cases h
  · cases hp; cases hn
    split at h
    · rename_i h0; subst h0; cases h
      exact ⟨_, g, w, run_unsafeString_none w pt it ty _, .str _, s, Ext'.refl _ _⟩
    · cases h
  · rename_i i o k
    cases hp with
    | ptr _ _ h1 =>
      cases hn
      split at h
      · rename_i h0; subst h0; cases h
        exact ⟨_, g, w, run_unsafeString_none w pt it ty _, .str _, s, Ext'.refl _ _⟩
      · rename_i hk0
        split at h
        · rename_i ty' fz cs hg
          split at h
          · rename_i hb
            obtain ⟨hb1, rfl, hfz, hk1, hk2, rfl, hk3⟩ := hb
            obtain ⟨l, hl, hq⟩ := Option.map_eq_some_iff.1 h
            cases hq
            obtain ⟨c, lo, hi, hh, hsz, hlen, hfr, hr⟩ := s.live i _ _ _ hb1 h1 hg
            obtain ⟨xs, hxl, hcell, hv⟩ := s.range (i := i) (o := 0) (k := k.toNat) h1 (cs := cs) (by simp [Mem.cells?, hg]) (by omega)
            obtain ⟨ns, rfl, rfl⟩ := ofByteCells_sound hl (by simpa using hv)
            have hnl : ns.length = k.toNat := by simpa using hxl
            have hck : k = (ns.length : Int) := by omega
            have hcells : P.cellsOf ty' = 1 := by unfold size? at he; simp [Program.cellsOf, he]
            have hmax : IntKind.i64.max = 9223372036854775807 := rfl
            have hrun := run_unsafeString_row' (P := P) w pt it ty ty' ht hcells (g.blk i) c.size (by simp [World.shape?, hh]) ns (by intro e; subst e; simp at hnl; omega) (by omega) (by rw [hmax] at hk2; omega) hcell
            rw [← hck] at hrun
            have hown := s.own i hb1 h1
            have hkk : 0 < ns.length := by omega
            refine ⟨_, g, _, hrun, .str _, ?_, Ext'.refl _ _⟩
            have hnew := freeze_eq w (g.blk i) ns.length hh hkk
            have hb : Keeps W (w.freeze ⟨g.blk i, 0, none⟩ ns.length) := have hf0 : Below 0 w (w.freeze ⟨g.blk i, 0, none⟩ ns.length) := below_freeze (Below.refl 0 w) (Nat.zero_le _) _
              s.below.trans ⟨hf0.os, hf0.tape, hf0.output, by rw [freeze_size]; exact Nat.le_refl _, fun q hq => freeze_other _ _ _ _ (fun e => hown.1 (by rw [← e]; exact hq))⟩
            by_cases e : lo = hi
            · rw [if_pos (by simp [e])] at hnew
              refine s.update hb1 h1 (by rw [hg]; simp) hb (freeze_size _ _ _) (fun b hb => freeze_other _ _ _ _ hb) hnew hsz hlen (fun _ => by omega) hr
            · rw [if_neg (by simp [e])] at hnew
              refine s.update hb1 h1 (by rw [hg]; simp) hb (freeze_size _ _ _) (fun b hb => freeze_other _ _ _ _ hb) hnew hsz hlen (fun _ => by have := hfr hfz; omega) hr
          · cases h
        · cases h
  · cases h

theorem rowAt_mono {P : Program} {fits : TypeId → Bool} {d e count count' off n : Nat} (h : rowAt P fits d e count off n = true) (hc : count ≤ count') : rowAt P fits d e count' off n = true := by
  cases d with
  | zero => simp [rowAt] at h
  | succ d =>
    by_cases hs : P.cellsOf e = 0
    · simp only [rowAt, hs, if_true] at h; cases h
    · simp only [rowAt, hs, if_false, Bool.or_eq_true, Bool.and_eq_true, decide_eq_true_eq, beq_iff_eq] at h ⊢
      rcases h with ⟨⟨h1, h2⟩, h3⟩ | ⟨h1, h2⟩
      · exact .inl ⟨⟨h1, by omega⟩, h3⟩
      · exact .inr ⟨by omega, h2⟩

theorem toUnsafe_sound {src dst t : Nat} {x v : AV} {xv : Value} (s : Sim W g m w) (hs : P.underlying src = some (.pointer t)) (hd : P.underlying dst = some .unsafePointer) (ht : (size? P t).getD 0 ≠ 0) (hx : VR g m.next x xv) (h : toUnsafe x m = some (v, m')) :
    Made P W g m w (convert src dst xv) v m' := by
  unfold toUnsafe at h
  split at h
  · rename_i i o
    cases hx with
    | ptr _ _ hi =>
      split at h
      · rename_i cs hc
        split at h
        · rename_i ho
          cases h
          obtain ⟨c, e, f, h1, h2, h3⟩ := s.cells hi hc
          obtain ⟨j, hj, hj0⟩ : ∃ j, P.info? t = some j ∧ j.size ≠ 0 := by
            unfold size? at ht
            cases hz : P.info? t with
            | none => simp [hz] at ht
            | some j => simp [hz] at ht; exact ⟨j, rfl, ht⟩
          exact ⟨_, g, w, run_to_unsafe (e := e) (cells := c.size) w ⟨g.blk i, o, none⟩ hs hd hj hj0 (by simp [World.shape?, h1]) (by simp only; omega), .ptr _ _ hi, s, Ext'.refl _ _⟩
        · cases h
      · cases h
  · cases h

theorem fromUnsafe_sound {src dst u : Nat} {x v : AV} {xv : Value} (s : Sim W g m w) (hs : P.underlying src = some .unsafePointer) (hd : P.underlying dst = some (.pointer u)) (hu : (size? P u).isSome = true) (hx : VR g m.next x xv)
    (h : fromUnsafe P.cellsOf (fun ty o => rowAt P (sameLayout P P.depth · u) P.depth ty 1 o 1) x m = some (v, m')) : Made P W g m w (convert src dst xv) v m' := by
  unfold fromUnsafe at h
  split at h
  · rename_i i o
    cases hx with
    | ptr _ _ hi =>
      split at h
      · rename_i ty fz cs hg
        split at h
        · rename_i hb
          cases h
          obtain ⟨c, lo, hi', h1, h2, h3, _, _⟩ := s.live i _ _ _ hb.1 hi hg
          obtain ⟨j, hj⟩ : ∃ j, P.info? u = some j := by
            unfold size? at hu
            cases hz : P.info? u with
            | none => simp [hz] at hu
            | some j => exact ⟨j, rfl⟩
          have hcount : 1 ≤ c.size / P.cellsOf ty := (Nat.le_div_iff_mul_le hb.2.1).2 (by omega)
          have hl : liesAt P P.depth ty (c.size / P.cellsOf ty) o u 1 = true := by
            have hdp : P.depth = (2 * (P.types.size + Made.depth) + 1) + 1 := rfl
            have := rowAt_mono hb.2.2.2 hcount
            rw [hdp] at this ⊢
            unfold liesAt
            rw [hdp, this]
            rfl
          exact ⟨_, g, w, run_from_unsafe w ⟨g.blk i, o, none⟩ hs hd hj (cells := c.size) (e := ty) (by simp [World.shape?, h1]) hl, .ptr _ _ hi, s, Ext'.refl _ _⟩
        · cases h
      · cases h
  · cases h

end Go.Proofs.YtooogfnmhfocjaaGreatDoor.Spl
