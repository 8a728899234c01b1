/- The abstract machine, 7b: operations on maps, and on strings that are gone over. -/
import Derived.Test.YtooogfnmhfocjaaGreatDoorSplMemOp
namespace Go.Proofs.YtooogfnmhfocjaaGreatDoor.Spl
open Go Go.RowKit Go.MapKept
set_option linter.unusedVariables false
set_option linter.unusedSimpArgs false

variable {P : Program} {W : Ref} {g : Gm} {m m' : Mem} {w : World}

theorem key_rel {n : Nat} {a : AV} {x v : Value} (h : VR g n a x) (hk : a.key? = some v) : x = v := by
  cases h <;> simp_all [AV.key?]
theorem back_rel {n : Nat} {a : AV} {v : Value} (h : backKey v = some a) : VR g n a v := by
  cases v <;> simp [backKey] at h <;> subst h <;> constructor
theorem isKey_of {d : TypeDesc} {k : Value} (h : isKey (some d) k = true) : IsKey d k := by
  cases d <;> cases k <;> simp_all [isKey, IsKey]
theorem mapFind_some {kt : TypeId} {k : Value} {es : List MapEntry} {r : Option (Nat × Value)} (h : mapFind P kt k es = some r) : ∃ d, P.underlying kt = some d ∧ IsKey d k ∧ Instr.findNow d k es 0 = some r := by
  unfold mapFind at h
  split at h
  · rename_i d hd
    split at h
    · rename_i hk
      exact ⟨d, hd, isKey_of hk, h⟩
    · cases h
  · cases h
theorem run_getRaw {b : Nat} {o : Obj} (h : w.heap[b]? = some o) (hc : ∀ c e f, o ≠ .cells c e f) : (getObj b).run P w = .ok o w := by
  cases o <;> first | (simp [getObj, Sem.run, h]; done) | exact absurd rfl (hc _ _ _)
theorem run_setRaw {b : Nat} {o : Obj} (o' : Obj) (h : w.heap[b]? = some o) (hc : ∀ c e f, o ≠ .cells c e f) : (setObj b o').run P w = .ok () { w with heap := w.heap.setIfInBounds b o' } := by
  cases o <;> first | (simp [setObj, Sem.run, h]; done) | exact absurd rfl (hc _ _ _)

theorem newMap_sound (P : Program) {t : TypeId} {v : AV} (s : Sim W g m w) (h : newMap m = some (v, m')) : Made P W g m w (Instr.makeMap t none) v m' := by
  simp only [newMap, Option.some.injEq, Prod.mk.injEq] at h
  obtain ⟨rfl, rfl⟩ := h
  refine ⟨.map (some w.heap.size), g.put m.next w.heap.size 0, w.alloc (.map #[] 0), ?_, ?_, s.allocRaw _, g.put_ext _ _ _⟩
  · simp [Instr.makeMap]
  · have : VR (g.put m.next w.heap.size 0) (m.next + 1) (.mp m.next) (.map (some ((g.put m.next w.heap.size 0).blk m.next))) := .mp _ (Nat.lt_succ_self _)
    simpa [Gm.put] using this

theorem mapGet_sound {t kt et : TypeId} {zv : Value} {ok : Bool} {x k v : AV} {xv kv : Value} (s : Sim W g m w) (ht : P.underlying t = some (.map kt et)) (hz : (P.info? et).bind (·.zero) = some zv) (hx : VR g m.next x xv) (hk : VR g m.next k kv)
    (h : mapGet P kt (Value.av zv) ok x k m = some (v, m')) : Made P W g m w (Instr.lookup t xv kv ok) v m' := by
  unfold mapGet at h
  split at h
  · rename_i i kv' hkv
    obtain rfl := key_rel hk hkv
    cases hx with
    | mp _ hi =>
      split at h
      · rename_i es ck hg
        split at h
        · rename_i hb
          have hh := s.raw i _ hb hi hg
          have hget : (getObj (g.blk i)).run P w = .ok (.map es ck) w := run_getRaw hh (fun _ _ _ h => by cases h)
          obtain ⟨inf, hinf, hzero⟩ : ∃ inf, P.info? et = some inf ∧ inf.zero = some zv := by
            cases hi' : P.info? et with
            | none => rw [hi'] at hz; cases hz
            | some inf => rw [hi'] at hz; exact ⟨inf, rfl, hz⟩
          have hzr : (zeroValue et).run P w = .ok zv w := by simp [zeroValue, run_typeInfo w hinf, hzero]
          split at h
          · rename_i j val hf
            obtain ⟨d, hd, hkd, hfn⟩ := mapFind_some hf
            obtain ⟨a, ha, hq⟩ := Option.map_eq_some_iff.1 h
            cases hq
            refine ⟨if ok then .tuple #[val, .bool true] else val, g, w, ?_, ?_, s, Ext'.refl _ _⟩
            · simp [Instr.lookup, run_underlying ht, hget, run_checkKey hd hkd _ 9999, run_findKey hd hfn]
            · cases ok with
              | true => exact .tup _ _ (.cons _ _ _ _ (back_rel ha) (.cons _ _ _ _ (.bool _) .nil))
              | false => exact back_rel ha
          · rename_i hf
            obtain ⟨d, hd, hkd, hfn⟩ := mapFind_some hf
            simp only [Option.some.injEq, Prod.mk.injEq] at h
            obtain ⟨rfl, rfl⟩ := h
            refine ⟨if ok then .tuple #[zv, .bool false] else zv, g, w, ?_, ?_, s, Ext'.refl _ _⟩
            · simp [Instr.lookup, run_underlying ht, hget, run_checkKey hd hkd _ 9999, run_findKey hd hfn, hzr]
            · cases ok with
              | true => exact .tup _ _ (.cons _ _ _ _ (VR.av _ _ _) (.cons _ _ _ _ (.bool _) .nil))
              | false => exact VR.av _ _ _
          · cases h
        · cases h
      · cases h
  · cases h

theorem mapPut_sound {t kt et : TypeId} {x k y u : AV} {xv kv yv : Value} (s : Sim W g m w) (ht : P.underlying t = some (.map kt et)) (hx : VR g m.next x xv) (hk : VR g m.next k kv) (hy : VR g m.next y yv)
    (h : mapPut P kt x k y m = some (u, m')) : ∃ w', (Instr.mapUpdate t xv kv yv).run P w = .ok () w' ∧ Sim W g m' w' ∧ m'.next = m.next ∧ u = .undef := by
  unfold mapPut at h
  split at h
  · rename_i i kv' vv' hkv hvv
    obtain rfl := key_rel hk hkv
    obtain rfl := key_rel hy hvv
    cases hx with
    | mp _ hi =>
      split at h
      · rename_i es ck hg
        split at h
        · rename_i hb
          have hh := s.raw i _ hb hi hg
          have hget : (getObj (g.blk i)).run P w = .ok (.map es ck) w := run_getRaw hh (fun _ _ _ h => by cases h)
          split at h
          · rename_i j val hf
            obtain ⟨d, hd, hkd, hfn⟩ := mapFind_some hf
            split at h
            · rename_i hsb
              simp only [Option.some.injEq, Prod.mk.injEq] at h
              obtain ⟨rfl, rfl⟩ := h
              refine ⟨_, ?_, s.setRaw _ hb hi hg, rfl, rfl⟩
              simp only [Instr.mapUpdate, Sem.run_bind, run_underlying ht, Result.andThen_ok, hget, run_checkKey hd hkd false 9999, run_findKey hd hfn, Instr.keyThatStays, hsb, if_true, Sem.run_pure]
              exact run_setRaw _ hh (fun _ _ _ h => by cases h)
            · cases h
          · rename_i hf
            obtain ⟨d, hd, hkd, hfn⟩ := mapFind_some hf
            simp only [Option.some.injEq, Prod.mk.injEq] at h
            obtain ⟨rfl, rfl⟩ := h
            refine ⟨_, ?_, s.setRaw _ hb hi hg, rfl, rfl⟩
            simp only [Instr.mapUpdate, Sem.run_bind, run_underlying ht, Result.andThen_ok, hget, run_checkKey hd hkd false 9999, run_findKey hd hfn]
            exact run_setRaw _ hh (fun _ _ _ h => by cases h)
          · cases h
        · cases h
      · cases h
  · cases h

theorem rangeStr_sound {t : TypeId} {x v : AV} {xv : Value} (s : Sim W g m w) (ht : P.underlying t = some .string) (hx : VR g m.next x xv) (h : rangeStr x m = some (v, m')) : Made P W g m w (Instr.range t xv) v m' := by
  unfold rangeStr at h
  split at h
  · rename_i str
    cases hx
    simp only [Option.some.injEq, Prod.mk.injEq] at h
    obtain ⟨rfl, rfl⟩ := h
    refine ⟨.pointer (some ⟨w.heap.size, 0, none⟩), g.put m.next w.heap.size 0, w.alloc (.stringIter str 0), ?_, ?_, s.allocRaw _, g.put_ext _ _ _⟩
    · simp [Instr.range, run_underlying ht]
    · have : VR (g.put m.next w.heap.size 0) (m.next + 1) (.ptr m.next 0) (.pointer (some ⟨(g.put m.next w.heap.size 0).blk m.next, 0, none⟩)) := .ptr _ _ (Nat.lt_succ_self _)
      simpa [Gm.put] using this
  · cases h

theorem nextStr_sound (P : Program) {ty : TypeId} {x v : AV} {xv : Value} (s : Sim W g m w) (hx : VR g m.next x xv) (h : nextStr x m = some (v, m')) : Made P W g m w (Instr.next xv true ty) v m' := by
  unfold nextStr at h
  split at h
  · rename_i i o
    cases hx with
    | ptr _ _ hi =>
      split at h
      · rename_i str pos hg
        split at h
        · rename_i hb
          obtain ⟨hb, rfl⟩ := hb
          have hh := s.raw i _ hb hi hg
          have hget : (getObj (g.blk i)).run P w = .ok (.stringIter str pos) w := run_getRaw hh (fun _ _ _ h => by cases h)
          split at h
          · rename_i hp
            simp only [Option.some.injEq, Prod.mk.injEq] at h
            obtain ⟨rfl, rfl⟩ := h
            have hset : (setObj (g.blk i) (.stringIter str (pos + (Utf8.decode str pos).2))).run P w = .ok () { w with heap := w.heap.setIfInBounds (g.blk i) (.stringIter str (pos + (Utf8.decode str pos).2)) } := run_setRaw _ hh (fun _ _ _ h => by cases h)
            refine ⟨.tuple #[.bool true, goInt pos, .int .i32 (Utf8.decode str pos).1], g, _, ?_, .tup _ _ (.cons _ _ _ _ (.bool _) (.cons _ _ _ _ (.int _ _) (.cons _ _ _ _ (.int _ _) .nil))), s.setRaw _ hb hi hg, Ext'.refl _ _⟩
            simp [Instr.next, hget, hp, hset]
          · rename_i hp
            simp only [Option.some.injEq, Prod.mk.injEq] at h
            obtain ⟨rfl, rfl⟩ := h
            refine ⟨.tuple #[.bool false], g, w, ?_, .tup _ _ (.cons _ _ _ _ (.bool _) .nil), s, Ext'.refl _ _⟩
            simp [Instr.next, hget, hp]
        · cases h
      · cases h
  · cases h
end Go.Proofs.YtooogfnmhfocjaaGreatDoor.Spl
