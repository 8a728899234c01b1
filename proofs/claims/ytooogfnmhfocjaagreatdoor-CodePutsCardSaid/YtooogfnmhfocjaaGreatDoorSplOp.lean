/- The abstract machine, 8: an operation of a region. -/
import Derived.Test.YtooogfnmhfocjaaGreatDoorSplMapOp
namespace Go.Proofs.YtooogfnmhfocjaaGreatDoor.Spl
open Go Go.RowKit Go.Lib
set_option linter.unusedVariables false
set_option linter.unusedSimpArgs false

variable {P : Program} {W : Ref}

/-- What is told of calls. -/
def CallOk (P : Program) (W : Ref) (call : Nat → List AV → M AV) : Prop :=
  ∀ f args v m m1, call f args m = some (v, m1) → ∀ g w xs, Sim W g m w → VRs g m.next args xs →
    ((∃ fn, P.funcs[f]? = some fn ∧ fn.body.isSome = true ∧ fn.name ≠ "runtime.NumGoroutine") ∧ Calls P f xs.toArray w fun e w' => ∃ z g', e = .returned z ∧ VR g' m1.next v z ∧ Sim W g' m1 w' ∧ Ext' g m.next g' m1.next) ∨
    ∃ z g' w', (callFunc f xs.toArray).run P w = .ok (.value z) w' ∧ VR g' m1.next v z ∧ Sim W g' m1 w' ∧ Ext' g m.next g' m1.next

/-- The way on. -/
def Goes {ρ : Type} (W : Ref) (g : Gm) (m : Mem) (k : AV → M ρ) (r : ρ × Mem) (o : Oper) (a : Act) (next : Act → World → Prop) : Prop :=
  ∀ v z g' m' w', VR g' m'.next v z → Sim W g' m' w' → Ext' g m.next g' m'.next → k v m' = some r → next (a.put o.dst z) w'

variable {ρ : Type} {g : Gm} {m : Mem} {w : World} {k : AV → M ρ} {r : ρ × Mem} {o : Oper} {a : Act} {next : Act → World → Prop} {Q : Exit → Act → World → Prop}

theorem lp_some {α β : Type} {x : Option α} {k : α → M β} {m : Mem} {r : β × Mem} (h : lp x k m = some r) : ∃ v, x = some v ∧ k v m = some r := by
  unfold lp at h
  split at h
  · rename_i v; exact ⟨v, rfl, h⟩
  · cases h
theorem bnd_some {α β : Type} {x : M α} {k : α → M β} {m : Mem} {r : β × Mem} (h : bnd x k m = some r) : ∃ v m1, x m = some (v, m1) ∧ k v m1 = some r := by
  unfold bnd at h
  split at h
  · rename_i v m1 e; exact ⟨v, m1, e, h⟩
  · cases h

/-- An operation that comes to a value. -/
theorem val_wp {z : Value} {w' : World} (h : (execOp a.eval o).run P w = .ok (.value z) w') (hn : next (a.put o.dst z) w') : o.wp P a w next Q := by
  unfold Oper.wp; rw [h]; exact hn
theorem skip_wp {w' : World} (h : (execOp a.eval o).run P w = .ok .skip w') (hn : next (a.put o.dst Go.undef) w') : o.wp P a w next Q := by
  unfold Oper.wp; rw [h]; exact hn
theorem val_run {x : Sem Value} {z : Value} {w' : World} (h : x.run P w = .ok z w') : (do pure (Next.value (← x)) : Sem Next).run P w = .ok (.value z) w' := by
  simp [h]

theorem pure_wp (s : Sim W g m w) (hg : Goes W g m k r o a next) {x : Sem Value} (he : execOp a.eval o = (do pure (.value (← x)))) {v : AV} (hz : ∃ z, x.run P w = .ok z w ∧ VR g m.next v z) (hk : k v m = some r) : o.wp P a w next Q := by
  obtain ⟨z, h1, h2⟩ := hz
  exact val_wp (by rw [he]; exact val_run h1) (hg v z g m w h2 s (Ext'.refl _ _) hk)
theorem made_wp (hg : Goes W g m k r o a next) {x : Sem Value} (he : execOp a.eval o = (do pure (.value (← x)))) {v : AV} {m1 : Mem} (hz : Made P W g m w x v m1) (hk : k v m1 = some r) : o.wp P a w next Q := by
  obtain ⟨z, g', w', h1, h2, h3, h4⟩ := hz
  exact val_wp (by rw [he]; exact val_run h1) (hg v z g' m1 w' h2 h3 h4 hk)

theorem evs_rel {t : TM} (hρ : ∀ x, VR g m.next (t.ev x) (a.eval x)) (xs : List Operand) : VRs g m.next (t.evs xs) (xs.map a.eval) := VRs.ofFn _ _ hρ xs

theorem parts_rel {t : TM} (hρ : ∀ x, VR g m.next (t.ev x) (a.eval x)) (parts : Array (Nat × Operand)) :
    (parts.toList.map fun (i, x) => (i, t.ev x)).length = (parts.map fun (i, x) => (i, a.eval x)).size ∧
    ∀ (j : Nat) p q, (parts.toList.map fun (i, x) => (i, t.ev x))[j]? = some p → (parts.map fun (i, x) => (i, a.eval x)).toList[j]? = some q → p.1 = q.1 ∧ VR g m.next p.2 q.2 := by
  refine ⟨by simp, fun j p q h1 h2 => ?_⟩
  simp only [Array.toList_map, List.getElem?_map] at h1 h2
  cases hj : parts.toList[j]? with
  | none => rw [hj] at h1; cases h1
  | some e =>
    rw [hj] at h1 h2
    simp at h1 h2
    subst h1; subst h2
    exact ⟨rfl, hρ _⟩

theorem orel {t : TM} (hρ : ∀ x, VR g m.next (t.ev x) (a.eval x)) (x : Option Operand) : ORel g m.next (x.map t.ev) (x.map a.eval) := by
  cases x with
  | none => trivial
  | some x => exact hρ x

/-- A call. -/
theorem callee_wp {call : Nat → List AV → M AV} (hcall : CallOk P W call) (s : Sim W g m w) (hg : Goes W g m k r o a next) {t : TM} (hρ : ∀ x, VR g m.next (t.ev x) (a.eval x)) {f : Operand} {args : Array Operand} {ats : Array TypeId}
    (ho : o.op = .call { callee := .value f, args := args, argTypes := ats }) (h : callee call (t.ev f) (t.evs args.toList) k m = some r) : o.wp P a w next Q := by
  have hf := hρ f
  generalize t.ev f = fav at h hf
  unfold callee at h
  split at h
  · rename_i i first captured
    generalize hv : a.eval f = fv at hf
    cases hf with
    | func _ _ _ x y h1 h2 =>
      obtain ⟨v, m1, hc, hk⟩ := bnd_some h
      have hargs := (h1.append (evs_rel hρ args.toList)).append h2
      have hexec : execOp a.eval o = callFunc i (x ++ args.toList.map a.eval ++ y).toArray := by
        unfold execOp
        rw [ho]
        simp only [resolve, hv, Deferred.ofValue, pure_bind, invoke]
        congr 1
        apply Array.ext'
        simp
      rcases hcall _ _ _ _ _ hc g w _ s hargs with ⟨⟨fn, hfn, hb, hname⟩, hcalls⟩ | ⟨z, g', w', e0, e1, e2, e3⟩
      · have hrun : (execOp a.eval o).run P w = .ok (.enter i (x ++ args.toList.map a.eval ++ y).toArray) w := by
          have hb' : fn.body.isNone = false := by cases hbb : fn.body <;> simp_all
          rw [hexec]
          simp only [callFunc, Sem.run_bind, run_program, Result.andThen_ok, hfn]
          rw [if_neg (by simpa using hname), if_neg (by simp [hb'])]
          simp
        unfold Oper.wp
        rw [hrun, Oper.upon_enter]
        refine hcalls.mono fun e w' he => ?_
        obtain ⟨z, g', rfl, e1, e2, e3⟩ := he
        exact hg v z g' m1 w' e1 e2 e3 hk
      · exact val_wp (by rw [hexec]; exact e0) (hg v z g' m1 w' e1 e2 e3 hk)
  · cases h

/-- A built-in. -/
theorem builtin_wp (s : Sim W g m w) (hg : Goes W g m k r o a next) {t : TM} (hρ : ∀ x, VR g m.next (t.ev x) (a.eval x)) {b : Builtin} {args : Array Operand} {ats : Array TypeId}
    (ho : o.op = .call { callee := .builtin b, args := args, argTypes := ats }) (h : aBuiltin P b ats.toList o.type (t.evs args.toList) k m = some r) : o.wp P a w next Q := by
  have hx := evs_rel hρ args.toList
  have hexec : ∃ cs, execOp a.eval o = builtin b ats o.type cs (args.map a.eval) := by
    refine ⟨args.map fun | .const _ => true | _ => false, ?_⟩
    unfold execOp; rw [ho]; rfl
  obtain ⟨cs, hexec⟩ := hexec
  have ea : args.map a.eval = (args.toList.map a.eval).toArray := by apply Array.ext'; simp
  have et : ats = ats.toList.toArray := by simp
  generalize t.evs args.toList = avs at h hx
  generalize args.toList.map a.eval = xvs at hx ea
  generalize hts : ats.toList = ts at h et
  rw [ea, et] at hexec
  unfold aBuiltin at h
  split at h
  · -- len
    rename_i t0 x
    cases hx with
    | cons _ xv _ _ hx0 hx1 =>
      cases hx1
      generalize hu : P.underlying t0 = ud at h
      split at h
      · obtain ⟨v, hv, hk⟩ := lp_some h
        exact pure_wp s hg (x := Builtin.len_ #[t0] o.type #[xv]) hexec (aLenStr_sound w hu hx0 hv) hk
      · rename_i e
        obtain ⟨v, hv, hk⟩ := lp_some h
        exact pure_wp s hg (x := Builtin.len_ #[t0] o.type #[xv]) hexec (aLenS_sound w hu hx0 hv) hk
      · rename_i n e
        exact pure_wp s hg (x := Builtin.len_ #[t0] o.type #[xv]) hexec ⟨goInt n, by simp [Builtin.len_, run_underlying hu], .int _ _⟩ h
      · rename_i arr
        generalize hu' : P.underlying arr = ud' at h
        split at h
        · rename_i n e
          exact pure_wp s hg (x := Builtin.len_ #[t0] o.type #[xv]) hexec ⟨goInt n, by simp [Builtin.len_, run_underlying hu, run_underlying hu'], .int _ _⟩ h
        · cases h
      · cases h
  · -- min
    rename_i x xs
    cases hx with
    | cons _ xv _ xvs hx0 hx1 =>
      obtain ⟨v, hv, hk⟩ := lp_some h
      obtain ⟨z, hz, rz⟩ := aFold_sound (P := P) w (fun h1 h2 h3 => aMin2_sound (P := P) w h1 h2 h3) hx0 hx1 hv
      exact pure_wp s hg (x := Builtin.min_ ts.toArray o.type (xv :: xvs).toArray) hexec ⟨z, by simpa [Builtin.min_] using hz, rz⟩ hk
  · -- max
    rename_i x xs
    cases hx with
    | cons _ xv _ xvs hx0 hx1 =>
      obtain ⟨v, hv, hk⟩ := lp_some h
      obtain ⟨z, hz, rz⟩ := aFold_sound (P := P) w (fun h1 h2 h3 => aMax2_sound (P := P) w h1 h2 h3) hx0 hx1 hv
      exact pure_wp s hg (x := Builtin.max_ ts.toArray o.type (xv :: xvs).toArray) hexec ⟨z, by simpa [Builtin.max_] using hz, rz⟩ hk
  · -- append
    rename_i st xt sv x
    cases hx with
    | cons _ sval _ _ hx0 hx1 =>
      cases hx1 with
      | cons _ xval _ _ hx1 hx2 =>
        cases hx2
        generalize hu : P.underlying st = ud at h
        generalize hd : P.underlying xt = ud2 at h
        split at h
        · cases h
        · rename_i e d hnot
          generalize hn : size? P e = sn at h
          generalize hz : zeroCells? P e = sz at h
          split at h
          · rename_i n z
            split at h
            · rename_i hb
              obtain ⟨v, m1, hv, hk⟩ := bnd_some h
              exact made_wp hg (x := Builtin.append_ #[st, xt] o.type #[sval, xval]) hexec (append_sound s hu ⟨d, hd, fun kk e => by subst e; exact hnot _ rfl⟩ hn hz hb.1 hb.2.1 rfl hb.2.2 hx0 hx1 hv) hk
            · cases h
          · cases h
        · cases h
  · -- copy
    rename_i dt ts' d x
    cases hx with
    | cons _ dv _ _ hx0 hx1 =>
      cases hx1 with
      | cons _ xv _ _ hx1 hx2 =>
        cases hx2
        generalize hu : P.underlying dt = ud at h
        split at h
        · rename_i e
          generalize hn : size? P e = sn at h
          split at h
          · rename_i n
            obtain ⟨v, m1, hv, hk⟩ := bnd_some h
            have := copy_sound (P := P) (xt := 0) (ty := o.type) s hu hn hx0 hx1 hv
            obtain ⟨z, g', w', e1, e2, e3, e4⟩ := this
            refine made_wp hg (x := Builtin.copy_ (dt :: ts').toArray o.type #[dv, xv]) hexec ⟨z, g', w', ?_, e2, e3, e4⟩ hk
            rw [← e1]
            simp [Builtin.copy_]
          · cases h
        · cases h
  · -- unsafe.SliceData
    rename_i x
    cases hx with
    | cons _ xv _ _ hx0 hx1 =>
      cases hx1
      generalize hu : P.underlying o.type = ud at h
      split at h
      · rename_i e
        obtain ⟨v, m1, hv, hk⟩ := bnd_some h
        exact made_wp hg (x := Builtin.unsafeSliceData_ _ o.type #[xv]) hexec (sliceData_sound s hu hx0 hv) hk
      · cases h
  · -- unsafe.String
    rename_i pt it p n
    cases hx with
    | cons _ pv _ _ hx0 hx1 =>
      cases hx1 with
      | cons _ nv _ _ hx1 hx2 =>
        cases hx2
        generalize hu : P.underlying pt = ud at h
        split at h
        · rename_i e
          split at h
          · rename_i hs
            obtain ⟨v, m1, hv, hk⟩ := bnd_some h
            exact made_wp hg (x := Builtin.unsafeString_ #[pt, it] o.type #[pv, nv]) hexec (unsafeStr_sound s hu hs hx0 hx1 hv) hk
          · cases h
        · cases h
  · cases h

/-- A conversion. -/
theorem conv_wp (s : Sim W g m w) (hg : Goes W g m k r o a next) {src dst : TypeId} {x : AV} {xo : Operand} (hx : VR g m.next x (a.eval xo)) (ho : o.op = .convert src dst xo) (h : aConv P src dst x k m = some r) : o.wp P a w next Q := by
  have hexec : execOp a.eval o = (do pure (.value (← convert src dst (a.eval xo)))) := by unfold execOp; rw [ho]
  generalize a.eval xo = xv at hx hexec
  unfold aConv at h
  generalize hs : P.underlying src = us at h
  generalize hd : P.underlying dst = ud at h
  split at h
  · rename_i u
    split at h
    · rename_i hu
      obtain ⟨v, m1, hv, hk⟩ := bnd_some h
      exact made_wp hg hexec (fromUnsafe_sound s hs hd hu hx hv) hk
    · cases h
  · rename_i t
    split at h
    · cases h
    · rename_i hu
      obtain ⟨v, m1, hv, hk⟩ := bnd_some h
      exact made_wp hg hexec (toUnsafe_sound s hs hd hu hx hv) hk
  · cases h
  · cases h
  · rename_i d kd hn1 hn2
    obtain ⟨v, hv, hk⟩ := lp_some h
    refine pure_wp s hg hexec ?_ hk
    unfold aInt at hv
    split at hv
    · cases hx; cases hv
      exact ⟨_, by simp [convert, run_underlying hs, run_underlying hd, Conv.intToInt] <;> rfl, .int _ _⟩
    · cases hv
  · rename_i e
    generalize he : P.underlying e = ue at h
    split at h
    · split at h
      · obtain ⟨v, m1, hv, hk⟩ := bnd_some h
        exact made_wp hg hexec (toBytes_sound s hs hd he hx hv) hk
      · cases h
    · cases h
  · obtain ⟨v, hv, hk⟩ := lp_some h
    refine pure_wp s hg hexec ?_ hk
    unfold aStr at hv
    split at hv
    · cases hx; cases hv
      exact ⟨_, by simp [convert, run_underlying hs, run_underlying hd] <;> rfl, .str _⟩
    · cases hv
  · rename_i e
    generalize he : P.underlying e = ue at h
    split at h
    · obtain ⟨v, m1, hv, hk⟩ := bnd_some h
      exact made_wp hg hexec (ofBytes_sound s hs hd he hx hv) hk
    · cases h
  · cases h

/-- An operation of a region goes as the abstract machine's. -/
theorem aop_sound {call : Nat → List AV → M AV} (hcall : CallOk P W call) (s : Sim W g m w) (hg : Goes W g m k r o a next) {t : TM} (hρ : ∀ x, VR g m.next (t.ev x) (a.eval x)) (h : aop P call o t k m = some r) : o.wp P a w next Q := by
  unfold aop at h
  generalize hop : o.op = op at h
  split at h
  · exact pure_wp s hg (x := pure (a.eval _)) (by unfold execOp; rw [hop]; rfl) ⟨_, rfl, hρ _⟩ h
  · exact pure_wp s hg (x := pure (a.eval _)) (by unfold execOp; rw [hop]; rfl) ⟨_, rfl, hρ _⟩ h
  · -- pick
    rename_i c x y
    obtain ⟨v, hv, hk⟩ := lp_some h
    obtain ⟨z, hz, rz⟩ := aPick_sound (P := P) w (hρ c) (hρ x) (hρ y) hv
    exact val_wp (by unfold execOp; rw [hop]; exact hz) (hg v z g m w rz s (Ext'.refl _ _) hk)
  · -- alloc
    rename_i e
    generalize hz : zeroCells? P e = sz at h
    split at h
    · obtain ⟨v, m1, hv, hk⟩ := bnd_some h
      exact made_wp hg (by unfold execOp; rw [hop]) (alloc_sound s hz hv) hk
    · cases h
  · -- box
    obtain ⟨v, m1, hv, hk⟩ := bnd_some h
    exact made_wp hg (by unfold execOp; rw [hop]) (box_sound s (hρ _) hv) hk
  · -- build
    rename_i ty parts
    obtain ⟨v, hv, hk⟩ := lp_some h
    have hp := parts_rel hρ parts
    exact pure_wp s hg (by unfold execOp; rw [hop]) (build_sound w hp.1 hp.2 hv) hk
  · -- buildSlice
    rename_i ty len parts
    generalize hu : P.underlying ty = ud at h
    split at h
    · rename_i e
      generalize hn : size? P e = sn at h
      generalize hz : zeroCells? P e = sz at h
      split at h
      · rename_i n z
        split at h
        · rename_i hb
          obtain ⟨cs, hcs, h⟩ := lp_some h
          obtain ⟨v, m1, hv, hk⟩ := bnd_some h
          have hp := parts_rel hρ parts
          exact made_wp hg (by unfold execOp; rw [hop]) (buildSlice_sound s hu hn hz hb.1 hb.2 hp.1 hp.2 hcs hv) hk
        · cases h
      · cases h
    · cases h
  · -- load
    rename_i ty x
    generalize hs : shape? P ty = sh at h
    split at h
    · obtain ⟨v, m1, hv, hk⟩ := bnd_some h
      unfold load at hv
      obtain ⟨u, hu, hq⟩ := Option.map_eq_some_iff.1 hv
      cases hq
      exact pure_wp s hg (by unfold execOp; rw [hop]) (load_sound s hs (hρ _) hu) hk
    · cases h
  · -- store
    rename_i ty x y
    generalize hs : shape? P ty = sh at h
    split at h
    · obtain ⟨v, m1, hv, hk⟩ := bnd_some h
      obtain ⟨w', h1, h2, h3, rfl⟩ := store_sound (P := P) s hs (hρ x) (hρ y) hv
      exact skip_wp (by unfold execOp; rw [hop]; simp [h1]) (hg .undef Go.undef g m1 w' (.undef _) h2 (by rw [h3]; exact Ext'.refl _ _) hk)
    · cases h
  · -- nilCheck
    rename_i x
    obtain ⟨v, hv, hk⟩ := lp_some h
    have hx := hρ x
    unfold aNil at hv
    split at hv
    · rename_i heq
      cases hv
      rw [heq] at hx
      generalize hxe : a.eval x = xv at hx
      cases hx with
      | ptr i o hi => exact val_wp (by unfold execOp; rw [hop]; simp only [hxe]; rfl) (hg _ _ g m w (.ptr _ _ hi) s (Ext'.refl _ _) hk)
    · rename_i heq
      cases hv
      rw [heq] at hx
      generalize hxe : a.eval x = xv at hx
      cases hx with
      | func _ _ _ x y h1 h2 => exact val_wp (by unfold execOp; rw [hop]; simp only [hxe]; rfl) (hg _ _ g m w (.func _ _ _ _ _ h1 h2) s (Ext'.refl _ _) hk)
    · cases hv
  · -- binOp
    rename_i op' ty x y yt
    obtain ⟨v, hv, hk⟩ := lp_some h
    exact pure_wp s hg (x := do eqGuard op' ty x y (a.eval x) (a.eval y); binOp op' ty (a.eval x) (a.eval y)) (by unfold execOp; rw [hop]) (aBin_sound w (hρ x) (hρ y) hv x y) hk
  · -- unOp
    obtain ⟨v, hv, hk⟩ := lp_some h
    exact pure_wp s hg (by unfold execOp; rw [hop]) (aUn_sound w (hρ _) hv) hk
  · exact conv_wp s hg (hρ _) hop h
  · -- makeFunc
    rename_i fn first captured
    have h1 := evs_rel hρ first.toList
    have h2 := evs_rel hρ captured.toList
    refine pure_wp s hg (x := Instr.makeFunc fn (first.map a.eval) (captured.map a.eval)) (by unfold execOp; rw [hop]) ⟨_, rfl, ?_⟩ h
    have e1 : first.map a.eval = (first.toList.map a.eval).toArray := by apply Array.ext'; simp
    have e2 : captured.map a.eval = (captured.toList.map a.eval).toArray := by apply Array.ext'; simp
    rw [e1, e2]
    exact .func _ _ _ _ _ h1 h2
  · -- makeSlice
    rename_i ty l c
    generalize hu : P.underlying ty = ud at h
    split at h
    · rename_i e
      generalize hn : size? P e = sn at h
      generalize hz : zeroCells? P e = sz at h
      split at h
      · split at h
        · rename_i hb
          obtain ⟨v, m1, hv, hk⟩ := bnd_some h
          exact made_wp hg (by unfold execOp; rw [hop]) (mkSlice_sound s hu hn hz rfl hb (hρ l) (hρ c) hv) hk
        · cases h
      · cases h
    · cases h
  · -- slice
    rename_i ty x lo hi
    generalize hu : P.underlying ty = ud at h
    split at h
    · obtain ⟨v, hv, hk⟩ := lp_some h
      exact pure_wp s hg (x := Instr.sliceAt ty (a.eval x) (lo.map a.eval) (hi.map a.eval) none) (by unfold execOp; rw [hop]; rfl) (aSliceStr_sound w hu (hρ x) (orel hρ lo) (orel hρ hi) hv) hk
    · rename_i e
      generalize hn : size? P e = sn at h
      split at h
      · obtain ⟨v, hv, hk⟩ := lp_some h
        exact pure_wp s hg (x := Instr.sliceAt ty (a.eval x) (lo.map a.eval) (hi.map a.eval) none) (by unfold execOp; rw [hop]; rfl) (aSlice_sound w hu hn (hρ x) (orel hρ lo) (orel hρ hi) hv) hk
      · cases h
    · rename_i n e
      generalize hn : size? P e = sn at h
      split at h
      · obtain ⟨v, hv, hk⟩ := lp_some h
        exact pure_wp s hg (x := Instr.sliceAt ty (a.eval x) (lo.map a.eval) (hi.map a.eval) none) (by unfold execOp; rw [hop]; rfl) (aSliceA_sound w hu hn (hρ x) (orel hρ lo) (orel hρ hi) hv) hk
      · cases h
    · cases h
  · -- fieldAddr
    rename_i st x f
    generalize hf : fieldOf P st f = of at h
    split at h
    · rename_i fd
      split at h
      · cases h
      · rename_i hs0
        obtain ⟨v, hv, hk⟩ := lp_some h
        obtain ⟨z, hz, rz⟩ := aOff_sound (P := P) w (f := fd) (hρ x) hv hs0
        refine pure_wp s hg (x := Instr.fieldAt st (a.eval x) f) (by unfold execOp; rw [hop]) ⟨z, ?_, rz⟩ hk
        unfold fieldOf at hf
        split at hf
        · rename_i fs hu
          simp only [Instr.fieldAt, Sem.run_bind, run_underlying hu, Result.andThen_ok, hf]
          simpa using hz
        · cases hf
    · cases h
  · -- field
    rename_i st x f
    generalize hf : fieldOf P st f = of at h
    split at h
    · rename_i fd
      generalize hs : shape? P fd.type = sh at h
      split at h
      · obtain ⟨v, hv, hk⟩ := lp_some h
        exact pure_wp s hg (by unfold execOp; rw [hop]) (aFld_sound w hf hs (hρ x) hv) hk
      · cases h
    · cases h
  · -- indexAddr
    rename_i ty x ix
    generalize hu : P.underlying ty = ud at h
    split at h
    · rename_i e
      generalize hn : size? P e = sn at h
      split at h
      · obtain ⟨v, hv, hk⟩ := lp_some h
        exact pure_wp s hg (by unfold execOp; rw [hop]) (aIdxS_sound w hu hn (hρ x) (hρ ix) hv) hk
      · cases h
    · rename_i len e
      generalize hn : size? P e = sn at h
      split at h
      · obtain ⟨v, hv, hk⟩ := lp_some h
        exact pure_wp s hg (by unfold execOp; rw [hop]) (aIdxA_sound w hu hn (hρ x) (hρ ix) hv) hk
      · cases h
    · cases h
  · -- index
    rename_i ty x ix
    generalize hu : P.underlying ty = ud at h
    split at h
    · obtain ⟨v, hv, hk⟩ := lp_some h
      exact pure_wp s hg (by unfold execOp; rw [hop]) (aIdxStr_sound w hu (hρ x) (hρ ix) hv) hk
    · rename_i len e
      generalize hn : size? P e = sn at h
      generalize hs : shape? P e = sh at h
      split at h
      · obtain ⟨v, hv, hk⟩ := lp_some h
        exact pure_wp s hg (by unfold execOp; rw [hop]) (aIdxV_sound w hu hn hs (hρ x) (hρ ix) hv) hk
      · cases h
    · cases h
  · -- extract
    obtain ⟨v, hv, hk⟩ := lp_some h
    exact pure_wp s hg (by unfold execOp; rw [hop]) (aExt_sound w (hρ _) hv) hk
  · -- makeMap
    obtain ⟨v, m1, hv, hk⟩ := bnd_some h
    exact made_wp hg (by unfold execOp; rw [hop]; rfl) (newMap_sound P s hv) hk
  · -- lookup
    rename_i ty x ix ok
    generalize hu : P.underlying ty = ud at h
    split at h
    · rename_i kt et
      generalize hz : (P.info? et).bind (·.zero) = oz at h
      split at h
      · obtain ⟨v, m1, hv, hk⟩ := bnd_some h
        exact made_wp hg (by unfold execOp; rw [hop]) (mapGet_sound s hu hz (hρ x) (hρ ix) hv) hk
      · cases h
    · cases h
  · -- mapUpdate
    rename_i ty x ix y
    generalize hu : P.underlying ty = ud at h
    split at h
    · obtain ⟨v, m1, hv, hk⟩ := bnd_some h
      obtain ⟨w', h1, h2, h3, rfl⟩ := mapPut_sound (P := P) s hu (hρ x) (hρ ix) (hρ y) hv
      exact skip_wp (by unfold execOp; rw [hop]; simp [h1]) (hg .undef Go.undef g m1 w' (.undef _) h2 (by rw [h3]; exact Ext'.refl _ _) hk)
    · cases h
  · -- insert
    rename_i ty x ix y
    generalize hu : P.underlying ty = ud at h
    split at h
    · obtain ⟨v, m1, hv, hk⟩ := bnd_some h
      obtain ⟨w', h1, h2, h3, rfl⟩ := mapPut_sound (P := P) s hu (hρ x) (hρ ix) (hρ y) hv
      exact skip_wp (by unfold execOp; rw [hop]; simp [h1]) (hg .undef Go.undef g m1 w' (.undef _) h2 (by rw [h3]; exact Ext'.refl _ _) hk)
    · cases h
  · -- range
    rename_i ty x
    generalize hu : P.underlying ty = ud at h
    split at h
    · obtain ⟨v, m1, hv, hk⟩ := bnd_some h
      exact made_wp hg (by unfold execOp; rw [hop]) (rangeStr_sound s hu (hρ x) hv) hk
    · cases h
  · -- next
    obtain ⟨v, m1, hv, hk⟩ := bnd_some h
    exact made_wp hg (by unfold execOp; rw [hop]) (nextStr_sound P s (hρ _) hv) hk
  · exact callee_wp hcall s hg hρ hop h
  · exact builtin_wp s hg hρ hop h
  · cases h

end Go.Proofs.YtooogfnmhfocjaaGreatDoor.Spl
