/- The abstract machine, 12: code and calls. -/
import Derived.Test.YtooogfnmhfocjaaGreatDoorSplDraw2
namespace Go.Proofs.YtooogfnmhfocjaaGreatDoor.Spl
open Go Go.RowKit Go.Lib
set_option linter.unusedVariables false
set_option linter.unusedSimpArgs false

variable {P : Program} {W : Ref} {nt : Nat}

theorem wp_loopN {c : Code} {Q : Exit → Act → World → Prop} (I : Nat → Act → World → Prop) (h0 : ∀ a w, ¬ I 0 a w) (round : ∀ n a w, I (n + 1) a w → c.wp P (Exit.then (I n) Q) a w) (n : Nat) (a : Act) (w : World) (h : I n a w) : (Code.loop c).wp P Q a w := by
  intro b k cs
  have key : ∀ n a w, I n a w → ∃ e a' w', Q e a' w' ∧ Arrives P (lone (b.at a (.code c :: .inLoop c :: k)) cs w) b k cs e a' w' := by
    intro n
    induction n with
    | zero => intro a w h; exact absurd h (h0 a w)
    | succ n ih =>
      intro a w hI
      obtain ⟨e, a₁, w₁, hq, harr⟩ := round n a w hI b (.inLoop c :: k) cs
      cases e with
      | normal =>
        obtain ⟨e₂, a₂, w₂, hq₂, harr₂⟩ := ih a₁ w₁ hq
        exact ⟨e₂, a₂, w₂, hq₂, .of_steps (Steps.trans harr (.one step_inLoop)) harr₂⟩
      | exit id => exact ⟨_, a₁, w₁, hq, .pass (x := .inLoop c) rfl (fun _ _ => .inl (by simp)) harr⟩
      | goto l => exact ⟨_, a₁, w₁, hq, .pass (x := .inLoop c) rfl (fun _ _ => .inl (by simp)) harr⟩
      | ret => exact ⟨_, a₁, w₁, hq, .pass (x := .inLoop c) rfl (fun _ _ => .inl (by simp)) harr⟩
      | panic ch => exact ⟨_, a₁, w₁, hq, .pass (x := .inLoop c) rfl (fun _ _ => .inl (by simp)) harr⟩
      | outgrown => exact ⟨_, a₁, w₁, hq, .pass (x := .inLoop c) rfl (fun _ _ => .inl (by simp)) harr⟩
  obtain ⟨e, a', w', hq, harr⟩ := key n a w h
  exact ⟨e, a', w', hq, .of_steps (.one step_loop) harr⟩

/-- The way on behind each exit. -/
def ThenE {ρ : Type} (W : Ref) (nt : Nat) (g : Gm) (m : Mem) (K : Kont ρ) (r : ρ × Mem) (Q : Exit → Act → World → Prop) : Prop :=
  ∀ e g' m' t' a' w', St W nt g' m' t' a' w' → Ext' g m.next g' m'.next → K e t' m' = some r → Q e a' w'
theorem ThenE.ext {ρ : Type} {g : Gm} {m : Mem} {K : Kont ρ} {r : ρ × Mem} {Q : Exit → Act → World → Prop} (h : ThenE W nt g m K r Q) {g' : Gm} {m' : Mem} (e : Ext' g m.next g' m'.next) : ThenE W nt g' m' K r Q :=
  fun x g'' m'' t' a' w' s e' hk => h x g'' m'' t' a' w' s (e.trans e') hk

theorem execK_sound {ρ : Type} {call : Nat → List AV → M AV} (hm : P.follows .mixedOrders = true) (hcall : ∀ W, CallOk P W call) (n R : Nat) {r : ρ × Mem} : ∀ (c : Code) (ls : List (Nat × Nat)) (L : Nat) (K : Kont ρ) (Q : Exit → Act → World → Prop) {g : Gm} {m : Mem} {t : TM} {a : Act} {w : World},
    St W nt g m t a w → ThenE W nt g m K r Q → execK P call n nt R c ls L K t m = some r → c.wp P Q a w := by
  intro c
  induction c with
  | skip =>
    intro ls L K Q g m t a w s hK h
    exact wp_skip (hK .normal g m t a w s (Ext'.refl _ _) h)
  | label l =>
    intro ls L K Q g m t a w s hK h
    exact wp_label (hK .normal g m t a w s (Ext'.refl _ _) h)
  | region id ops draw =>
    intro ls L K Q g m t a w s hK h
    have hT : Then W nt g m (K .normal) r (Q .normal) := fun g' m' t' a' w' s' e' hk => hK .normal g' m' t' a' w' s' e' hk
    unfold execK at h
    cases draw with
    | true =>
      simp only [if_true] at h
      split at h
      · rename_i hok
        exact runDraw_sound hm hcall s hok hT h
      · cases h
    | false =>
      simp only [Bool.false_eq_true, if_false] at h
      have := runOps_sound (ops := ops) (hcall W) (Q := Q) ops.toList 0 (by simp) s hT h
      refine wp_region ?_
      rw [List.range_eq_range']
      simpa using this
  | seq x y ihx ihy =>
    intro ls L K Q g m t a w s hK h
    have main : ∀ (ls' : List (Nat × Nat)) (L' M : Nat) (mk : TM → TM), (∀ t' g' m' a' w', St W nt g' m' t' a' w' → St W nt g' m' (mk t') a' w') →
        execK P call n nt R x ls' L' (fun e t' => match e with | .normal => execK P call n nt R y ls L K (mk t') | e => K e t') t m = some r → (Code.seq x y).wp P Q a w := by
      intro ls' L' M mk hmk h
      refine wp_seq (ihx ls' L' _ _ s ?_ h)
      intro e g' m' t' a' w' s' e' hk
      cases e with
      | normal => exact ihy ls L K Q (hmk _ _ _ _ _ s') (hK.ext e') hk
      | exit id => exact hK _ g' m' t' a' w' s' e' hk
      | goto l => exact hK _ g' m' t' a' w' s' e' hk
      | ret => exact hK _ g' m' t' a' w' s' e' hk
      | panic ch => exact hK _ g' m' t' a' w' s' e' hk
      | outgrown => exact hK _ g' m' t' a' w' s' e' hk
    cases x with
    | region id ops draw => exact main ls 0 0 (fun x => x) (fun _ _ _ _ _ s => s) (by unfold execK at h; exact h)
    | _ => exact main ls _ 0 (mask (liveIn R y ls L)) (fun _ _ _ _ _ s => s.mask _) (by unfold execK at h; exact h)
  | cond c x y ihx ihy =>
    intro ls L K Q g m t a w s hK h
    unfold execK at h
    obtain ⟨b, hb, hk⟩ := mc_some h
    have hc := s.ev c
    rw [hb] at hc
    generalize hv : a.eval c = v at hc
    cases hc
    cases b with
    | true => exact wp_cond_true hv (ihx ls L K Q s hK (by simpa using hk))
    | false => exact wp_cond_false hv (ihy ls L K Q s hK (by simpa using hk))
  | block id c ih =>
    intro ls L K Q g m t a w s hK h
    unfold execK at h
    refine wp_block (ih _ _ _ _ s ?_ h)
    intro e g' m' t' a' w' s' e' hk
    cases e with
    | exit j =>
      simp only [Exit.inBlock] at hk ⊢
      split at hk
      · rename_i hj; rw [if_pos hj]; exact hK .normal g' m' t' a' w' s' e' hk
      · rename_i hj; rw [if_neg hj]; exact hK (.exit j) g' m' t' a' w' s' e' hk
    | normal => exact hK _ g' m' t' a' w' s' e' hk
    | goto l => exact hK _ g' m' t' a' w' s' e' hk
    | ret => exact hK _ g' m' t' a' w' s' e' hk
    | panic ch => exact hK _ g' m' t' a' w' s' e' hk
    | outgrown => exact hK _ g' m' t' a' w' s' e' hk
  | loop c ih =>
    intro ls L K Q g m t a w s hK h
    unfold execK at h
    let step : (List AV → M ρ) → List AV → M ρ := fun rec l => execK P call n nt R c ls (liveIn R c ls 0) (fun e t' => match e with | .normal => rec (pack (liveIn R c ls 0) nt 0 t') | e => K e t') (unpack (liveIn R c ls 0) nt 0 0 l)
    refine wp_loopN (fun k a' w' => ∃ g' m' t', St W nt g' m' t' a' w' ∧ Ext' g m.next g' m'.next ∧ loopN step k (pack (liveIn R c ls 0) nt 0 t') m' = some r) ?_ ?_ n a w ⟨g, m, t, s, Ext'.refl _ _, h⟩
    · rintro a' w' ⟨g', m', t', _, _, h'⟩
      simp [loopN, fail] at h'
    · rintro k a' w' ⟨g', m', t', s', e', h'⟩
      have h'' : step (loopN step k) (pack (liveIn R c ls 0) nt 0 t') m' = some r := h'
      refine ih ls (liveIn R c ls 0) _ _ (s'.repack (liveIn R c ls 0)) ?_ h''
      intro e g'' m'' t'' a'' w'' s'' e'' hk
      cases e with
      | normal => exact ⟨g'', m'', t'', s'', e'.trans e'', hk⟩
      | exit id => exact hK _ g'' m'' t'' a'' w'' s'' (e'.trans e'') hk
      | goto l => exact hK _ g'' m'' t'' a'' w'' s'' (e'.trans e'') hk
      | ret => exact hK _ g'' m'' t'' a'' w'' s'' (e'.trans e'') hk
      | panic ch => exact hK _ g'' m'' t'' a'' w'' s'' (e'.trans e'') hk
      | outgrown => exact hK _ g'' m'' t'' a'' w'' s'' (e'.trans e'') hk
  | exit id =>
    intro ls L K Q g m t a w s hK h
    exact wp_exit (hK (.exit id) g m t a w s (Ext'.refl _ _) h)
  | ret =>
    intro ls L K Q g m t a w s hK h
    exact wp_ret (hK .ret g m t a w s (Ext'.refl _ _) h)
  | rangeFunc f ps x y _ _ => intro ls L K Q g m t a w s hK h; simp [execK, fail] at h
  | scope c _ => intro ls L K Q g m t a w s hK h; simp [execK, fail] at h
  | goto l => intro ls L K Q g m t a w s hK h; simp [execK, fail] at h
  | refuse y => intro ls L K Q g m t a w s hK h; simp [execK, fail] at h

/-! results -/

def resSem (tmps : Array Value) (v : ResultVar) : Sem Value :=
  match v with
  | .tmp t => pure (tmps.getD t Go.undef)
  | .cell a t => do loadVar t (← asAddr (tmps.getD a Go.undef))
theorem results_eq (fn : Func) (tmps : Array Value) : results fn tmps = (do let vs ← fn.results.mapM (resSem tmps); pure (if h : vs.size = 1 then vs[0] else .tuple vs)) := by
  unfold results
  congr 1

theorem resultsK_sound {fnr : List ResultVar} : ∀ (rs : List ResultVar) {k : List AV → M AV} {r : AV × Mem} {g : Gm} {m : Mem} {t : TM} {a : Act} {w : World}, St W nt g m t a w → resultsK P t rs k m = some r →
    ∃ vs xs, (rs.mapM (resSem a.tmps)).run P w = .ok xs w ∧ VRs g m.next vs xs ∧ k vs m = some r
  | [], k, r, g, m, t, a, w, s, h => ⟨[], [], by simp, .nil, h⟩
  | .tmp i :: rs, k, r, g, m, t, a, w, s, h => by
    simp only [resultsK] at h
    obtain ⟨vs, xs, h1, h2, h3⟩ := resultsK_sound (fnr := fnr) rs s h
    exact ⟨_, _ :: xs, by simp only [List.mapM_cons, Sem.run_bind, h1, resSem, Sem.run_pure, Result.andThen_ok], .cons _ _ _ _ (s.tm i) h2, h3⟩
  | .cell i ty :: rs, k, r, g, m, t, a, w, s, h => by
    simp only [resultsK] at h
    generalize hsh : shape? P ty = osh at h
    split at h
    · rename_i sh
      obtain ⟨v, m1, hv, hk⟩ := bnd_some h
      unfold load at hv
      obtain ⟨u, hu, hq⟩ := Option.map_eq_some_iff.1 hv
      cases hq
      obtain ⟨z, hz, rz⟩ := load_sound (P := P) s.sim hsh (s.tm i) hu
      obtain ⟨vs, xs, h1, h2, h3⟩ := resultsK_sound (fnr := fnr) rs s hk
      refine ⟨_, z :: xs, ?_, .cons _ _ _ _ rz h2, h3⟩
      have hz' : (resSem a.tmps (.cell i ty)).run P w = .ok z w := by
        unfold resSem
        have hi := s.tm i
        unfold load? at hu
        split at hu
        · rename_i j o heq
          rw [heq] at hi
          simp only
          generalize a.tmps.getD i Go.undef = q at hi hz ⊢
          cases hi
          simpa [Instr.loadAt, Instr.sureAddr, asAddr] using hz
        · cases hu
      simp only [List.mapM_cons, Sem.run_bind, hz', h1, Result.andThen_ok, Sem.run_pure]
    · cases h

theorem results_sound {fn : Func} {r : AV × Mem} {g : Gm} {m : Mem} {t : TM} {a : Act} {w : World} (s : St W nt g m t a w) (h : resultsK P t fn.results.toList (fun vs => ret (tuple vs)) m = some r) :
    ∃ z, (results fn a.tmps).run P w = .ok z w ∧ VR g m.next r.1 z ∧ r.2 = m := by
  obtain ⟨vs, xs, h1, h2, h3⟩ := resultsK_sound (fnr := []) _ s h
  simp [ret] at h3
  subst h3
  have hmap : (fn.results.mapM (resSem a.tmps)).run P w = .ok xs.toArray w := by
    rw [Array.mapM_eq_mapM_toList]
    simp only [Sem.run_map, h1, Result.andThen_ok]
  refine ⟨if h : xs.toArray.size = 1 then xs.toArray[0] else .tuple xs.toArray, ?_, ?_, rfl⟩
  · rw [results_eq]
    simp only [Sem.run_bind]
    rw [hmap]
    rfl
  · cases h2 with
    | nil => exact .tup [] [] .nil
    | cons v x vs xs hv ht =>
      cases ht with
      | nil => simpa [tuple] using hv
      | cons v' x' vs' xs' hv' ht' =>
        have : VR g m.next (.tup (v :: v' :: vs')) (.tuple (x :: x' :: xs').toArray) := .tup _ _ (.cons _ _ _ _ hv (.cons _ _ _ _ hv' ht'))
        simpa [tuple] using this

/-! calls -/

/-- What is told of the functions that are not run here. -/
def ExtOk (P : Program) (W : Ref) (ext : Ext) : Prop :=
  ∀ f k, ext f = some k → ∀ args v m m1, k args m = some (v, m1) → ∀ g w xs, Sim W g m w → VRs g m.next args xs →
    ((∃ fn, P.funcs[f]? = some fn ∧ fn.body.isSome = true) ∧ Calls P f xs.toArray w fun e w' => ∃ z g', e = .returned z ∧ VR g' m1.next v z ∧ Sim W g' m1 w' ∧ Ext' g m.next g' m1.next) ∨
    ∃ z g' w', (callFunc f xs.toArray).run P w = .ok (.value z) w' ∧ VR g' m1.next v z ∧ Sim W g' m1 w' ∧ Ext' g m.next g' m1.next

theorem fcall_ok {ext : Ext} (hm : P.follows .mixedOrders = true) (hn : ∀ (f : Nat) (fn : Func), P.funcs[f]? = some fn → fn.name ≠ "runtime.NumGoroutine") (hext : ∀ W, ExtOk P W ext) : ∀ (n : Nat) (W : Ref), CallOk P W (fcall P ext n) := by
  intro n
  induction n with
  | zero => intro W f args v m m1 h; simp [fcall, fail] at h
  | succ n ih =>
    intro W f args v m m1 h g w xs s hx
    unfold fcall at h
    generalize he : ext f = oe at h
    cases oe with
    | some k =>
      rcases hext W f k he args v m m1 h g w xs s hx with ⟨⟨fn, h1, h2⟩, h3⟩ | h3
      · exact .inl ⟨⟨fn, h1, h2, hn f fn h1⟩, h3⟩
      · exact .inr h3
    | none =>
      simp only at h
      generalize hf : P.funcs[f]? = ofn at h
      cases ofn with
      | none => cases h
      | some fn =>
        simp only at h
        unfold bodyK at h
        generalize hb : fn.body = ob at h
        cases ob with
        | none => cases h
        | some c =>
          refine .inl ⟨⟨fn, rfl, by simp [hb], hn f fn hf⟩, ?_⟩
          refine calls_of_wp hf hb ?_
          have hl := hx.length
          have st : St W fn.ntmps g m (args ++ List.replicate (fn.ntmps - args.length) .undef) { tmps := xs.toArray ++ Array.replicate (fn.ntmps - xs.toArray.size) Go.undef, defers := [] } w := by
            refine ⟨s, fun i => ?_, by simp [hl], by simp; omega, rfl⟩
            by_cases hi : i < args.length
            · obtain ⟨y, hy, ry⟩ := hx.get i (v := args[i]) (by simp)
              have h1 : i < xs.length := by omega
              rw [List.getElem?_eq_getElem h1] at hy; cases hy
              have e1 : (args ++ List.replicate (fn.ntmps - args.length) AV.undef).getD i .undef = args[i] := by
                simp [List.getD_eq_getElem?_getD, List.getElem?_append, hi]
              have e2 : (xs.toArray ++ Array.replicate (fn.ntmps - xs.toArray.size) Go.undef).getD i Go.undef = xs[i] := by
                simp [Array.getD_eq_getD_getElem?, Array.getElem?_append, h1]
              rw [e1, e2]
              exact ry
            · have : (args ++ List.replicate (fn.ntmps - args.length) AV.undef).getD i .undef = .undef := by
                simp only [List.getD_eq_getElem?_getD, List.getElem?_append, hi, if_false, List.getElem?_replicate]
                split <;> rfl
              rw [this]; exact .undef _
          refine execK_sound hm ih n _ c [] _ _ _ st ?_ h
          intro e g' m' t' a' w' s' e' hk
          cases e with
          | normal =>
            obtain ⟨z, h1, h2, h3⟩ := results_sound s' hk
            exact ⟨s'.defers, z, h1, z, g', rfl, by simp at h3; subst h3; exact h2, by simp at h3; subst h3; exact s'.sim, by simp at h3; subst h3; exact e'⟩
          | ret =>
            obtain ⟨z, h1, h2, h3⟩ := results_sound s' hk
            exact ⟨s'.defers, z, h1, z, g', rfl, by simp at h3; subst h3; exact h2, by simp at h3; subst h3; exact s'.sim, by simp at h3; subst h3; exact e'⟩
          | _ => cases hk

end Go.Proofs.YtooogfnmhfocjaaGreatDoor.Spl
