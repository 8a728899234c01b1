/- The abstract machine, 9: regions in the order of the text. -/
import Derived.Test.YtooogfnmhfocjaaGreatDoorSplOp
namespace Go.Proofs.YtooogfnmhfocjaaGreatDoor.Spl
open Go Go.RowKit Go.Lib
set_option linter.unusedVariables false
set_option linter.unusedSimpArgs false

/-- How frames and memory stand to Go's. -/
structure St (W : Ref) (nt : Nat) (g : Gm) (m : Mem) (t : TM) (a : Act) (w : World) : Prop where
  sim : Sim W g m w
  tm : ∀ i, VR g m.next (t.getD i .undef) (a.tmps.getD i Go.undef)
  len : t.length ≤ a.tmps.size
  nt : nt ≤ a.tmps.size
  defers : a.defers = []

variable {P : Program} {W : Ref} {nt : Nat} {g : Gm} {m : Mem} {t : TM} {a : Act} {w : World}

theorem St.ev (s : St W nt g m t a w) (x : Operand) : VR g m.next (t.ev x) (a.eval x) := by
  cases x with
  | tmp i => exact s.tm i
  | const v => exact VR.av _ _ v
  | global b => exact .undef _
  | func f => exact .func _ _ _ [] [] .nil .nil

theorem TM.getD_set (t : TM) (i j : Nat) (v : AV) : (t.set i v).getD j .undef = if i = j ∧ i < t.length then v else t.getD j .undef := by
  simp only [List.getD_eq_getElem?_getD, List.getElem?_set]
  by_cases h : i = j
  · subst h
    by_cases h2 : i < t.length
    · simp [h2]
    · simp [h2]
  · simp [h]

theorem St.put (s : St W nt g m t a w) {g' : Gm} {m' : Mem} {w' : World} (s' : Sim W g' m' w') (e : Ext' g m.next g' m'.next) {v : AV} {z : Value} (hv : VR g' m'.next v z) (d : Option Tmp) : St W nt g' m' (t.put d v) (a.put d z) w' := by
  cases d with
  | none => exact ⟨s', fun i => (s.tm i).mono e, s.len, s.nt, s.defers⟩
  | some d =>
    refine ⟨s', fun i => ?_, by simp [TM.put, Act.put]; exact s.len, by simp [Act.put]; exact s.nt, by simp [Act.put]; exact s.defers⟩
    simp only [TM.put, Act.put, TM.getD_set]
    split
    · rename_i h
      obtain ⟨rfl, h⟩ := h
      have : d < a.tmps.size := Nat.lt_of_lt_of_le h s.len
      simp [this]
      exact hv
    · rename_i h
      by_cases hd : d = i
      · subst hd
        have h' : ¬ d < t.length := fun e => h ⟨rfl, e⟩
        have : t.getD d .undef = .undef := by simp [List.getD_eq_getElem?_getD, List.getElem?_eq_none (Nat.le_of_not_lt h')]
        rw [this]; exact .undef _
      · have : (a.tmps.setIfInBounds d z).getD i Go.undef = a.tmps.getD i Go.undef := by
          simp [Array.getD_eq_getD_getElem?, Array.getElem?_setIfInBounds, hd]
        rw [this]; exact (s.tm i).mono e

/-- A frame of which less is known. -/
theorem St.less (s : St W nt g m t a w) {t' : TM} (h : ∀ i, t'.getD i .undef = t.getD i .undef ∨ t'.getD i .undef = .undef) (hl : t'.length ≤ a.tmps.size) : St W nt g m t' a w :=
  ⟨s.sim, fun i => by rcases h i with e | e <;> rw [e]; exact s.tm i; exact .undef _, hl, s.nt, s.defers⟩

theorem mask_getD : ∀ (t : TM) (L i : Nat), (mask L t).getD i .undef = t.getD i .undef ∨ (mask L t).getD i .undef = .undef
  | [], _, _ => .inr rfl
  | v :: t, L, 0 => by
    simp only [mask, List.getD_cons_zero]
    split
    · exact .inl rfl
    · exact .inr rfl
  | v :: t, L, i + 1 => by simpa [mask] using mask_getD t (L / 2) i
theorem mask_length : ∀ (t : TM) (L : Nat), (mask L t).length = t.length
  | [], _ => rfl
  | v :: t, L => by simp [mask, mask_length t]
theorem St.mask (s : St W nt g m t a w) (L : Nat) : St W nt g m (mask L t) a w := s.less (mask_getD t L) (by rw [mask_length]; exact s.len)

theorem unpack_length (L : Nat) : ∀ (f i j : Nat) (l : List AV), (unpack L f i j l).length = f
  | 0, _, _, _ => rfl
  | f + 1, i, j, l => by simp only [unpack]; split <;> simp [unpack_length]
theorem unpack_pack (L : Nat) (t : TM) : ∀ (f i : Nat) (l : List AV) (j : Nat), l.drop j = pack L f i t → ∀ q, (unpack L f i j l).getD q .undef = t.getD (i + q) .undef ∨ (unpack L f i j l).getD q .undef = .undef
  | 0, _, _, _, _, q => .inr (by simp [unpack])
  | f + 1, i, l, j, h, q => by
    simp only [unpack, pack] at h ⊢
    split
    · rename_i hb
      rw [if_pos hb] at h
      cases q with
      | zero =>
        left
        have := congrArg (fun x => x[0]?) h
        simp at this
        simp [List.getD_eq_getElem?_getD, this]
      | succ q =>
        have h' : l.drop (j + 1) = pack L f (i + 1) t := by
          rw [← List.drop_drop, h]; rfl
        have := unpack_pack L t f (i + 1) l (j + 1) h' q
        simpa [Nat.add_assoc, Nat.add_comm 1 q] using this
    · rename_i hb
      rw [if_neg hb] at h
      cases q with
      | zero => right; rfl
      | succ q =>
        have := unpack_pack L t f (i + 1) l j h q
        simpa [Nat.add_assoc, Nat.add_comm 1 q] using this
theorem St.repack (s : St W nt g m t a w) (L : Nat) : St W nt g m (unpack L nt 0 0 (pack L nt 0 t)) a w :=
  s.less (fun i => by simpa using unpack_pack L t nt 0 (pack L nt 0 t) 0 (by simp) i) (by rw [unpack_length]; exact s.nt)

theorem mc_some {ρ : Type} {v : AV} {x y : M ρ} {m : Mem} {r : ρ × Mem} (h : mc v x y m = some r) : ∃ b, v = .bool b ∧ (if b then x else y) m = some r := by
  unfold mc at h
  split at h
  · exact ⟨true, rfl, h⟩
  · exact ⟨false, rfl, h⟩
  · cases h

theorem TM.set_self {t : TM} {d : Nat} {v : AV} (h : t.getD d .undef = v) (hv : v ≠ .undef) : t.set d v = t := by
  apply List.ext_getElem?
  intro i
  rw [List.getElem?_set]
  by_cases e : d = i
  · subst e
    by_cases hl : d < t.length
    · simp [hl]
      simp [List.getD_eq_getElem?_getD, hl] at h
      exact h.symm
    · simp [List.getD_eq_getElem?_getD, List.getElem?_eq_none (Nat.le_of_not_lt hl)] at h
      exact absurd h.symm hv
  · simp [e]

/-- Which way a guard goes. -/
theorem guarded_sound {ρ : Type} {ops : Array Oper} {j : Nat} {sk want : Bool} {yes no : TM → M ρ} {r : ρ × Mem} (s : St W nt g m t a w) (h : guarded (guardOf ops.toList t j) sk want yes no t m = some r) :
    ((yielded ops a.tmps j == some want) = true ∧ yes t m = some r) ∨ ((yielded ops a.tmps j == some want) = false ∧ no t m = some r) := by
  unfold guardOf at h
  cases ho : ops.toList[j]? with
  | none => rw [ho] at h; simp [guarded, fail] at h
  | some o =>
    rw [ho] at h
    cases hd : o.dst with
    | none => simp [hd, guarded, fail] at h
    | some d =>
      simp only [hd] at h
      have ho' : ops[j]? = some o := by simpa using ho
      have hv := s.tm d
      have hy : ∀ b, t.getD d .undef = .bool b → yielded ops a.tmps j = some b := by
        intro b hb
        rw [hb] at hv
        have hl : d < a.tmps.size := by
          rcases Nat.lt_or_ge d t.length with h1 | h1
          · exact Nat.lt_of_lt_of_le h1 s.len
          · simp [List.getD_eq_getElem?_getD, List.getElem?_eq_none h1] at hb
        generalize hq : a.tmps.getD d Go.undef = x at hv
        cases hv
        simp [Array.getD_eq_getD_getElem?, hl] at hq
        simp [yielded, ho', hd, hl, hq]
      have hn : t.getD d .undef = .tup [] → yielded ops a.tmps j = none := by
        intro hb
        rw [hb] at hv
        generalize hq : a.tmps.getD d Go.undef = x at hv
        cases hv with
        | tup _ xs hxs =>
          cases hxs
          simp only [yielded, ho', hd, Option.bind_some]
          cases hx : a.tmps[d]? with
          | none => rfl
          | some y =>
            simp [Array.getD_eq_getD_getElem?, hx] at hq
            subst hq; rfl
      generalize hv' : t.getD d .undef = v at h
      cases sk with
      | true =>
        simp only [guarded, if_true] at h
        split at h
        · right
          exact ⟨by rw [hn hv']; rfl, h⟩
        · cases h
      | false =>
        have h' : (if want then mc v (yes (t.set d (.bool true))) (no (t.set d (.bool false))) else mc v (no (t.set d (.bool true))) (yes (t.set d (.bool false)))) m = some r := by
          simpa only [guarded, Bool.false_eq_true, if_false] using h
        have main : ∀ b, v = .bool b → t.set d (.bool b) = t := fun b hb => TM.set_self (by rw [hv', hb]) (by simp)
        cases want with
        | true =>
          obtain ⟨b, rfl, hk⟩ := mc_some (by simpa using h')
          have hyb := hy b hv'
          cases b with
          | true => left; rw [main true rfl] at hk; exact ⟨by rw [hyb]; rfl, by simpa using hk⟩
          | false => right; rw [main false rfl] at hk; exact ⟨by rw [hyb]; rfl, by simpa using hk⟩
        | false =>
          obtain ⟨b, rfl, hk⟩ := mc_some (by simpa using h')
          have hyb := hy b hv'
          cases b with
          | true => right; rw [main true rfl] at hk; exact ⟨by rw [hyb]; rfl, by simpa using hk⟩
          | false => left; rw [main false rfl] at hk; exact ⟨by rw [hyb]; rfl, by simpa using hk⟩

/-- The way on behind a region or a piece of code. -/
def Then {ρ : Type} (W : Ref) (nt : Nat) (g : Gm) (m : Mem) (K : TM → M ρ) (r : ρ × Mem) (Q : Act → World → Prop) : Prop :=
  ∀ g' m' t' a' w', St W nt g' m' t' a' w' → Ext' g m.next g' m'.next → K t' m' = some r → Q a' w'
theorem Then.ext {ρ : Type} {K : TM → M ρ} {r : ρ × Mem} {Q : Act → World → Prop} (h : Then W nt g m K r Q) {g' : Gm} {m' : Mem} (e : Ext' g m.next g' m'.next) : Then W nt g' m' K r Q :=
  fun g'' m'' t' a' w' s e' hk => h g'' m'' t' a' w' s (e.trans e') hk

theorem runOps_sound {ρ : Type} {call : Nat → List AV → M AV} (hcall : CallOk P W call) {ops : Array Oper} {K : TM → M ρ} {r : ρ × Mem} {Q : Exit → Act → World → Prop} :
    ∀ (os : List Oper) (i : Nat) {sk : Nat} {g : Gm} {m : Mem} {t : TM} {a : Act} {w : World}, ops.toList.drop i = os → St W nt g m t a w → Then W nt g m K r (Q .normal) → runOps P call ops.toList i sk os K t m = some r →
      wpOps P ops Q (List.range' i os.length) a w
  | [], i, sk, g, m, t, a, w, _, s, hK, h => by
    simp only [List.length_nil, List.range'_zero, wpOps]
    exact hK g m t a w s (Ext'.refl _ _) h
  | o :: os, i, sk, g, m, t, a, w, hd, s, hK, h => by
    have ho : ops[i]? = some o := by
      have := congrArg (fun l => l[0]?) hd
      simpa using this
    have hd' : ops.toList.drop (i + 1) = os := by rw [← List.drop_drop, hd]; rfl
    simp only [List.length_cons, List.range'_succ, wpOps, ho]
    have hgo : ∀ {t : TM}, St W nt g m t a w → aop P call o t (fun v => runOps P call ops.toList (i + 1) sk os K (t.put o.dst v)) m = some r →
        o.wp P a w (wpOps P ops Q (List.range' (i + 1) os.length)) Q := by
      intro t s h
      refine aop_sound hcall s.sim (fun v z g' m' w' hv s' e hk => ?_) s.ev h
      exact runOps_sound hcall os (i + 1) hd' (s.put s' e hv o.dst) (hK.ext e) hk
    have hskip : ∀ {t : TM}, St W nt g m t a w → runOps P call ops.toList (i + 1) (sk ||| 2 ^ i) os K (t.put o.dst (.tup [])) m = some r → wpOps P ops Q (List.range' (i + 1) os.length) (a.put o.dst Go.undef) w := by
      intro t s h
      exact runOps_sound hcall os (i + 1) hd' (s.put s.sim (Ext'.refl _ _) (.tup [] [] .nil) o.dst) hK h
    unfold runOps at h
    cases hg : o.guard with
    | none =>
      rw [hg] at h
      simp only at h
      rw [if_pos (by simp [Region.wanted, hg])]
      exact .inl (hgo s h)
    | some jw =>
      obtain ⟨j, want⟩ := jw
      rw [hg] at h
      simp only at h
      rcases guarded_sound s h with ⟨hy, h⟩ | ⟨hy, h⟩
      · rw [if_pos (by simpa [Region.wanted, hg] using hy)]
        exact .inl (hgo s h)
      · rw [if_neg (by simp only [Region.wanted, hg]; rw [hy]; simp)]
        exact hskip s h

end Go.Proofs.YtooogfnmhfocjaaGreatDoor.Spl
