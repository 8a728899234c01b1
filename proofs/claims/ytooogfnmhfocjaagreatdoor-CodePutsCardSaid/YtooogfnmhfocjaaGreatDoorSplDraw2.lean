/- The abstract machine, 11: a region that draws its order comes to what it comes to in the order of the text. -/
import Derived.Test.YtooogfnmhfocjaaGreatDoorSplDraw
namespace Go.Proofs.YtooogfnmhfocjaaGreatDoor.Spl
open Go Go.RowKit Go.Lib
set_option linter.unusedVariables false
set_option linter.unusedSimpArgs false

theorem filter_le {α : Type} {p p' : α → Bool} (h : ∀ x, p' x = true → p x = true) : ∀ l : List α, (l.filter p').length ≤ (l.filter p).length
  | [] => by simp
  | z :: l => by
    have ih := filter_le h l
    cases h1 : p' z with
    | true => simp [List.filter_cons, h1, h z h1]; exact ih
    | false => cases h2 : p z <;> simp [List.filter_cons, h1, h2] <;> omega
theorem filter_lt {α : Type} {p p' : α → Bool} (h : ∀ x, p' x = true → p x = true) : ∀ {l : List α} {x : α}, x ∈ l → p x = true → p' x = false → (l.filter p').length < (l.filter p).length
  | y :: l, x, hm, hp, hn => by
    cases hm with
    | head => have := filter_le h l; simp [List.filter_cons, hp, hn]; omega
    | tail _ hm =>
      have ih := filter_lt h hm hp hn
      cases h1 : p' y with
      | true => simp [List.filter_cons, h1, h y h1]; exact ih
      | false => cases h2 : p y <;> simp [List.filter_cons, h1, h2] <;> omega

section
variable {P : Program} {W : Ref} {nt : Nat} {call : Nat → List AV → M AV} {ops : Array Oper} {T : Nat → TM} {Mm : Nat → Mem} {V : Nat → AV} {X : Nat → Bool}

abbrev on (listed : Array Bool) (i : Nat) : Prop := listed.getD i false = true

/-- A variable that was made ahead of its turn: in block b. -/
structure Pend (W : Ref) (g' : Gm) (m : Mem) (w' : World) (ty : TypeId) (z : List AV) (b : Nat) : Prop where
  cells : ∃ c : Array Value, w'.heap[b]? = some (.cells c ty (0, 0)) ∧ ∀ (g : Gm) (n : Nat), VRs g n z c.toList
  notS : ¬ W.S b
  other : ∀ j, j < m.next → g'.blk j ≠ b

structure Inv (P : Program) (W : Ref) (ops : Array Oper) (T : Nat → TM) (Mm : Nat → Mem) (V : Nat → AV) (X : Nat → Bool) (g : Gm) (n0 : Nat) (sz : Nat) (listed : Array Bool) (J : Nat) (B : Nat → Nat) (g' : Gm) (a' : Act) (w' : World) : Prop where
  size : listed.size = ops.size
  down : ∀ (i : Nat) o, ops.toList[i]? = some o → on listed i → ∀ e ∈ o.after.toList, Region.binds .any e = true → on listed e.on
  hv1 : ∀ (h : Nat) o, ops.toList[h]? = some o → opClass P o.op = 2 → h < J → on listed h
  hv2 : ∀ (h : Nat) o, ops.toList[h]? = some o → opClass P o.op = 2 → on listed h → J ≤ h → isAlloc o.op = true
  pend : ∀ (h : Nat) o, ops.toList[h]? = some o → opClass P o.op = 2 → on listed h → J ≤ h → X h = true → ∀ ty z, o.op = .alloc ty → zeroCells? P ty = some z → Pend W g' (Mm J) w' ty z (B h)
  dist : ∀ (h : Nat) o, ops.toList[h]? = some o → opClass P o.op = 2 → on listed h → J ≤ h → X h = true → ∀ (h' : Nat) o', ops.toList[h']? = some o' → opClass P o'.op = 2 → on listed h' → J ≤ h' → X h' = true → B h = B h' → h = h'
  jle : J ≤ ops.size
  sim : Sim W g' (Mm J) w'
  ext : Ext' g n0 g' (Mm J).next
  tm : ∀ x, ∃ q, q ≤ ops.size ∧ (∀ (k : Nat) o, ops.toList[k]? = some o → o.dst = some x → (on listed k ↔ k < q)) ∧
    (VR g' (Mm J).next ((T q).getD x .undef) (a'.tmps.getD x Go.undef) ∨
     ∃ (h : Nat) (o : Oper), ops.toList[h]? = some o ∧ o.dst = some x ∧ q = h + 1 ∧ opClass P o.op = 2 ∧ on listed h ∧ J ≤ h ∧ X h = true ∧ a'.tmps.getD x Go.undef = .pointer (some ⟨B h, 0, none⟩))
  tsz : a'.tmps.size = sz
  defers : a'.defers = []

theorem put_getD {t : TM} {d : Option Tmp} {v : AV} {x : Nat} (h : d ≠ some x) : (t.put d v).getD x .undef = t.getD x .undef := by
  cases d with
  | none => rfl
  | some d =>
    simp only [TM.put, TM.getD_set]
    rw [if_neg]
    rintro ⟨rfl, _⟩
    exact h rfl

theorem get_lt {α : Type} {l : List α} {i : Nat} {o : α} (h : l[i]? = some o) : i < l.length := by
  rcases Nat.lt_or_ge i l.length with h' | h'
  · exact h'
  · simp [List.getElem?_eq_none h'] at h
theorem get_some {α : Type} {l : List α} {i : Nat} (h : i < l.length) : ∃ o, l[i]? = some o := ⟨l[i], by simp⟩

theorem T_same {bf : List Nat} {ms ls} (tr : Trace P call ops.toList bf 0 ms ls T Mm V X) {x : Nat} : ∀ (d p : Nat), p + d ≤ ops.size → (∀ (k : Nat) o, p ≤ k → k < p + d → ops.toList[k]? = some o → o.dst ≠ some x) → (T p).getD x .undef = (T (p + d)).getD x .undef
  | 0, p, _, _ => rfl
  | d + 1, p, hl, h => by
    obtain ⟨o, ho⟩ := get_some (l := ops.toList) (i := p + d) (by simp; omega)
    have ih := T_same tr d p (by omega) (fun k o h1 h2 => h k o h1 (by omega))
    have := (tr.did (p + d) o (by omega) ho).put
    rw [ih, show p + (d + 1) = p + d + 1 by omega, this, put_getD (h (p + d) o (by omega) (by omega) ho)]
theorem T_same' {bf : List Nat} {ms ls} (tr : Trace P call ops.toList bf 0 ms ls T Mm V X) {x p q : Nat} (hp : p ≤ ops.size) (hq : q ≤ ops.size) (h : ∀ (k : Nat) o, ops.toList[k]? = some o → o.dst = some x → (k < p ↔ k < q)) : (T p).getD x .undef = (T q).getD x .undef := by
  rcases Nat.le_total p q with hle | hle
  · obtain ⟨d, rfl⟩ := Nat.exists_eq_add_of_le hle
    exact T_same tr d p hq (fun k o h1 h2 ho hd => by have := (h k o ho hd).2 h2; omega)
  · obtain ⟨d, rfl⟩ := Nat.exists_eq_add_of_le hle
    exact (T_same tr d q hp (fun k o h1 h2 ho hd => by have := (h k o ho hd).1 h2; omega)).symm
theorem M_same {bf : List Nat} {ms ls} (tr : Trace P call ops.toList bf 0 ms ls T Mm V X) : ∀ (d p : Nat), p + d ≤ ops.size → (∀ (k : Nat) o, p ≤ k → k < p + d → ops.toList[k]? = some o → opClass P o.op = 2 → X k = false) → Mm p = Mm (p + d)
  | 0, p, _, _ => rfl
  | d + 1, p, hl, h => by
    obtain ⟨o, ho⟩ := get_some (l := ops.toList) (i := p + d) (by simp; omega)
    have ih := M_same tr d p (by omega) (fun k o h1 h2 => h k o h1 (by omega))
    have hd := tr.did (p + d) o (by omega) ho
    rw [ih, show p + (d + 1) = p + d + 1 by omega]
    by_cases hc : opClass P o.op = 2
    · exact ((hd.skip (h (p + d) o (by omega) (by omega) ho hc)).2).symm
    · exact (hd.still hc).symm
theorem T_len {bf : List Nat} {ms ls} (tr : Trace P call ops.toList bf 0 ms ls T Mm V X) : ∀ q, q ≤ ops.size → (T q).length = (T 0).length
  | 0, _ => rfl
  | q + 1, hq => by
    obtain ⟨o, ho⟩ := get_some (l := ops.toList) (i := q) (by simp; omega)
    rw [(tr.did q o (by omega) ho).put, ← T_len tr q (by omega)]
    cases o.dst <;> simp [TM.put]

/-- What drawOk says. -/
structure Okd (P : Program) (ops : Array Oper) (bf : List Nat) : Prop where
  edge : ∀ (i : Nat) o, ops.toList[i]? = some o → ∀ e ∈ o.after.toList, Region.binds .any e = true → e.on < i
  names : ∀ (j : Nat) o, ops.toList[j]? = some o → ∀ x ∈ namesOf o, ∀ (i : Nat) o', ops.toList[i]? = some o' → o'.dst = some x → i = j ∨ (bf.getD (max i j) 0).testBit (min i j) = true
  guard : ∀ (j : Nat) o q want, ops.toList[j]? = some o → o.guard = some (q, want) → (bf.getD j 0).testBit q = true ∧ ∀ oq d, ops.toList[q]? = some oq → oq.dst = some d → ∀ (k : Nat) o', ops.toList[k]? = some o' → o'.dst = some d → k = q
  heavy : ∀ (j : Nat) o, ops.toList[j]? = some o → opClass P o.op = 2 → ∀ (i : Nat) o', ops.toList[i]? = some o' → opClass P o'.op = 2 → i < j → (bf.getD j 0).testBit i = true ∨ isAlloc o.op = true
  early : ∀ (j : Nat) o, ops.toList[j]? = some o → ∀ (a : Nat) oa, ops.toList[a]? = some oa → isAlloc oa.op = true → (bf.getD j 0).testBit a = true → ∀ (i : Nat) o', ops.toList[i]? = some o' → opClass P o'.op = 2 → i < a → (bf.getD j 0).testBit i = true

theorem drawOk_spec {bf : List Nat} (h : drawOk P ops.toList bf = true) : Okd P ops bf := by
  have h0 := everyI_spec h
  simp only [Nat.zero_add] at h0
  have h1 : ∀ (q : Nat) o, ops.toList[q]? = some o → _ := fun q o ho => by
    have := h0 q o ho
    simp only [Bool.and_eq_true] at this
    exact this
  refine ⟨fun i o ho e he hb => ?_, fun j o ho x hx i o' ho' hd => ?_, fun j o q want ho hg => ?_, fun j o ho hc i o' ho' hc' hlt => ?_, fun j o ho a oa hoa ha hb i o' ho' hc' hlt => ?_⟩
  · have := (h1 i o ho).1.1.1.1
    rw [Array.all_eq_true'] at this
    have := this e (by simpa using he)
    simpa [hb] using this
  · have := (h1 j o ho).1.1.1.2
    rw [List.all_eq_true] at this
    have := everyI_spec (this x hx) i o' ho'
    simp only [Nat.zero_add, Bool.or_eq_true, bne_iff_ne, ne_eq, beq_iff_eq] at this
    rcases this with (h | h) | h
    · exact absurd hd h
    · exact .inl h
    · exact .inr h
  · have := (h1 j o ho).1.1.2
    rw [hg] at this
    simp only [Bool.and_eq_true] at this
    refine ⟨this.1, fun oq d hoq hd k o' ho' hd' => ?_⟩
    have h2 := this.2
    rw [hoq] at h2
    simp only [hd] at h2
    have := everyI_spec h2 k o' ho'
    simpa [hd'] using this
  · have := (h1 j o ho).1.2
    simp only [hc, bne_self_eq_false, Bool.false_or] at this
    have := everyI_spec this i o' ho'
    simp only [Nat.zero_add, hc', bne_self_eq_false, Bool.false_or, Bool.or_eq_true, decide_eq_true_eq] at this
    rcases this with (h | h) | h
    · omega
    · exact .inl h
    · exact .inr h
  · have := everyI_spec (h1 j o ho).2 a oa hoa
    simp only [Nat.zero_add, ha, hb, Bool.not_true, Bool.false_or] at this
    have := everyI_spec this i o' ho'
    simp only [Nat.zero_add, hc', bne_self_eq_false, Bool.false_or, Bool.or_eq_true, decide_eq_true_eq] at this
    rcases this with h | h
    · omega
    · exact h

theorem on_set {listed : Array Bool} {i k : Nat} (hi : i < listed.size) : on (listed.setIfInBounds i true) k ↔ on listed k ∨ k = i := by
  unfold on
  simp only [Array.getD_eq_getD_getElem?, Array.getElem?_setIfInBounds]
  by_cases h : i = k
  · subst h; simp [hi]
  · rw [if_neg h]
    constructor
    · exact .inl
    · rintro (h' | e)
      · exact h'
      · exact absurd e.symm h

/-- A new variable, by the trace. -/
theorem alloc_did {bf : List Nat} {ms ls} (tr : Trace P call ops.toList bf 0 ms ls T Mm V X) {h : Nat} {o : Oper} (ho : ops.toList[h]? = some o) (hc : opClass P o.op = 2) (ha : isAlloc o.op = true) (hX : X h = true) :
    ∃ ty z, o.op = .alloc ty ∧ zeroCells? P ty = some z ∧ V h = .ptr (Mm h).next 0 ∧ Mm (h + 1) = (Mm h).alloc (.cells ty 0 z) := by
  have hd := (tr.did h o (by omega) ho).heavy hX hc (σ := AV) ret
  cases hop : o.op with
  | alloc ty =>
    simp only [aop, hop] at hd
    cases hz : zeroCells? P ty with
    | none => rw [hz] at hd; simp [fail, ret] at hd
    | some z =>
      rw [hz] at hd
      simp [bnd, alloc_def, ret] at hd
      exact ⟨ty, z, rfl, hz, hd.1.symm, hd.2.symm⟩
  | _ => rw [hop] at ha; cases ha

theorem T_put_rel {bf : List Nat} {ms ls} (tr : Trace P call ops.toList bf 0 ms ls T Mm V X) {i : Nat} {o : Oper} (ho : ops.toList[i]? = some o) {x : Nat} (hd : o.dst = some x) {g : Gm} {n : Nat} {z : Value} (hz : VR g n (V i) z) : VR g n ((T (i + 1)).getD x .undef) z ∨ (T (i + 1)).getD x .undef = .undef := by
  rw [(tr.did i o (by omega) ho).put, hd]
  simp only [TM.put, TM.getD_set]
  by_cases hx : x < (T i).length
  · rw [if_pos (by simpa using hx)]; exact .inl hz
  · rw [if_neg (by simpa using hx)]
    right
    simp [List.getD_eq_getElem?_getD, List.getElem?_eq_none (Nat.le_of_not_lt hx)]

/-- The next operation in the text's order is passed: it writes nothing, or was done already. -/
theorem Inv.pass {bf : List Nat} {ms ls} (tr : Trace P call ops.toList bf 0 ms ls T Mm V X) {g : Gm} {n0 sz : Nat} {listed : Array Bool} {J : Nat} {B : Nat → Nat} {g' : Gm} {a' : Act} {w' : World} (inv : Inv P W ops T Mm V X g n0 sz listed J B g' a' w')
    {o : Oper} (ho : ops.toList[J]? = some o) (hl : opClass P o.op = 2 → on listed J) : ∃ g'', Inv P W ops T Mm V X g n0 sz listed (J + 1) B g'' a' w' := by
  have hlt : J < ops.size := by simpa using get_lt ho
  have hdid := tr.did J o (by omega) ho
  have hv1 : ∀ (h : Nat) oh, ops.toList[h]? = some oh → opClass P oh.op = 2 → h < J + 1 → on listed h := fun h oh hoh hc hh => by
    rcases Nat.lt_or_ge h J with h' | h'
    · exact inv.hv1 h oh hoh hc h'
    · have : h = J := by omega
      subst this
      rw [ho] at hoh; cases hoh
      exact hl hc
  by_cases hcx : opClass P o.op = 2 ∧ X J = true
  · obtain ⟨hc, hx⟩ := hcx
    have ha := inv.hv2 J o ho hc (hl hc) (Nat.le_refl _)
    obtain ⟨ty, z, hop, hz, hV, hM⟩ := alloc_did tr ho hc ha hx
    obtain ⟨⟨c, hcell, hrel⟩, hS, hoth⟩ := inv.pend J o ho hc (hl hc) (Nat.le_refl _) hx ty z hop hz
    have hle := inv.sim.le
    have hlen := (hrel g' 0).length
    have hoth' : ∀ j, j < (Mm J).next → g'.blk j ≠ B J := hoth
    have hext : Ext' g' (Mm J).next (g'.put (Mm J).next (B J) c.size) (Mm (J + 1)).next := by rw [hM]; exact g'.put_ext _ _ _
    refine ⟨g'.put (Mm J).next (B J) c.size, ⟨inv.size, inv.down, hv1, fun h oh hoh hch hon hh => inv.hv2 h oh hoh hch hon (by omega), ?_, fun h oh hoh hch hon hh hxh h' oh' hoh' hch' hon' hh' hxh' => inv.dist h oh hoh hch hon (by omega) hxh h' oh' hoh' hch' hon' (by omega) hxh', by omega, ?_, inv.ext.trans hext, ?_, inv.tsz, inv.defers⟩⟩
    · intro h oh hoh hch hon hh hxh ty' z' hop' hz'
      obtain ⟨h1, h2, h3⟩ := inv.pend h oh hoh hch hon (by omega) hxh ty' z' hop' hz'
      refine ⟨h1, h2, fun j hj => ?_⟩
      rw [hM] at hj
      have hj' : j < (Mm J).next + 1 := hj
      by_cases e : j = (Mm J).next
      · subst e
        simp only [Gm.put, if_true]
        intro e
        have := inv.dist J o ho hc (hl hc) (Nat.le_refl _) hx h oh hoh hch hon (by omega) hxh e
        omega
      · simp only [Gm.put, e, if_false]
        exact h3 j (by omega)
    · rw [hM]
      exact inv.sim.adopt hcell hS hoth' (by simp at hlen; omega) (hrel _ _)
    · intro x
      obtain ⟨q, h1, h2, h3⟩ := inv.tm x
      refine ⟨q, h1, h2, ?_⟩
      rcases h3 with h3 | ⟨h, oh, hoh, hdh, hq, hch, hon, hJh, hxh, hval⟩
      · exact .inl (h3.mono hext)
      · rcases Nat.lt_or_ge J h with hlt' | hge
        · exact .inr ⟨h, oh, hoh, hdh, hq, hch, hon, hlt', hxh, hval⟩
        · have e : h = J := by omega
          subst e
          left
          subst hq
          rw [hval]
          have hptr : VR (g'.put (Mm h).next (B h) c.size) (Mm (h + 1)).next (V h) (.pointer (some ⟨B h, 0, none⟩)) := by
            have e := VR.ptr (g := g'.put (Mm h).next (B h) c.size) (n := (Mm (h + 1)).next) (Mm h).next 0 (by rw [hM]; exact Nat.lt_succ_self _)
            have e2 : (g'.put (Mm h).next (B h) c.size).blk (Mm h).next = B h := by simp [Gm.put]
            rw [e2] at e
            rw [hV]; exact e
          rcases T_put_rel tr hoh hdh hptr with h5 | h5
          · exact h5
          · rw [h5]; exact .undef _
  · have hM : Mm (J + 1) = Mm J := by
      by_cases hc : opClass P o.op = 2
      · have hx : X J = false := by
          cases hx : X J with
          | false => rfl
          | true => exact absurd ⟨hc, hx⟩ hcx
        exact (hdid.skip hx).2
      · exact hdid.still hc
    refine ⟨g', ⟨inv.size, inv.down, hv1, fun h oh hoh hch hon hh => inv.hv2 h oh hoh hch hon (by omega), ?_, fun h oh hoh hch hon hh hxh h' oh' hoh' hch' hon' hh' hxh' => inv.dist h oh hoh hch hon (by omega) hxh h' oh' hoh' hch' hon' (by omega) hxh', by omega, by rw [hM]; exact inv.sim, by rw [hM]; exact inv.ext, ?_, inv.tsz, inv.defers⟩⟩
    · intro h oh hoh hch hon hh hxh ty' z' hop' hz'
      rw [hM]
      exact inv.pend h oh hoh hch hon (by omega) hxh ty' z' hop' hz'
    · intro x
      obtain ⟨q, h1, h2, h3⟩ := inv.tm x
      refine ⟨q, h1, h2, ?_⟩
      rw [hM]
      rcases h3 with h3 | ⟨h, oh, hoh, hdh, hq, hch, hon, hJh, hxh, hval⟩
      · exact .inl h3
      · right
        refine ⟨h, oh, hoh, hdh, hq, hch, hon, ?_, hxh, hval⟩
        rcases Nat.lt_or_ge J h with hlt' | hge
        · exact hlt'
        · have e : h = J := by omega
          subst e
          rw [ho] at hoh; cases hoh
          exact absurd ⟨hch, hxh⟩ hcx

/-- .. up to the first that writes and is not done. -/
theorem Inv.norm {bf : List Nat} {ms ls} (tr : Trace P call ops.toList bf 0 ms ls T Mm V X) {g : Gm} {n0 sz : Nat} {listed : Array Bool} {B : Nat → Nat} {a' : Act} {w' : World} : ∀ (d J : Nat) {g' : Gm}, ops.size - J ≤ d → Inv P W ops T Mm V X g n0 sz listed J B g' a' w' →
    ∃ J' g'', Inv P W ops T Mm V X g n0 sz listed J' B g'' a' w' ∧ ∀ o, ops.toList[J']? = some o → opClass P o.op = 2 ∧ ¬ on listed J'
  | d, J, g', hd, inv => by
    by_cases hlt : J < ops.size
    · obtain ⟨o, ho⟩ := get_some (l := ops.toList) (i := J) (by simpa using hlt)
      by_cases hl : opClass P o.op = 2 ∧ ¬ on listed J
      · exact ⟨J, g', inv, fun o' ho' => by rw [ho] at ho'; cases ho'; exact hl⟩
      · obtain ⟨g'', inv'⟩ := inv.pass tr ho (fun hc => by
          rcases Classical.em (on listed J) with h | h
          · exact h
          · exact absurd ⟨hc, h⟩ hl)
        cases d with
        | zero => omega
        | succ d => exact Inv.norm tr d (J + 1) (by omega) inv'
    · exact ⟨J, g', inv, fun o ho => by have := get_lt ho; simp at this; omega⟩

/-- One operation is done. -/
theorem Inv.step {bf : List Nat} {ms ls} (tr : Trace P call ops.toList bf 0 ms ls T Mm V X) {g : Gm} {n0 sz : Nat} {listed : Array Bool} {J : Nat} {B : Nat → Nat} {g' : Gm} {a' : Act} {w' : World} (inv : Inv P W ops T Mm V X g n0 sz listed J B g' a' w') (hT0 : (T 0).length ≤ sz)
    {i : Nat} {o : Oper} (ho : ops.toList[i]? = some o) (hi : ¬ on listed i) (hedge : ∀ e ∈ o.after.toList, Region.binds .any e = true → on listed e.on) (hdst : ∀ x, o.dst = some x → ∀ (k : Nat) o', ops.toList[k]? = some o' → o'.dst = some x → (on listed k ↔ k < i))
    {J' : Nat} {B' : Nat → Nat} {g'' : Gm} {w'' : World} {z : Value} (hJJ : J ≤ J') (hJh : ∀ h, on listed h → J ≤ h → J' ≤ h)
    (hv1 : ∀ (h : Nat) oh, ops.toList[h]? = some oh → opClass P oh.op = 2 → h < J' → on listed h ∨ h = i) (hv2 : opClass P o.op = 2 → J' ≤ i → isAlloc o.op = true)
    (hB : ∀ h, on listed h → B' h = B h)
    (hpend : ∀ (h : Nat) oh, ops.toList[h]? = some oh → opClass P oh.op = 2 → on listed h → J' ≤ h → X h = true → ∀ ty zs, oh.op = .alloc ty → zeroCells? P ty = some zs → Pend W g' (Mm J) w' ty zs (B h) → Pend W g'' (Mm J') w'' ty zs (B h))
    (hnew : opClass P o.op = 2 → J' ≤ i → X i = true → (∀ ty zs, o.op = .alloc ty → zeroCells? P ty = some zs → Pend W g'' (Mm J') w'' ty zs (B' i)) ∧ (∀ (h : Nat) oh, ops.toList[h]? = some oh → opClass P oh.op = 2 → on listed h → J' ≤ h → X h = true → B h ≠ B' i))
    (hj : J' ≤ ops.size) (hs : Sim W g'' (Mm J') w'') (he : Ext' g' (Mm J).next g'' (Mm J').next)
    (hz : VR g'' (Mm J').next (V i) z ∨ (opClass P o.op = 2 ∧ J' ≤ i ∧ X i = true ∧ z = .pointer (some ⟨B' i, 0, none⟩))) :
    Inv P W ops T Mm V X g n0 sz (listed.setIfInBounds i true) J' B' g'' (a'.put o.dst z) w'' where
  size := by simpa using inv.size
  down := fun k ok hok hk e hm hb => by
    have hil : i < listed.size := by rw [inv.size]; simpa using get_lt ho
    rw [on_set hil] at hk ⊢
    left
    rcases hk with hk | rfl
    · exact inv.down k ok hok hk e hm hb
    · rw [ho] at hok; cases hok
      exact hedge e hm hb
  hv1 := fun h oh hoh hc hlt => by
    have hil : i < listed.size := by rw [inv.size]; simpa using get_lt ho
    rw [on_set hil]; exact hv1 h oh hoh hc hlt
  hv2 := fun h oh hoh hc hon hle => by
    have hil : i < listed.size := by rw [inv.size]; simpa using get_lt ho
    rw [on_set hil] at hon
    rcases hon with hon | rfl
    · exact inv.hv2 h oh hoh hc hon (by omega)
    · rw [ho] at hoh; cases hoh; exact hv2 hc hle
  pend := fun h oh hoh hc hon hle hx ty zs hop hzs => by
    have hil : i < listed.size := by rw [inv.size]; simpa using get_lt ho
    rw [on_set hil] at hon
    rcases hon with hon | rfl
    · rw [hB h hon]
      exact hpend h oh hoh hc hon hle hx ty zs hop hzs (inv.pend h oh hoh hc hon (by omega) hx ty zs hop hzs)
    · rw [ho] at hoh; cases hoh; exact (hnew hc hle hx).1 ty zs hop hzs
  dist := fun h oh hoh hc hon hle hx h' oh' hoh' hc' hon' hle' hx' e => by
    have hil : i < listed.size := by rw [inv.size]; simpa using get_lt ho
    rw [on_set hil] at hon hon'
    rcases hon with hon | rfl <;> rcases hon' with hon' | rfl
    · rw [hB h hon, hB h' hon'] at e
      exact inv.dist h oh hoh hc hon (by omega) hx h' oh' hoh' hc' hon' (by omega) hx' e
    · rw [hB h hon] at e
      rw [ho] at hoh'; cases hoh'
      exact absurd e ((hnew hc' hle' hx').2 h oh hoh hc hon hle hx)
    · rw [hB h' hon'] at e
      rw [ho] at hoh; cases hoh
      exact absurd e.symm ((hnew hc hle hx).2 h' oh' hoh' hc' hon' hle' hx')
    · rfl
  jle := hj
  sim := hs
  ext := inv.ext.trans he
  tm := fun x => by
    have hil : i < listed.size := by rw [inv.size]; simpa using get_lt ho
    by_cases hd : o.dst = some x
    · refine ⟨i + 1, Nat.succ_le_of_lt (by simpa using get_lt ho), fun k ok hok hdk => ?_, ?_⟩
      · rw [on_set hil, hdst x hd k ok hok hdk]; omega
      · have hTl : (T i).length ≤ a'.tmps.size := by rw [T_len tr i (Nat.le_of_lt (by simpa using get_lt ho)), inv.tsz]; exact hT0
        rcases hz with hz | ⟨hc, hle, hx, hz⟩
        · left
          rw [(tr.did i o (by omega) ho).put, hd]
          simp only [TM.put, TM.getD_set, Act.put]
          by_cases hx : x < (T i).length
          · rw [if_pos (by simpa using hx)]
            have : x < a'.tmps.size := Nat.lt_of_lt_of_le hx hTl
            simp [this]; exact hz
          · rw [if_neg (by simpa using hx)]
            have : (T i).getD x .undef = .undef := by simp [List.getD_eq_getElem?_getD, List.getElem?_eq_none (Nat.le_of_not_lt hx)]
            rw [this]; exact .undef _
        · by_cases hxl : x < a'.tmps.size
          · right
            refine ⟨i, o, ho, hd, rfl, hc, (on_set hil).2 (.inr rfl), hle, hx, ?_⟩
            rw [hd]
            simp [Act.put, hxl, hz]
          · left
            have hx' : ¬ x < (T i).length := fun h => hxl (Nat.lt_of_lt_of_le h hTl)
            rw [(tr.did i o (by omega) ho).put, hd]
            simp only [TM.put, TM.getD_set]
            rw [if_neg (by simpa using hx')]
            have : (T i).getD x .undef = .undef := by simp [List.getD_eq_getElem?_getD, List.getElem?_eq_none (Nat.le_of_not_lt hx')]
            rw [this]; exact .undef _
    · obtain ⟨q, h1, h2, h3⟩ := inv.tm x
      have e : (a'.put o.dst z).tmps.getD x Go.undef = a'.tmps.getD x Go.undef := by
        cases hod : o.dst with
        | none => rfl
        | some d =>
          have : d ≠ x := fun e => hd (by rw [hod, e])
          simp [Act.put, Array.getD_eq_getD_getElem?, Array.getElem?_setIfInBounds, this]
      refine ⟨q, h1, fun k ok hok hdk => ?_, ?_⟩
      · rw [on_set hil, h2 k ok hok hdk]
        constructor
        · rintro (h | rfl)
          · exact h
          · rw [ho] at hok; cases hok; exact absurd hdk hd
        · exact .inl
      · rw [e]
        rcases h3 with h3 | ⟨h, oh, hoh, hdh, hq, hch, hon, hJh', hxh, hval⟩
        · exact .inl (h3.mono he)
        · have hge := hJh h hon hJh'
          · exact .inr ⟨h, oh, hoh, hdh, hq, hch, (on_set hil).2 (.inl hon), hge, hxh, by rw [hB h hon]; exact hval⟩
  tsz := by rw [← inv.tsz]; cases o.dst <;> simp [Act.put]
  defers := by rw [← inv.defers]; cases o.dst <;> simp [Act.put]

theorem draw_any {bf : List Nat} (hbf : bf = befores [] ops.toList) (hok : Okd P ops bf) (hcall : ∀ W, CallOk P W call) (tr : Trace P call ops.toList bf 0 [] [] T Mm V X) {g : Gm} {n0 sz : Nat} (hT0 : (T 0).length ≤ sz) {Q : Exit → Act → World → Prop}
    (hQ : ∀ g' a' w', Sim W g' (Mm ops.size) w' → Ext' g n0 g' (Mm ops.size).next → (∀ x, VR g' (Mm ops.size).next ((T ops.size).getD x .undef) (a'.tmps.getD x Go.undef)) → a'.tmps.size = sz → a'.defers = [] → Q .normal a' w') :
    ∀ (fuel : Nat) (listed : Array Bool) (J : Nat) (B : Nat → Nat) (g' : Gm) (a' : Act) (w' : World), Inv P W ops T Mm V X g n0 sz listed J B g' a' w' → (∀ o, ops.toList[J]? = some o → opClass P o.op = 2 ∧ ¬ on listed J) → ((List.range ops.size).filter fun i => !listed.getD i false).length ≤ fuel →
      wpAny P .any ops Q fuel listed a' w' := by
  subst hbf
  -- all is listed
  have hend : ∀ (listed : Array Bool) (J : Nat) (B : Nat → Nat) (g' : Gm) (a' : Act) (w' : World), Inv P W ops T Mm V X g n0 sz listed J B g' a' w' → (∀ o, ops.toList[J]? = some o → opClass P o.op = 2 ∧ ¬ on listed J) → (∀ i, i < ops.size → on listed i) → Q .normal a' w' := by
    intro listed J B g' a' w' inv hmax hall
    have hJe : J = ops.size := by
      rcases Nat.lt_or_ge J ops.size with h | h
      · obtain ⟨o, ho⟩ := get_some (l := ops.toList) (i := J) (by simpa using h)
        exact absurd (hall J h) (hmax o ho).2
      · exact Nat.le_antisymm inv.jle h
    have hM : Mm J = Mm ops.size := by rw [hJe]
    have hs := inv.sim
    have he := inv.ext
    rw [hM] at hs he
    refine hQ g' a' w' hs he (fun x => ?_) inv.tsz inv.defers
    obtain ⟨q, h1, h2, h3⟩ := inv.tm x
    have : (T q).getD x .undef = (T ops.size).getD x .undef := T_same' tr h1 (Nat.le_refl _) (fun k o ho hd => by
      have hk : k < ops.size := by simpa using get_lt ho
      have := (h2 k o ho hd).1 (hall k hk)
      omega)
    rw [← this, ← hM]
    rcases h3 with h3 | ⟨h, oh, hoh, hdh, hq, hch, hon, hJh, hxh, hval⟩
    · exact h3
    · have := get_lt hoh
      simp at this
      omega
  -- where nothing is ready all is listed
  have hready : ∀ (listed : Array Bool), listed.size = ops.size → Region.ready .any ops listed = [] → ∀ i, i < ops.size → on listed i := by
    intro listed hsz hr i
    induction i using Nat.strongRecOn with
    | _ i ih =>
      intro hi
      cases hoi : listed.getD i false with
      | true => exact hoi
      | false =>
        obtain ⟨o, ho⟩ := get_some (l := ops.toList) (i := i) (by simpa using hi)
        have hmem : i ∈ Region.ready .any ops listed := by
          unfold Region.ready
          refine List.mem_filter.2 ⟨List.mem_range.2 hi, ?_⟩
          have h1 : listed.getD i true = false := by
            simp [Array.getD_eq_getD_getElem?, show i < listed.size by omega] at hoi ⊢
            exact hoi
          have h2 : ops[i]? = some o := by simpa using ho
          simp only [h1, Bool.not_false, Bool.true_and, h2, Option.map_some, Option.getD_some]
          rw [Array.all_eq_true']
          intro e he
          cases hb : Region.binds .any e with
          | false => rfl
          | true =>
            have hlt := hok.edge i o ho e (by simpa using he) hb
            exact ih e.on hlt (by omega)
        rw [hr] at hmem; cases hmem
  intro fuel
  induction fuel with
  | zero =>
    intro listed J B g' a' w' inv hmax hf
    have hall : ∀ i, i < ops.size → on listed i := by
      intro i hi
      have : (List.range ops.size).filter (fun i => !listed.getD i false) = [] := List.length_eq_zero_iff.1 (by omega)
      rw [List.filter_eq_nil_iff] at this
      have := this i (List.mem_range.2 hi)
      unfold on
      cases hoi : listed.getD i false with
      | true => rfl
      | false => rw [hoi] at this; exact absurd rfl this
    refine ⟨?_, hend _ _ _ _ _ _ inv hmax hall⟩
    unfold Region.ready
    rw [List.filter_eq_nil_iff]
    intro i hi
    have h1 := hall i (List.mem_range.1 hi)
    have : listed.getD i true = true := by
      have hil : i < listed.size := by rw [inv.size]; exact List.mem_range.1 hi
      unfold on at h1
      simp [Array.getD_eq_getD_getElem?, hil] at h1 ⊢
      exact h1
    simp [this]
  | succ fuel ih =>
    intro listed J B g' a' w' inv hmax hf
    refine ⟨fun hr => hend _ _ _ _ _ _ inv hmax (hready listed inv.size hr), fun i hi => ?_⟩
    unfold Region.ready at hi
    obtain ⟨hir, hi⟩ := List.mem_filter.1 hi
    have hir := List.mem_range.1 hir
    obtain ⟨o, ho⟩ := get_some (l := ops.toList) (i := i) (by simpa using hir)
    have ho' : ops[i]? = some o := by simpa using ho
    simp only [Bool.and_eq_true, Bool.not_eq_true', ho', Option.map_some, Option.getD_some] at hi
    obtain ⟨hi1, hi2⟩ := hi
    have hil : i < listed.size := by rw [inv.size]; exact hir
    have hni : ¬ on listed i := by
      unfold on
      simp [Array.getD_eq_getD_getElem?, hil] at hi1 ⊢
      exact hi1
    have hedge : ∀ e ∈ o.after.toList, Region.binds .any e = true → on listed e.on := by
      intro e he hb
      rw [Array.all_eq_true'] at hi2
      have := hi2 e (by simpa using he)
      unfold on
      rw [hb] at this
      exact this
    have hahead : ∀ j, ((befores [] ops.toList).getD i 0).testBit j = true → on listed j := ahead_listed (D := on listed) hok.edge (fun k ok hk hl e he hb => inv.down k ok hk hl e he hb) i o ho hedge
    have hahead' : ∀ (k : Nat) ok, ops.toList[k]? = some ok → on listed k → ∀ j, ((befores [] ops.toList).getD k 0).testBit j = true → on listed j := fun k ok hk hl => ahead_listed (D := on listed) hok.edge (fun k ok hk hl e he hb => inv.down k ok hk hl e he hb) k ok hk (inv.down k ok hk hl)
    -- what writes and stands ahead is behind the memory's place
    have hbit : ∀ (h : Nat) oh, ops.toList[h]? = some oh → opClass P oh.op = 2 → ((befores [] ops.toList).getD i 0).testBit h = true → h < J := by
      intro h oh hoh hch hb
      rcases Nat.lt_or_ge h J with hlt | hge
      · exact hlt
      · exfalso
        have hon := hahead h hb
        have hal := inv.hv2 h oh hoh hch hon hge
        obtain ⟨oJ, hoJ⟩ := get_some (l := ops.toList) (i := J) (by have := get_lt hoh; omega)
        obtain ⟨m1, m2⟩ := hmax oJ hoJ
        have hne : J ≠ h := fun e => m2 (by rw [e]; exact hon)
        exact m2 (hahead J (hok.early i o ho h oh hoh hal hb J oJ hoJ m1 (by omega)))
    -- the writers of what is named here
    have hwr : ∀ x ∈ namesOf o, ∀ (k : Nat) ok, ops.toList[k]? = some ok → ok.dst = some x → (on listed k ↔ k < i) := by
      intro x hx k ok hk hd
      rcases hok.names i o ho x hx k ok hk hd with rfl | hb
      · exact ⟨fun h => absurd h hni, fun h => absurd h (Nat.lt_irrefl _)⟩
      · rcases Nat.lt_trichotomy k i with h | h | h
        · rw [Nat.max_eq_right (by omega), Nat.min_eq_left (by omega)] at hb
          exact ⟨fun _ => h, fun _ => hahead k hb⟩
        · subst h; exact ⟨fun h => absurd h hni, fun h => absurd h (Nat.lt_irrefl _)⟩
        · rw [Nat.max_eq_left (by omega), Nat.min_eq_right (by omega)] at hb
          exact ⟨fun hl => absurd (hahead' k ok hk hl i hb) hni, fun h' => by omega⟩
    have hval : ∀ x, (∀ (k : Nat) ok, ops.toList[k]? = some ok → ok.dst = some x → (on listed k ↔ k < i)) → (∀ (k : Nat) ok, ops.toList[k]? = some ok → ok.dst = some x → k < i → ((befores [] ops.toList).getD i 0).testBit k = true) → VR g' (Mm J).next ((T i).getD x .undef) (a'.tmps.getD x Go.undef) := by
      intro x hx hxb
      obtain ⟨q, h1, h2, h3⟩ := inv.tm x
      rw [← T_same' tr h1 (by omega) (fun k ok hk hd => by rw [← h2 k ok hk hd]; exact hx k ok hk hd)]
      rcases h3 with h3 | ⟨h, oh, hoh, hdh, hq, hch, hon, hJh, hxh, hval⟩
      · exact h3
      · have := hbit h oh hoh hch (hxb h oh hoh hdh ((hx h oh hoh hdh).1 hon))
        omega
    have hwb : ∀ x ∈ namesOf o, ∀ (k : Nat) ok, ops.toList[k]? = some ok → ok.dst = some x → k < i → ((befores [] ops.toList).getD i 0).testBit k = true := by
      intro x hx k ok hk hd hlt
      rcases hok.names i o ho x hx k ok hk hd with rfl | hb
      · omega
      · rwa [Nat.max_eq_right (by omega), Nat.min_eq_left (by omega)] at hb
    have hdid := tr.did i o (by omega) ho
    have hTl : (T i).length ≤ a'.tmps.size := by rw [T_len tr i (by omega), inv.tsz]; exact hT0
    have hwant := hdid.wants g' (Mm J).next a' ops rfl hTl (fun j want d oj hg hoj hdj => hval d (fun k ok hk hd => by
      obtain ⟨h1, h2⟩ := hok.guard i o j want ho hg
      have := h2 oj d hoj hdj k ok hk hd
      subst this
      exact ⟨fun _ => ahead_lt hok.edge ho h1, fun _ => hahead _ h1⟩) (fun k ok hk hd _ => by
      obtain ⟨h1, h2⟩ := hok.guard i o j want ho hg
      have := h2 oj d hoj hdj k ok hk hd
      subst this
      exact h1))
    have hdst : ∀ x, o.dst = some x → ∀ (k : Nat) o', ops.toList[k]? = some o' → o'.dst = some x → (on listed k ↔ k < i) := fun x hx => hwr x (by simp [namesOf, hx])
    have hcount : ((List.range ops.size).filter fun k => !(listed.setIfInBounds i true).getD k false).length ≤ fuel := by
      have := filter_lt (p := fun k => !listed.getD k false) (p' := fun k => !(listed.setIfInBounds i true).getD k false) (l := List.range ops.size) (x := i) (fun k hk => by
        cases hlk : listed.getD k false with
        | false => rfl
        | true =>
          have := (on_set (k := k) hil).2 (.inl hlk)
          unfold on at this
          rw [this] at hk; cases hk) (List.mem_range.2 hir) (by unfold on at hni; simpa using hni) (by have := (on_set (k := i) hil).2 (.inr rfl); unfold on at this; rw [this]; rfl)
      omega
    -- the memory's place
    have hJ : opClass P o.op = 2 → J ≤ i := by
      intro hc
      rcases Nat.lt_or_ge i J with h | h
      · exact absurd (inv.hv1 i o ho hc h) hni
      · exact h
    have hJe : opClass P o.op = 2 → isAlloc o.op = false → J = i := by
      intro hc ha
      rcases Nat.lt_or_ge J i with h | h
      · obtain ⟨oJ, hoJ⟩ := get_some (l := ops.toList) (i := J) (by simp; omega)
        obtain ⟨m1, m2⟩ := hmax oJ hoJ
        rcases hok.heavy i o ho hc J oJ hoJ m1 h with hb | hb
        · exact absurd (hahead J hb) m2
        · rw [ha] at hb; cases hb
      · exact Nat.le_antisymm (hJ hc) h
    -- on with it
    have hnext : ∀ {J' : Nat} {B' : Nat → Nat} {g'' : Gm} {a'' : Act} {w'' : World}, Inv P W ops T Mm V X g n0 sz (listed.setIfInBounds i true) J' B' g'' a'' w'' → wpAny P .any ops Q fuel (listed.setIfInBounds i true) a'' w'' := by
      intro J' B' g'' a'' w'' inv'
      obtain ⟨J2, g2, inv2, hmax2⟩ := inv'.norm tr _ _ (Nat.le_refl _)
      exact ih _ J2 B' g2 a'' w'' inv2 hmax2 hcount
    -- what was made ahead of its turn is kept
    let E : Nat → Prop := fun b => ∃ (h : Nat) (oh : Oper), ops.toList[h]? = some oh ∧ opClass P oh.op = 2 ∧ on listed h ∧ J ≤ h ∧ X h = true ∧ B h = b
    have hEp : ∀ b, E b → ∃ ty zs, Pend W g' (Mm J) w' ty zs b := by
      rintro b ⟨h, oh, hoh, hch, hon, hle, hx, rfl⟩
      obtain ⟨ty, zs, hop, hzs, _⟩ := alloc_did tr hoh hch (inv.hv2 h oh hoh hch hon hle) hx
      exact ⟨ty, zs, inv.pend h oh hoh hch hon hle hx ty zs hop hzs⟩
    have hE : ∀ b, E b → b < w'.heap.size := by
      intro b hb
      obtain ⟨ty, zs, ⟨c, h1, _⟩, _⟩ := hEp b hb
      rcases Nat.lt_or_ge b w'.heap.size with h | h
      · exact h
      · rw [Array.getElem?_eq_none h] at h1; cases h1
    have hEo : ∀ j, j < (Mm J).next → ¬ E (g'.blk j) := by
      intro j hj hb
      obtain ⟨ty, zs, _, _, h3⟩ := hEp _ hb
      exact h3 j hj rfl
    have hmore := inv.sim.more hE hEo
    have hafter : ∀ {g'' : Gm} {m'' : Mem} {w'' : World}, Sim (W.more w' E inv.sim.below hE) g'' m'' w'' → Ext' g' (Mm J).next g'' m''.next → Sim W g'' m'' w'' ∧ ∀ b ty zs, E b → Pend W g' (Mm J) w' ty zs b → Pend W g'' m'' w'' ty zs b := by
      intro g'' m'' w'' hs he
      have hbase : m''.base = (Mm J).base := by rw [← hs.gbase, he.base, inv.sim.gbase]
      have hold : ∀ i, i < m''.base → ¬ E i := by
        intro i hi hb
        rw [hbase] at hi
        have h1 := (inv.sim.old i hi).1
        have hle := inv.sim.le
        exact hEo i (by omega) (by rw [h1]; exact hb)
      refine ⟨Sim.less inv.sim.below hs hold, fun b ty zs hb hp => ?_⟩
      obtain ⟨⟨c, h1, h2⟩, h3, h4⟩ := hp
      refine ⟨⟨c, by rw [hs.below.block b (.inr hb)]; exact h1, h2⟩, h3, fun j hj e => ?_⟩
      rcases Nat.lt_or_ge j m''.base with h | h
      · rw [(hs.old j h).1] at e
        exact hold j h (by rw [e]; exact hb)
      · exact (hs.own j h hj).1 (.inr (by rw [e]; exact hb))
    -- the memory's place stays
    have hstay : ∀ {g'' : Gm} {w'' : World} {z : Value}, (opClass P o.op ≠ 2 ∨ X i = false ∧ isAlloc o.op = true) → Sim (W.more w' E inv.sim.below hE) g'' (Mm J) w'' → Ext' g' (Mm J).next g'' (Mm J).next → VR g'' (Mm J).next (V i) z →
        wpAny P .any ops Q fuel (listed.setIfInBounds i true) (a'.put o.dst z) w'' := by
      intro g'' w'' z hcl hs he hz
      obtain ⟨hs', hp'⟩ := hafter hs he
      refine hnext (inv.step tr hT0 ho hni hedge hdst (J' := J) (B' := B) (Nat.le_refl _) (fun _ _ h => h) (fun h oh hoh hch hlt => .inl (inv.hv1 h oh hoh hch hlt)) (fun hc _ => ?_) (fun _ _ => rfl) ?_ (fun hc _ hx => ?_) inv.jle hs' he (.inl hz))
      · rcases hcl with h | h
        · exact absurd hc h
        · exact h.2
      · intro h oh hoh hch hon hle hx ty zs hop hzs hp
        exact hp' _ _ _ ⟨h, oh, hoh, hch, hon, hle, hx, rfl⟩ hp
      · rcases hcl with h | h
        · exact absurd hc h
        · rw [h.1] at hx; cases hx
    -- the frame that the operation sees
    have hev : ∃ t' : TM, (∀ x ∈ o.op.operands, t'.ev x = (T i).ev x) ∧ ∀ x, VR g' (Mm J).next (t'.ev x) (a'.eval x) := by
      refine ⟨(List.range (T i).length).map fun x => if x ∈ namesOf o then (T i).getD x .undef else .undef, fun x hx => ?_, fun x => ?_⟩
      · cases x with
        | tmp x =>
          have hn : x ∈ namesOf o := by simp only [namesOf, List.mem_append, List.mem_filterMap]; exact .inr ⟨.tmp x, by simpa using hx, rfl⟩
          show List.getD _ x AV.undef = List.getD _ x AV.undef
          by_cases hl : x < (T i).length
          · simp [List.getD_eq_getElem?_getD, hl, hn]
          · simp [List.getD_eq_getElem?_getD, List.getElem?_eq_none (Nat.le_of_not_lt hl), hl]
        | _ => rfl
      · cases x with
        | tmp x =>
          show VR g' (Mm J).next (List.getD _ x AV.undef) (a'.tmps.getD x Go.undef)
          by_cases hl : x < (T i).length
          · by_cases hn : x ∈ namesOf o
            · have := hval x (hwr x hn) (hwb x hn)
              simpa [List.getD_eq_getElem?_getD, hl, hn] using this
            · simp [List.getD_eq_getElem?_getD, hl, hn]; exact .undef _
          · simp [List.getD_eq_getElem?_getD, hl]; exact .undef _
        | const v => exact VR.av _ _ v
        | global b => exact .undef _
        | func f => exact .func _ _ _ [] [] .nil .nil
    obtain ⟨t', ht1, ht2⟩ := hev
    unfold wpOp
    rw [ho']
    simp only [hwant]
    cases hX : X i with
    | false =>
      rw [if_neg (by simp)]
      obtain ⟨hv0, hm0⟩ := hdid.skip hX
      have hz : ∀ n, VR g' n (V i) Go.undef := fun n => by rw [hv0]; exact .tup [] [] .nil
      by_cases hc : opClass P o.op = 2 ∧ isAlloc o.op = false
      · obtain ⟨hc, ha⟩ := hc
        have e := hJe hc ha
        subst e
        refine hnext (inv.step tr hT0 ho hni hedge hdst (J' := J + 1) (B' := B) (Nat.le_succ _) (fun h hon hle => ?_) (fun h oh hoh hch hlt => ?_) (fun _ hle => by omega) (fun _ _ => rfl) (fun h oh hoh hch hon hle hx ty zs hop hzs hp => by rw [hm0]; exact hp) (fun _ hle => by omega) (by omega) (by rw [hm0]; exact inv.sim) (by rw [hm0]; exact Ext'.refl _ _) (.inl (hz _)))
        · rcases Nat.lt_or_ge J h with h' | h'
          · exact h'
          · exact absurd (by rw [show J = h by omega]; exact hon) hni
        · rcases Nat.lt_or_ge h J with h' | h'
          · exact .inl (inv.hv1 h oh hoh hch h')
          · exact .inr (by omega)
      · exact hstay (by
          by_cases h2 : opClass P o.op = 2
          · right
            refine ⟨hX, ?_⟩
            cases ha : isAlloc o.op with
            | true => rfl
            | false => exact absurd ⟨h2, ha⟩ hc
          · exact .inl h2) hmore (Ext'.refl _ _) (hz _)
    | true =>
      rw [if_pos rfl]
      left
      rcases class_le o.op with hc | hc | hc
      · -- neither reads nor writes
        refine aop_sound (ρ := AV × Mem) (k := fun v m' => some ((v, m'), m')) (r := ((V i, Mm J), Mm J)) (hcall _) hmore (fun v z g'' m'' w'' hv hs he hk => ?_) ht2 (by rw [aop_congr call o ht1]; exact hdid.pure hX hc (Mm J) _)
        cases hk
        exact hstay (.inl (by omega)) hs he hv
      · -- a load
        obtain ⟨sh, b, ⟨ty, x, hop, hsh, hb⟩, hl0, _, hl1, hl2⟩ := tr.loads i o (by omega) ho hX hc
        have hload : load? sh b (Mm J) = some (V i) := by
          rcases Nat.le_total J i with hle | hle
          · -- the first writing operation from J on
            have key : ∀ d, J + d ≤ i → (∀ (k : Nat) ok, J ≤ k → k < J + d → ops.toList[k]? = some ok → opClass P ok.op = 2 → X k = false) ∨ ∃ (h : Nat) (oh : Oper), J ≤ h ∧ h < J + d ∧ ops.toList[h]? = some oh ∧ opClass P oh.op = 2 ∧ X h = true ∧ ∀ (k : Nat) ok, J ≤ k → k < h → ops.toList[k]? = some ok → opClass P ok.op = 2 → X k = false := by
              intro d
              induction d with
              | zero => intro _; exact .inl fun k ok h1 h2 => by omega
              | succ d ihd =>
                intro hd
                rcases ihd (by omega) with h1 | ⟨h, oh, h1, h2, h3, h4, h5, h6⟩
                · obtain ⟨od, hod⟩ := get_some (l := ops.toList) (i := J + d) (by simp; omega)
                  by_cases hcd : opClass P od.op = 2 ∧ X (J + d) = true
                  · exact .inr ⟨J + d, od, by omega, by omega, hod, hcd.1, hcd.2, h1⟩
                  · left
                    intro k ok hk1 hk2 hk3 hk4
                    rcases Nat.lt_or_ge k (J + d) with h | h
                    · exact h1 k ok hk1 h hk3 hk4
                    · have : k = J + d := by omega
                      subst this
                      rw [hod] at hk3; cases hk3
                      cases hxk : X (J + d) with
                      | false => rfl
                      | true => exact absurd ⟨hk4, hxk⟩ hcd
                · exact .inr ⟨h, oh, h1, by omega, h3, h4, h5, h6⟩
            obtain ⟨d, rfl⟩ := Nat.exists_eq_add_of_le hle
            rcases key d (Nat.le_refl _) with h1 | ⟨h, oh, h1, h2, h3, h4, h5, h6⟩
            · rw [M_same tr d J (by omega) (fun k ok a b c e => h1 k ok a b c e)]; exact hl0
            · obtain ⟨dd, rfl⟩ := Nat.exists_eq_add_of_le h1
              rw [M_same tr dd J (by omega) (fun k ok a b c e => h6 k ok a b c e)]
              refine hl1 (J + dd) oh (by omega) (by omega) h3 h4 h5 ?_
              cases hbt : ((befores [] ops.toList).getD (J + d) 0).testBit (J + dd) with
              | false => rfl
              | true =>
                have := hbit (J + dd) oh h3 h4 hbt
                omega
          · -- the last writing operation ahead of J
            have key : ∀ d, i + d ≤ J → (∀ (k : Nat) ok, i ≤ k → k < i + d → ops.toList[k]? = some ok → opClass P ok.op = 2 → X k = false) ∨ ∃ (h : Nat) (oh : Oper), i ≤ h ∧ h < i + d ∧ ops.toList[h]? = some oh ∧ opClass P oh.op = 2 ∧ X h = true ∧ ∀ (k : Nat) ok, h + 1 ≤ k → k < i + d → ops.toList[k]? = some ok → opClass P ok.op = 2 → X k = false := by
              intro d
              induction d with
              | zero => intro _; exact .inl fun k ok h1 h2 => by omega
              | succ d ihd =>
                intro hd
                obtain ⟨od, hod⟩ := get_some (l := ops.toList) (i := i + d) (by have := inv.jle; simp; omega)
                by_cases hcd : opClass P od.op = 2 ∧ X (i + d) = true
                · exact .inr ⟨i + d, od, by omega, by omega, hod, hcd.1, hcd.2, fun k ok h1 h2 => by omega⟩
                · have hlast : ∀ (k : Nat) ok, k = i + d → ops.toList[k]? = some ok → opClass P ok.op = 2 → X k = false := by
                    intro k ok hk hk3 hk4
                    subst hk
                    rw [hod] at hk3; cases hk3
                    cases hxk : X (i + d) with
                    | false => rfl
                    | true => exact absurd ⟨hk4, hxk⟩ hcd
                  rcases ihd (by omega) with h1 | ⟨h, oh, h1, h2, h3, h4, h5, h6⟩
                  · left
                    intro k ok hk1 hk2 hk3 hk4
                    rcases Nat.lt_or_ge k (i + d) with h | h
                    · exact h1 k ok hk1 h hk3 hk4
                    · exact hlast k ok (by omega) hk3 hk4
                  · refine .inr ⟨h, oh, h1, by omega, h3, h4, h5, fun k ok hk1 hk2 hk3 hk4 => ?_⟩
                    rcases Nat.lt_or_ge k (i + d) with h' | h'
                    · exact h6 k ok hk1 h' hk3 hk4
                    · exact hlast k ok (by omega) hk3 hk4
            obtain ⟨d, hd⟩ := Nat.exists_eq_add_of_le hle
            subst hd
            rcases key d (Nat.le_refl _) with h1 | ⟨h, oh, h1, h2, h3, h4, h5, h6⟩
            · rw [← M_same tr d i inv.jle (fun k ok a b c e => h1 k ok a b c e)]; exact hl0
            · obtain ⟨dd, hdd⟩ := Nat.exists_eq_add_of_le (show h + 1 ≤ i + d by omega)
              rw [hdd, ← M_same tr dd (h + 1) (by have := inv.jle; omega) (fun k ok a b c e => h6 k ok a (by omega) c e)]
              have hne : h ≠ i := by
                intro e; subst e
                rw [ho] at h3; cases h3; omega
              refine hl2 h oh (by omega) h3 h4 h5 ?_
              cases hbt : ((befores [] ops.toList).getD h 0).testBit i with
              | false => rfl
              | true => exact absurd (hahead' h oh h3 (inv.hv1 h oh h3 h4 h2) i hbt) hni
        refine aop_sound (ρ := AV × Mem) (k := fun v m' => some ((v, m'), m')) (r := ((V i, Mm J), Mm J)) (hcall _) hmore (fun v z g'' m'' w'' hv hs he hk => ?_) ht2 (by
          rw [aop_congr call o ht1]
          unfold aop
          rw [hop]
          simp only [hsh, hb]
          unfold bnd load
          rw [hload]
          rfl)
        cases hk
        exact hstay (.inl (by omega)) hs he hv
      · cases ha : isAlloc o.op with
        | false =>
          -- it writes
          have e := hJe hc ha
          subst e
          refine aop_sound (ρ := AV × Mem) (k := fun v m' => some ((v, m'), m')) (r := ((V J, Mm (J + 1)), Mm (J + 1))) (hcall _) hmore (fun v z g'' m'' w'' hv hs he hk => ?_) ht2 (by rw [aop_congr call o ht1]; exact hdid.heavy hX hc _)
          cases hk
          obtain ⟨hs', hp'⟩ := hafter hs he
          refine hnext (inv.step tr hT0 ho hni hedge hdst (J' := J + 1) (B' := B) (Nat.le_succ _) (fun h hon hle => ?_) (fun h oh hoh hch hlt => ?_) (fun _ hle => by omega) (fun _ _ => rfl) (fun h oh hoh hch hon hle hx ty zs hop hzs hp => hp' _ _ _ ⟨h, oh, hoh, hch, hon, by omega, hx, rfl⟩ hp) (fun _ hle => by omega) (by omega) hs' he (.inl hv))
          · rcases Nat.lt_or_ge J h with h' | h'
            · exact h'
            · exact absurd (by rw [show J = h by omega]; exact hon) hni
          · rcases Nat.lt_or_ge h J with h' | h'
            · exact .inl (inv.hv1 h oh hoh hch h')
            · exact .inr (by omega)
        | true =>
          -- a new variable
          obtain ⟨ty, zs, hop, hzs, hV, hM⟩ := alloc_did tr ho hc ha hX
          obtain ⟨iz, zv, hiz, hizz, hzv, hrun⟩ := zero_sound (g := g') (n := 0) hzs
          have hzv' : ∀ (g : Gm) (n : Nat), VRs g n zs zv.cells.toList := by
            intro g n
            obtain ⟨iz', zv', hiz', hizz', hzv', _⟩ := zero_sound (g := g) (n := n) hzs
            rw [hiz] at hiz'; cases hiz'
            rw [hizz] at hizz'; cases hizz'
            exact hzv'
          have hexec : (execOp a'.eval o).run P w' = .ok (.value (.pointer (some ⟨w'.heap.size, 0, none⟩))) (w'.alloc (.cells zv.cells ty (0, 0))) := by
            unfold execOp
            rw [hop]
            simp [Instr.alloc, hrun, newVar, newRow]
          refine val_wp hexec ?_
          refine hnext (inv.step tr hT0 ho hni hedge hdst (J' := J) (B' := fun h => if h = i then w'.heap.size else B h) (g'' := g') (Nat.le_refl _) (fun _ _ h => h) (fun h oh hoh hch hlt => .inl (inv.hv1 h oh hoh hch hlt)) (fun _ _ => ha) (fun h hon => ?_) ?_ (fun _ _ _ => ⟨?_, ?_⟩) inv.jle (inv.sim.allocOther _) (Ext'.refl _ _) (.inr ⟨hc, hJ hc, hX, by simp⟩))
          · have : h ≠ i := fun e => hni (by rw [← e]; exact hon)
            simp [this]
          · intro h oh hoh hch hon hle hx ty' zs' hop' hzs' hp
            obtain ⟨⟨c, h1, h2⟩, h3, h4⟩ := hp
            refine ⟨⟨c, ?_, h2⟩, h3, h4⟩
            rw [wold _ _ _ (hE _ ⟨h, oh, hoh, hch, hon, hle, hx, rfl⟩)]
            exact h1
          · intro ty' zs' hop' hzs'
            rw [hop] at hop'; cases hop'
            rw [hzs] at hzs'; cases hzs'
            simp only [if_true]
            refine ⟨⟨zv.cells, wnew _ _, hzv'⟩, fun h => Nat.lt_irrefl _ (inv.sim.below.lt h), fun j hj e => ?_⟩
            rcases Nat.lt_or_ge j (Mm J).base with h | h
            · have h1 := (inv.sim.old j h).1
              have h2 := inv.sim.mbase
              omega
            · have := (inv.sim.own j h hj).2
              omega
          · intro h oh hoh hch hon hle hx e
            have := hE _ ⟨h, oh, hoh, hch, hon, hle, hx, rfl⟩
            simp at e
            omega

end

/-- A region that draws its order. -/
theorem runDraw_sound {ρ : Type} {P : Program} {W : Ref} {nt : Nat} {call : Nat → List AV → M AV} {ops : Array Oper} {g : Gm} {m : Mem} {t : TM} {a : Act} {w : World} {K : TM → M ρ} {r : ρ × Mem} {Q : Exit → Act → World → Prop} {id : Nat}
    (hm : P.follows .mixedOrders = true) (hcall : ∀ W, CallOk P W call) (s : St W nt g m t a w) (hok : drawOk P ops.toList (befores [] ops.toList) = true) (hK : Then W nt g m K r (Q .normal))
    (h : runDraw P call ops.toList (befores [] ops.toList) 0 0 ops.toList [] [] K t m = some r) : (Code.region id ops true).wp P Q a w := by
  obtain ⟨T, Mm, V, X, hT, hM, hK', tr⟩ := runDraw_trace ops.toList 0 0 t m [] [] (by simp) h
  simp only [Nat.zero_add, Array.length_toList] at hK'
  subst hT hM
  refine wp_region_any hm ?_
  have inv0 : Inv P W ops T Mm V X g (Mm 0).next a.tmps.size (Array.replicate ops.size false) 0 (fun _ => 0) g a w.drew := by
    have hoff : ∀ i, ¬ on (Array.replicate ops.size false) i := fun i hl => by
      unfold on at hl; simp [Array.getD_eq_getD_getElem?, Array.getElem?_replicate] at hl
      split at hl <;> simp at hl
    refine ⟨by simp, fun i o ho hl => absurd hl (hoff i), fun h o ho hc hl => absurd hl (Nat.not_lt_zero _), fun h o ho hc hl => absurd hl (hoff h), fun h o ho hc hl => absurd hl (hoff h), fun h o ho hc hl => absurd hl (hoff h), Nat.zero_le _, s.sim.drew, Ext'.refl _ _, fun x => ⟨0, Nat.zero_le _, fun k o ho hd => ⟨fun hl => absurd hl (hoff k), fun hl => absurd hl (Nat.not_lt_zero _)⟩, .inl (s.tm x)⟩, rfl, s.defers⟩
  obtain ⟨J, g', inv, hmax⟩ := inv0.norm tr _ _ (Nat.le_refl _)
  refine draw_any rfl (drawOk_spec hok) hcall tr (g := g) (n0 := (Mm 0).next) (sz := a.tmps.size) s.len (fun g' a' w' h1 h2 h3 h4 h5 => hK g' (Mm ops.size) (T ops.size) a' w' ⟨h1, h3, ?_, ?_, h5⟩ h2 hK') ops.size _ J _ g' a _ inv hmax ?_
  · rw [h4, T_len tr ops.size (Nat.le_refl _)]; exact s.len
  · rw [h4]; exact s.nt
  · have := List.length_filter_le (fun i => !(Array.replicate ops.size false).getD i false) (List.range ops.size)
    simpa using this

end Go.Proofs.YtooogfnmhfocjaaGreatDoor.Spl
