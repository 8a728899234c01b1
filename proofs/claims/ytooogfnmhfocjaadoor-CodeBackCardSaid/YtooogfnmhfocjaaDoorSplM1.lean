/- Texts of the abstract machine and of the walks, part 1. -/
import Derived.Test.YtooogfnmhfocjaaDoorSplM0
import Derived.IntWalk

/- The abstract machine, 11: a region that draws its order comes to what it comes to in the order of the text. -/
namespace Go.Proofs.YtooogfnmhfocjaaDoor.Spl
open Go Go.RowKit Go.Lib
set_option linter.unusedVariables false
set_option linter.unusedSimpArgs false

theorem filter_le {α : Type} {p p' : α → Bool} (h : ∀ x, p' x = true → p x = true) : ∀ l : List α, (l.filter p').length ≤ (l.filter p).length
  | [] => by simp
  | z :: l => by
    have ih := filter_le h l
    cases h1 : p' z with
    | true => simp [List.filter_cons, h1, h z h1]; exact ih
    | false => cases h2 : p z <;> simp [List.filter_cons, h1, h2] <;> omega
theorem filter_lt {α : Type} {p p' : α → Bool} (h : ∀ x, p' x = true → p x = true) : ∀ {l : List α} {x : α}, x ∈ l → p x = true → p' x = false → (l.filter p').length < (l.filter p).length
  | y :: l, x, hm, hp, hn => by
    cases hm with
    | head => have := filter_le h l; simp [List.filter_cons, hp, hn]; omega
    | tail _ hm =>
      have ih := filter_lt h hm hp hn
      cases h1 : p' y with
      | true => simp [List.filter_cons, h1, h y h1]; exact ih
      | false => cases h2 : p y <;> simp [List.filter_cons, h1, h2] <;> omega

section
variable {P : Program} {W : Ref} {nt : Nat} {call : Nat → List AV → M AV} {ops : Array Oper} {T : Nat → TM} {Mm : Nat → Mem} {V : Nat → AV} {X : Nat → Bool}

abbrev on (listed : Array Bool) (i : Nat) : Prop := listed.getD i false = true

/-- A variable that was made ahead of its turn: in block b. -/
structure Pend (W : Ref) (g' : Gm) (m : Mem) (w' : World) (ty : TypeId) (z : List AV) (b : Nat) : Prop where
  cells : ∃ c : Array Value, w'.heap[b]? = some (.cells c ty (0, 0)) ∧ ∀ (g : Gm) (n : Nat), VRs g n z c.toList
  notS : ¬ W.S b
  other : ∀ j, j < m.next → g'.blk j ≠ b

structure Inv (P : Program) (W : Ref) (ops : Array Oper) (T : Nat → TM) (Mm : Nat → Mem) (V : Nat → AV) (X : Nat → Bool) (g : Gm) (n0 : Nat) (sz : Nat) (listed : Array Bool) (J : Nat) (B : Nat → Nat) (g' : Gm) (a' : Act) (w' : World) : Prop where
  size : listed.size = ops.size
  down : ∀ (i : Nat) o, ops.toList[i]? = some o → on listed i → ∀ e ∈ o.after.toList, Region.binds .any e = true → on listed e.on
  hv1 : ∀ (h : Nat) o, ops.toList[h]? = some o → opClass P o.op = 2 → h < J → on listed h
  hv2 : ∀ (h : Nat) o, ops.toList[h]? = some o → opClass P o.op = 2 → on listed h → J ≤ h → isAlloc o.op = true
  pend : ∀ (h : Nat) o, ops.toList[h]? = some o → opClass P o.op = 2 → on listed h → J ≤ h → X h = true → ∀ ty z, o.op = .alloc ty → zeroCells? P ty = some z → Pend W g' (Mm J) w' ty z (B h)
  dist : ∀ (h : Nat) o, ops.toList[h]? = some o → opClass P o.op = 2 → on listed h → J ≤ h → X h = true → ∀ (h' : Nat) o', ops.toList[h']? = some o' → opClass P o'.op = 2 → on listed h' → J ≤ h' → X h' = true → B h = B h' → h = h'
  jle : J ≤ ops.size
  sim : Sim W g' (Mm J) w'
  ext : Ext' g n0 g' (Mm J).next
  tm : ∀ x, ∃ q, q ≤ ops.size ∧ (∀ (k : Nat) o, ops.toList[k]? = some o → o.dst = some x → (on listed k ↔ k < q)) ∧
    (VR g' (Mm J).next ((T q).getD x .undef) (a'.tmps.getD x Go.undef) ∨
     ∃ (h : Nat) (o : Oper), ops.toList[h]? = some o ∧ o.dst = some x ∧ q = h + 1 ∧ opClass P o.op = 2 ∧ on listed h ∧ J ≤ h ∧ X h = true ∧ a'.tmps.getD x Go.undef = .pointer (some ⟨B h, 0, none⟩))
  tsz : a'.tmps.size = sz
  defers : a'.defers = []

theorem put_getD {t : TM} {d : Option Tmp} {v : AV} {x : Nat} (h : d ≠ some x) : (t.put d v).getD x .undef = t.getD x .undef := by
  cases d with
  | none => rfl
  | some d =>
    simp only [TM.put, TM.getD_set]
    rw [if_neg]
    rintro ⟨rfl, _⟩
    exact h rfl

theorem get_lt {α : Type} {l : List α} {i : Nat} {o : α} (h : l[i]? = some o) : i < l.length := by
  rcases Nat.lt_or_ge i l.length with h' | h'
  · exact h'
  · simp [List.getElem?_eq_none h'] at h
theorem get_some {α : Type} {l : List α} {i : Nat} (h : i < l.length) : ∃ o, l[i]? = some o := ⟨l[i], by simp⟩

theorem T_same {bf : List Nat} {ms ls} (tr : Trace P call ops.toList bf 0 ms ls T Mm V X) {x : Nat} : ∀ (d p : Nat), p + d ≤ ops.size → (∀ (k : Nat) o, p ≤ k → k < p + d → ops.toList[k]? = some o → o.dst ≠ some x) → (T p).getD x .undef = (T (p + d)).getD x .undef
  | 0, p, _, _ => rfl
  | d + 1, p, hl, h => by
    obtain ⟨o, ho⟩ := get_some (l := ops.toList) (i := p + d) (by simp; omega)
    have ih := T_same tr d p (by omega) (fun k o h1 h2 => h k o h1 (by omega))
    have := (tr.did (p + d) o (by omega) ho).put
    rw [ih, show p + (d + 1) = p + d + 1 by omega, this, put_getD (h (p + d) o (by omega) (by omega) ho)]
theorem T_same' {bf : List Nat} {ms ls} (tr : Trace P call ops.toList bf 0 ms ls T Mm V X) {x p q : Nat} (hp : p ≤ ops.size) (hq : q ≤ ops.size) (h : ∀ (k : Nat) o, ops.toList[k]? = some o → o.dst = some x → (k < p ↔ k < q)) : (T p).getD x .undef = (T q).getD x .undef := by
  rcases Nat.le_total p q with hle | hle
  · obtain ⟨d, rfl⟩ := Nat.exists_eq_add_of_le hle
    exact T_same tr d p hq (fun k o h1 h2 ho hd => by have := (h k o ho hd).2 h2; omega)
  · obtain ⟨d, rfl⟩ := Nat.exists_eq_add_of_le hle
    exact (T_same tr d q hp (fun k o h1 h2 ho hd => by have := (h k o ho hd).1 h2; omega)).symm
theorem M_same {bf : List Nat} {ms ls} (tr : Trace P call ops.toList bf 0 ms ls T Mm V X) : ∀ (d p : Nat), p + d ≤ ops.size → (∀ (k : Nat) o, p ≤ k → k < p + d → ops.toList[k]? = some o → opClass P o.op = 2 → X k = false) → Mm p = Mm (p + d)
  | 0, p, _, _ => rfl
  | d + 1, p, hl, h => by
    obtain ⟨o, ho⟩ := get_some (l := ops.toList) (i := p + d) (by simp; omega)
    have ih := M_same tr d p (by omega) (fun k o h1 h2 => h k o h1 (by omega))
    have hd := tr.did (p + d) o (by omega) ho
    rw [ih, show p + (d + 1) = p + d + 1 by omega]
    by_cases hc : opClass P o.op = 2
    · exact ((hd.skip (h (p + d) o (by omega) (by omega) ho hc)).2).symm
    · exact (hd.still hc).symm
theorem T_len {bf : List Nat} {ms ls} (tr : Trace P call ops.toList bf 0 ms ls T Mm V X) : ∀ q, q ≤ ops.size → (T q).length = (T 0).length
  | 0, _ => rfl
  | q + 1, hq => by
    obtain ⟨o, ho⟩ := get_some (l := ops.toList) (i := q) (by simp; omega)
    rw [(tr.did q o (by omega) ho).put, ← T_len tr q (by omega)]
    cases o.dst <;> simp [TM.put]

/-- What drawOk says. -/
structure Okd (P : Program) (ops : Array Oper) (bf : List Nat) : Prop where
  edge : ∀ (i : Nat) o, ops.toList[i]? = some o → ∀ e ∈ o.after.toList, Region.binds .any e = true → e.on < i
  names : ∀ (j : Nat) o, ops.toList[j]? = some o → ∀ x ∈ namesOf o, ∀ (i : Nat) o', ops.toList[i]? = some o' → o'.dst = some x → i = j ∨ (bf.getD (max i j) 0).testBit (min i j) = true
  guard : ∀ (j : Nat) o q want, ops.toList[j]? = some o → o.guard = some (q, want) → (bf.getD j 0).testBit q = true ∧ ∀ oq d, ops.toList[q]? = some oq → oq.dst = some d → ∀ (k : Nat) o', ops.toList[k]? = some o' → o'.dst = some d → k = q
  heavy : ∀ (j : Nat) o, ops.toList[j]? = some o → opClass P o.op = 2 → ∀ (i : Nat) o', ops.toList[i]? = some o' → opClass P o'.op = 2 → i < j → (bf.getD j 0).testBit i = true ∨ isAlloc o.op = true
  early : ∀ (j : Nat) o, ops.toList[j]? = some o → ∀ (a : Nat) oa, ops.toList[a]? = some oa → isAlloc oa.op = true → (bf.getD j 0).testBit a = true → ∀ (i : Nat) o', ops.toList[i]? = some o' → opClass P o'.op = 2 → i < a → (bf.getD j 0).testBit i = true

theorem drawOk_spec {bf : List Nat} (h : drawOk P ops.toList bf = true) : Okd P ops bf := by
  have h0 := everyI_spec h
  simp only [Nat.zero_add] at h0
  have h1 : ∀ (q : Nat) o, ops.toList[q]? = some o → _ := fun q o ho => by
    have := h0 q o ho
    simp only [Bool.and_eq_true] at this
    exact this
  refine ⟨fun i o ho e he hb => ?_, fun j o ho x hx i o' ho' hd => ?_, fun j o q want ho hg => ?_, fun j o ho hc i o' ho' hc' hlt => ?_, fun j o ho a oa hoa ha hb i o' ho' hc' hlt => ?_⟩
  · have := (h1 i o ho).1.1.1.1
    rw [Array.all_eq_true'] at this
    have := this e (by simpa using he)
    simpa [hb] using this
  · have := (h1 j o ho).1.1.1.2
    rw [List.all_eq_true] at this
    have := everyI_spec (this x hx) i o' ho'
    simp only [Nat.zero_add, Bool.or_eq_true, bne_iff_ne, ne_eq, beq_iff_eq] at this
    rcases this with (h | h) | h
    · exact absurd hd h
    · exact .inl h
    · exact .inr h
  · have := (h1 j o ho).1.1.2
    rw [hg] at this
    simp only [Bool.and_eq_true] at this
    refine ⟨this.1, fun oq d hoq hd k o' ho' hd' => ?_⟩
    have h2 := this.2
    rw [hoq] at h2
    simp only [hd] at h2
    have := everyI_spec h2 k o' ho'
    simpa [hd'] using this
  · have := (h1 j o ho).1.2
    simp only [hc, bne_self_eq_false, Bool.false_or] at this
    have := everyI_spec this i o' ho'
    simp only [Nat.zero_add, hc', bne_self_eq_false, Bool.false_or, Bool.or_eq_true, decide_eq_true_eq] at this
    rcases this with (h | h) | h
    · omega
    · exact .inl h
    · exact .inr h
  · have := everyI_spec (h1 j o ho).2 a oa hoa
    simp only [Nat.zero_add, ha, hb, Bool.not_true, Bool.false_or] at this
    have := everyI_spec this i o' ho'
    simp only [Nat.zero_add, hc', bne_self_eq_false, Bool.false_or, Bool.or_eq_true, decide_eq_true_eq] at this
    rcases this with h | h
    · omega
    · exact h

theorem on_set {listed : Array Bool} {i k : Nat} (hi : i < listed.size) : on (listed.setIfInBounds i true) k ↔ on listed k ∨ k = i := by
  unfold on
  simp only [Array.getD_eq_getD_getElem?, Array.getElem?_setIfInBounds]
  by_cases h : i = k
  · subst h; simp [hi]
  · rw [if_neg h]
    constructor
    · exact .inl
    · rintro (h' | e)
      · exact h'
      · exact absurd e.symm h

/-- A new variable, by the trace. -/
theorem alloc_did {bf : List Nat} {ms ls} (tr : Trace P call ops.toList bf 0 ms ls T Mm V X) {h : Nat} {o : Oper} (ho : ops.toList[h]? = some o) (hc : opClass P o.op = 2) (ha : isAlloc o.op = true) (hX : X h = true) :
    ∃ ty z, o.op = .alloc ty ∧ zeroCells? P ty = some z ∧ V h = .ptr (Mm h).next 0 ∧ Mm (h + 1) = (Mm h).alloc (.cells ty 0 z) := by
  have hd := (tr.did h o (by omega) ho).heavy hX hc (σ := AV) ret
  cases hop : o.op with
  | alloc ty =>
    simp only [aop, hop] at hd
    cases hz : zeroCells? P ty with
    | none => rw [hz] at hd; simp [fail, ret] at hd
    | some z =>
      rw [hz] at hd
      simp [bnd, alloc_def, ret] at hd
      exact ⟨ty, z, rfl, hz, hd.1.symm, hd.2.symm⟩
  | _ => rw [hop] at ha; cases ha

theorem T_put_rel {bf : List Nat} {ms ls} (tr : Trace P call ops.toList bf 0 ms ls T Mm V X) {i : Nat} {o : Oper} (ho : ops.toList[i]? = some o) {x : Nat} (hd : o.dst = some x) {g : Gm} {n : Nat} {z : Value} (hz : VR g n (V i) z) : VR g n ((T (i + 1)).getD x .undef) z ∨ (T (i + 1)).getD x .undef = .undef := by
  rw [(tr.did i o (by omega) ho).put, hd]
  simp only [TM.put, TM.getD_set]
  by_cases hx : x < (T i).length
  · rw [if_pos (by simpa using hx)]; exact .inl hz
  · rw [if_neg (by simpa using hx)]
    right
    simp [List.getD_eq_getElem?_getD, List.getElem?_eq_none (Nat.le_of_not_lt hx)]

/-- The next operation in the text's order is passed: it writes nothing, or was done already. -/
theorem Inv.pass {bf : List Nat} {ms ls} (tr : Trace P call ops.toList bf 0 ms ls T Mm V X) {g : Gm} {n0 sz : Nat} {listed : Array Bool} {J : Nat} {B : Nat → Nat} {g' : Gm} {a' : Act} {w' : World} (inv : Inv P W ops T Mm V X g n0 sz listed J B g' a' w')
    {o : Oper} (ho : ops.toList[J]? = some o) (hl : opClass P o.op = 2 → on listed J) : ∃ g'', Inv P W ops T Mm V X g n0 sz listed (J + 1) B g'' a' w' := by
  have hlt : J < ops.size := by simpa using get_lt ho
  have hdid := tr.did J o (by omega) ho
  have hv1 : ∀ (h : Nat) oh, ops.toList[h]? = some oh → opClass P oh.op = 2 → h < J + 1 → on listed h := fun h oh hoh hc hh => by
    rcases Nat.lt_or_ge h J with h' | h'
    · exact inv.hv1 h oh hoh hc h'
    · have : h = J := by omega
      subst this
      rw [ho] at hoh; cases hoh
      exact hl hc
  by_cases hcx : opClass P o.op = 2 ∧ X J = true
  · obtain ⟨hc, hx⟩ := hcx
    have ha := inv.hv2 J o ho hc (hl hc) (Nat.le_refl _)
    obtain ⟨ty, z, hop, hz, hV, hM⟩ := alloc_did tr ho hc ha hx
    obtain ⟨⟨c, hcell, hrel⟩, hS, hoth⟩ := inv.pend J o ho hc (hl hc) (Nat.le_refl _) hx ty z hop hz
    have hle := inv.sim.le
    have hlen := (hrel g' 0).length
    have hoth' : ∀ j, j < (Mm J).next → g'.blk j ≠ B J := hoth
    have hext : Ext' g' (Mm J).next (g'.put (Mm J).next (B J) c.size) (Mm (J + 1)).next := by rw [hM]; exact g'.put_ext _ _ _
    refine ⟨g'.put (Mm J).next (B J) c.size, ⟨inv.size, inv.down, hv1, fun h oh hoh hch hon hh => inv.hv2 h oh hoh hch hon (by omega), ?_, fun h oh hoh hch hon hh hxh h' oh' hoh' hch' hon' hh' hxh' => inv.dist h oh hoh hch hon (by omega) hxh h' oh' hoh' hch' hon' (by omega) hxh', by omega, ?_, inv.ext.trans hext, ?_, inv.tsz, inv.defers⟩⟩
    · intro h oh hoh hch hon hh hxh ty' z' hop' hz'
      obtain ⟨h1, h2, h3⟩ := inv.pend h oh hoh hch hon (by omega) hxh ty' z' hop' hz'
      refine ⟨h1, h2, fun j hj => ?_⟩
      rw [hM] at hj
      have hj' : j < (Mm J).next + 1 := hj
      by_cases e : j = (Mm J).next
      · subst e
        simp only [Gm.put, if_true]
        intro e
        have := inv.dist J o ho hc (hl hc) (Nat.le_refl _) hx h oh hoh hch hon (by omega) hxh e
        omega
      · simp only [Gm.put, e, if_false]
        exact h3 j (by omega)
    · rw [hM]
      exact inv.sim.adopt hcell hS hoth' (by simp at hlen; omega) (hrel _ _)
    · intro x
      obtain ⟨q, h1, h2, h3⟩ := inv.tm x
      refine ⟨q, h1, h2, ?_⟩
      rcases h3 with h3 | ⟨h, oh, hoh, hdh, hq, hch, hon, hJh, hxh, hval⟩
      · exact .inl (h3.mono hext)
      · rcases Nat.lt_or_ge J h with hlt' | hge
        · exact .inr ⟨h, oh, hoh, hdh, hq, hch, hon, hlt', hxh, hval⟩
        · have e : h = J := by omega
          subst e
          left
          subst hq
          rw [hval]
          have hptr : VR (g'.put (Mm h).next (B h) c.size) (Mm (h + 1)).next (V h) (.pointer (some ⟨B h, 0, none⟩)) := by
            have e := VR.ptr (g := g'.put (Mm h).next (B h) c.size) (n := (Mm (h + 1)).next) (Mm h).next 0 (by rw [hM]; exact Nat.lt_succ_self _)
            have e2 : (g'.put (Mm h).next (B h) c.size).blk (Mm h).next = B h := by simp [Gm.put]
            rw [e2] at e
            rw [hV]; exact e
          rcases T_put_rel tr hoh hdh hptr with h5 | h5
          · exact h5
          · rw [h5]; exact .undef _
  · have hM : Mm (J + 1) = Mm J := by
      by_cases hc : opClass P o.op = 2
      · have hx : X J = false := by
          cases hx : X J with
          | false => rfl
          | true => exact absurd ⟨hc, hx⟩ hcx
        exact (hdid.skip hx).2
      · exact hdid.still hc
    refine ⟨g', ⟨inv.size, inv.down, hv1, fun h oh hoh hch hon hh => inv.hv2 h oh hoh hch hon (by omega), ?_, fun h oh hoh hch hon hh hxh h' oh' hoh' hch' hon' hh' hxh' => inv.dist h oh hoh hch hon (by omega) hxh h' oh' hoh' hch' hon' (by omega) hxh', by omega, by rw [hM]; exact inv.sim, by rw [hM]; exact inv.ext, ?_, inv.tsz, inv.defers⟩⟩
    · intro h oh hoh hch hon hh hxh ty' z' hop' hz'
      rw [hM]
      exact inv.pend h oh hoh hch hon (by omega) hxh ty' z' hop' hz'
    · intro x
      obtain ⟨q, h1, h2, h3⟩ := inv.tm x
      refine ⟨q, h1, h2, ?_⟩
      rw [hM]
      rcases h3 with h3 | ⟨h, oh, hoh, hdh, hq, hch, hon, hJh, hxh, hval⟩
      · exact .inl h3
      · right
        refine ⟨h, oh, hoh, hdh, hq, hch, hon, ?_, hxh, hval⟩
        rcases Nat.lt_or_ge J h with hlt' | hge
        · exact hlt'
        · have e : h = J := by omega
          subst e
          rw [ho] at hoh; cases hoh
          exact absurd ⟨hch, hxh⟩ hcx

/-- .. up to the first that writes and is not done. -/
theorem Inv.norm {bf : List Nat} {ms ls} (tr : Trace P call ops.toList bf 0 ms ls T Mm V X) {g : Gm} {n0 sz : Nat} {listed : Array Bool} {B : Nat → Nat} {a' : Act} {w' : World} : ∀ (d J : Nat) {g' : Gm}, ops.size - J ≤ d → Inv P W ops T Mm V X g n0 sz listed J B g' a' w' →
    ∃ J' g'', Inv P W ops T Mm V X g n0 sz listed J' B g'' a' w' ∧ ∀ o, ops.toList[J']? = some o → opClass P o.op = 2 ∧ ¬ on listed J'
  | d, J, g', hd, inv => by
    by_cases hlt : J < ops.size
    · obtain ⟨o, ho⟩ := get_some (l := ops.toList) (i := J) (by simpa using hlt)
      by_cases hl : opClass P o.op = 2 ∧ ¬ on listed J
      · exact ⟨J, g', inv, fun o' ho' => by rw [ho] at ho'; cases ho'; exact hl⟩
      · obtain ⟨g'', inv'⟩ := inv.pass tr ho (fun hc => by
          rcases Classical.em (on listed J) with h | h
          · exact h
          · exact absurd ⟨hc, h⟩ hl)
        cases d with
        | zero => omega
        | succ d => exact Inv.norm tr d (J + 1) (by omega) inv'
    · exact ⟨J, g', inv, fun o ho => by have := get_lt ho; simp at this; omega⟩

/-- One operation is done. -/
theorem Inv.step {bf : List Nat} {ms ls} (tr : Trace P call ops.toList bf 0 ms ls T Mm V X) {g : Gm} {n0 sz : Nat} {listed : Array Bool} {J : Nat} {B : Nat → Nat} {g' : Gm} {a' : Act} {w' : World} (inv : Inv P W ops T Mm V X g n0 sz listed J B g' a' w') (hT0 : (T 0).length ≤ sz)
    {i : Nat} {o : Oper} (ho : ops.toList[i]? = some o) (hi : ¬ on listed i) (hedge : ∀ e ∈ o.after.toList, Region.binds .any e = true → on listed e.on) (hdst : ∀ x, o.dst = some x → ∀ (k : Nat) o', ops.toList[k]? = some o' → o'.dst = some x → (on listed k ↔ k < i))
    {J' : Nat} {B' : Nat → Nat} {g'' : Gm} {w'' : World} {z : Value} (hJJ : J ≤ J') (hJh : ∀ h, on listed h → J ≤ h → J' ≤ h)
    (hv1 : ∀ (h : Nat) oh, ops.toList[h]? = some oh → opClass P oh.op = 2 → h < J' → on listed h ∨ h = i) (hv2 : opClass P o.op = 2 → J' ≤ i → isAlloc o.op = true)
    (hB : ∀ h, on listed h → B' h = B h)
    (hpend : ∀ (h : Nat) oh, ops.toList[h]? = some oh → opClass P oh.op = 2 → on listed h → J' ≤ h → X h = true → ∀ ty zs, oh.op = .alloc ty → zeroCells? P ty = some zs → Pend W g' (Mm J) w' ty zs (B h) → Pend W g'' (Mm J') w'' ty zs (B h))
    (hnew : opClass P o.op = 2 → J' ≤ i → X i = true → (∀ ty zs, o.op = .alloc ty → zeroCells? P ty = some zs → Pend W g'' (Mm J') w'' ty zs (B' i)) ∧ (∀ (h : Nat) oh, ops.toList[h]? = some oh → opClass P oh.op = 2 → on listed h → J' ≤ h → X h = true → B h ≠ B' i))
    (hj : J' ≤ ops.size) (hs : Sim W g'' (Mm J') w'') (he : Ext' g' (Mm J).next g'' (Mm J').next)
    (hz : VR g'' (Mm J').next (V i) z ∨ (opClass P o.op = 2 ∧ J' ≤ i ∧ X i = true ∧ z = .pointer (some ⟨B' i, 0, none⟩))) :
    Inv P W ops T Mm V X g n0 sz (listed.setIfInBounds i true) J' B' g'' (a'.put o.dst z) w'' where
  size := by simpa using inv.size
  down := fun k ok hok hk e hm hb => by
    have hil : i < listed.size := by rw [inv.size]; simpa using get_lt ho
    rw [on_set hil] at hk ⊢
    left
    rcases hk with hk | rfl
    · exact inv.down k ok hok hk e hm hb
    · rw [ho] at hok; cases hok
      exact hedge e hm hb
  hv1 := fun h oh hoh hc hlt => by
    have hil : i < listed.size := by rw [inv.size]; simpa using get_lt ho
    rw [on_set hil]; exact hv1 h oh hoh hc hlt
  hv2 := fun h oh hoh hc hon hle => by
    have hil : i < listed.size := by rw [inv.size]; simpa using get_lt ho
    rw [on_set hil] at hon
    rcases hon with hon | rfl
    · exact inv.hv2 h oh hoh hc hon (by omega)
    · rw [ho] at hoh; cases hoh; exact hv2 hc hle
  pend := fun h oh hoh hc hon hle hx ty zs hop hzs => by
    have hil : i < listed.size := by rw [inv.size]; simpa using get_lt ho
    rw [on_set hil] at hon
    rcases hon with hon | rfl
    · rw [hB h hon]
      exact hpend h oh hoh hc hon hle hx ty zs hop hzs (inv.pend h oh hoh hc hon (by omega) hx ty zs hop hzs)
    · rw [ho] at hoh; cases hoh; exact (hnew hc hle hx).1 ty zs hop hzs
  dist := fun h oh hoh hc hon hle hx h' oh' hoh' hc' hon' hle' hx' e => by
    have hil : i < listed.size := by rw [inv.size]; simpa using get_lt ho
    rw [on_set hil] at hon hon'
    rcases hon with hon | rfl <;> rcases hon' with hon' | rfl
    · rw [hB h hon, hB h' hon'] at e
      exact inv.dist h oh hoh hc hon (by omega) hx h' oh' hoh' hc' hon' (by omega) hx' e
    · rw [hB h hon] at e
      rw [ho] at hoh'; cases hoh'
      exact absurd e ((hnew hc' hle' hx').2 h oh hoh hc hon hle hx)
    · rw [hB h' hon'] at e
      rw [ho] at hoh; cases hoh
      exact absurd e.symm ((hnew hc hle hx).2 h' oh' hoh' hc' hon' hle' hx')
    · rfl
  jle := hj
  sim := hs
  ext := inv.ext.trans he
  tm := fun x => by
    have hil : i < listed.size := by rw [inv.size]; simpa using get_lt ho
    by_cases hd : o.dst = some x
    · refine ⟨i + 1, Nat.succ_le_of_lt (by simpa using get_lt ho), fun k ok hok hdk => ?_, ?_⟩
      · rw [on_set hil, hdst x hd k ok hok hdk]; omega
      · have hTl : (T i).length ≤ a'.tmps.size := by rw [T_len tr i (Nat.le_of_lt (by simpa using get_lt ho)), inv.tsz]; exact hT0
        rcases hz with hz | ⟨hc, hle, hx, hz⟩
        · left
          rw [(tr.did i o (by omega) ho).put, hd]
          simp only [TM.put, TM.getD_set, Act.put]
          by_cases hx : x < (T i).length
          · rw [if_pos (by simpa using hx)]
            have : x < a'.tmps.size := Nat.lt_of_lt_of_le hx hTl
            simp [this]; exact hz
          · rw [if_neg (by simpa using hx)]
            have : (T i).getD x .undef = .undef := by simp [List.getD_eq_getElem?_getD, List.getElem?_eq_none (Nat.le_of_not_lt hx)]
            rw [this]; exact .undef _
        · by_cases hxl : x < a'.tmps.size
          · right
            refine ⟨i, o, ho, hd, rfl, hc, (on_set hil).2 (.inr rfl), hle, hx, ?_⟩
            rw [hd]
            simp [Act.put, hxl, hz]
          · left
            have hx' : ¬ x < (T i).length := fun h => hxl (Nat.lt_of_lt_of_le h hTl)
            rw [(tr.did i o (by omega) ho).put, hd]
            simp only [TM.put, TM.getD_set]
            rw [if_neg (by simpa using hx')]
            have : (T i).getD x .undef = .undef := by simp [List.getD_eq_getElem?_getD, List.getElem?_eq_none (Nat.le_of_not_lt hx')]
            rw [this]; exact .undef _
    · obtain ⟨q, h1, h2, h3⟩ := inv.tm x
      have e : (a'.put o.dst z).tmps.getD x Go.undef = a'.tmps.getD x Go.undef := by
        cases hod : o.dst with
        | none => rfl
        | some d =>
          have : d ≠ x := fun e => hd (by rw [hod, e])
          simp [Act.put, Array.getD_eq_getD_getElem?, Array.getElem?_setIfInBounds, this]
      refine ⟨q, h1, fun k ok hok hdk => ?_, ?_⟩
      · rw [on_set hil, h2 k ok hok hdk]
        constructor
        · rintro (h | rfl)
          · exact h
          · rw [ho] at hok; cases hok; exact absurd hdk hd
        · exact .inl
      · rw [e]
        rcases h3 with h3 | ⟨h, oh, hoh, hdh, hq, hch, hon, hJh', hxh, hval⟩
        · exact .inl (h3.mono he)
        · have hge := hJh h hon hJh'
          · exact .inr ⟨h, oh, hoh, hdh, hq, hch, (on_set hil).2 (.inl hon), hge, hxh, by rw [hB h hon]; exact hval⟩
  tsz := by rw [← inv.tsz]; cases o.dst <;> simp [Act.put]
  defers := by rw [← inv.defers]; cases o.dst <;> simp [Act.put]

theorem draw_any {bf : List Nat} (hbf : bf = befores [] ops.toList) (hok : Okd P ops bf) (hcall : ∀ W, CallOk P W call) (tr : Trace P call ops.toList bf 0 [] [] T Mm V X) {g : Gm} {n0 sz : Nat} (hT0 : (T 0).length ≤ sz) {Q : Exit → Act → World → Prop}
    (hQ : ∀ g' a' w', Sim W g' (Mm ops.size) w' → Ext' g n0 g' (Mm ops.size).next → (∀ x, VR g' (Mm ops.size).next ((T ops.size).getD x .undef) (a'.tmps.getD x Go.undef)) → a'.tmps.size = sz → a'.defers = [] → Q .normal a' w') :
    ∀ (fuel : Nat) (listed : Array Bool) (J : Nat) (B : Nat → Nat) (g' : Gm) (a' : Act) (w' : World), Inv P W ops T Mm V X g n0 sz listed J B g' a' w' → (∀ o, ops.toList[J]? = some o → opClass P o.op = 2 ∧ ¬ on listed J) → ((List.range ops.size).filter fun i => !listed.getD i false).length ≤ fuel →
      wpAny P .any ops Q fuel listed a' w' := by
  subst hbf
  -- all is listed
  have hend : ∀ (listed : Array Bool) (J : Nat) (B : Nat → Nat) (g' : Gm) (a' : Act) (w' : World), Inv P W ops T Mm V X g n0 sz listed J B g' a' w' → (∀ o, ops.toList[J]? = some o → opClass P o.op = 2 ∧ ¬ on listed J) → (∀ i, i < ops.size → on listed i) → Q .normal a' w' := by
    intro listed J B g' a' w' inv hmax hall
    have hJe : J = ops.size := by
      rcases Nat.lt_or_ge J ops.size with h | h
      · obtain ⟨o, ho⟩ := get_some (l := ops.toList) (i := J) (by simpa using h)
        exact absurd (hall J h) (hmax o ho).2
      · exact Nat.le_antisymm inv.jle h
    have hM : Mm J = Mm ops.size := by rw [hJe]
    have hs := inv.sim
    have he := inv.ext
    rw [hM] at hs he
    refine hQ g' a' w' hs he (fun x => ?_) inv.tsz inv.defers
    obtain ⟨q, h1, h2, h3⟩ := inv.tm x
    have : (T q).getD x .undef = (T ops.size).getD x .undef := T_same' tr h1 (Nat.le_refl _) (fun k o ho hd => by
      have hk : k < ops.size := by simpa using get_lt ho
      have := (h2 k o ho hd).1 (hall k hk)
      omega)
    rw [← this, ← hM]
    rcases h3 with h3 | ⟨h, oh, hoh, hdh, hq, hch, hon, hJh, hxh, hval⟩
    · exact h3
    · have := get_lt hoh
      simp at this
      omega
  -- where nothing is ready all is listed
  have hready : ∀ (listed : Array Bool), listed.size = ops.size → Region.ready .any ops listed = [] → ∀ i, i < ops.size → on listed i := by
    intro listed hsz hr i
    induction i using Nat.strongRecOn with
    | _ i ih =>
      intro hi
      cases hoi : listed.getD i false with
      | true => exact hoi
      | false =>
        obtain ⟨o, ho⟩ := get_some (l := ops.toList) (i := i) (by simpa using hi)
        have hmem : i ∈ Region.ready .any ops listed := by
          unfold Region.ready
          refine List.mem_filter.2 ⟨List.mem_range.2 hi, ?_⟩
          have h1 : listed.getD i true = false := by
            simp [Array.getD_eq_getD_getElem?, show i < listed.size by omega] at hoi ⊢
            exact hoi
          have h2 : ops[i]? = some o := by simpa using ho
          simp only [h1, Bool.not_false, Bool.true_and, h2, Option.map_some, Option.getD_some]
          rw [Array.all_eq_true']
          intro e he
          cases hb : Region.binds .any e with
          | false => rfl
          | true =>
            have hlt := hok.edge i o ho e (by simpa using he) hb
            exact ih e.on hlt (by omega)
        rw [hr] at hmem; cases hmem
  intro fuel
  induction fuel with
  | zero =>
    intro listed J B g' a' w' inv hmax hf
    have hall : ∀ i, i < ops.size → on listed i := by
      intro i hi
      have : (List.range ops.size).filter (fun i => !listed.getD i false) = [] := List.length_eq_zero_iff.1 (by omega)
      rw [List.filter_eq_nil_iff] at this
      have := this i (List.mem_range.2 hi)
      unfold on
      cases hoi : listed.getD i false with
      | true => rfl
      | false => rw [hoi] at this; exact absurd rfl this
    refine ⟨?_, hend _ _ _ _ _ _ inv hmax hall⟩
    unfold Region.ready
    rw [List.filter_eq_nil_iff]
    intro i hi
    have h1 := hall i (List.mem_range.1 hi)
    have : listed.getD i true = true := by
      have hil : i < listed.size := by rw [inv.size]; exact List.mem_range.1 hi
      unfold on at h1
      simp [Array.getD_eq_getD_getElem?, hil] at h1 ⊢
      exact h1
    simp [this]
  | succ fuel ih =>
    intro listed J B g' a' w' inv hmax hf
    refine ⟨fun hr => hend _ _ _ _ _ _ inv hmax (hready listed inv.size hr), fun i hi => ?_⟩
    unfold Region.ready at hi
    obtain ⟨hir, hi⟩ := List.mem_filter.1 hi
    have hir := List.mem_range.1 hir
    obtain ⟨o, ho⟩ := get_some (l := ops.toList) (i := i) (by simpa using hir)
    have ho' : ops[i]? = some o := by simpa using ho
    simp only [Bool.and_eq_true, Bool.not_eq_true', ho', Option.map_some, Option.getD_some] at hi
    obtain ⟨hi1, hi2⟩ := hi
    have hil : i < listed.size := by rw [inv.size]; exact hir
    have hni : ¬ on listed i := by
      unfold on
      simp [Array.getD_eq_getD_getElem?, hil] at hi1 ⊢
      exact hi1
    have hedge : ∀ e ∈ o.after.toList, Region.binds .any e = true → on listed e.on := by
      intro e he hb
      rw [Array.all_eq_true'] at hi2
      have := hi2 e (by simpa using he)
      unfold on
      rw [hb] at this
      exact this
    have hahead : ∀ j, ((befores [] ops.toList).getD i 0).testBit j = true → on listed j := ahead_listed (D := on listed) hok.edge (fun k ok hk hl e he hb => inv.down k ok hk hl e he hb) i o ho hedge
    have hahead' : ∀ (k : Nat) ok, ops.toList[k]? = some ok → on listed k → ∀ j, ((befores [] ops.toList).getD k 0).testBit j = true → on listed j := fun k ok hk hl => ahead_listed (D := on listed) hok.edge (fun k ok hk hl e he hb => inv.down k ok hk hl e he hb) k ok hk (inv.down k ok hk hl)
    -- what writes and stands ahead is behind the memory's place
    have hbit : ∀ (h : Nat) oh, ops.toList[h]? = some oh → opClass P oh.op = 2 → ((befores [] ops.toList).getD i 0).testBit h = true → h < J := by
      intro h oh hoh hch hb
      rcases Nat.lt_or_ge h J with hlt | hge
      · exact hlt
      · exfalso
        have hon := hahead h hb
        have hal := inv.hv2 h oh hoh hch hon hge
        obtain ⟨oJ, hoJ⟩ := get_some (l := ops.toList) (i := J) (by have := get_lt hoh; omega)
        obtain ⟨m1, m2⟩ := hmax oJ hoJ
        have hne : J ≠ h := fun e => m2 (by rw [e]; exact hon)
        exact m2 (hahead J (hok.early i o ho h oh hoh hal hb J oJ hoJ m1 (by omega)))
    -- the writers of what is named here
    have hwr : ∀ x ∈ namesOf o, ∀ (k : Nat) ok, ops.toList[k]? = some ok → ok.dst = some x → (on listed k ↔ k < i) := by
      intro x hx k ok hk hd
      rcases hok.names i o ho x hx k ok hk hd with rfl | hb
      · exact ⟨fun h => absurd h hni, fun h => absurd h (Nat.lt_irrefl _)⟩
      · rcases Nat.lt_trichotomy k i with h | h | h
        · rw [Nat.max_eq_right (by omega), Nat.min_eq_left (by omega)] at hb
          exact ⟨fun _ => h, fun _ => hahead k hb⟩
        · subst h; exact ⟨fun h => absurd h hni, fun h => absurd h (Nat.lt_irrefl _)⟩
        · rw [Nat.max_eq_left (by omega), Nat.min_eq_right (by omega)] at hb
          exact ⟨fun hl => absurd (hahead' k ok hk hl i hb) hni, fun h' => by omega⟩
    have hval : ∀ x, (∀ (k : Nat) ok, ops.toList[k]? = some ok → ok.dst = some x → (on listed k ↔ k < i)) → (∀ (k : Nat) ok, ops.toList[k]? = some ok → ok.dst = some x → k < i → ((befores [] ops.toList).getD i 0).testBit k = true) → VR g' (Mm J).next ((T i).getD x .undef) (a'.tmps.getD x Go.undef) := by
      intro x hx hxb
      obtain ⟨q, h1, h2, h3⟩ := inv.tm x
      rw [← T_same' tr h1 (by omega) (fun k ok hk hd => by rw [← h2 k ok hk hd]; exact hx k ok hk hd)]
      rcases h3 with h3 | ⟨h, oh, hoh, hdh, hq, hch, hon, hJh, hxh, hval⟩
      · exact h3
      · have := hbit h oh hoh hch (hxb h oh hoh hdh ((hx h oh hoh hdh).1 hon))
        omega
    have hwb : ∀ x ∈ namesOf o, ∀ (k : Nat) ok, ops.toList[k]? = some ok → ok.dst = some x → k < i → ((befores [] ops.toList).getD i 0).testBit k = true := by
      intro x hx k ok hk hd hlt
      rcases hok.names i o ho x hx k ok hk hd with rfl | hb
      · omega
      · rwa [Nat.max_eq_right (by omega), Nat.min_eq_left (by omega)] at hb
    have hdid := tr.did i o (by omega) ho
    have hTl : (T i).length ≤ a'.tmps.size := by rw [T_len tr i (by omega), inv.tsz]; exact hT0
    have hwant := hdid.wants g' (Mm J).next a' ops rfl hTl (fun j want d oj hg hoj hdj => hval d (fun k ok hk hd => by
      obtain ⟨h1, h2⟩ := hok.guard i o j want ho hg
      have := h2 oj d hoj hdj k ok hk hd
      subst this
      exact ⟨fun _ => ahead_lt hok.edge ho h1, fun _ => hahead _ h1⟩) (fun k ok hk hd _ => by
      obtain ⟨h1, h2⟩ := hok.guard i o j want ho hg
      have := h2 oj d hoj hdj k ok hk hd
      subst this
      exact h1))
    have hdst : ∀ x, o.dst = some x → ∀ (k : Nat) o', ops.toList[k]? = some o' → o'.dst = some x → (on listed k ↔ k < i) := fun x hx => hwr x (by simp [namesOf, hx])
    have hcount : ((List.range ops.size).filter fun k => !(listed.setIfInBounds i true).getD k false).length ≤ fuel := by
      have := filter_lt (p := fun k => !listed.getD k false) (p' := fun k => !(listed.setIfInBounds i true).getD k false) (l := List.range ops.size) (x := i) (fun k hk => by
        cases hlk : listed.getD k false with
        | false => rfl
        | true =>
          have := (on_set (k := k) hil).2 (.inl hlk)
          unfold on at this
          rw [this] at hk; cases hk) (List.mem_range.2 hir) (by unfold on at hni; simpa using hni) (by have := (on_set (k := i) hil).2 (.inr rfl); unfold on at this; rw [this]; rfl)
      omega
    -- the memory's place
    have hJ : opClass P o.op = 2 → J ≤ i := by
      intro hc
      rcases Nat.lt_or_ge i J with h | h
      · exact absurd (inv.hv1 i o ho hc h) hni
      · exact h
    have hJe : opClass P o.op = 2 → isAlloc o.op = false → J = i := by
      intro hc ha
      rcases Nat.lt_or_ge J i with h | h
      · obtain ⟨oJ, hoJ⟩ := get_some (l := ops.toList) (i := J) (by simp; omega)
        obtain ⟨m1, m2⟩ := hmax oJ hoJ
        rcases hok.heavy i o ho hc J oJ hoJ m1 h with hb | hb
        · exact absurd (hahead J hb) m2
        · rw [ha] at hb; cases hb
      · exact Nat.le_antisymm (hJ hc) h
    -- on with it
    have hnext : ∀ {J' : Nat} {B' : Nat → Nat} {g'' : Gm} {a'' : Act} {w'' : World}, Inv P W ops T Mm V X g n0 sz (listed.setIfInBounds i true) J' B' g'' a'' w'' → wpAny P .any ops Q fuel (listed.setIfInBounds i true) a'' w'' := by
      intro J' B' g'' a'' w'' inv'
      obtain ⟨J2, g2, inv2, hmax2⟩ := inv'.norm tr _ _ (Nat.le_refl _)
      exact ih _ J2 B' g2 a'' w'' inv2 hmax2 hcount
    -- what was made ahead of its turn is kept
    let E : Nat → Prop := fun b => ∃ (h : Nat) (oh : Oper), ops.toList[h]? = some oh ∧ opClass P oh.op = 2 ∧ on listed h ∧ J ≤ h ∧ X h = true ∧ B h = b
    have hEp : ∀ b, E b → ∃ ty zs, Pend W g' (Mm J) w' ty zs b := by
      rintro b ⟨h, oh, hoh, hch, hon, hle, hx, rfl⟩
      obtain ⟨ty, zs, hop, hzs, _⟩ := alloc_did tr hoh hch (inv.hv2 h oh hoh hch hon hle) hx
      exact ⟨ty, zs, inv.pend h oh hoh hch hon hle hx ty zs hop hzs⟩
    have hE : ∀ b, E b → b < w'.heap.size := by
      intro b hb
      obtain ⟨ty, zs, ⟨c, h1, _⟩, _⟩ := hEp b hb
      rcases Nat.lt_or_ge b w'.heap.size with h | h
      · exact h
      · rw [Array.getElem?_eq_none h] at h1; cases h1
    have hEo : ∀ j, j < (Mm J).next → ¬ E (g'.blk j) := by
      intro j hj hb
      obtain ⟨ty, zs, _, _, h3⟩ := hEp _ hb
      exact h3 j hj rfl
    have hmore := inv.sim.more hE hEo
    have hafter : ∀ {g'' : Gm} {m'' : Mem} {w'' : World}, Sim (W.more w' E inv.sim.below hE) g'' m'' w'' → Ext' g' (Mm J).next g'' m''.next → Sim W g'' m'' w'' ∧ ∀ b ty zs, E b → Pend W g' (Mm J) w' ty zs b → Pend W g'' m'' w'' ty zs b := by
      intro g'' m'' w'' hs he
      have hbase : m''.base = (Mm J).base := by rw [← hs.gbase, he.base, inv.sim.gbase]
      have hold : ∀ i, i < m''.base → ¬ E i := by
        intro i hi hb
        rw [hbase] at hi
        have h1 := (inv.sim.old i hi).1
        have hle := inv.sim.le
        exact hEo i (by omega) (by rw [h1]; exact hb)
      refine ⟨Sim.less inv.sim.below hs hold, fun b ty zs hb hp => ?_⟩
      obtain ⟨⟨c, h1, h2⟩, h3, h4⟩ := hp
      refine ⟨⟨c, by rw [hs.below.block b (.inr hb)]; exact h1, h2⟩, h3, fun j hj e => ?_⟩
      rcases Nat.lt_or_ge j m''.base with h | h
      · rw [(hs.old j h).1] at e
        exact hold j h (by rw [e]; exact hb)
      · exact (hs.own j h hj).1 (.inr (by rw [e]; exact hb))
    -- the memory's place stays
    have hstay : ∀ {g'' : Gm} {w'' : World} {z : Value}, (opClass P o.op ≠ 2 ∨ X i = false ∧ isAlloc o.op = true) → Sim (W.more w' E inv.sim.below hE) g'' (Mm J) w'' → Ext' g' (Mm J).next g'' (Mm J).next → VR g'' (Mm J).next (V i) z →
        wpAny P .any ops Q fuel (listed.setIfInBounds i true) (a'.put o.dst z) w'' := by
      intro g'' w'' z hcl hs he hz
      obtain ⟨hs', hp'⟩ := hafter hs he
      refine hnext (inv.step tr hT0 ho hni hedge hdst (J' := J) (B' := B) (Nat.le_refl _) (fun _ _ h => h) (fun h oh hoh hch hlt => .inl (inv.hv1 h oh hoh hch hlt)) (fun hc _ => ?_) (fun _ _ => rfl) ?_ (fun hc _ hx => ?_) inv.jle hs' he (.inl hz))
      · rcases hcl with h | h
        · exact absurd hc h
        · exact h.2
      · intro h oh hoh hch hon hle hx ty zs hop hzs hp
        exact hp' _ _ _ ⟨h, oh, hoh, hch, hon, hle, hx, rfl⟩ hp
      · rcases hcl with h | h
        · exact absurd hc h
        · rw [h.1] at hx; cases hx
    -- the frame that the operation sees
    have hev : ∃ t' : TM, (∀ x ∈ o.op.operands, t'.ev x = (T i).ev x) ∧ ∀ x, VR g' (Mm J).next (t'.ev x) (a'.eval x) := by
      refine ⟨(List.range (T i).length).map fun x => if x ∈ namesOf o then (T i).getD x .undef else .undef, fun x hx => ?_, fun x => ?_⟩
      · cases x with
        | tmp x =>
          have hn : x ∈ namesOf o := by simp only [namesOf, List.mem_append, List.mem_filterMap]; exact .inr ⟨.tmp x, by simpa using hx, rfl⟩
          show List.getD _ x AV.undef = List.getD _ x AV.undef
          by_cases hl : x < (T i).length
          · simp [List.getD_eq_getElem?_getD, hl, hn]
          · simp [List.getD_eq_getElem?_getD, List.getElem?_eq_none (Nat.le_of_not_lt hl), hl]
        | _ => rfl
      · cases x with
        | tmp x =>
          show VR g' (Mm J).next (List.getD _ x AV.undef) (a'.tmps.getD x Go.undef)
          by_cases hl : x < (T i).length
          · by_cases hn : x ∈ namesOf o
            · have := hval x (hwr x hn) (hwb x hn)
              simpa [List.getD_eq_getElem?_getD, hl, hn] using this
            · simp [List.getD_eq_getElem?_getD, hl, hn]; exact .undef _
          · simp [List.getD_eq_getElem?_getD, hl]; exact .undef _
        | const v => exact VR.av _ _ v
        | global b => exact .undef _
        | func f => exact .func _ _ _ [] [] .nil .nil
    obtain ⟨t', ht1, ht2⟩ := hev
    unfold wpOp
    rw [ho']
    simp only [hwant]
    cases hX : X i with
    | false =>
      rw [if_neg (by simp)]
      obtain ⟨hv0, hm0⟩ := hdid.skip hX
      have hz : ∀ n, VR g' n (V i) Go.undef := fun n => by rw [hv0]; exact .tup [] [] .nil
      by_cases hc : opClass P o.op = 2 ∧ isAlloc o.op = false
      · obtain ⟨hc, ha⟩ := hc
        have e := hJe hc ha
        subst e
        refine hnext (inv.step tr hT0 ho hni hedge hdst (J' := J + 1) (B' := B) (Nat.le_succ _) (fun h hon hle => ?_) (fun h oh hoh hch hlt => ?_) (fun _ hle => by omega) (fun _ _ => rfl) (fun h oh hoh hch hon hle hx ty zs hop hzs hp => by rw [hm0]; exact hp) (fun _ hle => by omega) (by omega) (by rw [hm0]; exact inv.sim) (by rw [hm0]; exact Ext'.refl _ _) (.inl (hz _)))
        · rcases Nat.lt_or_ge J h with h' | h'
          · exact h'
          · exact absurd (by rw [show J = h by omega]; exact hon) hni
        · rcases Nat.lt_or_ge h J with h' | h'
          · exact .inl (inv.hv1 h oh hoh hch h')
          · exact .inr (by omega)
      · exact hstay (by
          by_cases h2 : opClass P o.op = 2
          · right
            refine ⟨hX, ?_⟩
            cases ha : isAlloc o.op with
            | true => rfl
            | false => exact absurd ⟨h2, ha⟩ hc
          · exact .inl h2) hmore (Ext'.refl _ _) (hz _)
    | true =>
      rw [if_pos rfl]
      left
      rcases class_le o.op with hc | hc | hc
      · -- neither reads nor writes
        refine aop_sound (ρ := AV × Mem) (k := fun v m' => some ((v, m'), m')) (r := ((V i, Mm J), Mm J)) (hcall _) hmore (fun v z g'' m'' w'' hv hs he hk => ?_) ht2 (by rw [aop_congr call o ht1]; exact hdid.pure hX hc (Mm J) _)
        cases hk
        exact hstay (.inl (by omega)) hs he hv
      · -- a load
        obtain ⟨sh, b, ⟨ty, x, hop, hsh, hb⟩, hl0, _, hl1, hl2⟩ := tr.loads i o (by omega) ho hX hc
        have hload : load? sh b (Mm J) = some (V i) := by
          rcases Nat.le_total J i with hle | hle
          · -- the first writing operation from J on
            have key : ∀ d, J + d ≤ i → (∀ (k : Nat) ok, J ≤ k → k < J + d → ops.toList[k]? = some ok → opClass P ok.op = 2 → X k = false) ∨ ∃ (h : Nat) (oh : Oper), J ≤ h ∧ h < J + d ∧ ops.toList[h]? = some oh ∧ opClass P oh.op = 2 ∧ X h = true ∧ ∀ (k : Nat) ok, J ≤ k → k < h → ops.toList[k]? = some ok → opClass P ok.op = 2 → X k = false := by
              intro d
              induction d with
              | zero => intro _; exact .inl fun k ok h1 h2 => by omega
              | succ d ihd =>
                intro hd
                rcases ihd (by omega) with h1 | ⟨h, oh, h1, h2, h3, h4, h5, h6⟩
                · obtain ⟨od, hod⟩ := get_some (l := ops.toList) (i := J + d) (by simp; omega)
                  by_cases hcd : opClass P od.op = 2 ∧ X (J + d) = true
                  · exact .inr ⟨J + d, od, by omega, by omega, hod, hcd.1, hcd.2, h1⟩
                  · left
                    intro k ok hk1 hk2 hk3 hk4
                    rcases Nat.lt_or_ge k (J + d) with h | h
                    · exact h1 k ok hk1 h hk3 hk4
                    · have : k = J + d := by omega
                      subst this
                      rw [hod] at hk3; cases hk3
                      cases hxk : X (J + d) with
                      | false => rfl
                      | true => exact absurd ⟨hk4, hxk⟩ hcd
                · exact .inr ⟨h, oh, h1, by omega, h3, h4, h5, h6⟩
            obtain ⟨d, rfl⟩ := Nat.exists_eq_add_of_le hle
            rcases key d (Nat.le_refl _) with h1 | ⟨h, oh, h1, h2, h3, h4, h5, h6⟩
            · rw [M_same tr d J (by omega) (fun k ok a b c e => h1 k ok a b c e)]; exact hl0
            · obtain ⟨dd, rfl⟩ := Nat.exists_eq_add_of_le h1
              rw [M_same tr dd J (by omega) (fun k ok a b c e => h6 k ok a b c e)]
              refine hl1 (J + dd) oh (by omega) (by omega) h3 h4 h5 ?_
              cases hbt : ((befores [] ops.toList).getD (J + d) 0).testBit (J + dd) with
              | false => rfl
              | true =>
                have := hbit (J + dd) oh h3 h4 hbt
                omega
          · -- the last writing operation ahead of J
            have key : ∀ d, i + d ≤ J → (∀ (k : Nat) ok, i ≤ k → k < i + d → ops.toList[k]? = some ok → opClass P ok.op = 2 → X k = false) ∨ ∃ (h : Nat) (oh : Oper), i ≤ h ∧ h < i + d ∧ ops.toList[h]? = some oh ∧ opClass P oh.op = 2 ∧ X h = true ∧ ∀ (k : Nat) ok, h + 1 ≤ k → k < i + d → ops.toList[k]? = some ok → opClass P ok.op = 2 → X k = false := by
              intro d
              induction d with
              | zero => intro _; exact .inl fun k ok h1 h2 => by omega
              | succ d ihd =>
                intro hd
                obtain ⟨od, hod⟩ := get_some (l := ops.toList) (i := i + d) (by have := inv.jle; simp; omega)
                by_cases hcd : opClass P od.op = 2 ∧ X (i + d) = true
                · exact .inr ⟨i + d, od, by omega, by omega, hod, hcd.1, hcd.2, fun k ok h1 h2 => by omega⟩
                · have hlast : ∀ (k : Nat) ok, k = i + d → ops.toList[k]? = some ok → opClass P ok.op = 2 → X k = false := by
                    intro k ok hk hk3 hk4
                    subst hk
                    rw [hod] at hk3; cases hk3
                    cases hxk : X (i + d) with
                    | false => rfl
                    | true => exact absurd ⟨hk4, hxk⟩ hcd
                  rcases ihd (by omega) with h1 | ⟨h, oh, h1, h2, h3, h4, h5, h6⟩
                  · left
                    intro k ok hk1 hk2 hk3 hk4
                    rcases Nat.lt_or_ge k (i + d) with h | h
                    · exact h1 k ok hk1 h hk3 hk4
                    · exact hlast k ok (by omega) hk3 hk4
                  · refine .inr ⟨h, oh, h1, by omega, h3, h4, h5, fun k ok hk1 hk2 hk3 hk4 => ?_⟩
                    rcases Nat.lt_or_ge k (i + d) with h' | h'
                    · exact h6 k ok hk1 h' hk3 hk4
                    · exact hlast k ok (by omega) hk3 hk4
            obtain ⟨d, hd⟩ := Nat.exists_eq_add_of_le hle
            subst hd
            rcases key d (Nat.le_refl _) with h1 | ⟨h, oh, h1, h2, h3, h4, h5, h6⟩
            · rw [← M_same tr d i inv.jle (fun k ok a b c e => h1 k ok a b c e)]; exact hl0
            · obtain ⟨dd, hdd⟩ := Nat.exists_eq_add_of_le (show h + 1 ≤ i + d by omega)
              rw [hdd, ← M_same tr dd (h + 1) (by have := inv.jle; omega) (fun k ok a b c e => h6 k ok a (by omega) c e)]
              have hne : h ≠ i := by
                intro e; subst e
                rw [ho] at h3; cases h3; omega
              refine hl2 h oh (by omega) h3 h4 h5 ?_
              cases hbt : ((befores [] ops.toList).getD h 0).testBit i with
              | false => rfl
              | true => exact absurd (hahead' h oh h3 (inv.hv1 h oh h3 h4 h2) i hbt) hni
        refine aop_sound (ρ := AV × Mem) (k := fun v m' => some ((v, m'), m')) (r := ((V i, Mm J), Mm J)) (hcall _) hmore (fun v z g'' m'' w'' hv hs he hk => ?_) ht2 (by
          rw [aop_congr call o ht1]
          unfold aop
          rw [hop]
          simp only [hsh, hb]
          unfold bnd load
          rw [hload]
          rfl)
        cases hk
        exact hstay (.inl (by omega)) hs he hv
      · cases ha : isAlloc o.op with
        | false =>
          -- it writes
          have e := hJe hc ha
          subst e
          refine aop_sound (ρ := AV × Mem) (k := fun v m' => some ((v, m'), m')) (r := ((V J, Mm (J + 1)), Mm (J + 1))) (hcall _) hmore (fun v z g'' m'' w'' hv hs he hk => ?_) ht2 (by rw [aop_congr call o ht1]; exact hdid.heavy hX hc _)
          cases hk
          obtain ⟨hs', hp'⟩ := hafter hs he
          refine hnext (inv.step tr hT0 ho hni hedge hdst (J' := J + 1) (B' := B) (Nat.le_succ _) (fun h hon hle => ?_) (fun h oh hoh hch hlt => ?_) (fun _ hle => by omega) (fun _ _ => rfl) (fun h oh hoh hch hon hle hx ty zs hop hzs hp => hp' _ _ _ ⟨h, oh, hoh, hch, hon, by omega, hx, rfl⟩ hp) (fun _ hle => by omega) (by omega) hs' he (.inl hv))
          · rcases Nat.lt_or_ge J h with h' | h'
            · exact h'
            · exact absurd (by rw [show J = h by omega]; exact hon) hni
          · rcases Nat.lt_or_ge h J with h' | h'
            · exact .inl (inv.hv1 h oh hoh hch h')
            · exact .inr (by omega)
        | true =>
          -- a new variable
          obtain ⟨ty, zs, hop, hzs, hV, hM⟩ := alloc_did tr ho hc ha hX
          obtain ⟨iz, zv, hiz, hizz, hzv, hrun⟩ := zero_sound (g := g') (n := 0) hzs
          have hzv' : ∀ (g : Gm) (n : Nat), VRs g n zs zv.cells.toList := by
            intro g n
            obtain ⟨iz', zv', hiz', hizz', hzv', _⟩ := zero_sound (g := g) (n := n) hzs
            rw [hiz] at hiz'; cases hiz'
            rw [hizz] at hizz'; cases hizz'
            exact hzv'
          have hexec : (execOp a'.eval o).run P w' = .ok (.value (.pointer (some ⟨w'.heap.size, 0, none⟩))) (w'.alloc (.cells zv.cells ty (0, 0))) := by
            unfold execOp
            rw [hop]
            simp [Instr.alloc, hrun, newVar, newRow]
          refine val_wp hexec ?_
          refine hnext (inv.step tr hT0 ho hni hedge hdst (J' := J) (B' := fun h => if h = i then w'.heap.size else B h) (g'' := g') (Nat.le_refl _) (fun _ _ h => h) (fun h oh hoh hch hlt => .inl (inv.hv1 h oh hoh hch hlt)) (fun _ _ => ha) (fun h hon => ?_) ?_ (fun _ _ _ => ⟨?_, ?_⟩) inv.jle (inv.sim.allocOther _) (Ext'.refl _ _) (.inr ⟨hc, hJ hc, hX, by simp⟩))
          · have : h ≠ i := fun e => hni (by rw [← e]; exact hon)
            simp [this]
          · intro h oh hoh hch hon hle hx ty' zs' hop' hzs' hp
            obtain ⟨⟨c, h1, h2⟩, h3, h4⟩ := hp
            refine ⟨⟨c, ?_, h2⟩, h3, h4⟩
            rw [wold _ _ _ (hE _ ⟨h, oh, hoh, hch, hon, hle, hx, rfl⟩)]
            exact h1
          · intro ty' zs' hop' hzs'
            rw [hop] at hop'; cases hop'
            rw [hzs] at hzs'; cases hzs'
            simp only [if_true]
            refine ⟨⟨zv.cells, wnew _ _, hzv'⟩, fun h => Nat.lt_irrefl _ (inv.sim.below.lt h), fun j hj e => ?_⟩
            rcases Nat.lt_or_ge j (Mm J).base with h | h
            · have h1 := (inv.sim.old j h).1
              have h2 := inv.sim.mbase
              omega
            · have := (inv.sim.own j h hj).2
              omega
          · intro h oh hoh hch hon hle hx e
            have := hE _ ⟨h, oh, hoh, hch, hon, hle, hx, rfl⟩
            simp at e
            omega

end

/-- A region that draws its order. -/
theorem runDraw_sound {ρ : Type} {P : Program} {W : Ref} {nt : Nat} {call : Nat → List AV → M AV} {ops : Array Oper} {g : Gm} {m : Mem} {t : TM} {a : Act} {w : World} {K : TM → M ρ} {r : ρ × Mem} {Q : Exit → Act → World → Prop} {id : Nat}
    (hm : P.follows .mixedOrders = true) (hcall : ∀ W, CallOk P W call) (s : St W nt g m t a w) (hok : drawOk P ops.toList (befores [] ops.toList) = true) (hK : Then W nt g m K r (Q .normal))
    (h : runDraw P call ops.toList (befores [] ops.toList) 0 0 ops.toList [] [] K t m = some r) : (Code.region id ops true).wp P Q a w := by
  obtain ⟨T, Mm, V, X, hT, hM, hK', tr⟩ := runDraw_trace ops.toList 0 0 t m [] [] (by simp) h
  simp only [Nat.zero_add, Array.length_toList] at hK'
  subst hT hM
  refine wp_region_any hm ?_
  have inv0 : Inv P W ops T Mm V X g (Mm 0).next a.tmps.size (Array.replicate ops.size false) 0 (fun _ => 0) g a w.drew := by
    have hoff : ∀ i, ¬ on (Array.replicate ops.size false) i := fun i hl => by
      unfold on at hl; simp [Array.getD_eq_getD_getElem?, Array.getElem?_replicate] at hl
      split at hl <;> simp at hl
    refine ⟨by simp, fun i o ho hl => absurd hl (hoff i), fun h o ho hc hl => absurd hl (Nat.not_lt_zero _), fun h o ho hc hl => absurd hl (hoff h), fun h o ho hc hl => absurd hl (hoff h), fun h o ho hc hl => absurd hl (hoff h), Nat.zero_le _, s.sim.drew, Ext'.refl _ _, fun x => ⟨0, Nat.zero_le _, fun k o ho hd => ⟨fun hl => absurd hl (hoff k), fun hl => absurd hl (Nat.not_lt_zero _)⟩, .inl (s.tm x)⟩, rfl, s.defers⟩
  obtain ⟨J, g', inv, hmax⟩ := inv0.norm tr _ _ (Nat.le_refl _)
  refine draw_any rfl (drawOk_spec hok) hcall tr (g := g) (n0 := (Mm 0).next) (sz := a.tmps.size) s.len (fun g' a' w' h1 h2 h3 h4 h5 => hK g' (Mm ops.size) (T ops.size) a' w' ⟨h1, h3, ?_, ?_, h5⟩ h2 hK') ops.size _ J _ g' a _ inv hmax ?_
  · rw [h4, T_len tr ops.size (Nat.le_refl _)]; exact s.len
  · rw [h4]; exact s.nt
  · have := List.length_filter_le (fun i => !(Array.replicate ops.size false).getD i false) (List.range ops.size)
    simpa using this

end Go.Proofs.YtooogfnmhfocjaaDoor.Spl

/- The abstract machine, 12: code and calls. -/
namespace Go.Proofs.YtooogfnmhfocjaaDoor.Spl
open Go Go.RowKit Go.Lib
set_option linter.unusedVariables false
set_option linter.unusedSimpArgs false

variable {P : Program} {W : Ref} {nt : Nat}

theorem wp_loopN {c : Code} {Q : Exit → Act → World → Prop} (I : Nat → Act → World → Prop) (h0 : ∀ a w, ¬ I 0 a w) (round : ∀ n a w, I (n + 1) a w → c.wp P (Exit.then (I n) Q) a w) (n : Nat) (a : Act) (w : World) (h : I n a w) : (Code.loop c).wp P Q a w := by
  intro b k cs
  have key : ∀ n a w, I n a w → ∃ e a' w', Q e a' w' ∧ Arrives P (lone (b.at a (.code c :: .inLoop c :: k)) cs w) b k cs e a' w' := by
    intro n
    induction n with
    | zero => intro a w h; exact absurd h (h0 a w)
    | succ n ih =>
      intro a w hI
      obtain ⟨e, a₁, w₁, hq, harr⟩ := round n a w hI b (.inLoop c :: k) cs
      cases e with
      | normal =>
        obtain ⟨e₂, a₂, w₂, hq₂, harr₂⟩ := ih a₁ w₁ hq
        exact ⟨e₂, a₂, w₂, hq₂, .of_steps (Steps.trans harr (.one step_inLoop)) harr₂⟩
      | exit id => exact ⟨_, a₁, w₁, hq, .pass (x := .inLoop c) rfl (fun _ _ => .inl (by simp)) harr⟩
      | goto l => exact ⟨_, a₁, w₁, hq, .pass (x := .inLoop c) rfl (fun _ _ => .inl (by simp)) harr⟩
      | ret => exact ⟨_, a₁, w₁, hq, .pass (x := .inLoop c) rfl (fun _ _ => .inl (by simp)) harr⟩
      | panic ch => exact ⟨_, a₁, w₁, hq, .pass (x := .inLoop c) rfl (fun _ _ => .inl (by simp)) harr⟩
      | outgrown => exact ⟨_, a₁, w₁, hq, .pass (x := .inLoop c) rfl (fun _ _ => .inl (by simp)) harr⟩
  obtain ⟨e, a', w', hq, harr⟩ := key n a w h
  exact ⟨e, a', w', hq, .of_steps (.one step_loop) harr⟩

/-- The way on behind each exit. -/
def ThenE {ρ : Type} (W : Ref) (nt : Nat) (g : Gm) (m : Mem) (K : Kont ρ) (r : ρ × Mem) (Q : Exit → Act → World → Prop) : Prop :=
  ∀ e g' m' t' a' w', St W nt g' m' t' a' w' → Ext' g m.next g' m'.next → K e t' m' = some r → Q e a' w'
theorem ThenE.ext {ρ : Type} {g : Gm} {m : Mem} {K : Kont ρ} {r : ρ × Mem} {Q : Exit → Act → World → Prop} (h : ThenE W nt g m K r Q) {g' : Gm} {m' : Mem} (e : Ext' g m.next g' m'.next) : ThenE W nt g' m' K r Q :=
  fun x g'' m'' t' a' w' s e' hk => h x g'' m'' t' a' w' s (e.trans e') hk

theorem execK_sound {ρ : Type} {call : Nat → List AV → M AV} (hm : P.follows .mixedOrders = true) (hcall : ∀ W, CallOk P W call) (n R : Nat) {r : ρ × Mem} : ∀ (c : Code) (ls : List (Nat × Nat)) (L : Nat) (K : Kont ρ) (Q : Exit → Act → World → Prop) {g : Gm} {m : Mem} {t : TM} {a : Act} {w : World},
    St W nt g m t a w → ThenE W nt g m K r Q → execK P call n nt R c ls L K t m = some r → c.wp P Q a w := by
  intro c
  induction c with
  | skip =>
    intro ls L K Q g m t a w s hK h
    exact wp_skip (hK .normal g m t a w s (Ext'.refl _ _) h)
  | label l =>
    intro ls L K Q g m t a w s hK h
    exact wp_label (hK .normal g m t a w s (Ext'.refl _ _) h)
  | region id ops draw =>
    intro ls L K Q g m t a w s hK h
    have hT : Then W nt g m (K .normal) r (Q .normal) := fun g' m' t' a' w' s' e' hk => hK .normal g' m' t' a' w' s' e' hk
    unfold execK at h
    cases draw with
    | true =>
      simp only [if_true] at h
      split at h
      · rename_i hok
        exact runDraw_sound hm hcall s hok hT h
      · cases h
    | false =>
      simp only [Bool.false_eq_true, if_false] at h
      have := runOps_sound (ops := ops) (hcall W) (Q := Q) ops.toList 0 (by simp) s hT h
      refine wp_region ?_
      rw [List.range_eq_range']
      simpa using this
  | seq x y ihx ihy =>
    intro ls L K Q g m t a w s hK h
    have main : ∀ (ls' : List (Nat × Nat)) (L' M : Nat) (mk : TM → TM), (∀ t' g' m' a' w', St W nt g' m' t' a' w' → St W nt g' m' (mk t') a' w') →
        execK P call n nt R x ls' L' (fun e t' => match e with | .normal => execK P call n nt R y ls L K (mk t') | e => K e t') t m = some r → (Code.seq x y).wp P Q a w := by
      intro ls' L' M mk hmk h
      refine wp_seq (ihx ls' L' _ _ s ?_ h)
      intro e g' m' t' a' w' s' e' hk
      cases e with
      | normal => exact ihy ls L K Q (hmk _ _ _ _ _ s') (hK.ext e') hk
      | exit id => exact hK _ g' m' t' a' w' s' e' hk
      | goto l => exact hK _ g' m' t' a' w' s' e' hk
      | ret => exact hK _ g' m' t' a' w' s' e' hk
      | panic ch => exact hK _ g' m' t' a' w' s' e' hk
      | outgrown => exact hK _ g' m' t' a' w' s' e' hk
    cases x with
    | region id ops draw => exact main ls 0 0 (fun x => x) (fun _ _ _ _ _ s => s) (by unfold execK at h; exact h)
    | _ => exact main ls _ 0 (mask (liveIn R y ls L)) (fun _ _ _ _ _ s => s.mask _) (by unfold execK at h; exact h)
  | cond c x y ihx ihy =>
    intro ls L K Q g m t a w s hK h
    unfold execK at h
    obtain ⟨b, hb, hk⟩ := mc_some h
    have hc := s.ev c
    rw [hb] at hc
    generalize hv : a.eval c = v at hc
    cases hc
    cases b with
    | true => exact wp_cond_true hv (ihx ls L K Q s hK (by simpa using hk))
    | false => exact wp_cond_false hv (ihy ls L K Q s hK (by simpa using hk))
  | block id c ih =>
    intro ls L K Q g m t a w s hK h
    unfold execK at h
    refine wp_block (ih _ _ _ _ s ?_ h)
    intro e g' m' t' a' w' s' e' hk
    cases e with
    | exit j =>
      simp only [Exit.inBlock] at hk ⊢
      split at hk
      · rename_i hj; rw [if_pos hj]; exact hK .normal g' m' t' a' w' s' e' hk
      · rename_i hj; rw [if_neg hj]; exact hK (.exit j) g' m' t' a' w' s' e' hk
    | normal => exact hK _ g' m' t' a' w' s' e' hk
    | goto l => exact hK _ g' m' t' a' w' s' e' hk
    | ret => exact hK _ g' m' t' a' w' s' e' hk
    | panic ch => exact hK _ g' m' t' a' w' s' e' hk
    | outgrown => exact hK _ g' m' t' a' w' s' e' hk
  | loop c ih =>
    intro ls L K Q g m t a w s hK h
    unfold execK at h
    let step : (List AV → M ρ) → List AV → M ρ := fun rec l => execK P call n nt R c ls (liveIn R c ls 0) (fun e t' => match e with | .normal => rec (pack (liveIn R c ls 0) nt 0 t') | e => K e t') (unpack (liveIn R c ls 0) nt 0 0 l)
    refine wp_loopN (fun k a' w' => ∃ g' m' t', St W nt g' m' t' a' w' ∧ Ext' g m.next g' m'.next ∧ loopN step k (pack (liveIn R c ls 0) nt 0 t') m' = some r) ?_ ?_ n a w ⟨g, m, t, s, Ext'.refl _ _, h⟩
    · rintro a' w' ⟨g', m', t', _, _, h'⟩
      simp [loopN, fail] at h'
    · rintro k a' w' ⟨g', m', t', s', e', h'⟩
      have h'' : step (loopN step k) (pack (liveIn R c ls 0) nt 0 t') m' = some r := h'
      refine ih ls (liveIn R c ls 0) _ _ (s'.repack (liveIn R c ls 0)) ?_ h''
      intro e g'' m'' t'' a'' w'' s'' e'' hk
      cases e with
      | normal => exact ⟨g'', m'', t'', s'', e'.trans e'', hk⟩
      | exit id => exact hK _ g'' m'' t'' a'' w'' s'' (e'.trans e'') hk
      | goto l => exact hK _ g'' m'' t'' a'' w'' s'' (e'.trans e'') hk
      | ret => exact hK _ g'' m'' t'' a'' w'' s'' (e'.trans e'') hk
      | panic ch => exact hK _ g'' m'' t'' a'' w'' s'' (e'.trans e'') hk
      | outgrown => exact hK _ g'' m'' t'' a'' w'' s'' (e'.trans e'') hk
  | exit id =>
    intro ls L K Q g m t a w s hK h
    exact wp_exit (hK (.exit id) g m t a w s (Ext'.refl _ _) h)
  | ret =>
    intro ls L K Q g m t a w s hK h
    exact wp_ret (hK .ret g m t a w s (Ext'.refl _ _) h)
  | rangeFunc f ps x y _ _ => intro ls L K Q g m t a w s hK h; simp [execK, fail] at h
  | scope c _ => intro ls L K Q g m t a w s hK h; simp [execK, fail] at h
  | goto l => intro ls L K Q g m t a w s hK h; simp [execK, fail] at h
  | refuse y => intro ls L K Q g m t a w s hK h; simp [execK, fail] at h

/-! results -/

def resSem (tmps : Array Value) (v : ResultVar) : Sem Value :=
  match v with
  | .tmp t => pure (tmps.getD t Go.undef)
  | .cell a t => do loadVar t (← asAddr (tmps.getD a Go.undef))
theorem results_eq (fn : Func) (tmps : Array Value) : results fn tmps = (do let vs ← fn.results.mapM (resSem tmps); pure (if h : vs.size = 1 then vs[0] else .tuple vs)) := by
  unfold results
  congr 1

theorem resultsK_sound {fnr : List ResultVar} : ∀ (rs : List ResultVar) {k : List AV → M AV} {r : AV × Mem} {g : Gm} {m : Mem} {t : TM} {a : Act} {w : World}, St W nt g m t a w → resultsK P t rs k m = some r →
    ∃ vs xs, (rs.mapM (resSem a.tmps)).run P w = .ok xs w ∧ VRs g m.next vs xs ∧ k vs m = some r
  | [], k, r, g, m, t, a, w, s, h => ⟨[], [], by simp, .nil, h⟩
  | .tmp i :: rs, k, r, g, m, t, a, w, s, h => by
    simp only [resultsK] at h
    obtain ⟨vs, xs, h1, h2, h3⟩ := resultsK_sound (fnr := fnr) rs s h
    exact ⟨_, _ :: xs, by simp only [List.mapM_cons, Sem.run_bind, h1, resSem, Sem.run_pure, Result.andThen_ok], .cons _ _ _ _ (s.tm i) h2, h3⟩
  | .cell i ty :: rs, k, r, g, m, t, a, w, s, h => by
    simp only [resultsK] at h
    generalize hsh : shape? P ty = osh at h
    split at h
    · rename_i sh
      obtain ⟨v, m1, hv, hk⟩ := bnd_some h
      unfold load at hv
      obtain ⟨u, hu, hq⟩ := Option.map_eq_some_iff.1 hv
      cases hq
      obtain ⟨z, hz, rz⟩ := load_sound (P := P) s.sim hsh (s.tm i) hu
      obtain ⟨vs, xs, h1, h2, h3⟩ := resultsK_sound (fnr := fnr) rs s hk
      refine ⟨_, z :: xs, ?_, .cons _ _ _ _ rz h2, h3⟩
      have hz' : (resSem a.tmps (.cell i ty)).run P w = .ok z w := by
        unfold resSem
        have hi := s.tm i
        unfold load? at hu
        split at hu
        · rename_i j o heq
          rw [heq] at hi
          simp only
          generalize a.tmps.getD i Go.undef = q at hi hz ⊢
          cases hi
          simpa [Instr.loadAt, Instr.sureAddr, asAddr] using hz
        · cases hu
      simp only [List.mapM_cons, Sem.run_bind, hz', h1, Result.andThen_ok, Sem.run_pure]
    · cases h

theorem results_sound {fn : Func} {r : AV × Mem} {g : Gm} {m : Mem} {t : TM} {a : Act} {w : World} (s : St W nt g m t a w) (h : resultsK P t fn.results.toList (fun vs => ret (tuple vs)) m = some r) :
    ∃ z, (results fn a.tmps).run P w = .ok z w ∧ VR g m.next r.1 z ∧ r.2 = m := by
  obtain ⟨vs, xs, h1, h2, h3⟩ := resultsK_sound (fnr := []) _ s h
  simp [ret] at h3
  subst h3
  have hmap : (fn.results.mapM (resSem a.tmps)).run P w = .ok xs.toArray w := by
    rw [Array.mapM_eq_mapM_toList]
    simp only [Sem.run_map, h1, Result.andThen_ok]
  refine ⟨if h : xs.toArray.size = 1 then xs.toArray[0] else .tuple xs.toArray, ?_, ?_, rfl⟩
  · rw [results_eq]
    simp only [Sem.run_bind]
    rw [hmap]
    rfl
  · cases h2 with
    | nil => exact .tup [] [] .nil
    | cons v x vs xs hv ht =>
      cases ht with
      | nil => simpa [tuple] using hv
      | cons v' x' vs' xs' hv' ht' =>
        have : VR g m.next (.tup (v :: v' :: vs')) (.tuple (x :: x' :: xs').toArray) := .tup _ _ (.cons _ _ _ _ hv (.cons _ _ _ _ hv' ht'))
        simpa [tuple] using this

/-! calls -/

/-- What is told of the functions that are not run here. -/
def ExtOk (P : Program) (W : Ref) (ext : Ext) : Prop :=
  ∀ f k, ext f = some k → ∀ args v m m1, k args m = some (v, m1) → ∀ g w xs, Sim W g m w → VRs g m.next args xs →
    ((∃ fn, P.funcs[f]? = some fn ∧ fn.body.isSome = true) ∧ Calls P f xs.toArray w fun e w' => ∃ z g', e = .returned z ∧ VR g' m1.next v z ∧ Sim W g' m1 w' ∧ Ext' g m.next g' m1.next) ∨
    ∃ z g' w', (callFunc f xs.toArray).run P w = .ok (.value z) w' ∧ VR g' m1.next v z ∧ Sim W g' m1 w' ∧ Ext' g m.next g' m1.next

theorem fcall_ok {ext : Ext} (hm : P.follows .mixedOrders = true) (hn : ∀ (f : Nat) (fn : Func), P.funcs[f]? = some fn → fn.name ≠ "runtime.NumGoroutine") (hext : ∀ W, ExtOk P W ext) : ∀ (n : Nat) (W : Ref), CallOk P W (fcall P ext n) := by
  intro n
  induction n with
  | zero => intro W f args v m m1 h; simp [fcall, fail] at h
  | succ n ih =>
    intro W f args v m m1 h g w xs s hx
    unfold fcall at h
    generalize he : ext f = oe at h
    cases oe with
    | some k =>
      rcases hext W f k he args v m m1 h g w xs s hx with ⟨⟨fn, h1, h2⟩, h3⟩ | h3
      · exact .inl ⟨⟨fn, h1, h2, hn f fn h1⟩, h3⟩
      · exact .inr h3
    | none =>
      simp only at h
      generalize hf : P.funcs[f]? = ofn at h
      cases ofn with
      | none => cases h
      | some fn =>
        simp only at h
        unfold bodyK at h
        generalize hb : fn.body = ob at h
        cases ob with
        | none => cases h
        | some c =>
          refine .inl ⟨⟨fn, rfl, by simp [hb], hn f fn hf⟩, ?_⟩
          refine calls_of_wp hf hb ?_
          have hl := hx.length
          have st : St W fn.ntmps g m (args ++ List.replicate (fn.ntmps - args.length) .undef) { tmps := xs.toArray ++ Array.replicate (fn.ntmps - xs.toArray.size) Go.undef, defers := [] } w := by
            refine ⟨s, fun i => ?_, by simp [hl], by simp; omega, rfl⟩
            by_cases hi : i < args.length
            · obtain ⟨y, hy, ry⟩ := hx.get i (v := args[i]) (by simp)
              have h1 : i < xs.length := by omega
              rw [List.getElem?_eq_getElem h1] at hy; cases hy
              have e1 : (args ++ List.replicate (fn.ntmps - args.length) AV.undef).getD i .undef = args[i] := by
                simp [List.getD_eq_getElem?_getD, List.getElem?_append, hi]
              have e2 : (xs.toArray ++ Array.replicate (fn.ntmps - xs.toArray.size) Go.undef).getD i Go.undef = xs[i] := by
                simp [Array.getD_eq_getD_getElem?, Array.getElem?_append, h1]
              rw [e1, e2]
              exact ry
            · have : (args ++ List.replicate (fn.ntmps - args.length) AV.undef).getD i .undef = .undef := by
                simp only [List.getD_eq_getElem?_getD, List.getElem?_append, hi, if_false, List.getElem?_replicate]
                split <;> rfl
              rw [this]; exact .undef _
          refine execK_sound hm ih n _ c [] _ _ _ st ?_ h
          intro e g' m' t' a' w' s' e' hk
          cases e with
          | normal =>
            obtain ⟨z, h1, h2, h3⟩ := results_sound s' hk
            exact ⟨s'.defers, z, h1, z, g', rfl, by simp at h3; subst h3; exact h2, by simp at h3; subst h3; exact s'.sim, by simp at h3; subst h3; exact e'⟩
          | ret =>
            obtain ⟨z, h1, h2, h3⟩ := results_sound s' hk
            exact ⟨s'.defers, z, h1, z, g', rfl, by simp at h3; subst h3; exact h2, by simp at h3; subst h3; exact s'.sim, by simp at h3; subst h3; exact e'⟩
          | _ => cases hk

end Go.Proofs.YtooogfnmhfocjaaDoor.Spl

/- The abstract machine, 13: how a law is shown by it: closed calls, the first memory, what holds from some fuel on. -/
namespace Go.Proofs.YtooogfnmhfocjaaDoor.Spl
open Go Go.RowKit
set_option linter.unusedVariables false
set_option linter.unusedSimpArgs false

/-! what is told of further functions -/

def Ext.plus (ext : Ext) (f : Nat) (k : List AV → M AV) : Ext := fun i => if i = f then some k else ext i
def Ext.none : Ext := fun _ => Option.none

theorem ExtOk.none (P : Program) (W : Ref) : ExtOk P W Ext.none := fun f k h => by cases h

/-- What is told of one function. -/
def FunOk (P : Program) (W : Ref) (f : Nat) (k : List AV → M AV) : Prop :=
  ∀ args v m m1, k args m = some (v, m1) → ∀ g w xs, Sim W g m w → VRs g m.next args xs →
    ((∃ fn, P.funcs[f]? = some fn ∧ fn.body.isSome = true) ∧ Calls P f xs.toArray w fun e w' => ∃ z g', e = .returned z ∧ VR g' m1.next v z ∧ Sim W g' m1 w' ∧ Ext' g m.next g' m1.next) ∨
    ∃ z g' w', (callFunc f xs.toArray).run P w = .ok (.value z) w' ∧ VR g' m1.next v z ∧ Sim W g' m1 w' ∧ Ext' g m.next g' m1.next

theorem ExtOk.plus {P : Program} {W : Ref} {ext : Ext} (h : ExtOk P W ext) {f : Nat} {k : List AV → M AV} (hk : FunOk P W f k) : ExtOk P W (ext.plus f k) := by
  intro i k' he
  unfold Ext.plus at he
  split at he
  · rename_i e
    subst e; cases he
    exact hk
  · exact h i k' he

/-- A function that hands back its argument (internal/abi.NoEscape). -/
def same1 : List AV → M AV := fun args m =>
  match args with
  | [x] => some (x, m)
  | _ => none
theorem same1_ok {P : Program} {W : Ref} {f : Nat} (h : ∀ (x : Value) (w : World), (callFunc f #[x]).run P w = .ok (.value x) w) : FunOk P W f same1 := by
  intro args v m m1 he g w xs s hx
  cases hx with
  | nil => cases he
  | cons a x _ _ ha ht =>
    cases ht with
    | nil =>
      cases he
      exact .inr ⟨x, g, w, h x w, ha, s, Ext'.refl _ _⟩
    | cons _ _ _ _ _ _ => cases he

def Mem.empty : Mem := ⟨0, 0, fun _ => .dead⟩
def comesTrue : Option (AV × Mem) → Bool
  | some (.bool true, _) => true
  | _ => false
theorem comesTrue_some {x : Option (AV × Mem)} (h : comesTrue x = true) : ∃ m, x = some (.bool true, m) := by
  unfold comesTrue at h
  split at h
  · exact ⟨_, rfl⟩
  · cases h

/-- A world, all of whose blocks are kept. -/
def Ref.all (w : World) : Ref := ⟨w, fun k => k < w.heap.size, fun _ h => h⟩

theorem sim_empty (w : World) : Sim (Ref.all w) ⟨0, fun i => i, fun _ => 0⟩ Mem.empty w where
  gbase := rfl
  mbase := Nat.zero_le _
  le := Nat.le_refl _
  below := ⟨rfl, rfl, rfl, Nat.le_refl _, fun _ _ => rfl⟩
  old := fun i h => absurd h (Nat.not_lt_zero _)
  own := fun i _ h => absurd h (Nat.not_lt_zero _)
  live := fun i _ _ _ _ h => absurd h (Nat.not_lt_zero _)
  raw := fun i _ _ h => absurd h (Nat.not_lt_zero _)
  inj := fun i j _ h => absurd h (Nat.not_lt_zero _)

/-- A function without arguments that comes to true in an empty memory comes to true in every one. -/
def trueAlways : List AV → M AV := fun args m =>
  match args with
  | [] => some (.bool true, m)
  | _ => none
theorem closed_ok {P : Program} {ext : Ext} (hm : P.follows .mixedOrders = true) (hn : ∀ (f : Nat) (fn : Func), P.funcs[f]? = some fn → fn.name ≠ "runtime.NumGoroutine") (hext : ∀ W, ExtOk P W ext) {n f : Nat}
    (h : comesTrue (fcall P ext n f [] Mem.empty) = true) (W : Ref) : FunOk P W f trueAlways := by
  obtain ⟨m0, h0⟩ := comesTrue_some h
  intro args v m m1 he g w xs s hx
  cases hx with
  | cons _ _ _ _ _ _ => cases he
  | nil =>
    cases he
    have hback : ∀ z g' w', VR g' m0.next (.bool true) z → Sim (Ref.all w) g' m0 w' → VR g m.next (.bool true) z ∧ Sim W g m w' ∧ Ext' g m.next g m.next := by
      intro z g' w' hz hs
      refine ⟨by cases hz; exact .bool true, s.heap ?_ hs.below.size (fun b hb => hs.below.block b hb), Ext'.refl _ _⟩
      exact s.below.trans ⟨hs.below.os, hs.below.tape, hs.below.output, hs.below.size, fun k hk => hs.below.block k (s.below.lt hk)⟩
    rcases fcall_ok hm hn hext n (Ref.all w) f [] (.bool true) Mem.empty m0 h0 _ w [] (sim_empty w) .nil with ⟨⟨fn, h1, h2, _⟩, h3⟩ | ⟨z, g', w', h1, h2, h3, h4⟩
    · exact .inl ⟨⟨fn, h1, h2⟩, h3.mono fun e w' ⟨z, g', he, hz, hs, _⟩ => ⟨z, g, he, hback z g' w' hz hs⟩⟩
    · exact .inr ⟨z, g, w', h1, hback z g' w' h2 h3⟩

/-! the first memory of a law -/

/-- A value of one cell. -/
def conv1 (n : Nat) : Value → AV
  | .bool b => .bool b
  | .int k x => .int k x
  | .string s => .str s
  | .pointer none => .nilptr
  | .pointer (some ⟨b, o, none⟩) => if b < n then .ptr b o else .undef
  | .slice none 0 0 => .nilslice
  | .slice (some _) 0 _ => .dang
  | .slice (some ⟨b, o, none⟩) len cap => if b < n ∧ len ≤ cap then .slice b o len 0 else .undef
  | .nilFunc => .nilfunc
  | .nilIface => .nilface
  | _ => .undef
def conv (n : Nat) : Value → AV
  | .agg cs => .agg (cs.toList.map (conv1 n))
  | v => conv1 n v

def mirror (W : World) : Mem := ⟨W.heap.size, W.heap.size, fun i => match W.heap[i]? with | some (.cells c t _) => .cells t 0 (c.toList.map (conv1 W.heap.size)) | _ => .dead⟩
def mirrorG (W : World) : Gm := ⟨W.heap.size, fun i => i, fun _ => 0⟩

theorem conv1_rel (W : World) (v : Value) : VR (mirrorG W) W.heap.size (conv1 W.heap.size v) v := by
  unfold conv1
  split
  · exact .bool _
  · exact .int _ _
  · exact .str _
  · exact .nilptr
  · rename_i b o
    split
    · rename_i h; exact .ptr (g := mirrorG W) b o h
    · exact .undef _
  · exact .nilslice
  · exact .dang _ _
  · rename_i b o len cap _
    split
    · rename_i h; exact .slice (g := mirrorG W) b o len 0 cap h.1 h.2 (fun hb => absurd hb (Nat.not_le.2 h.1))
    · exact .undef _
  · exact .nilfunc
  · exact .nilface
  · exact .undef _
theorem conv1s_rel (W : World) : ∀ l : List Value, VRs (mirrorG W) W.heap.size (l.map (conv1 W.heap.size)) l
  | [] => .nil
  | v :: l => .cons _ _ _ _ (conv1_rel W v) (conv1s_rel W l)
theorem conv_rel (W : World) (v : Value) : VR (mirrorG W) W.heap.size (conv W.heap.size v) v := by
  unfold conv
  split
  · rename_i cs
    have := VR.agg _ _ (conv1s_rel W cs.toList)
    simpa using this
  · exact conv1_rel W v
theorem convs_rel (W : World) : ∀ l : List Value, VRs (mirrorG W) W.heap.size (l.map (conv W.heap.size)) l
  | [] => .nil
  | v :: l => .cons _ _ _ _ (conv_rel W v) (convs_rel W l)

theorem sim_mirror (W : World) : Sim (Ref.all W) (mirrorG W) (mirror W) W where
  gbase := rfl
  mbase := Nat.le_refl _
  le := Nat.le_refl _
  below := ⟨rfl, rfl, rfl, Nat.le_refl _, fun _ _ => rfl⟩
  old := fun i h => ⟨rfl, fun ty fz cs hg => ⟨h, by
    simp only [mirror] at hg
    split at hg
    · rename_i c t fr he
      cases hg
      refine ⟨c, _, _, he, by simp, ?_⟩
      have : c.toList.take (c.toList.map (conv1 W.heap.size)).length = c.toList := by rw [List.length_map, List.take_length]
      rw [this]
      exact conv1s_rel W c.toList
    · cases hg⟩⟩
  own := fun i h1 h2 => absurd h2 (Nat.not_lt.2 h1)
  live := fun i _ _ _ h1 h2 => absurd h2 (Nat.not_lt.2 h1)
  raw := fun i _ h1 h2 => absurd h2 (Nat.not_lt.2 h1)
  inj := fun i j h1 h2 => absurd h2 (Nat.not_lt.2 h1)

/-- A law that comes to true in a memory that stands for the world comes to true. -/
theorem law_calls_at {P : Program} {ext : Ext} (hm : P.follows .mixedOrders = true) (hn : ∀ (f : Nat) (fn : Func), P.funcs[f]? = some fn → fn.name ≠ "runtime.NumGoroutine") (hext : ∀ W, ExtOk P W ext) {f : Nat} {fn : Func} (hf : P.funcs[f]? = some fn) (hb : fn.body.isSome = true)
    {W : World} {args : Array Value} {g : Gm} {m : Mem} {avs : List AV} (hs : Sim (Ref.all W) g m W) (hargs : VRs g m.next avs args.toList) {n : Nat} (h : comesTrue (fcall P ext n f avs m) = true) :
    Calls P f args W fun e w' => e = .returned (.bool true) ∧ Below W.heap.size W w' := by
  obtain ⟨m', h⟩ := comesTrue_some h
  rcases fcall_ok hm hn hext n (Ref.all W) f _ _ _ _ h g W args.toList hs hargs with ⟨_, h3⟩ | ⟨z, g', w', h1, _⟩
  · simp only [Array.toArray_toList] at h3
    refine h3.mono fun e w' ⟨z, g', he, hz, hs, _⟩ => ⟨?_, hs.below.os, hs.below.tape, hs.below.output, hs.below.size, hs.below.block⟩
    cases hz
    exact he
  · exfalso
    have hb' : fn.body.isNone = false := by cases hbb : fn.body <;> simp_all
    unfold callFunc at h1
    simp only [Sem.run_bind, run_program, Result.andThen_ok, hf] at h1
    rw [if_neg (by simpa using hn f fn hf), if_neg (by simp [hb'])] at h1
    cases h1
/-- .. in the first memory. -/
theorem law_calls {P : Program} {ext : Ext} (hm : P.follows .mixedOrders = true) (hn : ∀ (f : Nat) (fn : Func), P.funcs[f]? = some fn → fn.name ≠ "runtime.NumGoroutine") (hext : ∀ W, ExtOk P W ext) {f : Nat} {fn : Func} (hf : P.funcs[f]? = some fn) (hb : fn.body.isSome = true)
    {W : World} {args : Array Value} (h : ∃ n, comesTrue (fcall P ext n f (args.toList.map (conv W.heap.size)) (mirror W)) = true) :
    Calls P f args W fun e w' => e = .returned (.bool true) ∧ Below W.heap.size W w' := by
  obtain ⟨n, h⟩ := h
  exact law_calls_at hm hn hext hf hb (sim_mirror W) (convs_rel W args.toList) h
/-- .. in an empty memory, where no argument has memory. -/
theorem law_closed {P : Program} {ext : Ext} (hm : P.follows .mixedOrders = true) (hn : ∀ (f : Nat) (fn : Func), P.funcs[f]? = some fn → fn.name ≠ "runtime.NumGoroutine") (hext : ∀ W, ExtOk P W ext) {f : Nat} {fn : Func} (hf : P.funcs[f]? = some fn) (hb : fn.body.isSome = true)
    {W : World} {args : Array Value} {avs : List AV} (hargs : ∀ g n, VRs g n avs args.toList) {n : Nat} (h : comesTrue (fcall P ext n f avs Mem.empty) = true) :
    Calls P f args W fun e w' => e = .returned (.bool true) ∧ Below W.heap.size W w' :=
  law_calls_at hm hn hext hf hb (sim_empty W) (hargs _ _) h

/-! what holds from some fuel on -/

/-- From some fuel on x comes to one value and memory, and Q holds of them. -/
def Ok {α : Type} (x : Nat → M α) (m : Mem) (Q : α → Mem → Prop) : Prop := ∃ r m', Q r m' ∧ ∃ N, ∀ n, N ≤ n → x n m = some (r, m')

theorem Ok.mono {α : Type} {x : Nat → M α} {m : Mem} {Q Q' : α → Mem → Prop} (h : Ok x m Q) (hq : ∀ r m', Q r m' → Q' r m') : Ok x m Q' := by
  obtain ⟨r, m', h1, h2⟩ := h
  exact ⟨r, m', hq _ _ h1, h2⟩
theorem Ok.ret {α : Type} {v : α} {m : Mem} {Q : α → Mem → Prop} (h : Q v m) : Ok (fun _ => Go.Proofs.YtooogfnmhfocjaaDoor.Spl.ret v) m Q := ⟨v, m, h, 0, fun _ _ => rfl⟩
theorem ok_ret {α : Type} {v : α} {m : Mem} {Q : α → Mem → Prop} : Ok (fun _ => Go.Proofs.YtooogfnmhfocjaaDoor.Spl.ret v) m Q ↔ Q v m :=
  ⟨fun ⟨r, m', h, N, hN⟩ => by have := hN N (Nat.le_refl _); cases this; exact h, Ok.ret⟩
/-- One thing behind another. -/
theorem Ok.bnd {α β : Type} {x : Nat → M α} {k : Nat → α → M β} {m : Mem} {Q : β → Mem → Prop} (h : Ok x m fun v m1 => Ok (fun n => k n v) m1 Q) : Ok (fun n => Go.Proofs.YtooogfnmhfocjaaDoor.Spl.bnd (x n) (k n)) m Q := by
  obtain ⟨v, m1, ⟨r, m2, hq, N2, h2⟩, N1, h1⟩ := h
  refine ⟨r, m2, hq, max N1 N2, fun n hn => ?_⟩
  show (match x n m with | some (a, m') => k n a m' | none => none) = _
  rw [h1 n (by omega)]
  exact h2 n (by omega)
/-- An operation of the memory. -/
theorem ok_op {α β : Type} {x : M α} {k : Nat → α → M β} {m : Mem} {Q : β → Mem → Prop} : Ok (fun n => Go.Proofs.YtooogfnmhfocjaaDoor.Spl.bnd x (k n)) m Q ↔ ∃ v m1, x m = some (v, m1) ∧ Ok (fun n => k n v) m1 Q := by
  constructor
  · rintro ⟨r, m2, hq, N, h⟩
    have h0 := h N (Nat.le_refl _)
    cases hx : x m with
    | none => simp [Go.Proofs.YtooogfnmhfocjaaDoor.Spl.bnd, hx] at h0
    | some p =>
      obtain ⟨v, m1⟩ := p
      refine ⟨v, m1, rfl, r, m2, hq, N, fun n hn => ?_⟩
      have := h n hn
      simpa [Go.Proofs.YtooogfnmhfocjaaDoor.Spl.bnd, hx] using this
  · rintro ⟨v, m1, hx, h⟩
    exact Ok.bnd ⟨v, m1, h, 0, fun _ _ => hx⟩
theorem ok_snap {α : Type} {k : Nat → Mem → M α} {m : Mem} {Q : α → Mem → Prop} : Ok (fun n => Spl.snap (k n)) m Q ↔ Ok (fun n => k n m) m Q := Iff.rfl

theorem lp_some' {α β : Type} (a : α) (k : α → M β) : lp (some a) k = k a := rfl
theorem mc_true {α : Type} (a b : M α) : mc (.bool true) a b = a := rfl
theorem mc_false {α : Type} (a b : M α) : mc (.bool false) a b = b := rfl
theorem Ok.mc {α : Type} {c : Bool} {a b : Nat → M α} {m : Mem} {Q : α → Mem → Prop} (ha : c = true → Ok a m Q) (hb : c = false → Ok b m Q) : Ok (fun n => Spl.mc (.bool c) (a n) (b n)) m Q := by
  cases c with
  | true => exact ha rfl
  | false => exact hb rfl
theorem ok_mc {α : Type} {c : Bool} {a b : Nat → M α} {m : Mem} {Q : α → Mem → Prop} : Ok (fun n => Spl.mc (.bool c) (a n) (b n)) m Q ↔ if c then Ok a m Q else Ok b m Q := by
  cases c <;> exact Iff.rfl

/-- A call of a function, at one fuel less. -/
theorem Ok.call {P : Program} {ext : Ext} {f : Nat} {args : List AV} {body : Nat → M AV} {m : Mem} {Q : AV → Mem → Prop} (he : ∀ n, fcall P ext (n + 1) f args = body n) (h : Ok body m Q) : Ok (fun n => fcall P ext n f args) m Q := by
  obtain ⟨r, m', hq, N, hN⟩ := h
  refine ⟨r, m', hq, N + 1, fun n hn => ?_⟩
  obtain ⟨k, rfl⟩ : ∃ k, n = k + 1 := ⟨n - 1, by omega⟩
  simp only [he]
  exact hN k (by omega)
/-- A function that is told of. -/
theorem Ok.told {P : Program} {ext : Ext} {f : Nat} {k : List AV → M AV} {args : List AV} {m : Mem} {Q : AV → Mem → Prop} (he : ext f = some k) {v : AV} {m1 : Mem} (hk : k args m = some (v, m1)) (h : Q v m1) : Ok (fun n => fcall P ext n f args) m Q := by
  refine ⟨v, m1, h, 1, fun n hn => ?_⟩
  obtain ⟨j, rfl⟩ : ∃ j, n = j + 1 := ⟨n - 1, by omega⟩
  show fcall P ext (j + 1) f args m = _
  unfold fcall
  rw [he]
  exact hk

/-- A loop: I k l m: the loop's variables are l, the memory m, and at most k rounds are to come. -/
theorem Ok.loop {α : Type} {step : Nat → (List AV → M α) → List AV → M α} {Q : α → Mem → Prop} (I : Nat → List AV → Mem → Prop)
    (h : ∀ k l m (rec : Nat → List AV → M α), I k l m → (∀ k' l' m', k' < k → I k' l' m' → Ok (fun n => rec n l') m' Q) → Ok (fun n => step n (rec n) l) m Q)
    {k : Nat} {l : List AV} {m : Mem} (hi : I k l m) : Ok (fun n => loopN (step n) n l) m Q := by
  have main : ∀ (k : Nat) (l : List AV) (m : Mem) (d : Nat), I k l m → Ok (fun n => loopN (step n) (n - d) l) m Q := by
    intro k
    induction k using Nat.strongRecOn with
    | _ k ih =>
      intro l m d hi
      obtain ⟨r, m', hq, N, hN⟩ := h k l m (fun n l' => loopN (step n) (n - (d + 1)) l') hi (fun k' l' m' hk hi' => ih k' hk l' m' (d + 1) hi')
      refine ⟨r, m', hq, max N (d + 1), fun n hn => ?_⟩
      have e : n - d = (n - (d + 1)) + 1 := by omega
      have := hN n (by omega)
      show loopN (step n) (n - d) l m = _
      rw [e]
      exact this
  exact main k l m 0 hi

/-- What an Ok says of one fuel. -/
theorem Ok.some {α : Type} {x : Nat → M α} {m : Mem} {Q : α → Mem → Prop} (h : Ok x m Q) : ∃ n r m', x n m = Option.some (r, m') ∧ Q r m' := by
  obtain ⟨r, m', hq, N, hN⟩ := h
  exact ⟨N, r, m', hN N (Nat.le_refl _), hq⟩

end Go.Proofs.YtooogfnmhfocjaaDoor.Spl

/- The abstract machine, 14: the steps of shallow programs, for the simplifier. -/
namespace Go.Proofs.YtooogfnmhfocjaaDoor.Spl
open Go
set_option linter.unusedVariables false
set_option linter.unusedSimpArgs false

attribute [simp] lp_some' mc_true mc_false ok_ret ok_snap

@[simp] theorem aBin_add (k : IntKind) (e : List Nat) (a b : Int) : aBin .add e (.int k a) (.int k b) = some (.int k (k.wrap (a + b))) := by simp [aBin, b2]
@[simp] theorem aBin_sub (k : IntKind) (e : List Nat) (a b : Int) : aBin .sub e (.int k a) (.int k b) = some (.int k (k.wrap (a - b))) := by simp [aBin, b2]
@[simp] theorem aBin_mul (k : IntKind) (e : List Nat) (a b : Int) : aBin .mul e (.int k a) (.int k b) = some (.int k (k.wrap (a * b))) := by simp [aBin, b2]
theorem aBin_quo (k : IntKind) (e : List Nat) (a b : Int) (h : b ≠ 0) : aBin .quo e (.int k a) (.int k b) = some (.int k (k.wrap (a.tdiv b))) := by simp [aBin, b2, h]
theorem aBin_rem (k : IntKind) (e : List Nat) (a b : Int) (h : b ≠ 0) : aBin .rem e (.int k a) (.int k b) = some (.int k (a.tmod b)) := by simp [aBin, b2, h]
@[simp] theorem aBin_lss (k : IntKind) (e : List Nat) (a b : Int) : aBin .lss e (.int k a) (.int k b) = some (.bool (decide (a < b))) := by simp [aBin, b2]
@[simp] theorem aBin_leq (k : IntKind) (e : List Nat) (a b : Int) : aBin .leq e (.int k a) (.int k b) = some (.bool (decide (a ≤ b))) := by simp [aBin, b2]
@[simp] theorem aBin_gtr (k : IntKind) (e : List Nat) (a b : Int) : aBin .gtr e (.int k a) (.int k b) = some (.bool (decide (b < a))) := by simp [aBin, b2]
@[simp] theorem aBin_geq (k : IntKind) (e : List Nat) (a b : Int) : aBin .geq e (.int k a) (.int k b) = some (.bool (decide (b ≤ a))) := by simp [aBin, b2]
@[simp] theorem aBin_eql (k : IntKind) (e : List Nat) (a b : Int) : aBin .eql e (.int k a) (.int k b) = some (.bool (decide (a = b))) := by simp [aBin, b2]; rfl
@[simp] theorem aBin_neq (k : IntKind) (e : List Nat) (a b : Int) : aBin .neq e (.int k a) (.int k b) = some (.bool (decide (a ≠ b))) := by
  simp only [aBin, b2, if_true]
  by_cases h : a = b <;> simp [h]
@[simp] theorem aBin_eqlStr (e : List Nat) (a b : ByteArray) : aBin .eql e (.str a) (.str b) = some (.bool (strEq a b)) := by simp [aBin, s2]
@[simp] theorem aBin_neqStr (e : List Nat) (a b : ByteArray) : aBin .neq e (.str a) (.str b) = some (.bool (!strEq a b)) := by simp [aBin, s2]
@[simp] theorem aBin_eqlNil (i o : Nat) : aBin .eql [3] (.ptr i o) .nilptr = some (.bool false) := rfl
@[simp] theorem aBin_eqlNil' : aBin .eql [3] .nilptr .nilptr = some (.bool true) := rfl
@[simp] theorem aBin_neqNil (i o : Nat) : aBin .neq [3] (.ptr i o) .nilptr = some (.bool true) := rfl
@[simp] theorem aBin_neqNil' : aBin .neq [3] .nilptr .nilptr = some (.bool false) := rfl
@[simp] theorem aUn_not (b : Bool) : aUn .not (.bool b) = some (.bool !b) := rfl
@[simp] theorem aUn_neg (k : IntKind) (a : Int) : aUn .neg (.int k a) = some (.int k (k.wrap (0 - a))) := rfl
@[simp] theorem aNil_ptr (i o : Nat) : aNil (.ptr i o) = some (.ptr i o) := rfl
@[simp] theorem aOff_ptr (d i o : Nat) : aOff d (.ptr i o) = some (.ptr i (o + d)) := rfl
@[simp] theorem aInt_int (k k' : IntKind) (a : Int) : aInt k (.int k' a) = some (.int k (k.wrap a)) := rfl
@[simp] theorem aLenStr_str (s : ByteArray) : aLenStr (.str s) = some (.int .i64 s.size) := rfl
@[simp] theorem aLenS_slice (i o n e : Nat) : aLenS (.slice i o n e) = some (.int .i64 n) := rfl
@[simp] theorem aLenS_nil : aLenS .nilslice = some (.int .i64 0) := rfl
@[simp] theorem aFold_min (k : IntKind) (a b : Int) : aFold aMin2 (.int k a) [.int k b] = some (.int k (min a b)) := by
  simp only [aFold, aMin2]
  congr 2
  split <;> omega
@[simp] theorem aFold_max (k : IntKind) (a b : Int) : aFold aMax2 (.int k a) [.int k b] = some (.int k (max a b)) := by
  simp only [aFold, aMax2]
  congr 2
  split <;> omega

@[simp] theorem Mem.get_set (m : Mem) (i : Nat) (o : AObj) : (m.set i o).get i = o := by simp [Mem.set]
theorem Mem.set_self (m : Mem) (i : Nat) {o : AObj} (h : m.get i = o) : m.set i o = m := by
  cases m
  simp only [Mem.set, Mem.mk.injEq, true_and]
  funext j
  by_cases h' : j = i
  · subst h'; simp; exact h.symm
  · simp [h']

theorem ok_load {β : Type} {sh : Option Nat} {a : AV} {k : Nat → AV → M β} {m : Mem} {Q : β → Mem → Prop} : Ok (fun n => bnd (load sh a) (k n)) m Q ↔ ∃ v, load? sh a m = some v ∧ Ok (fun n => k n v) m Q := by
  rw [ok_op]
  constructor
  · rintro ⟨v, m1, h, hk⟩
    unfold load at h
    obtain ⟨u, hu, he⟩ := Option.map_eq_some_iff.1 h
    cases he
    exact ⟨v, hu, hk⟩
  · rintro ⟨v, h, hk⟩
    exact ⟨v, m, by simp [load, h], hk⟩
/-- A load from an object that is known. -/
theorem load_at {i o ty fz : Nat} {cs : List AV} {m : Mem} (h : m.get i = .cells ty fz cs) : load? none (.ptr i o) m = cs[o]? := by
  simp [load?, Mem.cells?, h, aPart]
theorem load_at' {i o ty fz n : Nat} {cs : List AV} {m : Mem} (h : m.get i = .cells ty fz cs) : load? (some n) (.ptr i o) m = if o + n ≤ cs.length then some (.agg ((cs.drop o).take n)) else none := by
  simp [load?, Mem.cells?, h, aPart]
theorem ok_store {β : Type} {i o ty fz : Nat} {cs : List AV} {v : AV} {k : Nat → AV → M β} {m : Mem} {Q : β → Mem → Prop} (h : m.get i = .cells ty fz cs) (hb : m.base ≤ i) (ho : fz ≤ o) (hl : o < cs.length) (hv : v.one = true) :
    Ok (fun n => bnd (store none (.ptr i o) v) (k n)) m Q ↔ Ok (fun n => k n .undef) (m.set i (.cells ty fz (cs.set o v))) Q := by
  rw [ok_op]
  have e : store none (.ptr i o) v m = some (.undef, m.set i (.cells ty fz (cs.set o v))) := by
    simp [store, hv, bnd, storeCs, forceList_eq, forceNat_eq, h, hb, ho, ret, splice, Nat.succ_le_of_lt hl]
  constructor
  · rintro ⟨u, m1, hs, hk⟩
    rw [e] at hs; cases hs
    exact hk
  · intro hk
    exact ⟨_, _, e, hk⟩
theorem ok_alloc {β : Type} {ty : Nat} {cs : List AV} {k : Nat → AV → M β} {m : Mem} {Q : β → Mem → Prop} : Ok (fun n => bnd (alloc ty cs) (k n)) m Q ↔ Ok (fun n => k n (.ptr m.next 0)) (m.alloc (.cells ty 0 cs)) Q := by
  rw [alloc_def, ok_op]
  constructor
  · rintro ⟨u, m1, hs, hk⟩
    cases hs
    exact hk
  · intro hk
    exact ⟨_, _, rfl, hk⟩
theorem ok_box {β : Type} {ty : Nat} {cs : List AV} {k : Nat → AV → M β} {m : Mem} {Q : β → Mem → Prop} : Ok (fun n => bnd (box ty (.agg cs)) (k n)) m Q ↔ Ok (fun n => k n (.ptr m.next 0)) (m.alloc (.cells ty 0 cs)) Q := ok_alloc
@[simp] theorem one_int (k : IntKind) (n : Int) : (AV.int k n).one = true := by simp [AV.one]
@[simp] theorem one_bool (b : Bool) : (AV.bool b).one = true := by simp [AV.one]
@[simp] theorem one_str (s : ByteArray) : (AV.str s).one = true := by simp [AV.one]
@[simp] theorem one_ptr (i o : Nat) : (AV.ptr i o).one = true := by simp [AV.one]
@[simp] theorem one_nil : AV.nilptr.one = true := by simp [AV.one]
@[simp] theorem one_slice (i o n e : Nat) : (AV.slice i o n e).one = true := by simp [AV.one]
@[simp] theorem one_nilslice : AV.nilslice.one = true := by simp [AV.one]
theorem aBin_shl (k k' : IntKind) (e : List Nat) (a b : Int) (h : 0 ≤ b ∧ b ≤ k.bits) : aBin .shl e (.int k a) (.int k' b) = some (.int k (k.wrap (a * 2 ^ b.toNat))) := by
  have h1 : ¬ b < 0 := by omega
  have h2 : min b.toNat k.bits = b.toNat := by omega
  simp [aBin, sh2, h1, h2]
theorem aBin_shr (k k' : IntKind) (e : List Nat) (a b : Int) (h : 0 ≤ b ∧ b ≤ k.bits) : aBin .shr e (.int k a) (.int k' b) = some (.int k (a.fdiv (2 ^ b.toNat))) := by
  have h1 : ¬ b < 0 := by omega
  have h2 : min b.toNat k.bits = b.toNat := by omega
  simp [aBin, sh2, h1, h2]
/-- Or, of a number and one that has no bits in common with it. -/
theorem aBin_or_u64 (e : List Nat) (a b : Nat) (ha : a * 256 + b < 18446744073709551616) (hb : b < 256) : aBin .or e (.int .u64 ((a * 256 : Nat) : Int)) (.int .u64 (b : Int)) = some (.int .u64 ((a * 256 + b : Nat) : Int)) := by
  simp only [aBin, b2, if_true]
  have e1 : (BitVec.ofInt IntKind.u64.bits ((a * 256 : Nat) : Int) ||| BitVec.ofInt IntKind.u64.bits (b : Int)).toNat = a * 256 + b := by
    show (BitVec.ofInt 64 ((a * 256 : Nat) : Int) ||| BitVec.ofInt 64 (b : Int)).toNat = _
    rw [BitVec.ofInt_natCast, BitVec.ofInt_natCast, BitVec.toNat_or, BitVec.toNat_ofNat, BitVec.toNat_ofNat, Nat.mod_eq_of_lt (Nat.lt_of_le_of_lt (Nat.le_add_right _ b) ha), Nat.mod_eq_of_lt (Nat.lt_of_le_of_lt (Nat.le_add_left _ _) ha)]
    have := Nat.shiftLeft_add_eq_or_of_lt (i := 8) (b := b) (by omega) a
    rw [Nat.shiftLeft_eq] at this
    exact this.symm
  rw [e1, IntWalk.u64_in _ ⟨Int.natCast_nonneg _, by omega⟩]
theorem same_at {ρ : Type} {i o ty fz : Nat} {cs : List AV} {v : AV} {m : Mem} (h : m.get i = .cells ty fz cs) (hv : cs[o]? = some v) (he : AV.eqb v v = true) (k : M ρ) : same none (.ptr i o) v m k = k := by
  simp [same, load_at h, hv, he]
theorem eqb_int (k : IntKind) (n : Int) : AV.eqb (.int k n) (.int k n) = true := by simp [AV.eqb]
theorem eqb_bool (b : Bool) : AV.eqb (.bool b) (.bool b) = true := by simp [AV.eqb]
theorem eqb_str (s : ByteArray) : AV.eqb (.str s) (.str s) = true := by simp [AV.eqb]
theorem eqb_ptr (i o : Nat) : AV.eqb (.ptr i o) (.ptr i o) = true := by simp [AV.eqb]
theorem eqb_slice (i o n e : Nat) : AV.eqb (.slice i o n e) (.slice i o n e) = true := by simp [AV.eqb]
theorem Mem.alloc_set (m : Mem) (o o' : AObj) : (m.alloc o).set m.next o' = m.alloc o' := by
  simp only [Mem.alloc, Mem.set, Mem.mk.injEq, true_and]
  funext j
  by_cases h : j = m.next <;> simp [h]
theorem Mem.get_alloc (m : Mem) (o : AObj) : (m.alloc o).get m.next = o := by simp [Mem.alloc]
end Go.Proofs.YtooogfnmhfocjaaDoor.Spl

/- The abstract machine, 15: strings as lists of bytes. -/
namespace Go.Proofs.YtooogfnmhfocjaaDoor.Spl
open Go
set_option linter.unusedVariables false
set_option linter.unusedSimpArgs false

/-- A string of these bytes. -/
def bs (l : List UInt8) : ByteArray := ⟨l.toArray⟩
theorem bs_of (s : ByteArray) : bs s.data.toList = s := by cases s; simp [bs]
theorem bs_size (l : List UInt8) : (bs l).size = l.length := rfl
theorem bs_append (a b : List UInt8) : bs a ++ bs b = bs (a ++ b) := by ext1; simp [bs]
theorem bs_extract (l : List UInt8) (a b : Nat) : (bs l).extract a b = bs ((l.take b).drop a) := by
  ext1
  simp [bs, List.drop_take]
theorem bs_toList (l : List UInt8) : (bs l).toList = l := by rw [ByteArray.toList_eq]; simp [bs]
theorem bs_get (l : List UInt8) (i : Nat) : (bs l)[i]? = l[i]? := by
  by_cases h : i < l.length
  · rw [getElem?_pos (bs l) i h, List.getElem?_eq_getElem h]
    rfl
  · rw [getElem?_neg (bs l) i h, List.getElem?_eq_none (by omega)]
theorem bs_empty : ByteArray.empty = bs [] := rfl
@[simp] theorem strEq_bs (a b : List UInt8) : strEq (bs a) (bs b) = decide (a = b) := by
  simp only [strEq, bs_toList]
  by_cases h : a = b <;> simp [h]
theorem aIdxStr_bs (l : List UInt8) (k : IntKind) (n : Nat) {b : UInt8} (h : l[n]? = some b) : aIdxStr (.str (bs l)) (.int k n) = some (.int .u8 b.toNat) := by
  simp [aIdxStr, bs_get, h]
theorem aIdxStr_int (l : List UInt8) (k : IntKind) (n : Int) (h : 0 ≤ n) : aIdxStr (.str (bs l)) (.int k n) = (l[n.toNat]?).map fun b => .int .u8 b.toNat := by
  simp [aIdxStr, bs_get, h]
theorem aSliceStr_from' (l : List UInt8) (k : IntKind) (n : Int) (h : 0 ≤ n ∧ n ≤ l.length) : aSliceStr (.str (bs l)) (some (.int k n)) none = some (.str (bs (l.drop n.toNat))) := by
  simp only [aSliceStr, lowOf, highOf]
  have := bs_size l
  rw [if_pos (by omega)]
  simp [bs_extract, bs_size]
theorem aSliceStr_from (l : List UInt8) (k : IntKind) (n : Nat) (h : n ≤ l.length) : aSliceStr (.str (bs l)) (some (.int k n)) none = some (.str (bs (l.drop n))) := by
  simp only [aSliceStr, lowOf, highOf]
  have := bs_size l
  rw [if_pos (by omega)]
  simp [bs_extract, bs_size]
theorem aSliceStr_to (l : List UInt8) (k : IntKind) (n : Nat) (h : n ≤ l.length) : aSliceStr (.str (bs l)) none (some (.int k n)) = some (.str (bs (l.take n))) := by
  simp only [aSliceStr, lowOf, highOf]
  have := bs_size l
  rw [if_pos (by omega)]
  simp [bs_extract, bs_size]
theorem aSliceStr_mid (l : List UInt8) (k k' : IntKind) (a b : Nat) (h : a ≤ b) (h' : b ≤ l.length) : aSliceStr (.str (bs l)) (some (.int k a)) (some (.int k' b)) = some (.str (bs ((l.take b).drop a))) := by
  simp only [aSliceStr, lowOf, highOf]
  have := bs_size l
  rw [if_pos (by omega)]
  simp [bs_extract, bs_size]
theorem aBin_addStr (a b : List UInt8) (e : List Nat) (h : a.length + b.length ≤ 9223372036854775807) : aBin .add e (.str (bs a)) (.str (bs b)) = some (.str (bs (a ++ b))) := by
  have h1 := bs_size a
  have h2 := bs_size b
  have h3 : IntKind.i64.max = 9223372036854775807 := by decide
  simp only [aBin, s2]
  rw [if_neg (by omega), bs_append]
theorem bs_toByteArray (l : List UInt8) : (⟨l.toArray⟩ : ByteArray) = bs l := rfl
end Go.Proofs.YtooogfnmhfocjaaDoor.Spl

/- The abstract machine, 16: arguments in the memory of the world before. -/
namespace Go.Proofs.YtooogfnmhfocjaaDoor.Spl
open Go
set_option linter.unusedVariables false
set_option linter.unusedSimpArgs false

/-- What was there before is as it was. -/
structure Old (m m' : Mem) : Prop where
  base : m'.base = m.base
  next : m.next ≤ m'.next
  get : ∀ b, b < m.base → m'.get b = m.get b
theorem Old.refl (m : Mem) : Old m m := ⟨rfl, Nat.le_refl _, fun _ _ => rfl⟩
theorem Old.trans {a b c : Mem} (h : Old a b) (k : Old b c) : Old a c := ⟨k.base.trans h.base, Nat.le_trans h.next k.next, fun i hi => (k.get i (by rw [h.base]; exact hi)).trans (h.get i hi)⟩
theorem Old.set {a b : Mem} (h : Old a b) {i : Nat} (hi : b.base ≤ i) (o : AObj) : Old a (b.set i o) :=
  ⟨h.base, h.next, fun j hj => by
    have : j ≠ i := by have := h.base; omega
    simp only [Mem.set, this, if_false]; exact h.get j hj⟩
theorem Old.alloc {a b : Mem} (h : Old a b) (hb : b.base ≤ b.next) (o : AObj) : Old a (b.alloc o) :=
  ⟨h.base, Nat.le_succ_of_le h.next, fun j hj => by
    have : j ≠ b.next := by have := h.base; omega
    simp only [Mem.alloc, this, if_false]; exact h.get j hj⟩
theorem Old.load {m m' : Mem} (h : Old m m') {b o : Nat} {sh : Option Nat} (hb : b < m.base) : load? sh (.ptr b o) m' = load? sh (.ptr b o) m := by
  simp only [load?, Mem.cells?, h.get b hb]

theorem get_set_ne {m : Mem} {i j : Nat} {o : AObj} (h : j ≠ i) : (m.set i o).get j = m.get j := by simp [Mem.set, h]
theorem get_alloc_ne {m : Mem} {j : Nat} {o : AObj} (h : j ≠ m.next) : (m.alloc o).get j = m.get j := by simp [Mem.alloc, h]

/-- A slice of three numbers each, of 16 bits. -/
def Arr3 (m : Mem) (v : AV) (L : List (Nat × Nat × Nat)) : Prop :=
  ((v = .nilslice ∨ v = .dang) ∧ L = []) ∨ ∃ b o, v = .slice b o L.length 0 ∧ b < m.base ∧ ∀ (k : Nat) p, L[k]? = some p →
    (load? none (.ptr b (o + k * 3)) m = some (.int .u16 p.1) ∧ load? none (.ptr b (o + k * 3 + 1)) m = some (.int .u16 p.2.1) ∧ load? none (.ptr b (o + k * 3 + 2)) m = some (.int .u16 p.2.2)) ∧ p.1 < 65536 ∧ p.2.1 < 65536 ∧ p.2.2 < 65536
theorem Arr3.len {m : Mem} {v : AV} {L : List (Nat × Nat × Nat)} (h : Arr3 m v L) : aLenS v = some (.int .i64 L.length) := by
  rcases h with ⟨rfl | rfl, rfl⟩ | ⟨b, o, rfl, _⟩ <;> rfl
theorem aIdxS_at {size i o n e k : Nat} {kd : IntKind} (h : k < n) : aIdxS size (.slice i o n e) (.int kd k) = some (.ptr i (o + k * size)) := by
  simp only [aIdxS]
  rw [if_pos (by omega)]
  simp
theorem aIdxA_at {size len i o k : Nat} {kd : IntKind} (h : k < len) : aIdxA len size (.ptr i o) (.int kd k) = some (.ptr i (o + k * size)) := by
  simp only [aIdxA]
  rw [if_pos (by omega)]
  simp
theorem same_load {ρ : Type} {sh : Option Nat} {a v : AV} {m : Mem} (h : load? sh a m = some v) (he : AV.eqb v v = true) (k : M ρ) : same sh a v m k = k := by
  simp [same, h, he]
/-- A whole variable is stored. -/
theorem ok_storeAll {β : Type} {i ty : Nat} {cs vs : List AV} {n : Nat} {k : Nat → AV → M β} {m : Mem} {Q : β → Mem → Prop} (h : m.get i = .cells ty 0 cs) (hb : m.base ≤ i) (hn : vs.length = n) (hl : cs.length = n) (hv : vs.all AV.one = true) :
    Ok (fun q => bnd (store (some n) (.ptr i 0) (.agg vs)) (k q)) m Q ↔ Ok (fun q => k q .undef) (m.set i (.cells ty 0 vs)) Q := by
  rw [ok_op]
  have hsp : splice cs 0 vs = vs := by
    rw [splice_eq _ _ _ (by omega)]
    simp [List.drop_eq_nil_of_le (show cs.length ≤ vs.length by omega)]
  have e : store (some n) (.ptr i 0) (.agg vs) m = some (.undef, m.set i (.cells ty 0 vs)) := by
    simp [store, hn, bnd, storeCs, forceList_eq, forceNat_eq, h, hb, ret, hl, hv, hsp]
  constructor
  · rintro ⟨u, m1, hs, hk⟩
    rw [e] at hs; cases hs
    exact hk
  · intro hk
    exact ⟨_, _, e, hk⟩
end Go.Proofs.YtooogfnmhfocjaaDoor.Spl

/- The abstract machine: what the simplifier uses, in one. -/
namespace Go.Proofs.YtooogfnmhfocjaaDoor.Spl
open Go

/-- What the simplifier uses. -/
theorem simpS : type_of% (And.intro @lp_some' (And.intro @mc_true (And.intro @mc_false (And.intro @ok_ret (And.intro @ok_mc (And.intro @ok_snap (And.intro @aBin_add (And.intro @aBin_sub (And.intro @aBin_mul (And.intro @aBin_lss (And.intro @aBin_leq (And.intro @aBin_gtr (And.intro @aBin_geq (And.intro @aBin_eql (And.intro @aBin_neq (And.intro @aBin_eqlStr (And.intro @aBin_neqStr (And.intro @strEq_bs (And.intro @aBin_eqlNil (And.intro @aBin_eqlNil' (And.intro @aBin_neqNil (And.intro @aBin_neqNil' (And.intro @aUn_not (And.intro @aUn_neg (And.intro @aNil_ptr (And.intro @aOff_ptr (And.intro @aInt_int (And.intro @aLenStr_str (And.intro @aLenS_slice (And.intro @aLenS_nil (And.intro @aFold_min (And.intro @aFold_max (And.intro @bs_size (And.intro @bs_empty (And.intro @Nat.zero_add (And.intro @Nat.add_zero (And.intro @ok_load (And.intro @Mem.get_set (And.intro @Mem.set_set (And.intro @List.getElem?_cons_zero.{0} (And.intro @List.getElem?_cons_succ.{0} (And.intro @Option.some.injEq.{0} (And.intro @exists_eq_left'.{1} (And.intro @List.set_cons_zero.{0} @List.set_cons_succ.{0})))))))))))))))))))))))))))))))))))))))))))) := And.intro @lp_some' (And.intro @mc_true (And.intro @mc_false (And.intro @ok_ret (And.intro @ok_mc (And.intro @ok_snap (And.intro @aBin_add (And.intro @aBin_sub (And.intro @aBin_mul (And.intro @aBin_lss (And.intro @aBin_leq (And.intro @aBin_gtr (And.intro @aBin_geq (And.intro @aBin_eql (And.intro @aBin_neq (And.intro @aBin_eqlStr (And.intro @aBin_neqStr (And.intro @strEq_bs (And.intro @aBin_eqlNil (And.intro @aBin_eqlNil' (And.intro @aBin_neqNil (And.intro @aBin_neqNil' (And.intro @aUn_not (And.intro @aUn_neg (And.intro @aNil_ptr (And.intro @aOff_ptr (And.intro @aInt_int (And.intro @aLenStr_str (And.intro @aLenS_slice (And.intro @aLenS_nil (And.intro @aFold_min (And.intro @aFold_max (And.intro @bs_size (And.intro @bs_empty (And.intro @Nat.zero_add (And.intro @Nat.add_zero (And.intro @ok_load (And.intro @Mem.get_set (And.intro @Mem.set_set (And.intro @List.getElem?_cons_zero.{0} (And.intro @List.getElem?_cons_succ.{0} (And.intro @Option.some.injEq.{0} (And.intro @exists_eq_left'.{1} (And.intro @List.set_cons_zero.{0} @List.set_cons_succ.{0})))))))))))))))))))))))))))))))))))))))))))
end Go.Proofs.YtooogfnmhfocjaaDoor.Spl

/- Plain: octets as numbers; the intervals of a range coder; the state of a decoder. -/
namespace Go.Proofs.YtooogfnmhfocjaaDoor.Spl
open Go
set_option linter.unusedVariables false
set_option linter.unusedSimpArgs false

def hd : List UInt8 → Nat
  | [] => 0
  | b :: _ => b.toNat
theorem hd_lt (l : List UInt8) : hd l < 256 := by
  cases l with
  | nil => decide
  | cons b l => exact b.toNat_lt


/-- The range. -/
def rngOf (s : Bool) (r : Nat) : Nat := if s then r else 4294967295


/-- A part of the range. -/
def partOf (r lo hi t : Nat) : Nat := if hi = t then r - r / t * lo else r / t * (hi - lo)


/-- Where a decoder is. -/
structure Dec where
  rng : Nat
  code : Nat
  l : List UInt8
def Dec.fill : Nat → Dec → Dec
  | 0, d => d
  | n + 1, d => if 16777216 ≤ d.rng then d else Dec.fill n ⟨d.rng * 256, d.code * 256 + hd d.l, d.l.tail⟩
def Dec.take (lo hi t : Nat) (d : Dec) : Dec := Dec.fill 3 ⟨partOf d.rng lo hi t, min (d.code - d.rng / t * lo) (partOf d.rng lo hi t - 1), d.l⟩
def Dec.place (t : Nat) (d : Dec) : Nat := min (t - 1) (d.code / (d.rng / t))
structure Dec.Fits (d : Dec) : Prop where
  lo : 16777216 ≤ d.rng
  hi : d.rng ≤ 4294967295
  code : d.code ≤ 4294967295


theorem Dec.fill_done {n : Nat} {d : Dec} (h : 16777216 ≤ d.rng) : Dec.fill n d = d := by
  cases n with
  | zero => rfl
  | succ n => simp [Dec.fill, h]


theorem partOf_bounds {r lo hi t : Nat} (h1 : 16777216 ≤ r) (h2 : r ≤ 4294967295) (hp : lo < hi ∧ hi ≤ t ∧ t ≤ 65536) : 256 ≤ partOf r lo hi t ∧ partOf r lo hi t ≤ r := by
  have hq : 256 ≤ r / t := (Nat.le_div_iff_mul_le (by omega)).2 (by omega)
  have hm : r / t * t ≤ r := Nat.div_mul_le_self r t
  unfold partOf
  split
  · rename_i e
    subst e
    have : r / hi * lo + r / hi ≤ r / hi * hi := by rw [← Nat.mul_succ]; exact Nat.mul_le_mul_left _ hp.1
    omega
  · have h3 : r / t * (hi - lo) ≤ r / t * t := Nat.mul_le_mul_left _ (by omega)
    have h4 : r / t * 1 ≤ r / t * (hi - lo) := Nat.mul_le_mul_left _ (by omega)
    omega

theorem fill_fits : ∀ {k : Nat} {d : Dec}, 1 ≤ d.rng → d.rng ≤ 4294967295 → d.code < d.rng → 16777216 ≤ d.rng * 256 ^ k → (d.fill k).Fits
  | 0, d, h1, h2, h3, h4 => ⟨by show 16777216 ≤ d.rng; simpa using h4, h2, by show d.code ≤ _; omega⟩
  | k + 1, d, h1, h2, h3, h4 => by
    unfold Dec.fill
    have hh := hd_lt d.l
    split
    · exact ⟨by assumption, h2, by omega⟩
    · exact fill_fits (by show 1 ≤ d.rng * 256; omega) (by show d.rng * 256 ≤ _; omega) (by show d.code * 256 + hd d.l < d.rng * 256; omega) (by show _ ≤ d.rng * 256 * 256 ^ k; rw [Nat.mul_assoc, ← Nat.pow_succ']; exact h4)

theorem take_fits {lo hi t : Nat} {d : Dec} (hd : d.Fits) (hp : lo < hi ∧ hi ≤ t ∧ t ≤ 65536) : (d.take lo hi t).Fits := by
  obtain ⟨h1, h2⟩ := partOf_bounds hd.lo hd.hi hp
  have h3 := hd.hi
  exact fill_fits (by show 1 ≤ partOf d.rng lo hi t; omega) (by show partOf d.rng lo hi t ≤ _; omega) (by show min _ _ < partOf d.rng lo hi t; omega) (by show _ ≤ partOf d.rng lo hi t * _; omega)


def Dec.init : Nat → Dec → Dec
  | 0, d => d
  | n + 1, d => Dec.init n ⟨d.rng, d.code * 256 + hd d.l, d.l.tail⟩
def Dec.start (l : List UInt8) : Dec := Dec.init 4 ⟨4294967295, 0, l⟩
theorem init_bounds : ∀ {n : Nat} {d : Dec} {j : Nat}, d.code < 256 ^ j → (d.init n).code < 256 ^ (n + j) ∧ (d.init n).rng = d.rng
  | 0, d, j, h => ⟨by simpa [Dec.init] using h, rfl⟩
  | n + 1, d, j, h => by
    have hh := hd_lt d.l
    have := init_bounds (n := n) (d := ⟨d.rng, d.code * 256 + hd d.l, d.l.tail⟩) (j := j + 1) (by show d.code * 256 + hd d.l < 256 ^ (j + 1); rw [Nat.pow_succ]; omega)
    rw [show n + 1 + j = n + (j + 1) by omega]
    exact this
theorem start_fits (l : List UInt8) : (Dec.start l).Fits := by
  obtain ⟨h1, h2⟩ := init_bounds (n := 4) (d := ⟨4294967295, 0, l⟩) (j := 0) (by show 0 < 256 ^ 0; decide)
  have h3 : (Dec.start l).rng = 4294967295 := h2
  have h4 : (Dec.start l).code < 4294967296 := h1
  exact ⟨by omega, by omega, by omega⟩


/-! numbers of octets -/

/-- The k lowest octets of a number, the highest first. -/
def dig : Nat → Nat → List UInt8
  | 0, _ => []
  | k + 1, v => dig k (v / 256) ++ [UInt8.ofNat v]
theorem dig_length : ∀ (k v : Nat), (dig k v).length = k
  | 0, _ => rfl
  | k + 1, v => by simp [dig, dig_length k]
theorem toNat_ofNat (v : Nat) : (UInt8.ofNat v).toNat = v % 256 := by simp [UInt8.toNat_ofNat']
theorem ofNat_mod (v : Nat) : UInt8.ofNat (v % 256) = UInt8.ofNat v := by
  apply UInt8.toNat_inj.1
  rw [toNat_ofNat, toNat_ofNat, Nat.mod_mod]
theorem dig_snoc (k v b : Nat) (h : b < 256) : dig (k + 1) (v * 256 + b) = dig k v ++ [UInt8.ofNat b] := by
  have h1 : (v * 256 + b) / 256 = v := by omega
  have h2 : UInt8.ofNat (v * 256 + b) = UInt8.ofNat b := by rw [← ofNat_mod, show (v * 256 + b) % 256 = b by omega]
  simp [dig, h1, h2]
theorem dig_carry : ∀ (f k v : Nat) (P : List UInt8) (b : UInt8), dig k v = P ++ [b] ++ List.replicate f 255 → b.toNat < 255 → dig k (v + 1) = P ++ [UInt8.ofNat (b.toNat + 1)] ++ List.replicate f 0
  | f, 0, v, P, b, h, hb => by
    have := congrArg List.length h
    simp [dig] at this
  | 0, k + 1, v, P, b, h, hb => by
    simp only [dig, List.replicate_zero, List.append_nil] at h ⊢
    obtain ⟨h1, h2⟩ := List.append_inj' h rfl
    have h3 : UInt8.ofNat v = b := by simpa using h2
    have h4 : v % 256 = b.toNat := by rw [← h3, toNat_ofNat]
    rw [show (v + 1) / 256 = v / 256 by omega, h1, ← h4, ← ofNat_mod (v + 1), show (v + 1) % 256 = v % 256 + 1 by omega]
  | f + 1, k + 1, v, P, b, h, hb => by
    rw [List.replicate_succ', ← List.append_assoc] at h
    simp only [dig] at h
    obtain ⟨h1, h2⟩ := List.append_inj' h rfl
    have h3 : UInt8.ofNat v = 255 := by simpa using h2
    have h4 : v % 256 = 255 := by rw [← toNat_ofNat, h3]; rfl
    have ih := dig_carry f k (v / 256) P b h1 hb
    rw [List.replicate_succ', ← List.append_assoc, ← ih]
    simp only [dig]
    rw [show (v + 1) / 256 = v / 256 + 1 by omega, ← ofNat_mod (v + 1), show (v + 1) % 256 = 0 by omega]
    rfl
theorem dig_full : ∀ (k v : Nat), dig k v = List.replicate k 255 → v < 256 ^ k → v + 1 = 256 ^ k
  | 0, v, _, h => by simp at h; omega
  | k + 1, v, h, hv => by
    rw [List.replicate_succ'] at h
    simp only [dig] at h
    obtain ⟨h1, h2⟩ := List.append_inj' h rfl
    have h3 : UInt8.ofNat v = 255 := by simpa using h2
    have h4 : v % 256 = 255 := by rw [← toNat_ofNat, h3]; rfl
    rw [Nat.pow_succ] at hv ⊢
    have ih := dig_full k (v / 256) h1 (by omega)
    omega
theorem dig_add : ∀ (j k v w : Nat), w < 256 ^ j → dig (k + j) (v * 256 ^ j + w) = dig k v ++ dig j w
  | 0, k, v, w, h => by simp at h; simp [dig, h]
  | j + 1, k, v, w, h => by
    rw [Nat.pow_succ] at h
    have ih := dig_add j k v (w / 256) (by omega)
    have e : v * 256 ^ (j + 1) + w = (v * 256 ^ j + w / 256) * 256 + w % 256 := by
      rw [Nat.pow_succ, Nat.add_mul, Nat.mul_assoc]; omega
    rw [e, ← Nat.add_assoc, dig_snoc _ _ _ (Nat.mod_lt _ (by decide)), ih, ofNat_mod]
    simp [dig]

/-- The number of the first k octets; behind the end there are zeros. -/
def pre (l : List UInt8) : Nat → Nat
  | 0 => 0
  | k + 1 => pre l k * 256 + hd (l.drop k)
theorem hd_append (a b : List UInt8) (h : a ≠ []) : hd (a ++ b) = hd a := by
  cases a with
  | nil => exact absurd rfl h
  | cons x a => rfl
theorem pre_append (a b : List UInt8) : ∀ k, k ≤ a.length → pre (a ++ b) k = pre a k
  | 0, _ => rfl
  | k + 1, h => by
    simp only [pre]
    rw [pre_append a b k (by omega), List.drop_append_of_le_length (by omega), hd_append]
    intro e
    have := congrArg List.length e
    simp at this; omega
theorem pre_dig : ∀ (m v k : Nat), k ≤ m → v < 256 ^ m → pre (dig m v) k = v / 256 ^ (m - k)
  | 0, v, k, h, hv => by
    have : k = 0 := by omega
    subst this
    simp at hv
    simp [pre, hv]
  | m + 1, v, k, h, hv => by
    rw [Nat.pow_succ] at hv
    have hv' : v / 256 < 256 ^ m := by omega
    rcases Nat.lt_or_ge m k with h1 | h1
    · have : k = m + 1 := by omega
      subst this
      simp only [pre, dig]
      rw [pre_append _ _ m (by rw [dig_length]; omega), pre_dig m (v / 256) m (Nat.le_refl _) hv']
      rw [List.drop_append_of_le_length (by rw [dig_length]; omega), List.drop_of_length_le (by rw [dig_length]; omega)]
      simp only [List.nil_append, hd, toNat_ofNat, Nat.sub_self, Nat.pow_zero, Nat.div_one]
      omega
    · simp only [dig]
      rw [pre_append _ _ k (by rw [dig_length]; omega), pre_dig m (v / 256) k h1 hv', Nat.div_div_eq_div_mul, ← Nat.pow_succ', show m + 1 - k = m - k + 1 by omega]

/-- Without the zeros at its end. -/
def trim : List UInt8 → List UInt8
  | [] => []
  | b :: l => if b = 0 ∧ trim l = [] then [] else b :: trim l
theorem trim_drop : ∀ (l : List UInt8) (k : Nat), hd ((trim l).drop k) = hd (l.drop k)
  | [], k => rfl
  | b :: l, 0 => by
    unfold trim
    split
    · rename_i h
      simp [hd, h.1]
    · rfl
  | b :: l, k + 1 => by
    have ih := trim_drop l k
    unfold trim
    split
    · rename_i h
      rw [h.2] at ih
      simpa using ih
    · simpa using ih
theorem pre_trim (l : List UInt8) : ∀ k, pre (trim l) k = pre l k
  | 0 => rfl
  | k + 1 => by simp [pre, pre_trim l k, trim_drop]
theorem trim_snoc_zero (l : List UInt8) : trim (l ++ [0]) = trim l := by
  induction l with
  | nil => rfl
  | cons b l ih => simp [trim, ih]
theorem trim_snoc (l : List UInt8) (b : UInt8) (h : b ≠ 0) : trim (l ++ [b]) = l ++ [b] := by
  induction l with
  | nil => simp [trim, h]
  | cons c l ih => simp [trim, ih]
theorem trim_length (l : List UInt8) : (trim l).length ≤ l.length := by
  induction l with
  | nil => simp [trim]
  | cons b l ih =>
    unfold trim
    split <;> simp <;> omega

/-! intervals -/

structure Iv where
  n : Nat
  V : Nat
  R : Nat
def Iv.fill : Nat → Iv → Iv
  | 0, x => x
  | k + 1, x => if 16777216 ≤ x.R then x else Iv.fill k ⟨x.n + 1, x.V * 256, x.R * 256⟩
def Iv.narrow (lo hi t : Nat) (x : Iv) : Iv := ⟨x.n, x.V + x.R / t * lo, partOf x.R lo hi t⟩
def Iv.code (lo hi t : Nat) (x : Iv) : Iv := Iv.fill 3 (x.narrow lo hi t)
def Iv.start : Iv := ⟨0, 0, 4294967295⟩
structure Iv.Fits (x : Iv) : Prop where
  lo : 16777216 ≤ x.R
  hi : x.R ≤ 4294967295
  top : x.V + x.R ≤ 256 ^ x.n * 4294967296
/-- Is y a part of x? -/
def Iv.Sub (x y : Iv) : Prop := ∃ k, y.n = x.n + k ∧ x.V * 256 ^ k ≤ y.V ∧ y.V + y.R ≤ (x.V + x.R) * 256 ^ k
theorem Iv.Sub.refl (x : Iv) : x.Sub x := ⟨0, rfl, by simp, by simp⟩
theorem Iv.Sub.trans {x y z : Iv} (h : x.Sub y) (g : y.Sub z) : x.Sub z := by
  obtain ⟨k, h1, h2, h3⟩ := h
  obtain ⟨j, g1, g2, g3⟩ := g
  refine ⟨k + j, by omega, ?_, ?_⟩
  · rw [Nat.pow_add, ← Nat.mul_assoc]
    exact Nat.le_trans (Nat.mul_le_mul_right _ h2) g2
  · rw [Nat.pow_add, ← Nat.mul_assoc]
    exact Nat.le_trans g3 (Nat.mul_le_mul_right _ h3)
theorem part_in {r lo hi t : Nat} (hp : lo < hi ∧ hi ≤ t) : r / t * lo + partOf r lo hi t ≤ r := by
  have hm : r / t * t ≤ r := Nat.div_mul_le_self r t
  have h2 : r / t * hi ≤ r / t * t := Nat.mul_le_mul_left _ hp.2
  have h3 : r / t * lo ≤ r / t * hi := Nat.mul_le_mul_left _ (by omega)
  unfold partOf
  split
  · omega
  · rw [Nat.mul_sub]; omega
theorem Iv.narrow_sub {lo hi t : Nat} (x : Iv) (hp : lo < hi ∧ hi ≤ t) : x.Sub (x.narrow lo hi t) := by
  have := part_in (r := x.R) hp
  exact ⟨0, rfl, by simp [Iv.narrow], by simp [Iv.narrow]; omega⟩
theorem Iv.fill_sub : ∀ (k : Nat) (x : Iv), x.Sub (x.fill k)
  | 0, x => Iv.Sub.refl x
  | k + 1, x => by
    unfold Iv.fill
    split
    · exact Iv.Sub.refl x
    · exact Iv.Sub.trans (y := ⟨x.n + 1, x.V * 256, x.R * 256⟩) ⟨1, rfl, by simp, by simp [Nat.add_mul]⟩ (Iv.fill_sub k _)
theorem Iv.code_sub {lo hi t : Nat} (x : Iv) (hp : lo < hi ∧ hi ≤ t) : x.Sub (x.code lo hi t) := (x.narrow_sub hp).trans (Iv.fill_sub 3 _)
theorem Iv.fill_fits : ∀ {k : Nat} {x : Iv}, 1 ≤ x.R → x.R ≤ 4294967295 → 16777216 ≤ x.R * 256 ^ k → x.V + x.R ≤ 256 ^ x.n * 4294967296 → (x.fill k).Fits
  | 0, x, h1, h2, h3, h4 => ⟨by show 16777216 ≤ x.R; simpa using h3, h2, h4⟩
  | k + 1, x, h1, h2, h3, h4 => by
    unfold Iv.fill
    split
    · exact ⟨by assumption, h2, h4⟩
    · refine Iv.fill_fits (by show 1 ≤ x.R * 256; omega) (by show x.R * 256 ≤ _; omega) (by show _ ≤ x.R * 256 * 256 ^ k; rw [Nat.mul_assoc, ← Nat.pow_succ']; exact h3) ?_
      show x.V * 256 + x.R * 256 ≤ 256 ^ (x.n + 1) * 4294967296
      rw [Nat.pow_succ]
      omega
theorem Iv.narrow_top {lo hi t : Nat} {x : Iv} (h : x.Fits) (hp : lo < hi ∧ hi ≤ t) : (x.narrow lo hi t).V + (x.narrow lo hi t).R ≤ 256 ^ x.n * 4294967296 := by
  have := part_in (r := x.R) hp
  have := h.top
  simp only [Iv.narrow]
  omega
theorem Iv.code_fits {lo hi t : Nat} {x : Iv} (h : x.Fits) (hp : lo < hi ∧ hi ≤ t ∧ t ≤ 65536) : (x.code lo hi t).Fits := by
  obtain ⟨h1, h2⟩ := partOf_bounds h.lo h.hi hp
  have h3 := h.hi
  exact Iv.fill_fits (by show 1 ≤ partOf x.R lo hi t; omega) (by show partOf x.R lo hi t ≤ _; omega) (by show _ ≤ partOf x.R lo hi t * _; omega) (Iv.narrow_top h ⟨hp.1, hp.2.1⟩)
theorem Iv.start_fits : Iv.start.Fits := ⟨by decide, by decide, by decide⟩
theorem Iv.fill_n : ∀ (k : Nat) (x : Iv), x.n ≤ (x.fill k).n ∧ (x.fill k).n ≤ x.n + k
  | 0, x => ⟨Nat.le_refl _, Nat.le_refl _⟩
  | k + 1, x => by
    unfold Iv.fill
    split
    · exact ⟨Nat.le_refl _, by omega⟩
    · have := Iv.fill_n k ⟨x.n + 1, x.V * 256, x.R * 256⟩
      simp only at this
      omega
theorem Iv.code_n (lo hi t : Nat) (x : Iv) : x.n ≤ (x.code lo hi t).n ∧ (x.code lo hi t).n ≤ x.n + 3 := Iv.fill_n 3 (x.narrow lo hi t)

/-- The octets at the end. -/
def Iv.ends (x : Iv) : List UInt8 := trim (dig (x.n + 4) x.V)

/-! a decoder of octets that were coded -/

/-- Do the octets lie in the interval? -/
def Within (S : List UInt8) (x : Iv) : Prop := x.V ≤ pre S (x.n + 4) ∧ pre S (x.n + 4) < x.V + x.R
theorem within_ends {x z : Iv} (hz : z.Fits) (h : x.Sub z) : Within z.ends x := by
  obtain ⟨k, h1, h2, h3⟩ := h
  have hlo := hz.lo
  have htop := hz.top
  have hv : z.V < 256 ^ (z.n + 4) := by
    rw [Nat.pow_add]
    have : 256 ^ 4 = 4294967296 := by decide
    omega
  have e : pre z.ends (x.n + 4) = z.V / 256 ^ k := by
    rw [Iv.ends, pre_trim, pre_dig _ _ _ (by omega) hv, show z.n + 4 - (x.n + 4) = k by omega]
  have hk : 0 < 256 ^ k := Nat.pow_pos (by decide)
  unfold Within
  rw [e]
  exact ⟨(Nat.le_div_iff_mul_le hk).2 h2, (Nat.div_lt_iff_lt_mul hk).2 (by omega)⟩
structure Dec.At (S : List UInt8) (x : Iv) (d : Dec) : Prop where
  rng : d.rng = x.R
  l : d.l = S.drop (x.n + 4)
  code : d.code + x.V = pre S (x.n + 4)
theorem within_fill {S : List UInt8} : ∀ {k : Nat} {x : Iv}, Within S (x.fill k) → Within S x
  | 0, x, h => h
  | k + 1, x, h => by
    unfold Iv.fill at h
    split at h
    · exact h
    · have := within_fill h
      have hb := hd_lt (S.drop (x.n + 4))
      have e : pre S (x.n + 1 + 4) = pre S (x.n + 4) * 256 + hd (S.drop (x.n + 4)) := by rw [show x.n + 1 + 4 = x.n + 4 + 1 by omega]; rfl
      obtain ⟨h1, h2⟩ := this
      simp only at h1 h2
      rw [e] at h1 h2
      constructor <;> omega
theorem at_fill {S : List UInt8} : ∀ {k : Nat} {x : Iv} {d : Dec}, d.At S x → (d.fill k).At S (x.fill k)
  | 0, x, d, h => h
  | k + 1, x, d, h => by
    unfold Iv.fill Dec.fill
    rw [h.rng]
    split
    · exact h
    · refine at_fill ⟨by show x.R * 256 = _; rfl, ?_, ?_⟩
      · show d.l.tail = S.drop (x.n + 1 + 4)
        rw [h.l, List.tail_drop, show x.n + 4 + 1 = x.n + 1 + 4 by omega]
      · show d.code * 256 + hd d.l + x.V * 256 = pre S (x.n + 1 + 4)
        have := h.code
        rw [show x.n + 1 + 4 = x.n + 4 + 1 by omega, pre, ← this, h.l]
        omega
theorem at_start (S : List UInt8) : (Dec.start S).At S Iv.start := by
  refine ⟨rfl, ?_, ?_⟩
  · simp [Dec.start, Dec.init, Iv.start, ← List.drop_one, List.drop_drop]
  · simp only [Dec.start, Dec.init, Iv.start, pre, Nat.add_zero, List.drop_zero]
    simp [← List.drop_one, List.drop_drop]
theorem at_place {S : List UInt8} {x : Iv} {d : Dec} {lo hi t : Nat} (h : d.At S x) (hx : x.Fits) (hp : lo < hi ∧ hi ≤ t ∧ t ≤ 65536) (hw : Within S (x.code lo hi t)) : lo ≤ d.place t ∧ d.place t < hi := by
  obtain ⟨h1, h2⟩ := within_fill (k := 3) (x := x.narrow lo hi t) hw
  have hc := h.code
  simp only [Iv.narrow] at h1 h2
  have hu : 256 ≤ x.R / t := (Nat.le_div_iff_mul_le (by omega)).2 (by have := hx.lo; omega)
  have a1 : x.R / t * lo ≤ d.code := by omega
  unfold Dec.place
  rw [h.rng]
  have b1 : lo ≤ d.code / (x.R / t) := (Nat.le_div_iff_mul_le (by omega)).2 (by rw [Nat.mul_comm]; exact a1)
  refine ⟨by omega, ?_⟩
  by_cases e : hi = t
  · omega
  · simp only [partOf, e, if_false] at h2
    have a2 : d.code < x.R / t * hi := by
      have : x.R / t * hi = x.R / t * lo + x.R / t * (hi - lo) := by rw [← Nat.mul_add]; congr 1; omega
      omega
    have b2 : d.code / (x.R / t) < hi := (Nat.div_lt_iff_lt_mul (by omega)).2 (by rw [Nat.mul_comm]; exact a2)
    omega
theorem at_take {S : List UInt8} {x : Iv} {d : Dec} {lo hi t : Nat} (h : d.At S x) (hw : Within S (x.code lo hi t)) : (d.take lo hi t).At S (x.code lo hi t) := by
  obtain ⟨h1, h2⟩ := within_fill (k := 3) (x := x.narrow lo hi t) hw
  have hc := h.code
  simp only [Iv.narrow] at h1 h2
  refine at_fill ⟨?_, h.l, ?_⟩
  · show partOf d.rng lo hi t = partOf x.R lo hi t
    rw [h.rng]
  · show min (d.code - d.rng / t * lo) (partOf d.rng lo hi t - 1) + (x.V + x.R / t * lo) = pre S (x.n + 4)
    rw [h.rng]
    omega
end Go.Proofs.YtooogfnmhfocjaaDoor.Spl

/- The abstract machine, 18: slices of the call's own that grow; what is changed. -/
namespace Go.Proofs.YtooogfnmhfocjaaDoor.Spl
open Go
set_option linter.unusedVariables false
set_option linter.unusedSimpArgs false

/-- What is changed lies in F. -/
structure Chg (F : Nat → Prop) (m m' : Mem) : Prop where
  base : m'.base = m.base
  next : m.next ≤ m'.next
  get : ∀ b, b < m.next → ¬ F b → m'.get b = m.get b
theorem Chg.refl (F : Nat → Prop) (m : Mem) : Chg F m m := ⟨rfl, Nat.le_refl _, fun _ _ _ => rfl⟩
theorem Chg.trans {F G : Nat → Prop} {a b c : Mem} (h : Chg F a b) (g : Chg G b c) (hG : ∀ i, i < a.next → G i → F i) : Chg F a c :=
  ⟨g.base.trans h.base, Nat.le_trans h.next g.next, fun i hi hF => (g.get i (Nat.lt_of_lt_of_le hi h.next) (fun hg => hF (hG i hi hg))).trans (h.get i hi hF)⟩
theorem Chg.mono {F G : Nat → Prop} {a b : Mem} (h : Chg F a b) (hG : ∀ i, i < a.next → F i → G i) : Chg G a b :=
  ⟨h.base, h.next, fun i hi hg => h.get i hi (fun hf => hg (hG i hi hf))⟩
theorem Chg.set (m : Mem) (i : Nat) (o : AObj) : Chg (fun b => b = i) m (m.set i o) := ⟨rfl, Nat.le_refl _, fun b _ hb => get_set_ne hb⟩
theorem Chg.alloc (F : Nat → Prop) (m : Mem) (o : AObj) : Chg F m (m.alloc o) := ⟨rfl, Nat.le_succ _, fun b hb _ => get_alloc_ne (Nat.ne_of_lt hb)⟩
theorem Chg.old {F : Nat → Prop} {m0 m m' : Mem} (h : Chg F m m') (h0 : Old m0 m) (hn : m.base ≤ m.next) (hF : ∀ b, F b → m.base ≤ b) : Old m0 m' :=
  ⟨h.base.trans h0.base, Nat.le_trans h0.next h.next, fun b hb => (h.get b (by have := h0.base; omega) (fun hf => by have := hF b hf; have := h0.base; omega)).trans (h0.get b hb)⟩

/-- The object of a slice. -/
def own : AV → Nat → Prop
  | .slice j _ _ _, b => b = j
  | _, _ => False

/-- A slice of the call's own, of elements of one cell each, all of its object's. -/
def Buf (T fz : Nat) (m : Mem) (v : AV) (cs : List AV) : Prop :=
  (v = .nilslice ∧ cs = []) ∨ ∃ j, v = .slice j 0 cs.length 1 ∧ cs ≠ [] ∧ m.get j = .cells T fz cs ∧ fz ≤ cs.length ∧ m.base ≤ j ∧ j < m.next
theorem Buf.own {T fz : Nat} {m : Mem} {v : AV} {cs : List AV} (h : Buf T fz m v cs) {b : Nat} (hb : own v b) : m.base ≤ b ∧ b < m.next := by
  rcases h with ⟨rfl, _⟩ | ⟨j, rfl, _, _, _, h1, h2⟩
  · exact hb.elim
  · cases hb; exact ⟨h1, h2⟩
theorem Buf.chg {F : Nat → Prop} {T fz : Nat} {m m' : Mem} {v : AV} {cs : List AV} (h : Buf T fz m v cs) (hc : Chg F m m') (hF : ∀ b, Go.Proofs.YtooogfnmhfocjaaDoor.Spl.own v b → ¬ F b) : Buf T fz m' v cs := by
  rcases h with ⟨rfl, rfl⟩ | ⟨j, rfl, h1, h2, h3, h4, h5⟩
  · exact .inl ⟨rfl, rfl⟩
  · exact .inr ⟨j, rfl, h1, (hc.get j h5 (hF j rfl)).trans h2, h3, by rw [hc.base]; exact h4, Nat.lt_of_lt_of_le h5 hc.next⟩
theorem Buf.len {T fz : Nat} {m : Mem} {v : AV} {cs : List AV} (h : Buf T fz m v cs) : aLenS v = some (.int .i64 cs.length) := by
  rcases h with ⟨rfl, rfl⟩ | ⟨j, rfl, _⟩ <;> rfl
theorem Buf.one {T fz : Nat} {m : Mem} {v : AV} {cs : List AV} (h : Buf T fz m v cs) : v.one = true := by
  rcases h with ⟨rfl, rfl⟩ | ⟨j, rfl, _⟩ <;> simp
theorem Buf.eqb {T fz : Nat} {m : Mem} {v : AV} {cs : List AV} (h : Buf T fz m v cs) : AV.eqb v v = true := by
  rcases h with ⟨rfl, rfl⟩ | ⟨j, rfl, _⟩ <;> simp [AV.eqb]
theorem Buf.idx {T fz : Nat} {m : Mem} {v : AV} {cs : List AV} (h : Buf T fz m v cs) {k : Nat} {kd : IntKind} (hk : k < cs.length) : ∃ j, aIdxS 1 v (.int kd k) = some (.ptr j k) ∧ m.get j = .cells T fz cs ∧ m.base ≤ j ∧ j < m.next ∧ Go.Proofs.YtooogfnmhfocjaaDoor.Spl.own v j := by
  rcases h with ⟨rfl, rfl⟩ | ⟨j, rfl, h1, h2, h3, h4, h5⟩
  · simp at hk
  · exact ⟨j, by rw [aIdxS_at hk]; simp, h2, h4, h5, rfl⟩
theorem Buf.elems {T fz : Nat} {m : Mem} {v : AV} {cs : List AV} (h : Buf T fz m v cs) : elems 1 cs.length v m = some cs ∧ count v = some cs.length := by
  rcases h with ⟨rfl, rfl⟩ | ⟨j, rfl, h1, h2, h3, h4, h5⟩
  · exact ⟨rfl, rfl⟩
  · refine ⟨?_, rfl⟩
    simp [Go.Proofs.YtooogfnmhfocjaaDoor.Spl.elems, Mem.cells?, h2]

theorem ok_append {β : Type} {T fz bytes : Nat} {v x : AV} {cs X : List AV} {k : Nat → AV → M β} {m : Mem} {Q : β → Mem → Prop} (h : Buf T fz m v cs) (hn : m.base ≤ m.next) (hx : elems 1 X.length x m = some X ∧ count x = some X.length) (ho : X.all AV.one = true)
    (hlen : (cs.length + X.length) * bytes ≤ 2 ^ 45)
    (hq : ∀ m' v', Chg (own v) m m' → (∃ fz', fz' ≤ fz ∧ Buf T fz' m' v' (cs ++ X)) → (∀ j, own v' j → own v j ∨ m.next ≤ j) → (X ≠ [] → ∀ j, own v' j → m.next ≤ j) → m'.base ≤ m'.next → Ok (fun n => k n v') m' Q) :
    Ok (fun n => bnd (append T 1 bytes v x) (k n)) m Q := by
  rw [ok_op]
  have hX : X.length = 0 ↔ X = [] := List.length_eq_zero_iff
  rcases h with ⟨rfl, rfl⟩ | ⟨j, rfl, h1, h2, h3, h4, h5⟩
  · by_cases e : X = []
    · subst e
      refine ⟨.nilslice, m, ?_, hq m .nilslice (Chg.refl _ _) ⟨fz, Nat.le_refl _, .inl ⟨rfl, rfl⟩⟩ (fun j h => h.elim) (fun h => absurd rfl h) hn⟩
      unfold append
      simp only [List.length_nil] at hx ⊢
      simp only [hx.2, hx.1, forceList_eq, forceNat_eq]
      simp
    · have hl : X.length ≠ 0 := fun h => e (hX.1 h)
      refine ⟨.slice m.next 0 X.length 1, m.alloc (.cells T 0 X), ?_, ?_⟩
      · unfold append
        simp only [hx.2, hx.1, ho, hl, if_false, reduceCtorEq, forceList_eq, forceNat_eq]
        rw [if_pos (by simpa using hlen)]
        rfl
      · refine hq _ _ (Chg.alloc _ _ _) ⟨0, Nat.zero_le _, .inr ⟨m.next, by simp, by simpa using e, by simp [Mem.get_alloc], Nat.zero_le _, hn, Nat.lt_succ_self _⟩⟩ (fun j hj => .inr (Nat.le_of_eq hj.symm)) (fun _ j hj => Nat.le_of_eq hj.symm) (Nat.le_succ_of_le hn)
  · by_cases e : X = []
    · subst e
      refine ⟨.slice j 0 cs.length 1, m, ?_, hq m _ (Chg.refl _ _) ⟨fz, Nat.le_refl _, .inr ⟨j, by simp, by simpa using h1, by simpa using h2, by simpa using h3, h4, h5⟩⟩ (fun j h => .inl h) (fun h => absurd rfl h) hn⟩
      unfold append
      simp only [List.length_nil] at hx ⊢
      simp only [hx.2, hx.1, forceList_eq, forceNat_eq]
      simp
    · have hl : X.length ≠ 0 := fun h => e (hX.1 h)
      refine ⟨.slice m.next 0 (cs.length + X.length) 1, (m.set j .dead).alloc (.cells T fz (cs ++ X)), ?_, ?_⟩
      · unfold append
        simp only [hx.2, hx.1, ho, hl, if_false, reduceCtorEq, h2, forceList_eq, forceNat_eq]
        rw [if_pos ⟨h4, trivial, trivial, trivial, h3, by omega, hlen⟩]
        rfl
      · refine hq _ _ ⟨rfl, Nat.le_succ _, fun b hb hF => ?_⟩ ⟨fz, Nat.le_refl _, .inr ⟨m.next, by simp, by simp [e], ?_, by simp; omega, hn, Nat.lt_succ_self _⟩⟩ (fun j hj => .inr (Nat.le_of_eq hj.symm)) (fun _ j hj => Nat.le_of_eq hj.symm) (Nat.le_succ_of_le hn)
        · rw [get_alloc_ne (m := m.set j .dead) (by show b ≠ m.next; omega), get_set_ne hF]
        · exact Mem.get_alloc (m.set j .dead) _

/-! octets -/

def u8s (l : List UInt8) : List AV := l.map fun b => .int .u8 b.toNat
@[simp] theorem u8s_length (l : List UInt8) : (u8s l).length = l.length := by simp [u8s]
theorem u8s_append (a b : List UInt8) : u8s (a ++ b) = u8s a ++ u8s b := by simp [u8s]
theorem u8s_one (l : List UInt8) : (u8s l).all AV.one = true := by simp [u8s, AV.one]
theorem byteCells_bs (l : List UInt8) : byteCells (bs l) = u8s l := by simp [byteCells, bs, u8s]
theorem ofByteCells_u8s : ∀ l : List UInt8, ofByteCells (u8s l) = some l
  | [] => rfl
  | b :: l => by
    have ih := ofByteCells_u8s l
    simp only [u8s, List.map_cons, ofByteCells] at ih ⊢
    rw [ih]
    simp
theorem elems_str (l : List UInt8) (m : Mem) : elems 1 (u8s l).length (.str (bs l)) m = some (u8s l) ∧ count (.str (bs l)) = some (u8s l).length := by
  constructor
  · simp only [elems, bs_size, byteCells_bs, u8s_length]
    simp [List.take_of_length_le]
  · simp [count, bs_size]
/-- string([]byte{b}) -/
theorem ok_ofBytes1 {β : Type} {T : Nat} {b : UInt8} {k : Nat → AV → M β} {m : Mem} {Q : β → Mem → Prop} (hq : Ok (fun n => k n (.str (bs [b]))) (m.alloc (.cells T 0 [.int .u8 b.toNat])) Q) :
    Ok (fun n => bnd (allocS T 1 1 [.int .u8 b.toNat]) fun v => bnd (ofBytes v) (k n)) m Q := by
  rw [allocS_def, ok_op]
  refine ⟨_, _, rfl, ?_⟩
  rw [ok_op]
  refine ⟨.str (bs [b]), _, ?_, hq⟩
  have hg := Mem.get_alloc m (.cells T 0 [.int .u8 b.toNat])
  simp only [ofBytes, countS, elems, Mem.cells?, hg]
  simp [ofByteCells, bs]
theorem aFill1 (z v : AV) (h : v.one = true) : aFill (fun i => some (i * 1, 1)) [z] [(0, v)] = some [v] := by
  have : v.cells? = some [v] := by cases v <;> simp_all [AV.one, AV.cells?]
  simp [aFill, this, splice]
theorem ok_allocS {β : Type} {ty es len : Nat} {cs : List AV} {k : Nat → AV → M β} {m : Mem} {Q : β → Mem → Prop} : Ok (fun n => bnd (allocS ty es len cs) (k n)) m Q ↔ Ok (fun n => k n (.slice m.next 0 len es)) (m.alloc (.cells ty 0 cs)) Q := by
  rw [allocS_def, ok_op]
  constructor
  · rintro ⟨u, m1, hs, hk⟩
    cases hs
    exact hk
  · intro hk
    exact ⟨_, _, rfl, hk⟩
theorem elems_new (T es : Nat) (cs : List AV) (m : Mem) : elems 1 cs.length (.slice m.next 0 cs.length es) (m.alloc (.cells T 0 cs)) = some cs ∧ count (.slice m.next 0 cs.length es) = some cs.length := by
  have hg := Mem.get_alloc m (.cells T 0 cs)
  exact ⟨by simp [elems, Mem.cells?, hg], rfl⟩
theorem aBin_neqSame (i o : Nat) : aBin .neq [3] (.ptr i o) (.ptr i o) = some (.bool false) := by simp [aBin, aEq, eqF]
theorem aBin_eqlSame (i o : Nat) : aBin .eql [3] (.ptr i o) (.ptr i o) = some (.bool true) := by simp [aBin, aEq, eqF]
theorem aBin_shr_nat (k k' : IntKind) (e : List Nat) (a n : Nat) (h : n ≤ k.bits) : aBin .shr e (.int k (a : Int)) (.int k' (n : Int)) = some (.int k ((a / 2 ^ n : Nat) : Int)) := by
  rw [aBin_shr _ _ _ _ _ ⟨Int.natCast_nonneg _, by omega⟩, Int.fdiv_eq_ediv_of_nonneg _ (by exact Int.le_of_lt (Int.pow_pos (by decide)))]
  simp
end Go.Proofs.YtooogfnmhfocjaaDoor.Spl

/- The abstract machine, 24: calls by shallow programs, for closed runs in the kernel. -/
namespace Go.Proofs.YtooogfnmhfocjaaDoor.Spl
open Go
set_option linter.unusedVariables false

def arg0 {α : Type} (F : α) (args : List AV) : Option α := match args with | [] => some F | _ => none
def arg1 {α : Type} (F : AV → α) (args : List AV) : Option α := match args with | [a] => some (F a) | _ => none
def arg2 {α : Type} (F : AV → AV → α) (args : List AV) : Option α := match args with | [a, b] => some (F a b) | _ => none
def arg3 {α : Type} (F : AV → AV → AV → α) (args : List AV) : Option α := match args with | [a, b, c] => some (F a b c) | _ => none
def arg4 {α : Type} (F : AV → AV → AV → AV → α) (args : List AV) : Option α := match args with | [a, b, c, d] => some (F a b c d) | _ => none
def arg5 {α : Type} (F : AV → AV → AV → AV → AV → α) (args : List AV) : Option α := match args with | [a, b, c, d, e] => some (F a b c d e) | _ => none
def arg6 {α : Type} (F : AV → AV → AV → AV → AV → AV → α) (args : List AV) : Option α := match args with | [a, b, c, d, e, f] => some (F a b c d e f) | _ => none
theorem arg0_some {α : Type} {F : α} {args : List AV} {x : α} (h : arg0 F args = some x) : args = [] ∧ F = x := by
  unfold arg0 at h
  split at h
  · exact ⟨rfl, Option.some.inj h⟩
  · cases h
theorem arg1_some {α : Type} {F : AV → α} {args : List AV} {x : α} (h : arg1 F args = some x) : ∃ a, args = [a] ∧ F a = x := by
  unfold arg1 at h
  split at h
  · exact ⟨_, rfl, Option.some.inj h⟩
  · cases h
theorem arg2_some {α : Type} {F : AV → AV → α} {args : List AV} {x : α} (h : arg2 F args = some x) : ∃ a b, args = [a, b] ∧ F a b = x := by
  unfold arg2 at h
  split at h
  · exact ⟨_, _, rfl, Option.some.inj h⟩
  · cases h
theorem arg3_some {α : Type} {F : AV → AV → AV → α} {args : List AV} {x : α} (h : arg3 F args = some x) : ∃ a b c, args = [a, b, c] ∧ F a b c = x := by
  unfold arg3 at h
  split at h
  · exact ⟨_, _, _, rfl, Option.some.inj h⟩
  · cases h
theorem arg4_some {α : Type} {F : AV → AV → AV → AV → α} {args : List AV} {x : α} (h : arg4 F args = some x) : ∃ a b c d, args = [a, b, c, d] ∧ F a b c d = x := by
  unfold arg4 at h
  split at h
  · exact ⟨_, _, _, _, rfl, Option.some.inj h⟩
  · cases h
theorem arg5_some {α : Type} {F : AV → AV → AV → AV → AV → α} {args : List AV} {x : α} (h : arg5 F args = some x) : ∃ a b c d e, args = [a, b, c, d, e] ∧ F a b c d e = x := by
  unfold arg5 at h
  split at h
  · exact ⟨_, _, _, _, _, rfl, Option.some.inj h⟩
  · cases h
theorem arg6_some {α : Type} {F : AV → AV → AV → AV → AV → AV → α} {args : List AV} {x : α} (h : arg6 F args = some x) : ∃ a b c d e f, args = [a, b, c, d, e, f] ∧ F a b c d e f = x := by
  unfold arg6 at h
  split at h
  · exact ⟨_, _, _, _, _, _, rfl, Option.some.inj h⟩
  · cases h
theorem step_some {α : Type} {f k : Nat} {A B : Option α} {x : α} (h : (if f = k then A else B) = some x) : (f = k ∧ A = some x) ∨ B = some x := by
  split at h
  · exact .inl ⟨by assumption, h⟩
  · exact .inr h

abbrev Table := (Nat → List AV → M AV) → Nat → Nat → List AV → Option (M AV)
/-- Calls, by a table of shallow programs. -/
def fast (P : Program) (tab : Table) (ext : Ext) : Nat → Nat → List AV → M AV
  | 0, _, _ => fail
  | n + 1, f, args =>
    match ext f with
    | some g => g args
    | none =>
      match tab (fast P tab ext n) n f args with
      | some x => x
      | none => fcall P ext (n + 1) f args
theorem fast_eq {P : Program} {tab : Table} {ext : Ext} (h : ∀ n f args x, ext f = none → tab (fcall P ext n) n f args = some x → fcall P ext (n + 1) f args = x) : ∀ n, fast P tab ext n = fcall P ext n
  | 0 => rfl
  | n + 1 => by
    funext f args
    have ih := fast_eq h n
    unfold fast
    cases he : ext f with
    | some g => simp only; unfold fcall; rw [he]
    | none =>
      simp only
      rw [ih]
      cases ht : tab (fcall P ext n) n f args with
      | none => rfl
      | some x => simp only; exact (h n f args x he ht).symm
end Go.Proofs.YtooogfnmhfocjaaDoor.Spl
