/- The abstract machine, 5: operations that neither read nor write memory. -/
import Derived.Test.YtooogfnmhfocjaaGreatDoorSplMem
namespace Go.Proofs.YtooogfnmhfocjaaGreatDoor.Spl
open Go Go.RowKit
set_option linter.unusedVariables false
set_option linter.unusedSimpArgs false

variable {P : Program} {g : Gm} {n : Nat} (w : World)

theorem b2_sound {k : IntKind} {op : BinOp} {a b : Int} {v : AV} (ho : op ≠ .shl ∧ op ≠ .shr) (h : b2 k op a b = some v) (t : TypeId) :
    ∃ z, (binOp op t (.int k a) (.int k b)).run P w = .ok z w ∧ VR g n v z := by
  cases op <;> simp [b2] at h <;> (try (obtain ⟨h0, h⟩ := h)) <;> (try subst h) <;> (try exact absurd rfl ho.1) <;> (try exact absurd rfl ho.2) <;>
    exact ⟨_, by simp [binOp, Op.intArith, Op.intDiv, Op.intBits, Op.intCmp, *] <;> rfl, by constructor⟩

theorem sh2_sound {k k' : IntKind} {op : BinOp} {a b : Int} {v : AV} (h : sh2 k op a b = some v) (t : TypeId) (ho : op = .shl ∨ op = .shr) :
    ∃ z, (binOp op t (.int k a) (.int k' b)).run P w = .ok z w ∧ VR g n v z := by
  rcases ho with rfl | rfl <;> simp [sh2] at h <;> obtain ⟨h0, h⟩ := h <;> subst h <;>
    exact ⟨_, by simp [binOp, Op.shift, show ¬ b < 0 by omega] <;> rfl, by constructor⟩

theorem s2_sound {op : BinOp} {a b : ByteArray} {v : AV} (h : s2 op a b = some v) (t : TypeId) :
    ∃ z, (binOp op t (.string a) (.string b)).run P w = .ok z w ∧ VR g n v z := by
  cases op <;> simp [s2] at h <;> (try (obtain ⟨h0, h⟩ := h)) <;> (try subst h)
  case add =>
    refine ⟨.string (a ++ b), ?_, by constructor⟩
    have : ¬ (((a.size + b.size : Nat) : Int) > IntKind.i64.max) := by simpa using h0
    simp only [binOp, Op.stringOp]
    rw [if_neg this]; rfl
  all_goals exact ⟨_, by simp [binOp, Op.stringOp] <;> rfl, by first | constructor | (unfold strEq; constructor)⟩

theorem kindOf_1 {t : TypeId} (h : kindOf P t = 1) : P.underlying t = some .bool := by
  unfold kindOf at h; repeat' (split at h)
  all_goals first | assumption | (exact absurd h (by decide))
theorem kindOf_6 {t : TypeId} (h : kindOf P t = 6) : ∃ k, P.underlying t = some (.int k) := by
  unfold kindOf at h; repeat' (split at h)
  all_goals first | exact ⟨_, by assumption⟩ | (exact absurd h (by decide))
theorem kindOf_7 {t : TypeId} (h : kindOf P t = 7) : P.underlying t = some .string := by
  unfold kindOf at h; repeat' (split at h)
  all_goals first | assumption | (exact absurd h (by decide))
theorem kindOf_4 {t : TypeId} (h : kindOf P t = 4) : ∃ k, P.underlying t = some (.slice k) := by
  unfold kindOf at h; repeat' (split at h)
  all_goals first | exact ⟨_, by assumption⟩ | (exact absurd h (by decide))
theorem kindOf_5 {t : TypeId} (h : kindOf P t = 5) : ∃ a b c, P.underlying t = some (.func a b c) := by
  unfold kindOf at h; repeat' (split at h)
  all_goals first | exact ⟨_, _, _, by assumption⟩ | (exact absurd h (by decide))
theorem kindOf_3 {t : TypeId} (h : kindOf P t = 3) : ∃ e i, P.underlying t = some (.pointer e) ∧ P.info? e = some i ∧ i.size ≠ 0 := by
  unfold kindOf at h; repeat' (split at h)
  all_goals first | (exact absurd h (by decide)) | skip
  rename_i e hu hs
  unfold size? at hs
  cases hi : P.info? e with
  | none => simp [hi] at hs
  | some i => simp [hi] at hs; exact ⟨e, i, hu, hi, hs⟩

theorem addr_beq (b o p : Nat) : ((⟨b, o, none⟩ : Addr) == ⟨b, p, none⟩) = (o == p) := by
  by_cases e : o = p
  · subst e; simp
  · rw [beq_eq_false_iff_ne.2 e, beq_eq_false_iff_ne]
    intro h; exact e (by cases h; rfl)

theorem eqGuard_plain (op : BinOp) (t : TypeId) (a c : Operand) (xv yv : Value) (h : ∀ cs ds, ¬ (xv = .agg cs ∧ yv = .agg ds)) (h' : ¬ (xv = .nilIface ∧ yv = .nilIface)) :
    (eqGuard op t a c xv yv).run P w = .ok () w := by
  unfold eqGuard
  cases op <;> first
    | rfl
    | (simp only [Bool.not_true, Bool.false_eq_true, if_false]
       split
       · exact absurd ⟨rfl, rfl⟩ h'
       · exact absurd ⟨rfl, rfl⟩ (h _ _)
       · rfl)

theorem eqF_sound {t : TypeId} {x y : AV} {xv yv : Value} {b : Bool} (hx : VR g n x xv) (hy : VR g n y yv) (h : eqF (kindOf P t) x y = some b) (d : Nat) :
    (Op.equalIn (d + 1) t xv yv).run P w = .ok b w := by
  generalize hk : kindOf P t = k at h
  unfold eqF at h
  split at h
  · have hu := kindOf_1 hk
    cases hx; cases hy; cases h; simp [Op.equalIn, run_underlying hu]
  · obtain ⟨_, hu⟩ := kindOf_6 hk
    split at h
    · rename_i e; subst e; cases hx; cases hy; cases h; exact run_equalIn_int w d t _ _ _ _ hu
    · cases h
  · have hu := kindOf_7 hk
    cases hx; cases hy; cases h; exact run_equalIn_string w d t _ _ hu
  · obtain ⟨e, i, hu, _⟩ := kindOf_3 hk
    cases hx; cases hy; cases h; simp [Op.equalIn, run_underlying hu]
  · obtain ⟨e, i, hu, _⟩ := kindOf_3 hk
    cases hx; cases hy; cases h; simp [Op.equalIn, run_underlying hu]
  · obtain ⟨e, i, hu, _⟩ := kindOf_3 hk
    cases hx; cases hy; cases h; simp [Op.equalIn, run_underlying hu]
  · obtain ⟨e, i, hu, hi, hi0⟩ := kindOf_3 hk
    have hse : (Go.sizeOf e).run P w = .ok i.size w := by simp [Go.sizeOf, typeInfo, hi]
    split at h
    · rename_i e; subst e
      cases hx; cases hy; cases h
      simp only [Op.equalIn, Sem.run_bind, run_underlying hu, Result.andThen_ok, hse]
      rw [if_pos hi0]
      simp [sameAddr]
      exact addr_beq _ _ _
    · cases h
  · obtain ⟨_, hu⟩ := kindOf_4 hk
    cases hx; cases hy; cases h; simp [Op.equalIn, run_underlying hu]
  · obtain ⟨_, hu⟩ := kindOf_4 hk
    cases hx; cases hy; cases h; simp [Op.equalIn, run_underlying hu]
  · obtain ⟨_, hu⟩ := kindOf_4 hk
    cases hx; cases hy; cases h; simp [Op.equalIn, run_underlying hu]
  · obtain ⟨_, hu⟩ := kindOf_4 hk
    cases hx; cases hy; cases h; simp [Op.equalIn, run_underlying hu]
  · obtain ⟨_, hu⟩ := kindOf_4 hk
    cases hx; cases hy; cases h; simp [Op.equalIn, run_underlying hu]
  · obtain ⟨_, _, _, hu⟩ := kindOf_5 hk
    cases hx; cases hy; cases h; simp [Op.equalIn, run_underlying hu]
  · obtain ⟨_, _, _, hu⟩ := kindOf_5 hk
    cases hx; cases hy; cases h; simp [Op.equalIn, run_underlying hu]
  · obtain ⟨_, _, _, hu⟩ := kindOf_5 hk
    cases hx; cases hy; cases h; simp [Op.equalIn, run_underlying hu]
  · cases h

theorem run_size {t : TypeId} {n : Nat} (h : size? P t = some n) (w : World) : (Go.sizeOf t).run P w = .ok n w := by
  unfold size? at h
  cases hi : P.info? t with
  | none => simp [hi] at h
  | some i => simp [hi] at h; subst h; simp [Go.sizeOf, typeInfo, hi]

theorem shape_some {t : TypeId} {k : Nat} (h : shape? P t = some (some k)) : (∀ w, (isAgg t).run P w = .ok true w) ∧ size? P t = some k := by
  unfold shape? at h
  split at h
  · rename_i fs i hu hi
    simp at h; subst h
    exact ⟨fun w => by simp [isAgg, run_underlying hu], by simp [size?, hi]⟩
  · rename_i a b i hu hi
    simp at h; subst h
    exact ⟨fun w => by simp [isAgg, run_underlying hu], by simp [size?, hi]⟩
  · split at h <;> simp at h
  · simp at h
theorem shape_none {t : TypeId} (h : shape? P t = some none) : (∀ w, (isAgg t).run P w = .ok false w) ∧ size? P t = some 1 := by
  unfold shape? at h
  split at h
  · simp at h
  · simp at h
  · rename_i d i h1 h2 hu hi
    split at h
    · rename_i hs
      refine ⟨fun w => ?_, by simp [size?, hi, hs]⟩
      simp only [isAgg, Sem.run_bind, run_underlying hu, Result.andThen_ok]
      cases d <;> simp at h1 h2 ⊢
    · simp at h
  · simp at h

theorem part_sound {t : TypeId} {sh : Option Nat} (ht : shape? P t = some sh) {cs : List AV} {xs : List Value} (hv : VRs g n cs xs) {o : Nat} {v : AV} (h : aPart sh cs o = some v) :
    ∃ z, (part t xs.toArray o).run P w = .ok z w ∧ VR g n v z := by
  unfold aPart at h
  cases sh with
  | some k =>
    obtain ⟨h1, h2⟩ := shape_some ht
    simp at h
    obtain ⟨h3, rfl⟩ := h
    refine ⟨.agg ((xs.drop o).take k).toArray, ?_, .agg _ _ ((hv.drop o).take k)⟩
    simp only [part, Sem.run_bind, h1, Result.andThen_ok, run_size h2, if_true, Sem.run_pure]
    congr 2
    apply Array.ext'
    simp [List.take_drop]
  | none =>
    obtain ⟨h1, h2⟩ := shape_none ht
    simp at h
    obtain ⟨z, hz, r⟩ := hv.get o h
    refine ⟨z, ?_, r⟩
    simp [part, h1, hz]

theorem eqFields_sound (d : Nat) {cs ds : List AV} {xs ys : List Value} (hx : VRs g n cs xs) (hy : VRs g n ds ys) : ∀ (fs : List Field) (i : Nat) (b : Bool), fieldsPlain P i fs = true →
    eqCells (fs.map fun f => kindOf P f.type) (cs.drop i) (ds.drop i) = some b → (Op.eqFields (d + 1) xs.toArray ys.toArray fs).run P w = .ok b w
  | [], i, b, _, h => by
    simp only [List.map_nil] at h
    cases h1 : cs.drop i with
    | cons a as => rw [h1] at h; cases h2 : ds.drop i <;> rw [h2] at h <;> simp [eqCells] at h
    | nil =>
      cases h2 : ds.drop i with
      | cons a as => rw [h1, h2] at h; simp [eqCells] at h
      | nil => rw [h1, h2] at h; simp [eqCells] at h; subst h; simp [Op.eqFields]
  | f :: fs, i, b, hp, h => by
    simp only [fieldsPlain, Bool.and_eq_true, bne_iff_ne, ne_eq, beq_iff_eq] at hp
    obtain ⟨⟨⟨hn, ho⟩, hs⟩, hp⟩ := hp
    simp only [List.map_cons] at h
    cases h1 : cs.drop i with
    | nil => rw [h1] at h; simp [eqCells] at h
    | cons a as =>
      cases h2 : ds.drop i with
      | nil => rw [h1, h2] at h; simp [eqCells] at h
      | cons c es =>
        rw [h1, h2] at h
        have ea : cs[i]? = some a := by have := congrArg (fun l => l[0]?) h1; simpa using this
        have ec : ds[i]? = some c := by have := congrArg (fun l => l[0]?) h2; simpa using this
        have e1 : cs.drop (i + 1) = as := by rw [← List.drop_drop, h1]; rfl
        have e2 : ds.drop (i + 1) = es := by rw [← List.drop_drop, h2]; rfl
        obtain ⟨za, hza, ra⟩ := part_sound (P := P) w hs hx (o := i) (v := a) (by simpa [aPart] using ea)
        obtain ⟨zc, hzc, rc⟩ := part_sound (P := P) w hs hy (o := i) (v := c) (by simpa [aPart] using ec)
        simp only [eqCells] at h
        simp only [Op.eqFields]
        rw [if_pos hn]
        simp only [Sem.run_bind, ho, hza, hzc, Result.andThen_ok]
        cases he : eqF (kindOf P f.type) a c with
        | none => rw [he] at h; cases h
        | some q =>
          rw [he] at h
          rw [eqF_sound w ra rc he d]
          cases q with
          | false => simp at h; subst h; simp
          | true =>
            simp at h
            have ih := eqFields_sound d hx hy fs (i + 1) b hp (by rw [e1, e2]; exact h)
            simp [ih]

/-- Values of one kind that is no integer and no string are compared by their type. -/
theorem eqF_binOp {k : Nat} {x y : AV} {xv yv : Value} {b : Bool} (hx : VR g n x xv) (hy : VR g n y yv) (h : eqF k x y = some b) (h6 : k ≠ 6) (h7 : k ≠ 7) (t : TypeId) :
    (∀ op a c, (eqGuard op t a c xv yv).run P w = .ok () w) ∧ binOp .eql t xv yv = (do pure (.bool (← Op.equal t xv yv))) ∧ binOp .neq t xv yv = (do pure (.bool (!(← Op.equal t xv yv)))) := by
  unfold eqF at h
  split at h
  all_goals first
    | (exact absurd rfl h6)
    | (exact absurd rfl h7)
    | (cases h; done)
    | (cases hx; cases hy
       exact ⟨fun op a c => eqGuard_plain w op t a c _ _ (fun _ _ e => by cases e.1) (fun e => by cases e.1), rfl, rfl⟩)

theorem eqF_6 {x y : AV} {b : Bool} (h : eqF 6 x y = some b) : ∃ k u k' v, x = .int k u ∧ y = .int k' v := by
  unfold eqF at h
  split at h
  all_goals first | exact ⟨_, _, _, _, rfl, rfl⟩ | contradiction | (exfalso; simp at *; done) | (cases h; done)
theorem eqF_7 {x y : AV} {b : Bool} (h : eqF 7 x y = some b) : ∃ u v, x = .str u ∧ y = .str v := by
  unfold eqF at h
  split at h
  all_goals first | exact ⟨_, _, rfl, rfl⟩ | contradiction | (exfalso; simp at *; done) | (cases h; done)

theorem aEq_sound {t : TypeId} {x y : AV} {xv yv : Value} {b : Bool} (hx : VR g n x xv) (hy : VR g n y yv) (h : aEq (eqKind P t) x y = some b)
    (hi : ∀ k u k' v, ¬ (x = .int k u ∧ y = .int k' v)) (hs : ∀ u v, ¬ (x = .str u ∧ y = .str v)) :
    (∀ op a c, (eqGuard op t a c xv yv).run P w = .ok () w) ∧ (binOp .eql t xv yv).run P w = .ok (.bool b) w ∧ (binOp .neq t xv yv).run P w = .ok (.bool !b) w := by
  unfold eqKind at h
  split at h
  · rename_i fs hu
    split at h
    · rename_i hp
      simp only [Bool.and_eq_true, Bool.not_eq_true'] at hp
      obtain ⟨⟨h1, h2⟩, h3⟩ := hp
      generalize hks : (fs.toList.map fun f => kindOf P f.type) = ks at h
      have hag : ∃ cs ds, x = .agg cs ∧ y = .agg ds ∧ eqCells ks cs ds = some b := by
        unfold aEq at h
        split at h
        · rename_i heq; cases heq; exact ⟨_, _, rfl, rfl, h⟩
        · rename_i heq _; cases heq; simp [eqF] at h
        · cases h
      obtain ⟨cs, ds, rfl, rfl, hc⟩ := hag
      cases hx with
      | agg _ xs hx =>
        cases hy with
        | agg _ ys hy =>
          have hu' : P.underlying t = some (.struct (P.fieldsOf t)) := by rw [hu]; simp [Program.fieldsOf, hu]
          have hf : P.fieldsOf t = fs := by simp [Program.fieldsOf, hu]
          have := eqFields_sound (P := P) w 9998 hx hy fs.toList 0 b h3 (by rw [hks]; simpa using hc)
          rw [← hf] at this
          have he : (Op.equalIn 10000 t (.agg xs.toArray) (.agg ys.toArray)).run P w = .ok b w := by
            rw [run_equalIn_struct w 9999 t _ _ hu' h1]; exact this
          refine ⟨fun op a c => run_eqGuard_agg w op t a c _ _ h2, ?_, ?_⟩
          · rw [run_eql_struct, he]; rfl
          · rw [run_neq_struct, he]; rfl
    · unfold aEq at h
      split at h
      · rename_i heq; cases heq
      · rename_i heq _; cases heq
      · cases h
  · have h' : eqF (kindOf P t) x y = some b := by
      unfold aEq at h
      split at h
      · rename_i heq
        have h2 : kindOf P t = 2 := by injection heq
        exact absurd h2 (by unfold kindOf; repeat' split
                            all_goals decide)
      · rename_i heq _; cases heq; exact h
      · cases h
    have h6 : kindOf P t ≠ 6 := by
      intro e; rw [e] at h'; obtain ⟨_, _, _, _, e1, e2⟩ := eqF_6 h'; exact hi _ _ _ _ ⟨e1, e2⟩
    have h7 : kindOf P t ≠ 7 := by
      intro e; rw [e] at h'; obtain ⟨_, _, e1, e2⟩ := eqF_7 h'; exact hs _ _ ⟨e1, e2⟩
    obtain ⟨b1, b2, b3⟩ := eqF_binOp (P := P) w hx hy h' h6 h7 t
    have he : (Op.equal t xv yv).run P w = .ok b w := by unfold Op.equal Op.maxDepth; exact eqF_sound w hx hy h' 9999
    exact ⟨b1, by rw [b2]; simp [he], by rw [b3]; simp [he]⟩

theorem aBin_sound {op : BinOp} {t : TypeId} {x y : AV} {xv yv : Value} {v : AV} (hx : VR g n x xv) (hy : VR g n y yv)
    (h : aBin op (match op with | .eql | .neq => eqKind P t | _ => []) x y = some v) (a c : Operand) :
    ∃ z, (do eqGuard op t a c xv yv; binOp op t xv yv : Sem Value).run P w = .ok z w ∧ VR g n v z := by
  have gi : ∀ k u k' v, (eqGuard op t a c (.int k u) (.int k' v)).run P w = .ok () w := fun k u k' v => eqGuard_plain w op t a c _ _ (fun _ _ e => by cases e.1) (fun e => by cases e.1)
  have gs : ∀ u v, (eqGuard op t a c (.string u) (.string v)).run P w = .ok () w := fun u v => eqGuard_plain w op t a c _ _ (fun _ _ e => by cases e.1) (fun e => by cases e.1)
  unfold aBin at h
  split at h
  · cases hx; cases hy
    obtain ⟨z, hz, r⟩ := sh2_sound (P := P) (g := g) (n := n) w h t (.inl rfl)
    exact ⟨z, by simp only [Sem.run_bind, gi, Result.andThen_ok]; exact hz, r⟩
  · cases hx; cases hy
    obtain ⟨z, hz, r⟩ := sh2_sound (P := P) (g := g) (n := n) w h t (.inr rfl)
    exact ⟨z, by simp only [Sem.run_bind, gi, Result.andThen_ok]; exact hz, r⟩
  · rename_i h1 h2
    split at h
    · rename_i e; subst e
      cases hx; cases hy
      obtain ⟨z, hz, r⟩ := b2_sound (P := P) (g := g) (n := n) w ⟨h1, h2⟩ h t
      exact ⟨z, by simp only [Sem.run_bind, gi, Result.andThen_ok]; exact hz, r⟩
    · cases h
  · cases hx; cases hy
    obtain ⟨z, hz, r⟩ := s2_sound (P := P) (g := g) (n := n) w h t
    exact ⟨z, by simp only [Sem.run_bind, gs, Result.andThen_ok]; exact hz, r⟩
  · rename_i h1 h2
    obtain ⟨b, hb, rfl⟩ := Option.map_eq_some_iff.1 h
    obtain ⟨h5, h6, _⟩ := aEq_sound (P := P) w hx hy hb (fun _ _ _ _ e => h1 _ _ _ _ e.1 e.2) (fun _ _ e => h2 _ _ e.1 e.2)
    exact ⟨.bool b, by simp only [Sem.run_bind, h5, Result.andThen_ok]; exact h6, .bool _⟩
  · rename_i h1 h2
    obtain ⟨b, hb, rfl⟩ := Option.map_eq_some_iff.1 h
    obtain ⟨h5, _, h6⟩ := aEq_sound (P := P) w hx hy hb (fun _ _ _ _ e => h1 _ _ _ _ e.1 e.2) (fun _ _ e => h2 _ _ e.1 e.2)
    exact ⟨.bool !b, by simp only [Sem.run_bind, h5, Result.andThen_ok]; exact h6, .bool _⟩
  · cases h

theorem aUn_sound {op : UnOp} {x : AV} {xv : Value} {v : AV} (hx : VR g n x xv) (h : aUn op x = some v) : ∃ z, (Op.unary op xv).run P w = .ok z w ∧ VR g n v z := by
  unfold aUn at h
  split at h
  · cases hx; cases h; exact ⟨_, rfl, .int _ _⟩
  · cases hx; cases h; exact ⟨_, rfl, .int _ _⟩
  · cases hx; cases h; exact ⟨_, rfl, .bool _⟩
  · cases h

theorem aPick_sound {c x y : AV} {cv xv yv : Value} {v : AV} (hc : VR g n c cv) (hx : VR g n x xv) (hy : VR g n y yv) (h : aPick c x y = some v) :
    ∃ z, (do pure (Next.value (if ← asBool cv then xv else yv)) : Sem Next).run P w = .ok (.value z) w ∧ VR g n v z := by
  unfold aPick at h
  split at h
  · cases hc; cases h; exact ⟨xv, rfl, hx⟩
  · cases hc; cases h; exact ⟨yv, rfl, hy⟩
  · cases h

theorem aOff_sound {f : Field} {x : AV} {xv : Value} {v : AV} (hx : VR g n x xv) (h : aOff f.offset x = some v) (hs : (size? P f.type).getD 0 ≠ 0) :
    ∃ z, (do let a ← Instr.sureAddr xv; pure (.pointer (some (← fieldPlace a f))) : Sem Value).run P w = .ok z w ∧ VR g n v z := by
  unfold aOff at h
  split at h
  · cases hx with
    | ptr i o hi =>
      cases h
      refine ⟨_, ?_, .ptr _ _ hi⟩
      obtain ⟨k, hk, hk0⟩ : ∃ k, size? P f.type = some k ∧ k ≠ 0 := by
        cases hz : size? P f.type with
        | none => simp [hz] at hs
        | some k => exact ⟨k, rfl, by simpa [hz] using hs⟩
      simp only [Instr.sureAddr, fieldPlace, Sem.run_bind, Sem.run_pure, Result.andThen_ok, run_size hk]
      rw [if_neg hk0]
      simp [addr_add]
  · cases h

theorem aIdxS_sound {t e : TypeId} {size : Nat} {x ix : AV} {xv iv : Value} {v : AV} (ht : P.underlying t = some (.slice e)) (he : size? P e = some size) (hx : VR g n x xv) (hi : VR g n ix iv) (h : aIdxS size x ix = some v) :
    ∃ z, (Instr.indexAt t xv iv).run P w = .ok z w ∧ VR g n v z := by
  unfold aIdxS at h
  split at h
  · split at h
    · rename_i hb
      cases hx with
      | slice i o len es cap h1 h2 h3 =>
        cases hi; cases h
        refine ⟨_, ?_, .ptr _ _ h1⟩
        simp [Instr.indexAt, run_underlying ht, asIntOf, hb, run_size he, addr_add]
    · cases h
  · cases h

theorem aIdxA_sound {t e : TypeId} {len size : Nat} {x ix : AV} {xv iv : Value} {v : AV} (ht : P.underlying t = some (.array len e)) (he : size? P e = some size) (hx : VR g n x xv) (hi : VR g n ix iv) (h : aIdxA len size x ix = some v) :
    ∃ z, (Instr.indexAt t xv iv).run P w = .ok z w ∧ VR g n v z := by
  unfold aIdxA at h
  split at h
  · split at h
    · rename_i hb
      cases hx with
      | ptr i o h1 =>
        cases hi; cases h
        refine ⟨_, ?_, .ptr _ _ h1⟩
        simp [Instr.indexAt, run_underlying ht, asIntOf, Instr.sureAddr, hb, run_size he, addr_add]
    · cases h
  · cases h

theorem aIdxV_sound {t e : TypeId} {len size : Nat} {sh : Option Nat} {x ix : AV} {xv iv : Value} {v : AV} (ht : P.underlying t = some (.array len e)) (he : size? P e = some size) (hs : shape? P e = some sh)
    (hx : VR g n x xv) (hi : VR g n ix iv) (h : aIdxV len size sh x ix = some v) :
    ∃ z, (Instr.index t xv iv).run P w = .ok z w ∧ VR g n v z := by
  unfold aIdxV at h
  split at h
  · split at h
    · rename_i hb
      cases hx with
      | agg cs xs hx =>
        cases hi
        obtain ⟨z, hz, r⟩ := part_sound (P := P) w hs hx h
        refine ⟨z, ?_, r⟩
        simp [Instr.index, run_underlying ht, asIntOf, hb, run_size he, hz]
    · cases h
  · cases h

theorem aIdxStr_sound {t : TypeId} {x ix : AV} {xv iv : Value} {v : AV} (ht : P.underlying t = some .string) (hx : VR g n x xv) (hi : VR g n ix iv) (h : aIdxStr x ix = some v) :
    ∃ z, (Instr.index t xv iv).run P w = .ok z w ∧ VR g n v z := by
  unfold aIdxStr at h
  split at h
  · split at h
    · rename_i hb
      cases hx; cases hi
      obtain ⟨b, hb', rfl⟩ := Option.map_eq_some_iff.1 h
      exact ⟨_, by simp [Instr.index, run_underlying ht, asIntOf, hb, hb'] <;> rfl, .int _ _⟩
    · cases h
  · cases h

theorem aFld_sound {t : TypeId} {f : Nat} {fd : Field} {sh : Option Nat} {x : AV} {xv : Value} {v : AV} (hf : fieldOf P t f = some fd) (hs : shape? P fd.type = some sh) (hx : VR g n x xv) (h : aFld sh fd.offset x = some v) :
    ∃ z, (Instr.field t xv f).run P w = .ok z w ∧ VR g n v z := by
  unfold aFld at h
  split at h
  · cases hx with
    | agg cs xs hx =>
      obtain ⟨z, hz, r⟩ := part_sound (P := P) w hs hx h
      refine ⟨z, ?_, r⟩
      unfold fieldOf at hf
      split at hf
      · rename_i fs hu
        simp [Instr.field, run_underlying hu, hf, asAgg, hz]
      · cases hf
  · cases h

theorem aExt_sound {ix : Nat} {x : AV} {xv : Value} {v : AV} (hx : VR g n x xv) (h : aExt ix x = some v) : ∃ z, (Instr.extract xv ix).run P w = .ok z w ∧ VR g n v z := by
  unfold aExt at h
  split at h
  · cases hx with
    | tup cs xs hx =>
      obtain ⟨z, hz, r⟩ := hx.get ix h
      exact ⟨z, by simp [Instr.extract, hz], r⟩
  · cases h

theorem aLenStr_sound {t ty : TypeId} {x : AV} {xv : Value} {v : AV} (hu : P.underlying t = some .string) (hx : VR g n x xv) (h : aLenStr x = some v) :
    ∃ z, (Builtin.len_ #[t] ty #[xv]).run P w = .ok z w ∧ VR g n v z := by
  unfold aLenStr at h
  split at h
  · cases hx; cases h
    exact ⟨_, by simp [Builtin.len_, run_underlying hu] <;> rfl, .int _ _⟩
  · cases h
theorem aLenS_sound {t ty e : TypeId} {x : AV} {xv : Value} {v : AV} (hu : P.underlying t = some (.slice e)) (hx : VR g n x xv) (h : aLenS x = some v) :
    ∃ z, (Builtin.len_ #[t] ty #[xv]).run P w = .ok z w ∧ VR g n v z := by
  unfold aLenS at h
  split at h
  all_goals first
    | (cases h; done)
    | (cases hx; cases h; exact ⟨_, by simp [Builtin.len_, run_underlying hu] <;> rfl, .int _ _⟩)

theorem aMin2_sound {x y : AV} {xv yv : Value} {v : AV} (hx : VR g n x xv) (hy : VR g n y yv) (h : aMin2 x y = some v) : ∃ z, (Builtin.min2 xv yv).run P w = .ok z w ∧ VR g n v z := by
  unfold aMin2 at h
  split at h
  · cases hx; cases hy; cases h; exact ⟨_, rfl, .int _ _⟩
  · cases h
theorem aMax2_sound {x y : AV} {xv yv : Value} {v : AV} (hx : VR g n x xv) (hy : VR g n y yv) (h : aMax2 x y = some v) : ∃ z, (Builtin.max2 xv yv).run P w = .ok z w ∧ VR g n v z := by
  unfold aMax2 at h
  split at h
  · cases hx; cases hy; cases h; exact ⟨_, rfl, .int _ _⟩
  · cases h
theorem aFold_sound {f : AV → AV → Option AV} {F : Value → Value → Sem Value} (hf : ∀ {x y xv yv v}, VR g n x xv → VR g n y yv → f x y = some v → ∃ z, (F xv yv).run P w = .ok z w ∧ VR g n v z) :
    ∀ {ys : List AV} {yvs : List Value} {x : AV} {xv : Value} {v : AV}, VR g n x xv → VRs g n ys yvs → aFold f x ys = some v → ∃ z, (yvs.foldlM F xv).run P w = .ok z w ∧ VR g n v z := by
  intro ys
  induction ys with
  | nil =>
    intro yvs x xv v hx hy h
    cases hy
    simp [aFold] at h; subst h
    exact ⟨xv, by simp, hx⟩
  | cons y ys ih =>
    intro yvs x xv v hx hy h
    cases hy with
    | cons _ yv _ yvs h1 h2 =>
      simp only [aFold] at h
      cases hz : f x y with
      | none => rw [hz] at h; cases h
      | some z =>
        rw [hz] at h
        obtain ⟨zv, e1, r1⟩ := hf hx h1 hz
        obtain ⟨u, e2, r2⟩ := ih r1 h2 h
        exact ⟨u, by simp [List.foldlM_cons, e1, e2], r2⟩

/-! parts of strings and slices -/

theorem low_sound {lo : Option AV} {lv : Option Value} {h : Nat} {l : Int} (hr : match lo, lv with | none, none => True | some a, some b => VR g n a b | _, _ => False) (hl : lowOf lo = some l) (h0 : 0 ≤ l) (h1 : l ≤ h) (c : BoundsCode) :
    (match lv with | some v => Instr.sliceBound v h c | none => pure 0 : Sem Nat).run P w = .ok l.toNat w := by
  unfold lowOf at hl
  split at hl
  · cases lv with
    | none => cases hl; simp
    | some _ => exact hr.elim
  · cases lv with
    | none => exact hr.elim
    | some v =>
      cases hr; cases hl
      simp [Instr.sliceBound, asIntOf, h0, h1]
  · cases hl
theorem high_sound {hi : Option AV} {hv : Option Value} {len y : Nat} {h : Int} (hr : match hi, hv with | none, none => True | some a, some b => VR g n a b | _, _ => False) (hh : highOf len hi = some h) (h0 : 0 ≤ h) (h1 : h ≤ len) (hy : len ≤ y) (c : BoundsCode) :
    (match hv with | some v => Instr.sliceBound v y c | none => pure len : Sem Nat).run P w = .ok h.toNat w := by
  unfold highOf at hh
  split at hh
  · cases hv with
    | none => cases hh; simp
    | some _ => exact hr.elim
  · cases hv with
    | none => exact hr.elim
    | some v =>
      cases hr; cases hh
      simp [Instr.sliceBound, asIntOf, h0, show h ≤ (y : Int) by omega]
  · cases hh

theorem bounds_sound (isS : Bool) {lo hi : Option AV} {lv hv : Option Value} {len cap : Nat} {l h : Int} (hc : len ≤ cap)
    (h1 : match lo, lv with | none, none => True | some a, some b => VR g n a b | _, _ => False) (h2 : match hi, hv with | none, none => True | some a, some b => VR g n a b | _, _ => False)
    (hl : lowOf lo = some l) (hh : highOf len hi = some h) (b0 : 0 ≤ l) (b1 : l ≤ h) (b2 : h ≤ len) :
    (Instr.sliceBounds isS len cap lv hv none).run P w = .ok (l.toNat, h.toNat, cap) w := by
  have e1 := high_sound (P := P) w h2 hh (by omega) b2 hc (if isS then .sliceAcap else .sliceAlen)
  have e2 := low_sound (P := P) (h := h.toNat) w h1 hl b0 (by omega) .sliceB
  unfold Instr.sliceBounds
  cases hv <;> cases lv <;> simp_all

end Go.Proofs.YtooogfnmhfocjaaGreatDoor.Spl
